/- Bytes in a row of their own: []byte(s), a byte stored, string(t). -/
import Derived.Test.YtoaegleieacokaaKnown9
namespace Go.Proofs.Ytoaegleieacokaa
open Go.RowKit Go.Shelf

structure BytesAt (W : World) (B : Nat) (l : List UInt8) : Prop where
  lt : B < W.heap.size
  cell : ∀ j (h : j < l.length), W.cell? ⟨B, j, none⟩ = some (.int .u8 (l[j].toNat : Int))
  free : ∀ j, j < l.length → W.frozen? ⟨B, j, none⟩ = false
theorem BytesAt.below {W W' : World} {m B : Nat} {l : List UInt8} (h : BytesAt W B l) (hb : Below m W W') (hm : B < m) : BytesAt W' B l := by
  have hg := hb.block B hm
  refine ⟨Nat.lt_of_lt_of_le h.lt hb.size, fun j hj => (World.cell?_of_block hg).trans (h.cell j hj), fun j hj => ?_⟩
  rw [← h.free j hj]
  unfold World.frozen?
  simp only [hg]
theorem BytesAt.set {W : World} {B : Nat} {l : List UInt8} (h : BytesAt W B l) (k : Nat) (hk : k < l.length) (v : UInt8) : BytesAt (W.setCell ⟨B, k, none⟩ (.int .u8 (v.toNat : Int))) B (l.set k v) := by
  refine ⟨by simpa using h.lt, fun j hj => ?_, fun j hj => by rw [World.frozen?_setCell]; exact h.free j (by simpa using hj)⟩
  have hj' : j < l.length := by simpa using hj
  by_cases e : j = k
  · subst e
    rw [World.cell?_setCell_same _ _ _ (h.cell j hj')]
    simp
  · have hne : (⟨B, k, none⟩ : Addr) ≠ ⟨B, j, none⟩ := fun e2 => e (by injection e2 with _ h2; exact h2.symm)
    rw [World.cell?_setCell_other _ _ _ _ hne, h.cell j hj', List.getElem_set_ne (fun e2 => e e2.symm)]
theorem BytesAt.drew {W : World} {B : Nat} {l : List UInt8} (h : BytesAt W B l) : BytesAt W.drew B l := ⟨h.lt, h.cell, h.free⟩
/-- []byte(s): a new row. -/
theorem new_bytes (w : World) (l : List UInt8) : ∃ W' cap, (convert 9 29 (.string ⟨l.toArray⟩)).run Try.prog w = .ok (.slice (some ⟨w.heap.size, 0, none⟩) l.length cap) W' ∧ Below w.heap.size w W' ∧ BytesAt W' w.heap.size l := by
  have hsz : (⟨l.toArray⟩ : ByteArray).size = l.length := by simp [ByteArray.size]
  have hr := run_bytes_of_string (P := Try.prog) w 9 29 5 ⟨l.toArray⟩ Try.underlying9 Try.underlying29 Try.underlying5
  rw [hsz] at hr
  refine ⟨_, _, hr, ((Below.refl _ w).drew).alloc (Nat.le_refl _) _, by rw [World.size_alloc]; exact Nat.lt_succ_self _, fun j hj => ?_, fun j hj => ?_⟩
  · have := World.cell?_alloc_mark w.drew (bytesRow ⟨l.toArray⟩ (grownCap w l.length 0 5)) 5 ((bytesRow ⟨l.toArray⟩ (grownCap w l.length 0 5)).size, (bytesRow ⟨l.toArray⟩ (grownCap w l.length 0 5)).size + 1) j
    refine this.trans ((bytesRow_at ⟨l.toArray⟩ _ j (by simpa using hj)).trans ?_)
    simp
  · have h2 := World.frozen?_alloc_mark w.drew (bytesRow ⟨l.toArray⟩ (grownCap w l.length 0 5)) 5 (bytesRow ⟨l.toArray⟩ (grownCap w l.length 0 5)).size ((bytesRow ⟨l.toArray⟩ (grownCap w l.length 0 5)).size + 1) j
    refine h2.trans ?_
    have h3 := bytesRow_at ⟨l.toArray⟩ (grownCap w l.length 0 5) j (by simpa using hj)
    have := (Array.getElem?_eq_some_iff.1 h3).1
    simp
    intro h
    omega
/-- string(t). -/
theorem back_bytes {W : World} {B : Nat} {l : List UInt8} (h : BytesAt W B l) (cap : Nat) : (convert 29 9 (.slice (some ⟨B, 0, none⟩) l.length cap)).run Try.prog W = .ok (.string ⟨l.toArray⟩) W :=
  run_convert_bytes_back W 29 9 5 ⟨B, 0, none⟩ cap l Try.underlying29 Try.underlying5 Try.underlying9 fun j hj => by
    have e : (⟨B, 0, none⟩ : Addr).add j = ⟨B, j, none⟩ := by
      unfold Addr.add
      by_cases e0 : j = 0
      · rw [if_pos e0, e0]
      · rw [if_neg e0, Nat.zero_add]
    rw [e]
    exact h.cell j hj
theorem xor8 (a b : UInt8) : bits .xor .u8 (a.toNat : Int) (b.toNat : Int) = ((a ^^^ b).toNat : Int) := by
  rw [u8_xor _ _ (by omega) (by have := a.toNat_lt; omega) (by omega) (by have := b.toNat_lt; omega)]
  rfl
theorem u8_of {a : Int} (h : (Lit.int .u8 a).wf = true) : ∃ b : UInt8, a = (b.toNat : Int) := by
  obtain ⟨h0, h1⟩ := wf_u8 h
  refine ⟨UInt8.ofNat a.toNat, ?_⟩
  simp
  omega
end Go.Proofs.Ytoaegleieacokaa
