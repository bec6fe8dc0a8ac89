/- The reference's disk: Crash. -/
import Derived.Test.YtoaegleieacokaaRefCut
namespace Go.Proofs.Ytoaegleieacokaa
open Go.RowKit Go.Shelf

/-- The first k files, crashed. -/
def crUp (keep : Int) (k : Nat) (l : List (ByteArray × F)) : List (ByteArray × F) := l.mapIdx fun i p => if i < k then (p.1, crashF keep i p.2) else p
theorem crUp_len (keep : Int) (k : Nat) (l : List (ByteArray × F)) : (crUp keep k l).length = l.length := by simp [crUp]
theorem crUp_zero (keep : Int) (l : List (ByteArray × F)) : crUp keep 0 l = l := by
  unfold crUp
  apply List.ext_getElem
  · simp
  · intro i h1 h2
    simp
theorem crUp_at (keep : Int) (k : Nat) (l : List (ByteArray × F)) (h : k < (crUp keep k l).length) : (crUp keep k l)[k] = l[k]'(by rw [crUp_len] at h; exact h) := by simp [crUp]
theorem crUp_succ (keep : Int) (k : Nat) (l : List (ByteArray × F)) (h : k < l.length) : crUp keep (k + 1) l = (crUp keep k l).set k (l[k].1, crashF keep k l[k].2) := by
  apply List.ext_getElem
  · simp [crUp]
  · intro i h1 h2
    by_cases e : i = k
    · subst e
      simp [crUp]
    · rw [List.getElem_set_ne (fun e2 => e e2.symm)]
      have : i < k + 1 ↔ i < k := by omega
      simp [crUp, this]
set_option maxRecDepth 100000 in
set_option maxHeartbeats 2000000 in
theorem rcrash_calls {n : Nat} {X : List Nat} {R : Nat} {v : Value} {s : DS} (hlen : s.l.length ≤ 1000000) (hok : ∀ p ∈ s.l, FOk p.2) (keep : Int) (hk0 : 0 ≤ keep) (hk1 : keep < 18446744073709551616) (w : World) (h : RefAt n X w R v s) :
    Calls Try.prog 98 #[.pointer (some ⟨R, 0, none⟩), .int .u64 keep] w fun e w' => (∃ u, e = .returned u) ∧ RefAt n X w' R v { s with l := crUp keep s.l.length s.l, left := -1 } ∧ Kp n X w w' := by
  obtain ⟨a, c, rfl⟩ := Rd.val (Rd.of_owns h.own)
  go_enter Try.func98, Try.ntmps98
  go_wp2_with fail
  go_loopw [4] (fun i wr => ∃ k : Nat, k ≤ s.l.length ∧ i = .int .i64 k ∧ RefAt n X wr R (.slice a s.l.length c) { s with l := crUp keep k s.l } ∧ Kp n X w wr) (fun i _ => s.l.length - (intOf i).toNat)
  case atStart => exact ⟨0, Nat.zero_le _, rfl, by rw [crUp_zero]; exact h, Kp.refl _ _ _⟩
  case round =>
    obtain ⟨k, hk, rfl, h1, hK⟩ := hrel
    have d1 : wr.cell? ⟨R, 1, none⟩ = some (.slice a s.l.length c) := h1.blk.cell 1
    have d3 : wr.cell? ⟨R, 3, none⟩ = some (.int .i64 s.left) := h1.blk.cell 3
    have f3 := h1.blk.frozen 3
    by_cases hlt : k < s.l.length
    · have hlk : k < (crUp keep k s.l).length := by rw [crUp_len]; exact hlt
      have hat := crUp_at keep k s.l hlk
      have ho := h1.own
      simp only [crUp_len] at ho
      obtain ⟨m, hm⟩ : ∃ m, s.l.length = m + 1 := ⟨s.l.length - 1, by omega⟩
      obtain ⟨g, hga⟩ : ∃ g, a = some ⟨g, 0, none⟩ := by
        rw [hm] at ho
        obtain ⟨g, c', e⟩ := ownsRow_succ ho
        cases e
        exact ⟨g, rfl⟩
      subst hga
      clear hm
      have c0 := ho.cellAt (k * 3 + 0) (by omega)
      rw [filesCells_get _ k 0 hlk (by omega)] at c0
      have c1 := ho.cellAt (k * 3 + 1) (by omega)
      rw [filesCells_get _ k 1 hlk (by omega)] at c1
      have c2 := ho.cellAt (k * 3 + 2) (by omega)
      rw [filesCells_get _ k 2 hlk (by omega)] at c2
      have g1 := ho.frozenAt (k * 3 + 1)
      have g2 := ho.frozenAt (k * 3 + 2)
      simp only [fileCells, List.getElem?_cons_succ, List.getElem?_cons_zero, Nat.add_zero, hat] at c0 c1 c2
      obtain ⟨o1, o2, o3⟩ := hok _ (List.getElem_mem hlt)
      have hsc := crUp_succ keep k s.l hlt
      have HSC := Lib.hid hsc
      have HAT := Lib.hid hat
      clear hsc hat
      obtain ⟨b0, b1⟩ := crashK_le keep hk0 hk1 k
      generalize s.l[k] = p at *
      have hkk : bits .and .u64 (keep / 2 ^ (8 * (k % 8))) 255 = crashK keep k := by unfold crashK; rw [Nat.mul_comm]
      have hsi := crashSize_in o1 o2 keep hk0 hk1 k
      have hcf : crashF keep k p.2 = ⟨p.2.b.extract 0 (crashSize keep k p.2).toNat, crashSize keep k p.2⟩ := rfl
      obtain ⟨E, hE⟩ : ∃ E : Nat, crashSize keep k p.2 = (E : Int) := ⟨(crashSize keep k p.2).toNat, by omega⟩
      have hcs : crashSize keep k p.2 = p.2.k + (((p.2.b.size : Int) - p.2.k) * crashK keep k).tdiv 255 := rfl
      obtain ⟨z1, z2, z3⟩ := size_fits p.2 (crashK keep k) o1 o2 o3 b0 b1
      have z0 := wrap_small b0 (Int.le_trans b1 (by decide))
      rw [hE] at hsi hcf hcs
      rw [Int.toNat_natCast] at hcf
      rw [← hcs] at z3
      have HCF := Lib.hid hcf
      have hEs : E ≤ p.2.b.size := Int.ofNat_le.1 hsi.2
      have hcs' := hcs.symm
      clear hcs hcf hE hsi b0 b1
      generalize crashK keep k = kk at *
      have hBa : Below wr.heap.size wr (wr.alloc (.cells #[.string p.1, .string p.2.b, .int .i64 p.2.k] 65)) := (Below.refl _ wr).alloc (Nat.le_refl _) _
      have hgw := (ho.lt g rfl).2
      have hRw := h1.blk.lt
      have bF := Blk.new wr 65 #[.string p.1, .string p.2.b, .int .i64 p.2.k]
      have e1 : (wr.alloc (.cells #[.string p.1, .string p.2.b, .int .i64 p.2.k] 65)).cell? ⟨wr.heap.size, 1, none⟩ = some (.string p.2.b) := bF.cell 1
      have e2 := (hBa.cell (p := ⟨R, 1, none⟩) hRw).trans d1
      have e3 := (hBa.cell (p := ⟨g, k * 3 + 1, none⟩) hgw).trans c1
      have e4 := (hBa.cell (p := ⟨g, k * 3 + 2, none⟩) hgw).trans c2
      have hN := h1.next hBa
      have hk2 := hN.own
      simp only [crUp_len] at hk2
      have e5 := hk2.frozenAt (k * 3 + 1)
      have e6 := hk2.frozenAt (k * 3 + 2)
      have hKa : Kp n X wr (wr.alloc (.cells #[.string p.1, .string p.2.b, .int .i64 p.2.k] 65)) := Kp.of_below hBa h1.size (Nat.le_refl _)
      go_wp2_with fail
      clear c0 c1 c2 g1 g2 ho bF hBa hk2 d1 d3 f3 z0 z1 z2 z3 hkk hcs' h1
      generalize hFb : wr.heap.size = Fb at *
      generalize wr.alloc (.cells #[.string p.1, .string p.2.b, .int .i64 p.2.k] 65) = w2 at *
      go_region
      have hpt := hN.put (s' := { s with l := (crUp keep k s.l).set k (p.1, ⟨p.2.b.extract 0 E, p.2.k⟩) }) (crUp_len _ _ _) (k * 3 + 1) (.string (p.2.b.extract 0 E)) ⟨rfl, rfl, rfl⟩ (by simp) (by have := filesCells_b _ k hlk (p.2.b.extract 0 E); rw [HAT.out] at this; exact this)
      obtain ⟨p1, p2⟩ := hpt
      have hlk2 : k < ((crUp keep k s.l).set k (p.1, (⟨p.2.b.extract 0 E, p.2.k⟩ : F))).length := by rw [List.length_set]; exact hlk
      have hfk := filesCells_k _ k hlk2 (E : Int)
      simp only [List.getElem_set_self, List.set_set] at hfk
      obtain ⟨p3, p4⟩ := p1.put (s' := { s with l := (crUp keep k s.l).set k (p.1, ⟨p.2.b.extract 0 E, (E : Int)⟩) }) (by rw [List.length_set]; exact crUp_len _ _ _) (k * 3 + 2) (.int .i64 (E : Int)) ⟨rfl, rfl, rfl⟩ (by simp) hfk
      have hBd := (Below.refl ((w2.setCell ⟨g, k * 3 + 1, none⟩ (.string (p.2.b.extract 0 E))).setCell ⟨g, k * 3 + 2, none⟩ (.int .i64 (E : Int))).heap.size ((w2.setCell ⟨g, k * 3 + 1, none⟩ (.string (p.2.b.extract 0 E))).setCell ⟨g, k * 3 + 2, none⟩ (.int .i64 (E : Int)))).drew
      have P3 := p3.next hBd
      have P4 := ((hK.trans hKa).trans (p2.trans p4)).trans (Kp.of_below (X := X) hBd p3.size (Nat.le_refl _))
      rw [← HCF.out, ← HSC.out] at P3
      clear p1 p2 p3 p4 hBd hfk e1 e2 e3 e4 e5 e6 hN hKa hK
      generalize ((w2.setCell ⟨g, k * 3 + 1, none⟩ (.string (p.2.b.extract 0 E))).setCell ⟨g, k * 3 + 2, none⟩ (.int .i64 (E : Int))).drew = w4 at *
      go_wp2
      go_roundw
      case rel => exact ⟨k + 1, by omega, by simp, P3, P4⟩
      case measure => simp [intOf]; omega
    · obtain rfl : k = s.l.length := by omega
      have hfl : RefAt n X (wr.setCell ⟨R, 3, none⟩ (.int .i64 (-1))) R (.slice a s.l.length c) { s with l := crUp keep s.l.length s.l, left := -1 } := h1.fld 3 _ rfl rfl
      have hKf := hK.set h.hR h.RX 3 (.int .i64 (-1))
      go_wp2
      go_end0
      exact ⟨⟨_, rfl⟩, hfl, hKf⟩
end Go.Proofs.Ytoaegleieacokaa
