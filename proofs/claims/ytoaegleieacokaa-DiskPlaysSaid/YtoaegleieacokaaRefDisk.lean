/- The reference's disk: New, At, Used, step, gone, add. -/
import Derived.Test.YtoaegleieacokaaFitCrash
import Derived.Test.YtoaegleieacokaaSheetIs
namespace Go.Proofs.Ytoaegleieacokaa
open Go.RowKit Go.Shelf

/-- The reference's disk lies in block R; its files are a row of its own; none of the blocks X is it. -/
structure RefAt (n : Nat) (X : List Nat) (W : World) (R : Nat) (v : Value) (s : DS) : Prop where
  blk : Blk W R 130 #[.int .i64 s.room, v, .int .i64 s.steps, .int .i64 s.left]
  own : W.ownsRow n 65 3 v s.l.length (filesCells s.l)
  hR : n ≤ R
  ne : v.ownBlock ≠ some R
  RX : R ∉ X
  vX : ∀ b ∈ X, v.ownBlock ≠ some b
/-- Nothing below n is turned, nor the blocks X. -/
structure Kp (n : Nat) (X : List Nat) (w w' : World) : Prop where
  below : Below n w w'
  keep : ∀ b ∈ X, b < w.heap.size → w'.heap[b]? = w.heap[b]?
theorem Kp.refl (n : Nat) (X : List Nat) (w : World) : Kp n X w w := ⟨Below.refl _ _, fun _ _ _ => rfl⟩
theorem Kp.trans {n : Nat} {X : List Nat} {a b c : World} (h : Kp n X a b) (g : Kp n X b c) : Kp n X a c := ⟨h.below.trans g.below, fun x hx hl => (g.keep x hx (Nat.lt_of_lt_of_le hl h.below.size)).trans (h.keep x hx hl)⟩
theorem Kp.of_below {n m : Nat} {X : List Nat} {w w' : World} (h : Below m w w') (hm : n ≤ m) (hX : w.heap.size ≤ m) : Kp n X w w' := ⟨h.mono hm, fun b _ hl => h.block b (Nat.lt_of_lt_of_le hl hX)⟩
theorem RefAt.next {n : Nat} {X : List Nat} {W W' : World} {R : Nat} {v : Value} {s : DS} (h : RefAt n X W R v s) (hb : Below W.heap.size W W') : RefAt n X W' R v s :=
  ⟨h.blk.below hb h.blk.lt, owns_below h.own hb, h.hR, h.ne, h.RX, h.vX⟩
def ix (l : List (ByteArray × F)) (nm : ByteArray) : Nat := l.findIdx fun p => decide (p.1 = nm)
def atI (l : List (ByteArray × F)) (nm : ByteArray) : Int := if ix l nm < l.length then (ix l nm : Int) else -1
theorem str_eqb (x y : ByteArray) : (x.toList == y.toList) = decide (x = y) := by
  rw [ByteArray.toList_eq, ByteArray.toList_eq]
  by_cases h : x = y
  · subst h; simp
  · rw [decide_eq_false h, beq_eq_false_iff_ne]
    exact fun e => h (WideShapes.bytes_inj e)
theorem ix_end {l : List (ByteArray × F)} {nm : ByteArray} (h : ∀ j (hj : j < l.length), l[j].1 ≠ nm) : atI l nm = -1 := by
  unfold atI ix
  rw [if_neg]
  rw [List.findIdx_lt_length]
  rintro ⟨p, hp, he⟩
  obtain ⟨j, hj, rfl⟩ := List.getElem_of_mem hp
  exact h j hj (by simpa using he)
theorem ix_here {l : List (ByteArray × F)} {nm : ByteArray} {k : Nat} (hk : k < l.length) (hno : ∀ j (hj : j < l.length), j < k → l[j].1 ≠ nm) (he : l[k].1 = nm) : atI l nm = (k : Int) := by
  have : ix l nm = k := by
    unfold ix
    rw [List.findIdx_eq hk]
    exact ⟨by simpa using he, fun j hj => by simpa using hno j (by omega) hj⟩
  unfold atI
  rw [this, if_pos hk]
set_option maxRecDepth 100000 in
set_option maxHeartbeats 1000000 in
theorem rat_calls {n : Nat} {X : List Nat} {R : Nat} {v : Value} {s : DS} (hlen : s.l.length ≤ 1000000) (nm : ByteArray) (w : World) (h : RefAt n X w R v s) :
    Calls Try.prog 88 #[.pointer (some ⟨R, 0, none⟩), .string nm] w fun e w' => e = .returned (.int .i64 (atI s.l nm)) ∧ w' = w := by
  have hc1 : w.cell? ⟨R, 1, none⟩ = some v := h.blk.cell 1
  have rd := Rd.of_owns h.own
  obtain ⟨a, c, rfl⟩ := Rd.val rd
  go_enter Try.func88, Try.ntmps88
  go_wp2_with fail
  go_loopw [5] (fun i wr => ∃ k : Nat, k ≤ s.l.length ∧ i = .int .i64 k ∧ wr = w ∧ ∀ j (hj : j < s.l.length), j < k → s.l[j].1 ≠ nm) (fun i _ => s.l.length - (intOf i).toNat)
  case atStart => exact ⟨0, Nat.zero_le _, rfl, rfl, fun j _ hj => by omega⟩
  case round =>
    obtain ⟨k, hk, rfl, rfl, hno⟩ := hrel
    by_cases hlt : k < s.l.length
    · obtain ⟨b, off, rfl, hb, hcp, hcs⟩ := rd.at (by omega)
      have d0 : wr.cell? ⟨b, off + k * 3, none⟩ = some (.string s.l[k].1) := by
        have := hcs (k * 3) (by omega)
        have e := filesCells_get s.l k 0 hlt (by omega)
        rw [Nat.add_zero] at e
        rw [this, e]
        rfl
      have hhere := fun he => ix_here hlt hno he
      have hnext : s.l[k].1 ≠ nm → ∀ j (hj : j < s.l.length), j < k + 1 → s.l[j].1 ≠ nm := fun he j hj hjk => by
        by_cases e : j = k
        · subst e; exact he
        · exact hno j hj (by omega)
      have HH := Lib.hid hhere
      have HN := Lib.hid hnext
      clear hhere hnext hno rd hcs
      generalize hx : s.l[k].1 = x at *
      by_cases he : x = nm
      · have H := Lib.hid (HH.out he)
        clear HH HN
        have hne : (x.toList == nm.toList) = true := by rw [str_eqb, decide_eq_true he]
        clear he
        go_wp2
        go_ret
        exact ⟨by rw [H.out]; rfl, rfl⟩
      · have hne : (x.toList == nm.toList) = false := by rw [str_eqb, decide_eq_false he]
        replace HN := Lib.hid (HN.out he)
        clear he HH
        go_wp2
        go_roundw
        case rel => exact ⟨k + 1, by omega, by simp, trivial, HN.out⟩
        case measure => simp [intOf]; omega
    · obtain rfl : k = s.l.length := by omega
      have hend := ix_end (l := s.l) (nm := nm) (fun j hj => hno j hj hj)
      have HE := Lib.hid hend
      clear hend
      go_wp2
      go_ret
      exact ⟨by rw [HE.out]; rfl, rfl⟩
end Go.Proofs.Ytoaegleieacokaa
