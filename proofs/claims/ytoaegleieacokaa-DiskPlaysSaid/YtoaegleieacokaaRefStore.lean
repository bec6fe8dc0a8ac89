/- The reference's disk: a file's field stored in its place; Sync, Append, Cut. -/
import Derived.Test.YtoaegleieacokaaRefActs
namespace Go.Proofs.Ytoaegleieacokaa
open Go.RowKit Go.Shelf

theorem filesCells_b : ∀ (l : List (ByteArray × F)) (i : Nat) (h : i < l.length) (b : ByteArray), (filesCells l).set (i * 3 + 1) (.string b) = filesCells (l.set i (l[i].1, ⟨b, l[i].2.k⟩))
  | [], _, h, _ => by simp at h
  | x :: l, 0, _, b => by simp [filesCells, fileCells]
  | x :: l, i + 1, h, b => by
    have ih := filesCells_b l i (by simpa using h) b
    simp only [filesCells, List.flatMap_cons, List.set_cons_succ, List.getElem_cons_succ] at ih ⊢
    rw [← ih, List.set_append_right _ _ (by simp [fileCells]; omega)]
    congr 2
    simp [fileCells]
    omega
theorem filesCells_k : ∀ (l : List (ByteArray × F)) (i : Nat) (h : i < l.length) (k : Int), (filesCells l).set (i * 3 + 2) (.int .i64 k) = filesCells (l.set i (l[i].1, ⟨l[i].2.b, k⟩))
  | [], _, h, _ => by simp at h
  | x :: l, 0, _, k => by simp [filesCells, fileCells]
  | x :: l, i + 1, h, k => by
    have ih := filesCells_k l i (by simpa using h) k
    simp only [filesCells, List.flatMap_cons, List.set_cons_succ, List.getElem_cons_succ] at ih ⊢
    rw [← ih, List.set_append_right _ _ (by simp [fileCells]; omega)]
    congr 2
    simp [fileCells]
    omega
theorem RefAt.row {n : Nat} {X : List Nat} {w : World} {R : Nat} {v : Value} {s : DS} (h : RefAt n X w R v s) (hl : 0 < s.l.length) : ∃ g c, v = .slice (some ⟨g, 0, none⟩) s.l.length c := by
  obtain ⟨m, hm⟩ : ∃ m, s.l.length = m + 1 := ⟨s.l.length - 1, by omega⟩
  have ho := h.own
  rw [hm] at ho ⊢
  exact ownsRow_succ ho
theorem RefAt.put {n : Nat} {X : List Nat} {w : World} {R g c : Nat} {s s' : DS} {m : Nat} (h : RefAt n X w R (.slice (some ⟨g, 0, none⟩) m c) s) (hm : s.l.length = m) (j : Nat) (u : Value)
    (hs : s'.room = s.room ∧ s'.steps = s.steps ∧ s'.left = s.left) (hl : s'.l.length = s.l.length) (hc : (filesCells s.l).set j u = filesCells s'.l) :
    RefAt n X (w.setCell ⟨g, j, none⟩ u) R (.slice (some ⟨g, 0, none⟩) m c) s' ∧ Kp n X w (w.setCell ⟨g, j, none⟩ u) := by
  subst hm
  have hgR : g ≠ R := fun e => h.ne (by simp [Value.ownBlock, e])
  have hst := (h.own.stored j u).1
  rw [hc] at hst
  obtain ⟨s1, s2, s3⟩ := hs
  refine ⟨⟨?_, by rw [hl]; exact hst, h.hR, h.ne, h.RX, h.vX⟩, ?_⟩
  · rw [s1, s2, s3]
    exact h.blk.other (p := ⟨g, j, none⟩) (fun e => hgR e.symm) u
  · exact (Kp.refl n X w).set (h.own.lt g rfl).1 (fun hx => h.vX g hx rfl) j u
theorem RefAt.size {n : Nat} {X : List Nat} {w : World} {R : Nat} {v : Value} {s : DS} (h : RefAt n X w R v s) : n ≤ w.heap.size := Nat.le_trans h.hR (Nat.le_of_lt h.blk.lt)
theorem atI_at {l : List (ByteArray × F)} {nm : ByteArray} (h : ¬ atI l nm < 0) : ∃ i : Nat, atI l nm = (i : Int) ∧ ∃ hi : i < l.length, l[i].1 = nm := by
  unfold atI at h ⊢
  by_cases hx : ix l nm < l.length
  · rw [if_pos hx] at h ⊢
    refine ⟨ix l nm, rfl, hx, ?_⟩
    have := List.findIdx_getElem (w := hx)
    exact of_decide_eq_true this
  · rw [if_neg hx] at h
    omega
def fileI (l : List (ByteArray × F)) (nm : ByteArray) : F := ((l[(atI l nm).toNat]?).map (·.2)).getD ⟨⟨#[]⟩, 0⟩
def DS.rput (s : DS) (nm : ByteArray) (f : F) : DS := { s with l := s.l.set (atI s.l nm).toNat (nm, f) }
def DS.rsync (s : DS) (nm : ByteArray) : Int × DS :=
  if s.left = 0 then (18, s) else if atI s.l nm < 0 then (19, s) else (0, (s.rput nm ⟨(fileI s.l nm).b, (fileI s.l nm).b.size⟩).counted)
set_option maxRecDepth 100000 in
set_option maxHeartbeats 1000000 in
theorem rsync_calls {n : Nat} {X : List Nat} {R : Nat} {v : Value} {s : DS} (hst : 0 ≤ s.steps ∧ s.steps < 4611686018427387904) (hl : s.left ≤ 9223372036854775807) (hlen : s.l.length ≤ 1000000) (nm : ByteArray) (w : World) (h : RefAt n X w R v s) :
    Calls Try.prog 93 #[.pointer (some ⟨R, 0, none⟩), .string nm] w fun e w' => e = .returned (.int .i64 (s.rsync nm).1) ∧ ∃ v', RefAt n X w' R v' (s.rsync nm).2 ∧ Kp n X w w' := by
  have d3 : w.cell? ⟨R, 3, none⟩ = some (.int .i64 s.left) := h.blk.cell 3
  have d1 : w.cell? ⟨R, 1, none⟩ = some v := h.blk.cell 1
  have hat := rat_calls hlen nm w h
  have hE : s.rsync nm = if s.left = 0 then (18, s) else if atI s.l nm < 0 then (19, s) else (0, (s.rput nm ⟨(fileI s.l nm).b, (fileI s.l nm).b.size⟩).counted) := rfl
  have HE := Lib.hid hE
  clear hE
  go_enter Try.func93, Try.ntmps93
  by_cases h0 : s.left = 0
  · have hb : (s.left == 0) = true := by simp [h0]
    go_wp2_with fail
    refine hat.mono ?_
    clear hat
    rintro e w1 ⟨rfl, rfl⟩
    go_wp2
    go_ret
    rw [HE.out, if_pos h0]
    refine ⟨rfl, ?_⟩; first | exact ⟨_, h, Kp.refl _ _ _⟩ | exact ⟨⟨_, h⟩, Kp.refl _ _ _⟩
  have hb : (s.left == 0) = false := by simp [h0]
  by_cases h1 : atI s.l nm < 0
  · go_wp2_with fail
    refine hat.mono ?_
    clear hat
    rintro e w1 ⟨rfl, rfl⟩
    go_wp2
    go_ret
    rw [HE.out, if_neg h0, if_pos h1]
    refine ⟨rfl, ?_⟩; first | exact ⟨_, h, Kp.refl _ _ _⟩ | exact ⟨⟨_, h⟩, Kp.refl _ _ _⟩
  rw [if_neg h0, if_neg h1] at HE
  obtain ⟨i, hi, hil, hnm⟩ := atI_at h1
  obtain ⟨g, c, rfl⟩ := h.row (by omega)
  have c0 := h.own.cellAt (i * 3 + 1) (by omega)
  rw [filesCells_get s.l i 1 hil (by omega)] at c0
  have c1 := h.own.cellAt (i * 3 + 2) (by omega)
  rw [filesCells_get s.l i 2 hil (by omega)] at c1
  have f1 := h.own.frozenAt (i * 3 + 2)
  simp only [fileCells, List.getElem?_cons_succ, List.getElem?_cons_zero] at c0 c1
  have hfi : fileI s.l nm = s.l[i].2 := by simp [fileI, hi, hil]
  have hrp : s.rput nm ⟨(fileI s.l nm).b, (fileI s.l nm).b.size⟩ = { s with l := s.l.set i (s.l[i].1, ⟨s.l[i].2.b, s.l[i].2.b.size⟩) } := by unfold DS.rput; rw [hfi, hi, hnm]; rfl
  obtain ⟨p1, p2⟩ := h.put (s' := { s with l := s.l.set i (s.l[i].1, ⟨s.l[i].2.b, s.l[i].2.b.size⟩) }) rfl (i * 3 + 2) (.int .i64 s.l[i].2.b.size) ⟨rfl, rfl, rfl⟩ (by simp) (filesCells_k s.l i hil _)
  rw [← hrp] at p1
  rw [hi] at hat
  have P1 := Lib.hid p1
  have P2 := Lib.hid p2
  clear p1 p2 hrp hfi h1 hnm
  generalize s.l[i].2.b = B at *
  generalize s.l[i].2.k = K at *
  go_wp2_with fail
  refine hat.mono ?_
  clear hat
  rintro e w1 ⟨rfl, rfl⟩
  go_wp2
  go_region
  have hBd := (Below.refl (w1.setCell ⟨g, i * 3 + 2, none⟩ (.int .i64 (B.size : Int))).heap.size (w1.setCell ⟨g, i * 3 + 2, none⟩ (.int .i64 (B.size : Int)))).drew
  have P3 := P1.out.next hBd
  have P4 := P2.out.trans (Kp.of_below (X := X) hBd (Nat.le_trans h.size P2.out.below.size) (Nat.le_refl _))
  clear P1 P2 hBd c0 c1 f1 d1 d3
  generalize (w1.setCell ⟨g, i * 3 + 2, none⟩ (.int .i64 (B.size : Int))).drew = w2 at *
  have hstep := rstep_calls (s := s.rput nm ⟨(fileI s.l nm).b, (fileI s.l nm).b.size⟩) hst hl w2 P3
  go_wp2_with fail
  refine hstep.mono ?_
  clear hstep
  rintro e w3 ⟨⟨u, rfl⟩, h3, k3⟩
  go_wp2
  go_ret
  rw [HE.out]
  refine ⟨rfl, ?_⟩; first | exact ⟨_, h3, P4.trans k3⟩ | exact ⟨⟨_, h3⟩, P4.trans k3⟩
end Go.Proofs.Ytoaegleieacokaa
