/- The reference's disk: Append. -/
import Derived.Test.YtoaegleieacokaaRefStore
namespace Go.Proofs.Ytoaegleieacokaa
open Go.RowKit Go.Shelf

def DS.rappend (s : DS) (nm b : ByteArray) : Int × DS :=
  if s.left = 0 then (18, s) else if atI s.l nm < 0 then (19, s) else if s.room < (used s.l : Int) + (b.size : Int) then (17, s) else (0, (s.rput nm ⟨(fileI s.l nm).b ++ b, (fileI s.l nm).k⟩).counted)
theorem RefAt.drewN {n : Nat} {X : List Nat} {w : World} {R : Nat} {v : Value} {s : DS} (h : RefAt n X w R v s) (j : Nat) : RefAt n X (w.drewN j) R v s := h.next (below_drewN (Below.refl _ w) j)
set_option maxRecDepth 100000 in
set_option maxHeartbeats 1000000 in
theorem rappend_calls {n : Nat} {X : List Nat} {R : Nat} {v : Value} {s : DS} (hst : 0 ≤ s.steps ∧ s.steps < 4611686018427387904) (hl : s.left ≤ 9223372036854775807) (hlen : s.l.length ≤ 1000000) (nm b : ByteArray) (hr : 0 ≤ s.room ∧ s.room ≤ 1000000) (hu : used s.l ≤ 4611686018427387904) (hbs : b.size ≤ 1099511627776) (w : World) (h : RefAt n X w R v s) :
    Calls Try.prog 92 #[.pointer (some ⟨R, 0, none⟩), .string nm, .string b] w fun e w' => e = .returned (.int .i64 (s.rappend nm b).1) ∧ ∃ v', RefAt n X w' R v' (s.rappend nm b).2 ∧ Kp n X w w' := by
  have d3 : w.cell? ⟨R, 3, none⟩ = some (.int .i64 s.left) := h.blk.cell 3
  have d1 : w.cell? ⟨R, 1, none⟩ = some v := h.blk.cell 1
  have hat := rat_calls hlen nm w h
  have d0 : w.cell? ⟨R, 0, none⟩ = some (.int .i64 s.room) := h.blk.cell 0
  have hE : s.rappend nm b = if s.left = 0 then (18, s) else if atI s.l nm < 0 then (19, s) else if s.room < (used s.l : Int) + (b.size : Int) then (17, s) else (0, (s.rput nm ⟨(fileI s.l nm).b ++ b, (fileI s.l nm).k⟩).counted) := rfl
  have HE := Lib.hid hE
  clear hE
  go_enter Try.func92, Try.ntmps92
  by_cases h0 : s.left = 0
  · have hb : (s.left == 0) = true := by simp [h0]
    go_wp2_with fail
    refine hat.mono ?_
    clear hat
    rintro e w1 ⟨rfl, rfl⟩
    go_wp2
    go_ret
    rw [HE.out, if_pos h0]
    refine ⟨rfl, ?_⟩; first | exact ⟨_, h, Kp.refl _ _ _⟩ | exact ⟨⟨_, h⟩, Kp.refl _ _ _⟩
  have hb : (s.left == 0) = false := by simp [h0]
  by_cases h1 : atI s.l nm < 0
  · go_wp2_with fail
    refine hat.mono ?_
    clear hat
    rintro e w1 ⟨rfl, rfl⟩
    go_wp2
    go_ret
    rw [HE.out, if_neg h0, if_pos h1]
    refine ⟨rfl, ?_⟩; first | exact ⟨_, h, Kp.refl _ _ _⟩ | exact ⟨⟨_, h⟩, Kp.refl _ _ _⟩
  rw [if_neg h0, if_neg h1] at HE
  by_cases h2 : s.room < (used s.l : Int) + (b.size : Int)
  · rw [if_pos h2] at HE
    go_wp2_with fail
    refine hat.mono ?_
    clear hat
    rintro e w1 ⟨rfl, rfl⟩
    go_wp2
    go_quiet ((go_at_call 100; exact Calls.quiet_of_same (rused_calls hlen hu _ (h.drewN _))))
    go_wp2
    go_ret
    rw [HE.out]
    have hk := Kp.of_below (X := X) (below_drewN (Below.refl w1.heap.size w1) nq) h.size (Nat.le_refl _)
    refine ⟨rfl, ?_⟩; first | exact ⟨_, h.drewN nq, hk⟩ | exact ⟨⟨_, h.drewN nq⟩, hk⟩
  rw [if_neg h2] at HE
  have h2' : ¬ s.room < (used s.l : Int) + (b.size : Int) := h2
  obtain ⟨i, hi, hil, hnm⟩ := atI_at h1
  obtain ⟨g, c, rfl⟩ := h.row (by omega)
  have c0 := h.own.cellAt (i * 3 + 1) (by omega)
  rw [filesCells_get s.l i 1 hil (by omega)] at c0
  have f1 := h.own.frozenAt (i * 3 + 1)
  simp only [fileCells, List.getElem?_cons_succ, List.getElem?_cons_zero] at c0
  have hfi : fileI s.l nm = s.l[i].2 := by simp [fileI, hi, hil]
  have hrp : s.rput nm ⟨(fileI s.l nm).b ++ b, (fileI s.l nm).k⟩ = { s with l := s.l.set i (s.l[i].1, ⟨s.l[i].2.b ++ b, s.l[i].2.k⟩) } := by unfold DS.rput; rw [hfi, hi, hnm]; rfl
  rw [hi] at hat
  go_wp2_with fail
  refine hat.mono ?_
  clear hat
  rintro e w1 ⟨rfl, rfl⟩
  go_wp2
  go_quiet ((go_at_call 100; exact Calls.quiet_of_same (rused_calls hlen hu _ (h.drewN _))))
  have hkq := Kp.of_below (X := X) (below_drewN (Below.refl w1.heap.size w1) nq) h.size (Nat.le_refl _)
  have hq := h.drewN nq
  have c0q : (w1.drewN nq).cell? ⟨g, i * 3 + 1, none⟩ = _ := c0
  have f1q : (w1.drewN nq).frozen? ⟨g, i * 3 + 1, none⟩ = _ := f1
  have d1q : (w1.drewN nq).cell? ⟨R, 1, none⟩ = _ := d1
  clear h c0 f1 d1 d3 d0
  generalize w1.drewN nq = w4 at *
  have hle : s.l[i].2.b.size ≤ used s.l := le_sum (List.mem_map.2 ⟨s.l[i], List.getElem_mem hil, rfl⟩)
  have hno : ¬ 9223372036854775807 < s.l[i].2.b.size + b.size := by omega
  clear hle
  obtain ⟨p1, p2⟩ := hq.put (s' := { s with l := s.l.set i (s.l[i].1, ⟨s.l[i].2.b ++ b, s.l[i].2.k⟩) }) rfl (i * 3 + 1) (.string (s.l[i].2.b ++ b)) ⟨rfl, rfl, rfl⟩ (by simp) (filesCells_b s.l i hil _)
  rw [← hrp] at p1
  have P1 := Lib.hid p1
  have P2 := Lib.hid p2
  clear p1 p2 hrp hfi h1 hnm
  generalize s.l[i].2.b = B at *
  generalize s.l[i].2.k = K at *
  go_wp2
  go_region
  have hBd := (Below.refl (w4.setCell ⟨g, i * 3 + 1, none⟩ (.string (B ++ b))).heap.size (w4.setCell ⟨g, i * 3 + 1, none⟩ (.string (B ++ b)))).drew
  have P3 := P1.out.next hBd
  have P4 := P2.out.trans (Kp.of_below (X := X) hBd (Nat.le_trans hq.size P2.out.below.size) (Nat.le_refl _))
  clear P1 P2 hBd
  generalize (w4.setCell ⟨g, i * 3 + 1, none⟩ (.string (B ++ b))).drew = w2 at *
  have hstep := rstep_calls (s := s.rput nm ⟨(fileI s.l nm).b ++ b, (fileI s.l nm).k⟩) hst hl w2 P3
  go_wp2_with fail
  refine hstep.mono ?_
  clear hstep
  rintro e w3 ⟨⟨u, rfl⟩, h3, k3⟩
  go_wp2
  go_ret
  rw [HE.out]
  refine ⟨rfl, ?_⟩; first | exact ⟨_, h3, (hkq.trans P4).trans k3⟩ | exact ⟨⟨_, h3⟩, (hkq.trans P4).trans k3⟩
end Go.Proofs.Ytoaegleieacokaa
