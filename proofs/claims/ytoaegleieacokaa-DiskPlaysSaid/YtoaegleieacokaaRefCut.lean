/- The reference's disk: Cut. -/
import Derived.Test.YtoaegleieacokaaRefRename
namespace Go.Proofs.Ytoaegleieacokaa
open Go.RowKit Go.Shelf

def cutB (b : ByteArray) (m : Int) : ByteArray := b.extract 0 (max 0 (min m (b.size : Int))).toNat
def DS.rcut (s : DS) (nm : ByteArray) (m : Int) : Int × DS :=
  if s.left = 0 then (18, s) else if atI s.l nm < 0 then (19, s) else (0, (s.rput nm ⟨cutB (fileI s.l nm).b m, (cutB (fileI s.l nm).b m).size⟩).counted)
set_option maxRecDepth 100000 in
set_option maxHeartbeats 1000000 in
theorem rcut_calls {n : Nat} {X : List Nat} {R : Nat} {v : Value} {s : DS} (hst : 0 ≤ s.steps ∧ s.steps < 4611686018427387904) (hl : s.left ≤ 9223372036854775807) (hlen : s.l.length ≤ 1000000) (nm : ByteArray) (m : Int) (w : World) (h : RefAt n X w R v s) :
    Calls Try.prog 96 #[.pointer (some ⟨R, 0, none⟩), .string nm, .int .i64 m] w fun e w' => e = .returned (.int .i64 (s.rcut nm m).1) ∧ ∃ v', RefAt n X w' R v' (s.rcut nm m).2 ∧ Kp n X w w' := by
  have d3 : w.cell? ⟨R, 3, none⟩ = some (.int .i64 s.left) := h.blk.cell 3
  have d1 : w.cell? ⟨R, 1, none⟩ = some v := h.blk.cell 1
  have hat := rat_calls hlen nm w h
  have hE : s.rcut nm m = if s.left = 0 then (18, s) else if atI s.l nm < 0 then (19, s) else (0, (s.rput nm ⟨cutB (fileI s.l nm).b m, (cutB (fileI s.l nm).b m).size⟩).counted) := rfl
  have HE := Lib.hid hE
  clear hE
  go_enter Try.func96, Try.ntmps96
  by_cases h0 : s.left = 0
  · have hb : (s.left == 0) = true := by simp [h0]
    go_wp2_with fail
    refine hat.mono ?_
    clear hat
    rintro e w1 ⟨rfl, rfl⟩
    go_wp2
    go_ret
    rw [HE.out, if_pos h0]
    refine ⟨rfl, ?_⟩; first | exact ⟨_, h, Kp.refl _ _ _⟩ | exact ⟨⟨_, h⟩, Kp.refl _ _ _⟩
  have hb : (s.left == 0) = false := by simp [h0]
  by_cases h1 : atI s.l nm < 0
  · go_wp2_with fail
    refine hat.mono ?_
    clear hat
    rintro e w1 ⟨rfl, rfl⟩
    go_wp2
    go_ret
    rw [HE.out, if_neg h0, if_pos h1]
    refine ⟨rfl, ?_⟩; first | exact ⟨_, h, Kp.refl _ _ _⟩ | exact ⟨⟨_, h⟩, Kp.refl _ _ _⟩
  rw [if_neg h0, if_neg h1] at HE
  obtain ⟨i, hi, hil, hnm⟩ := atI_at h1
  obtain ⟨g, c, rfl⟩ := h.row (by omega)
  have c0 := h.own.cellAt (i * 3 + 1) (by omega)
  rw [filesCells_get s.l i 1 hil (by omega)] at c0
  have c1 := h.own.cellAt (i * 3 + 2) (by omega)
  rw [filesCells_get s.l i 2 hil (by omega)] at c1
  have f0 := h.own.frozenAt (i * 3 + 1)
  have f1 := h.own.frozenAt (i * 3 + 2)
  simp only [fileCells, List.getElem?_cons_succ, List.getElem?_cons_zero] at c0 c1
  have hfi : fileI s.l nm = s.l[i].2 := by simp [fileI, hi, hil]
  obtain ⟨E, hE1, hE2⟩ : ∃ E : Nat, max 0 (min m (s.l[i].2.b.size : Int)) = (E : Int) ∧ E ≤ s.l[i].2.b.size := ⟨(max 0 (min m (s.l[i].2.b.size : Int))).toNat, by omega, by omega⟩
  have hcut : cutB s.l[i].2.b m = s.l[i].2.b.extract 0 E := by unfold cutB; rw [hE1]; rfl
  have hEs : (s.l[i].2.b.extract 0 E).size = E := by rw [ByteArray.size_extract]; omega
  have HES := Lib.hid hEs
  clear hEs
  rw [hi] at hat
  go_wp2_with fail
  refine hat.mono ?_
  clear hat
  rintro e w1 ⟨rfl, rfl⟩
  go_wp2
  go_region
  obtain ⟨p1, p2⟩ := h.put (s' := { s with l := s.l.set i (s.l[i].1, ⟨s.l[i].2.b.extract 0 E, s.l[i].2.k⟩) }) rfl (i * 3 + 1) (.string (s.l[i].2.b.extract 0 E)) ⟨rfl, rfl, rfl⟩ (by simp) (filesCells_b s.l i hil _)
  have hBd := (Below.refl (w1.setCell ⟨g, i * 3 + 1, none⟩ (.string (s.l[i].2.b.extract 0 E))).heap.size (w1.setCell ⟨g, i * 3 + 1, none⟩ (.string (s.l[i].2.b.extract 0 E)))).drew
  have P3 := p1.next hBd
  have P4 := p2.trans (Kp.of_below (X := X) hBd (Nat.le_trans h.size p2.below.size) (Nat.le_refl _))
  clear p1 p2 hBd c0 c1 f0 f1 d1 d3
  generalize (w1.setCell ⟨g, i * 3 + 1, none⟩ (.string (s.l[i].2.b.extract 0 E))).drew = w2 at *
  have d1 : w2.cell? ⟨R, 1, none⟩ = some (.slice (some ⟨g, 0, none⟩) s.l.length c) := P3.blk.cell 1
  have ho := P3.own
  simp only [List.length_set] at ho
  have hil1 : i < (s.l.set i (s.l[i].1, (⟨s.l[i].2.b.extract 0 E, s.l[i].2.k⟩ : F))).length := by simpa using hil
  have c0 := ho.cellAt (i * 3 + 1) (by omega)
  rw [filesCells_get _ i 1 hil1 (by omega)] at c0
  have c1 := ho.cellAt (i * 3 + 2) (by omega)
  rw [filesCells_get _ i 2 hil1 (by omega)] at c1
  have f1 := ho.frozenAt (i * 3 + 2)
  simp only [fileCells, List.getElem?_cons_succ, List.getElem?_cons_zero, List.getElem_set_self] at c0 c1
  have hk := filesCells_k (s.l.set i (s.l[i].1, (⟨s.l[i].2.b.extract 0 E, s.l[i].2.k⟩ : F))) i hil1 (E : Int)
  simp only [List.getElem_set_self, List.set_set] at hk
  obtain ⟨p1, p2⟩ := P3.put (s' := { s with l := s.l.set i (s.l[i].1, ⟨s.l[i].2.b.extract 0 E, (E : Int)⟩) }) (by simp) (i * 3 + 2) (.int .i64 (E : Int)) ⟨rfl, rfl, rfl⟩ (by simp) hk
  go_wp2
  go_region
  have hrp : s.rput nm ⟨cutB (fileI s.l nm).b m, (cutB (fileI s.l nm).b m).size⟩ = { s with l := s.l.set i (s.l[i].1, ⟨s.l[i].2.b.extract 0 E, (E : Int)⟩) } := by unfold DS.rput; rw [hfi, hcut, HES.out, hi, hnm]; rfl
  rw [← hrp] at p1
  have hBd := (Below.refl (w2.setCell ⟨g, i * 3 + 2, none⟩ (.int .i64 (E : Int))).heap.size (w2.setCell ⟨g, i * 3 + 2, none⟩ (.int .i64 (E : Int)))).drew
  have P5 := p1.next hBd
  have P6 := (P4.trans p2).trans (Kp.of_below (X := X) hBd (Nat.le_trans P3.size p2.below.size) (Nat.le_refl _))
  clear p1 p2 hBd c0 c1 f1 d1 P3 P4 ho hk hrp
  generalize (w2.setCell ⟨g, i * 3 + 2, none⟩ (.int .i64 (E : Int))).drew = w4 at *
  have hstep := rstep_calls (s := s.rput nm ⟨cutB (fileI s.l nm).b m, (cutB (fileI s.l nm).b m).size⟩) hst hl w4 P5
  go_wp2_with fail
  refine hstep.mono ?_
  clear hstep
  rintro e w3 ⟨⟨u, rfl⟩, h3, k3⟩
  go_wp2
  go_ret
  rw [HE.out]
  refine ⟨rfl, ?_⟩; first | exact ⟨_, h3, P6.trans k3⟩ | exact ⟨⟨_, h3⟩, P6.trans k3⟩
end Go.Proofs.Ytoaegleieacokaa
