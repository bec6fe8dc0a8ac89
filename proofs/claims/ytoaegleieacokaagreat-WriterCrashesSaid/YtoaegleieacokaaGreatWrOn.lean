/- writer.On; Drop of a segment alone. -/
import Derived.Test.YtoaegleieacokaaGreatWriteR
namespace Go.Proofs.YtoaegleieacokaaGreat
open Go.RowKit Go.Shelf

section
variable {n : Nat} {W : World} {D M B : Nat} {X : List Nat} {s : DS} {lim size : Int} {l : List Int} {w : World}
theorem on_bad (limit : Int) (a : Option Addr) (c : Nat) (hl : l.length ≤ 1000000) (hL : isL l = false) (hv : Ints w w.heap.size (.slice a l.length c) l) :
    Calls Tryz.prog 14 #[.pointer (some ⟨D, 0, none⟩), .int .i64 limit, .slice a l.length c] w fun x w' => x = .returned (.tuple #[.pointer none, .int .i64 11]) ∧ Below w.heap.size w w' := by
  have his := is_calls a c l hl w hv
  rw [hL] at his
  go_enter Tryz.func14, Tryz.ntmps14
  go_wp2_with fail
  refine his.mono ?_
  rintro e w1 ⟨rfl, hB1⟩
  go_wp2
  go_ret2
  exact ⟨rfl, hB1⟩
set_option maxRecDepth 100000 in
set_option maxHeartbeats 1000000 in
theorem on_err (limit : Int) (a : Option Addr) (c : Nat) (hl : l.length ≤ 1000000) (hL : isL l = true) (hv : Ints w w.heap.size (.slice a l.length c) l) {b : ByteArray} {e : Int} (hr : readOf s (nameB (idN (lastI l))) = (b, e)) (he : e ≠ 0) (h : Dk n W D M s w) :
    Calls Tryz.prog 14 #[.pointer (some ⟨D, 0, none⟩), .int .i64 limit, .slice a l.length c] w fun x w' => x = .returned (.tuple #[.pointer none, .int .i64 e]) ∧ Below w.heap.size w w' := by
  have his := is_calls a c l hl w hv
  rw [hL] at his
  have hpos := (isL_sheet hL).pos
  obtain ⟨b2, off, rfl, hb, hcs⟩ := hv.cell hpos
  have hcap := Rd.cap hv
  obtain ⟨m, hm⟩ : ∃ m, l.length = m + 1 := ⟨l.length - 1, by omega⟩
  have q3 := hcs m (by omega)
  have hla : l[m]'(by omega) = lastI l := by rw [lastI_at hpos]; simp only [hm, Nat.add_sub_cancel]
  rw [hla] at q3
  have z1 : IntKind.i64.wrap ((l.length : Int) - 1) = (m : Int) := by rw [IntKind.wrap_i64]; omega
  have z2 : (l.length : Int) - 1 = (m : Int) := by omega
  have z3 : m < l.length := by omega
  have hnm := name_calls (lastI l)
  have HNM := Lib.hid hnm
  have HR := Lib.hid hr
  have hbe : (e == 0) = false := beq_eq_false_iff_ne.2 he
  have HE := Lib.hid he
  clear hcs hla hnm hr he hv hL
  have HM := Lib.hid hm
  clear hm
  generalize nameB (idN (lastI l)) = nm at *
  generalize lastI l = x at *
  generalize l.length = k at *
  go_enter Tryz.func14, Tryz.ntmps14
  go_wp2_with fail
  refine his.mono ?_
  clear his
  rintro e1 w1 ⟨rfl, hB1⟩
  have q4 : w1.cell? ⟨b2, off + m, none⟩ = some (.int .i64 x) := (hB1.cell (p := ⟨b2, off + m, none⟩) hb).trans q3
  clear q3
  go_wp2_with fail
  refine (HNM.out w1).mono ?_
  rintro e2 w2 ⟨rfl, hB2⟩
  have hrd := dread_calls D M s nm w2 ((h.next hB1).next hB2).at'
  rw [HR.out] at hrd
  go_wp2_with fail
  refine hrd.mono ?_
  clear hrd
  rintro e3 w3 ⟨rfl, hB3⟩
  go_wp2
  go_ret2
  exact ⟨rfl, hB1.trans ((hB2.trans (hB3.mono hB2.size)).mono hB1.size)⟩
set_option maxRecDepth 100000 in
set_option maxHeartbeats 1000000 in
theorem on_ok (limit : Int) (a : Option Addr) (c : Nat) (hl : l.length ≤ 1000000) (hL : isL l = true) (hv : Ints w w.heap.size (.slice a l.length c) l) {b : ByteArray} (hr : readOf s (nameB (idN (lastI l))) = (b, 0)) (hX : ∀ y ∈ X, y < w.heap.size) (h : Dk n W D M s w) :
    Calls Tryz.prog 14 #[.pointer (some ⟨D, 0, none⟩), .int .i64 limit, .slice a l.length c] w fun x w' => ∃ B, x = .returned (.tuple #[.pointer (some ⟨B, 0, none⟩), .int .i64 0]) ∧ Wk n W D M B X s (limN limit) l b.size w' ∧ Below w.heap.size w w' := by
  have his := is_calls a c l hl w hv
  rw [hL] at his
  have hpos := (isL_sheet hL).pos
  obtain ⟨b2, off, rfl, hb, hcs⟩ := hv.cell hpos
  have hcap := Rd.cap hv
  obtain ⟨m, hm⟩ : ∃ m, l.length = m + 1 := ⟨l.length - 1, by omega⟩
  have q3 := hcs m (by omega)
  have hla : l[m]'(by omega) = lastI l := by rw [lastI_at hpos]; simp only [hm, Nat.add_sub_cancel]
  rw [hla] at q3
  have z1 : IntKind.i64.wrap ((l.length : Int) - 1) = (m : Int) := by rw [IntKind.wrap_i64]; omega
  have z2 : (l.length : Int) - 1 = (m : Int) := by omega
  have z3 : m < l.length := by omega
  have hnm := name_calls (lastI l)
  have HNM := Lib.hid hnm
  have HR := Lib.hid hr
  have hvv := Lib.hid hv
  have hle : l.length ≤ 200 := (isL_sheet hL).le
  have HCL := Lib.hid fun (w' : World) (v : Value) (hv' : Ints w' w'.heap.size v l) => clone_calls l hpos hl v w' hv'
  clear hcs hla hnm hr hv hL
  have HM := Lib.hid hm
  clear hm
  generalize nameB (idN (lastI l)) = nm at *
  generalize lastI l = x at *
  go_enter Tryz.func14, Tryz.ntmps14
  go_wp2_with fail
  refine his.mono ?_
  clear his
  rintro e1 w1 ⟨rfl, hB1⟩
  have q4 : w1.cell? ⟨b2, off + m, none⟩ = some (.int .i64 x) := (hB1.cell (p := ⟨b2, off + m, none⟩) hb).trans q3
  clear q3
  go_wp2_with fail
  refine (HNM.out w1).mono ?_
  rintro e2 w2 ⟨rfl, hB2⟩
  have hrd := dread_calls D M s nm w2 ((h.next hB1).next hB2).at'
  rw [HR.out] at hrd
  go_wp2_with fail
  refine hrd.mono ?_
  clear hrd
  rintro e3 w3 ⟨rfl, hB3⟩
  have hB13 := hB1.trans ((hB2.trans (hB3.mono hB2.size)).mono hB1.size)
  have h3 := ((h.next hB1).next hB2).next hB3
  have hcl := HCL.out w3 _ ((hvv.out.below hB13 (Nat.le_refl _)).up hB13.size)
  go_wp2_with fail
  refine (wheld_calls limit w3).mono ?_
  rintro e4 w4 ⟨rfl, rfl⟩
  go_wp2_with fail
  refine hcl.mono ?_
  clear hcl HCL
  rintro e5 w5 ⟨v', rfl, hown, hB5⟩
  obtain ⟨a5, c5, rfl⟩ := Rd.val (Rd.of_owns hown)
  have hn := h3.size
  have hDl := h3.at'.blk.lt
  have hMl := h3.at'.map.lt
  have hs5 := hB5.size
  have hBx : Below w5.heap.size w5 (w5.alloc (.cells #[.pointer (some ⟨D, 0, none⟩), .int .i64 (limN limit), .slice a5 l.length c5, .int .i64 b.size] 69)) := (Below.refl _ w5).alloc (Nat.le_refl _) _
  have bW := Blk.new w5 69 #[.pointer (some ⟨D, 0, none⟩), .int .i64 (limN limit), .slice a5 l.length c5, .int .i64 b.size]
  have hRx : Rx (w5.alloc (.cells #[.pointer (some ⟨D, 0, none⟩), .int .i64 (limN limit), .slice a5 l.length c5, .int .i64 b.size] 69)) (w5.heap.size :: D :: M :: X) (.slice a5 l.length c5) l := by
    refine Rx.of_ints ((Ints.of_owns hown).below hBx (Nat.le_refl _)) (fun b' off' n' c' hv' hm' => ?_) hBx.size
    have hb' := hown.lt b' (by rw [hv']; rfl)
    simp only [List.mem_cons] at hm'
    rcases hm' with e | e | e | e
    · omega
    · omega
    · omega
    · have := hX _ e; have := hB13.size; omega
  go_wp2
  go_ret2
  exact ⟨w5.heap.size, rfl, ⟨(h3.next hB5).next hBx, by omega, ⟨by omega, by omega⟩, fun y hy => by have := hX y hy; have := hB13.size; have := hBx.size; omega, _, bW, hRx⟩, hB13.trans ((hB5.trans (hBx.mono hB5.size)).mono hB13.size)⟩
theorem drop_one (h : Wk n W D M B X s lim l size w) (hl : l.length = 1) : Calls Tryz.prog 13 #[.pointer (some ⟨B, 0, none⟩)] w fun e w' => e = .returned (.tuple #[.int .i64 0, .int .i64 22]) ∧ w' = w := by
  obtain ⟨v, h1, h2⟩ := h.wr
  obtain ⟨a, c, rfl, _⟩ := h2
  rw [hl] at h1
  have q2 : w.cell? ⟨B, 2, none⟩ = some (.slice a 1 c) := h1.cell 2
  clear hl
  go_enter Tryz.func13, Tryz.ntmps13
  go_wp2
  go_ret2
  exact ⟨rfl, rfl⟩
end
end Go.Proofs.YtoaegleieacokaaGreat
