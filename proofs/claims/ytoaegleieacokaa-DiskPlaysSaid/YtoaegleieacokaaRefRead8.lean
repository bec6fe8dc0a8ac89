/- The reference's disk: Read. -/
import Derived.Test.YtoaegleieacokaaRefAppend
namespace Go.Proofs.Ytoaegleieacokaa
open Go.RowKit Go.Shelf

def DS.rread (s : DS) (nm : ByteArray) : ByteArray × Int := if s.left = 0 then (⟨#[]⟩, 18) else if atI s.l nm < 0 then (⟨#[]⟩, 19) else ((fileI s.l nm).b, 0)
set_option maxRecDepth 100000 in
set_option maxHeartbeats 1000000 in
theorem rread_calls {n : Nat} {X : List Nat} {R : Nat} {v : Value} {s : DS} (hlen : s.l.length ≤ 1000000) (nm : ByteArray) (w : World) (h : RefAt n X w R v s) :
    Calls Try.prog 47 #[.pointer (some ⟨R, 0, none⟩), .string nm] w fun e w' => e = .returned (.tuple #[.string (s.rread nm).1, .int .i64 (s.rread nm).2]) ∧ w' = w := by
  have d3 : w.cell? ⟨R, 3, none⟩ = some (.int .i64 s.left) := h.blk.cell 3
  have d1 : w.cell? ⟨R, 1, none⟩ = some v := h.blk.cell 1
  have hat := rat_calls hlen nm w h
  have hE : s.rread nm = if s.left = 0 then (⟨#[]⟩, 18) else if atI s.l nm < 0 then (⟨#[]⟩, 19) else ((fileI s.l nm).b, 0) := rfl
  have HE := Lib.hid hE
  clear hE
  go_enter Try.func47, Try.ntmps47
  by_cases h0 : s.left = 0
  · have hb : (s.left == 0) = true := by simp [h0]
    go_wp2_with fail
    refine hat.mono ?_
    clear hat
    rintro e w1 ⟨rfl, rfl⟩
    go_wp2
    go_ret2
    rw [HE.out, if_pos h0]
    exact ⟨rfl, rfl⟩
  have hb : (s.left == 0) = false := by simp [h0]
  by_cases h1 : atI s.l nm < 0
  · go_wp2_with fail
    refine hat.mono ?_
    clear hat
    rintro e w1 ⟨rfl, rfl⟩
    go_wp2
    go_ret2
    rw [HE.out, if_neg h0, if_pos h1]
    exact ⟨rfl, rfl⟩
  rw [if_neg h0, if_neg h1] at HE
  obtain ⟨i, hi, hil, hnm⟩ := atI_at h1
  obtain ⟨g, c, rfl⟩ := h.row (by omega)
  have c0 := h.own.cellAt (i * 3 + 1) (by omega)
  rw [filesCells_get s.l i 1 hil (by omega)] at c0
  simp only [fileCells, List.getElem?_cons_succ, List.getElem?_cons_zero] at c0
  have hfi : fileI s.l nm = s.l[i].2 := by simp [fileI, hi, hil]
  rw [hfi] at HE
  rw [hi] at hat
  clear h1 hfi hnm
  generalize s.l[i].2.b = B at *
  go_wp2_with fail
  refine hat.mono ?_
  clear hat
  rintro e w1 ⟨rfl, rfl⟩
  go_wp2
  go_ret2
  rw [HE.out]
  exact ⟨rfl, rfl⟩
end Go.Proofs.Ytoaegleieacokaa
