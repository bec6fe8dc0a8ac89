/- sheet.Read, the reference's Read; the law's same. -/
import Derived.Test.YtoaegleieacokaaGreatGetPut
import Derived.Maps.AppendAt
namespace Go.Proofs.YtoaegleieacokaaGreat
open Go.RowKit Go.Shelf

theorem infoInt : (Tryz.prog.info? 3).map (fun i => (i.zero, i.size, i.bytes)) = some (some (.int .i64 0), 1, 8) := by kernel_rfl

/-- What is left of a sheet's bytes behind i numbers. -/
def restL (l : List Int) (i : Nat) : List UInt8 := (l.drop i).flatMap fun x => putL x.toNat
theorem restL_succ (l : List Int) (i : Nat) (h : i < l.length) : restL l i = putL l[i].toNat ++ restL l (i + 1) := by
  unfold restL
  rw [List.drop_eq_getElem_cons h, List.flatMap_cons]
theorem flat_le (l : List Int) (i : Nat) : (restL l i).length ≤ (restL l 0).length := by
  unfold restL
  rw [List.drop_zero]
  conv => rhs; rw [← List.take_append_drop i l]
  rw [List.flatMap_append, List.length_append]
  omega
theorem bytesL_len {l : List Int} (h : IsSheet l) : (bytesL l).length ≤ 2014 := by
  have := bodyOf_len (n := l.length) (by have := h.le; omega) (l := l) (fun x hx => by have := h.all x hx; omega)
  have h2 := h.le
  rw [bytesL, List.length_append, fixedL_len, bodyL]
  omega
theorem len_map_int (l : List Int) : ((l.map (Value.int .i64))).length = l.length := List.length_map _

theorem putL_pos (n : Nat) : 0 < (putL n).length := by
  rw [putL, List.length_map]
  exact List.length_pos_iff.2 (septs_ne n)
theorem restL_end (l : List Int) : restL l l.length = [] := by simp [restL]

end Go.Proofs.YtoaegleieacokaaGreat
