/- Copy. -/
import Derived.Test.YtoaegleieacokaaGreatDiskAll
namespace Go.Proofs.YtoaegleieacokaaGreat
open Go.RowKit Go.Shelf Go.Sort
attribute [local go_sem] Oper.semAt_some

/-! ### slices.Values over files -/
/-- A file as it is told: its name, bytes, how many stay. -/
def filesCells (l : List (ByteArray × F)) : List Value := l.flatMap fun p => fileCells p.1 p.2
theorem filesCells_length (l : List (ByteArray × F)) : (filesCells l).length = l.length * 3 := by
  induction l with
  | nil => rfl
  | cons x l ih => simp only [filesCells, List.flatMap_cons, List.length_append, List.length_cons] at ih ⊢; rw [ih]; simp [fileCells]; omega
theorem filesCells_get (l : List (ByteArray × F)) (k c : Nat) (hk : k < l.length) (hc : c < 3) : (filesCells l)[k * 3 + c]? = (fileCells l[k].1 l[k].2)[c]? := by
  induction l generalizing k with
  | nil => simp at hk
  | cons x l ih =>
    cases k with
    | zero =>
      simp only [filesCells, List.flatMap_cons, Nat.zero_mul, Nat.zero_add, List.getElem_cons_zero]
      rw [List.getElem?_append_left (by simp [fileCells]; omega)]
    | succ k =>
      simp only [filesCells, List.flatMap_cons, List.getElem_cons_succ]
      rw [List.getElem?_append_right (by simp [fileCells]; omega)]
      rw [show (k + 1) * 3 + c - (fileCells x.1 x.2).length = k * 3 + c from by simp [fileCells]; omega]
      exact ih k (by simpa using hk)
def fileVal (p : ByteArray × F) : Value := .agg #[.string p.1, .string p.2.b, .int .i64 p.2.k]

end Go.Proofs.YtoaegleieacokaaGreat
