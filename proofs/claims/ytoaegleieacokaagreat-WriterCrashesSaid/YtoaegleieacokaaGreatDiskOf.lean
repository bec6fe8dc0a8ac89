/- Of. -/
import Derived.Test.YtoaegleieacokaaGreatDiskCopy
namespace Go.Proofs.YtoaegleieacokaaGreat
open Go.RowKit Go.Shelf Go.Sort
attribute [local go_sem] Oper.semAt_some

/-- One file laid onto a new disk: if its name is not there yet, and there is room for a name. -/
def ofStep (l : List (ByteArray × F)) (x : ByteArray × F) : List (ByteArray × F) :=
  if (fk l x.1).isSome = true ∨ 1000 ≤ l.length then l else fup l x.1 ⟨x.2.b, min (max x.2.k 0) x.2.b.size⟩
def ofDS (room : Int) (L : List (ByteArray × F)) : DS := { newDS room with l := L.foldl ofStep [] }

end Go.Proofs.YtoaegleieacokaaGreat
