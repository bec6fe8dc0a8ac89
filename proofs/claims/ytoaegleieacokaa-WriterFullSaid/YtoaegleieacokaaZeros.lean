/- string(make([]byte, n)): n zero bytes. -/
import Derived.Test.YtoaegleieacokaaDiskBase
import Derived.Test.YtoaegleieacokaaProg
import Derived.OwnWalk
import Derived.Laws.IdiomStrings
namespace Go.Proofs.Ytoaegleieacokaa
open Go.RowKit Go.Shelf

theorem infoU8 : (Try.prog.info? 5).map (fun i => (i.zero, i.size, i.bytes)) = some (some (.int .u8 0), 1, 1) := by kernel_rfl
def zerosB (n : Nat) : ByteArray := ⟨(List.replicate n (0 : UInt8)).toArray⟩
theorem zeros_str {w : World} {base g n : Nat} (h : w.ownsRow base 5 1 (.slice (some ⟨g, 0, none⟩) n n) n (madeCells (Value.int .u8 0).cells (n * 1)).toList) :
    (convert 29 9 (.slice (some ⟨g, 0, none⟩) n n)).run Try.prog w = .ok (.string (zerosB n)) w := by
  have hc : ∀ j (hj : j < (List.replicate n (0 : UInt8)).length), w.cell? ((⟨g, 0, none⟩ : Addr).add j) = some (.int .u8 ((List.replicate n (0 : UInt8))[j].toNat : Int)) := by
    intro j hj
    rw [Go.WideShapes.add_plain, Nat.zero_add]
    have h1 := World.ownsRow.cellAt (w := w) (base := base) (e := 5) (size := 1) (n := n) h j (by simpa using hj)
    rw [h1]
    have hj' : j < n := by simpa using hj
    rw [Array.getElem?_toList, Array.getElem?_eq_getElem (by rw [size_madeCells]; omega)]
    simp [madeCells, Value.cells, Nat.mod_one]
  have := run_convert_bytes_back (P := Try.prog) w 29 9 5 ⟨g, 0, none⟩ n (List.replicate n 0) Try.underlying29 Try.underlying5 Try.underlying9 hc
  rwa [List.length_replicate] at this
end Go.Proofs.Ytoaegleieacokaa
