/- Arguments of the writer's laws: a row of small numbers; zero bytes. -/
import Derived.Test.YtoaegleieacokaaGreatWrGo
import Derived.Test.YtoaegleieacokaaGreatZerosM
namespace Go.Proofs.YtoaegleieacokaaGreat
open Go.RowKit Go.Shelf

theorem u16_cell {W : World} {m c : Nat} {a : Option Addr} {l : List Int} (h : Rd W m 1 (.slice a l.length c) l.length (l.map (Value.int .u16))) (hl : 0 < l.length) :
    ∃ b off, a = some ⟨b, off, none⟩ ∧ b < m ∧ ∀ k (hk : k < l.length), W.cell? ⟨b, off + k, none⟩ = some (.int .u16 l[k]) := by
  obtain ⟨b, off, ha, hb, _, hc⟩ := Rd.at h hl
  refine ⟨b, off, ha, hb, fun k hk => ?_⟩
  rw [hc k (by omega)]
  simp [hk]
theorem zerosB_size (n : Nat) : (zerosB n).size = n := by unfold zerosB; rw [ba_len]; simp
theorem zerosB_len (n : Nat) : (zerosB n).data.size = n := zerosB_size n
end Go.Proofs.YtoaegleieacokaaGreat
