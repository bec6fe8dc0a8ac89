/-
  No cell of these rows narrows 'for every input' (looked for: loops, veiled, ifaces, maps, wideKeys, modest, calm, conditions, laid).
  DERIVED. THE GIVEN ROWS OF THIS SEAT. 6 by the template 'for every input the law returns true; each argument reads behind the call as it read before'; 0 by the template 'total and deterministic' (their statements: YtnbnkmpmkpillaaTotals.lean).
  GIVEN WITH THE SEED: the statements are not yours to turn. If you find one false, say at which input.
  Laid BY PROGRAM, IN A SANDBOX (cutbox-rows.mjs): the forced cells as the released guide's own fill.sh prints them over the translation 246f67d7652a218b… (all of the seat's roots in one cut). By AI agents, Wed Nov 11 2026. No macro, syntax, notation, axiom, sorry.
-/
import Derived.Test.YtnbnkmpmkpillaaChecked
import GoSem.Claim
import GoSem.ClaimJoined
import GoSem.ClaimMapViews
import Derived.JoinedTies
import Derived.KernelRfl
namespace Go.Proofs.Ytnbnkmpmkpillaa
/- THE CELL 'sum', in the pinned program and in every row, IS THE sha256 OF THE DUMP (.gsa) THAT YtnbnkmpmkpillaaProg.lean LOADS. Nothing in Lean hashes anything: it is a label: what it is worth is what the hold of that sum in a sandbox is worth. -/
noncomputable def Try.pinned : Pinned := { name := "ytnbnkmpmkpillaa", sum := "246f67d7652a218b82d3ec6bf5fdf8e217b821acc634d6831b81c27db2c37f81", checked := Try.checked }
namespace Rows
def none {H : Type} : Left H := { results := [], args := [] }

/-- 'ladelaw15.LiveTells': WHATEVER THE INPUT: true; the input reads as it did. -/
def liveTellsSpec : ChangeSpec := { name := "liveTells", fn := fun _ => fun
  | [d1, d2, d3] => { results := [.lit (.bool true)], args := [d1, d2, d3] }
  | _ => none }
def liveTellsRow : OpenClaim := { program := "ytnbnkmpmkpillaa", sum := "246f67d7652a218b82d3ec6bf5fdf8e217b821acc634d6831b81c27db2c37f81", func := "lade/ladelaw15.LiveTells", spec := "liveTells", unfollowed := true, recurses := true, plainKeys := false, apart := false }
def LiveTellsSaid : Prop := liveTellsRow.holds Try.pinned (OpenSpec.ofChange liveTellsSpec)

/-- ITS FALSE NEIGHBOUR: 'it returns false'. Refute it at one input. -/
def liveTellsWrong : ChangeSpec := { name := "liveTells", fn := fun _ => fun
  | [d1, d2, d3] => { results := [.lit (.bool false)], args := [d1, d2, d3] }
  | _ => none }
def LiveTellsWrongFalsely : Prop := liveTellsRow.holds Try.pinned (OpenSpec.ofChange liveTellsWrong)

/-- 'ladelaw15.LiveAll': WHATEVER THE INPUT: true; the input reads as it did. -/
def liveAllSpec : ChangeSpec := { name := "liveAll", fn := fun _ => fun
  | [d] => { results := [.lit (.bool true)], args := [d] }
  | _ => none }
def liveAllRow : OpenClaim := { program := "ytnbnkmpmkpillaa", sum := "246f67d7652a218b82d3ec6bf5fdf8e217b821acc634d6831b81c27db2c37f81", func := "lade/ladelaw15.LiveAll", spec := "liveAll", unfollowed := true, recurses := true, plainKeys := false, apart := false }
def LiveAllSaid : Prop := liveAllRow.holds Try.pinned (OpenSpec.ofChange liveAllSpec)

/-- ITS FALSE NEIGHBOUR: 'it returns false'. Refute it at one input. -/
def liveAllWrong : ChangeSpec := { name := "liveAll", fn := fun _ => fun
  | [d] => { results := [.lit (.bool false)], args := [d] }
  | _ => none }
def LiveAllWrongFalsely : Prop := liveAllRow.holds Try.pinned (OpenSpec.ofChange liveAllWrong)

/-- 'ladelaw15.LiveMoves': WHATEVER THE INPUT: true; the input reads as it did. -/
def liveMovesSpec : ChangeSpec := { name := "liveMoves", fn := fun _ => fun
  | [d1, d2, d3, d4] => { results := [.lit (.bool true)], args := [d1, d2, d3, d4] }
  | _ => none }
def liveMovesRow : OpenClaim := { program := "ytnbnkmpmkpillaa", sum := "246f67d7652a218b82d3ec6bf5fdf8e217b821acc634d6831b81c27db2c37f81", func := "lade/ladelaw15.LiveMoves", spec := "liveMoves", unfollowed := true, recurses := true, plainKeys := false, apart := false }
def LiveMovesSaid : Prop := liveMovesRow.holds Try.pinned (OpenSpec.ofChange liveMovesSpec)

/-- ITS FALSE NEIGHBOUR: 'it returns false'. Refute it at one input. -/
def liveMovesWrong : ChangeSpec := { name := "liveMoves", fn := fun _ => fun
  | [d1, d2, d3, d4] => { results := [.lit (.bool false)], args := [d1, d2, d3, d4] }
  | _ => none }
def LiveMovesWrongFalsely : Prop := liveMovesRow.holds Try.pinned (OpenSpec.ofChange liveMovesWrong)

/-- 'ladelaw15.LiveCounts': WHATEVER THE INPUT: true; the input reads as it did. -/
def liveCountsSpec : ChangeSpec := { name := "liveCounts", fn := fun _ => fun
  | [d1, d2, d3] => { results := [.lit (.bool true)], args := [d1, d2, d3] }
  | _ => none }
def liveCountsRow : OpenClaim := { program := "ytnbnkmpmkpillaa", sum := "246f67d7652a218b82d3ec6bf5fdf8e217b821acc634d6831b81c27db2c37f81", func := "lade/ladelaw15.LiveCounts", spec := "liveCounts", unfollowed := true, recurses := true, plainKeys := false, apart := false }
def LiveCountsSaid : Prop := liveCountsRow.holds Try.pinned (OpenSpec.ofChange liveCountsSpec)

/-- ITS FALSE NEIGHBOUR: 'it returns false'. Refute it at one input. -/
def liveCountsWrong : ChangeSpec := { name := "liveCounts", fn := fun _ => fun
  | [d1, d2, d3] => { results := [.lit (.bool false)], args := [d1, d2, d3] }
  | _ => none }
def LiveCountsWrongFalsely : Prop := liveCountsRow.holds Try.pinned (OpenSpec.ofChange liveCountsWrong)

/-- 'ladelaw16.VictimTells': WHATEVER THE INPUT: true; the input reads as it did. -/
def victimTellsSpec : ChangeSpec := { name := "victimTells", fn := fun _ => fun
  | [d1, d2] => { results := [.lit (.bool true)], args := [d1, d2] }
  | _ => none }
def victimTellsRow : OpenClaim := { program := "ytnbnkmpmkpillaa", sum := "246f67d7652a218b82d3ec6bf5fdf8e217b821acc634d6831b81c27db2c37f81", func := "lade/ladelaw16.VictimTells", spec := "victimTells", unfollowed := true, recurses := true, plainKeys := false, apart := false }
def VictimTellsSaid : Prop := victimTellsRow.holds Try.pinned (OpenSpec.ofChange victimTellsSpec)

/-- ITS FALSE NEIGHBOUR: 'it returns false'. Refute it at one input. -/
def victimTellsWrong : ChangeSpec := { name := "victimTells", fn := fun _ => fun
  | [d1, d2] => { results := [.lit (.bool false)], args := [d1, d2] }
  | _ => none }
def VictimTellsWrongFalsely : Prop := victimTellsRow.holds Try.pinned (OpenSpec.ofChange victimTellsWrong)

/-- 'ladelaw16.VictimRounds': WHATEVER THE INPUT: true; the input reads as it did. -/
def victimRoundsSpec : ChangeSpec := { name := "victimRounds", fn := fun _ => fun
  | [d1, d2] => { results := [.lit (.bool true)], args := [d1, d2] }
  | _ => none }
def victimRoundsRow : OpenClaim := { program := "ytnbnkmpmkpillaa", sum := "246f67d7652a218b82d3ec6bf5fdf8e217b821acc634d6831b81c27db2c37f81", func := "lade/ladelaw16.VictimRounds", spec := "victimRounds", unfollowed := true, recurses := true, plainKeys := false, apart := false }
def VictimRoundsSaid : Prop := victimRoundsRow.holds Try.pinned (OpenSpec.ofChange victimRoundsSpec)

/-- ITS FALSE NEIGHBOUR: 'it returns false'. Refute it at one input. -/
def victimRoundsWrong : ChangeSpec := { name := "victimRounds", fn := fun _ => fun
  | [d1, d2] => { results := [.lit (.bool false)], args := [d1, d2] }
  | _ => none }
def VictimRoundsWrongFalsely : Prop := victimRoundsRow.holds Try.pinned (OpenSpec.ofChange victimRoundsWrong)

/- THE SECOND FORM. 'bulk': how many values and letters a reading holds, each counted each time it is reached (what is shared counts as often as it is met; a slice's spare places count too). A statement '..UptoSaid' is the law's where the arguments, and the package variables that the reading takes, are together of bulk at most 1048576: NARROWER than '..Said'. Prove '..Said' where nothing that the law and all that it calls make is longer than what came in: it says more and counts as full. Else prove '..UptoSaid'. A law counts once. -/
mutual
def uptoBulk {H : Type} : DataW H → Nat
  | .lit (.string bytes) => bytes.length + 1
  | .lit _ => 1
  | .nil => 1
  | .ptr d => uptoBulk d + 1
  | .slice elems spare => uptoBulkAll elems + uptoBulkAll spare + 1
  | .agg parts => uptoBulkAll parts + 1
  | .iface _ d => uptoBulk d + 1
  | .map entries => uptoBulkEntries entries + 1
  | .held _ => 1
def uptoBulkAll {H : Type} : List (DataW H) → Nat
  | [] => 0
  | d :: r => uptoBulk d + uptoBulkAll r
def uptoBulkEntries {H : Type} : List (Lit × DataW H) → Nat
  | [] => 0
  | x :: r => uptoBulkEntry x + uptoBulkEntries r
def uptoBulkEntry {H : Type} : Lit × DataW H → Nat
  | (.string bytes, d) => bytes.length + uptoBulk d + 1
  | (_, d) => uptoBulk d + 1
 end
def uptoSmall : (H : Type) → List (DataW H) → Bool := fun _ ds => decide (uptoBulkAll ds ≤ 1048576)
def OpenSpec.upto (s : _root_.Go.ChangeSpec) : _root_.Go.OpenSpec := { _root_.Go.OpenSpec.ofChange s with cond := some uptoSmall }

/-- 'ladelaw15.LiveTells', WHERE WHAT IT READS IS OF BULK AT MOST 1048576: true; the input reads as it did. -/
def liveTellsUptoRow : OpenClaim := { program := "ytnbnkmpmkpillaa", sum := "246f67d7652a218b82d3ec6bf5fdf8e217b821acc634d6831b81c27db2c37f81", func := "lade/ladelaw15.LiveTells", spec := "liveTells", unfollowed := true, recurses := true, plainKeys := false, apart := false, narrowed := true }
def LiveTellsUptoSaid : Prop := liveTellsUptoRow.holds Try.pinned (OpenSpec.upto liveTellsSpec)

/-- 'ladelaw15.LiveAll', WHERE WHAT IT READS IS OF BULK AT MOST 1048576: true; the input reads as it did. -/
def liveAllUptoRow : OpenClaim := { program := "ytnbnkmpmkpillaa", sum := "246f67d7652a218b82d3ec6bf5fdf8e217b821acc634d6831b81c27db2c37f81", func := "lade/ladelaw15.LiveAll", spec := "liveAll", unfollowed := true, recurses := true, plainKeys := false, apart := false, narrowed := true }
def LiveAllUptoSaid : Prop := liveAllUptoRow.holds Try.pinned (OpenSpec.upto liveAllSpec)

/-- 'ladelaw15.LiveMoves', WHERE WHAT IT READS IS OF BULK AT MOST 1048576: true; the input reads as it did. -/
def liveMovesUptoRow : OpenClaim := { program := "ytnbnkmpmkpillaa", sum := "246f67d7652a218b82d3ec6bf5fdf8e217b821acc634d6831b81c27db2c37f81", func := "lade/ladelaw15.LiveMoves", spec := "liveMoves", unfollowed := true, recurses := true, plainKeys := false, apart := false, narrowed := true }
def LiveMovesUptoSaid : Prop := liveMovesUptoRow.holds Try.pinned (OpenSpec.upto liveMovesSpec)

/-- 'ladelaw15.LiveCounts', WHERE WHAT IT READS IS OF BULK AT MOST 1048576: true; the input reads as it did. -/
def liveCountsUptoRow : OpenClaim := { program := "ytnbnkmpmkpillaa", sum := "246f67d7652a218b82d3ec6bf5fdf8e217b821acc634d6831b81c27db2c37f81", func := "lade/ladelaw15.LiveCounts", spec := "liveCounts", unfollowed := true, recurses := true, plainKeys := false, apart := false, narrowed := true }
def LiveCountsUptoSaid : Prop := liveCountsUptoRow.holds Try.pinned (OpenSpec.upto liveCountsSpec)

/-- 'ladelaw16.VictimTells', WHERE WHAT IT READS IS OF BULK AT MOST 1048576: true; the input reads as it did. -/
def victimTellsUptoRow : OpenClaim := { program := "ytnbnkmpmkpillaa", sum := "246f67d7652a218b82d3ec6bf5fdf8e217b821acc634d6831b81c27db2c37f81", func := "lade/ladelaw16.VictimTells", spec := "victimTells", unfollowed := true, recurses := true, plainKeys := false, apart := false, narrowed := true }
def VictimTellsUptoSaid : Prop := victimTellsUptoRow.holds Try.pinned (OpenSpec.upto victimTellsSpec)

/-- 'ladelaw16.VictimRounds', WHERE WHAT IT READS IS OF BULK AT MOST 1048576: true; the input reads as it did. -/
def victimRoundsUptoRow : OpenClaim := { program := "ytnbnkmpmkpillaa", sum := "246f67d7652a218b82d3ec6bf5fdf8e217b821acc634d6831b81c27db2c37f81", func := "lade/ladelaw16.VictimRounds", spec := "victimRounds", unfollowed := true, recurses := true, plainKeys := false, apart := false, narrowed := true }
def VictimRoundsUptoSaid : Prop := victimRoundsUptoRow.holds Try.pinned (OpenSpec.upto victimRoundsSpec)

end Rows
end Go.Proofs.Ytnbnkmpmkpillaa
