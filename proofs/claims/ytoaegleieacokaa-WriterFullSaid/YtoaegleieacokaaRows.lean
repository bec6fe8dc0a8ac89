/-
  No cell of these rows narrows 'for every input' (looked for: loops, veiled, ifaces, maps, wideKeys, modest, calm, conditions, laid).
  DERIVED. THE GIVEN ROWS OF THIS SEAT. 14 by the template 'for every input the law returns true; each argument reads behind the call as it read before'; 0 by the template 'total and deterministic' (their statements: YtoaegleieacokaaTotals.lean).
  GIVEN WITH THE SEED: the statements are not yours to turn. If you find one false, say at which input.
  Laid BY PROGRAM, IN A SANDBOX (cutbox-rows.mjs): the forced cells as the released guide's own fill.sh prints them over the translation 87bfb5fca2aacdba… (all of the seat's roots in one cut). By AI agents, Wed Nov 11 2026. No macro, syntax, notation, axiom, sorry.
-/
import Derived.Test.YtoaegleieacokaaChecked
import GoSem.Claim
import GoSem.ClaimJoined
import GoSem.ClaimMapViews
import Derived.JoinedTies
import Derived.KernelRfl
namespace Go.Proofs.Ytoaegleieacokaa
/- THE CELL 'sum', in the pinned program and in every row, IS THE sha256 OF THE DUMP (.gsa) THAT YtoaegleieacokaaProg.lean LOADS. Nothing in Lean hashes anything: it is a label: what it is worth is what the hold of that sum in a sandbox is worth. -/
noncomputable def Try.pinned : Pinned := { name := "ytoaegleieacokaa", sum := "87bfb5fca2aacdbaeb85ab2db1523d6715fc9cb5e9db0bd689c626741e9b2e06", checked := Try.checked }
namespace Rows
def none {H : Type} : Left H := { results := [], args := [] }

/-- 'ladelaw9.SheetTells': WHATEVER THE INPUT: true; the input reads as it did. -/
def sheetTellsSpec : ChangeSpec := { name := "sheetTells", fn := fun _ => fun
  | [d1, d2, d3, d4] => { results := [.lit (.bool true)], args := [d1, d2, d3, d4] }
  | _ => none }
def sheetTellsRow : OpenClaim := { program := "ytoaegleieacokaa", sum := "87bfb5fca2aacdbaeb85ab2db1523d6715fc9cb5e9db0bd689c626741e9b2e06", func := "lade/ladelaw9.SheetTells", spec := "sheetTells", unfollowed := true, recurses := true, apart := false }
def SheetTellsSaid : Prop := sheetTellsRow.holds Try.pinned (OpenSpec.ofChange sheetTellsSpec)

/-- ITS FALSE NEIGHBOUR: 'it returns false'. Refute it at one input. -/
def sheetTellsWrong : ChangeSpec := { name := "sheetTells", fn := fun _ => fun
  | [d1, d2, d3, d4] => { results := [.lit (.bool false)], args := [d1, d2, d3, d4] }
  | _ => none }
def SheetTellsWrongFalsely : Prop := sheetTellsRow.holds Try.pinned (OpenSpec.ofChange sheetTellsWrong)

/-- 'ladelaw9.SheetFull': WHATEVER THE INPUT: true; the input reads as it did. -/
def sheetFullSpec : ChangeSpec := { name := "sheetFull", fn := fun _ => fun
  | [d1, d2, d3] => { results := [.lit (.bool true)], args := [d1, d2, d3] }
  | _ => none }
def sheetFullRow : OpenClaim := { program := "ytoaegleieacokaa", sum := "87bfb5fca2aacdbaeb85ab2db1523d6715fc9cb5e9db0bd689c626741e9b2e06", func := "lade/ladelaw9.SheetFull", spec := "sheetFull", unfollowed := true, recurses := true, apart := false }
def SheetFullSaid : Prop := sheetFullRow.holds Try.pinned (OpenSpec.ofChange sheetFullSpec)

/-- ITS FALSE NEIGHBOUR: 'it returns false'. Refute it at one input. -/
def sheetFullWrong : ChangeSpec := { name := "sheetFull", fn := fun _ => fun
  | [d1, d2, d3] => { results := [.lit (.bool false)], args := [d1, d2, d3] }
  | _ => none }
def SheetFullWrongFalsely : Prop := sheetFullRow.holds Try.pinned (OpenSpec.ofChange sheetFullWrong)

/-- 'ladelaw9.SheetSizes': WHATEVER THE INPUT: true; the input reads as it did. -/
def sheetSizesSpec : ChangeSpec := { name := "sheetSizes", fn := fun _ => fun
  | [d1, d2, d3] => { results := [.lit (.bool true)], args := [d1, d2, d3] }
  | _ => none }
def sheetSizesRow : OpenClaim := { program := "ytoaegleieacokaa", sum := "87bfb5fca2aacdbaeb85ab2db1523d6715fc9cb5e9db0bd689c626741e9b2e06", func := "lade/ladelaw9.SheetSizes", spec := "sheetSizes", unfollowed := true, recurses := true, apart := false }
def SheetSizesSaid : Prop := sheetSizesRow.holds Try.pinned (OpenSpec.ofChange sheetSizesSpec)

/-- ITS FALSE NEIGHBOUR: 'it returns false'. Refute it at one input. -/
def sheetSizesWrong : ChangeSpec := { name := "sheetSizes", fn := fun _ => fun
  | [d1, d2, d3] => { results := [.lit (.bool false)], args := [d1, d2, d3] }
  | _ => none }
def SheetSizesWrongFalsely : Prop := sheetSizesRow.holds Try.pinned (OpenSpec.ofChange sheetSizesWrong)

/-- 'ladelaw9.SheetBursts': WHATEVER THE INPUT: true; the input reads as it did. -/
def sheetBurstsSpec : ChangeSpec := { name := "sheetBursts", fn := fun _ => fun
  | [d1, d2, d3] => { results := [.lit (.bool true)], args := [d1, d2, d3] }
  | _ => none }
def sheetBurstsRow : OpenClaim := { program := "ytoaegleieacokaa", sum := "87bfb5fca2aacdbaeb85ab2db1523d6715fc9cb5e9db0bd689c626741e9b2e06", func := "lade/ladelaw9.SheetBursts", spec := "sheetBursts", unfollowed := true, recurses := true, apart := false }
def SheetBurstsSaid : Prop := sheetBurstsRow.holds Try.pinned (OpenSpec.ofChange sheetBurstsSpec)

/-- ITS FALSE NEIGHBOUR: 'it returns false'. Refute it at one input. -/
def sheetBurstsWrong : ChangeSpec := { name := "sheetBursts", fn := fun _ => fun
  | [d1, d2, d3] => { results := [.lit (.bool false)], args := [d1, d2, d3] }
  | _ => none }
def SheetBurstsWrongFalsely : Prop := sheetBurstsRow.holds Try.pinned (OpenSpec.ofChange sheetBurstsWrong)

/-- 'ladelaw22.WriterFull': WHATEVER THE INPUT: true; the input reads as it did. -/
def writerFullSpec : ChangeSpec := { name := "writerFull", fn := fun _ => fun
  | [d1, d2] => { results := [.lit (.bool true)], args := [d1, d2] }
  | _ => none }
def writerFullRow : OpenClaim := { program := "ytoaegleieacokaa", sum := "87bfb5fca2aacdbaeb85ab2db1523d6715fc9cb5e9db0bd689c626741e9b2e06", func := "lade/ladelaw22.WriterFull", spec := "writerFull", unfollowed := true, recurses := true, apart := false }
def WriterFullSaid : Prop := writerFullRow.holds Try.pinned (OpenSpec.ofChange writerFullSpec)

/-- ITS FALSE NEIGHBOUR: 'it returns false'. Refute it at one input. -/
def writerFullWrong : ChangeSpec := { name := "writerFull", fn := fun _ => fun
  | [d1, d2] => { results := [.lit (.bool false)], args := [d1, d2] }
  | _ => none }
def WriterFullWrongFalsely : Prop := writerFullRow.holds Try.pinned (OpenSpec.ofChange writerFullWrong)

/-- 'ladelaw22.WriterFills': WHATEVER THE INPUT: true; the input reads as it did. -/
def writerFillsSpec : ChangeSpec := { name := "writerFills", fn := fun _ => fun
  | [d1, d2] => { results := [.lit (.bool true)], args := [d1, d2] }
  | _ => none }
def writerFillsRow : OpenClaim := { program := "ytoaegleieacokaa", sum := "87bfb5fca2aacdbaeb85ab2db1523d6715fc9cb5e9db0bd689c626741e9b2e06", func := "lade/ladelaw22.WriterFills", spec := "writerFills", unfollowed := true, recurses := true, apart := false }
def WriterFillsSaid : Prop := writerFillsRow.holds Try.pinned (OpenSpec.ofChange writerFillsSpec)

/-- ITS FALSE NEIGHBOUR: 'it returns false'. Refute it at one input. -/
def writerFillsWrong : ChangeSpec := { name := "writerFills", fn := fun _ => fun
  | [d1, d2] => { results := [.lit (.bool false)], args := [d1, d2] }
  | _ => none }
def WriterFillsWrongFalsely : Prop := writerFillsRow.holds Try.pinned (OpenSpec.ofChange writerFillsWrong)

/-- 'ladelaw22.WriterLeft': WHATEVER THE INPUT: true; the input reads as it did. -/
def writerLeftSpec : ChangeSpec := { name := "writerLeft", fn := fun _ => fun
  | [d1, d2] => { results := [.lit (.bool true)], args := [d1, d2] }
  | _ => none }
def writerLeftRow : OpenClaim := { program := "ytoaegleieacokaa", sum := "87bfb5fca2aacdbaeb85ab2db1523d6715fc9cb5e9db0bd689c626741e9b2e06", func := "lade/ladelaw22.WriterLeft", spec := "writerLeft", unfollowed := true, recurses := true, apart := false }
def WriterLeftSaid : Prop := writerLeftRow.holds Try.pinned (OpenSpec.ofChange writerLeftSpec)

/-- ITS FALSE NEIGHBOUR: 'it returns false'. Refute it at one input. -/
def writerLeftWrong : ChangeSpec := { name := "writerLeft", fn := fun _ => fun
  | [d1, d2] => { results := [.lit (.bool false)], args := [d1, d2] }
  | _ => none }
def WriterLeftWrongFalsely : Prop := writerLeftRow.holds Try.pinned (OpenSpec.ofChange writerLeftWrong)

/-- 'ladelaw8.DiskPlays': WHATEVER THE INPUT: true; the input reads as it did. -/
def diskPlaysSpec : ChangeSpec := { name := "diskPlays", fn := fun _ => fun
  | [d1, d2, d3] => { results := [.lit (.bool true)], args := [d1, d2, d3] }
  | _ => none }
def diskPlaysRow : OpenClaim := { program := "ytoaegleieacokaa", sum := "87bfb5fca2aacdbaeb85ab2db1523d6715fc9cb5e9db0bd689c626741e9b2e06", func := "lade/ladelaw8.DiskPlays", spec := "diskPlays", inPlace := ["maps.clone"], unfollowed := true, recurses := true, apart := false }
def DiskPlaysSaid : Prop := diskPlaysRow.holds Try.pinned (OpenSpec.ofChange diskPlaysSpec)

/-- ITS FALSE NEIGHBOUR: 'it returns false'. Refute it at one input. -/
def diskPlaysWrong : ChangeSpec := { name := "diskPlays", fn := fun _ => fun
  | [d1, d2, d3] => { results := [.lit (.bool false)], args := [d1, d2, d3] }
  | _ => none }
def DiskPlaysWrongFalsely : Prop := diskPlaysRow.holds Try.pinned (OpenSpec.ofChange diskPlaysWrong)

/-- 'ladelaw8.DiskKeeps': WHATEVER THE INPUT: true; the input reads as it did. -/
def diskKeepsSpec : ChangeSpec := { name := "diskKeeps", fn := fun _ => fun
  | [d1, d2, d3] => { results := [.lit (.bool true)], args := [d1, d2, d3] }
  | _ => none }
def diskKeepsRow : OpenClaim := { program := "ytoaegleieacokaa", sum := "87bfb5fca2aacdbaeb85ab2db1523d6715fc9cb5e9db0bd689c626741e9b2e06", func := "lade/ladelaw8.DiskKeeps", spec := "diskKeeps", inPlace := ["maps.clone"], unfollowed := true, recurses := true, apart := false }
def DiskKeepsSaid : Prop := diskKeepsRow.holds Try.pinned (OpenSpec.ofChange diskKeepsSpec)

/-- ITS FALSE NEIGHBOUR: 'it returns false'. Refute it at one input. -/
def diskKeepsWrong : ChangeSpec := { name := "diskKeeps", fn := fun _ => fun
  | [d1, d2, d3] => { results := [.lit (.bool false)], args := [d1, d2, d3] }
  | _ => none }
def DiskKeepsWrongFalsely : Prop := diskKeepsRow.holds Try.pinned (OpenSpec.ofChange diskKeepsWrong)

/-- 'ladelaw8.DiskRooms': WHATEVER THE INPUT: true; the input reads as it did. -/
def diskRoomsSpec : ChangeSpec := { name := "diskRooms", fn := fun _ => fun
  | [d1, d2] => { results := [.lit (.bool true)], args := [d1, d2] }
  | _ => none }
def diskRoomsRow : OpenClaim := { program := "ytoaegleieacokaa", sum := "87bfb5fca2aacdbaeb85ab2db1523d6715fc9cb5e9db0bd689c626741e9b2e06", func := "lade/ladelaw8.DiskRooms", spec := "diskRooms", inPlace := ["maps.clone"], unfollowed := true, recurses := true, apart := false }
def DiskRoomsSaid : Prop := diskRoomsRow.holds Try.pinned (OpenSpec.ofChange diskRoomsSpec)

/-- ITS FALSE NEIGHBOUR: 'it returns false'. Refute it at one input. -/
def diskRoomsWrong : ChangeSpec := { name := "diskRooms", fn := fun _ => fun
  | [d1, d2] => { results := [.lit (.bool false)], args := [d1, d2] }
  | _ => none }
def DiskRoomsWrongFalsely : Prop := diskRoomsRow.holds Try.pinned (OpenSpec.ofChange diskRoomsWrong)

/-- 'ladelaw8.DiskRenames': WHATEVER THE INPUT: true; the input reads as it did. -/
def diskRenamesSpec : ChangeSpec := { name := "diskRenames", fn := fun _ => fun
  | [d1, d2, d3, d4] => { results := [.lit (.bool true)], args := [d1, d2, d3, d4] }
  | _ => none }
def diskRenamesRow : OpenClaim := { program := "ytoaegleieacokaa", sum := "87bfb5fca2aacdbaeb85ab2db1523d6715fc9cb5e9db0bd689c626741e9b2e06", func := "lade/ladelaw8.DiskRenames", spec := "diskRenames", inPlace := ["maps.clone"], unfollowed := true, recurses := true, apart := false }
def DiskRenamesSaid : Prop := diskRenamesRow.holds Try.pinned (OpenSpec.ofChange diskRenamesSpec)

/-- ITS FALSE NEIGHBOUR: 'it returns false'. Refute it at one input. -/
def diskRenamesWrong : ChangeSpec := { name := "diskRenames", fn := fun _ => fun
  | [d1, d2, d3, d4] => { results := [.lit (.bool false)], args := [d1, d2, d3, d4] }
  | _ => none }
def DiskRenamesWrongFalsely : Prop := diskRenamesRow.holds Try.pinned (OpenSpec.ofChange diskRenamesWrong)

/-- 'ladelaw8.DiskCuts': WHATEVER THE INPUT: true; the input reads as it did. -/
def diskCutsSpec : ChangeSpec := { name := "diskCuts", fn := fun _ => fun
  | [d1, d2, d3] => { results := [.lit (.bool true)], args := [d1, d2, d3] }
  | _ => none }
def diskCutsRow : OpenClaim := { program := "ytoaegleieacokaa", sum := "87bfb5fca2aacdbaeb85ab2db1523d6715fc9cb5e9db0bd689c626741e9b2e06", func := "lade/ladelaw8.DiskCuts", spec := "diskCuts", inPlace := ["maps.clone"], unfollowed := true, recurses := true, apart := false }
def DiskCutsSaid : Prop := diskCutsRow.holds Try.pinned (OpenSpec.ofChange diskCutsSpec)

/-- ITS FALSE NEIGHBOUR: 'it returns false'. Refute it at one input. -/
def diskCutsWrong : ChangeSpec := { name := "diskCuts", fn := fun _ => fun
  | [d1, d2, d3] => { results := [.lit (.bool false)], args := [d1, d2, d3] }
  | _ => none }
def DiskCutsWrongFalsely : Prop := diskCutsRow.holds Try.pinned (OpenSpec.ofChange diskCutsWrong)

/-- 'ladelaw8.DiskLimits': WHATEVER THE INPUT: true; the input reads as it did. -/
def diskLimitsSpec : ChangeSpec := { name := "diskLimits", fn := fun _ => fun
  | [d1, d2] => { results := [.lit (.bool true)], args := [d1, d2] }
  | _ => none }
def diskLimitsRow : OpenClaim := { program := "ytoaegleieacokaa", sum := "87bfb5fca2aacdbaeb85ab2db1523d6715fc9cb5e9db0bd689c626741e9b2e06", func := "lade/ladelaw8.DiskLimits", spec := "diskLimits", inPlace := ["maps.clone"], unfollowed := true, recurses := true, apart := false }
def DiskLimitsSaid : Prop := diskLimitsRow.holds Try.pinned (OpenSpec.ofChange diskLimitsSpec)

/-- ITS FALSE NEIGHBOUR: 'it returns false'. Refute it at one input. -/
def diskLimitsWrong : ChangeSpec := { name := "diskLimits", fn := fun _ => fun
  | [d1, d2] => { results := [.lit (.bool false)], args := [d1, d2] }
  | _ => none }
def DiskLimitsWrongFalsely : Prop := diskLimitsRow.holds Try.pinned (OpenSpec.ofChange diskLimitsWrong)

/-- 'ladelaw9.SheetKeeps': WHATEVER THE INPUT: true; the input reads as it did. -/
def sheetKeepsSpec : ChangeSpec := { name := "sheetKeeps", fn := fun _ => fun
  | [d1, d2, d3, d4, d5] => { results := [.lit (.bool true)], args := [d1, d2, d3, d4, d5] }
  | _ => none }
def sheetKeepsRow : OpenClaim := { program := "ytoaegleieacokaa", sum := "87bfb5fca2aacdbaeb85ab2db1523d6715fc9cb5e9db0bd689c626741e9b2e06", func := "lade/ladelaw9.SheetKeeps", spec := "sheetKeeps", unfollowed := true, recurses := true, apart := false }
def SheetKeepsSaid : Prop := sheetKeepsRow.holds Try.pinned (OpenSpec.ofChange sheetKeepsSpec)

/-- ITS FALSE NEIGHBOUR: 'it returns false'. Refute it at one input. -/
def sheetKeepsWrong : ChangeSpec := { name := "sheetKeeps", fn := fun _ => fun
  | [d1, d2, d3, d4, d5] => { results := [.lit (.bool false)], args := [d1, d2, d3, d4, d5] }
  | _ => none }
def SheetKeepsWrongFalsely : Prop := sheetKeepsRow.holds Try.pinned (OpenSpec.ofChange sheetKeepsWrong)

/- THE SECOND FORM. 'bulk': how many values and letters a reading holds, each counted each time it is reached (what is shared counts as often as it is met; a slice's spare places count too). A statement '..UptoSaid' is the law's where the arguments, and the package variables that the reading takes, are together of bulk at most 1048576: NARROWER than '..Said'. Prove '..Said' where nothing that the law and all that it calls make is longer than what came in: it says more and counts as full. Else prove '..UptoSaid'. A law counts once. -/
mutual
def uptoBulk {H : Type} : DataW H → Nat
  | .lit (.string bytes) => bytes.length + 1
  | .lit _ => 1
  | .nil => 1
  | .ptr d => uptoBulk d + 1
  | .slice elems spare => uptoBulkAll elems + uptoBulkAll spare + 1
  | .agg parts => uptoBulkAll parts + 1
  | .iface _ d => uptoBulk d + 1
  | .map entries => uptoBulkEntries entries + 1
  | .held _ => 1
def uptoBulkAll {H : Type} : List (DataW H) → Nat
  | [] => 0
  | d :: r => uptoBulk d + uptoBulkAll r
def uptoBulkEntries {H : Type} : List (Lit × DataW H) → Nat
  | [] => 0
  | x :: r => uptoBulkEntry x + uptoBulkEntries r
def uptoBulkEntry {H : Type} : Lit × DataW H → Nat
  | (.string bytes, d) => bytes.length + uptoBulk d + 1
  | (_, d) => uptoBulk d + 1
 end
def uptoSmall : (H : Type) → List (DataW H) → Bool := fun _ ds => decide (uptoBulkAll ds ≤ 1048576)
def OpenSpec.upto (s : _root_.Go.ChangeSpec) : _root_.Go.OpenSpec := { _root_.Go.OpenSpec.ofChange s with cond := some uptoSmall }

/-- 'ladelaw9.SheetTells', WHERE WHAT IT READS IS OF BULK AT MOST 1048576: true; the input reads as it did. -/
def sheetTellsUptoRow : OpenClaim := { program := "ytoaegleieacokaa", sum := "87bfb5fca2aacdbaeb85ab2db1523d6715fc9cb5e9db0bd689c626741e9b2e06", func := "lade/ladelaw9.SheetTells", spec := "sheetTells", unfollowed := true, recurses := true, apart := false, narrowed := true }
def SheetTellsUptoSaid : Prop := sheetTellsUptoRow.holds Try.pinned (OpenSpec.upto sheetTellsSpec)

/-- 'ladelaw9.SheetFull', WHERE WHAT IT READS IS OF BULK AT MOST 1048576: true; the input reads as it did. -/
def sheetFullUptoRow : OpenClaim := { program := "ytoaegleieacokaa", sum := "87bfb5fca2aacdbaeb85ab2db1523d6715fc9cb5e9db0bd689c626741e9b2e06", func := "lade/ladelaw9.SheetFull", spec := "sheetFull", unfollowed := true, recurses := true, apart := false, narrowed := true }
def SheetFullUptoSaid : Prop := sheetFullUptoRow.holds Try.pinned (OpenSpec.upto sheetFullSpec)

/-- 'ladelaw9.SheetSizes', WHERE WHAT IT READS IS OF BULK AT MOST 1048576: true; the input reads as it did. -/
def sheetSizesUptoRow : OpenClaim := { program := "ytoaegleieacokaa", sum := "87bfb5fca2aacdbaeb85ab2db1523d6715fc9cb5e9db0bd689c626741e9b2e06", func := "lade/ladelaw9.SheetSizes", spec := "sheetSizes", unfollowed := true, recurses := true, apart := false, narrowed := true }
def SheetSizesUptoSaid : Prop := sheetSizesUptoRow.holds Try.pinned (OpenSpec.upto sheetSizesSpec)

/-- 'ladelaw9.SheetBursts', WHERE WHAT IT READS IS OF BULK AT MOST 1048576: true; the input reads as it did. -/
def sheetBurstsUptoRow : OpenClaim := { program := "ytoaegleieacokaa", sum := "87bfb5fca2aacdbaeb85ab2db1523d6715fc9cb5e9db0bd689c626741e9b2e06", func := "lade/ladelaw9.SheetBursts", spec := "sheetBursts", unfollowed := true, recurses := true, apart := false, narrowed := true }
def SheetBurstsUptoSaid : Prop := sheetBurstsUptoRow.holds Try.pinned (OpenSpec.upto sheetBurstsSpec)

/-- 'ladelaw22.WriterFull', WHERE WHAT IT READS IS OF BULK AT MOST 1048576: true; the input reads as it did. -/
def writerFullUptoRow : OpenClaim := { program := "ytoaegleieacokaa", sum := "87bfb5fca2aacdbaeb85ab2db1523d6715fc9cb5e9db0bd689c626741e9b2e06", func := "lade/ladelaw22.WriterFull", spec := "writerFull", unfollowed := true, recurses := true, apart := false, narrowed := true }
def WriterFullUptoSaid : Prop := writerFullUptoRow.holds Try.pinned (OpenSpec.upto writerFullSpec)

/-- 'ladelaw22.WriterFills', WHERE WHAT IT READS IS OF BULK AT MOST 1048576: true; the input reads as it did. -/
def writerFillsUptoRow : OpenClaim := { program := "ytoaegleieacokaa", sum := "87bfb5fca2aacdbaeb85ab2db1523d6715fc9cb5e9db0bd689c626741e9b2e06", func := "lade/ladelaw22.WriterFills", spec := "writerFills", unfollowed := true, recurses := true, apart := false, narrowed := true }
def WriterFillsUptoSaid : Prop := writerFillsUptoRow.holds Try.pinned (OpenSpec.upto writerFillsSpec)

/-- 'ladelaw22.WriterLeft', WHERE WHAT IT READS IS OF BULK AT MOST 1048576: true; the input reads as it did. -/
def writerLeftUptoRow : OpenClaim := { program := "ytoaegleieacokaa", sum := "87bfb5fca2aacdbaeb85ab2db1523d6715fc9cb5e9db0bd689c626741e9b2e06", func := "lade/ladelaw22.WriterLeft", spec := "writerLeft", unfollowed := true, recurses := true, apart := false, narrowed := true }
def WriterLeftUptoSaid : Prop := writerLeftUptoRow.holds Try.pinned (OpenSpec.upto writerLeftSpec)

/-- 'ladelaw8.DiskPlays', WHERE WHAT IT READS IS OF BULK AT MOST 1048576: true; the input reads as it did. -/
def diskPlaysUptoRow : OpenClaim := { program := "ytoaegleieacokaa", sum := "87bfb5fca2aacdbaeb85ab2db1523d6715fc9cb5e9db0bd689c626741e9b2e06", func := "lade/ladelaw8.DiskPlays", spec := "diskPlays", inPlace := ["maps.clone"], unfollowed := true, recurses := true, apart := false, narrowed := true }
def DiskPlaysUptoSaid : Prop := diskPlaysUptoRow.holds Try.pinned (OpenSpec.upto diskPlaysSpec)

/-- 'ladelaw8.DiskKeeps', WHERE WHAT IT READS IS OF BULK AT MOST 1048576: true; the input reads as it did. -/
def diskKeepsUptoRow : OpenClaim := { program := "ytoaegleieacokaa", sum := "87bfb5fca2aacdbaeb85ab2db1523d6715fc9cb5e9db0bd689c626741e9b2e06", func := "lade/ladelaw8.DiskKeeps", spec := "diskKeeps", inPlace := ["maps.clone"], unfollowed := true, recurses := true, apart := false, narrowed := true }
def DiskKeepsUptoSaid : Prop := diskKeepsUptoRow.holds Try.pinned (OpenSpec.upto diskKeepsSpec)

/-- 'ladelaw8.DiskRooms', WHERE WHAT IT READS IS OF BULK AT MOST 1048576: true; the input reads as it did. -/
def diskRoomsUptoRow : OpenClaim := { program := "ytoaegleieacokaa", sum := "87bfb5fca2aacdbaeb85ab2db1523d6715fc9cb5e9db0bd689c626741e9b2e06", func := "lade/ladelaw8.DiskRooms", spec := "diskRooms", inPlace := ["maps.clone"], unfollowed := true, recurses := true, apart := false, narrowed := true }
def DiskRoomsUptoSaid : Prop := diskRoomsUptoRow.holds Try.pinned (OpenSpec.upto diskRoomsSpec)

/-- 'ladelaw8.DiskRenames', WHERE WHAT IT READS IS OF BULK AT MOST 1048576: true; the input reads as it did. -/
def diskRenamesUptoRow : OpenClaim := { program := "ytoaegleieacokaa", sum := "87bfb5fca2aacdbaeb85ab2db1523d6715fc9cb5e9db0bd689c626741e9b2e06", func := "lade/ladelaw8.DiskRenames", spec := "diskRenames", inPlace := ["maps.clone"], unfollowed := true, recurses := true, apart := false, narrowed := true }
def DiskRenamesUptoSaid : Prop := diskRenamesUptoRow.holds Try.pinned (OpenSpec.upto diskRenamesSpec)

/-- 'ladelaw8.DiskCuts', WHERE WHAT IT READS IS OF BULK AT MOST 1048576: true; the input reads as it did. -/
def diskCutsUptoRow : OpenClaim := { program := "ytoaegleieacokaa", sum := "87bfb5fca2aacdbaeb85ab2db1523d6715fc9cb5e9db0bd689c626741e9b2e06", func := "lade/ladelaw8.DiskCuts", spec := "diskCuts", inPlace := ["maps.clone"], unfollowed := true, recurses := true, apart := false, narrowed := true }
def DiskCutsUptoSaid : Prop := diskCutsUptoRow.holds Try.pinned (OpenSpec.upto diskCutsSpec)

/-- 'ladelaw8.DiskLimits', WHERE WHAT IT READS IS OF BULK AT MOST 1048576: true; the input reads as it did. -/
def diskLimitsUptoRow : OpenClaim := { program := "ytoaegleieacokaa", sum := "87bfb5fca2aacdbaeb85ab2db1523d6715fc9cb5e9db0bd689c626741e9b2e06", func := "lade/ladelaw8.DiskLimits", spec := "diskLimits", inPlace := ["maps.clone"], unfollowed := true, recurses := true, apart := false, narrowed := true }
def DiskLimitsUptoSaid : Prop := diskLimitsUptoRow.holds Try.pinned (OpenSpec.upto diskLimitsSpec)

/-- 'ladelaw9.SheetKeeps', WHERE WHAT IT READS IS OF BULK AT MOST 1048576: true; the input reads as it did. -/
def sheetKeepsUptoRow : OpenClaim := { program := "ytoaegleieacokaa", sum := "87bfb5fca2aacdbaeb85ab2db1523d6715fc9cb5e9db0bd689c626741e9b2e06", func := "lade/ladelaw9.SheetKeeps", spec := "sheetKeeps", unfollowed := true, recurses := true, apart := false, narrowed := true }
def SheetKeepsUptoSaid : Prop := sheetKeepsUptoRow.holds Try.pinned (OpenSpec.upto sheetKeepsSpec)

end Rows
end Go.Proofs.Ytoaegleieacokaa
