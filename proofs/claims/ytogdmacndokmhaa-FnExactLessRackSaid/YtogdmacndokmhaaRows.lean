/-
  No cell of these rows narrows 'for every input' (looked for: loops, veiled, ifaces, maps, wideKeys, modest, calm, conditions, laid).
  DERIVED. THE GIVEN ROWS OF THIS SEAT. 12 by the template 'for every input the law returns true; each argument reads behind the call as it read before'; 0 by the template 'total and deterministic' (their statements: YtogdmacndokmhaaTotals.lean).
  GIVEN WITH THE SEED: the statements are not yours to turn. If you find one false, say at which input.
  Laid BY PROGRAM, IN A SANDBOX (cutbox-rows.mjs): the forced cells as the released guide's own fill.sh prints them over the translation 3db63db2fe1d69d0… (all of the seat's roots in one cut). By AI agents, Wed Nov 11 2026. No macro, syntax, notation, axiom, sorry.
-/
import Derived.Test.YtogdmacndokmhaaChecked
import GoSem.Claim
import GoSem.ClaimJoined
import GoSem.ClaimMapViews
import Derived.JoinedTies
import Derived.KernelRfl
namespace Go.Proofs.Ytogdmacndokmhaa
/- THE CELL 'sum', in the pinned program and in every row, IS THE sha256 OF THE DUMP (.gsa) THAT YtogdmacndokmhaaProg.lean LOADS. Nothing in Lean hashes anything: it is a label: what it is worth is what the hold of that sum in a sandbox is worth. -/
noncomputable def Try.pinned : Pinned := { name := "ytogdmacndokmhaa", sum := "3db63db2fe1d69d0f3759906ef1a9971a265a5b57e465b790e553d3b1dd008d7", checked := Try.checked }
namespace Rows
def none {H : Type} : Left H := { results := [], args := [] }

/-- 'laws.FnExactChanceBelow': WHATEVER THE INPUT: true; the input reads as it did. -/
def fnExactChanceBelowSpec : ChangeSpec := { name := "fnExactChanceBelow", fn := fun _ => fun
  | [d1, d2, d3] => { results := [.lit (.bool true)], args := [d1, d2, d3] }
  | _ => none }
def fnExactChanceBelowRow : OpenClaim := { program := "ytogdmacndokmhaa", sum := "3db63db2fe1d69d0f3759906ef1a9971a265a5b57e465b790e553d3b1dd008d7", func := "loop.example/g01215/laws.FnExactChanceBelow", spec := "fnExactChanceBelow", unfollowed := true, recurses := true, apart := false }
def FnExactChanceBelowSaid : Prop := fnExactChanceBelowRow.holds Try.pinned (OpenSpec.ofChange fnExactChanceBelowSpec)

/-- ITS FALSE NEIGHBOUR: 'it returns false'. Refute it at one input. -/
def fnExactChanceBelowWrong : ChangeSpec := { name := "fnExactChanceBelow", fn := fun _ => fun
  | [d1, d2, d3] => { results := [.lit (.bool false)], args := [d1, d2, d3] }
  | _ => none }
def FnExactChanceBelowWrongFalsely : Prop := fnExactChanceBelowRow.holds Try.pinned (OpenSpec.ofChange fnExactChanceBelowWrong)

/-- 'laws.FnExactCanPour': WHATEVER THE INPUT: true; the input reads as it did. -/
def fnExactCanPourSpec : ChangeSpec := { name := "fnExactCanPour", fn := fun _ => fun
  | [d1, d2, d3] => { results := [.lit (.bool true)], args := [d1, d2, d3] }
  | _ => none }
def fnExactCanPourRow : OpenClaim := { program := "ytogdmacndokmhaa", sum := "3db63db2fe1d69d0f3759906ef1a9971a265a5b57e465b790e553d3b1dd008d7", func := "loop.example/g01215/laws.FnExactCanPour", spec := "fnExactCanPour", unfollowed := true, recurses := true, apart := false }
def FnExactCanPourSaid : Prop := fnExactCanPourRow.holds Try.pinned (OpenSpec.ofChange fnExactCanPourSpec)

/-- ITS FALSE NEIGHBOUR: 'it returns false'. Refute it at one input. -/
def fnExactCanPourWrong : ChangeSpec := { name := "fnExactCanPour", fn := fun _ => fun
  | [d1, d2, d3] => { results := [.lit (.bool false)], args := [d1, d2, d3] }
  | _ => none }
def FnExactCanPourWrongFalsely : Prop := fnExactCanPourRow.holds Try.pinned (OpenSpec.ofChange fnExactCanPourWrong)

/-- 'laws.FnExactCountBoundaries': WHATEVER THE INPUT: true; the input reads as it did. -/
def fnExactCountBoundariesSpec : ChangeSpec := { name := "fnExactCountBoundaries", fn := fun _ => fun
  | [d] => { results := [.lit (.bool true)], args := [d] }
  | _ => none }
def fnExactCountBoundariesRow : OpenClaim := { program := "ytogdmacndokmhaa", sum := "3db63db2fe1d69d0f3759906ef1a9971a265a5b57e465b790e553d3b1dd008d7", func := "loop.example/g01215/laws.FnExactCountBoundaries", spec := "fnExactCountBoundaries", unfollowed := true, recurses := true, apart := false }
def FnExactCountBoundariesSaid : Prop := fnExactCountBoundariesRow.holds Try.pinned (OpenSpec.ofChange fnExactCountBoundariesSpec)

/-- ITS FALSE NEIGHBOUR: 'it returns false'. Refute it at one input. -/
def fnExactCountBoundariesWrong : ChangeSpec := { name := "fnExactCountBoundaries", fn := fun _ => fun
  | [d] => { results := [.lit (.bool false)], args := [d] }
  | _ => none }
def FnExactCountBoundariesWrongFalsely : Prop := fnExactCountBoundariesRow.holds Try.pinned (OpenSpec.ofChange fnExactCountBoundariesWrong)

/-- 'laws.FnExactLessRack': WHATEVER THE INPUT: true; the input reads as it did. -/
def fnExactLessRackSpec : ChangeSpec := { name := "fnExactLessRack", fn := fun _ => fun
  | [d1, d2] => { results := [.lit (.bool true)], args := [d1, d2] }
  | _ => none }
def fnExactLessRackRow : OpenClaim := { program := "ytogdmacndokmhaa", sum := "3db63db2fe1d69d0f3759906ef1a9971a265a5b57e465b790e553d3b1dd008d7", func := "loop.example/g01215/laws.FnExactLessRack", spec := "fnExactLessRack", unfollowed := true, recurses := true, apart := false }
def FnExactLessRackSaid : Prop := fnExactLessRackRow.holds Try.pinned (OpenSpec.ofChange fnExactLessRackSpec)

/-- ITS FALSE NEIGHBOUR: 'it returns false'. Refute it at one input. -/
def fnExactLessRackWrong : ChangeSpec := { name := "fnExactLessRack", fn := fun _ => fun
  | [d1, d2] => { results := [.lit (.bool false)], args := [d1, d2] }
  | _ => none }
def FnExactLessRackWrongFalsely : Prop := fnExactLessRackRow.holds Try.pinned (OpenSpec.ofChange fnExactLessRackWrong)

/-- 'laws.FnExactIsSorted': WHATEVER THE INPUT: true; the input reads as it did. -/
def fnExactIsSortedSpec : ChangeSpec := { name := "fnExactIsSorted", fn := fun _ => fun
  | [d] => { results := [.lit (.bool true)], args := [d] }
  | _ => none }
def fnExactIsSortedRow : OpenClaim := { program := "ytogdmacndokmhaa", sum := "3db63db2fe1d69d0f3759906ef1a9971a265a5b57e465b790e553d3b1dd008d7", func := "loop.example/g01215/laws.FnExactIsSorted", spec := "fnExactIsSorted", unfollowed := true, recurses := true, apart := false }
def FnExactIsSortedSaid : Prop := fnExactIsSortedRow.holds Try.pinned (OpenSpec.ofChange fnExactIsSortedSpec)

/-- ITS FALSE NEIGHBOUR: 'it returns false'. Refute it at one input. -/
def fnExactIsSortedWrong : ChangeSpec := { name := "fnExactIsSorted", fn := fun _ => fun
  | [d] => { results := [.lit (.bool false)], args := [d] }
  | _ => none }
def FnExactIsSortedWrongFalsely : Prop := fnExactIsSortedRow.holds Try.pinned (OpenSpec.ofChange fnExactIsSortedWrong)

/-- 'laws.FnExactRunsOf': WHATEVER THE INPUT: true; the input reads as it did. -/
def fnExactRunsOfSpec : ChangeSpec := { name := "fnExactRunsOf", fn := fun _ => fun
  | [d1, d2] => { results := [.lit (.bool true)], args := [d1, d2] }
  | _ => none }
def fnExactRunsOfRow : OpenClaim := { program := "ytogdmacndokmhaa", sum := "3db63db2fe1d69d0f3759906ef1a9971a265a5b57e465b790e553d3b1dd008d7", func := "loop.example/g01215/laws.FnExactRunsOf", spec := "fnExactRunsOf", unfollowed := true, recurses := true, apart := false }
def FnExactRunsOfSaid : Prop := fnExactRunsOfRow.holds Try.pinned (OpenSpec.ofChange fnExactRunsOfSpec)

/-- ITS FALSE NEIGHBOUR: 'it returns false'. Refute it at one input. -/
def fnExactRunsOfWrong : ChangeSpec := { name := "fnExactRunsOf", fn := fun _ => fun
  | [d1, d2] => { results := [.lit (.bool false)], args := [d1, d2] }
  | _ => none }
def FnExactRunsOfWrongFalsely : Prop := fnExactRunsOfRow.holds Try.pinned (OpenSpec.ofChange fnExactRunsOfWrong)

/-- 'laws.FnExactSpareRuns': WHATEVER THE INPUT: true; the input reads as it did. -/
def fnExactSpareRunsSpec : ChangeSpec := { name := "fnExactSpareRuns", fn := fun _ => fun
  | [d] => { results := [.lit (.bool true)], args := [d] }
  | _ => none }
def fnExactSpareRunsRow : OpenClaim := { program := "ytogdmacndokmhaa", sum := "3db63db2fe1d69d0f3759906ef1a9971a265a5b57e465b790e553d3b1dd008d7", func := "loop.example/g01215/laws.FnExactSpareRuns", spec := "fnExactSpareRuns", unfollowed := true, recurses := true, apart := false }
def FnExactSpareRunsSaid : Prop := fnExactSpareRunsRow.holds Try.pinned (OpenSpec.ofChange fnExactSpareRunsSpec)

/-- ITS FALSE NEIGHBOUR: 'it returns false'. Refute it at one input. -/
def fnExactSpareRunsWrong : ChangeSpec := { name := "fnExactSpareRuns", fn := fun _ => fun
  | [d] => { results := [.lit (.bool false)], args := [d] }
  | _ => none }
def FnExactSpareRunsWrongFalsely : Prop := fnExactSpareRunsRow.holds Try.pinned (OpenSpec.ofChange fnExactSpareRunsWrong)

/-- 'laws.FnExactBoundOf': WHATEVER THE INPUT: true; the input reads as it did. -/
def fnExactBoundOfSpec : ChangeSpec := { name := "fnExactBoundOf", fn := fun _ => fun
  | [d] => { results := [.lit (.bool true)], args := [d] }
  | _ => none }
def fnExactBoundOfRow : OpenClaim := { program := "ytogdmacndokmhaa", sum := "3db63db2fe1d69d0f3759906ef1a9971a265a5b57e465b790e553d3b1dd008d7", func := "loop.example/g01215/laws.FnExactBoundOf", spec := "fnExactBoundOf", unfollowed := true, recurses := true, apart := false }
def FnExactBoundOfSaid : Prop := fnExactBoundOfRow.holds Try.pinned (OpenSpec.ofChange fnExactBoundOfSpec)

/-- ITS FALSE NEIGHBOUR: 'it returns false'. Refute it at one input. -/
def fnExactBoundOfWrong : ChangeSpec := { name := "fnExactBoundOf", fn := fun _ => fun
  | [d] => { results := [.lit (.bool false)], args := [d] }
  | _ => none }
def FnExactBoundOfWrongFalsely : Prop := fnExactBoundOfRow.holds Try.pinned (OpenSpec.ofChange fnExactBoundOfWrong)

/-- 'laws.FnExactChanceTop': WHATEVER THE INPUT: true; the input reads as it did. -/
def fnExactChanceTopSpec : ChangeSpec := { name := "fnExactChanceTop", fn := fun _ => fun
  | [d1, d2, d3] => { results := [.lit (.bool true)], args := [d1, d2, d3] }
  | _ => none }
def fnExactChanceTopRow : OpenClaim := { program := "ytogdmacndokmhaa", sum := "3db63db2fe1d69d0f3759906ef1a9971a265a5b57e465b790e553d3b1dd008d7", func := "loop.example/g01215/laws.FnExactChanceTop", spec := "fnExactChanceTop", unfollowed := true, recurses := true, apart := false }
def FnExactChanceTopSaid : Prop := fnExactChanceTopRow.holds Try.pinned (OpenSpec.ofChange fnExactChanceTopSpec)

/-- ITS FALSE NEIGHBOUR: 'it returns false'. Refute it at one input. -/
def fnExactChanceTopWrong : ChangeSpec := { name := "fnExactChanceTop", fn := fun _ => fun
  | [d1, d2, d3] => { results := [.lit (.bool false)], args := [d1, d2, d3] }
  | _ => none }
def FnExactChanceTopWrongFalsely : Prop := fnExactChanceTopRow.holds Try.pinned (OpenSpec.ofChange fnExactChanceTopWrong)

/-- 'laws.FnExactIsUndone': WHATEVER THE INPUT: true; the input reads as it did. -/
def fnExactIsUndoneSpec : ChangeSpec := { name := "fnExactIsUndone", fn := fun _ => fun
  | [d1, d2, d3] => { results := [.lit (.bool true)], args := [d1, d2, d3] }
  | _ => none }
def fnExactIsUndoneRow : OpenClaim := { program := "ytogdmacndokmhaa", sum := "3db63db2fe1d69d0f3759906ef1a9971a265a5b57e465b790e553d3b1dd008d7", func := "loop.example/g01215/laws.FnExactIsUndone", spec := "fnExactIsUndone", unfollowed := true, recurses := true, apart := false }
def FnExactIsUndoneSaid : Prop := fnExactIsUndoneRow.holds Try.pinned (OpenSpec.ofChange fnExactIsUndoneSpec)

/-- ITS FALSE NEIGHBOUR: 'it returns false'. Refute it at one input. -/
def fnExactIsUndoneWrong : ChangeSpec := { name := "fnExactIsUndone", fn := fun _ => fun
  | [d1, d2, d3] => { results := [.lit (.bool false)], args := [d1, d2, d3] }
  | _ => none }
def FnExactIsUndoneWrongFalsely : Prop := fnExactIsUndoneRow.holds Try.pinned (OpenSpec.ofChange fnExactIsUndoneWrong)

/-- 'laws.FnExactViewOf': WHATEVER THE INPUT: true; the input reads as it did. -/
def fnExactViewOfSpec : ChangeSpec := { name := "fnExactViewOf", fn := fun _ => fun
  | [d] => { results := [.lit (.bool true)], args := [d] }
  | _ => none }
def fnExactViewOfRow : OpenClaim := { program := "ytogdmacndokmhaa", sum := "3db63db2fe1d69d0f3759906ef1a9971a265a5b57e465b790e553d3b1dd008d7", func := "loop.example/g01215/laws.FnExactViewOf", spec := "fnExactViewOf", unfollowed := true, recurses := true, apart := false }
def FnExactViewOfSaid : Prop := fnExactViewOfRow.holds Try.pinned (OpenSpec.ofChange fnExactViewOfSpec)

/-- ITS FALSE NEIGHBOUR: 'it returns false'. Refute it at one input. -/
def fnExactViewOfWrong : ChangeSpec := { name := "fnExactViewOf", fn := fun _ => fun
  | [d] => { results := [.lit (.bool false)], args := [d] }
  | _ => none }
def FnExactViewOfWrongFalsely : Prop := fnExactViewOfRow.holds Try.pinned (OpenSpec.ofChange fnExactViewOfWrong)

/-- 'laws.FnExactRackText': WHATEVER THE INPUT: true; the input reads as it did. -/
def fnExactRackTextSpec : ChangeSpec := { name := "fnExactRackText", fn := fun _ => fun
  | [d] => { results := [.lit (.bool true)], args := [d] }
  | _ => none }
def fnExactRackTextRow : OpenClaim := { program := "ytogdmacndokmhaa", sum := "3db63db2fe1d69d0f3759906ef1a9971a265a5b57e465b790e553d3b1dd008d7", func := "loop.example/g01215/laws.FnExactRackText", spec := "fnExactRackText", inPlace := ["internal/abi.NoEscape", "internal/bytealg.MakeNoZero"], unfollowed := true, recurses := true, apart := false }
def FnExactRackTextSaid : Prop := fnExactRackTextRow.holds Try.pinned (OpenSpec.ofChange fnExactRackTextSpec)

/-- ITS FALSE NEIGHBOUR: 'it returns false'. Refute it at one input. -/
def fnExactRackTextWrong : ChangeSpec := { name := "fnExactRackText", fn := fun _ => fun
  | [d] => { results := [.lit (.bool false)], args := [d] }
  | _ => none }
def FnExactRackTextWrongFalsely : Prop := fnExactRackTextRow.holds Try.pinned (OpenSpec.ofChange fnExactRackTextWrong)

/- THE SECOND FORM. 'bulk': how many values and letters a reading holds, each counted each time it is reached (what is shared counts as often as it is met; a slice's spare places count too). A statement '..UptoSaid' is the law's where the arguments, and the package variables that the reading takes, are together of bulk at most 1048576: NARROWER than '..Said'. Prove '..Said' where nothing that the law and all that it calls make is longer than what came in: it says more and counts as full. Else prove '..UptoSaid'. A law counts once. -/
mutual
def uptoBulk {H : Type} : DataW H → Nat
  | .lit (.string bytes) => bytes.length + 1
  | .lit _ => 1
  | .nil => 1
  | .ptr d => uptoBulk d + 1
  | .slice elems spare => uptoBulkAll elems + uptoBulkAll spare + 1
  | .agg parts => uptoBulkAll parts + 1
  | .iface _ d => uptoBulk d + 1
  | .map entries => uptoBulkEntries entries + 1
  | .held _ => 1
def uptoBulkAll {H : Type} : List (DataW H) → Nat
  | [] => 0
  | d :: r => uptoBulk d + uptoBulkAll r
def uptoBulkEntries {H : Type} : List (Lit × DataW H) → Nat
  | [] => 0
  | x :: r => uptoBulkEntry x + uptoBulkEntries r
def uptoBulkEntry {H : Type} : Lit × DataW H → Nat
  | (.string bytes, d) => bytes.length + uptoBulk d + 1
  | (_, d) => uptoBulk d + 1
 end
def uptoSmall : (H : Type) → List (DataW H) → Bool := fun _ ds => decide (uptoBulkAll ds ≤ 1048576)
def OpenSpec.upto (s : _root_.Go.ChangeSpec) : _root_.Go.OpenSpec := { _root_.Go.OpenSpec.ofChange s with cond := some uptoSmall }

/-- 'laws.FnExactChanceBelow', WHERE WHAT IT READS IS OF BULK AT MOST 1048576: true; the input reads as it did. -/
def fnExactChanceBelowUptoRow : OpenClaim := { program := "ytogdmacndokmhaa", sum := "3db63db2fe1d69d0f3759906ef1a9971a265a5b57e465b790e553d3b1dd008d7", func := "loop.example/g01215/laws.FnExactChanceBelow", spec := "fnExactChanceBelow", unfollowed := true, recurses := true, apart := false, narrowed := true }
def FnExactChanceBelowUptoSaid : Prop := fnExactChanceBelowUptoRow.holds Try.pinned (OpenSpec.upto fnExactChanceBelowSpec)

/-- 'laws.FnExactCanPour', WHERE WHAT IT READS IS OF BULK AT MOST 1048576: true; the input reads as it did. -/
def fnExactCanPourUptoRow : OpenClaim := { program := "ytogdmacndokmhaa", sum := "3db63db2fe1d69d0f3759906ef1a9971a265a5b57e465b790e553d3b1dd008d7", func := "loop.example/g01215/laws.FnExactCanPour", spec := "fnExactCanPour", unfollowed := true, recurses := true, apart := false, narrowed := true }
def FnExactCanPourUptoSaid : Prop := fnExactCanPourUptoRow.holds Try.pinned (OpenSpec.upto fnExactCanPourSpec)

/-- 'laws.FnExactCountBoundaries', WHERE WHAT IT READS IS OF BULK AT MOST 1048576: true; the input reads as it did. -/
def fnExactCountBoundariesUptoRow : OpenClaim := { program := "ytogdmacndokmhaa", sum := "3db63db2fe1d69d0f3759906ef1a9971a265a5b57e465b790e553d3b1dd008d7", func := "loop.example/g01215/laws.FnExactCountBoundaries", spec := "fnExactCountBoundaries", unfollowed := true, recurses := true, apart := false, narrowed := true }
def FnExactCountBoundariesUptoSaid : Prop := fnExactCountBoundariesUptoRow.holds Try.pinned (OpenSpec.upto fnExactCountBoundariesSpec)

/-- 'laws.FnExactLessRack', WHERE WHAT IT READS IS OF BULK AT MOST 1048576: true; the input reads as it did. -/
def fnExactLessRackUptoRow : OpenClaim := { program := "ytogdmacndokmhaa", sum := "3db63db2fe1d69d0f3759906ef1a9971a265a5b57e465b790e553d3b1dd008d7", func := "loop.example/g01215/laws.FnExactLessRack", spec := "fnExactLessRack", unfollowed := true, recurses := true, apart := false, narrowed := true }
def FnExactLessRackUptoSaid : Prop := fnExactLessRackUptoRow.holds Try.pinned (OpenSpec.upto fnExactLessRackSpec)

/-- 'laws.FnExactIsSorted', WHERE WHAT IT READS IS OF BULK AT MOST 1048576: true; the input reads as it did. -/
def fnExactIsSortedUptoRow : OpenClaim := { program := "ytogdmacndokmhaa", sum := "3db63db2fe1d69d0f3759906ef1a9971a265a5b57e465b790e553d3b1dd008d7", func := "loop.example/g01215/laws.FnExactIsSorted", spec := "fnExactIsSorted", unfollowed := true, recurses := true, apart := false, narrowed := true }
def FnExactIsSortedUptoSaid : Prop := fnExactIsSortedUptoRow.holds Try.pinned (OpenSpec.upto fnExactIsSortedSpec)

/-- 'laws.FnExactRunsOf', WHERE WHAT IT READS IS OF BULK AT MOST 1048576: true; the input reads as it did. -/
def fnExactRunsOfUptoRow : OpenClaim := { program := "ytogdmacndokmhaa", sum := "3db63db2fe1d69d0f3759906ef1a9971a265a5b57e465b790e553d3b1dd008d7", func := "loop.example/g01215/laws.FnExactRunsOf", spec := "fnExactRunsOf", unfollowed := true, recurses := true, apart := false, narrowed := true }
def FnExactRunsOfUptoSaid : Prop := fnExactRunsOfUptoRow.holds Try.pinned (OpenSpec.upto fnExactRunsOfSpec)

/-- 'laws.FnExactSpareRuns', WHERE WHAT IT READS IS OF BULK AT MOST 1048576: true; the input reads as it did. -/
def fnExactSpareRunsUptoRow : OpenClaim := { program := "ytogdmacndokmhaa", sum := "3db63db2fe1d69d0f3759906ef1a9971a265a5b57e465b790e553d3b1dd008d7", func := "loop.example/g01215/laws.FnExactSpareRuns", spec := "fnExactSpareRuns", unfollowed := true, recurses := true, apart := false, narrowed := true }
def FnExactSpareRunsUptoSaid : Prop := fnExactSpareRunsUptoRow.holds Try.pinned (OpenSpec.upto fnExactSpareRunsSpec)

/-- 'laws.FnExactBoundOf', WHERE WHAT IT READS IS OF BULK AT MOST 1048576: true; the input reads as it did. -/
def fnExactBoundOfUptoRow : OpenClaim := { program := "ytogdmacndokmhaa", sum := "3db63db2fe1d69d0f3759906ef1a9971a265a5b57e465b790e553d3b1dd008d7", func := "loop.example/g01215/laws.FnExactBoundOf", spec := "fnExactBoundOf", unfollowed := true, recurses := true, apart := false, narrowed := true }
def FnExactBoundOfUptoSaid : Prop := fnExactBoundOfUptoRow.holds Try.pinned (OpenSpec.upto fnExactBoundOfSpec)

/-- 'laws.FnExactChanceTop', WHERE WHAT IT READS IS OF BULK AT MOST 1048576: true; the input reads as it did. -/
def fnExactChanceTopUptoRow : OpenClaim := { program := "ytogdmacndokmhaa", sum := "3db63db2fe1d69d0f3759906ef1a9971a265a5b57e465b790e553d3b1dd008d7", func := "loop.example/g01215/laws.FnExactChanceTop", spec := "fnExactChanceTop", unfollowed := true, recurses := true, apart := false, narrowed := true }
def FnExactChanceTopUptoSaid : Prop := fnExactChanceTopUptoRow.holds Try.pinned (OpenSpec.upto fnExactChanceTopSpec)

/-- 'laws.FnExactIsUndone', WHERE WHAT IT READS IS OF BULK AT MOST 1048576: true; the input reads as it did. -/
def fnExactIsUndoneUptoRow : OpenClaim := { program := "ytogdmacndokmhaa", sum := "3db63db2fe1d69d0f3759906ef1a9971a265a5b57e465b790e553d3b1dd008d7", func := "loop.example/g01215/laws.FnExactIsUndone", spec := "fnExactIsUndone", unfollowed := true, recurses := true, apart := false, narrowed := true }
def FnExactIsUndoneUptoSaid : Prop := fnExactIsUndoneUptoRow.holds Try.pinned (OpenSpec.upto fnExactIsUndoneSpec)

/-- 'laws.FnExactViewOf', WHERE WHAT IT READS IS OF BULK AT MOST 1048576: true; the input reads as it did. -/
def fnExactViewOfUptoRow : OpenClaim := { program := "ytogdmacndokmhaa", sum := "3db63db2fe1d69d0f3759906ef1a9971a265a5b57e465b790e553d3b1dd008d7", func := "loop.example/g01215/laws.FnExactViewOf", spec := "fnExactViewOf", unfollowed := true, recurses := true, apart := false, narrowed := true }
def FnExactViewOfUptoSaid : Prop := fnExactViewOfUptoRow.holds Try.pinned (OpenSpec.upto fnExactViewOfSpec)

/-- 'laws.FnExactRackText', WHERE WHAT IT READS IS OF BULK AT MOST 1048576: true; the input reads as it did. -/
def fnExactRackTextUptoRow : OpenClaim := { program := "ytogdmacndokmhaa", sum := "3db63db2fe1d69d0f3759906ef1a9971a265a5b57e465b790e553d3b1dd008d7", func := "loop.example/g01215/laws.FnExactRackText", spec := "fnExactRackText", inPlace := ["internal/abi.NoEscape", "internal/bytealg.MakeNoZero"], unfollowed := true, recurses := true, apart := false, narrowed := true }
def FnExactRackTextUptoSaid : Prop := fnExactRackTextUptoRow.holds Try.pinned (OpenSpec.upto fnExactRackTextSpec)

end Rows
end Go.Proofs.Ytogdmacndokmhaa
