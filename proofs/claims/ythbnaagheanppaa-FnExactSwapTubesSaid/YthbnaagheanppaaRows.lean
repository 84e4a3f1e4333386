/-
  No cell of these rows narrows 'for every input' (looked for: loops, veiled, ifaces, maps, wideKeys, modest, calm, conditions, laid).
  DERIVED. THE GIVEN ROWS OF THIS SEAT. 12 by the template 'for every input the law returns true; each argument reads behind the call as it read before'; 0 by the template 'total and deterministic' (their statements: YthbnaagheanppaaTotals.lean).
  GIVEN WITH THE SEED: the statements are not yours to turn. If you find one false, say at which input.
  Laid BY PROGRAM, IN A SANDBOX (cutbox-rows.mjs): the forced cells as the released guide's own fill.sh prints them over the translation 61d7b40ce4ccd606… (all of the seat's roots in one cut). By AI agents, Wed Nov 11 2026. No macro, syntax, notation, axiom, sorry.
-/
import Derived.Test.YthbnaagheanppaaChecked
import GoSem.Claim
import GoSem.ClaimJoined
import GoSem.ClaimMapViews
import Derived.JoinedTies
import Derived.KernelRfl
namespace Go.Proofs.Ythbnaagheanppaa
/- THE CELL 'sum', in the pinned program and in every row, IS THE sha256 OF THE DUMP (.gsa) THAT YthbnaagheanppaaProg.lean LOADS. Nothing in Lean hashes anything: it is a label: what it is worth is what the hold of that sum in a sandbox is worth. -/
noncomputable def Try.pinned : Pinned := { name := "ythbnaagheanppaa", sum := "61d7b40ce4ccd6066719135d81d0763544f86d71e75e302dff3b66a390d67f27", checked := Try.checked }
namespace Rows
def none {H : Type} : Left H := { results := [], args := [] }

/-- 'laws.FnExactBottomCounts': WHATEVER THE INPUT: true; the input reads as it did. -/
def fnExactBottomCountsSpec : ChangeSpec := { name := "fnExactBottomCounts", fn := fun _ => fun
  | [d] => { results := [.lit (.bool true)], args := [d] }
  | _ => none }
def fnExactBottomCountsRow : OpenClaim := { program := "ythbnaagheanppaa", sum := "61d7b40ce4ccd6066719135d81d0763544f86d71e75e302dff3b66a390d67f27", func := "loop.example/g01215/laws.FnExactBottomCounts", spec := "fnExactBottomCounts", unfollowed := true, recurses := true, plainKeys := false, apart := false }
def FnExactBottomCountsSaid : Prop := fnExactBottomCountsRow.holds Try.pinned (OpenSpec.ofChange fnExactBottomCountsSpec)

/-- ITS FALSE NEIGHBOUR: 'it returns false'. Refute it at one input. -/
def fnExactBottomCountsWrong : ChangeSpec := { name := "fnExactBottomCounts", fn := fun _ => fun
  | [d] => { results := [.lit (.bool false)], args := [d] }
  | _ => none }
def FnExactBottomCountsWrongFalsely : Prop := fnExactBottomCountsRow.holds Try.pinned (OpenSpec.ofChange fnExactBottomCountsWrong)

/-- 'laws.FnExactCanPourAt': WHATEVER THE INPUT: true; the input reads as it did. -/
def fnExactCanPourAtSpec : ChangeSpec := { name := "fnExactCanPourAt", fn := fun _ => fun
  | [d1, d2, d3] => { results := [.lit (.bool true)], args := [d1, d2, d3] }
  | _ => none }
def fnExactCanPourAtRow : OpenClaim := { program := "ythbnaagheanppaa", sum := "61d7b40ce4ccd6066719135d81d0763544f86d71e75e302dff3b66a390d67f27", func := "loop.example/g01215/laws.FnExactCanPourAt", spec := "fnExactCanPourAt", unfollowed := true, recurses := true, plainKeys := false, apart := false }
def FnExactCanPourAtSaid : Prop := fnExactCanPourAtRow.holds Try.pinned (OpenSpec.ofChange fnExactCanPourAtSpec)

/-- ITS FALSE NEIGHBOUR: 'it returns false'. Refute it at one input. -/
def fnExactCanPourAtWrong : ChangeSpec := { name := "fnExactCanPourAt", fn := fun _ => fun
  | [d1, d2, d3] => { results := [.lit (.bool false)], args := [d1, d2, d3] }
  | _ => none }
def FnExactCanPourAtWrongFalsely : Prop := fnExactCanPourAtRow.holds Try.pinned (OpenSpec.ofChange fnExactCanPourAtWrong)

/-- 'laws.FnExactCountHidden': WHATEVER THE INPUT: true; the input reads as it did. -/
def fnExactCountHiddenSpec : ChangeSpec := { name := "fnExactCountHidden", fn := fun _ => fun
  | [d] => { results := [.lit (.bool true)], args := [d] }
  | _ => none }
def fnExactCountHiddenRow : OpenClaim := { program := "ythbnaagheanppaa", sum := "61d7b40ce4ccd6066719135d81d0763544f86d71e75e302dff3b66a390d67f27", func := "loop.example/g01215/laws.FnExactCountHidden", spec := "fnExactCountHidden", unfollowed := true, recurses := true, plainKeys := false, apart := false }
def FnExactCountHiddenSaid : Prop := fnExactCountHiddenRow.holds Try.pinned (OpenSpec.ofChange fnExactCountHiddenSpec)

/-- ITS FALSE NEIGHBOUR: 'it returns false'. Refute it at one input. -/
def fnExactCountHiddenWrong : ChangeSpec := { name := "fnExactCountHidden", fn := fun _ => fun
  | [d] => { results := [.lit (.bool false)], args := [d] }
  | _ => none }
def FnExactCountHiddenWrongFalsely : Prop := fnExactCountHiddenRow.holds Try.pinned (OpenSpec.ofChange fnExactCountHiddenWrong)

/-- 'laws.FnExactCountColors': WHATEVER THE INPUT: true; the input reads as it did. -/
def fnExactCountColorsSpec : ChangeSpec := { name := "fnExactCountColors", fn := fun _ => fun
  | [d] => { results := [.lit (.bool true)], args := [d] }
  | _ => none }
def fnExactCountColorsRow : OpenClaim := { program := "ythbnaagheanppaa", sum := "61d7b40ce4ccd6066719135d81d0763544f86d71e75e302dff3b66a390d67f27", func := "loop.example/g01215/laws.FnExactCountColors", spec := "fnExactCountColors", unfollowed := true, recurses := true, plainKeys := false, apart := false }
def FnExactCountColorsSaid : Prop := fnExactCountColorsRow.holds Try.pinned (OpenSpec.ofChange fnExactCountColorsSpec)

/-- ITS FALSE NEIGHBOUR: 'it returns false'. Refute it at one input. -/
def fnExactCountColorsWrong : ChangeSpec := { name := "fnExactCountColors", fn := fun _ => fun
  | [d] => { results := [.lit (.bool false)], args := [d] }
  | _ => none }
def FnExactCountColorsWrongFalsely : Prop := fnExactCountColorsRow.holds Try.pinned (OpenSpec.ofChange fnExactCountColorsWrong)

/-- 'laws.FnExactSwapTubes': WHATEVER THE INPUT: true; the input reads as it did. -/
def fnExactSwapTubesSpec : ChangeSpec := { name := "fnExactSwapTubes", fn := fun _ => fun
  | [d1, d2, d3] => { results := [.lit (.bool true)], args := [d1, d2, d3] }
  | _ => none }
def fnExactSwapTubesRow : OpenClaim := { program := "ythbnaagheanppaa", sum := "61d7b40ce4ccd6066719135d81d0763544f86d71e75e302dff3b66a390d67f27", func := "loop.example/g01215/laws.FnExactSwapTubes", spec := "fnExactSwapTubes", unfollowed := true, recurses := true, plainKeys := false, apart := false }
def FnExactSwapTubesSaid : Prop := fnExactSwapTubesRow.holds Try.pinned (OpenSpec.ofChange fnExactSwapTubesSpec)

/-- ITS FALSE NEIGHBOUR: 'it returns false'. Refute it at one input. -/
def fnExactSwapTubesWrong : ChangeSpec := { name := "fnExactSwapTubes", fn := fun _ => fun
  | [d1, d2, d3] => { results := [.lit (.bool false)], args := [d1, d2, d3] }
  | _ => none }
def FnExactSwapTubesWrongFalsely : Prop := fnExactSwapTubesRow.holds Try.pinned (OpenSpec.ofChange fnExactSwapTubesWrong)

/-- 'laws.FnExactDoesFit': WHATEVER THE INPUT: true; the input reads as it did. -/
def fnExactDoesFitSpec : ChangeSpec := { name := "fnExactDoesFit", fn := fun _ => fun
  | [d] => { results := [.lit (.bool true)], args := [d] }
  | _ => none }
def fnExactDoesFitRow : OpenClaim := { program := "ythbnaagheanppaa", sum := "61d7b40ce4ccd6066719135d81d0763544f86d71e75e302dff3b66a390d67f27", func := "loop.example/g01215/laws.FnExactDoesFit", spec := "fnExactDoesFit", unfollowed := true, recurses := true, plainKeys := false, apart := false }
def FnExactDoesFitSaid : Prop := fnExactDoesFitRow.holds Try.pinned (OpenSpec.ofChange fnExactDoesFitSpec)

/-- ITS FALSE NEIGHBOUR: 'it returns false'. Refute it at one input. -/
def fnExactDoesFitWrong : ChangeSpec := { name := "fnExactDoesFit", fn := fun _ => fun
  | [d] => { results := [.lit (.bool false)], args := [d] }
  | _ => none }
def FnExactDoesFitWrongFalsely : Prop := fnExactDoesFitRow.holds Try.pinned (OpenSpec.ofChange fnExactDoesFitWrong)

/-- 'laws.FnExactCountCandidates': WHATEVER THE INPUT: true; the input reads as it did. -/
def fnExactCountCandidatesSpec : ChangeSpec := { name := "fnExactCountCandidates", fn := fun _ => fun
  | [d] => { results := [.lit (.bool true)], args := [d] }
  | _ => none }
def fnExactCountCandidatesRow : OpenClaim := { program := "ythbnaagheanppaa", sum := "61d7b40ce4ccd6066719135d81d0763544f86d71e75e302dff3b66a390d67f27", func := "loop.example/g01215/laws.FnExactCountCandidates", spec := "fnExactCountCandidates", unfollowed := true, recurses := true, plainKeys := false, apart := false }
def FnExactCountCandidatesSaid : Prop := fnExactCountCandidatesRow.holds Try.pinned (OpenSpec.ofChange fnExactCountCandidatesSpec)

/-- ITS FALSE NEIGHBOUR: 'it returns false'. Refute it at one input. -/
def fnExactCountCandidatesWrong : ChangeSpec := { name := "fnExactCountCandidates", fn := fun _ => fun
  | [d] => { results := [.lit (.bool false)], args := [d] }
  | _ => none }
def FnExactCountCandidatesWrongFalsely : Prop := fnExactCountCandidatesRow.holds Try.pinned (OpenSpec.ofChange fnExactCountCandidatesWrong)

/-- 'laws.FnExactPutLayer': WHATEVER THE INPUT: true; the input reads as it did. -/
def fnExactPutLayerSpec : ChangeSpec := { name := "fnExactPutLayer", fn := fun _ => fun
  | [d1, d2, d3] => { results := [.lit (.bool true)], args := [d1, d2, d3] }
  | _ => none }
def fnExactPutLayerRow : OpenClaim := { program := "ythbnaagheanppaa", sum := "61d7b40ce4ccd6066719135d81d0763544f86d71e75e302dff3b66a390d67f27", func := "loop.example/g01215/laws.FnExactPutLayer", spec := "fnExactPutLayer", unfollowed := true, recurses := true, plainKeys := false, apart := false }
def FnExactPutLayerSaid : Prop := fnExactPutLayerRow.holds Try.pinned (OpenSpec.ofChange fnExactPutLayerSpec)

/-- ITS FALSE NEIGHBOUR: 'it returns false'. Refute it at one input. -/
def fnExactPutLayerWrong : ChangeSpec := { name := "fnExactPutLayer", fn := fun _ => fun
  | [d1, d2, d3] => { results := [.lit (.bool false)], args := [d1, d2, d3] }
  | _ => none }
def FnExactPutLayerWrongFalsely : Prop := fnExactPutLayerRow.holds Try.pinned (OpenSpec.ofChange fnExactPutLayerWrong)

/-- 'laws.FnExactTakeLayer': WHATEVER THE INPUT: true; the input reads as it did. -/
def fnExactTakeLayerSpec : ChangeSpec := { name := "fnExactTakeLayer", fn := fun _ => fun
  | [d1, d2] => { results := [.lit (.bool true)], args := [d1, d2] }
  | _ => none }
def fnExactTakeLayerRow : OpenClaim := { program := "ythbnaagheanppaa", sum := "61d7b40ce4ccd6066719135d81d0763544f86d71e75e302dff3b66a390d67f27", func := "loop.example/g01215/laws.FnExactTakeLayer", spec := "fnExactTakeLayer", unfollowed := true, recurses := true, plainKeys := false, apart := false }
def FnExactTakeLayerSaid : Prop := fnExactTakeLayerRow.holds Try.pinned (OpenSpec.ofChange fnExactTakeLayerSpec)

/-- ITS FALSE NEIGHBOUR: 'it returns false'. Refute it at one input. -/
def fnExactTakeLayerWrong : ChangeSpec := { name := "fnExactTakeLayer", fn := fun _ => fun
  | [d1, d2] => { results := [.lit (.bool false)], args := [d1, d2] }
  | _ => none }
def FnExactTakeLayerWrongFalsely : Prop := fnExactTakeLayerRow.holds Try.pinned (OpenSpec.ofChange fnExactTakeLayerWrong)

/-- 'laws.FnExactCountOrders': WHATEVER THE INPUT: true; the input reads as it did. -/
def fnExactCountOrdersSpec : ChangeSpec := { name := "fnExactCountOrders", fn := fun _ => fun
  | [d] => { results := [.lit (.bool true)], args := [d] }
  | _ => none }
def fnExactCountOrdersRow : OpenClaim := { program := "ythbnaagheanppaa", sum := "61d7b40ce4ccd6066719135d81d0763544f86d71e75e302dff3b66a390d67f27", func := "loop.example/g01215/laws.FnExactCountOrders", spec := "fnExactCountOrders", unfollowed := true, recurses := true, plainKeys := false, apart := false }
def FnExactCountOrdersSaid : Prop := fnExactCountOrdersRow.holds Try.pinned (OpenSpec.ofChange fnExactCountOrdersSpec)

/-- ITS FALSE NEIGHBOUR: 'it returns false'. Refute it at one input. -/
def fnExactCountOrdersWrong : ChangeSpec := { name := "fnExactCountOrders", fn := fun _ => fun
  | [d] => { results := [.lit (.bool false)], args := [d] }
  | _ => none }
def FnExactCountOrdersWrongFalsely : Prop := fnExactCountOrdersRow.holds Try.pinned (OpenSpec.ofChange fnExactCountOrdersWrong)

/-- 'laws.FnExactTopOf': WHATEVER THE INPUT: true; the input reads as it did. -/
def fnExactTopOfSpec : ChangeSpec := { name := "fnExactTopOf", fn := fun _ => fun
  | [d1, d2] => { results := [.lit (.bool true)], args := [d1, d2] }
  | _ => none }
def fnExactTopOfRow : OpenClaim := { program := "ythbnaagheanppaa", sum := "61d7b40ce4ccd6066719135d81d0763544f86d71e75e302dff3b66a390d67f27", func := "loop.example/g01215/laws.FnExactTopOf", spec := "fnExactTopOf", unfollowed := true, recurses := true, plainKeys := false, apart := false }
def FnExactTopOfSaid : Prop := fnExactTopOfRow.holds Try.pinned (OpenSpec.ofChange fnExactTopOfSpec)

/-- ITS FALSE NEIGHBOUR: 'it returns false'. Refute it at one input. -/
def fnExactTopOfWrong : ChangeSpec := { name := "fnExactTopOf", fn := fun _ => fun
  | [d1, d2] => { results := [.lit (.bool false)], args := [d1, d2] }
  | _ => none }
def FnExactTopOfWrongFalsely : Prop := fnExactTopOfRow.holds Try.pinned (OpenSpec.ofChange fnExactTopOfWrong)

/-- 'laws.FnExactCountRuns': WHATEVER THE INPUT: true; the input reads as it did. -/
def fnExactCountRunsSpec : ChangeSpec := { name := "fnExactCountRuns", fn := fun _ => fun
  | [d] => { results := [.lit (.bool true)], args := [d] }
  | _ => none }
def fnExactCountRunsRow : OpenClaim := { program := "ythbnaagheanppaa", sum := "61d7b40ce4ccd6066719135d81d0763544f86d71e75e302dff3b66a390d67f27", func := "loop.example/g01215/laws.FnExactCountRuns", spec := "fnExactCountRuns", unfollowed := true, recurses := true, plainKeys := false, apart := false }
def FnExactCountRunsSaid : Prop := fnExactCountRunsRow.holds Try.pinned (OpenSpec.ofChange fnExactCountRunsSpec)

/-- ITS FALSE NEIGHBOUR: 'it returns false'. Refute it at one input. -/
def fnExactCountRunsWrong : ChangeSpec := { name := "fnExactCountRuns", fn := fun _ => fun
  | [d] => { results := [.lit (.bool false)], args := [d] }
  | _ => none }
def FnExactCountRunsWrongFalsely : Prop := fnExactCountRunsRow.holds Try.pinned (OpenSpec.ofChange fnExactCountRunsWrong)

/- THE SECOND FORM. 'bulk': how many values and letters a reading holds, each counted each time it is reached (what is shared counts as often as it is met; a slice's spare places count too). A statement '..UptoSaid' is the law's where the arguments, and the package variables that the reading takes, are together of bulk at most 1048576: NARROWER than '..Said'. Prove '..Said' where nothing that the law and all that it calls make is longer than what came in: it says more and counts as full. Else prove '..UptoSaid'. A law counts once. -/
mutual
def uptoBulk {H : Type} : DataW H → Nat
  | .lit (.string bytes) => bytes.length + 1
  | .lit _ => 1
  | .nil => 1
  | .ptr d => uptoBulk d + 1
  | .slice elems spare => uptoBulkAll elems + uptoBulkAll spare + 1
  | .agg parts => uptoBulkAll parts + 1
  | .iface _ d => uptoBulk d + 1
  | .map entries => uptoBulkEntries entries + 1
  | .held _ => 1
def uptoBulkAll {H : Type} : List (DataW H) → Nat
  | [] => 0
  | d :: r => uptoBulk d + uptoBulkAll r
def uptoBulkEntries {H : Type} : List (Lit × DataW H) → Nat
  | [] => 0
  | x :: r => uptoBulkEntry x + uptoBulkEntries r
def uptoBulkEntry {H : Type} : Lit × DataW H → Nat
  | (.string bytes, d) => bytes.length + uptoBulk d + 1
  | (_, d) => uptoBulk d + 1
 end
def uptoSmall : (H : Type) → List (DataW H) → Bool := fun _ ds => decide (uptoBulkAll ds ≤ 1048576)
def OpenSpec.upto (s : _root_.Go.ChangeSpec) : _root_.Go.OpenSpec := { _root_.Go.OpenSpec.ofChange s with cond := some uptoSmall }

/-- 'laws.FnExactBottomCounts', WHERE WHAT IT READS IS OF BULK AT MOST 1048576: true; the input reads as it did. -/
def fnExactBottomCountsUptoRow : OpenClaim := { program := "ythbnaagheanppaa", sum := "61d7b40ce4ccd6066719135d81d0763544f86d71e75e302dff3b66a390d67f27", func := "loop.example/g01215/laws.FnExactBottomCounts", spec := "fnExactBottomCounts", unfollowed := true, recurses := true, plainKeys := false, apart := false, narrowed := true }
def FnExactBottomCountsUptoSaid : Prop := fnExactBottomCountsUptoRow.holds Try.pinned (OpenSpec.upto fnExactBottomCountsSpec)

/-- 'laws.FnExactCanPourAt', WHERE WHAT IT READS IS OF BULK AT MOST 1048576: true; the input reads as it did. -/
def fnExactCanPourAtUptoRow : OpenClaim := { program := "ythbnaagheanppaa", sum := "61d7b40ce4ccd6066719135d81d0763544f86d71e75e302dff3b66a390d67f27", func := "loop.example/g01215/laws.FnExactCanPourAt", spec := "fnExactCanPourAt", unfollowed := true, recurses := true, plainKeys := false, apart := false, narrowed := true }
def FnExactCanPourAtUptoSaid : Prop := fnExactCanPourAtUptoRow.holds Try.pinned (OpenSpec.upto fnExactCanPourAtSpec)

/-- 'laws.FnExactCountHidden', WHERE WHAT IT READS IS OF BULK AT MOST 1048576: true; the input reads as it did. -/
def fnExactCountHiddenUptoRow : OpenClaim := { program := "ythbnaagheanppaa", sum := "61d7b40ce4ccd6066719135d81d0763544f86d71e75e302dff3b66a390d67f27", func := "loop.example/g01215/laws.FnExactCountHidden", spec := "fnExactCountHidden", unfollowed := true, recurses := true, plainKeys := false, apart := false, narrowed := true }
def FnExactCountHiddenUptoSaid : Prop := fnExactCountHiddenUptoRow.holds Try.pinned (OpenSpec.upto fnExactCountHiddenSpec)

/-- 'laws.FnExactCountColors', WHERE WHAT IT READS IS OF BULK AT MOST 1048576: true; the input reads as it did. -/
def fnExactCountColorsUptoRow : OpenClaim := { program := "ythbnaagheanppaa", sum := "61d7b40ce4ccd6066719135d81d0763544f86d71e75e302dff3b66a390d67f27", func := "loop.example/g01215/laws.FnExactCountColors", spec := "fnExactCountColors", unfollowed := true, recurses := true, plainKeys := false, apart := false, narrowed := true }
def FnExactCountColorsUptoSaid : Prop := fnExactCountColorsUptoRow.holds Try.pinned (OpenSpec.upto fnExactCountColorsSpec)

/-- 'laws.FnExactSwapTubes', WHERE WHAT IT READS IS OF BULK AT MOST 1048576: true; the input reads as it did. -/
def fnExactSwapTubesUptoRow : OpenClaim := { program := "ythbnaagheanppaa", sum := "61d7b40ce4ccd6066719135d81d0763544f86d71e75e302dff3b66a390d67f27", func := "loop.example/g01215/laws.FnExactSwapTubes", spec := "fnExactSwapTubes", unfollowed := true, recurses := true, plainKeys := false, apart := false, narrowed := true }
def FnExactSwapTubesUptoSaid : Prop := fnExactSwapTubesUptoRow.holds Try.pinned (OpenSpec.upto fnExactSwapTubesSpec)

/-- 'laws.FnExactDoesFit', WHERE WHAT IT READS IS OF BULK AT MOST 1048576: true; the input reads as it did. -/
def fnExactDoesFitUptoRow : OpenClaim := { program := "ythbnaagheanppaa", sum := "61d7b40ce4ccd6066719135d81d0763544f86d71e75e302dff3b66a390d67f27", func := "loop.example/g01215/laws.FnExactDoesFit", spec := "fnExactDoesFit", unfollowed := true, recurses := true, plainKeys := false, apart := false, narrowed := true }
def FnExactDoesFitUptoSaid : Prop := fnExactDoesFitUptoRow.holds Try.pinned (OpenSpec.upto fnExactDoesFitSpec)

/-- 'laws.FnExactCountCandidates', WHERE WHAT IT READS IS OF BULK AT MOST 1048576: true; the input reads as it did. -/
def fnExactCountCandidatesUptoRow : OpenClaim := { program := "ythbnaagheanppaa", sum := "61d7b40ce4ccd6066719135d81d0763544f86d71e75e302dff3b66a390d67f27", func := "loop.example/g01215/laws.FnExactCountCandidates", spec := "fnExactCountCandidates", unfollowed := true, recurses := true, plainKeys := false, apart := false, narrowed := true }
def FnExactCountCandidatesUptoSaid : Prop := fnExactCountCandidatesUptoRow.holds Try.pinned (OpenSpec.upto fnExactCountCandidatesSpec)

/-- 'laws.FnExactPutLayer', WHERE WHAT IT READS IS OF BULK AT MOST 1048576: true; the input reads as it did. -/
def fnExactPutLayerUptoRow : OpenClaim := { program := "ythbnaagheanppaa", sum := "61d7b40ce4ccd6066719135d81d0763544f86d71e75e302dff3b66a390d67f27", func := "loop.example/g01215/laws.FnExactPutLayer", spec := "fnExactPutLayer", unfollowed := true, recurses := true, plainKeys := false, apart := false, narrowed := true }
def FnExactPutLayerUptoSaid : Prop := fnExactPutLayerUptoRow.holds Try.pinned (OpenSpec.upto fnExactPutLayerSpec)

/-- 'laws.FnExactTakeLayer', WHERE WHAT IT READS IS OF BULK AT MOST 1048576: true; the input reads as it did. -/
def fnExactTakeLayerUptoRow : OpenClaim := { program := "ythbnaagheanppaa", sum := "61d7b40ce4ccd6066719135d81d0763544f86d71e75e302dff3b66a390d67f27", func := "loop.example/g01215/laws.FnExactTakeLayer", spec := "fnExactTakeLayer", unfollowed := true, recurses := true, plainKeys := false, apart := false, narrowed := true }
def FnExactTakeLayerUptoSaid : Prop := fnExactTakeLayerUptoRow.holds Try.pinned (OpenSpec.upto fnExactTakeLayerSpec)

/-- 'laws.FnExactCountOrders', WHERE WHAT IT READS IS OF BULK AT MOST 1048576: true; the input reads as it did. -/
def fnExactCountOrdersUptoRow : OpenClaim := { program := "ythbnaagheanppaa", sum := "61d7b40ce4ccd6066719135d81d0763544f86d71e75e302dff3b66a390d67f27", func := "loop.example/g01215/laws.FnExactCountOrders", spec := "fnExactCountOrders", unfollowed := true, recurses := true, plainKeys := false, apart := false, narrowed := true }
def FnExactCountOrdersUptoSaid : Prop := fnExactCountOrdersUptoRow.holds Try.pinned (OpenSpec.upto fnExactCountOrdersSpec)

/-- 'laws.FnExactTopOf', WHERE WHAT IT READS IS OF BULK AT MOST 1048576: true; the input reads as it did. -/
def fnExactTopOfUptoRow : OpenClaim := { program := "ythbnaagheanppaa", sum := "61d7b40ce4ccd6066719135d81d0763544f86d71e75e302dff3b66a390d67f27", func := "loop.example/g01215/laws.FnExactTopOf", spec := "fnExactTopOf", unfollowed := true, recurses := true, plainKeys := false, apart := false, narrowed := true }
def FnExactTopOfUptoSaid : Prop := fnExactTopOfUptoRow.holds Try.pinned (OpenSpec.upto fnExactTopOfSpec)

/-- 'laws.FnExactCountRuns', WHERE WHAT IT READS IS OF BULK AT MOST 1048576: true; the input reads as it did. -/
def fnExactCountRunsUptoRow : OpenClaim := { program := "ythbnaagheanppaa", sum := "61d7b40ce4ccd6066719135d81d0763544f86d71e75e302dff3b66a390d67f27", func := "loop.example/g01215/laws.FnExactCountRuns", spec := "fnExactCountRuns", unfollowed := true, recurses := true, plainKeys := false, apart := false, narrowed := true }
def FnExactCountRunsUptoSaid : Prop := fnExactCountRunsUptoRow.holds Try.pinned (OpenSpec.upto fnExactCountRunsSpec)

end Rows
end Go.Proofs.Ythbnaagheanppaa
