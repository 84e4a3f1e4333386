/-
  No cell of these rows narrows 'for every input' (looked for: loops, veiled, ifaces, maps, wideKeys, modest, calm, conditions, laid).
  DERIVED. THE GIVEN ROWS OF THIS SEAT. 10 by the template 'for every input the law returns true; each argument reads behind the call as it read before'; 0 by the template 'total and deterministic' (their statements: YtbiplciklmagoaaTotals.lean).
  GIVEN WITH THE SEED: the statements are not yours to turn. If you find one false, say at which input.
  Laid BY PROGRAM, IN A SANDBOX (cutbox-rows.mjs): the forced cells as the released guide's own fill.sh prints them over the translation c2de2b345708a946… (all of the seat's roots in one cut). By AI agents, Wed Nov 11 2026. No macro, syntax, notation, axiom, sorry.
-/
import Derived.Test.YtbiplciklmagoaaChecked
import GoSem.Claim
import GoSem.ClaimJoined
import GoSem.ClaimMapViews
import Derived.JoinedTies
import Derived.KernelRfl
namespace Go.Proofs.Ytbiplciklmagoaa
/- THE CELL 'sum', in the pinned program and in every row, IS THE sha256 OF THE DUMP (.gsa) THAT YtbiplciklmagoaaProg.lean LOADS. Nothing in Lean hashes anything: it is a label: what it is worth is what the hold of that sum in a sandbox is worth. -/
noncomputable def Try.pinned : Pinned := { name := "ytbiplciklmagoaa", sum := "c2de2b345708a946a3de7efcd2116ea30f2bfd50d9667708b201327892ab73ae", checked := Try.checked }
namespace Rows
def none {H : Type} : Left H := { results := [], args := [] }

/-- 'laws.FnExactTopOf': WHATEVER THE INPUT: true; the input reads as it did. -/
def fnExactTopOfSpec : ChangeSpec := { name := "fnExactTopOf", fn := fun _ => fun
  | [d1, d2] => { results := [.lit (.bool true)], args := [d1, d2] }
  | _ => none }
def fnExactTopOfRow : OpenClaim := { program := "ytbiplciklmagoaa", sum := "c2de2b345708a946a3de7efcd2116ea30f2bfd50d9667708b201327892ab73ae", func := "loop.example/g01215/laws.FnExactTopOf", spec := "fnExactTopOf", unfollowed := true, recurses := true, plainKeys := false, apart := false }
def FnExactTopOfSaid : Prop := fnExactTopOfRow.holds Try.pinned (OpenSpec.ofChange fnExactTopOfSpec)

/-- ITS FALSE NEIGHBOUR: 'it returns false'. Refute it at one input. -/
def fnExactTopOfWrong : ChangeSpec := { name := "fnExactTopOf", fn := fun _ => fun
  | [d1, d2] => { results := [.lit (.bool false)], args := [d1, d2] }
  | _ => none }
def FnExactTopOfWrongFalsely : Prop := fnExactTopOfRow.holds Try.pinned (OpenSpec.ofChange fnExactTopOfWrong)

/-- 'laws.FnExactCountRuns': WHATEVER THE INPUT: true; the input reads as it did. -/
def fnExactCountRunsSpec : ChangeSpec := { name := "fnExactCountRuns", fn := fun _ => fun
  | [d] => { results := [.lit (.bool true)], args := [d] }
  | _ => none }
def fnExactCountRunsRow : OpenClaim := { program := "ytbiplciklmagoaa", sum := "c2de2b345708a946a3de7efcd2116ea30f2bfd50d9667708b201327892ab73ae", func := "loop.example/g01215/laws.FnExactCountRuns", spec := "fnExactCountRuns", unfollowed := true, recurses := true, plainKeys := false, apart := false }
def FnExactCountRunsSaid : Prop := fnExactCountRunsRow.holds Try.pinned (OpenSpec.ofChange fnExactCountRunsSpec)

/-- ITS FALSE NEIGHBOUR: 'it returns false'. Refute it at one input. -/
def fnExactCountRunsWrong : ChangeSpec := { name := "fnExactCountRuns", fn := fun _ => fun
  | [d] => { results := [.lit (.bool false)], args := [d] }
  | _ => none }
def FnExactCountRunsWrongFalsely : Prop := fnExactCountRunsRow.holds Try.pinned (OpenSpec.ofChange fnExactCountRunsWrong)

/-- 'laws.FnExactPour': WHATEVER THE INPUT: true; the input reads as it did. -/
def fnExactPourSpec : ChangeSpec := { name := "fnExactPour", fn := fun _ => fun
  | [d1, d2, d3] => { results := [.lit (.bool true)], args := [d1, d2, d3] }
  | _ => none }
def fnExactPourRow : OpenClaim := { program := "ytbiplciklmagoaa", sum := "c2de2b345708a946a3de7efcd2116ea30f2bfd50d9667708b201327892ab73ae", func := "loop.example/g01215/laws.FnExactPour", spec := "fnExactPour", unfollowed := true, recurses := true, plainKeys := false, apart := false }
def FnExactPourSaid : Prop := fnExactPourRow.holds Try.pinned (OpenSpec.ofChange fnExactPourSpec)

/-- ITS FALSE NEIGHBOUR: 'it returns false'. Refute it at one input. -/
def fnExactPourWrong : ChangeSpec := { name := "fnExactPour", fn := fun _ => fun
  | [d1, d2, d3] => { results := [.lit (.bool false)], args := [d1, d2, d3] }
  | _ => none }
def FnExactPourWrongFalsely : Prop := fnExactPourRow.holds Try.pinned (OpenSpec.ofChange fnExactPourWrong)

/-- 'laws.FnExactPoursOf': WHATEVER THE INPUT: true; the input reads as it did. -/
def fnExactPoursOfSpec : ChangeSpec := { name := "fnExactPoursOf", fn := fun _ => fun
  | [d] => { results := [.lit (.bool true)], args := [d] }
  | _ => none }
def fnExactPoursOfRow : OpenClaim := { program := "ytbiplciklmagoaa", sum := "c2de2b345708a946a3de7efcd2116ea30f2bfd50d9667708b201327892ab73ae", func := "loop.example/g01215/laws.FnExactPoursOf", spec := "fnExactPoursOf", unfollowed := true, recurses := true, plainKeys := false, apart := false }
def FnExactPoursOfSaid : Prop := fnExactPoursOfRow.holds Try.pinned (OpenSpec.ofChange fnExactPoursOfSpec)

/-- ITS FALSE NEIGHBOUR: 'it returns false'. Refute it at one input. -/
def fnExactPoursOfWrong : ChangeSpec := { name := "fnExactPoursOf", fn := fun _ => fun
  | [d] => { results := [.lit (.bool false)], args := [d] }
  | _ => none }
def FnExactPoursOfWrongFalsely : Prop := fnExactPoursOfRow.holds Try.pinned (OpenSpec.ofChange fnExactPoursOfWrong)

/-- 'laws.FnExactFirstCandidate': WHATEVER THE INPUT: true; the input reads as it did. -/
def fnExactFirstCandidateSpec : ChangeSpec := { name := "fnExactFirstCandidate", fn := fun _ => fun
  | [d] => { results := [.lit (.bool true)], args := [d] }
  | _ => none }
def fnExactFirstCandidateRow : OpenClaim := { program := "ytbiplciklmagoaa", sum := "c2de2b345708a946a3de7efcd2116ea30f2bfd50d9667708b201327892ab73ae", func := "loop.example/g01215/laws.FnExactFirstCandidate", spec := "fnExactFirstCandidate", unfollowed := true, recurses := true, plainKeys := false, apart := false }
def FnExactFirstCandidateSaid : Prop := fnExactFirstCandidateRow.holds Try.pinned (OpenSpec.ofChange fnExactFirstCandidateSpec)

/-- ITS FALSE NEIGHBOUR: 'it returns false'. Refute it at one input. -/
def fnExactFirstCandidateWrong : ChangeSpec := { name := "fnExactFirstCandidate", fn := fun _ => fun
  | [d] => { results := [.lit (.bool false)], args := [d] }
  | _ => none }
def FnExactFirstCandidateWrongFalsely : Prop := fnExactFirstCandidateRow.holds Try.pinned (OpenSpec.ofChange fnExactFirstCandidateWrong)

/-- 'laws.FnExactMeanMoved': WHATEVER THE INPUT: true; the input reads as it did. -/
def fnExactMeanMovedSpec : ChangeSpec := { name := "fnExactMeanMoved", fn := fun _ => fun
  | [d1, d2, d3] => { results := [.lit (.bool true)], args := [d1, d2, d3] }
  | _ => none }
def fnExactMeanMovedRow : OpenClaim := { program := "ytbiplciklmagoaa", sum := "c2de2b345708a946a3de7efcd2116ea30f2bfd50d9667708b201327892ab73ae", func := "loop.example/g01215/laws.FnExactMeanMoved", spec := "fnExactMeanMoved", unfollowed := true, recurses := true, plainKeys := false, apart := false }
def FnExactMeanMovedSaid : Prop := fnExactMeanMovedRow.holds Try.pinned (OpenSpec.ofChange fnExactMeanMovedSpec)

/-- ITS FALSE NEIGHBOUR: 'it returns false'. Refute it at one input. -/
def fnExactMeanMovedWrong : ChangeSpec := { name := "fnExactMeanMoved", fn := fun _ => fun
  | [d1, d2, d3] => { results := [.lit (.bool false)], args := [d1, d2, d3] }
  | _ => none }
def FnExactMeanMovedWrongFalsely : Prop := fnExactMeanMovedRow.holds Try.pinned (OpenSpec.ofChange fnExactMeanMovedWrong)

/-- 'laws.FnExactCandidateAt': WHATEVER THE INPUT: true; the input reads as it did. -/
def fnExactCandidateAtSpec : ChangeSpec := { name := "fnExactCandidateAt", fn := fun _ => fun
  | [d1, d2] => { results := [.lit (.bool true)], args := [d1, d2] }
  | _ => none }
def fnExactCandidateAtRow : OpenClaim := { program := "ytbiplciklmagoaa", sum := "c2de2b345708a946a3de7efcd2116ea30f2bfd50d9667708b201327892ab73ae", func := "loop.example/g01215/laws.FnExactCandidateAt", spec := "fnExactCandidateAt", unfollowed := true, recurses := true, plainKeys := false, apart := false }
def FnExactCandidateAtSaid : Prop := fnExactCandidateAtRow.holds Try.pinned (OpenSpec.ofChange fnExactCandidateAtSpec)

/-- ITS FALSE NEIGHBOUR: 'it returns false'. Refute it at one input. -/
def fnExactCandidateAtWrong : ChangeSpec := { name := "fnExactCandidateAt", fn := fun _ => fun
  | [d1, d2] => { results := [.lit (.bool false)], args := [d1, d2] }
  | _ => none }
def FnExactCandidateAtWrongFalsely : Prop := fnExactCandidateAtRow.holds Try.pinned (OpenSpec.ofChange fnExactCandidateAtWrong)

/-- 'laws.FnExactRoomLeft': WHATEVER THE INPUT: true; the input reads as it did. -/
def fnExactRoomLeftSpec : ChangeSpec := { name := "fnExactRoomLeft", fn := fun _ => fun
  | [d] => { results := [.lit (.bool true)], args := [d] }
  | _ => none }
def fnExactRoomLeftRow : OpenClaim := { program := "ytbiplciklmagoaa", sum := "c2de2b345708a946a3de7efcd2116ea30f2bfd50d9667708b201327892ab73ae", func := "loop.example/g01215/laws.FnExactRoomLeft", spec := "fnExactRoomLeft", unfollowed := true, recurses := true, plainKeys := false, apart := false }
def FnExactRoomLeftSaid : Prop := fnExactRoomLeftRow.holds Try.pinned (OpenSpec.ofChange fnExactRoomLeftSpec)

/-- ITS FALSE NEIGHBOUR: 'it returns false'. Refute it at one input. -/
def fnExactRoomLeftWrong : ChangeSpec := { name := "fnExactRoomLeft", fn := fun _ => fun
  | [d] => { results := [.lit (.bool false)], args := [d] }
  | _ => none }
def FnExactRoomLeftWrongFalsely : Prop := fnExactRoomLeftRow.holds Try.pinned (OpenSpec.ofChange fnExactRoomLeftWrong)

/-- 'laws.FnExactFormOf': WHATEVER THE INPUT: true; the input reads as it did. -/
def fnExactFormOfSpec : ChangeSpec := { name := "fnExactFormOf", fn := fun _ => fun
  | [d] => { results := [.lit (.bool true)], args := [d] }
  | _ => none }
def fnExactFormOfRow : OpenClaim := { program := "ytbiplciklmagoaa", sum := "c2de2b345708a946a3de7efcd2116ea30f2bfd50d9667708b201327892ab73ae", func := "loop.example/g01215/laws.FnExactFormOf", spec := "fnExactFormOf", unfollowed := true, recurses := true, plainKeys := false, apart := false }
def FnExactFormOfSaid : Prop := fnExactFormOfRow.holds Try.pinned (OpenSpec.ofChange fnExactFormOfSpec)

/-- ITS FALSE NEIGHBOUR: 'it returns false'. Refute it at one input. -/
def fnExactFormOfWrong : ChangeSpec := { name := "fnExactFormOf", fn := fun _ => fun
  | [d] => { results := [.lit (.bool false)], args := [d] }
  | _ => none }
def FnExactFormOfWrongFalsely : Prop := fnExactFormOfRow.holds Try.pinned (OpenSpec.ofChange fnExactFormOfWrong)

/-- 'laws.FnExactCountOrders': WHATEVER THE INPUT: true; the input reads as it did. -/
def fnExactCountOrdersSpec : ChangeSpec := { name := "fnExactCountOrders", fn := fun _ => fun
  | [d] => { results := [.lit (.bool true)], args := [d] }
  | _ => none }
def fnExactCountOrdersRow : OpenClaim := { program := "ytbiplciklmagoaa", sum := "c2de2b345708a946a3de7efcd2116ea30f2bfd50d9667708b201327892ab73ae", func := "loop.example/g01215/laws.FnExactCountOrders", spec := "fnExactCountOrders", unfollowed := true, recurses := true, plainKeys := false, apart := false }
def FnExactCountOrdersSaid : Prop := fnExactCountOrdersRow.holds Try.pinned (OpenSpec.ofChange fnExactCountOrdersSpec)

/-- ITS FALSE NEIGHBOUR: 'it returns false'. Refute it at one input. -/
def fnExactCountOrdersWrong : ChangeSpec := { name := "fnExactCountOrders", fn := fun _ => fun
  | [d] => { results := [.lit (.bool false)], args := [d] }
  | _ => none }
def FnExactCountOrdersWrongFalsely : Prop := fnExactCountOrdersRow.holds Try.pinned (OpenSpec.ofChange fnExactCountOrdersWrong)

/- THE SECOND FORM. 'bulk': how many values and letters a reading holds, each counted each time it is reached (what is shared counts as often as it is met; a slice's spare places count too). A statement '..UptoSaid' is the law's where the arguments, and the package variables that the reading takes, are together of bulk at most 1048576: NARROWER than '..Said'. Prove '..Said' where nothing that the law and all that it calls make is longer than what came in: it says more and counts as full. Else prove '..UptoSaid'. A law counts once. -/
mutual
def uptoBulk {H : Type} : DataW H → Nat
  | .lit (.string bytes) => bytes.length + 1
  | .lit _ => 1
  | .nil => 1
  | .ptr d => uptoBulk d + 1
  | .slice elems spare => uptoBulkAll elems + uptoBulkAll spare + 1
  | .agg parts => uptoBulkAll parts + 1
  | .iface _ d => uptoBulk d + 1
  | .map entries => uptoBulkEntries entries + 1
  | .held _ => 1
def uptoBulkAll {H : Type} : List (DataW H) → Nat
  | [] => 0
  | d :: r => uptoBulk d + uptoBulkAll r
def uptoBulkEntries {H : Type} : List (Lit × DataW H) → Nat
  | [] => 0
  | x :: r => uptoBulkEntry x + uptoBulkEntries r
def uptoBulkEntry {H : Type} : Lit × DataW H → Nat
  | (.string bytes, d) => bytes.length + uptoBulk d + 1
  | (_, d) => uptoBulk d + 1
 end
def uptoSmall : (H : Type) → List (DataW H) → Bool := fun _ ds => decide (uptoBulkAll ds ≤ 1048576)
def OpenSpec.upto (s : _root_.Go.ChangeSpec) : _root_.Go.OpenSpec := { _root_.Go.OpenSpec.ofChange s with cond := some uptoSmall }

/-- 'laws.FnExactTopOf', WHERE WHAT IT READS IS OF BULK AT MOST 1048576: true; the input reads as it did. -/
def fnExactTopOfUptoRow : OpenClaim := { program := "ytbiplciklmagoaa", sum := "c2de2b345708a946a3de7efcd2116ea30f2bfd50d9667708b201327892ab73ae", func := "loop.example/g01215/laws.FnExactTopOf", spec := "fnExactTopOf", unfollowed := true, recurses := true, plainKeys := false, apart := false, narrowed := true }
def FnExactTopOfUptoSaid : Prop := fnExactTopOfUptoRow.holds Try.pinned (OpenSpec.upto fnExactTopOfSpec)

/-- 'laws.FnExactCountRuns', WHERE WHAT IT READS IS OF BULK AT MOST 1048576: true; the input reads as it did. -/
def fnExactCountRunsUptoRow : OpenClaim := { program := "ytbiplciklmagoaa", sum := "c2de2b345708a946a3de7efcd2116ea30f2bfd50d9667708b201327892ab73ae", func := "loop.example/g01215/laws.FnExactCountRuns", spec := "fnExactCountRuns", unfollowed := true, recurses := true, plainKeys := false, apart := false, narrowed := true }
def FnExactCountRunsUptoSaid : Prop := fnExactCountRunsUptoRow.holds Try.pinned (OpenSpec.upto fnExactCountRunsSpec)

/-- 'laws.FnExactPour', WHERE WHAT IT READS IS OF BULK AT MOST 1048576: true; the input reads as it did. -/
def fnExactPourUptoRow : OpenClaim := { program := "ytbiplciklmagoaa", sum := "c2de2b345708a946a3de7efcd2116ea30f2bfd50d9667708b201327892ab73ae", func := "loop.example/g01215/laws.FnExactPour", spec := "fnExactPour", unfollowed := true, recurses := true, plainKeys := false, apart := false, narrowed := true }
def FnExactPourUptoSaid : Prop := fnExactPourUptoRow.holds Try.pinned (OpenSpec.upto fnExactPourSpec)

/-- 'laws.FnExactPoursOf', WHERE WHAT IT READS IS OF BULK AT MOST 1048576: true; the input reads as it did. -/
def fnExactPoursOfUptoRow : OpenClaim := { program := "ytbiplciklmagoaa", sum := "c2de2b345708a946a3de7efcd2116ea30f2bfd50d9667708b201327892ab73ae", func := "loop.example/g01215/laws.FnExactPoursOf", spec := "fnExactPoursOf", unfollowed := true, recurses := true, plainKeys := false, apart := false, narrowed := true }
def FnExactPoursOfUptoSaid : Prop := fnExactPoursOfUptoRow.holds Try.pinned (OpenSpec.upto fnExactPoursOfSpec)

/-- 'laws.FnExactFirstCandidate', WHERE WHAT IT READS IS OF BULK AT MOST 1048576: true; the input reads as it did. -/
def fnExactFirstCandidateUptoRow : OpenClaim := { program := "ytbiplciklmagoaa", sum := "c2de2b345708a946a3de7efcd2116ea30f2bfd50d9667708b201327892ab73ae", func := "loop.example/g01215/laws.FnExactFirstCandidate", spec := "fnExactFirstCandidate", unfollowed := true, recurses := true, plainKeys := false, apart := false, narrowed := true }
def FnExactFirstCandidateUptoSaid : Prop := fnExactFirstCandidateUptoRow.holds Try.pinned (OpenSpec.upto fnExactFirstCandidateSpec)

/-- 'laws.FnExactMeanMoved', WHERE WHAT IT READS IS OF BULK AT MOST 1048576: true; the input reads as it did. -/
def fnExactMeanMovedUptoRow : OpenClaim := { program := "ytbiplciklmagoaa", sum := "c2de2b345708a946a3de7efcd2116ea30f2bfd50d9667708b201327892ab73ae", func := "loop.example/g01215/laws.FnExactMeanMoved", spec := "fnExactMeanMoved", unfollowed := true, recurses := true, plainKeys := false, apart := false, narrowed := true }
def FnExactMeanMovedUptoSaid : Prop := fnExactMeanMovedUptoRow.holds Try.pinned (OpenSpec.upto fnExactMeanMovedSpec)

/-- 'laws.FnExactCandidateAt', WHERE WHAT IT READS IS OF BULK AT MOST 1048576: true; the input reads as it did. -/
def fnExactCandidateAtUptoRow : OpenClaim := { program := "ytbiplciklmagoaa", sum := "c2de2b345708a946a3de7efcd2116ea30f2bfd50d9667708b201327892ab73ae", func := "loop.example/g01215/laws.FnExactCandidateAt", spec := "fnExactCandidateAt", unfollowed := true, recurses := true, plainKeys := false, apart := false, narrowed := true }
def FnExactCandidateAtUptoSaid : Prop := fnExactCandidateAtUptoRow.holds Try.pinned (OpenSpec.upto fnExactCandidateAtSpec)

/-- 'laws.FnExactRoomLeft', WHERE WHAT IT READS IS OF BULK AT MOST 1048576: true; the input reads as it did. -/
def fnExactRoomLeftUptoRow : OpenClaim := { program := "ytbiplciklmagoaa", sum := "c2de2b345708a946a3de7efcd2116ea30f2bfd50d9667708b201327892ab73ae", func := "loop.example/g01215/laws.FnExactRoomLeft", spec := "fnExactRoomLeft", unfollowed := true, recurses := true, plainKeys := false, apart := false, narrowed := true }
def FnExactRoomLeftUptoSaid : Prop := fnExactRoomLeftUptoRow.holds Try.pinned (OpenSpec.upto fnExactRoomLeftSpec)

/-- 'laws.FnExactFormOf', WHERE WHAT IT READS IS OF BULK AT MOST 1048576: true; the input reads as it did. -/
def fnExactFormOfUptoRow : OpenClaim := { program := "ytbiplciklmagoaa", sum := "c2de2b345708a946a3de7efcd2116ea30f2bfd50d9667708b201327892ab73ae", func := "loop.example/g01215/laws.FnExactFormOf", spec := "fnExactFormOf", unfollowed := true, recurses := true, plainKeys := false, apart := false, narrowed := true }
def FnExactFormOfUptoSaid : Prop := fnExactFormOfUptoRow.holds Try.pinned (OpenSpec.upto fnExactFormOfSpec)

/-- 'laws.FnExactCountOrders', WHERE WHAT IT READS IS OF BULK AT MOST 1048576: true; the input reads as it did. -/
def fnExactCountOrdersUptoRow : OpenClaim := { program := "ytbiplciklmagoaa", sum := "c2de2b345708a946a3de7efcd2116ea30f2bfd50d9667708b201327892ab73ae", func := "loop.example/g01215/laws.FnExactCountOrders", spec := "fnExactCountOrders", unfollowed := true, recurses := true, plainKeys := false, apart := false, narrowed := true }
def FnExactCountOrdersUptoSaid : Prop := fnExactCountOrdersUptoRow.holds Try.pinned (OpenSpec.upto fnExactCountOrdersSpec)

end Rows
end Go.Proofs.Ytbiplciklmagoaa
