/-
  No cell of these rows narrows 'for every input' (looked for: loops, veiled, ifaces, maps, wideKeys, modest, calm, conditions, laid).
  DERIVED. THE GIVEN ROWS OF THIS SEAT. 11 by the template 'for every input the law returns true; each argument reads behind the call as it read before'; 0 by the template 'total and deterministic' (their statements: YtljajgaicdffkaaTotals.lean).
  GIVEN WITH THE SEED: the statements are not yours to turn. If you find one false, say at which input.
  Laid BY PROGRAM, IN A SANDBOX (cutbox-rows.mjs): the forced cells as the released guide's own fill.sh prints them over the translation 5647ba7be217402e… (all of the seat's roots in one cut). By AI agents, Wed Nov 11 2026. No macro, syntax, notation, axiom, sorry.
-/
import Derived.Test.YtljajgaicdffkaaChecked
import GoSem.Claim
import GoSem.ClaimJoined
import GoSem.ClaimMapViews
import Derived.JoinedTies
import Derived.KernelRfl
namespace Go.Proofs.Ytljajgaicdffkaa
/- THE CELL 'sum', in the pinned program and in every row, IS THE sha256 OF THE DUMP (.gsa) THAT YtljajgaicdffkaaProg.lean LOADS. Nothing in Lean hashes anything: it is a label: what it is worth is what the hold of that sum in a sandbox is worth. -/
noncomputable def Try.pinned : Pinned := { name := "ytljajgaicdffkaa", sum := "5647ba7be217402e8320890b04a04998fccbbd27a720c6b11b9ee7fe069633ea", checked := Try.checked }
namespace Rows
def none {H : Type} : Left H := { results := [], args := [] }

/-- 'laws.FnExactIsOrder': WHATEVER THE INPUT: true; the input reads as it did. -/
def fnExactIsOrderSpec : ChangeSpec := { name := "fnExactIsOrder", fn := fun _ => fun
  | [d] => { results := [.lit (.bool true)], args := [d] }
  | _ => none }
def fnExactIsOrderRow : OpenClaim := { program := "ytljajgaicdffkaa", sum := "5647ba7be217402e8320890b04a04998fccbbd27a720c6b11b9ee7fe069633ea", func := "loop.example/g01215/laws.FnExactIsOrder", spec := "fnExactIsOrder", unfollowed := true, recurses := true, apart := false }
def FnExactIsOrderSaid : Prop := fnExactIsOrderRow.holds Try.pinned (OpenSpec.ofChange fnExactIsOrderSpec)

/-- ITS FALSE NEIGHBOUR: 'it returns false'. Refute it at one input. -/
def fnExactIsOrderWrong : ChangeSpec := { name := "fnExactIsOrder", fn := fun _ => fun
  | [d] => { results := [.lit (.bool false)], args := [d] }
  | _ => none }
def FnExactIsOrderWrongFalsely : Prop := fnExactIsOrderRow.holds Try.pinned (OpenSpec.ofChange fnExactIsOrderWrong)

/-- 'laws.FnExactIsRenaming': WHATEVER THE INPUT: true; the input reads as it did. -/
def fnExactIsRenamingSpec : ChangeSpec := { name := "fnExactIsRenaming", fn := fun _ => fun
  | [d] => { results := [.lit (.bool true)], args := [d] }
  | _ => none }
def fnExactIsRenamingRow : OpenClaim := { program := "ytljajgaicdffkaa", sum := "5647ba7be217402e8320890b04a04998fccbbd27a720c6b11b9ee7fe069633ea", func := "loop.example/g01215/laws.FnExactIsRenaming", spec := "fnExactIsRenaming", unfollowed := true, recurses := true, apart := false }
def FnExactIsRenamingSaid : Prop := fnExactIsRenamingRow.holds Try.pinned (OpenSpec.ofChange fnExactIsRenamingSpec)

/-- ITS FALSE NEIGHBOUR: 'it returns false'. Refute it at one input. -/
def fnExactIsRenamingWrong : ChangeSpec := { name := "fnExactIsRenaming", fn := fun _ => fun
  | [d] => { results := [.lit (.bool false)], args := [d] }
  | _ => none }
def FnExactIsRenamingWrongFalsely : Prop := fnExactIsRenamingRow.holds Try.pinned (OpenSpec.ofChange fnExactIsRenamingWrong)

/-- 'laws.FnExactBackNames': WHATEVER THE INPUT: true; the input reads as it did. -/
def fnExactBackNamesSpec : ChangeSpec := { name := "fnExactBackNames", fn := fun _ => fun
  | [d] => { results := [.lit (.bool true)], args := [d] }
  | _ => none }
def fnExactBackNamesRow : OpenClaim := { program := "ytljajgaicdffkaa", sum := "5647ba7be217402e8320890b04a04998fccbbd27a720c6b11b9ee7fe069633ea", func := "loop.example/g01215/laws.FnExactBackNames", spec := "fnExactBackNames", unfollowed := true, recurses := true, apart := false }
def FnExactBackNamesSaid : Prop := fnExactBackNamesRow.holds Try.pinned (OpenSpec.ofChange fnExactBackNamesSpec)

/-- ITS FALSE NEIGHBOUR: 'it returns false'. Refute it at one input. -/
def fnExactBackNamesWrong : ChangeSpec := { name := "fnExactBackNames", fn := fun _ => fun
  | [d] => { results := [.lit (.bool false)], args := [d] }
  | _ => none }
def FnExactBackNamesWrongFalsely : Prop := fnExactBackNamesRow.holds Try.pinned (OpenSpec.ofChange fnExactBackNamesWrong)

/-- 'laws.FnExactNamesBehind': WHATEVER THE INPUT: true; the input reads as it did. -/
def fnExactNamesBehindSpec : ChangeSpec := { name := "fnExactNamesBehind", fn := fun _ => fun
  | [d1, d2] => { results := [.lit (.bool true)], args := [d1, d2] }
  | _ => none }
def fnExactNamesBehindRow : OpenClaim := { program := "ytljajgaicdffkaa", sum := "5647ba7be217402e8320890b04a04998fccbbd27a720c6b11b9ee7fe069633ea", func := "loop.example/g01215/laws.FnExactNamesBehind", spec := "fnExactNamesBehind", unfollowed := true, recurses := true, apart := false }
def FnExactNamesBehindSaid : Prop := fnExactNamesBehindRow.holds Try.pinned (OpenSpec.ofChange fnExactNamesBehindSpec)

/-- ITS FALSE NEIGHBOUR: 'it returns false'. Refute it at one input. -/
def fnExactNamesBehindWrong : ChangeSpec := { name := "fnExactNamesBehind", fn := fun _ => fun
  | [d1, d2] => { results := [.lit (.bool false)], args := [d1, d2] }
  | _ => none }
def FnExactNamesBehindWrongFalsely : Prop := fnExactNamesBehindRow.holds Try.pinned (OpenSpec.ofChange fnExactNamesBehindWrong)

/-- 'laws.FnExactOrderRack': WHATEVER THE INPUT: true; the input reads as it did. -/
def fnExactOrderRackSpec : ChangeSpec := { name := "fnExactOrderRack", fn := fun _ => fun
  | [d1, d2] => { results := [.lit (.bool true)], args := [d1, d2] }
  | _ => none }
def fnExactOrderRackRow : OpenClaim := { program := "ytljajgaicdffkaa", sum := "5647ba7be217402e8320890b04a04998fccbbd27a720c6b11b9ee7fe069633ea", func := "loop.example/g01215/laws.FnExactOrderRack", spec := "fnExactOrderRack", unfollowed := true, recurses := true, apart := false }
def FnExactOrderRackSaid : Prop := fnExactOrderRackRow.holds Try.pinned (OpenSpec.ofChange fnExactOrderRackSpec)

/-- ITS FALSE NEIGHBOUR: 'it returns false'. Refute it at one input. -/
def fnExactOrderRackWrong : ChangeSpec := { name := "fnExactOrderRack", fn := fun _ => fun
  | [d1, d2] => { results := [.lit (.bool false)], args := [d1, d2] }
  | _ => none }
def FnExactOrderRackWrongFalsely : Prop := fnExactOrderRackRow.holds Try.pinned (OpenSpec.ofChange fnExactOrderRackWrong)

/-- 'laws.FnExactRenameRack': WHATEVER THE INPUT: true; the input reads as it did. -/
def fnExactRenameRackSpec : ChangeSpec := { name := "fnExactRenameRack", fn := fun _ => fun
  | [d1, d2] => { results := [.lit (.bool true)], args := [d1, d2] }
  | _ => none }
def fnExactRenameRackRow : OpenClaim := { program := "ytljajgaicdffkaa", sum := "5647ba7be217402e8320890b04a04998fccbbd27a720c6b11b9ee7fe069633ea", func := "loop.example/g01215/laws.FnExactRenameRack", spec := "fnExactRenameRack", unfollowed := true, recurses := true, apart := false }
def FnExactRenameRackSaid : Prop := fnExactRenameRackRow.holds Try.pinned (OpenSpec.ofChange fnExactRenameRackSpec)

/-- ITS FALSE NEIGHBOUR: 'it returns false'. Refute it at one input. -/
def fnExactRenameRackWrong : ChangeSpec := { name := "fnExactRenameRack", fn := fun _ => fun
  | [d1, d2] => { results := [.lit (.bool false)], args := [d1, d2] }
  | _ => none }
def FnExactRenameRackWrongFalsely : Prop := fnExactRenameRackRow.holds Try.pinned (OpenSpec.ofChange fnExactRenameRackWrong)

/-- 'laws.FnExactOrderTo': WHATEVER THE INPUT: true; the input reads as it did. -/
def fnExactOrderToSpec : ChangeSpec := { name := "fnExactOrderTo", fn := fun _ => fun
  | [d1, d2] => { results := [.lit (.bool true)], args := [d1, d2] }
  | _ => none }
def fnExactOrderToRow : OpenClaim := { program := "ytljajgaicdffkaa", sum := "5647ba7be217402e8320890b04a04998fccbbd27a720c6b11b9ee7fe069633ea", func := "loop.example/g01215/laws.FnExactOrderTo", spec := "fnExactOrderTo", unfollowed := true, recurses := true, apart := false }
def FnExactOrderToSaid : Prop := fnExactOrderToRow.holds Try.pinned (OpenSpec.ofChange fnExactOrderToSpec)

/-- ITS FALSE NEIGHBOUR: 'it returns false'. Refute it at one input. -/
def fnExactOrderToWrong : ChangeSpec := { name := "fnExactOrderTo", fn := fun _ => fun
  | [d1, d2] => { results := [.lit (.bool false)], args := [d1, d2] }
  | _ => none }
def FnExactOrderToWrongFalsely : Prop := fnExactOrderToRow.holds Try.pinned (OpenSpec.ofChange fnExactOrderToWrong)

/-- 'laws.FnExactCountRenamings': WHATEVER THE INPUT: true; the input reads as it did. -/
def fnExactCountRenamingsSpec : ChangeSpec := { name := "fnExactCountRenamings", fn := fun _ => fun
  | [d] => { results := [.lit (.bool true)], args := [d] }
  | _ => none }
def fnExactCountRenamingsRow : OpenClaim := { program := "ytljajgaicdffkaa", sum := "5647ba7be217402e8320890b04a04998fccbbd27a720c6b11b9ee7fe069633ea", func := "loop.example/g01215/laws.FnExactCountRenamings", spec := "fnExactCountRenamings", unfollowed := true, recurses := true, apart := false }
def FnExactCountRenamingsSaid : Prop := fnExactCountRenamingsRow.holds Try.pinned (OpenSpec.ofChange fnExactCountRenamingsSpec)

/-- ITS FALSE NEIGHBOUR: 'it returns false'. Refute it at one input. -/
def fnExactCountRenamingsWrong : ChangeSpec := { name := "fnExactCountRenamings", fn := fun _ => fun
  | [d] => { results := [.lit (.bool false)], args := [d] }
  | _ => none }
def FnExactCountRenamingsWrongFalsely : Prop := fnExactCountRenamingsRow.holds Try.pinned (OpenSpec.ofChange fnExactCountRenamingsWrong)

/-- 'laws.FnExactAreAlike': WHATEVER THE INPUT: true; the input reads as it did. -/
def fnExactAreAlikeSpec : ChangeSpec := { name := "fnExactAreAlike", fn := fun _ => fun
  | [d1, d2] => { results := [.lit (.bool true)], args := [d1, d2] }
  | _ => none }
def fnExactAreAlikeRow : OpenClaim := { program := "ytljajgaicdffkaa", sum := "5647ba7be217402e8320890b04a04998fccbbd27a720c6b11b9ee7fe069633ea", func := "loop.example/g01215/laws.FnExactAreAlike", spec := "fnExactAreAlike", unfollowed := true, recurses := true, apart := false }
def FnExactAreAlikeSaid : Prop := fnExactAreAlikeRow.holds Try.pinned (OpenSpec.ofChange fnExactAreAlikeSpec)

/-- ITS FALSE NEIGHBOUR: 'it returns false'. Refute it at one input. -/
def fnExactAreAlikeWrong : ChangeSpec := { name := "fnExactAreAlike", fn := fun _ => fun
  | [d1, d2] => { results := [.lit (.bool false)], args := [d1, d2] }
  | _ => none }
def FnExactAreAlikeWrongFalsely : Prop := fnExactAreAlikeRow.holds Try.pinned (OpenSpec.ofChange fnExactAreAlikeWrong)

/-- 'laws.FnExactRenamingTo': WHATEVER THE INPUT: true; the input reads as it did. -/
def fnExactRenamingToSpec : ChangeSpec := { name := "fnExactRenamingTo", fn := fun _ => fun
  | [d1, d2] => { results := [.lit (.bool true)], args := [d1, d2] }
  | _ => none }
def fnExactRenamingToRow : OpenClaim := { program := "ytljajgaicdffkaa", sum := "5647ba7be217402e8320890b04a04998fccbbd27a720c6b11b9ee7fe069633ea", func := "loop.example/g01215/laws.FnExactRenamingTo", spec := "fnExactRenamingTo", unfollowed := true, recurses := true, apart := false }
def FnExactRenamingToSaid : Prop := fnExactRenamingToRow.holds Try.pinned (OpenSpec.ofChange fnExactRenamingToSpec)

/-- ITS FALSE NEIGHBOUR: 'it returns false'. Refute it at one input. -/
def fnExactRenamingToWrong : ChangeSpec := { name := "fnExactRenamingTo", fn := fun _ => fun
  | [d1, d2] => { results := [.lit (.bool false)], args := [d1, d2] }
  | _ => none }
def FnExactRenamingToWrongFalsely : Prop := fnExactRenamingToRow.holds Try.pinned (OpenSpec.ofChange fnExactRenamingToWrong)

/-- 'laws.FnExactFirstForm': WHATEVER THE INPUT: true; the input reads as it did. -/
def fnExactFirstFormSpec : ChangeSpec := { name := "fnExactFirstForm", fn := fun _ => fun
  | [d] => { results := [.lit (.bool true)], args := [d] }
  | _ => none }
def fnExactFirstFormRow : OpenClaim := { program := "ytljajgaicdffkaa", sum := "5647ba7be217402e8320890b04a04998fccbbd27a720c6b11b9ee7fe069633ea", func := "loop.example/g01215/laws.FnExactFirstForm", spec := "fnExactFirstForm", unfollowed := true, recurses := true, apart := false }
def FnExactFirstFormSaid : Prop := fnExactFirstFormRow.holds Try.pinned (OpenSpec.ofChange fnExactFirstFormSpec)

/-- ITS FALSE NEIGHBOUR: 'it returns false'. Refute it at one input. -/
def fnExactFirstFormWrong : ChangeSpec := { name := "fnExactFirstForm", fn := fun _ => fun
  | [d] => { results := [.lit (.bool false)], args := [d] }
  | _ => none }
def FnExactFirstFormWrongFalsely : Prop := fnExactFirstFormRow.holds Try.pinned (OpenSpec.ofChange fnExactFirstFormWrong)

/- THE SECOND FORM. 'bulk': how many values and letters a reading holds, each counted each time it is reached (what is shared counts as often as it is met; a slice's spare places count too). A statement '..UptoSaid' is the law's where the arguments, and the package variables that the reading takes, are together of bulk at most 1048576: NARROWER than '..Said'. Prove '..Said' where nothing that the law and all that it calls make is longer than what came in: it says more and counts as full. Else prove '..UptoSaid'. A law counts once. -/
mutual
def uptoBulk {H : Type} : DataW H → Nat
  | .lit (.string bytes) => bytes.length + 1
  | .lit _ => 1
  | .nil => 1
  | .ptr d => uptoBulk d + 1
  | .slice elems spare => uptoBulkAll elems + uptoBulkAll spare + 1
  | .agg parts => uptoBulkAll parts + 1
  | .iface _ d => uptoBulk d + 1
  | .map entries => uptoBulkEntries entries + 1
  | .held _ => 1
def uptoBulkAll {H : Type} : List (DataW H) → Nat
  | [] => 0
  | d :: r => uptoBulk d + uptoBulkAll r
def uptoBulkEntries {H : Type} : List (Lit × DataW H) → Nat
  | [] => 0
  | x :: r => uptoBulkEntry x + uptoBulkEntries r
def uptoBulkEntry {H : Type} : Lit × DataW H → Nat
  | (.string bytes, d) => bytes.length + uptoBulk d + 1
  | (_, d) => uptoBulk d + 1
 end
def uptoSmall : (H : Type) → List (DataW H) → Bool := fun _ ds => decide (uptoBulkAll ds ≤ 1048576)
def OpenSpec.upto (s : _root_.Go.ChangeSpec) : _root_.Go.OpenSpec := { _root_.Go.OpenSpec.ofChange s with cond := some uptoSmall }

/-- 'laws.FnExactIsOrder', WHERE WHAT IT READS IS OF BULK AT MOST 1048576: true; the input reads as it did. -/
def fnExactIsOrderUptoRow : OpenClaim := { program := "ytljajgaicdffkaa", sum := "5647ba7be217402e8320890b04a04998fccbbd27a720c6b11b9ee7fe069633ea", func := "loop.example/g01215/laws.FnExactIsOrder", spec := "fnExactIsOrder", unfollowed := true, recurses := true, apart := false, narrowed := true }
def FnExactIsOrderUptoSaid : Prop := fnExactIsOrderUptoRow.holds Try.pinned (OpenSpec.upto fnExactIsOrderSpec)

/-- 'laws.FnExactIsRenaming', WHERE WHAT IT READS IS OF BULK AT MOST 1048576: true; the input reads as it did. -/
def fnExactIsRenamingUptoRow : OpenClaim := { program := "ytljajgaicdffkaa", sum := "5647ba7be217402e8320890b04a04998fccbbd27a720c6b11b9ee7fe069633ea", func := "loop.example/g01215/laws.FnExactIsRenaming", spec := "fnExactIsRenaming", unfollowed := true, recurses := true, apart := false, narrowed := true }
def FnExactIsRenamingUptoSaid : Prop := fnExactIsRenamingUptoRow.holds Try.pinned (OpenSpec.upto fnExactIsRenamingSpec)

/-- 'laws.FnExactBackNames', WHERE WHAT IT READS IS OF BULK AT MOST 1048576: true; the input reads as it did. -/
def fnExactBackNamesUptoRow : OpenClaim := { program := "ytljajgaicdffkaa", sum := "5647ba7be217402e8320890b04a04998fccbbd27a720c6b11b9ee7fe069633ea", func := "loop.example/g01215/laws.FnExactBackNames", spec := "fnExactBackNames", unfollowed := true, recurses := true, apart := false, narrowed := true }
def FnExactBackNamesUptoSaid : Prop := fnExactBackNamesUptoRow.holds Try.pinned (OpenSpec.upto fnExactBackNamesSpec)

/-- 'laws.FnExactNamesBehind', WHERE WHAT IT READS IS OF BULK AT MOST 1048576: true; the input reads as it did. -/
def fnExactNamesBehindUptoRow : OpenClaim := { program := "ytljajgaicdffkaa", sum := "5647ba7be217402e8320890b04a04998fccbbd27a720c6b11b9ee7fe069633ea", func := "loop.example/g01215/laws.FnExactNamesBehind", spec := "fnExactNamesBehind", unfollowed := true, recurses := true, apart := false, narrowed := true }
def FnExactNamesBehindUptoSaid : Prop := fnExactNamesBehindUptoRow.holds Try.pinned (OpenSpec.upto fnExactNamesBehindSpec)

/-- 'laws.FnExactOrderRack', WHERE WHAT IT READS IS OF BULK AT MOST 1048576: true; the input reads as it did. -/
def fnExactOrderRackUptoRow : OpenClaim := { program := "ytljajgaicdffkaa", sum := "5647ba7be217402e8320890b04a04998fccbbd27a720c6b11b9ee7fe069633ea", func := "loop.example/g01215/laws.FnExactOrderRack", spec := "fnExactOrderRack", unfollowed := true, recurses := true, apart := false, narrowed := true }
def FnExactOrderRackUptoSaid : Prop := fnExactOrderRackUptoRow.holds Try.pinned (OpenSpec.upto fnExactOrderRackSpec)

/-- 'laws.FnExactRenameRack', WHERE WHAT IT READS IS OF BULK AT MOST 1048576: true; the input reads as it did. -/
def fnExactRenameRackUptoRow : OpenClaim := { program := "ytljajgaicdffkaa", sum := "5647ba7be217402e8320890b04a04998fccbbd27a720c6b11b9ee7fe069633ea", func := "loop.example/g01215/laws.FnExactRenameRack", spec := "fnExactRenameRack", unfollowed := true, recurses := true, apart := false, narrowed := true }
def FnExactRenameRackUptoSaid : Prop := fnExactRenameRackUptoRow.holds Try.pinned (OpenSpec.upto fnExactRenameRackSpec)

/-- 'laws.FnExactOrderTo', WHERE WHAT IT READS IS OF BULK AT MOST 1048576: true; the input reads as it did. -/
def fnExactOrderToUptoRow : OpenClaim := { program := "ytljajgaicdffkaa", sum := "5647ba7be217402e8320890b04a04998fccbbd27a720c6b11b9ee7fe069633ea", func := "loop.example/g01215/laws.FnExactOrderTo", spec := "fnExactOrderTo", unfollowed := true, recurses := true, apart := false, narrowed := true }
def FnExactOrderToUptoSaid : Prop := fnExactOrderToUptoRow.holds Try.pinned (OpenSpec.upto fnExactOrderToSpec)

/-- 'laws.FnExactCountRenamings', WHERE WHAT IT READS IS OF BULK AT MOST 1048576: true; the input reads as it did. -/
def fnExactCountRenamingsUptoRow : OpenClaim := { program := "ytljajgaicdffkaa", sum := "5647ba7be217402e8320890b04a04998fccbbd27a720c6b11b9ee7fe069633ea", func := "loop.example/g01215/laws.FnExactCountRenamings", spec := "fnExactCountRenamings", unfollowed := true, recurses := true, apart := false, narrowed := true }
def FnExactCountRenamingsUptoSaid : Prop := fnExactCountRenamingsUptoRow.holds Try.pinned (OpenSpec.upto fnExactCountRenamingsSpec)

/-- 'laws.FnExactAreAlike', WHERE WHAT IT READS IS OF BULK AT MOST 1048576: true; the input reads as it did. -/
def fnExactAreAlikeUptoRow : OpenClaim := { program := "ytljajgaicdffkaa", sum := "5647ba7be217402e8320890b04a04998fccbbd27a720c6b11b9ee7fe069633ea", func := "loop.example/g01215/laws.FnExactAreAlike", spec := "fnExactAreAlike", unfollowed := true, recurses := true, apart := false, narrowed := true }
def FnExactAreAlikeUptoSaid : Prop := fnExactAreAlikeUptoRow.holds Try.pinned (OpenSpec.upto fnExactAreAlikeSpec)

/-- 'laws.FnExactRenamingTo', WHERE WHAT IT READS IS OF BULK AT MOST 1048576: true; the input reads as it did. -/
def fnExactRenamingToUptoRow : OpenClaim := { program := "ytljajgaicdffkaa", sum := "5647ba7be217402e8320890b04a04998fccbbd27a720c6b11b9ee7fe069633ea", func := "loop.example/g01215/laws.FnExactRenamingTo", spec := "fnExactRenamingTo", unfollowed := true, recurses := true, apart := false, narrowed := true }
def FnExactRenamingToUptoSaid : Prop := fnExactRenamingToUptoRow.holds Try.pinned (OpenSpec.upto fnExactRenamingToSpec)

/-- 'laws.FnExactFirstForm', WHERE WHAT IT READS IS OF BULK AT MOST 1048576: true; the input reads as it did. -/
def fnExactFirstFormUptoRow : OpenClaim := { program := "ytljajgaicdffkaa", sum := "5647ba7be217402e8320890b04a04998fccbbd27a720c6b11b9ee7fe069633ea", func := "loop.example/g01215/laws.FnExactFirstForm", spec := "fnExactFirstForm", unfollowed := true, recurses := true, apart := false, narrowed := true }
def FnExactFirstFormUptoSaid : Prop := fnExactFirstFormUptoRow.holds Try.pinned (OpenSpec.upto fnExactFirstFormSpec)

end Rows
end Go.Proofs.Ytljajgaicdffkaa
