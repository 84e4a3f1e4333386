/-
  DERIVED. GIVEN WITH THE SEED: THE CARDS: each row of YtlbgmkengkgnfaaDoorRows.lean that lists a variable, with what it lists TIED to the program's text (the seventh form; the later family's looks); each row that meets fmt, with fmt's text TOLD by the authors' own Lean function (tested against real Go, not proved from fmt's source: count such statements apart). THE CARD IS WHAT COUNTS. Prove the row's statement (the work); the ties are given (YtlbgmkengkgnfaaDoorTie.lean); close each card by the builder's one call (the guide's Derived/Test/ToyasCard.lean, 'card_holds'). Laid BY PROGRAM, IN A SANDBOX (cutbox-door.mjs). By AI agents, Wed Nov 11 2026. No macro, syntax, notation, axiom, sorry.
-/
import Derived.Test.YtlbgmkengkgnfaaDoorRows
import GoSem.ClaimSeven
namespace Go.Proofs.YtlbgmkengkgnfaaDoor
namespace Rows

/-- THE TIED CARD OF 'laws.FnExactParseRack'. -/
def fnExactParseRackCard : Claim7 := { stood := { row := fnExactParseRackRow, standIns := [], harness := (true, "e484ba883056b210ed85de54bee72ff73d560bacbf818de994d72b02f9b4c31c"), looks := false }, kinds := [], alts := [], laidByText := true, laidKinds := [.data, .pinned], laidTests := true, laidLooks := .later }
def FnExactParseRackCardSaid : Prop := Claim7.holds Tryd.pinned (.plain (OpenSpec.ofChange fnExactParseRackSpec)) fnExactParseRackCard

/-- THE SECOND FORM's CARD OF 'laws.FnExactParseRack'. -/
def fnExactParseRackUptoCard : Claim7 := { stood := { row := fnExactParseRackUptoRow, standIns := [], harness := (true, "e484ba883056b210ed85de54bee72ff73d560bacbf818de994d72b02f9b4c31c"), looks := false }, kinds := [], alts := [], laidByText := true, laidKinds := [.data, .pinned], laidTests := true, laidLooks := .later }
def FnExactParseRackUptoCardSaid : Prop := Claim7.holds Tryd.pinned (.plain (OpenSpec.upto fnExactParseRackSpec)) fnExactParseRackUptoCard
end Rows
end Go.Proofs.YtlbgmkengkgnfaaDoor
