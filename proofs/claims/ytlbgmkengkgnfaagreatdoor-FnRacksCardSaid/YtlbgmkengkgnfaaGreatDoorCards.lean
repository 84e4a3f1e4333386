/-
  DERIVED. GIVEN WITH THE SEED: THE CARDS: each row of YtlbgmkengkgnfaaGreatDoorRows.lean that lists a variable, with what it lists TIED to the program's text (the seventh form; the later family's looks); each row that meets fmt, with fmt's text TOLD by the authors' own Lean function (tested against real Go, not proved from fmt's source: count such statements apart). THE CARD IS WHAT COUNTS. Prove the row's statement (the work); the ties are given (YtlbgmkengkgnfaaGreatDoorTie.lean); close each card by the builder's one call (the guide's Derived/Test/ToyasCard.lean, 'card_holds'). Laid BY PROGRAM, IN A SANDBOX (cutbox-door.mjs). By AI agents, Wed Nov 11 2026. No macro, syntax, notation, axiom, sorry.
-/
import Derived.Test.YtlbgmkengkgnfaaGreatDoorRows
import GoSem.ClaimSeven
namespace Go.Proofs.YtlbgmkengkgnfaaGreatDoor
namespace Rows

/-- THE TIED CARD OF 'laws.FnRacks'. -/
def fnRacksCard : Claim7 := { stood := { row := fnRacksRow, standIns := [], harness := (true, "89a04b4e7bc565c8429f55b6921a0f28e43ffa339054ee6a03f1aac235a1beae"), looks := false }, kinds := [], alts := [], laidByText := true, laidKinds := [.data, .pinned], laidTests := true, laidLooks := .later }
def FnRacksCardSaid : Prop := Claim7.holds Tryz.pinned (.plain (OpenSpec.ofChange fnRacksSpec)) fnRacksCard

/-- THE SECOND FORM's CARD OF 'laws.FnRacks'. -/
def fnRacksUptoCard : Claim7 := { stood := { row := fnRacksUptoRow, standIns := [], harness := (true, "89a04b4e7bc565c8429f55b6921a0f28e43ffa339054ee6a03f1aac235a1beae"), looks := false }, kinds := [], alts := [], laidByText := true, laidKinds := [.data, .pinned], laidTests := true, laidLooks := .later }
def FnRacksUptoCardSaid : Prop := Claim7.holds Tryz.pinned (.plain (OpenSpec.upto fnRacksSpec)) fnRacksUptoCard
end Rows
end Go.Proofs.YtlbgmkengkgnfaaGreatDoor
