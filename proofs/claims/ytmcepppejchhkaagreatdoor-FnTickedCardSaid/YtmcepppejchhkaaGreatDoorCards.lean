/-
  DERIVED. GIVEN WITH THE SEED: THE CARDS: each row of YtmcepppejchhkaaGreatDoorRows.lean that lists a variable, with what it lists TIED to the program's text (the seventh form; the later family's looks); each row that meets fmt, with fmt's text TOLD by the authors' own Lean function (tested against real Go, not proved from fmt's source: count such statements apart). THE CARD IS WHAT COUNTS. Prove the row's statement (the work); the ties are given (YtmcepppejchhkaaGreatDoorTie.lean); close each card by the builder's one call (the guide's Derived/Test/ToyasCard.lean, 'card_holds'). Laid BY PROGRAM, IN A SANDBOX (cutbox-door.mjs). By AI agents, Wed Nov 11 2026. No macro, syntax, notation, axiom, sorry.
-/
import Derived.Test.YtmcepppejchhkaaGreatDoorRows
import GoSem.ClaimSeven
namespace Go.Proofs.YtmcepppejchhkaaGreatDoor
namespace Rows

/-- THE TIED CARD OF 'laws.FnTicked'. -/
def fnTickedCard : Claim7 := { stood := { row := fnTickedRow, standIns := [], harness := (true, "f46c91b2dfab06a0a42c3f329f1d8ccf59e1864da3baea2b7367e3c5b4d2995a"), looks := false }, kinds := [], alts := [], laidByText := true, laidKinds := [.data, .data, .data], laidTests := true, laidLooks := .later }
def FnTickedCardSaid : Prop := Claim7.holds Tryz.pinned (.plain (OpenSpec.ofChange fnTickedSpec)) fnTickedCard

/-- THE SECOND FORM's CARD OF 'laws.FnTicked'. -/
def fnTickedUptoCard : Claim7 := { stood := { row := fnTickedUptoRow, standIns := [], harness := (true, "f46c91b2dfab06a0a42c3f329f1d8ccf59e1864da3baea2b7367e3c5b4d2995a"), looks := false }, kinds := [], alts := [], laidByText := true, laidKinds := [.data, .data, .data], laidTests := true, laidLooks := .later }
def FnTickedUptoCardSaid : Prop := Claim7.holds Tryz.pinned (.plain (OpenSpec.upto fnTickedSpec)) fnTickedUptoCard
end Rows
end Go.Proofs.YtmcepppejchhkaaGreatDoor
