/-
  DERIVED. GIVEN WITH THE SEED: THE CARDS: each row of YtknfcngfhlpaeaaGreatDoorRows.lean that lists a variable, with what it lists TIED to the program's text (the seventh form; the later family's looks); each row that meets fmt, with fmt's text TOLD by the authors' own Lean function (tested against real Go, not proved from fmt's source: count such statements apart). THE CARD IS WHAT COUNTS. Prove the row's statement (the work); the ties are given (YtknfcngfhlpaeaaGreatDoorTie.lean); close each card by the builder's one call (the guide's Derived/Test/ToyasCard.lean, 'card_holds'). Laid BY PROGRAM, IN A SANDBOX (cutbox-door.mjs). By AI agents, Wed Nov 11 2026. No macro, syntax, notation, axiom, sorry.
-/
import Derived.Test.YtknfcngfhlpaeaaGreatDoorRows
import GoSem.ClaimSeven
namespace Go.Proofs.YtknfcngfhlpaeaaGreatDoor
namespace Rows

/-- THE TIED CARD OF 'laws.FnStopped'. -/
def fnStoppedCard : Claim7 := { stood := { row := fnStoppedRow, standIns := [], harness := (true, "107e13d91f577115fdd7720ba8d0197ef419e4b94d9ebc4a143c4e389dac05f1"), looks := false }, kinds := [], alts := [], laidByText := true, laidKinds := [.data, .data, .data], laidTests := true, laidLooks := .later }
def FnStoppedCardSaid : Prop := Claim7.holds Tryz.pinned (.plain (OpenSpec.ofChange fnStoppedSpec)) fnStoppedCard

/-- THE SECOND FORM's CARD OF 'laws.FnStopped'. -/
def fnStoppedUptoCard : Claim7 := { stood := { row := fnStoppedUptoRow, standIns := [], harness := (true, "107e13d91f577115fdd7720ba8d0197ef419e4b94d9ebc4a143c4e389dac05f1"), looks := false }, kinds := [], alts := [], laidByText := true, laidKinds := [.data, .data, .data], laidTests := true, laidLooks := .later }
def FnStoppedUptoCardSaid : Prop := Claim7.holds Tryz.pinned (.plain (OpenSpec.upto fnStoppedSpec)) fnStoppedUptoCard
end Rows
end Go.Proofs.YtknfcngfhlpaeaaGreatDoor
