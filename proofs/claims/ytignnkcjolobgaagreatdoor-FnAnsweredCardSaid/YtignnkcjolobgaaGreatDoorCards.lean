/-
  DERIVED. GIVEN WITH THE SEED: THE CARDS: each row of YtignnkcjolobgaaGreatDoorRows.lean that lists a variable, with what it lists TIED to the program's text (the seventh form; the later family's looks); each row that meets fmt, with fmt's text TOLD by the authors' own Lean function (tested against real Go, not proved from fmt's source: count such statements apart). THE CARD IS WHAT COUNTS. Prove the row's statement (the work); the ties are given (YtignnkcjolobgaaGreatDoorTie.lean); close each card by the builder's one call (the guide's Derived/Test/ToyasCard.lean, 'card_holds'). Laid BY PROGRAM, IN A SANDBOX (cutbox-door.mjs). By AI agents, Wed Nov 11 2026. No macro, syntax, notation, axiom, sorry.
-/
import Derived.Test.YtignnkcjolobgaaGreatDoorRows
import GoSem.ClaimSeven
namespace Go.Proofs.YtignnkcjolobgaaGreatDoor
namespace Rows

/-- THE TIED CARD OF 'laws.FnStarted'. -/
def fnStartedCard : Claim7 := { stood := { row := fnStartedRow, standIns := [], harness := (true, "cd17f219e0df150ff1bb57a8f4f0553571718fa0c175deb8ffede56bf6c47b2d"), looks := false }, kinds := [], alts := [], laidByText := true, laidKinds := [.data, .data, .data], laidTests := true, laidLooks := .later }
def FnStartedCardSaid : Prop := Claim7.holds Tryz.pinned (.plain (OpenSpec.ofChange fnStartedSpec)) fnStartedCard

/-- THE TIED CARD OF 'laws.FnAnswered'. -/
def fnAnsweredCard : Claim7 := { stood := { row := fnAnsweredRow, standIns := [], harness := (true, "cd17f219e0df150ff1bb57a8f4f0553571718fa0c175deb8ffede56bf6c47b2d"), looks := false }, kinds := [], alts := [], laidByText := true, laidKinds := [.data, .data, .data], laidTests := true, laidLooks := .later }
def FnAnsweredCardSaid : Prop := Claim7.holds Tryz.pinned (.plain (OpenSpec.ofChange fnAnsweredSpec)) fnAnsweredCard

/-- THE TIED CARD OF 'laws.FnSent'. -/
def fnSentCard : Claim7 := { stood := { row := fnSentRow, standIns := [], harness := (true, "cd17f219e0df150ff1bb57a8f4f0553571718fa0c175deb8ffede56bf6c47b2d"), looks := false }, kinds := [], alts := [], laidByText := true, laidKinds := [.data, .data, .data], laidTests := true, laidLooks := .later }
def FnSentCardSaid : Prop := Claim7.holds Tryz.pinned (.plain (OpenSpec.ofChange fnSentSpec)) fnSentCard

/-- THE SECOND FORM's CARD OF 'laws.FnStarted'. -/
def fnStartedUptoCard : Claim7 := { stood := { row := fnStartedUptoRow, standIns := [], harness := (true, "cd17f219e0df150ff1bb57a8f4f0553571718fa0c175deb8ffede56bf6c47b2d"), looks := false }, kinds := [], alts := [], laidByText := true, laidKinds := [.data, .data, .data], laidTests := true, laidLooks := .later }
def FnStartedUptoCardSaid : Prop := Claim7.holds Tryz.pinned (.plain (OpenSpec.upto fnStartedSpec)) fnStartedUptoCard

/-- THE SECOND FORM's CARD OF 'laws.FnAnswered'. -/
def fnAnsweredUptoCard : Claim7 := { stood := { row := fnAnsweredUptoRow, standIns := [], harness := (true, "cd17f219e0df150ff1bb57a8f4f0553571718fa0c175deb8ffede56bf6c47b2d"), looks := false }, kinds := [], alts := [], laidByText := true, laidKinds := [.data, .data, .data], laidTests := true, laidLooks := .later }
def FnAnsweredUptoCardSaid : Prop := Claim7.holds Tryz.pinned (.plain (OpenSpec.upto fnAnsweredSpec)) fnAnsweredUptoCard

/-- THE SECOND FORM's CARD OF 'laws.FnSent'. -/
def fnSentUptoCard : Claim7 := { stood := { row := fnSentUptoRow, standIns := [], harness := (true, "cd17f219e0df150ff1bb57a8f4f0553571718fa0c175deb8ffede56bf6c47b2d"), looks := false }, kinds := [], alts := [], laidByText := true, laidKinds := [.data, .data, .data], laidTests := true, laidLooks := .later }
def FnSentUptoCardSaid : Prop := Claim7.holds Tryz.pinned (.plain (OpenSpec.upto fnSentSpec)) fnSentUptoCard
end Rows
end Go.Proofs.YtignnkcjolobgaaGreatDoor
