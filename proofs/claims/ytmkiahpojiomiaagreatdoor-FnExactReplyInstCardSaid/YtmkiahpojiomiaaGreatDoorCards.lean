/-
  DERIVED. GIVEN WITH THE SEED: THE CARDS: each row of YtmkiahpojiomiaaGreatDoorRows.lean that lists a variable, with what it lists TIED to the program's text (the seventh form; the later family's looks); each row that meets fmt, with fmt's text TOLD by the authors' own Lean function (tested against real Go, not proved from fmt's source: count such statements apart). THE CARD IS WHAT COUNTS. Prove the row's statement (the work); the ties are given (YtmkiahpojiomiaaGreatDoorTie.lean); close each card by the builder's one call (the guide's Derived/Test/ToyasCard.lean, 'card_holds'). Laid BY PROGRAM, IN A SANDBOX (cutbox-door.mjs). By AI agents, Wed Nov 11 2026. No macro, syntax, notation, axiom, sorry.
-/
import Derived.Test.YtmkiahpojiomiaaGreatDoorRows
import GoSem.ClaimSeven
namespace Go.Proofs.YtmkiahpojiomiaaGreatDoor
namespace Rows

/-- THE TIED CARD OF 'laws.FnExactReplyInst'. -/
def fnExactReplyInstCard : Claim7 := { stood := { row := fnExactReplyInstRow, standIns := [], harness := (true, "8f79fd80d9001fc0d105a96c8c907d7b2e88b004fe50135194e220b034109527"), looks := false }, kinds := [], alts := [], laidByText := true, laidKinds := [.data, .data, .data], laidTests := true, laidLooks := .later }
def FnExactReplyInstCardSaid : Prop := Claim7.holds Tryz.pinned (.plain (OpenSpec.ofChange fnExactReplyInstSpec)) fnExactReplyInstCard

/-- THE SECOND FORM's CARD OF 'laws.FnExactReplyInst'. -/
def fnExactReplyInstUptoCard : Claim7 := { stood := { row := fnExactReplyInstUptoRow, standIns := [], harness := (true, "8f79fd80d9001fc0d105a96c8c907d7b2e88b004fe50135194e220b034109527"), looks := false }, kinds := [], alts := [], laidByText := true, laidKinds := [.data, .data, .data], laidTests := true, laidLooks := .later }
def FnExactReplyInstUptoCardSaid : Prop := Claim7.holds Tryz.pinned (.plain (OpenSpec.upto fnExactReplyInstSpec)) fnExactReplyInstUptoCard
end Rows
end Go.Proofs.YtmkiahpojiomiaaGreatDoor
