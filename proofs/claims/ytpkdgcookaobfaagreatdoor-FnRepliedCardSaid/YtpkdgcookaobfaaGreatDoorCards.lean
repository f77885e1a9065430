/-
  DERIVED. GIVEN WITH THE SEED: THE CARDS: each row of YtpkdgcookaobfaaGreatDoorRows.lean that lists a variable, with what it lists TIED to the program's text (the seventh form; the later family's looks); each row that meets fmt, with fmt's text TOLD by the authors' own Lean function (tested against real Go, not proved from fmt's source: count such statements apart). THE CARD IS WHAT COUNTS. Prove the row's statement (the work); the ties are given (YtpkdgcookaobfaaGreatDoorTie.lean); close each card by the builder's one call (the guide's Derived/Test/ToyasCard.lean, 'card_holds'). Laid BY PROGRAM, IN A SANDBOX (cutbox-door.mjs). By AI agents, Wed Nov 11 2026. No macro, syntax, notation, axiom, sorry.
-/
import Derived.Test.YtpkdgcookaobfaaGreatDoorRows
import GoSem.ClaimSeven
namespace Go.Proofs.YtpkdgcookaobfaaGreatDoor
namespace Rows

/-- THE TIED CARD OF 'laws.FnReplied'. -/
def fnRepliedCard : Claim7 := { stood := { row := fnRepliedRow, standIns := [], harness := (true, "2bc64934265da4654cc3ef44cfd098597d3ad05d530aba6646e9be0d8647acfe"), looks := false }, kinds := [], alts := [], laidByText := true, laidKinds := [.data, .data, .data], laidTests := true, laidLooks := .later }
def FnRepliedCardSaid : Prop := Claim7.holds Tryz.pinned (.plain (OpenSpec.ofChange fnRepliedSpec)) fnRepliedCard

/-- THE SECOND FORM's CARD OF 'laws.FnReplied'. -/
def fnRepliedUptoCard : Claim7 := { stood := { row := fnRepliedUptoRow, standIns := [], harness := (true, "2bc64934265da4654cc3ef44cfd098597d3ad05d530aba6646e9be0d8647acfe"), looks := false }, kinds := [], alts := [], laidByText := true, laidKinds := [.data, .data, .data], laidTests := true, laidLooks := .later }
def FnRepliedUptoCardSaid : Prop := Claim7.holds Tryz.pinned (.plain (OpenSpec.upto fnRepliedSpec)) fnRepliedUptoCard
end Rows
end Go.Proofs.YtpkdgcookaobfaaGreatDoor
