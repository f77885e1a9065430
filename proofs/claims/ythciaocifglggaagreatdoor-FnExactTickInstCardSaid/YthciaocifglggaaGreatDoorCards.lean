/-
  DERIVED. GIVEN WITH THE SEED: THE CARDS: each row of YthciaocifglggaaGreatDoorRows.lean that lists a variable, with what it lists TIED to the program's text (the seventh form; the later family's looks); each row that meets fmt, with fmt's text TOLD by the authors' own Lean function (tested against real Go, not proved from fmt's source: count such statements apart). THE CARD IS WHAT COUNTS. Prove the row's statement (the work); the ties are given (YthciaocifglggaaGreatDoorTie.lean); close each card by the builder's one call (the guide's Derived/Test/ToyasCard.lean, 'card_holds'). Laid BY PROGRAM, IN A SANDBOX (cutbox-door.mjs). By AI agents, Wed Nov 11 2026. No macro, syntax, notation, axiom, sorry.
-/
import Derived.Test.YthciaocifglggaaGreatDoorRows
import GoSem.ClaimSeven
namespace Go.Proofs.YthciaocifglggaaGreatDoor
namespace Rows

/-- THE TIED CARD OF 'laws.FnExactTickInst'. -/
def fnExactTickInstCard : Claim7 := { stood := { row := fnExactTickInstRow, standIns := [], harness := (true, "d826602c127dc2ad6e6809e3bf167364f9e4454b483f5765f9796ea1d6ad198a"), looks := false }, kinds := [], alts := [], laidByText := true, laidKinds := [.data, .data, .data], laidTests := true, laidLooks := .later }
def FnExactTickInstCardSaid : Prop := Claim7.holds Tryz.pinned (.plain (OpenSpec.ofChange fnExactTickInstSpec)) fnExactTickInstCard

/-- THE SECOND FORM's CARD OF 'laws.FnExactTickInst'. -/
def fnExactTickInstUptoCard : Claim7 := { stood := { row := fnExactTickInstUptoRow, standIns := [], harness := (true, "d826602c127dc2ad6e6809e3bf167364f9e4454b483f5765f9796ea1d6ad198a"), looks := false }, kinds := [], alts := [], laidByText := true, laidKinds := [.data, .data, .data], laidTests := true, laidLooks := .later }
def FnExactTickInstUptoCardSaid : Prop := Claim7.holds Tryz.pinned (.plain (OpenSpec.upto fnExactTickInstSpec)) fnExactTickInstUptoCard
end Rows
end Go.Proofs.YthciaocifglggaaGreatDoor
