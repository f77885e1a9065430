/-
  DERIVED. GIVEN WITH THE SEED: THE CARDS: each row of YtceiiofmelhipaaGreatDoorRows.lean that lists a variable, with what it lists TIED to the program's text (the seventh form; the later family's looks); each row that meets fmt, with fmt's text TOLD by the authors' own Lean function (tested against real Go, not proved from fmt's source: count such statements apart). THE CARD IS WHAT COUNTS. Prove the row's statement (the work); the ties are given (YtceiiofmelhipaaGreatDoorTie.lean); close each card by the builder's one call (the guide's Derived/Test/ToyasCard.lean, 'card_holds'). Laid BY PROGRAM, IN A SANDBOX (cutbox-door.mjs). By AI agents, Wed Nov 11 2026. No macro, syntax, notation, axiom, sorry.
-/
import Derived.Test.YtceiiofmelhipaaGreatDoorRows
import GoSem.ClaimSeven
namespace Go.Proofs.YtceiiofmelhipaaGreatDoor
namespace Rows

/-- THE TIED CARD OF 'laws.FnEffectsBent'. -/
def fnEffectsBentCard : Claim7 := { stood := { row := fnEffectsBentRow, standIns := [], harness := (true, "6380d730445ab5e3930acf3ae74e65d665ace6aee7db1e0293ab4ce5e6ead1de"), looks := false }, kinds := [], alts := [], laidByText := true, laidKinds := [.data, .data, .data], laidTests := true, laidLooks := .later }
def FnEffectsBentCardSaid : Prop := Claim7.holds Tryz.pinned (.plain (OpenSpec.ofChange fnEffectsBentSpec)) fnEffectsBentCard

/-- THE SECOND FORM's CARD OF 'laws.FnEffectsBent'. -/
def fnEffectsBentUptoCard : Claim7 := { stood := { row := fnEffectsBentUptoRow, standIns := [], harness := (true, "6380d730445ab5e3930acf3ae74e65d665ace6aee7db1e0293ab4ce5e6ead1de"), looks := false }, kinds := [], alts := [], laidByText := true, laidKinds := [.data, .data, .data], laidTests := true, laidLooks := .later }
def FnEffectsBentUptoCardSaid : Prop := Claim7.holds Tryz.pinned (.plain (OpenSpec.upto fnEffectsBentSpec)) fnEffectsBentUptoCard
end Rows
end Go.Proofs.YtceiiofmelhipaaGreatDoor
