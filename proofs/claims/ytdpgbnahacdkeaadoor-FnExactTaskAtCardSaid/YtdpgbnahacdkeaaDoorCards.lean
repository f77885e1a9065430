/-
  DERIVED. GIVEN WITH THE SEED: THE CARDS: each row of YtdpgbnahacdkeaaDoorRows.lean that lists a variable, with what it lists TIED to the program's text (the seventh form; the later family's looks); each row that meets fmt, with fmt's text TOLD by the authors' own Lean function (tested against real Go, not proved from fmt's source: count such statements apart). THE CARD IS WHAT COUNTS. Prove the row's statement (the work); the ties are given (YtdpgbnahacdkeaaDoorTie.lean); close each card by the builder's one call (the guide's Derived/Test/ToyasCard.lean, 'card_holds'). Laid BY PROGRAM, IN A SANDBOX (cutbox-door.mjs). By AI agents, Wed Nov 11 2026. No macro, syntax, notation, axiom, sorry.
-/
import Derived.Test.YtdpgbnahacdkeaaDoorRows
import GoSem.ClaimSeven
namespace Go.Proofs.YtdpgbnahacdkeaaDoor
namespace Rows

/-- THE TIED CARD OF 'laws.FnExactTaskKey'. -/
def fnExactTaskKeyCard : Claim7 := { stood := { row := fnExactTaskKeyRow, standIns := [], harness := (true, "24de2b9b571a2877915634ec717918d2a3dbbc5dbe2296e6d2db13ac9ff5bc39"), looks := false }, kinds := [], alts := [], laidByText := true, laidKinds := [.data, .data, .data], laidTests := true, laidLooks := .later }
def FnExactTaskKeyCardSaid : Prop := Claim7.holds Tryd.pinned (.plain (OpenSpec.ofChange fnExactTaskKeySpec)) fnExactTaskKeyCard

/-- THE TIED CARD OF 'laws.FnExactTaskAt'. -/
def fnExactTaskAtCard : Claim7 := { stood := { row := fnExactTaskAtRow, standIns := [], harness := (true, "24de2b9b571a2877915634ec717918d2a3dbbc5dbe2296e6d2db13ac9ff5bc39"), looks := false }, kinds := [], alts := [], laidByText := true, laidKinds := [.data, .data, .data], laidTests := true, laidLooks := .later }
def FnExactTaskAtCardSaid : Prop := Claim7.holds Tryd.pinned (.plain (OpenSpec.ofChange fnExactTaskAtSpec)) fnExactTaskAtCard

/-- THE SECOND FORM's CARD OF 'laws.FnExactTaskKey'. -/
def fnExactTaskKeyUptoCard : Claim7 := { stood := { row := fnExactTaskKeyUptoRow, standIns := [], harness := (true, "24de2b9b571a2877915634ec717918d2a3dbbc5dbe2296e6d2db13ac9ff5bc39"), looks := false }, kinds := [], alts := [], laidByText := true, laidKinds := [.data, .data, .data], laidTests := true, laidLooks := .later }
def FnExactTaskKeyUptoCardSaid : Prop := Claim7.holds Tryd.pinned (.plain (OpenSpec.upto fnExactTaskKeySpec)) fnExactTaskKeyUptoCard

/-- THE SECOND FORM's CARD OF 'laws.FnExactTaskAt'. -/
def fnExactTaskAtUptoCard : Claim7 := { stood := { row := fnExactTaskAtUptoRow, standIns := [], harness := (true, "24de2b9b571a2877915634ec717918d2a3dbbc5dbe2296e6d2db13ac9ff5bc39"), looks := false }, kinds := [], alts := [], laidByText := true, laidKinds := [.data, .data, .data], laidTests := true, laidLooks := .later }
def FnExactTaskAtUptoCardSaid : Prop := Claim7.holds Tryd.pinned (.plain (OpenSpec.upto fnExactTaskAtSpec)) fnExactTaskAtUptoCard
end Rows
end Go.Proofs.YtdpgbnahacdkeaaDoor
