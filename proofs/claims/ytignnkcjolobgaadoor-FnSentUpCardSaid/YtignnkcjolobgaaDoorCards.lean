/-
  DERIVED. GIVEN WITH THE SEED: THE CARDS: each row of YtignnkcjolobgaaDoorRows.lean that lists a variable, with what it lists TIED to the program's text (the seventh form; the later family's looks); each row that meets fmt, with fmt's text TOLD by the authors' own Lean function (tested against real Go, not proved from fmt's source: count such statements apart). THE CARD IS WHAT COUNTS. Prove the row's statement (the work); the ties are given (YtignnkcjolobgaaDoorTie.lean); close each card by the builder's one call (the guide's Derived/Test/ToyasCard.lean, 'card_holds'). Laid BY PROGRAM, IN A SANDBOX (cutbox-door.mjs). By AI agents, Wed Nov 11 2026. No macro, syntax, notation, axiom, sorry.
-/
import Derived.Test.YtignnkcjolobgaaDoorRows
import GoSem.ClaimSeven
namespace Go.Proofs.YtignnkcjolobgaaDoor
namespace Rows

/-- THE TIED CARD OF 'laws.FnSentUp'. -/
def fnSentUpCard : Claim7 := { stood := { row := fnSentUpRow, standIns := [], harness := (true, "c30412eabc86890bddb458aa5b2511a5cc81b5f1e51f5675601963d5f1c1e8c8"), looks := false }, kinds := [], alts := [], laidByText := true, laidKinds := [.data, .data, .data], laidTests := true, laidLooks := .later }
def FnSentUpCardSaid : Prop := Claim7.holds Tryd.pinned (.plain (OpenSpec.ofChange fnSentUpSpec)) fnSentUpCard

/-- THE TIED CARD OF 'laws.FnUndos'. -/
def fnUndosCard : Claim7 := { stood := { row := fnUndosRow, standIns := [], harness := (true, "c30412eabc86890bddb458aa5b2511a5cc81b5f1e51f5675601963d5f1c1e8c8"), looks := false }, kinds := [], alts := [], laidByText := true, laidKinds := [.data, .data, .data], laidTests := true, laidLooks := .later }
def FnUndosCardSaid : Prop := Claim7.holds Tryd.pinned (.plain (OpenSpec.ofChange fnUndosSpec)) fnUndosCard

/-- THE SECOND FORM's CARD OF 'laws.FnSentUp'. -/
def fnSentUpUptoCard : Claim7 := { stood := { row := fnSentUpUptoRow, standIns := [], harness := (true, "c30412eabc86890bddb458aa5b2511a5cc81b5f1e51f5675601963d5f1c1e8c8"), looks := false }, kinds := [], alts := [], laidByText := true, laidKinds := [.data, .data, .data], laidTests := true, laidLooks := .later }
def FnSentUpUptoCardSaid : Prop := Claim7.holds Tryd.pinned (.plain (OpenSpec.upto fnSentUpSpec)) fnSentUpUptoCard

/-- THE SECOND FORM's CARD OF 'laws.FnUndos'. -/
def fnUndosUptoCard : Claim7 := { stood := { row := fnUndosUptoRow, standIns := [], harness := (true, "c30412eabc86890bddb458aa5b2511a5cc81b5f1e51f5675601963d5f1c1e8c8"), looks := false }, kinds := [], alts := [], laidByText := true, laidKinds := [.data, .data, .data], laidTests := true, laidLooks := .later }
def FnUndosUptoCardSaid : Prop := Claim7.holds Tryd.pinned (.plain (OpenSpec.upto fnUndosSpec)) fnUndosUptoCard
end Rows
end Go.Proofs.YtignnkcjolobgaaDoor
