/-
  DERIVED. GIVEN WITH THE SEED: THE CARDS: each row of YtgpfppbkndgejaaDoorRows.lean that lists a variable, with what it lists TIED to the program's text (the seventh form; the later family's looks); each row that meets fmt, with fmt's text TOLD by the authors' own Lean function (tested against real Go, not proved from fmt's source: count such statements apart). THE CARD IS WHAT COUNTS. Prove the row's statement (the work); the ties are given (YtgpfppbkndgejaaDoorTie.lean); close each card by the builder's one call (the guide's Derived/Test/ToyasCard.lean, 'card_holds'). Laid BY PROGRAM, IN A SANDBOX (cutbox-door.mjs). By AI agents, Wed Nov 11 2026. No macro, syntax, notation, axiom, sorry.
-/
import Derived.Test.YtgpfppbkndgejaaDoorRows
import GoSem.ClaimSeven
namespace Go.Proofs.YtgpfppbkndgejaaDoor
namespace Rows

/-- THE TIED CARD OF 'laws.FnExactPushUndo'. -/
def fnExactPushUndoCard : Claim7 := { stood := { row := fnExactPushUndoRow, standIns := [], harness := (true, "dd3640785839be1af230792c93f4298828a99803e4fad7862f200ae184e21cef"), looks := false }, kinds := [], alts := [], laidByText := true, laidKinds := [.data, .data, .data], laidTests := true, laidLooks := .later }
def FnExactPushUndoCardSaid : Prop := Claim7.holds Tryd.pinned (.plain (OpenSpec.ofChange fnExactPushUndoSpec)) fnExactPushUndoCard

/-- THE TIED CARD OF 'laws.FnExactReplyTask'. -/
def fnExactReplyTaskCard : Claim7 := { stood := { row := fnExactReplyTaskRow, standIns := [], harness := (true, "dd3640785839be1af230792c93f4298828a99803e4fad7862f200ae184e21cef"), looks := false }, kinds := [], alts := [], laidByText := true, laidKinds := [.data, .data, .data], laidTests := true, laidLooks := .later }
def FnExactReplyTaskCardSaid : Prop := Claim7.holds Tryd.pinned (.plain (OpenSpec.ofChange fnExactReplyTaskSpec)) fnExactReplyTaskCard

/-- THE TIED CARD OF 'laws.FnExactSendDue'. -/
def fnExactSendDueCard : Claim7 := { stood := { row := fnExactSendDueRow, standIns := [], harness := (true, "dd3640785839be1af230792c93f4298828a99803e4fad7862f200ae184e21cef"), looks := false }, kinds := [], alts := [], laidByText := true, laidKinds := [.data, .data, .data], laidTests := true, laidLooks := .later }
def FnExactSendDueCardSaid : Prop := Claim7.holds Tryd.pinned (.plain (OpenSpec.ofChange fnExactSendDueSpec)) fnExactSendDueCard

/-- THE SECOND FORM's CARD OF 'laws.FnExactPushUndo'. -/
def fnExactPushUndoUptoCard : Claim7 := { stood := { row := fnExactPushUndoUptoRow, standIns := [], harness := (true, "dd3640785839be1af230792c93f4298828a99803e4fad7862f200ae184e21cef"), looks := false }, kinds := [], alts := [], laidByText := true, laidKinds := [.data, .data, .data], laidTests := true, laidLooks := .later }
def FnExactPushUndoUptoCardSaid : Prop := Claim7.holds Tryd.pinned (.plain (OpenSpec.upto fnExactPushUndoSpec)) fnExactPushUndoUptoCard

/-- THE SECOND FORM's CARD OF 'laws.FnExactReplyTask'. -/
def fnExactReplyTaskUptoCard : Claim7 := { stood := { row := fnExactReplyTaskUptoRow, standIns := [], harness := (true, "dd3640785839be1af230792c93f4298828a99803e4fad7862f200ae184e21cef"), looks := false }, kinds := [], alts := [], laidByText := true, laidKinds := [.data, .data, .data], laidTests := true, laidLooks := .later }
def FnExactReplyTaskUptoCardSaid : Prop := Claim7.holds Tryd.pinned (.plain (OpenSpec.upto fnExactReplyTaskSpec)) fnExactReplyTaskUptoCard

/-- THE SECOND FORM's CARD OF 'laws.FnExactSendDue'. -/
def fnExactSendDueUptoCard : Claim7 := { stood := { row := fnExactSendDueUptoRow, standIns := [], harness := (true, "dd3640785839be1af230792c93f4298828a99803e4fad7862f200ae184e21cef"), looks := false }, kinds := [], alts := [], laidByText := true, laidKinds := [.data, .data, .data], laidTests := true, laidLooks := .later }
def FnExactSendDueUptoCardSaid : Prop := Claim7.holds Tryd.pinned (.plain (OpenSpec.upto fnExactSendDueSpec)) fnExactSendDueUptoCard
end Rows
end Go.Proofs.YtgpfppbkndgejaaDoor
