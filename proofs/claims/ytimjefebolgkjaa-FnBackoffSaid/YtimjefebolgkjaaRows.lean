/-
  No cell of these rows narrows 'for every input' (looked for: loops, veiled, ifaces, maps, wideKeys, modest, calm, conditions, laid).
  DERIVED. THE GIVEN ROWS OF THIS SEAT. 7 by the template 'for every input the law returns true; each argument reads behind the call as it read before'; 0 by the template 'total and deterministic' (their statements: YtimjefebolgkjaaTotals.lean).
  GIVEN WITH THE SEED: the statements are not yours to turn. If you find one false, say at which input.
  Laid BY PROGRAM, IN A SANDBOX (cutbox-rows.mjs): the forced cells as the released guide's own fill.sh prints them over the translation 0d5a6bfe950207bf… (all of the seat's roots in one cut). By AI agents, Wed Nov 11 2026. No macro, syntax, notation, axiom, sorry.
-/
import Derived.Test.YtimjefebolgkjaaChecked
import GoSem.Claim
import GoSem.ClaimJoined
import GoSem.ClaimMapViews
import Derived.JoinedTies
import Derived.KernelRfl
namespace Go.Proofs.Ytimjefebolgkjaa
/- THE CELL 'sum', in the pinned program and in every row, IS THE sha256 OF THE DUMP (.gsa) THAT YtimjefebolgkjaaProg.lean LOADS. Nothing in Lean hashes anything: it is a label: what it is worth is what the hold of that sum in a sandbox is worth. -/
noncomputable def Try.pinned : Pinned := { name := "ytimjefebolgkjaa", sum := "0d5a6bfe950207bfad8a008fc03f1f59b7212a2405996869805d276b4d739206", checked := Try.checked }
namespace Rows
def none {H : Type} : Left H := { results := [], args := [] }

/-- 'laws.FnExactBackoff': WHATEVER THE INPUT: true; the input reads as it did. -/
def fnExactBackoffSpec : ChangeSpec := { name := "fnExactBackoff", fn := fun _ => fun
  | [d1, d2, d3] => { results := [.lit (.bool true)], args := [d1, d2, d3] }
  | _ => none }
def fnExactBackoffRow : OpenClaim := { program := "ytimjefebolgkjaa", sum := "0d5a6bfe950207bfad8a008fc03f1f59b7212a2405996869805d276b4d739206", func := "loop.example/g00282/laws.FnExactBackoff", spec := "fnExactBackoff", apart := false }
def FnExactBackoffSaid : Prop := fnExactBackoffRow.holds Try.pinned (OpenSpec.ofChange fnExactBackoffSpec)

/-- ITS FALSE NEIGHBOUR: 'it returns false'. Refute it at one input. -/
def fnExactBackoffWrong : ChangeSpec := { name := "fnExactBackoff", fn := fun _ => fun
  | [d1, d2, d3] => { results := [.lit (.bool false)], args := [d1, d2, d3] }
  | _ => none }
def FnExactBackoffWrongFalsely : Prop := fnExactBackoffRow.holds Try.pinned (OpenSpec.ofChange fnExactBackoffWrong)

/-- 'laws.FnBackoff': WHATEVER THE INPUT: true; the input reads as it did. -/
def fnBackoffSpec : ChangeSpec := { name := "fnBackoff", fn := fun _ => fun
  | [d] => { results := [.lit (.bool true)], args := [d] }
  | _ => none }
def fnBackoffRow : OpenClaim := { program := "ytimjefebolgkjaa", sum := "0d5a6bfe950207bfad8a008fc03f1f59b7212a2405996869805d276b4d739206", func := "loop.example/g00282/laws.FnBackoff", spec := "fnBackoff", apart := false }
def FnBackoffSaid : Prop := fnBackoffRow.holds Try.pinned (OpenSpec.ofChange fnBackoffSpec)

/-- ITS FALSE NEIGHBOUR: 'it returns false'. Refute it at one input. -/
def fnBackoffWrong : ChangeSpec := { name := "fnBackoff", fn := fun _ => fun
  | [d] => { results := [.lit (.bool false)], args := [d] }
  | _ => none }
def FnBackoffWrongFalsely : Prop := fnBackoffRow.holds Try.pinned (OpenSpec.ofChange fnBackoffWrong)

/-- 'laws.FnExactUndoOrder': WHATEVER THE INPUT: true; the input reads as it did. -/
def fnExactUndoOrderSpec : ChangeSpec := { name := "fnExactUndoOrder", fn := fun _ => fun
  | [d1, d2] => { results := [.lit (.bool true)], args := [d1, d2] }
  | _ => none }
def fnExactUndoOrderRow : OpenClaim := { program := "ytimjefebolgkjaa", sum := "0d5a6bfe950207bfad8a008fc03f1f59b7212a2405996869805d276b4d739206", func := "loop.example/g00282/laws.FnExactUndoOrder", spec := "fnExactUndoOrder", apart := false }
def FnExactUndoOrderSaid : Prop := fnExactUndoOrderRow.holds Try.pinned (OpenSpec.ofChange fnExactUndoOrderSpec)

/-- ITS FALSE NEIGHBOUR: 'it returns false'. Refute it at one input. -/
def fnExactUndoOrderWrong : ChangeSpec := { name := "fnExactUndoOrder", fn := fun _ => fun
  | [d1, d2] => { results := [.lit (.bool false)], args := [d1, d2] }
  | _ => none }
def FnExactUndoOrderWrongFalsely : Prop := fnExactUndoOrderRow.holds Try.pinned (OpenSpec.ofChange fnExactUndoOrderWrong)

/-- 'laws.FnExactUndoTask': WHATEVER THE INPUT: true; the input reads as it did. -/
def fnExactUndoTaskSpec : ChangeSpec := { name := "fnExactUndoTask", fn := fun _ => fun
  | [d] => { results := [.lit (.bool true)], args := [d] }
  | _ => none }
def fnExactUndoTaskRow : OpenClaim := { program := "ytimjefebolgkjaa", sum := "0d5a6bfe950207bfad8a008fc03f1f59b7212a2405996869805d276b4d739206", func := "loop.example/g00282/laws.FnExactUndoTask", spec := "fnExactUndoTask", apart := false }
def FnExactUndoTaskSaid : Prop := fnExactUndoTaskRow.holds Try.pinned (OpenSpec.ofChange fnExactUndoTaskSpec)

/-- ITS FALSE NEIGHBOUR: 'it returns false'. Refute it at one input. -/
def fnExactUndoTaskWrong : ChangeSpec := { name := "fnExactUndoTask", fn := fun _ => fun
  | [d] => { results := [.lit (.bool false)], args := [d] }
  | _ => none }
def FnExactUndoTaskWrongFalsely : Prop := fnExactUndoTaskRow.holds Try.pinned (OpenSpec.ofChange fnExactUndoTaskWrong)

/-- 'laws.FnExactTimersOk': WHATEVER THE INPUT: true; the input reads as it did. -/
def fnExactTimersOkSpec : ChangeSpec := { name := "fnExactTimersOk", fn := fun _ => fun
  | [d] => { results := [.lit (.bool true)], args := [d] }
  | _ => none }
def fnExactTimersOkRow : OpenClaim := { program := "ytimjefebolgkjaa", sum := "0d5a6bfe950207bfad8a008fc03f1f59b7212a2405996869805d276b4d739206", func := "loop.example/g00282/laws.FnExactTimersOk", spec := "fnExactTimersOk", apart := false }
def FnExactTimersOkSaid : Prop := fnExactTimersOkRow.holds Try.pinned (OpenSpec.ofChange fnExactTimersOkSpec)

/-- ITS FALSE NEIGHBOUR: 'it returns false'. Refute it at one input. -/
def fnExactTimersOkWrong : ChangeSpec := { name := "fnExactTimersOk", fn := fun _ => fun
  | [d] => { results := [.lit (.bool false)], args := [d] }
  | _ => none }
def FnExactTimersOkWrongFalsely : Prop := fnExactTimersOkRow.holds Try.pinned (OpenSpec.ofChange fnExactTimersOkWrong)

/-- 'laws.FnExactPopUndo': WHATEVER THE INPUT: true; the input reads as it did. -/
def fnExactPopUndoSpec : ChangeSpec := { name := "fnExactPopUndo", fn := fun _ => fun
  | [d] => { results := [.lit (.bool true)], args := [d] }
  | _ => none }
def fnExactPopUndoRow : OpenClaim := { program := "ytimjefebolgkjaa", sum := "0d5a6bfe950207bfad8a008fc03f1f59b7212a2405996869805d276b4d739206", func := "loop.example/g00282/laws.FnExactPopUndo", spec := "fnExactPopUndo", apart := false }
def FnExactPopUndoSaid : Prop := fnExactPopUndoRow.holds Try.pinned (OpenSpec.ofChange fnExactPopUndoSpec)

/-- ITS FALSE NEIGHBOUR: 'it returns false'. Refute it at one input. -/
def fnExactPopUndoWrong : ChangeSpec := { name := "fnExactPopUndo", fn := fun _ => fun
  | [d] => { results := [.lit (.bool false)], args := [d] }
  | _ => none }
def FnExactPopUndoWrongFalsely : Prop := fnExactPopUndoRow.holds Try.pinned (OpenSpec.ofChange fnExactPopUndoWrong)

/-- 'laws.FnExactDueTimers': WHATEVER THE INPUT: true; the input reads as it did. -/
def fnExactDueTimersSpec : ChangeSpec := { name := "fnExactDueTimers", fn := fun _ => fun
  | [d1, d2] => { results := [.lit (.bool true)], args := [d1, d2] }
  | _ => none }
def fnExactDueTimersRow : OpenClaim := { program := "ytimjefebolgkjaa", sum := "0d5a6bfe950207bfad8a008fc03f1f59b7212a2405996869805d276b4d739206", func := "loop.example/g00282/laws.FnExactDueTimers", spec := "fnExactDueTimers", apart := false }
def FnExactDueTimersSaid : Prop := fnExactDueTimersRow.holds Try.pinned (OpenSpec.ofChange fnExactDueTimersSpec)

/-- ITS FALSE NEIGHBOUR: 'it returns false'. Refute it at one input. -/
def fnExactDueTimersWrong : ChangeSpec := { name := "fnExactDueTimers", fn := fun _ => fun
  | [d1, d2] => { results := [.lit (.bool false)], args := [d1, d2] }
  | _ => none }
def FnExactDueTimersWrongFalsely : Prop := fnExactDueTimersRow.holds Try.pinned (OpenSpec.ofChange fnExactDueTimersWrong)

/- THE SECOND FORM. 'bulk': how many values and letters a reading holds, each counted each time it is reached (what is shared counts as often as it is met; a slice's spare places count too). A statement '..UptoSaid' is the law's where the arguments, and the package variables that the reading takes, are together of bulk at most 1048576: NARROWER than '..Said'. Prove '..Said' where nothing that the law and all that it calls make is longer than what came in: it says more and counts as full. Else prove '..UptoSaid'. A law counts once. -/
mutual
def uptoBulk {H : Type} : DataW H → Nat
  | .lit (.string bytes) => bytes.length + 1
  | .lit _ => 1
  | .nil => 1
  | .ptr d => uptoBulk d + 1
  | .slice elems spare => uptoBulkAll elems + uptoBulkAll spare + 1
  | .agg parts => uptoBulkAll parts + 1
  | .iface _ d => uptoBulk d + 1
  | .map entries => uptoBulkEntries entries + 1
  | .held _ => 1
def uptoBulkAll {H : Type} : List (DataW H) → Nat
  | [] => 0
  | d :: r => uptoBulk d + uptoBulkAll r
def uptoBulkEntries {H : Type} : List (Lit × DataW H) → Nat
  | [] => 0
  | x :: r => uptoBulkEntry x + uptoBulkEntries r
def uptoBulkEntry {H : Type} : Lit × DataW H → Nat
  | (.string bytes, d) => bytes.length + uptoBulk d + 1
  | (_, d) => uptoBulk d + 1
 end
def uptoSmall : (H : Type) → List (DataW H) → Bool := fun _ ds => decide (uptoBulkAll ds ≤ 1048576)
def OpenSpec.upto (s : _root_.Go.ChangeSpec) : _root_.Go.OpenSpec := { _root_.Go.OpenSpec.ofChange s with cond := some uptoSmall }

/-- 'laws.FnExactBackoff', WHERE WHAT IT READS IS OF BULK AT MOST 1048576: true; the input reads as it did. -/
def fnExactBackoffUptoRow : OpenClaim := { program := "ytimjefebolgkjaa", sum := "0d5a6bfe950207bfad8a008fc03f1f59b7212a2405996869805d276b4d739206", func := "loop.example/g00282/laws.FnExactBackoff", spec := "fnExactBackoff", apart := false, narrowed := true }
def FnExactBackoffUptoSaid : Prop := fnExactBackoffUptoRow.holds Try.pinned (OpenSpec.upto fnExactBackoffSpec)

/-- 'laws.FnBackoff', WHERE WHAT IT READS IS OF BULK AT MOST 1048576: true; the input reads as it did. -/
def fnBackoffUptoRow : OpenClaim := { program := "ytimjefebolgkjaa", sum := "0d5a6bfe950207bfad8a008fc03f1f59b7212a2405996869805d276b4d739206", func := "loop.example/g00282/laws.FnBackoff", spec := "fnBackoff", apart := false, narrowed := true }
def FnBackoffUptoSaid : Prop := fnBackoffUptoRow.holds Try.pinned (OpenSpec.upto fnBackoffSpec)

/-- 'laws.FnExactUndoOrder', WHERE WHAT IT READS IS OF BULK AT MOST 1048576: true; the input reads as it did. -/
def fnExactUndoOrderUptoRow : OpenClaim := { program := "ytimjefebolgkjaa", sum := "0d5a6bfe950207bfad8a008fc03f1f59b7212a2405996869805d276b4d739206", func := "loop.example/g00282/laws.FnExactUndoOrder", spec := "fnExactUndoOrder", apart := false, narrowed := true }
def FnExactUndoOrderUptoSaid : Prop := fnExactUndoOrderUptoRow.holds Try.pinned (OpenSpec.upto fnExactUndoOrderSpec)

/-- 'laws.FnExactUndoTask', WHERE WHAT IT READS IS OF BULK AT MOST 1048576: true; the input reads as it did. -/
def fnExactUndoTaskUptoRow : OpenClaim := { program := "ytimjefebolgkjaa", sum := "0d5a6bfe950207bfad8a008fc03f1f59b7212a2405996869805d276b4d739206", func := "loop.example/g00282/laws.FnExactUndoTask", spec := "fnExactUndoTask", apart := false, narrowed := true }
def FnExactUndoTaskUptoSaid : Prop := fnExactUndoTaskUptoRow.holds Try.pinned (OpenSpec.upto fnExactUndoTaskSpec)

/-- 'laws.FnExactTimersOk', WHERE WHAT IT READS IS OF BULK AT MOST 1048576: true; the input reads as it did. -/
def fnExactTimersOkUptoRow : OpenClaim := { program := "ytimjefebolgkjaa", sum := "0d5a6bfe950207bfad8a008fc03f1f59b7212a2405996869805d276b4d739206", func := "loop.example/g00282/laws.FnExactTimersOk", spec := "fnExactTimersOk", apart := false, narrowed := true }
def FnExactTimersOkUptoSaid : Prop := fnExactTimersOkUptoRow.holds Try.pinned (OpenSpec.upto fnExactTimersOkSpec)

/-- 'laws.FnExactPopUndo', WHERE WHAT IT READS IS OF BULK AT MOST 1048576: true; the input reads as it did. -/
def fnExactPopUndoUptoRow : OpenClaim := { program := "ytimjefebolgkjaa", sum := "0d5a6bfe950207bfad8a008fc03f1f59b7212a2405996869805d276b4d739206", func := "loop.example/g00282/laws.FnExactPopUndo", spec := "fnExactPopUndo", apart := false, narrowed := true }
def FnExactPopUndoUptoSaid : Prop := fnExactPopUndoUptoRow.holds Try.pinned (OpenSpec.upto fnExactPopUndoSpec)

/-- 'laws.FnExactDueTimers', WHERE WHAT IT READS IS OF BULK AT MOST 1048576: true; the input reads as it did. -/
def fnExactDueTimersUptoRow : OpenClaim := { program := "ytimjefebolgkjaa", sum := "0d5a6bfe950207bfad8a008fc03f1f59b7212a2405996869805d276b4d739206", func := "loop.example/g00282/laws.FnExactDueTimers", spec := "fnExactDueTimers", apart := false, narrowed := true }
def FnExactDueTimersUptoSaid : Prop := fnExactDueTimersUptoRow.holds Try.pinned (OpenSpec.upto fnExactDueTimersSpec)

end Rows
end Go.Proofs.Ytimjefebolgkjaa
