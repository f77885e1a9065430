/-
  No cell of these rows narrows 'for every input' (looked for: loops, veiled, ifaces, maps, wideKeys, modest, calm, conditions, laid).
  DERIVED. THE GIVEN ROWS OF THIS SEAT. 10 by the template 'for every input the law returns true; each argument reads behind the call as it read before'; 0 by the template 'total and deterministic' (their statements: YtdpgbnahacdkeaaTotals.lean).
  GIVEN WITH THE SEED: the statements are not yours to turn. If you find one false, say at which input.
  Laid BY PROGRAM, IN A SANDBOX (cutbox-rows.mjs): the forced cells as the released guide's own fill.sh prints them over the translation 0784a2233a4a1732… (all of the seat's roots in one cut). By AI agents, Wed Nov 11 2026. No macro, syntax, notation, axiom, sorry.
-/
import Derived.Test.YtdpgbnahacdkeaaChecked
import GoSem.Claim
import GoSem.ClaimJoined
import GoSem.ClaimMapViews
import Derived.JoinedTies
import Derived.KernelRfl
namespace Go.Proofs.Ytdpgbnahacdkeaa
/- THE CELL 'sum', in the pinned program and in every row, IS THE sha256 OF THE DUMP (.gsa) THAT YtdpgbnahacdkeaaProg.lean LOADS. Nothing in Lean hashes anything: it is a label: what it is worth is what the hold of that sum in a sandbox is worth. -/
noncomputable def Try.pinned : Pinned := { name := "ytdpgbnahacdkeaa", sum := "0784a2233a4a1732b4bfbf6d040865890c39657de2e1d60a167261e5e27801c2", checked := Try.checked }
namespace Rows
def none {H : Type} : Left H := { results := [], args := [] }

/-- 'laws.FnExactUndosOk': WHATEVER THE INPUT: true; the input reads as it did. -/
def fnExactUndosOkSpec : ChangeSpec := { name := "fnExactUndosOk", fn := fun _ => fun
  | [d] => { results := [.lit (.bool true)], args := [d] }
  | _ => none }
def fnExactUndosOkRow : OpenClaim := { program := "ytdpgbnahacdkeaa", sum := "0784a2233a4a1732b4bfbf6d040865890c39657de2e1d60a167261e5e27801c2", func := "loop.example/g00282/laws.FnExactUndosOk", spec := "fnExactUndosOk", unfollowed := true, recurses := true, apart := false }
def FnExactUndosOkSaid : Prop := fnExactUndosOkRow.holds Try.pinned (OpenSpec.ofChange fnExactUndosOkSpec)

/-- ITS FALSE NEIGHBOUR: 'it returns false'. Refute it at one input. -/
def fnExactUndosOkWrong : ChangeSpec := { name := "fnExactUndosOk", fn := fun _ => fun
  | [d] => { results := [.lit (.bool false)], args := [d] }
  | _ => none }
def FnExactUndosOkWrongFalsely : Prop := fnExactUndosOkRow.holds Try.pinned (OpenSpec.ofChange fnExactUndosOkWrong)

/-- 'laws.FnExactOpOk': WHATEVER THE INPUT: true; the input reads as it did. -/
def fnExactOpOkSpec : ChangeSpec := { name := "fnExactOpOk", fn := fun _ => fun
  | [d] => { results := [.lit (.bool true)], args := [d] }
  | _ => none }
def fnExactOpOkRow : OpenClaim := { program := "ytdpgbnahacdkeaa", sum := "0784a2233a4a1732b4bfbf6d040865890c39657de2e1d60a167261e5e27801c2", func := "loop.example/g00282/laws.FnExactOpOk", spec := "fnExactOpOk", apart := false }
def FnExactOpOkSaid : Prop := fnExactOpOkRow.holds Try.pinned (OpenSpec.ofChange fnExactOpOkSpec)

/-- ITS FALSE NEIGHBOUR: 'it returns false'. Refute it at one input. -/
def fnExactOpOkWrong : ChangeSpec := { name := "fnExactOpOk", fn := fun _ => fun
  | [d] => { results := [.lit (.bool false)], args := [d] }
  | _ => none }
def FnExactOpOkWrongFalsely : Prop := fnExactOpOkRow.holds Try.pinned (OpenSpec.ofChange fnExactOpOkWrong)

/-- 'laws.FnExactGiveUp': WHATEVER THE INPUT: true; the input reads as it did. -/
def fnExactGiveUpSpec : ChangeSpec := { name := "fnExactGiveUp", fn := fun _ => fun
  | [d] => { results := [.lit (.bool true)], args := [d] }
  | _ => none }
def fnExactGiveUpRow : OpenClaim := { program := "ytdpgbnahacdkeaa", sum := "0784a2233a4a1732b4bfbf6d040865890c39657de2e1d60a167261e5e27801c2", func := "loop.example/g00282/laws.FnExactGiveUp", spec := "fnExactGiveUp", apart := false }
def FnExactGiveUpSaid : Prop := fnExactGiveUpRow.holds Try.pinned (OpenSpec.ofChange fnExactGiveUpSpec)

/-- ITS FALSE NEIGHBOUR: 'it returns false'. Refute it at one input. -/
def fnExactGiveUpWrong : ChangeSpec := { name := "fnExactGiveUp", fn := fun _ => fun
  | [d] => { results := [.lit (.bool false)], args := [d] }
  | _ => none }
def FnExactGiveUpWrongFalsely : Prop := fnExactGiveUpRow.holds Try.pinned (OpenSpec.ofChange fnExactGiveUpWrong)

/-- 'laws.FnExactTasksOk': WHATEVER THE INPUT: true; the input reads as it did. -/
def fnExactTasksOkSpec : ChangeSpec := { name := "fnExactTasksOk", fn := fun _ => fun
  | [d] => { results := [.lit (.bool true)], args := [d] }
  | _ => none }
def fnExactTasksOkRow : OpenClaim := { program := "ytdpgbnahacdkeaa", sum := "0784a2233a4a1732b4bfbf6d040865890c39657de2e1d60a167261e5e27801c2", func := "loop.example/g00282/laws.FnExactTasksOk", spec := "fnExactTasksOk", unfollowed := true, recurses := true, apart := false }
def FnExactTasksOkSaid : Prop := fnExactTasksOkRow.holds Try.pinned (OpenSpec.ofChange fnExactTasksOkSpec)

/-- ITS FALSE NEIGHBOUR: 'it returns false'. Refute it at one input. -/
def fnExactTasksOkWrong : ChangeSpec := { name := "fnExactTasksOk", fn := fun _ => fun
  | [d] => { results := [.lit (.bool false)], args := [d] }
  | _ => none }
def FnExactTasksOkWrongFalsely : Prop := fnExactTasksOkRow.holds Try.pinned (OpenSpec.ofChange fnExactTasksOkWrong)

/-- 'laws.FnExactPutOp': WHATEVER THE INPUT: true; the input reads as it did. -/
def fnExactPutOpSpec : ChangeSpec := { name := "fnExactPutOp", fn := fun _ => fun
  | [d] => { results := [.lit (.bool true)], args := [d] }
  | _ => none }
def fnExactPutOpRow : OpenClaim := { program := "ytdpgbnahacdkeaa", sum := "0784a2233a4a1732b4bfbf6d040865890c39657de2e1d60a167261e5e27801c2", func := "loop.example/g00282/laws.FnExactPutOp", spec := "fnExactPutOp", apart := false }
def FnExactPutOpSaid : Prop := fnExactPutOpRow.holds Try.pinned (OpenSpec.ofChange fnExactPutOpSpec)

/-- ITS FALSE NEIGHBOUR: 'it returns false'. Refute it at one input. -/
def fnExactPutOpWrong : ChangeSpec := { name := "fnExactPutOp", fn := fun _ => fun
  | [d] => { results := [.lit (.bool false)], args := [d] }
  | _ => none }
def FnExactPutOpWrongFalsely : Prop := fnExactPutOpRow.holds Try.pinned (OpenSpec.ofChange fnExactPutOpWrong)

/-- 'laws.FnExactAddTimer': WHATEVER THE INPUT: true; the input reads as it did. -/
def fnExactAddTimerSpec : ChangeSpec := { name := "fnExactAddTimer", fn := fun _ => fun
  | [d1, d2] => { results := [.lit (.bool true)], args := [d1, d2] }
  | _ => none }
def fnExactAddTimerRow : OpenClaim := { program := "ytdpgbnahacdkeaa", sum := "0784a2233a4a1732b4bfbf6d040865890c39657de2e1d60a167261e5e27801c2", func := "loop.example/g00282/laws.FnExactAddTimer", spec := "fnExactAddTimer", inPlace := ["slices.overlaps[loop.example/g00282/impl.Timer]"], apart := false }
def FnExactAddTimerSaid : Prop := fnExactAddTimerRow.holds Try.pinned (OpenSpec.ofChange fnExactAddTimerSpec)

/-- ITS FALSE NEIGHBOUR: 'it returns false'. Refute it at one input. -/
def fnExactAddTimerWrong : ChangeSpec := { name := "fnExactAddTimer", fn := fun _ => fun
  | [d1, d2] => { results := [.lit (.bool false)], args := [d1, d2] }
  | _ => none }
def FnExactAddTimerWrongFalsely : Prop := fnExactAddTimerRow.holds Try.pinned (OpenSpec.ofChange fnExactAddTimerWrong)

/-- 'laws.FnExactStartTask': WHATEVER THE INPUT: true; the input reads as it did. -/
def fnExactStartTaskSpec : ChangeSpec := { name := "fnExactStartTask", fn := fun _ => fun
  | [d1, d2, d3, d4] => { results := [.lit (.bool true)], args := [d1, d2, d3, d4] }
  | _ => none }
def fnExactStartTaskRow : OpenClaim := { program := "ytdpgbnahacdkeaa", sum := "0784a2233a4a1732b4bfbf6d040865890c39657de2e1d60a167261e5e27801c2", func := "loop.example/g00282/laws.FnExactStartTask", spec := "fnExactStartTask", unfollowed := true, recurses := true, apart := false }
def FnExactStartTaskSaid : Prop := fnExactStartTaskRow.holds Try.pinned (OpenSpec.ofChange fnExactStartTaskSpec)

/-- ITS FALSE NEIGHBOUR: 'it returns false'. Refute it at one input. -/
def fnExactStartTaskWrong : ChangeSpec := { name := "fnExactStartTask", fn := fun _ => fun
  | [d1, d2, d3, d4] => { results := [.lit (.bool false)], args := [d1, d2, d3, d4] }
  | _ => none }
def FnExactStartTaskWrongFalsely : Prop := fnExactStartTaskRow.holds Try.pinned (OpenSpec.ofChange fnExactStartTaskWrong)

/-- 'laws.FnExactInstNew': WHATEVER THE INPUT: true; the input reads as it did. -/
def fnExactInstNewSpec : ChangeSpec := { name := "fnExactInstNew", fn := fun _ => fun
  | [d] => { results := [.lit (.bool true)], args := [d] }
  | _ => none }
def fnExactInstNewRow : OpenClaim := { program := "ytdpgbnahacdkeaa", sum := "0784a2233a4a1732b4bfbf6d040865890c39657de2e1d60a167261e5e27801c2", func := "loop.example/g00282/laws.FnExactInstNew", spec := "fnExactInstNew", apart := false }
def FnExactInstNewSaid : Prop := fnExactInstNewRow.holds Try.pinned (OpenSpec.ofChange fnExactInstNewSpec)

/-- ITS FALSE NEIGHBOUR: 'it returns false'. Refute it at one input. -/
def fnExactInstNewWrong : ChangeSpec := { name := "fnExactInstNew", fn := fun _ => fun
  | [d] => { results := [.lit (.bool false)], args := [d] }
  | _ => none }
def FnExactInstNewWrongFalsely : Prop := fnExactInstNewRow.holds Try.pinned (OpenSpec.ofChange fnExactInstNewWrong)

/-- 'laws.FnExactEnded': WHATEVER THE INPUT: true; the input reads as it did. -/
def fnExactEndedSpec : ChangeSpec := { name := "fnExactEnded", fn := fun _ => fun
  | [d] => { results := [.lit (.bool true)], args := [d] }
  | _ => none }
def fnExactEndedRow : OpenClaim := { program := "ytdpgbnahacdkeaa", sum := "0784a2233a4a1732b4bfbf6d040865890c39657de2e1d60a167261e5e27801c2", func := "loop.example/g00282/laws.FnExactEnded", spec := "fnExactEnded", apart := false }
def FnExactEndedSaid : Prop := fnExactEndedRow.holds Try.pinned (OpenSpec.ofChange fnExactEndedSpec)

/-- ITS FALSE NEIGHBOUR: 'it returns false'. Refute it at one input. -/
def fnExactEndedWrong : ChangeSpec := { name := "fnExactEnded", fn := fun _ => fun
  | [d] => { results := [.lit (.bool false)], args := [d] }
  | _ => none }
def FnExactEndedWrongFalsely : Prop := fnExactEndedRow.holds Try.pinned (OpenSpec.ofChange fnExactEndedWrong)

/-- 'laws.FnExactGetOp': WHATEVER THE INPUT: true; the input reads as it did. -/
def fnExactGetOpSpec : ChangeSpec := { name := "fnExactGetOp", fn := fun _ => fun
  | [d] => { results := [.lit (.bool true)], args := [d] }
  | _ => none }
def fnExactGetOpRow : OpenClaim := { program := "ytdpgbnahacdkeaa", sum := "0784a2233a4a1732b4bfbf6d040865890c39657de2e1d60a167261e5e27801c2", func := "loop.example/g00282/laws.FnExactGetOp", spec := "fnExactGetOp", apart := false }
def FnExactGetOpSaid : Prop := fnExactGetOpRow.holds Try.pinned (OpenSpec.ofChange fnExactGetOpSpec)

/-- ITS FALSE NEIGHBOUR: 'it returns false'. Refute it at one input. -/
def fnExactGetOpWrong : ChangeSpec := { name := "fnExactGetOp", fn := fun _ => fun
  | [d] => { results := [.lit (.bool false)], args := [d] }
  | _ => none }
def FnExactGetOpWrongFalsely : Prop := fnExactGetOpRow.holds Try.pinned (OpenSpec.ofChange fnExactGetOpWrong)

/- THE SECOND FORM. 'bulk': how many values and letters a reading holds, each counted each time it is reached (what is shared counts as often as it is met; a slice's spare places count too). A statement '..UptoSaid' is the law's where the arguments, and the package variables that the reading takes, are together of bulk at most 1048576: NARROWER than '..Said'. Prove '..Said' where nothing that the law and all that it calls make is longer than what came in: it says more and counts as full. Else prove '..UptoSaid'. A law counts once. -/
mutual
def uptoBulk {H : Type} : DataW H → Nat
  | .lit (.string bytes) => bytes.length + 1
  | .lit _ => 1
  | .nil => 1
  | .ptr d => uptoBulk d + 1
  | .slice elems spare => uptoBulkAll elems + uptoBulkAll spare + 1
  | .agg parts => uptoBulkAll parts + 1
  | .iface _ d => uptoBulk d + 1
  | .map entries => uptoBulkEntries entries + 1
  | .held _ => 1
def uptoBulkAll {H : Type} : List (DataW H) → Nat
  | [] => 0
  | d :: r => uptoBulk d + uptoBulkAll r
def uptoBulkEntries {H : Type} : List (Lit × DataW H) → Nat
  | [] => 0
  | x :: r => uptoBulkEntry x + uptoBulkEntries r
def uptoBulkEntry {H : Type} : Lit × DataW H → Nat
  | (.string bytes, d) => bytes.length + uptoBulk d + 1
  | (_, d) => uptoBulk d + 1
 end
def uptoSmall : (H : Type) → List (DataW H) → Bool := fun _ ds => decide (uptoBulkAll ds ≤ 1048576)
def OpenSpec.upto (s : _root_.Go.ChangeSpec) : _root_.Go.OpenSpec := { _root_.Go.OpenSpec.ofChange s with cond := some uptoSmall }

/-- 'laws.FnExactUndosOk', WHERE WHAT IT READS IS OF BULK AT MOST 1048576: true; the input reads as it did. -/
def fnExactUndosOkUptoRow : OpenClaim := { program := "ytdpgbnahacdkeaa", sum := "0784a2233a4a1732b4bfbf6d040865890c39657de2e1d60a167261e5e27801c2", func := "loop.example/g00282/laws.FnExactUndosOk", spec := "fnExactUndosOk", unfollowed := true, recurses := true, apart := false, narrowed := true }
def FnExactUndosOkUptoSaid : Prop := fnExactUndosOkUptoRow.holds Try.pinned (OpenSpec.upto fnExactUndosOkSpec)

/-- 'laws.FnExactOpOk', WHERE WHAT IT READS IS OF BULK AT MOST 1048576: true; the input reads as it did. -/
def fnExactOpOkUptoRow : OpenClaim := { program := "ytdpgbnahacdkeaa", sum := "0784a2233a4a1732b4bfbf6d040865890c39657de2e1d60a167261e5e27801c2", func := "loop.example/g00282/laws.FnExactOpOk", spec := "fnExactOpOk", apart := false, narrowed := true }
def FnExactOpOkUptoSaid : Prop := fnExactOpOkUptoRow.holds Try.pinned (OpenSpec.upto fnExactOpOkSpec)

/-- 'laws.FnExactGiveUp', WHERE WHAT IT READS IS OF BULK AT MOST 1048576: true; the input reads as it did. -/
def fnExactGiveUpUptoRow : OpenClaim := { program := "ytdpgbnahacdkeaa", sum := "0784a2233a4a1732b4bfbf6d040865890c39657de2e1d60a167261e5e27801c2", func := "loop.example/g00282/laws.FnExactGiveUp", spec := "fnExactGiveUp", apart := false, narrowed := true }
def FnExactGiveUpUptoSaid : Prop := fnExactGiveUpUptoRow.holds Try.pinned (OpenSpec.upto fnExactGiveUpSpec)

/-- 'laws.FnExactTasksOk', WHERE WHAT IT READS IS OF BULK AT MOST 1048576: true; the input reads as it did. -/
def fnExactTasksOkUptoRow : OpenClaim := { program := "ytdpgbnahacdkeaa", sum := "0784a2233a4a1732b4bfbf6d040865890c39657de2e1d60a167261e5e27801c2", func := "loop.example/g00282/laws.FnExactTasksOk", spec := "fnExactTasksOk", unfollowed := true, recurses := true, apart := false, narrowed := true }
def FnExactTasksOkUptoSaid : Prop := fnExactTasksOkUptoRow.holds Try.pinned (OpenSpec.upto fnExactTasksOkSpec)

/-- 'laws.FnExactPutOp', WHERE WHAT IT READS IS OF BULK AT MOST 1048576: true; the input reads as it did. -/
def fnExactPutOpUptoRow : OpenClaim := { program := "ytdpgbnahacdkeaa", sum := "0784a2233a4a1732b4bfbf6d040865890c39657de2e1d60a167261e5e27801c2", func := "loop.example/g00282/laws.FnExactPutOp", spec := "fnExactPutOp", apart := false, narrowed := true }
def FnExactPutOpUptoSaid : Prop := fnExactPutOpUptoRow.holds Try.pinned (OpenSpec.upto fnExactPutOpSpec)

/-- 'laws.FnExactAddTimer', WHERE WHAT IT READS IS OF BULK AT MOST 1048576: true; the input reads as it did. -/
def fnExactAddTimerUptoRow : OpenClaim := { program := "ytdpgbnahacdkeaa", sum := "0784a2233a4a1732b4bfbf6d040865890c39657de2e1d60a167261e5e27801c2", func := "loop.example/g00282/laws.FnExactAddTimer", spec := "fnExactAddTimer", inPlace := ["slices.overlaps[loop.example/g00282/impl.Timer]"], apart := false, narrowed := true }
def FnExactAddTimerUptoSaid : Prop := fnExactAddTimerUptoRow.holds Try.pinned (OpenSpec.upto fnExactAddTimerSpec)

/-- 'laws.FnExactStartTask', WHERE WHAT IT READS IS OF BULK AT MOST 1048576: true; the input reads as it did. -/
def fnExactStartTaskUptoRow : OpenClaim := { program := "ytdpgbnahacdkeaa", sum := "0784a2233a4a1732b4bfbf6d040865890c39657de2e1d60a167261e5e27801c2", func := "loop.example/g00282/laws.FnExactStartTask", spec := "fnExactStartTask", unfollowed := true, recurses := true, apart := false, narrowed := true }
def FnExactStartTaskUptoSaid : Prop := fnExactStartTaskUptoRow.holds Try.pinned (OpenSpec.upto fnExactStartTaskSpec)

/-- 'laws.FnExactInstNew', WHERE WHAT IT READS IS OF BULK AT MOST 1048576: true; the input reads as it did. -/
def fnExactInstNewUptoRow : OpenClaim := { program := "ytdpgbnahacdkeaa", sum := "0784a2233a4a1732b4bfbf6d040865890c39657de2e1d60a167261e5e27801c2", func := "loop.example/g00282/laws.FnExactInstNew", spec := "fnExactInstNew", apart := false, narrowed := true }
def FnExactInstNewUptoSaid : Prop := fnExactInstNewUptoRow.holds Try.pinned (OpenSpec.upto fnExactInstNewSpec)

/-- 'laws.FnExactEnded', WHERE WHAT IT READS IS OF BULK AT MOST 1048576: true; the input reads as it did. -/
def fnExactEndedUptoRow : OpenClaim := { program := "ytdpgbnahacdkeaa", sum := "0784a2233a4a1732b4bfbf6d040865890c39657de2e1d60a167261e5e27801c2", func := "loop.example/g00282/laws.FnExactEnded", spec := "fnExactEnded", apart := false, narrowed := true }
def FnExactEndedUptoSaid : Prop := fnExactEndedUptoRow.holds Try.pinned (OpenSpec.upto fnExactEndedSpec)

/-- 'laws.FnExactGetOp', WHERE WHAT IT READS IS OF BULK AT MOST 1048576: true; the input reads as it did. -/
def fnExactGetOpUptoRow : OpenClaim := { program := "ytdpgbnahacdkeaa", sum := "0784a2233a4a1732b4bfbf6d040865890c39657de2e1d60a167261e5e27801c2", func := "loop.example/g00282/laws.FnExactGetOp", spec := "fnExactGetOp", apart := false, narrowed := true }
def FnExactGetOpUptoSaid : Prop := fnExactGetOpUptoRow.holds Try.pinned (OpenSpec.upto fnExactGetOpSpec)

end Rows
end Go.Proofs.Ytdpgbnahacdkeaa
