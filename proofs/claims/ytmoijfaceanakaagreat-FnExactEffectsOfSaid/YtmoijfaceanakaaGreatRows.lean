/-
  No cell of these rows narrows 'for every input' (looked for: loops, veiled, ifaces, maps, wideKeys, modest, calm, conditions, laid).
  DERIVED. THE GIVEN ROWS OF THIS SEAT. 3 by the template 'for every input the law returns true; each argument reads behind the call as it read before'; 0 by the template 'total and deterministic' (their statements: YtmoijfaceanakaaGreatTotals.lean).
  GIVEN WITH THE SEED: the statements are not yours to turn. If you find one false, say at which input.
  Laid BY PROGRAM, IN A SANDBOX (cutbox-rows.mjs): the forced cells as the released guide's own fill.sh prints them over the translation 916001b2b00b47fc… (all of the seat's roots in one cut). By AI agents, Wed Nov 11 2026. No macro, syntax, notation, axiom, sorry.
-/
import Derived.Test.YtmoijfaceanakaaGreatChecked
import GoSem.Claim
import GoSem.ClaimJoined
import GoSem.ClaimMapViews
import Derived.JoinedTies
import Derived.KernelRfl
namespace Go.Proofs.YtmoijfaceanakaaGreat
/- THE CELL 'sum', in the pinned program and in every row, IS THE sha256 OF THE DUMP (.gsa) THAT YtmoijfaceanakaaGreatProg.lean LOADS. Nothing in Lean hashes anything: it is a label: what it is worth is what the hold of that sum in a sandbox is worth. -/
noncomputable def Tryz.pinned : Pinned := { name := "ytmoijfaceanakaagreat", sum := "916001b2b00b47fcb06cab70b4263ab60b5cd6e08ee2ec736cfe0faf90bac55d", checked := Tryz.checked }
namespace Rows
def none {H : Type} : Left H := { results := [], args := [] }

/-- 'laws.FnExactInstOk': WHATEVER THE INPUT: true; the input reads as it did. -/
def fnExactInstOkSpec : ChangeSpec := { name := "fnExactInstOk", fn := fun _ => fun
  | [d1, d2] => { results := [.lit (.bool true)], args := [d1, d2] }
  | _ => none }
def fnExactInstOkRow : OpenClaim := { program := "ytmoijfaceanakaagreat", sum := "916001b2b00b47fcb06cab70b4263ab60b5cd6e08ee2ec736cfe0faf90bac55d", func := "loop.example/g00282/laws.FnExactInstOk", spec := "fnExactInstOk", unfollowed := true, recurses := true, apart := false }
def FnExactInstOkSaid : Prop := fnExactInstOkRow.holds Tryz.pinned (OpenSpec.ofChange fnExactInstOkSpec)

/-- ITS FALSE NEIGHBOUR: 'it returns false'. Refute it at one input. -/
def fnExactInstOkWrong : ChangeSpec := { name := "fnExactInstOk", fn := fun _ => fun
  | [d1, d2] => { results := [.lit (.bool false)], args := [d1, d2] }
  | _ => none }
def FnExactInstOkWrongFalsely : Prop := fnExactInstOkRow.holds Tryz.pinned (OpenSpec.ofChange fnExactInstOkWrong)

/-- 'laws.FnExactBookOk': WHATEVER THE INPUT: true; the input reads as it did. -/
def fnExactBookOkSpec : ChangeSpec := { name := "fnExactBookOk", fn := fun _ => fun
  | [d] => { results := [.lit (.bool true)], args := [d] }
  | _ => none }
def fnExactBookOkRow : OpenClaim := { program := "ytmoijfaceanakaagreat", sum := "916001b2b00b47fcb06cab70b4263ab60b5cd6e08ee2ec736cfe0faf90bac55d", func := "loop.example/g00282/laws.FnExactBookOk", spec := "fnExactBookOk", unfollowed := true, recurses := true, apart := false }
def FnExactBookOkSaid : Prop := fnExactBookOkRow.holds Tryz.pinned (OpenSpec.ofChange fnExactBookOkSpec)

/-- ITS FALSE NEIGHBOUR: 'it returns false'. Refute it at one input. -/
def fnExactBookOkWrong : ChangeSpec := { name := "fnExactBookOk", fn := fun _ => fun
  | [d] => { results := [.lit (.bool false)], args := [d] }
  | _ => none }
def FnExactBookOkWrongFalsely : Prop := fnExactBookOkRow.holds Tryz.pinned (OpenSpec.ofChange fnExactBookOkWrong)

/-- 'laws.FnExactEffectsOf': WHATEVER THE INPUT: true; the input reads as it did. -/
def fnExactEffectsOfSpec : ChangeSpec := { name := "fnExactEffectsOf", fn := fun _ => fun
  | [d1, d2] => { results := [.lit (.bool true)], args := [d1, d2] }
  | _ => none }
def fnExactEffectsOfRow : OpenClaim := { program := "ytmoijfaceanakaagreat", sum := "916001b2b00b47fcb06cab70b4263ab60b5cd6e08ee2ec736cfe0faf90bac55d", func := "loop.example/g00282/laws.FnExactEffectsOf", spec := "fnExactEffectsOf", unfollowed := true, recurses := true, apart := false }
def FnExactEffectsOfSaid : Prop := fnExactEffectsOfRow.holds Tryz.pinned (OpenSpec.ofChange fnExactEffectsOfSpec)

/-- ITS FALSE NEIGHBOUR: 'it returns false'. Refute it at one input. -/
def fnExactEffectsOfWrong : ChangeSpec := { name := "fnExactEffectsOf", fn := fun _ => fun
  | [d1, d2] => { results := [.lit (.bool false)], args := [d1, d2] }
  | _ => none }
def FnExactEffectsOfWrongFalsely : Prop := fnExactEffectsOfRow.holds Tryz.pinned (OpenSpec.ofChange fnExactEffectsOfWrong)

/- THE SECOND FORM. 'bulk': how many values and letters a reading holds, each counted each time it is reached (what is shared counts as often as it is met; a slice's spare places count too). A statement '..UptoSaid' is the law's where the arguments, and the package variables that the reading takes, are together of bulk at most 1048576: NARROWER than '..Said'. Prove '..Said' where nothing that the law and all that it calls make is longer than what came in: it says more and counts as full. Else prove '..UptoSaid'. A law counts once. -/
mutual
def uptoBulk {H : Type} : DataW H → Nat
  | .lit (.string bytes) => bytes.length + 1
  | .lit _ => 1
  | .nil => 1
  | .ptr d => uptoBulk d + 1
  | .slice elems spare => uptoBulkAll elems + uptoBulkAll spare + 1
  | .agg parts => uptoBulkAll parts + 1
  | .iface _ d => uptoBulk d + 1
  | .map entries => uptoBulkEntries entries + 1
  | .held _ => 1
def uptoBulkAll {H : Type} : List (DataW H) → Nat
  | [] => 0
  | d :: r => uptoBulk d + uptoBulkAll r
def uptoBulkEntries {H : Type} : List (Lit × DataW H) → Nat
  | [] => 0
  | x :: r => uptoBulkEntry x + uptoBulkEntries r
def uptoBulkEntry {H : Type} : Lit × DataW H → Nat
  | (.string bytes, d) => bytes.length + uptoBulk d + 1
  | (_, d) => uptoBulk d + 1
 end
def uptoSmall : (H : Type) → List (DataW H) → Bool := fun _ ds => decide (uptoBulkAll ds ≤ 1048576)
def OpenSpec.upto (s : _root_.Go.ChangeSpec) : _root_.Go.OpenSpec := { _root_.Go.OpenSpec.ofChange s with cond := some uptoSmall }

/-- 'laws.FnExactInstOk', WHERE WHAT IT READS IS OF BULK AT MOST 1048576: true; the input reads as it did. -/
def fnExactInstOkUptoRow : OpenClaim := { program := "ytmoijfaceanakaagreat", sum := "916001b2b00b47fcb06cab70b4263ab60b5cd6e08ee2ec736cfe0faf90bac55d", func := "loop.example/g00282/laws.FnExactInstOk", spec := "fnExactInstOk", unfollowed := true, recurses := true, apart := false, narrowed := true }
def FnExactInstOkUptoSaid : Prop := fnExactInstOkUptoRow.holds Tryz.pinned (OpenSpec.upto fnExactInstOkSpec)

/-- 'laws.FnExactBookOk', WHERE WHAT IT READS IS OF BULK AT MOST 1048576: true; the input reads as it did. -/
def fnExactBookOkUptoRow : OpenClaim := { program := "ytmoijfaceanakaagreat", sum := "916001b2b00b47fcb06cab70b4263ab60b5cd6e08ee2ec736cfe0faf90bac55d", func := "loop.example/g00282/laws.FnExactBookOk", spec := "fnExactBookOk", unfollowed := true, recurses := true, apart := false, narrowed := true }
def FnExactBookOkUptoSaid : Prop := fnExactBookOkUptoRow.holds Tryz.pinned (OpenSpec.upto fnExactBookOkSpec)

/-- 'laws.FnExactEffectsOf', WHERE WHAT IT READS IS OF BULK AT MOST 1048576: true; the input reads as it did. -/
def fnExactEffectsOfUptoRow : OpenClaim := { program := "ytmoijfaceanakaagreat", sum := "916001b2b00b47fcb06cab70b4263ab60b5cd6e08ee2ec736cfe0faf90bac55d", func := "loop.example/g00282/laws.FnExactEffectsOf", spec := "fnExactEffectsOf", unfollowed := true, recurses := true, apart := false, narrowed := true }
def FnExactEffectsOfUptoSaid : Prop := fnExactEffectsOfUptoRow.holds Tryz.pinned (OpenSpec.upto fnExactEffectsOfSpec)

end Rows
end Go.Proofs.YtmoijfaceanakaaGreat
