/- timers that are due and those that are not are all of them; of timers that are right each part is right -/
import Derived.Test.YtmoijfaceanakaaRows
import Derived.Test.YtmoijfaceanakaaAmGood
import Derived.Test.YtmoijfaceanakaaAmLaw
import Derived.Test.YtmoijfaceanakaaFDue
import Derived.WalkKit
import Derived.ProofKit
import Derived.OpenShut
namespace Go.Proofs.Ytmoijfaceanakaa.fnDue
open Go.ChangeShapes Go.WideShapes Go.ChangeAt Go.RowKit
set_option linter.unusedVariables false
set_option maxRecDepth 100000
open AM in
theorem lifted (os : Os) (started : os.Started) (H : Type) (enc : TypeId × Value → H) :
    ReturnsInHanded {} Try.checked os 6 .any (Rows.fnDueSpec.pre6 enc Try.prog Try.f6 Rows.fnDueRow.domain false) (Rows.fnDueSpec.post enc Try.prog Try.f6 false true false false) := by
  refine returnsInHanded_of_change (C := Try.checked) own started (by kernel_rfl) Try.func6
    (ChangeSpec.witness6 (enc := enc) (C := Try.checked) false ⟨#[], #[.slice none 0 0], []⟩ 8 (by kernel_rfl) (by kernel_rfl) (by kernel_rfl) (by kernel_rfl)) ?_
  intro W base args ds gs before hval0 hW hcnd _
  have hval : ∀ (j : Nat) t v, Try.f6.params[j]? = some t → args[j]? = some v → Value.okWide Try.prog W .any base t v := hval0
  have hW' := hW
  obtain ⟨p, q, hA0, hV, rfl, hfz, hnd⟩ := hW
  have hA : DataW.TrodAll enc Try.prog W 0 (fun _ => true) true Try.f6.params.toList args.toList ds p := hA0
  rw [Try.params6] at hA hval
  obtain ⟨v0, vs0, d0, ds0, p0, q0, hargs, rfl, rfl, h0, r0⟩ := trodAll_cons hA
  obtain ⟨rfl, rfl, rfl⟩ := trodAll_nil r0
  obtain rfl : args = #[v0] := by cases args; simp_all
  obtain ⟨rfl, rfl⟩ := trodVars_none hV
  obtain ⟨x0, g0⟩ := arg_sl (τ := .byte) (E := EE) kgood Try.underlying22 rfl (hval 0 22 v0 rfl rfl) h0
  refine (calls_ro (E := EE) (fun p hp => absurd hp List.not_mem_nil) (ok_laws_FnDue).2 (x := x0) (by simp [con_laws_FnDue]) (vs := [v0]) (ls := [[]]) ⟨g0, trivial⟩ rfl rfl).mono fun e W' ⟨he, hup⟩ => ?_
  subst he
  exact ⟨_, rfl, law_post (b := 4) hW' rfl hup laid mapped sized (of_decide_eq_true (by kernel_rfl)) rfl Try.underlying4 rfl⟩
theorem over : Rows.fnDueRow.holds Try.pinned (OpenSpec.ofChange Rows.fnDueSpec) :=
  OpenClaim.holds_of_wide 6 Try.f6 rfl rfl rfl rfl rfl rfl rfl ⟨rfl, rfl, rfl, rfl, rfl⟩ rfl rfl rfl rfl rfl (by kernel_rfl) Try.func6 (by kernel_rfl)
    (of_decide_eq_true (by kernel_rfl)) (by unfold Func.isWrapper; first | (rw [if_pos (by decide +kernel)]; kernel_rfl) | (rw [if_neg (by decide +kernel)]; exact ⟨rfl, rfl⟩))
    (fun os started H enc _ => lifted os started H enc)
theorem proved : Rows.FnDueSaid :=
  over
end Go.Proofs.Ytmoijfaceanakaa.fnDue
