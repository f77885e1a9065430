/- A timer that is added stands behind all that are not later; all others stay in order. -/
import Derived.Test.YtlachfpabecaeaaRows
import Derived.Test.YtlachfpabecaeaaQAmGood
import Derived.Test.YtlachfpabecaeaaQAmLaw
import Derived.Test.YtlachfpabecaeaaQFTimers
import Derived.WalkKit
import Derived.ProofKit
import Derived.OpenShut
namespace Go.Proofs.Ytlachfpabecaeaa.fnTimers
open Go.ChangeShapes Go.WideShapes Go.ChangeAt Go.RowKit
set_option linter.unusedVariables false
set_option maxRecDepth 100000
open AM in
theorem lifted (os : Os) (started : os.Started) (H : Type) (enc : TypeId × Value → H) :
    ReturnsInHanded {} Try.checked os 4 .any (Rows.fnTimersSpec.pre6 enc Try.prog Try.f4 Rows.fnTimersRow.domain false) (Rows.fnTimersSpec.post enc Try.prog Try.f4 false true false false) := by
  refine returnsInHanded_of_change (C := Try.checked) own started (by kernel_rfl) Try.func4
    (ChangeSpec.witness6 (enc := enc) (C := Try.checked) false ⟨#[], #[.slice none 0 0], []⟩ 8 (by kernel_rfl) (by kernel_rfl) (by kernel_rfl) (by kernel_rfl)) ?_
  intro W base args ds gs before EH hW OU _
  have tO : ∀ (j : Nat) t v, Try.f4.params[j]? = some t → args[j]? = some v → Value.okWide Try.prog W .any base t v := EH
  have O0 := hW
  obtain ⟨p, q, Pd, hV, rfl, OP, fc⟩ := hW
  have hA : DataW.TrodAll enc Try.prog W 0 (fun _ => true) true Try.f4.params.toList args.toList ds p := Pd
  rw [Try.params4] at hA tO
  obtain ⟨v0, PK, d0, P6, p0, q0, dE, rfl, rfl, h0, r0⟩ := trodAll_cons hA
  obtain ⟨rfl, rfl, rfl⟩ := trodAll_nil r0
  obtain rfl : args = #[v0] := by cases args; simp_all
  obtain ⟨rfl, rfl⟩ := trodVars_none hV
  obtain ⟨x0, g0⟩ := BS (τ := .byte) (E := EE) Ev Try.underlying45 rfl (tO 0 45 v0 rfl rfl) h0
  refine (wh (E := EE) (fun p hp => absurd hp List.not_mem_nil) (gD).2 (x := x0) (by simp [aD]) (vs := [v0]) (ls := [[]]) ⟨g0, trivial⟩ rfl rfl).mono fun e W' ⟨he, fi⟩ => ?_
  subst he
  exact ⟨_, rfl, vg (b := 4) O0 rfl fi laid Av sized (of_decide_eq_true (by kernel_rfl)) rfl Try.underlying4 rfl⟩
theorem j_inPlace : (Rows.fnTimersRow.inPlace == Try.pinned.checked.prog.inPlace 4) = true := by kernel_rfl
theorem j_unfollowed : (Rows.fnTimersRow.unfollowed == Try.pinned.checked.prog.unfollowed 4) = true := by kernel_rfl
theorem j_recurses : (Rows.fnTimersRow.recurses == Try.pinned.checked.prog.recurses 4) = true := by kernel_rfl
theorem j_named : (Rows.fnTimersRow.named == Try.pinned.checked.prog.varsNamed 4) = true := by kernel_rfl
theorem j_lifted0 : (Rows.fnTimersRow.lifted == Try.pinned.checked.prog.liftsFinal) = true := by kernel_rfl
theorem j_heard : Try.pinned.checked.prog.stopsHeard = true := by kernel_rfl
theorem closed : joinedFacts Try.pinned.checked.prog 4 Try.f4 Rows.fnTimersSpec Rows.fnTimersRow = true := by
  unfold joinedFacts
  rw [j_inPlace, j_unfollowed, j_recurses, j_named, j_lifted0, j_heard]
  kernel_rfl
theorem over : Rows.fnTimersRow.holds Try.pinned (OpenSpec.ofChange Rows.fnTimersSpec) :=
  OpenClaim.holds_of_wide 4 Try.f4 rfl rfl rfl rfl rfl rfl rfl ⟨rfl, rfl, rfl, rfl, rfl⟩ rfl rfl rfl rfl rfl (by kernel_rfl) Try.func4 closed
    (of_decide_eq_true (by kernel_rfl)) (by unfold Func.isWrapper; first | (rw [if_pos (by decide +kernel)]; kernel_rfl) | (rw [if_neg (by decide +kernel)]; exact ⟨rfl, rfl⟩))
    (fun os started H enc _ => lifted os started H enc)
theorem proved : Rows.FnTimersSaid :=
  over
end Go.Proofs.Ytlachfpabecaeaa.fnTimers
