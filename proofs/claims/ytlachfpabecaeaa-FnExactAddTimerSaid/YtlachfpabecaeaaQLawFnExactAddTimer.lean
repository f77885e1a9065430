/- The program AddTimer returns what the reference returns, for all arguments. -/
import Derived.Test.YtlachfpabecaeaaRows
import Derived.Test.YtlachfpabecaeaaQAmGood
import Derived.Test.YtlachfpabecaeaaQAmLaw
import Derived.Test.YtlachfpabecaeaaQFExactAddTimer
import Derived.WalkKit
import Derived.ProofKit
import Derived.OpenShut
namespace Go.Proofs.Ytlachfpabecaeaa.fnExactAddTimer
open Go.ChangeShapes Go.WideShapes Go.ChangeAt Go.RowKit
set_option linter.unusedVariables false
set_option maxRecDepth 100000
open AM in
theorem lifted (os : Os) (started : os.Started) (H : Type) (enc : TypeId × Value → H) :
    ReturnsInHanded {} Try.checked os 3 .any (Rows.fnExactAddTimerSpec.pre6 enc Try.prog Try.f3 Rows.fnExactAddTimerRow.domain false) (Rows.fnExactAddTimerSpec.post enc Try.prog Try.f3 false true false false) := by
  refine returnsInHanded_of_change (C := Try.checked) own started (by kernel_rfl) Try.func3
    (ChangeSpec.witness6 (enc := enc) (C := Try.checked) false ⟨#[], #[.slice none 0 0, .agg #[.int .i64 0, .string ⟨#[]⟩, .slice none 0 0]], []⟩ 8 (by kernel_rfl) (by kernel_rfl) (by kernel_rfl) (by kernel_rfl)) ?_
  intro W base args ds gs before Eo hW P5 _
  have qL : ∀ (j : Nat) t v, Try.f3.params[j]? = some t → args[j]? = some v → Value.okWide Try.prog W .any base t v := Eo
  have P_ := hW
  obtain ⟨p, q, Qm, hV, rfl, PY, eH⟩ := hW
  have hA : DataW.TrodAll enc Try.prog W 0 (fun _ => true) true Try.f3.params.toList args.toList ds p := Qm
  rw [Try.params3] at hA qL
  obtain ⟨v0, Q7, d0, Rr, p0, q0, dr, rfl, rfl, h0, r0⟩ := trodAll_cons hA
  obtain ⟨v1, Q6, d1, Rq, p1, q1, rfl, rfl, rfl, h1, r1⟩ := trodAll_cons r0
  obtain ⟨rfl, rfl, rfl⟩ := trodAll_nil r1
  obtain rfl : args = #[v0, v1] := by cases args; simp_all
  obtain ⟨rfl, rfl⟩ := trodVars_none hV
  obtain ⟨x0, g0⟩ := AL (τ := .aU) (E := EE) xz Try.underlying22 rfl (qL 0 22 v0 rfl rfl) h0
  obtain ⟨x1, g1⟩ := AK (τ := .aU) (E := EE) xz Try.underlying27 rfl (qL 1 27 v1 rfl rfl) h1
  refine (u7 (E := EE) (fun p hp => absurd hp List.not_mem_nil) (dK).2 (x := (x0, x1)) (by simp [bJ]) (vs := [v0, v1]) (ls := [[], []]) ⟨g0, ⟨g1, trivial⟩⟩ rfl rfl).mono fun e W' ⟨he, eJ⟩ => ?_
  subst he
  exact ⟨_, rfl, tY (b := 4) P_ rfl eJ laid zj sized (of_decide_eq_true (by kernel_rfl)) rfl Try.underlying4 rfl⟩
theorem j_inPlace : (Rows.fnExactAddTimerRow.inPlace == Try.pinned.checked.prog.inPlace 3) = true := by kernel_rfl
theorem j_unfollowed : (Rows.fnExactAddTimerRow.unfollowed == Try.pinned.checked.prog.unfollowed 3) = true := by kernel_rfl
theorem j_recurses : (Rows.fnExactAddTimerRow.recurses == Try.pinned.checked.prog.recurses 3) = true := by kernel_rfl
theorem j_named : (Rows.fnExactAddTimerRow.named == Try.pinned.checked.prog.varsNamed 3) = true := by kernel_rfl
theorem j_lifted0 : (Rows.fnExactAddTimerRow.lifted == Try.pinned.checked.prog.liftsFinal) = true := by kernel_rfl
theorem j_heard : Try.pinned.checked.prog.stopsHeard = true := by kernel_rfl
theorem closed : joinedFacts Try.pinned.checked.prog 3 Try.f3 Rows.fnExactAddTimerSpec Rows.fnExactAddTimerRow = true := by
  unfold joinedFacts
  rw [j_inPlace, j_unfollowed, j_recurses, j_named, j_lifted0, j_heard]
  kernel_rfl
theorem over : Rows.fnExactAddTimerRow.holds Try.pinned (OpenSpec.ofChange Rows.fnExactAddTimerSpec) :=
  OpenClaim.holds_of_wide 3 Try.f3 rfl rfl rfl rfl rfl rfl rfl ⟨rfl, rfl, rfl, rfl, rfl⟩ rfl rfl rfl rfl rfl (by kernel_rfl) Try.func3 closed
    (of_decide_eq_true (by kernel_rfl)) (by unfold Func.isWrapper; first | (rw [if_pos (by decide +kernel)]; kernel_rfl) | (rw [if_neg (by decide +kernel)]; exact ⟨rfl, rfl⟩))
    (fun os started H enc _ => lifted os started H enc)
theorem proved : Rows.FnExactAddTimerSaid :=
  over
end Go.Proofs.Ytlachfpabecaeaa.fnExactAddTimer
