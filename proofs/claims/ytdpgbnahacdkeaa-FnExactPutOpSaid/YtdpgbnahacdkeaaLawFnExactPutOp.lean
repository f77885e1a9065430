/- For every operation, the law FnExactPutOp returns true and leaves its argument as it was: the program's PutOp and the reference's return the same bytes, in memory of its own. No condition. -/
import Derived.Test.YtdpgbnahacdkeaaRows
import Derived.Test.YtdpgbnahacdkeaaAmGood
import Derived.Test.YtdpgbnahacdkeaaAmLaw
import Derived.Test.YtdpgbnahacdkeaaFExactPutOp
import Derived.WalkKit
import Derived.ProofKit
import Derived.OpenShut
namespace Go.Proofs.Ytdpgbnahacdkeaa.fnExactPutOp
open Go.ChangeShapes Go.WideShapes Go.ChangeAt Go.RowKit
set_option linter.unusedVariables false
set_option maxRecDepth 100000
open AM in
theorem lifted (os : Os) (started : os.Started) (H : Type) (enc : TypeId × Value → H) :
    ReturnsInHanded {} Try.checked os 7 .any (Rows.fnExactPutOpSpec.pre6 enc Try.prog Try.f7 Rows.fnExactPutOpRow.domain false) (Rows.fnExactPutOpSpec.post enc Try.prog Try.f7 false true false false) := by
  refine returnsInHanded_of_change (C := Try.checked) own started (by kernel_rfl) Try.func7
    (ChangeSpec.witness6 (enc := enc) (C := Try.checked) false ⟨#[], #[.agg #[.int .i64 0, .string ⟨#[]⟩, .string ⟨#[]⟩, .string ⟨#[]⟩, .slice none 0 0, .string ⟨#[]⟩, .bool false, .int .i64 0, .int .i64 0, .string ⟨#[]⟩, .int .i64 0]], []⟩ 8 (by kernel_rfl) (by kernel_rfl) (by kernel_rfl) (by kernel_rfl)) ?_
  intro W base args ds gs before hval0 hW hcnd _
  have hval : ∀ (j : Nat) t v, Try.f7.params[j]? = some t → args[j]? = some v → Value.okWide Try.prog W .any base t v := hval0
  have hW' := hW
  obtain ⟨p, q, hA0, hV, rfl, hfz, hnd⟩ := hW
  have hA : DataW.TrodAll enc Try.prog W 0 (fun _ => true) true Try.f7.params.toList args.toList ds p := hA0
  rw [Try.params7] at hA hval
  obtain ⟨v0, vs0, d0, ds0, p0, q0, hargs, rfl, rfl, h0, r0⟩ := trodAll_cons hA
  obtain ⟨rfl, rfl, rfl⟩ := trodAll_nil r0
  obtain rfl : args = #[v0] := by cases args; simp_all
  obtain ⟨rfl, rfl⟩ := trodVars_none hV
  obtain ⟨x0, g0⟩ := arg_st (τ := .lOp) (E := EE) kgood Try.underlying35 rfl (hval 0 35 v0 rfl rfl) h0
  refine (calls_ro (E := EE) (fun p hp => absurd hp List.not_mem_nil) (ok_laws_FnExactPutOp).2 (x := x0) (by simp [con_laws_FnExactPutOp]) (vs := [v0]) (ls := [[]]) ⟨g0, trivial⟩ rfl rfl).mono fun e W' ⟨he, hup⟩ => ?_
  subst he
  exact ⟨_, rfl, law_post (b := 4) hW' rfl hup laid mapped sized (of_decide_eq_true (by kernel_rfl)) rfl Try.underlying4 rfl⟩
theorem over : Rows.fnExactPutOpRow.holds Try.pinned (OpenSpec.ofChange Rows.fnExactPutOpSpec) :=
  OpenClaim.holds_of_wide 7 Try.f7 rfl rfl rfl rfl rfl rfl rfl ⟨rfl, rfl, rfl, rfl, rfl⟩ rfl rfl rfl rfl rfl (by kernel_rfl) Try.func7 (by kernel_rfl)
    (of_decide_eq_true (by kernel_rfl)) (by unfold Func.isWrapper; first | (rw [if_pos (by decide +kernel)]; kernel_rfl) | (rw [if_neg (by decide +kernel)]; exact ⟨rfl, rfl⟩))
    (fun os started H enc _ => lifted os started H enc)
theorem proved : Rows.FnExactPutOpSaid :=
  over
end Go.Proofs.Ytdpgbnahacdkeaa.fnExactPutOp
