/- For every definition and every piece of work, the law FnExactNextOf returns true and leaves its arguments as they were: the program's NextOf and the reference's return the same, in memory of its own. No condition. -/
import Derived.Test.YtceiiofmelhipaaGreatRows
import Derived.Test.YtceiiofmelhipaaGreatAmGood
import Derived.Test.YtceiiofmelhipaaGreatAmLaw
import Derived.Test.YtceiiofmelhipaaGreatFExactNextOf3
import Derived.WalkKit
import Derived.ProofKit
import Derived.OpenShut
namespace Go.Proofs.YtceiiofmelhipaaGreat.fnExactNextOf
open Go.ChangeShapes Go.WideShapes Go.ChangeAt Go.RowKit
set_option linter.unusedVariables false
set_option maxRecDepth 100000
open AM in
theorem lifted (os : Os) (started : os.Started) (H : Type) (enc : TypeId × Value → H) :
    ReturnsInHanded {} Tryz.checked os 4 .any (Rows.fnExactNextOfSpec.pre6 enc Tryz.prog Tryz.f4 Rows.fnExactNextOfRow.domain false) (Rows.fnExactNextOfSpec.post enc Tryz.prog Tryz.f4 false true false false) := by
  refine returnsInHanded_of_change (C := Tryz.checked) own started (by kernel_rfl) Tryz.func4
    (ChangeSpec.witness6 (enc := enc) (C := Tryz.checked) false ⟨#[], #[.agg #[.string ⟨#[]⟩, .slice none 0 0], .agg #[.slice none 0 0, .int .i64 0, .slice none 0 0, .slice none 0 0, .slice none 0 0, .slice none 0 0, .int .i64 0, .int .i64 0]], []⟩ 8 (by kernel_rfl) (by kernel_rfl) (by kernel_rfl) (by kernel_rfl)) ?_
  intro W base args ds gs before hval0 hW hcnd _
  have hval : ∀ (j : Nat) t v, Tryz.f4.params[j]? = some t → args[j]? = some v → Value.okWide Tryz.prog W .any base t v := hval0
  have hW' := hW
  obtain ⟨p, q, hA0, hV, rfl, hfz, hnd⟩ := hW
  have hA : DataW.TrodAll enc Tryz.prog W 0 (fun _ => true) true Tryz.f4.params.toList args.toList ds p := hA0
  rw [Tryz.params4] at hA hval
  obtain ⟨v0, vs0, d0, ds0, p0, q0, hargs, rfl, rfl, h0, r0⟩ := trodAll_cons hA
  obtain ⟨v1, vs1, d1, ds1, p1, q1, rfl, rfl, rfl, h1, r1⟩ := trodAll_cons r0
  obtain ⟨rfl, rfl, rfl⟩ := trodAll_nil r1
  obtain rfl : args = #[v0, v1] := by cases args; simp_all
  obtain ⟨rfl, rfl⟩ := trodVars_none hV
  obtain ⟨x0, g0⟩ := arg_st (τ := .lDef) (E := EE) kgood Tryz.underlying59 rfl (hval 0 59 v0 rfl rfl) h0
  obtain ⟨x1, g1⟩ := arg_st (τ := .lInst) (E := EE) kgood Tryz.underlying68 rfl (hval 1 68 v1 rfl rfl) h1
  refine (calls_ro (E := EE) (fun p hp => absurd hp List.not_mem_nil) (ok_laws_FnExactNextOf).2 (x := (x0, x1)) (by simp [con_laws_FnExactNextOf]) (vs := [v0, v1]) (ls := [[], []]) ⟨g0, ⟨g1, trivial⟩⟩ rfl rfl).mono fun e W' ⟨he, hup⟩ => ?_
  subst he
  exact ⟨_, rfl, law_post (b := 4) hW' rfl hup laid mapped sized (of_decide_eq_true (by kernel_rfl)) rfl Tryz.underlying4 rfl⟩
theorem j_inPlace : (Rows.fnExactNextOfRow.inPlace == Tryz.pinned.checked.prog.inPlace 4) = true := by kernel_rfl
theorem j_unfollowed : (Rows.fnExactNextOfRow.unfollowed == Tryz.pinned.checked.prog.unfollowed 4) = true := by kernel_rfl
theorem j_recurses : (Rows.fnExactNextOfRow.recurses == Tryz.pinned.checked.prog.recurses 4) = true := by kernel_rfl
theorem j_named : (Rows.fnExactNextOfRow.named == Tryz.pinned.checked.prog.varsNamed 4) = true := by kernel_rfl
theorem j_lifted0 : (Rows.fnExactNextOfRow.lifted == Tryz.pinned.checked.prog.liftsFinal) = true := by kernel_rfl
theorem j_heard : Tryz.pinned.checked.prog.stopsHeard = true := by kernel_rfl
theorem closed : joinedFacts Tryz.pinned.checked.prog 4 Tryz.f4 Rows.fnExactNextOfSpec Rows.fnExactNextOfRow = true := by
  unfold joinedFacts
  rw [j_inPlace, j_unfollowed, j_recurses, j_named, j_lifted0, j_heard]
  kernel_rfl
theorem over : Rows.fnExactNextOfRow.holds Tryz.pinned (OpenSpec.ofChange Rows.fnExactNextOfSpec) :=
  OpenClaim.holds_of_wide 4 Tryz.f4 rfl rfl rfl rfl rfl rfl rfl ⟨rfl, rfl, rfl, rfl, rfl⟩ rfl rfl rfl rfl rfl (by kernel_rfl) Tryz.func4 closed
    (of_decide_eq_true (by kernel_rfl)) (by unfold Func.isWrapper; first | (rw [if_pos (by decide +kernel)]; kernel_rfl) | (rw [if_neg (by decide +kernel)]; exact ⟨rfl, rfl⟩))
    (fun os started H enc _ => lifted os started H enc)
theorem proved : Rows.FnExactNextOfSaid :=
  over
end Go.Proofs.YtceiiofmelhipaaGreat.fnExactNextOf
