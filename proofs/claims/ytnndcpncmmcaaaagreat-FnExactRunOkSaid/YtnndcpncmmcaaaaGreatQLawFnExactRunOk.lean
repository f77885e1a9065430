/- RunOk, as written, returns for every definition and every run what the reference model returns, leaves its arguments as they are and shares no memory, wherever both fit the law's bound on sizes. -/
import Derived.Test.YtnndcpncmmcaaaaGreatRows
import Derived.Test.YtnndcpncmmcaaaaGreatQAmGood
import Derived.Test.YtnndcpncmmcaaaaGreatQAmLaw
import Derived.Test.YtnndcpncmmcaaaaGreatQFExactRunOk3
import Derived.WalkKit
import Derived.ProofKit
import Derived.OpenShut
namespace Go.Proofs.YtnndcpncmmcaaaaGreat.fnExactRunOk
open Go.ChangeShapes Go.WideShapes Go.ChangeAt Go.RowKit
set_option linter.unusedVariables false
set_option maxRecDepth 100000
open AM in
theorem lifted (os : Os) (started : os.Started) (H : Type) (enc : TypeId × Value → H) :
    ReturnsInHanded {} Tryz.checked os 3 .any (Rows.fnExactRunOkSpec.pre6 enc Tryz.prog Tryz.f3 Rows.fnExactRunOkRow.domain false) (Rows.fnExactRunOkSpec.post enc Tryz.prog Tryz.f3 false true false false) := by
  refine returnsInHanded_of_change (C := Tryz.checked) own started (by kernel_rfl) Tryz.func3
    (ChangeSpec.witness6 (enc := enc) (C := Tryz.checked) false ⟨#[], #[.agg #[.string ⟨#[]⟩, .slice none 0 0], .agg #[.slice none 0 0, .int .i64 0, .slice none 0 0, .slice none 0 0, .slice none 0 0, .slice none 0 0, .int .i64 0, .int .i64 0, .slice none 0 0, .slice none 0 0]], []⟩ 8 (by kernel_rfl) (by kernel_rfl) (by kernel_rfl) (by kernel_rfl)) ?_
  intro W base args ds gs before aer hW atc _
  have Gs : ∀ (j : Nat) t v, Tryz.f3.params[j]? = some t → args[j]? = some v → Value.okWide Tryz.prog W .any base t v := aer
  have hW' := hW
  obtain ⟨p, q, hA0, hV, rfl, hfz, oB⟩ := hW
  have hA : DataW.TrodAll enc Tryz.prog W 0 (fun _ => true) true Tryz.f3.params.toList args.toList ds p := hA0
  rw [Tryz.params3] at hA Gs
  obtain ⟨v0, vs0, d0, ds0, p0, q0, ib, rfl, rfl, h0, r0⟩ := trodAll_cons hA
  obtain ⟨v1, vs1, d1, ds1, p1, q1, rfl, rfl, rfl, h1, r1⟩ := trodAll_cons r0
  obtain ⟨rfl, rfl, rfl⟩ := trodAll_nil r1
  obtain rfl : args = #[v0, v1] := by cases args; simp_all
  obtain ⟨rfl, rfl⟩ := trodVars_none hV
  obtain ⟨x0, g0⟩ := QP (τ := .qg) (E := EE) VD Tryz.underlying24 rfl (Gs 0 24 v0 rfl rfl) h0
  obtain ⟨x1, g1⟩ := QP (τ := .qf) (E := EE) VD Tryz.underlying39 rfl (Gs 1 39 v1 rfl rfl) h1
  refine (QL (E := EE) (fun p hp => absurd hp List.not_mem_nil) (tn).2 (x := (x0, x1)) (by simp [gN]) (vs := [v0, v1]) (ls := [[], []]) ⟨g0, ⟨g1, trivial⟩⟩ rfl rfl).mono fun e W' ⟨he, kx⟩ => ?_
  subst he
  exact ⟨_, rfl, Po (b := 4) hW' rfl kx laid aaj sized (of_decide_eq_true (by kernel_rfl)) rfl Tryz.underlying4 rfl⟩
theorem j_inPlace : (Rows.fnExactRunOkRow.inPlace == Tryz.pinned.checked.prog.inPlace 3) = true := by kernel_rfl
theorem j_unfollowed : (Rows.fnExactRunOkRow.unfollowed == Tryz.pinned.checked.prog.unfollowed 3) = true := by kernel_rfl
theorem j_recurses : (Rows.fnExactRunOkRow.recurses == Tryz.pinned.checked.prog.recurses 3) = true := by kernel_rfl
theorem j_named : (Rows.fnExactRunOkRow.named == Tryz.pinned.checked.prog.varsNamed 3) = true := by kernel_rfl
theorem j_lifted0 : (Rows.fnExactRunOkRow.lifted == Tryz.pinned.checked.prog.liftsFinal) = true := by kernel_rfl
theorem j_heard : Tryz.pinned.checked.prog.stopsHeard = true := by kernel_rfl
theorem closed : joinedFacts Tryz.pinned.checked.prog 3 Tryz.f3 Rows.fnExactRunOkSpec Rows.fnExactRunOkRow = true := by
  unfold joinedFacts
  rw [j_inPlace, j_unfollowed, j_recurses, j_named, j_lifted0, j_heard]
  kernel_rfl
theorem over : Rows.fnExactRunOkRow.holds Tryz.pinned (OpenSpec.ofChange Rows.fnExactRunOkSpec) :=
  OpenClaim.holds_of_wide 3 Tryz.f3 rfl rfl rfl rfl rfl rfl rfl ⟨rfl, rfl, rfl, rfl, rfl⟩ rfl rfl rfl rfl rfl (by kernel_rfl) Tryz.func3 closed
    (of_decide_eq_true (by kernel_rfl)) (by unfold Func.isWrapper; first | (rw [if_pos (by decide +kernel)]; kernel_rfl) | (rw [if_neg (by decide +kernel)]; exact ⟨rfl, rfl⟩))
    (fun os started H enc _ => lifted os started H enc)
theorem proved : Rows.FnExactRunOkSaid :=
  over
end Go.Proofs.YtnndcpncmmcaaaaGreat.fnExactRunOk
