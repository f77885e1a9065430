/- A fact that is told to a drawn piece of work that runs is known there; what has ended is told nothing. -/
import Derived.Test.YtjlajhgabffmpaaGreatRows
import Derived.Test.YtjlajhgabffmpaaGreatQAmGood
import Derived.Test.YtjlajhgabffmpaaGreatQAmLaw
import Derived.Test.YtjlajhgabffmpaaGreatQFTold4
import Derived.WalkKit
import Derived.ProofKit
import Derived.OpenShut
namespace Go.Proofs.YtjlajhgabffmpaaGreat.fnTold
open Go.ChangeShapes Go.WideShapes Go.ChangeAt Go.RowKit
set_option linter.unusedVariables false
set_option maxRecDepth 100000
open AM in
theorem lifted (os : Os) (started : os.Started) (H : Type) (enc : TypeId × Value → H) :
    ReturnsInHanded {} Tryz.checked os 3 .any (Rows.fnToldSpec.pre6 enc Tryz.prog Tryz.f3 Rows.fnToldRow.domain false) (Rows.fnToldSpec.post enc Tryz.prog Tryz.f3 false true false false) := by
  refine returnsInHanded_of_change (C := Tryz.checked) own started (by kernel_rfl) Tryz.func3
    (ChangeSpec.witness6 (enc := enc) (C := Tryz.checked) false ⟨#[], #[.slice none 0 0], []⟩ 8 (by kernel_rfl) (by kernel_rfl) (by kernel_rfl) (by kernel_rfl)) ?_
  intro W base args ds gs before adC hW apv _
  have PP : ∀ (j : Nat) t v, Tryz.f3.params[j]? = some t → args[j]? = some v → Value.okWide Tryz.prog W .any base t v := adC
  have hW' := hW
  obtain ⟨p, q, hA0, hV, rfl, hfz, qD⟩ := hW
  have hA : DataW.TrodAll enc Tryz.prog W 0 (fun _ => true) true Tryz.f3.params.toList args.toList ds p := hA0
  rw [Tryz.params3] at hA PP
  obtain ⟨v0, vs0, d0, ds0, p0, q0, lH, rfl, rfl, h0, r0⟩ := trodAll_cons hA
  obtain ⟨rfl, rfl, rfl⟩ := trodAll_nil r0
  obtain rfl : args = #[v0] := by cases args; simp_all
  obtain ⟨rfl, rfl⟩ := trodVars_none hV
  obtain ⟨x0, g0⟩ := abg (τ := .byte) (E := EE) ady Tryz.underlying22 rfl (PP 0 22 v0 rfl rfl) h0
  refine (Ti (E := EE) (fun p hp => absurd hp List.not_mem_nil) (Ee).2 (x := x0) (by simp [l5]) (vs := [v0]) (ls := [[]]) ⟨g0, trivial⟩ rfl rfl).mono fun e W' ⟨he, qz⟩ => ?_
  subst he
  exact ⟨_, rfl, R1 (b := 4) hW' rfl qz laid aac sized (of_decide_eq_true (by kernel_rfl)) rfl Tryz.underlying4 rfl⟩
theorem j_inPlace : (Rows.fnToldRow.inPlace == Tryz.pinned.checked.prog.inPlace 3) = true := by kernel_rfl
theorem j_unfollowed : (Rows.fnToldRow.unfollowed == Tryz.pinned.checked.prog.unfollowed 3) = true := by kernel_rfl
theorem j_recurses : (Rows.fnToldRow.recurses == Tryz.pinned.checked.prog.recurses 3) = true := by kernel_rfl
theorem j_named : (Rows.fnToldRow.named == Tryz.pinned.checked.prog.varsNamed 3) = true := by kernel_rfl
theorem j_lifted0 : (Rows.fnToldRow.lifted == Tryz.pinned.checked.prog.liftsFinal) = true := by kernel_rfl
theorem j_heard : Tryz.pinned.checked.prog.stopsHeard = true := by kernel_rfl
theorem closed : joinedFacts Tryz.pinned.checked.prog 3 Tryz.f3 Rows.fnToldSpec Rows.fnToldRow = true := by
  unfold joinedFacts
  rw [j_inPlace, j_unfollowed, j_recurses, j_named, j_lifted0, j_heard]
  kernel_rfl
theorem over : Rows.fnToldRow.holds Tryz.pinned (OpenSpec.ofChange Rows.fnToldSpec) :=
  OpenClaim.holds_of_wide 3 Tryz.f3 rfl rfl rfl rfl rfl rfl rfl ⟨rfl, rfl, rfl, rfl, rfl⟩ rfl rfl rfl rfl rfl (by kernel_rfl) Tryz.func3 closed
    (of_decide_eq_true (by kernel_rfl)) (by unfold Func.isWrapper; first | (rw [if_pos (by decide +kernel)]; kernel_rfl) | (rw [if_neg (by decide +kernel)]; exact ⟨rfl, rfl⟩))
    (fun os started H enc _ => lifted os started H enc)
theorem proved : Rows.FnToldSaid :=
  over
end Go.Proofs.YtjlajhgabffmpaaGreat.fnTold
