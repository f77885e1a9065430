/- For every list of tasks, every fact, every text and every time, the law FnExactStartTask returns true and leaves its arguments as they were: the program's StartTask and the reference's return the same, in memory of its own. No condition. -/
import Derived.Test.YtdpgbnahacdkeaaRows
import Derived.Test.YtdpgbnahacdkeaaAmGood
import Derived.Test.YtdpgbnahacdkeaaAmLaw
import Derived.Test.YtdpgbnahacdkeaaFExactStartTask2
import Derived.WalkKit
import Derived.ProofKit
import Derived.OpenShut
namespace Go.Proofs.Ytdpgbnahacdkeaa.fnExactStartTask
open Go.ChangeShapes Go.WideShapes Go.ChangeAt Go.RowKit
set_option linter.unusedVariables false
set_option maxRecDepth 100000
open AM in
theorem lifted (os : Os) (started : os.Started) (H : Type) (enc : TypeId × Value → H) :
    ReturnsInHanded {} Try.checked os 9 .any (Rows.fnExactStartTaskSpec.pre6 enc Try.prog Try.f9 Rows.fnExactStartTaskRow.domain false) (Rows.fnExactStartTaskSpec.post enc Try.prog Try.f9 false true false false) := by
  refine returnsInHanded_of_change (C := Try.checked) own started (by kernel_rfl) Try.func9
    (ChangeSpec.witness6 (enc := enc) (C := Try.checked) false ⟨#[], #[.slice none 0 0, .agg #[.string ⟨#[]⟩, .slice none 0 0], .string ⟨#[]⟩, .int .i64 0], []⟩ 8 (by kernel_rfl) (by kernel_rfl) (by kernel_rfl) (by kernel_rfl)) ?_
  intro W base args ds gs before hval0 hW hcnd _
  have hval : ∀ (j : Nat) t v, Try.f9.params[j]? = some t → args[j]? = some v → Value.okWide Try.prog W .any base t v := hval0
  have hW' := hW
  obtain ⟨p, q, hA0, hV, rfl, hfz, hnd⟩ := hW
  have hA : DataW.TrodAll enc Try.prog W 0 (fun _ => true) true Try.f9.params.toList args.toList ds p := hA0
  rw [Try.params9] at hA hval
  obtain ⟨v0, vs0, d0, ds0, p0, q0, hargs, rfl, rfl, h0, r0⟩ := trodAll_cons hA
  obtain ⟨v1, vs1, d1, ds1, p1, q1, rfl, rfl, rfl, h1, r1⟩ := trodAll_cons r0
  obtain ⟨v2, vs2, d2, ds2, p2, q2, rfl, rfl, rfl, h2, r2⟩ := trodAll_cons r1
  obtain ⟨v3, vs3, d3, ds3, p3, q3, rfl, rfl, rfl, h3, r3⟩ := trodAll_cons r2
  obtain ⟨rfl, rfl, rfl⟩ := trodAll_nil r3
  obtain rfl : args = #[v0, v1, v2, v3] := by cases args; simp_all
  obtain ⟨rfl, rfl⟩ := trodVars_none hV
  obtain ⟨x0, g0⟩ := arg_sl (τ := .lTask) (E := EE) kgood Try.underlying47 rfl (hval 0 47 v0 rfl rfl) h0
  obtain ⟨x1, g1⟩ := arg_st (τ := .lFact) (E := EE) kgood Try.underlying31 rfl (hval 1 31 v1 rfl rfl) h1
  obtain ⟨x2, g2⟩ := arg_str (E := EE) kgood Try.underlying9 (hval 2 9 v2 rfl rfl) h2
  obtain ⟨x3, g3⟩ := arg_int (E := EE) kgood Try.underlying3 (hval 3 3 v3 rfl rfl) h3
  refine (calls_ro (E := EE) (fun p hp => absurd hp List.not_mem_nil) (ok_laws_FnExactStartTask).2 (x := (x0, x1, x2, x3)) (by simp [con_laws_FnExactStartTask]) (vs := [v0, v1, v2, v3]) (ls := [[], [], [], []]) ⟨g0, ⟨g1, ⟨g2, ⟨g3, trivial⟩⟩⟩⟩ rfl rfl).mono fun e W' ⟨he, hup⟩ => ?_
  subst he
  exact ⟨_, rfl, law_post (b := 4) hW' rfl hup laid mapped sized (of_decide_eq_true (by kernel_rfl)) rfl Try.underlying4 rfl⟩
theorem over : Rows.fnExactStartTaskRow.holds Try.pinned (OpenSpec.ofChange Rows.fnExactStartTaskSpec) :=
  OpenClaim.holds_of_wide 9 Try.f9 rfl rfl rfl rfl rfl rfl rfl ⟨rfl, rfl, rfl, rfl, rfl⟩ rfl rfl rfl rfl rfl (by kernel_rfl) Try.func9 (by kernel_rfl)
    (of_decide_eq_true (by kernel_rfl)) (by unfold Func.isWrapper; first | (rw [if_pos (by decide +kernel)]; kernel_rfl) | (rw [if_neg (by decide +kernel)]; exact ⟨rfl, rfl⟩))
    (fun os started H enc _ => lifted os started H enc)
theorem proved : Rows.FnExactStartTaskSaid :=
  over
end Go.Proofs.Ytdpgbnahacdkeaa.fnExactStartTask
