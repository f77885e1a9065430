/- A drawn piece of work that is called off undoes what was done, backwards, and is gone then. -/
import Derived.Test.YtknfcngfhlpaeaaGreatDoorRows
import Derived.Test.YtknfcngfhlpaeaaGreatDoorQAmGood
import Derived.Test.YtknfcngfhlpaeaaGreatDoorQAmLaw
import Derived.Test.YtknfcngfhlpaeaaGreatDoorQFStopped4
import Derived.WalkKit
import Derived.ProofKit
import Derived.OpenShut
import Derived.LaidLaws
import Derived.LaidHandle
import Derived.MakeChecks
import Derived.Handed
import Derived.JoinedOf
import Derived.ChangeVars
import Derived.Lib.LaidTab
import Derived.Stop.LaidErr
import Derived.SevenTiedAt
import Derived.Test.YtknfcngfhlpaeaaGreatDoorCards
import Derived.Test.YtknfcngfhlpaeaaGreatDoorTie
namespace Go.Proofs.YtknfcngfhlpaeaaGreatDoor.fnStopped
open Go.ChangeShapes Go.WideShapes Go.ChangeAt Go.RowKit
set_option linter.unusedVariables false
set_option maxRecDepth 100000
noncomputable def EK (os : Os) : World :=
  { World.holding Tryz.prog os ⟨#[], #[], []⟩ with heap := ((((World.holding Tryz.prog os ⟨#[], #[], []⟩).heap.modify 1 fun
      | .cells _ t frozen => .cells (Lib.pow10Tab.map fun z => Value.int .u64 z).toArray t frozen
      | o => o).modify 2 fun
      | .cells _ t frozen => .cells #[.int .u8 0, .int .u8 1, .int .u8 28, .int .u8 2, .int .u8 29, .int .u8 14, .int .u8 24, .int .u8 3, .int .u8 30, .int .u8 22, .int .u8 20, .int .u8 15, .int .u8 25, .int .u8 17, .int .u8 4, .int .u8 8, .int .u8 31, .int .u8 27, .int .u8 13, .int .u8 23, .int .u8 21, .int .u8 19, .int .u8 16, .int .u8 7, .int .u8 26, .int .u8 12, .int .u8 18, .int .u8 6, .int .u8 11, .int .u8 5, .int .u8 10, .int .u8 9] t frozen
      | o => o).modify 3 fun
      | .cells _ t frozen => .cells #[.int .u8 0, .int .u8 1, .int .u8 56, .int .u8 2, .int .u8 57, .int .u8 49, .int .u8 28, .int .u8 3, .int .u8 61, .int .u8 58, .int .u8 42, .int .u8 50, .int .u8 38, .int .u8 29, .int .u8 17, .int .u8 4, .int .u8 62, .int .u8 47, .int .u8 59, .int .u8 36, .int .u8 45, .int .u8 43, .int .u8 51, .int .u8 22, .int .u8 53, .int .u8 39, .int .u8 33, .int .u8 30, .int .u8 24, .int .u8 18, .int .u8 12, .int .u8 5, .int .u8 63, .int .u8 55, .int .u8 48, .int .u8 27, .int .u8 60, .int .u8 41, .int .u8 37, .int .u8 16, .int .u8 46, .int .u8 35, .int .u8 44, .int .u8 21, .int .u8 52, .int .u8 32, .int .u8 23, .int .u8 11, .int .u8 54, .int .u8 26, .int .u8 40, .int .u8 15, .int .u8 34, .int .u8 20, .int .u8 31, .int .u8 10, .int .u8 25, .int .u8 14, .int .u8 19, .int .u8 9, .int .u8 13, .int .u8 8, .int .u8 7, .int .u8 6] t frozen
      | o => o) }
theorem laid_met (os : Os) (args : Array Value) : laidMetH Tryz.prog Rows.fnStoppedRow.laid ((EK os).forCall (fun _ _ => 0) ⟨#[], args, []⟩).memory := by
  rw [Go.MakeChecks.laidMetH_plain _ _ _ (by kernel_rfl)]
  exact laidMet_of_run' 8 (by kernel_rfl) (by kernel_rfl)
open AM in
theorem lay_of {W : World} (h : laidMetH Tryz.prog Rows.fnStoppedRow.laid W) : Ns EE W (· < W.heap.size) := by
  rw [Go.MakeChecks.laidMetH_plain _ _ _ (by kernel_rfl)] at h
  have h1 : laidMet Tryz.prog [("internal/strconv.uint64pow10", Lib.tabData .u64 Lib.pow10Tab)] W := h.tail.tail
  have h2 := Lib.tabIs_of_head (P := Tryz.prog) (g := 1) (t := 283) (e := 267) (n := 20) (by kernel_rfl) (by kernel_rfl) (by kernel_rfl) (by kernel_rfl) (by kernel_rfl) (by kernel_rfl) h1
  intro p hp
  obtain rfl := List.mem_singleton.1 hp
  have hg : Tryz.prog.globalNamed "internal/strconv.uint64pow10" = some 1 := by kernel_rfl
  simp only [Go.Lib.TabIs, World.var?, hg, Option.bind_some] at h2
  split at h2
  · rename_i cs e r hh
    cases h2
    refine ⟨?_, _, _, hh⟩
    rcases Nat.lt_or_ge 1 W.heap.size with h' | h'
    · exact h'
    · rw [Array.getElem?_eq_none h'] at hh; cases hh
  · cases h2
open AM in
theorem lifted (os : Os) (started : os.Started) (H : Type) (enc : TypeId × Value → H) :
    ReturnsInHanded {} Tryz.checked os 3 .any (fun w args => (Rows.fnStoppedSpec.pre enc Tryz.prog Tryz.f3 Rows.fnStoppedRow.domain false w args ∧ laidMetH Tryz.prog Rows.fnStoppedRow.laid w) ∧ sizedMet enc Tryz.prog Tryz.f3 (OpenSpec.ofChange Rows.fnStoppedSpec) false w args) (Rows.fnStoppedSpec.post enc Tryz.prog Tryz.f3 false true false false) := by
  refine returnsInHanded_of_change_and (C := Tryz.checked) (X := fun w _ => laidMetH Tryz.prog Rows.fnStoppedRow.laid w) (fun _ _ _ hh h => h.of_heap hh) own started (by kernel_rfl) Tryz.func3
    (ChangeSpec.witness_at (enc := enc) (C := Tryz.checked) (os := os) (X := fun w _ => laidMetH Tryz.prog Rows.fnStoppedRow.laid w) false (EK os) #[.slice none 0 0] 8 rfl (by kernel_rfl) (by kernel_rfl) (by kernel_rfl) (by kernel_rfl) (by kernel_rfl) (laid_met os _)) ?_
  intro W base args ds gs before abA hW _ _ hL _
  have MG : ∀ (j : Nat) t v, Tryz.f3.params[j]? = some t → args[j]? = some v → Value.okWide Tryz.prog W .any base t v := abA
  have hW' := hW
  obtain ⟨p, q, hA0, hV, rfl, hfz, o9⟩ := hW
  have hA : DataW.TrodAll enc Tryz.prog W 0 (fun _ => true) true Tryz.f3.params.toList args.toList ds p := hA0
  rw [Tryz.params3] at hA MG
  obtain ⟨v0, vs0, d0, ds0, p0, q0, kG, rfl, rfl, h0, r0⟩ := trodAll_cons hA
  obtain ⟨rfl, rfl, rfl⟩ := trodAll_nil r0
  obtain rfl : args = #[v0] := by cases args; simp_all
  obtain ⟨rfl, rfl⟩ := trodVars_none hV
  obtain ⟨x0, g0⟩ := YQ (τ := .byte) (E := EE) abw Tryz.underlying22 rfl (MG 0 22 v0 rfl rfl) h0
  refine (P4 (E := EE) (lay_of hL) (wM).2 (x := x0) (by simp [jg]) (vs := [v0]) (ls := [[]]) ⟨g0, trivial⟩ rfl rfl).mono fun e W' ⟨he, oV⟩ => ?_
  subst he
  exact ⟨_, rfl, OH (b := 4) hW' rfl oV laid mapped sized (of_decide_eq_true (by kernel_rfl)) rfl Tryz.underlying4 rfl⟩
theorem j_inPlace : (Rows.fnStoppedRow.inPlace == Tryz.pinned.checked.prog.inPlace 3) = true := by kernel_rfl
theorem j_unfollowed : (Rows.fnStoppedRow.unfollowed == Tryz.pinned.checked.prog.unfollowed 3) = true := by kernel_rfl
theorem j_recurses : (Rows.fnStoppedRow.recurses == Tryz.pinned.checked.prog.recurses 3) = true := by kernel_rfl
theorem j_named : (Rows.fnStoppedRow.named == Tryz.pinned.checked.prog.varsNamed 3) = true := by kernel_rfl
theorem j_lifted0 : (Rows.fnStoppedRow.lifted == Tryz.pinned.checked.prog.liftsFinal) = true := by kernel_rfl
theorem j_heard : Tryz.pinned.checked.prog.stopsHeard = true := by kernel_rfl
theorem closed : joinedFacts Tryz.pinned.checked.prog 3 Tryz.f3 Rows.fnStoppedSpec Rows.fnStoppedRow = true := by
  unfold joinedFacts
  rw [j_inPlace, j_unfollowed, j_recurses, j_named, j_lifted0, j_heard]
  kernel_rfl
theorem over : Rows.fnStoppedRow.holds Tryz.pinned (OpenSpec.ofChange Rows.fnStoppedSpec) :=
  OpenClaim.holds_of_wide 3 Tryz.f3 rfl rfl rfl rfl rfl rfl rfl ⟨rfl, rfl, rfl, rfl, rfl⟩ rfl rfl rfl rfl rfl (by kernel_rfl) Tryz.func3 closed
    (of_decide_eq_true (by kernel_rfl)) (by unfold Func.isWrapper; first | (rw [if_pos (by decide +kernel)]; kernel_rfl) | (rw [if_neg (by decide +kernel)]; exact ⟨rfl, rfl⟩))
    (fun os started H enc _ => lifted os started H enc)
theorem proved : Rows.FnStoppedCardSaid :=
  Claim7.holds_tied_plain_at .later [] [.data, .data, .data] true (true, "107e13d91f577115fdd7720ba8d0197ef419e4b94d9ebc4a143c4e389dac05f1") false
    over (fun _ h => by cases h) (by kernel_rfl) (fun _ h => by cases h) fnStopped_row_tie rfl ⟨rfl, rfl⟩ (by kernel_rfl) rfl
    (fun f fn hf Yi => by
      obtain rfl : f = 3 := Option.some.inj ((show Tryz.prog.funcNamed "loop.example/g00282/laws.FnStopped" = some 3 by kernel_rfl).symm.trans hf) |>.symm
      obtain rfl : fn = Tryz.f3 := (Option.some.inj (Tryz.func3.symm.trans Yi)).symm
      exact ⟨by kernel_rfl, fun j t ht => by
        rw [Tryz.params3] at ht
        have h3 : t ∈ [22] := by
          have := Array.mem_of_getElem? ht
          simpa using this
        have ha : ([22] : List Nat).all (fun t => !Tryz.prog.wantsStandIn t) = true := by kernel_rfl
        have h4 := List.all_eq_true.1 ha _ h3
        have h5 : Tryz.prog.wantsStandIn t = false := by simpa using h4
        exact h5⟩)
    (by kernel_rfl)
end Go.Proofs.YtknfcngfhlpaeaaGreatDoor.fnStopped
