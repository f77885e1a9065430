/- Functions of the program with their contracts: written by gen/fn.py out of p2.fn. -/
import Derived.Test.YtdpgbnahacdkeaaAmLib
import Derived.Test.YtdpgbnahacdkeaaFp1
import Derived.Test.YtdpgbnahacdkeaaFu1
namespace AM
open Go
set_option linter.unusedVariables false
set_option linter.unusedSimpArgs false
set_option maxRecDepth 100000
noncomputable section
def allI (n : Nat) (p : Nat → Bool) : Bool := (List.range n).all p
theorem allI_true {n : Nat} {p : Nat → Bool} (h : ∀ j, j < n → p j = true) : allI n p = true := by simpa [allI] using h
theorem allI_false {n : Nat} {p : Nat → Bool} {j : Nat} (h : j < n) (hj : p j = false) : allI n p = false := by
  simp only [allI, List.all_eq_false, List.mem_range]
  exact ⟨j, h, by simp [hj]⟩
theorem upto_step {i : Int} {p : Nat → Bool} (h0 : 0 ≤ i) (h : ∀ j : Nat, (j : Int) < i → p j = true) (hi : p i.toNat = true) : ∀ j : Nat, (j : Int) < i + 1 → p j = true := by
  intro j hj
  by_cases hji : (j : Int) < i
  · exact h j hji
  · have : j = i.toNat := by omega
    subst this; exact hi
def timerOk (x : DTimer) : Bool := decide (0 ≤ x.At ∧ x.At ≤ 1000000000) && factOk x.F
def timerAt (l : List DTimer) (i : Nat) : Bool := timerOk (List.getD l i zTimer) && (decide (i = 0) || decide ((List.getD l (i - 1) zTimer).At ≤ (List.getD l i zTimer).At))
def timersOk (l : List DTimer) : Bool := decide (l.length ≤ 30) && allI l.length (timerAt l)
def con_impl_isTime : Con UU where
  α := Int
  md := [.ro]
  of := fun | [.one (.lit (.int .i64 a0))] => some a0 | _ => none
  ds := fun n => [.one (.lit (.int .i64 n))]
  pre := fun n => []
  res := fun n => ⟨[.one (.lit (.bool (decide (0 ≤ n ∧ n ≤ 1000000000))))], true, []⟩
  law := by intro l x h; (try simp only at h); split at h <;> cases h; rfl
def ann_impl_isTime : con_impl_isTime.α → Nat → Option (Ann UU) := fun n => annL []
def use_impl_isTime : List (FuncId × Con UU) := [(146, con_impl_inRange)]
theorem vc_impl_isTime (n : Int) : goal EE use_impl_isTime Go.Proofs.Try.f119 con_impl_isTime ann_impl_isTime n = (Lf [DV.one (Cell.lit (Value.bool (decide ((0 : Int) ≤ n ∧ n ≤ (1000000000 : Int)))))] [DV.one (Cell.lit (Value.bool (decide ((0 : Int) ≤ n ∧ n ≤ (1000000000 : Int)))))]) := by kernel_rfl
theorem ok_impl_isTime : Holds EE (119, con_impl_isTime) := by
  refine holds_of EE_ok Go.Proofs.Try.func119 con_impl_isTime (by kernel_rfl) rfl use_impl_isTime (all_cons ok_impl_inRange all_nil) ann_impl_isTime (fun (n : Int) hp hb => ?_)
  have hb_n : BdDV (U := UU) (.one (.lit (.int .i64 n))) := hb _ (List.mem_cons_self)
  have hl_n := Bd.i64 hb_n
  clear hp hb
  rw [vc_impl_isTime n]
  exact Lf_rfl _
def con_impl_timerOk : Con UU where
  α := DTimer
  md := [.ro]
  of := fun | [.agg [.lit (.int .i64 a0), .lit (.string a1), .sl .eVal a2]] => some ⟨a0, ⟨a1, a2⟩⟩ | _ => none
  ds := fun x => [.agg [.lit (.int .i64 x.At), .lit (.string x.F.Kind), .sl .eVal x.F.Fields]]
  pre := fun x => []
  res := fun x => ⟨[.one (.lit (.bool (timerOk x)))], true, []⟩
  law := by intro l x h; (try simp only at h); split at h <;> cases h; rfl
def ann_impl_timerOk : con_impl_timerOk.α → Nat → Option (Ann UU) := fun x => annL []
def use_impl_timerOk : List (FuncId × Con UU) := [(119, con_impl_isTime), (73, con_impl_FactOk)]
theorem vc_impl_timerOk (x : DTimer) : goal EE use_impl_timerOk Go.Proofs.Try.f111 con_impl_timerOk ann_impl_timerOk x = (bif decide ((0 : Int) ≤ DTimer.At x ∧ DTimer.At x ≤ (1000000000 : Int)) then Lf [DV.one (Cell.lit (Value.bool (factOk (DTimer.F x))))] [DV.one (Cell.lit (Value.bool (timerOk x)))] else Lf [DV.one (Cell.lit (Value.bool false))] [DV.one (Cell.lit (Value.bool (timerOk x)))]) := by kernel_rfl
theorem ok_impl_timerOk : Holds EE (111, con_impl_timerOk) := by
  refine holds_of EE_ok Go.Proofs.Try.func111 con_impl_timerOk (by kernel_rfl) rfl use_impl_timerOk (all_cons ok_impl_isTime (all_cons ok_impl_FactOk all_nil)) ann_impl_timerOk (fun (x : DTimer) hp hb => ?_)
  have hb_x : BdDV (U := UU) (.agg [.lit (.int .i64 x.At), .lit (.string x.F.Kind), .sl .eVal x.F.Fields]) := hb _ (List.mem_cons_self)
  have hl_x_F_Kind : x.F.Kind.size ≤ 9223372036854775807 := Bd.str (hb_x _ (by simp))
  have hl_x_F_Fields : x.F.Fields.length ≤ 9223372036854775807 := Bd.len (U := UU) (τ := .eVal) (xs := x.F.Fields) (hb_x _ (by simp))
  clear hp hb
  rw [vc_impl_timerOk x]
  simp only [timerOk]
  refine if_cond (fun h => Lf_b ?_) (fun h => Lf_b ?_) <;> grind
def con_spec_l17Timer : Con UU where
  α := DTimer
  md := [.ro]
  of := fun | [.agg [.lit (.int .i64 a0), .lit (.string a1), .sl .eVal a2]] => some ⟨a0, ⟨a1, a2⟩⟩ | _ => none
  ds := fun x => [.agg [.lit (.int .i64 x.At), .lit (.string x.F.Kind), .sl .eVal x.F.Fields]]
  pre := fun x => []
  res := fun x => ⟨[.one (.lit (.bool (timerOk x)))], true, []⟩
  law := by intro l x h; (try simp only at h); split at h <;> cases h; rfl
def ann_spec_l17Timer : con_spec_l17Timer.α → Nat → Option (Ann UU) := fun x => annL []
def use_spec_l17Timer : List (FuncId × Con UU) := [(69, con_spec_l1In), (70, con_spec_FactOk)]
theorem vc_spec_l17Timer (x : DTimer) : goal EE use_spec_l17Timer Go.Proofs.Try.f107 con_spec_l17Timer ann_spec_l17Timer x = (bif decide ((0 : Int) ≤ DTimer.At x ∧ DTimer.At x ≤ (1000000000 : Int)) then Lf [DV.one (Cell.lit (Value.bool (factOk (DTimer.F x))))] [DV.one (Cell.lit (Value.bool (timerOk x)))] else Lf [DV.one (Cell.lit (Value.bool false))] [DV.one (Cell.lit (Value.bool (timerOk x)))]) := by kernel_rfl
theorem ok_spec_l17Timer : Holds EE (107, con_spec_l17Timer) := by
  refine holds_of EE_ok Go.Proofs.Try.func107 con_spec_l17Timer (by kernel_rfl) rfl use_spec_l17Timer (all_cons ok_spec_l1In (all_cons ok_spec_FactOk all_nil)) ann_spec_l17Timer (fun (x : DTimer) hp hb => ?_)
  have hb_x : BdDV (U := UU) (.agg [.lit (.int .i64 x.At), .lit (.string x.F.Kind), .sl .eVal x.F.Fields]) := hb _ (List.mem_cons_self)
  have hl_x_F_Kind : x.F.Kind.size ≤ 9223372036854775807 := Bd.str (hb_x _ (by simp))
  have hl_x_F_Fields : x.F.Fields.length ≤ 9223372036854775807 := Bd.len (U := UU) (τ := .eVal) (xs := x.F.Fields) (hb_x _ (by simp))
  clear hp hb
  rw [vc_spec_l17Timer x]
  simp only [timerOk]
  refine if_cond (fun h => Lf_b ?_) (fun h => Lf_b ?_) <;> grind
def con_impl_TimersOk : Con UU where
  α := (List DTimer)
  md := [.ro]
  of := fun | [.one (.sl .eTimer a0)] => some a0 | _ => none
  ds := fun l => [.one (.sl .eTimer l)]
  pre := fun l => []
  res := fun l => ⟨[.one (.lit (.bool (timersOk l)))], true, []⟩
  law := by intro l x h; (try simp only at h); split at h <;> cases h; rfl
def I_impl_TimersOk_4 (l : (List DTimer)) : Int × Unit → Prop := fun (i, _) => 0 ≤ i ∧ i ≤ l.length ∧ l.length ≤ 30 ∧ ∀ j : Nat, (j : Int) < i → timerAt l j = true
def μ_impl_TimersOk_4 (l : (List DTimer)) : Int × Unit → Nat := fun (i, _) => l.length - i.toNat
def ann_impl_TimersOk : con_impl_TimersOk.α → Nat → Option (Ann UU) := fun l => annL [(4, annOf [.slot 10 (10, 1024) (.lit (.int .i64))] (fun _ => I_impl_TimersOk_4 l) (μ_impl_TimersOk_4 l))]
def use_impl_TimersOk : List (FuncId × Con UU) := [(111, con_impl_timerOk)]
theorem vc_impl_TimersOk (l : (List DTimer)) : goal EE use_impl_TimersOk Go.Proofs.Try.f110 con_impl_TimersOk ann_impl_TimersOk l = (bif decide ((↑(List.length l) : Int) > (30 : Int)) then Lf [DV.one (Cell.lit (Value.bool false))] [DV.one (Cell.lit (Value.bool (timersOk l)))] else I_impl_TimersOk_4 l ((0 : Int), PUnit.unit) ∧ ∀ (y : Int × PUnit), I_impl_TimersOk_4 l y → bif decide (y.1 < (↑(List.length l) : Int)) then (0 : Int) ≤ y.1 ∧ Int.toNat y.1 < List.length l ∧ bif !timerOk (List.getD l (Int.toNat y.1) zTimer) then Lf [DV.one (Cell.lit (Value.bool false))] [DV.one (Cell.lit (Value.bool (timersOk l)))] else bif decide (y.1 > (0 : Int)) then (0 : Int) ≤ IntKind.wrap IntKind.i64 (y.1 - (1 : Int)) ∧ Int.toNat (IntKind.wrap IntKind.i64 (y.1 - (1 : Int))) < List.length l ∧ bif decide (DTimer.At (List.getD l (Int.toNat (IntKind.wrap IntKind.i64 (y.1 - (1 : Int)))) zTimer) > DTimer.At (List.getD l (Int.toNat y.1) zTimer)) then Lf [DV.one (Cell.lit (Value.bool false))] [DV.one (Cell.lit (Value.bool (timersOk l)))] else I_impl_TimersOk_4 l (IntKind.wrap IntKind.i64 (y.1 + (1 : Int)), PUnit.unit) ∧ μ_impl_TimersOk_4 l (IntKind.wrap IntKind.i64 (y.1 + (1 : Int)), PUnit.unit) < μ_impl_TimersOk_4 l y else I_impl_TimersOk_4 l (IntKind.wrap IntKind.i64 (y.1 + (1 : Int)), PUnit.unit) ∧ μ_impl_TimersOk_4 l (IntKind.wrap IntKind.i64 (y.1 + (1 : Int)), PUnit.unit) < μ_impl_TimersOk_4 l y else Lf [DV.one (Cell.lit (Value.bool true))] [DV.one (Cell.lit (Value.bool (timersOk l)))]) := by kernel_rfl
theorem ok_impl_TimersOk : Holds EE (110, con_impl_TimersOk) := by
  refine holds_of EE_ok Go.Proofs.Try.func110 con_impl_TimersOk (by kernel_rfl) rfl use_impl_TimersOk (all_cons ok_impl_timerOk all_nil) ann_impl_TimersOk (fun (l : (List DTimer)) hp hb => ?_)
  have hb_l : BdDV (U := UU) (.one (.sl .eTimer l)) := hb _ (List.mem_cons_self)
  have hl_l : l.length ≤ 9223372036854775807 := Bd.len hb_l
  clear hp hb
  rw [vc_impl_TimersOk l]
  refine if_cond (fun h => Lf_ff ?_) (fun h => ⟨⟨by omega, by omega, by have h := of_decide_eq_false h; omega, by intro j hj; omega⟩, ?_⟩)
  · have h := of_decide_eq_true h; simp only [timersOk]; rw [decide_eq_false (by omega)]; rfl
  rintro ⟨i, ⟨⟩⟩ ⟨h1, h2, h3, hR⟩
  simp only
  refine if_cond (fun hc => ?_) (fun hc => ?_)
  · have hc := of_decide_eq_true hc
    have hN : timerAt l i.toNat = false → timersOk l = false := fun h => by
      have hf : allI l.length (timerAt l) = false := allI_false (j := i.toNat) (by omega) h
      simp only [timersOk, hf]; simp
    simp (disch := omega) only [wrap_i64]
    have e1 : (i - 1).toNat = i.toNat - 1 := by omega
    simp only [e1]
    refine ⟨by omega, by omega, if_cond (fun h => Lf_ff (hN ?_)) (fun h => if_cond (fun h' => ⟨by have := of_decide_eq_true h'; omega, by have := of_decide_eq_true h'; omega, if_cond (fun h'' => Lf_ff (hN ?_)) (fun h'' => ⟨⟨by omega, by omega, h3, upto_step h1 hR ?_⟩, ?_⟩)⟩) (fun h' => ⟨⟨by omega, by omega, h3, upto_step h1 hR ?_⟩, ?_⟩))⟩
    all_goals (first | (simp only [μ_impl_TimersOk_4]; omega) | (simp only [timerAt]; grind))
  · have hc := of_decide_eq_false hc
    have hA : allI l.length (timerAt l) = true := allI_true fun j hj => hR j (by omega)
    refine Lf_b ?_
    simp only [timersOk, hA]; grind
def con_spec_TimersOk : Con UU where
  α := (List DTimer)
  md := [.ro]
  of := fun | [.one (.sl .eTimer a0)] => some a0 | _ => none
  ds := fun l => [.one (.sl .eTimer l)]
  pre := fun l => []
  res := fun l => ⟨[.one (.lit (.bool (timersOk l)))], true, []⟩
  law := by intro l x h; (try simp only at h); split at h <;> cases h; rfl
def I_spec_TimersOk_2 (l : (List DTimer)) : Int × Unit → Prop := fun (i, _) => 0 ≤ i ∧ i ≤ l.length ∧ ∀ j : Nat, (j : Int) < i → timerAt l j = true
def μ_spec_TimersOk_2 (l : (List DTimer)) : Int × Unit → Nat := fun (i, _) => l.length - i.toNat
def ann_spec_TimersOk : con_spec_TimersOk.α → Nat → Option (Ann UU) := fun l => annL [(2, annOf [.slot 3 (3, 1024) (.lit (.int .i64))] (fun _ => I_spec_TimersOk_2 l) (μ_spec_TimersOk_2 l))]
def use_spec_TimersOk : List (FuncId × Con UU) := [(107, con_spec_l17Timer)]
theorem vc_spec_TimersOk (l : (List DTimer)) : goal EE use_spec_TimersOk Go.Proofs.Try.f106 con_spec_TimersOk ann_spec_TimersOk l = (I_spec_TimersOk_2 l ((0 : Int), PUnit.unit) ∧ ∀ (y : Int × PUnit), I_spec_TimersOk_2 l y → bif decide (y.1 < (↑(List.length l) : Int)) then (0 : Int) ≤ y.1 ∧ Int.toNat y.1 < List.length l ∧ bif !timerOk (List.getD l (Int.toNat y.1) zTimer) then Lf [DV.one (Cell.lit (Value.bool false))] [DV.one (Cell.lit (Value.bool (timersOk l)))] else bif decide (y.1 > (0 : Int)) then (0 : Int) ≤ IntKind.wrap IntKind.i64 (y.1 - (1 : Int)) ∧ Int.toNat (IntKind.wrap IntKind.i64 (y.1 - (1 : Int))) < List.length l ∧ (0 : Int) ≤ y.1 ∧ Int.toNat y.1 < List.length l ∧ bif decide (DTimer.At (List.getD l (Int.toNat (IntKind.wrap IntKind.i64 (y.1 - (1 : Int)))) zTimer) > DTimer.At (List.getD l (Int.toNat y.1) zTimer)) then Lf [DV.one (Cell.lit (Value.bool false))] [DV.one (Cell.lit (Value.bool (timersOk l)))] else I_spec_TimersOk_2 l (IntKind.wrap IntKind.i64 (y.1 + (1 : Int)), PUnit.unit) ∧ μ_spec_TimersOk_2 l (IntKind.wrap IntKind.i64 (y.1 + (1 : Int)), PUnit.unit) < μ_spec_TimersOk_2 l y else I_spec_TimersOk_2 l (IntKind.wrap IntKind.i64 (y.1 + (1 : Int)), PUnit.unit) ∧ μ_spec_TimersOk_2 l (IntKind.wrap IntKind.i64 (y.1 + (1 : Int)), PUnit.unit) < μ_spec_TimersOk_2 l y else Lf [DV.one (Cell.lit (Value.bool (decide ((↑(List.length l) : Int) ≤ (30 : Int)))))] [DV.one (Cell.lit (Value.bool (timersOk l)))]) := by kernel_rfl
theorem ok_spec_TimersOk : Holds EE (106, con_spec_TimersOk) := by
  refine holds_of EE_ok Go.Proofs.Try.func106 con_spec_TimersOk (by kernel_rfl) rfl use_spec_TimersOk (all_cons ok_spec_l17Timer all_nil) ann_spec_TimersOk (fun (l : (List DTimer)) hp hb => ?_)
  have hb_l : BdDV (U := UU) (.one (.sl .eTimer l)) := hb _ (List.mem_cons_self)
  have hl_l : l.length ≤ 9223372036854775807 := Bd.len hb_l
  clear hp hb
  rw [vc_spec_TimersOk l]
  refine ⟨⟨by omega, by omega, by intro j hj; omega⟩, ?_⟩
  rintro ⟨i, ⟨⟩⟩ ⟨h1, h2, hR⟩
  simp only
  refine if_cond (fun hc => ?_) (fun hc => ?_)
  · have hc := of_decide_eq_true hc
    have hN : timerAt l i.toNat = false → timersOk l = false := fun h => by
      have hf : allI l.length (timerAt l) = false := allI_false (j := i.toNat) (by omega) h
      simp only [timersOk, hf]; simp
    simp (disch := omega) only [wrap_i64]
    have e1 : (i - 1).toNat = i.toNat - 1 := by omega
    simp only [e1]
    refine ⟨by omega, by omega, if_cond (fun h => Lf_ff (hN ?_)) (fun h => if_cond (fun h' => ⟨by have := of_decide_eq_true h'; omega, by have := of_decide_eq_true h'; omega, by omega, by omega, if_cond (fun h'' => Lf_ff (hN ?_)) (fun h'' => ⟨⟨by omega, by omega, upto_step h1 hR ?_⟩, ?_⟩)⟩) (fun h' => ⟨⟨by omega, by omega, upto_step h1 hR ?_⟩, ?_⟩))⟩
    all_goals (first | (simp only [μ_spec_TimersOk_2]; omega) | (simp only [timerAt]; grind))
  · have hc := of_decide_eq_false hc
    have hA : allI l.length (timerAt l) = true := allI_true fun j hj => hR j (by omega)
    refine Lf_b ?_
    simp only [timersOk, hA]; grind
end
end AM
