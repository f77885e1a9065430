/- Functions of the program with their contracts: written by gen/fn.py out of p3.fn. -/
import Derived.Test.YtdpgbnahacdkeaaAmLib
import Derived.Test.YtdpgbnahacdkeaaFp2
import Derived.Test.YtdpgbnahacdkeaaFu1
namespace AM
open Go
set_option linter.unusedVariables false
set_option linter.unusedSimpArgs false
set_option maxRecDepth 100000
noncomputable section
def undoLast (l : List DUndo) : DFact := if l = [] then zFact else (List.getD l (l.length - 1) zUndo).F
theorem undoLast_ct (l : List DUndo) : ctFact (undoLast l) ≤ 20 * sizeUndoS l := by
  unfold undoLast
  split
  · exact Nat.zero_le _
  · rename_i hl
    have h0 : 0 < l.length := List.length_pos_iff.2 hl
    have h1 : (l.length - 1 : Int).toNat = l.length - 1 := by omega
    have hs := sum_getD_le sizeUndo l zUndo (i := l.length - 1) (by omega) (by omega)
    rw [h1] at hs
    have := ctFact_le (List.getD l (l.length - 1) zUndo).F
    simp only [sizeUndo] at hs
    simp only [sizeUndoS, sizeUndo]
    omega
theorem sum_take_le {α : Type} (f : α → Nat) (l : List α) (n : Nat) : ((l.take n).map f).sum ≤ (l.map f).sum := by
  have h := congrArg (fun q => (q.map f).sum) (List.take_append_drop n l)
  simp only [List.map_append, List.sum_append] at h
  omega
theorem sizeUndoS_take (l : List DUndo) (n : Nat) : sizeUndoS (l.take n) ≤ sizeUndoS l := by
  have := sum_take_le sizeUndo l n
  simp only [sizeUndoS, List.length_take]
  omega
def con_slices_CloneVal : Con UU where
  α := (List DVal)
  md := [.ro]
  of := fun | [.one (.sl .eVal a0)] => some a0 | _ => none
  ds := fun l => [.one (.sl .eVal l)]
  pre := fun l => [l.length ≤ 4294967296]
  res := fun l => ⟨[.one (.sl .eVal l)], true, []⟩
  law := by intro l x h; (try simp only at h); split at h <;> cases h; rfl
def ann_slices_CloneVal : con_slices_CloneVal.α → Nat → Option (Ann UU) := fun l => annL []
def use_slices_CloneVal : List (FuncId × Con UU) := []
theorem vc_slices_CloneVal (l : (List DVal)) : goalN EE use_slices_CloneVal Go.Proofs.Try.f160 con_slices_CloneVal ann_slices_CloneVal l .eVal l false = ((0 : Nat) + List.length l ≤ (4294967296 : Nat) ∧ Lf [DV.one (Cell.sl Cd.eVal ([] ++ l))] [DV.one (Cell.sl Cd.eVal l)]) := by kernel_rfl
theorem vc2_slices_CloneVal : goalN EE use_slices_CloneVal Go.Proofs.Try.f160 con_slices_CloneVal ann_slices_CloneVal [] .eVal [] true = (Lf [DV.one (Cell.sl Cd.eVal [])] [DV.one (Cell.sl Cd.eVal [])]) := by kernel_rfl
theorem vd2_slices_CloneVal : goalN EE use_slices_CloneVal Go.Proofs.Try.f160 con_slices_CloneVal ann_slices_CloneVal [] .eVal [] true := by
  rw [vc2_slices_CloneVal]
  exact Lf_rfl _
theorem ok_slices_CloneVal : Holds EE (160, con_slices_CloneVal) := by
  refine holds_ofN EE_ok Go.Proofs.Try.func160 con_slices_CloneVal (by kernel_rfl) rfl .eVal (fun x => x) (fun _ => rfl) use_slices_CloneVal all_nil ann_slices_CloneVal (fun (l : (List DVal)) hp hb => ?_)
  have hb_l : BdDV (U := UU) (.one (.sl .eVal l)) := hb _ (List.mem_cons_self)
  have hl_l : l.length ≤ 9223372036854775807 := Bd.len hb_l
  have hp0 : l.length ≤ 4294967296 := hp _ (List.mem_cons_self)
  clear hp hb
  refine ⟨?_, fun h0 => ?_⟩
  rotate_left
  · subst h0; exact vd2_slices_CloneVal
  rw [vc_slices_CloneVal l]
  exact ⟨by simp; omega, Lf_rfl _⟩
def con_spec_l3Copy : Con UU where
  α := DFact
  md := [.ro]
  of := fun | [.agg [.lit (.string a0), .sl .eVal a1]] => some ⟨a0, a1⟩ | _ => none
  ds := fun f => [.agg [.lit (.string f.Kind), .sl .eVal f.Fields]]
  pre := fun f => [f.Fields.length ≤ 4294967296]
  res := fun f => ⟨[.agg [.lit (.string f.Kind), .sl .eVal f.Fields]], true, []⟩
  law := by intro l x h; (try simp only at h); split at h <;> cases h; rfl
def ann_spec_l3Copy : con_spec_l3Copy.α → Nat → Option (Ann UU) := fun f => annL []
def use_spec_l3Copy : List (FuncId × Con UU) := []
theorem vc_spec_l3Copy (f : DFact) : goal EE use_spec_l3Copy Go.Proofs.Try.f108 con_spec_l3Copy ann_spec_l3Copy f = ((0 : Nat) + List.length (DFact.Fields f) ≤ (4294967296 : Nat) ∧ Lf [DV.agg [Cell.lit (Value.string (DFact.Kind f)), Cell.sl Cd.eVal ([] ++ DFact.Fields f)]] [DV.agg [Cell.lit (Value.string (DFact.Kind f)), Cell.sl Cd.eVal (DFact.Fields f)]]) := by kernel_rfl
theorem ok_spec_l3Copy : Holds EE (108, con_spec_l3Copy) := by
  refine holds_of EE_ok Go.Proofs.Try.func108 con_spec_l3Copy (by kernel_rfl) rfl use_spec_l3Copy all_nil ann_spec_l3Copy (fun (f : DFact) hp hb => ?_)
  have hb_f : BdDV (U := UU) (.agg [.lit (.string f.Kind), .sl .eVal f.Fields]) := hb _ (List.mem_cons_self)
  have hl_f_Kind : f.Kind.size ≤ 9223372036854775807 := Bd.str (hb_f _ (by simp))
  have hl_f_Fields : f.Fields.length ≤ 9223372036854775807 := Bd.len (U := UU) (τ := .eVal) (xs := f.Fields) (hb_f _ (by simp))
  have hp0 : f.Fields.length ≤ 4294967296 := hp _ (List.mem_cons_self)
  clear hp hb
  rw [vc_spec_l3Copy f]
  exact ⟨by simp; omega, Lf_rfl _⟩
def con_impl_copyFact : Con UU where
  α := DFact
  md := [.ro]
  of := fun | [.agg [.lit (.string a0), .sl .eVal a1]] => some ⟨a0, a1⟩ | _ => none
  ds := fun f => [.agg [.lit (.string f.Kind), .sl .eVal f.Fields]]
  pre := fun f => [f.Fields.length ≤ 4294967296]
  res := fun f => ⟨[.agg [.lit (.string f.Kind), .sl .eVal f.Fields]], true, []⟩
  law := by intro l x h; (try simp only at h); split at h <;> cases h; rfl
def ann_impl_copyFact : con_impl_copyFact.α → Nat → Option (Ann UU) := fun f => annL []
def use_impl_copyFact : List (FuncId × Con UU) := [(160, con_slices_CloneVal)]
theorem vc_impl_copyFact (f : DFact) : goal EE use_impl_copyFact Go.Proofs.Try.f113 con_impl_copyFact ann_impl_copyFact f = (List.length (DFact.Fields f) ≤ (4294967296 : Nat) ∧ Lf [DV.agg [Cell.lit (Value.string (DFact.Kind f)), Cell.sl Cd.eVal (DFact.Fields f)]] [DV.agg [Cell.lit (Value.string (DFact.Kind f)), Cell.sl Cd.eVal (DFact.Fields f)]]) := by kernel_rfl
theorem ok_impl_copyFact : Holds EE (113, con_impl_copyFact) := by
  refine holds_of EE_ok Go.Proofs.Try.func113 con_impl_copyFact (by kernel_rfl) rfl use_impl_copyFact (all_cons ok_slices_CloneVal all_nil) ann_impl_copyFact (fun (f : DFact) hp hb => ?_)
  have hb_f : BdDV (U := UU) (.agg [.lit (.string f.Kind), .sl .eVal f.Fields]) := hb _ (List.mem_cons_self)
  have hl_f_Kind : f.Kind.size ≤ 9223372036854775807 := Bd.str (hb_f _ (by simp))
  have hl_f_Fields : f.Fields.length ≤ 9223372036854775807 := Bd.len (U := UU) (τ := .eVal) (xs := f.Fields) (hb_f _ (by simp))
  have hp0 : f.Fields.length ≤ 4294967296 := hp _ (List.mem_cons_self)
  clear hp hb
  rw [vc_impl_copyFact f]
  exact ⟨hp0, Lf_rfl _⟩
def con_spec_l17Copy : Con UU where
  α := (List DTimer)
  md := [.ro]
  of := fun | [.one (.sl .eTimer a0)] => some a0 | _ => none
  ds := fun l => [.one (.sl .eTimer l)]
  pre := fun l => [sizeTimerS l ≤ 4294967296]
  res := fun l => ⟨[.one (.sl .eTimer l)], true, []⟩
  law := by intro l x h; (try simp only at h); split at h <;> cases h; rfl
def I_spec_l17Copy_3 (l : (List DTimer)) : List DTimer × Int × Unit → Prop := fun (out, i, _) => 0 ≤ i ∧ i ≤ l.length ∧ out = l.take i.toNat
def μ_spec_l17Copy_3 (l : (List DTimer)) : List DTimer × Int × Unit → Nat := fun (out, i, _) => l.length - i.toNat
def ann_spec_l17Copy : con_spec_l17Copy.α → Nat → Option (Ann UU) := fun l => annL [(3, annOf [.slot 3 (3, 1024) (.own .eTimer true), .slot 4 (4, 1024) (.lit (.int .i64))] (fun _ => I_spec_l17Copy_3 l) (μ_spec_l17Copy_3 l))]
def use_spec_l17Copy : List (FuncId × Con UU) := [(108, con_spec_l3Copy)]
theorem vc_spec_l17Copy (l : (List DTimer)) : goal EE use_spec_l17Copy Go.Proofs.Try.f105 con_spec_l17Copy ann_spec_l17Copy l = (I_spec_l17Copy_3 l ([], (0 : Int), PUnit.unit) ∧ ∀ (y : List DTimer × Int × PUnit), I_spec_l17Copy_3 l y → bif decide (y.2.1 < (↑(List.length l) : Int)) then (0 : Int) ≤ y.2.1 ∧ Int.toNat y.2.1 < List.length l ∧ (0 : Int) ≤ y.2.1 ∧ Int.toNat y.2.1 < List.length l ∧ List.length (DFact.Fields (DTimer.F (List.getD l (Int.toNat y.2.1) zTimer))) ≤ (4294967296 : Nat) ∧ List.length y.1 + List.length [List.getD l (Int.toNat y.2.1) zTimer] ≤ (4294967296 : Nat) ∧ I_spec_l17Copy_3 l (y.1 ++ [List.getD l (Int.toNat y.2.1) zTimer], IntKind.wrap IntKind.i64 (y.2.1 + (1 : Int)), PUnit.unit) ∧ μ_spec_l17Copy_3 l (y.1 ++ [List.getD l (Int.toNat y.2.1) zTimer], IntKind.wrap IntKind.i64 (y.2.1 + (1 : Int)), PUnit.unit) < μ_spec_l17Copy_3 l y else Lf [DV.one (Cell.sl Cd.eTimer y.1)] [DV.one (Cell.sl Cd.eTimer l)]) := by kernel_rfl
theorem ok_spec_l17Copy : Holds EE (105, con_spec_l17Copy) := by
  refine holds_of EE_ok Go.Proofs.Try.func105 con_spec_l17Copy (by kernel_rfl) rfl use_spec_l17Copy (all_cons ok_spec_l3Copy all_nil) ann_spec_l17Copy (fun (l : (List DTimer)) hp hb => ?_)
  have hb_l : BdDV (U := UU) (.one (.sl .eTimer l)) := hb _ (List.mem_cons_self)
  have hl_l : l.length ≤ 9223372036854775807 := Bd.len hb_l
  have hp0 : sizeTimerS l ≤ 4294967296 := hp _ (List.mem_cons_self)
  clear hp hb
  rw [vc_spec_l17Copy l]
  refine ⟨⟨by omega, by omega, by simp⟩, ?_⟩
  rintro ⟨out, i, ⟨⟩⟩ ⟨h1, h2, rfl⟩
  simp only
  refine if_cond (fun hc => ?_) (fun hc => ?_)
  · have hc := of_decide_eq_true hc
    have hs := sum_getD_le sizeTimer l zTimer h1 hc
    simp only [sizeTimerS] at hp0
    have hx := hs
    simp only [sizeTimer, sizeFact, sizeValS] at hx
    rw [take_step l zTimer h1 hc, wrap_i64 (by omega) (by omega)]
    repeat' (first | refine And.intro (by omega) ?_ | fail)
    refine ⟨by simp; omega, ⟨by omega, by omega, rfl⟩, by simp only [μ_spec_l17Copy_3]; omega⟩
  · have hc := of_decide_eq_false hc
    rw [take_all l (by omega)]
    exact Lf_rfl _
def con_impl_copyTimers : Con UU where
  α := (List DTimer)
  md := [.ro]
  of := fun | [.one (.sl .eTimer a0)] => some a0 | _ => none
  ds := fun l => [.one (.sl .eTimer l)]
  pre := fun l => [sizeTimerS l ≤ 4294967296]
  res := fun l => ⟨[.one (.sl .eTimer l)], true, []⟩
  law := by intro l x h; (try simp only at h); split at h <;> cases h; rfl
def I_impl_copyTimers_3 (l : (List DTimer)) : List DTimer × Int × Unit → Prop := fun (out, i, _) => 0 ≤ i ∧ i ≤ l.length ∧ out = l.take i.toNat
def μ_impl_copyTimers_3 (l : (List DTimer)) : List DTimer × Int × Unit → Nat := fun (out, i, _) => l.length - i.toNat
def ann_impl_copyTimers : con_impl_copyTimers.α → Nat → Option (Ann UU) := fun l => annL [(3, annOf [.slot 3 (3, 1024) (.own .eTimer true), .slot 8 (8, 1024) (.lit (.int .i64))] (fun _ => I_impl_copyTimers_3 l) (μ_impl_copyTimers_3 l))]
def use_impl_copyTimers : List (FuncId × Con UU) := [(113, con_impl_copyFact)]
theorem vc_impl_copyTimers (l : (List DTimer)) : goal EE use_impl_copyTimers Go.Proofs.Try.f109 con_impl_copyTimers ann_impl_copyTimers l = (I_impl_copyTimers_3 l ([], (0 : Int), PUnit.unit) ∧ ∀ (y : List DTimer × Int × PUnit), I_impl_copyTimers_3 l y → bif decide (y.2.1 < (↑(List.length l) : Int)) then (0 : Int) ≤ y.2.1 ∧ Int.toNat y.2.1 < List.length l ∧ List.length (DFact.Fields (DTimer.F (List.getD l (Int.toNat y.2.1) zTimer))) ≤ (4294967296 : Nat) ∧ List.length y.1 + List.length [List.getD l (Int.toNat y.2.1) zTimer] ≤ (4294967296 : Nat) ∧ I_impl_copyTimers_3 l (y.1 ++ [List.getD l (Int.toNat y.2.1) zTimer], IntKind.wrap IntKind.i64 (y.2.1 + (1 : Int)), PUnit.unit) ∧ μ_impl_copyTimers_3 l (y.1 ++ [List.getD l (Int.toNat y.2.1) zTimer], IntKind.wrap IntKind.i64 (y.2.1 + (1 : Int)), PUnit.unit) < μ_impl_copyTimers_3 l y else Lf [DV.one (Cell.sl Cd.eTimer y.1)] [DV.one (Cell.sl Cd.eTimer l)]) := by kernel_rfl
theorem ok_impl_copyTimers : Holds EE (109, con_impl_copyTimers) := by
  refine holds_of EE_ok Go.Proofs.Try.func109 con_impl_copyTimers (by kernel_rfl) rfl use_impl_copyTimers (all_cons ok_impl_copyFact all_nil) ann_impl_copyTimers (fun (l : (List DTimer)) hp hb => ?_)
  have hb_l : BdDV (U := UU) (.one (.sl .eTimer l)) := hb _ (List.mem_cons_self)
  have hl_l : l.length ≤ 9223372036854775807 := Bd.len hb_l
  have hp0 : sizeTimerS l ≤ 4294967296 := hp _ (List.mem_cons_self)
  clear hp hb
  rw [vc_impl_copyTimers l]
  refine ⟨⟨by omega, by omega, by simp⟩, ?_⟩
  rintro ⟨out, i, ⟨⟩⟩ ⟨h1, h2, rfl⟩
  simp only
  refine if_cond (fun hc => ?_) (fun hc => ?_)
  · have hc := of_decide_eq_true hc
    have hs := sum_getD_le sizeTimer l zTimer h1 hc
    simp only [sizeTimerS] at hp0
    have hx := hs
    simp only [sizeTimer, sizeFact, sizeValS] at hx
    rw [take_step l zTimer h1 hc, wrap_i64 (by omega) (by omega)]
    repeat' (first | refine And.intro (by omega) ?_ | fail)
    refine ⟨by simp; omega, ⟨by omega, by omega, rfl⟩, by simp only [μ_impl_copyTimers_3]; omega⟩
  · have hc := of_decide_eq_false hc
    rw [take_all l (by omega)]
    exact Lf_rfl _
end
end AM
