/- Functions of the program with their contracts: written by gen/fn.py out of p3.fn. -/
import Derived.Test.YtimjefebolgkjaaAmLib
import Derived.Test.YtimjefebolgkjaaFp2
import Derived.Test.YtimjefebolgkjaaFu1
namespace AM
open Go
set_option linter.unusedVariables false
set_option linter.unusedSimpArgs false
set_option maxRecDepth 100000
noncomputable section
def undoLast (l : List DUndo) : DFact := if l = [] then zFact else (List.getD l (l.length - 1) zUndo).F
theorem undoLast_ct (l : List DUndo) : ctFact (undoLast l) ≤ 20 * sizeUndoS l := by
  unfold undoLast
  split
  · exact Nat.zero_le _
  · rename_i hl
    have h0 : 0 < l.length := List.length_pos_iff.2 hl
    have h1 : (l.length - 1 : Int).toNat = l.length - 1 := by omega
    have hs := sum_getD_le sizeUndo l zUndo (i := l.length - 1) (by omega) (by omega)
    rw [h1] at hs
    have := ctFact_le (List.getD l (l.length - 1) zUndo).F
    simp only [sizeUndo] at hs
    simp only [sizeUndoS, sizeUndo]
    omega
theorem sum_take_le {α : Type} (f : α → Nat) (l : List α) (n : Nat) : ((l.take n).map f).sum ≤ (l.map f).sum := by
  have h := congrArg (fun q => (q.map f).sum) (List.take_append_drop n l)
  simp only [List.map_append, List.sum_append] at h
  omega
theorem sizeUndoS_take (l : List DUndo) (n : Nat) : sizeUndoS (l.take n) ≤ sizeUndoS l := by
  have := sum_take_le sizeUndo l n
  simp only [sizeUndoS, List.length_take]
  omega
def con_slices_CloneVal : Con UU where
  α := (List DVal)
  md := [.ro]
  of := fun | [.one (.sl .eVal a0)] => some a0 | _ => none
  ds := fun l => [.one (.sl .eVal l)]
  pre := fun l => [l.length ≤ 4294967296]
  res := fun l => ⟨[.one (.sl .eVal l)], true, []⟩
  law := by intro l x h; (try simp only at h); split at h <;> cases h; rfl
def ann_slices_CloneVal : con_slices_CloneVal.α → Nat → Option (Ann UU) := fun l => annL []
def use_slices_CloneVal : List (FuncId × Con UU) := []
theorem vc_slices_CloneVal (l : (List DVal)) : goalN EE use_slices_CloneVal Go.Proofs.Try.f65 con_slices_CloneVal ann_slices_CloneVal l .eVal l false = ((0 : Nat) + List.length l ≤ (4294967296 : Nat) ∧ Lf [DV.one (Cell.sl Cd.eVal ([] ++ l))] [DV.one (Cell.sl Cd.eVal l)]) := by kernel_rfl
theorem vc2_slices_CloneVal : goalN EE use_slices_CloneVal Go.Proofs.Try.f65 con_slices_CloneVal ann_slices_CloneVal [] .eVal [] true = (Lf [DV.one (Cell.sl Cd.eVal [])] [DV.one (Cell.sl Cd.eVal [])]) := by kernel_rfl
theorem vd2_slices_CloneVal : goalN EE use_slices_CloneVal Go.Proofs.Try.f65 con_slices_CloneVal ann_slices_CloneVal [] .eVal [] true := by
  rw [vc2_slices_CloneVal]
  exact Lf_rfl _
theorem ok_slices_CloneVal : Holds EE (65, con_slices_CloneVal) := by
  refine holds_ofN EE_ok Go.Proofs.Try.func65 con_slices_CloneVal (by kernel_rfl) rfl .eVal (fun x => x) (fun _ => rfl) use_slices_CloneVal all_nil ann_slices_CloneVal (fun (l : (List DVal)) hp hb => ?_)
  have hb_l : BdDV (U := UU) (.one (.sl .eVal l)) := hb _ (List.mem_cons_self)
  have hl_l : l.length ≤ 9223372036854775807 := Bd.len hb_l
  have hp0 : l.length ≤ 4294967296 := hp _ (List.mem_cons_self)
  clear hp hb
  refine ⟨?_, fun h0 => ?_⟩
  rotate_left
  · subst h0; exact vd2_slices_CloneVal
  rw [vc_slices_CloneVal l]
  exact ⟨by simp; omega, Lf_rfl _⟩
def con_spec_l3Copy : Con UU where
  α := DFact
  md := [.ro]
  of := fun | [.agg [.lit (.string a0), .sl .eVal a1]] => some ⟨a0, a1⟩ | _ => none
  ds := fun f => [.agg [.lit (.string f.Kind), .sl .eVal f.Fields]]
  pre := fun f => [f.Fields.length ≤ 4294967296]
  res := fun f => ⟨[.agg [.lit (.string f.Kind), .sl .eVal f.Fields]], true, []⟩
  law := by intro l x h; (try simp only at h); split at h <;> cases h; rfl
def ann_spec_l3Copy : con_spec_l3Copy.α → Nat → Option (Ann UU) := fun f => annL []
def use_spec_l3Copy : List (FuncId × Con UU) := []
theorem vc_spec_l3Copy (f : DFact) : goal EE use_spec_l3Copy Go.Proofs.Try.f47 con_spec_l3Copy ann_spec_l3Copy f = ((0 : Nat) + List.length (DFact.Fields f) ≤ (4294967296 : Nat) ∧ Lf [DV.agg [Cell.lit (Value.string (DFact.Kind f)), Cell.sl Cd.eVal ([] ++ DFact.Fields f)]] [DV.agg [Cell.lit (Value.string (DFact.Kind f)), Cell.sl Cd.eVal (DFact.Fields f)]]) := by kernel_rfl
theorem ok_spec_l3Copy : Holds EE (47, con_spec_l3Copy) := by
  refine holds_of EE_ok Go.Proofs.Try.func47 con_spec_l3Copy (by kernel_rfl) rfl use_spec_l3Copy all_nil ann_spec_l3Copy (fun (f : DFact) hp hb => ?_)
  have hb_f : BdDV (U := UU) (.agg [.lit (.string f.Kind), .sl .eVal f.Fields]) := hb _ (List.mem_cons_self)
  have hl_f_Kind : f.Kind.size ≤ 9223372036854775807 := Bd.str (hb_f _ (by simp))
  have hl_f_Fields : f.Fields.length ≤ 9223372036854775807 := Bd.len (U := UU) (τ := .eVal) (xs := f.Fields) (hb_f _ (by simp))
  have hp0 : f.Fields.length ≤ 4294967296 := hp _ (List.mem_cons_self)
  clear hp hb
  rw [vc_spec_l3Copy f]
  exact ⟨by simp; omega, Lf_rfl _⟩
def con_impl_copyFact : Con UU where
  α := DFact
  md := [.ro]
  of := fun | [.agg [.lit (.string a0), .sl .eVal a1]] => some ⟨a0, a1⟩ | _ => none
  ds := fun f => [.agg [.lit (.string f.Kind), .sl .eVal f.Fields]]
  pre := fun f => [f.Fields.length ≤ 4294967296]
  res := fun f => ⟨[.agg [.lit (.string f.Kind), .sl .eVal f.Fields]], true, []⟩
  law := by intro l x h; (try simp only at h); split at h <;> cases h; rfl
def ann_impl_copyFact : con_impl_copyFact.α → Nat → Option (Ann UU) := fun f => annL []
def use_impl_copyFact : List (FuncId × Con UU) := [(65, con_slices_CloneVal)]
theorem vc_impl_copyFact (f : DFact) : goal EE use_impl_copyFact Go.Proofs.Try.f48 con_impl_copyFact ann_impl_copyFact f = (List.length (DFact.Fields f) ≤ (4294967296 : Nat) ∧ Lf [DV.agg [Cell.lit (Value.string (DFact.Kind f)), Cell.sl Cd.eVal (DFact.Fields f)]] [DV.agg [Cell.lit (Value.string (DFact.Kind f)), Cell.sl Cd.eVal (DFact.Fields f)]]) := by kernel_rfl
theorem ok_impl_copyFact : Holds EE (48, con_impl_copyFact) := by
  refine holds_of EE_ok Go.Proofs.Try.func48 con_impl_copyFact (by kernel_rfl) rfl use_impl_copyFact (all_cons ok_slices_CloneVal all_nil) ann_impl_copyFact (fun (f : DFact) hp hb => ?_)
  have hb_f : BdDV (U := UU) (.agg [.lit (.string f.Kind), .sl .eVal f.Fields]) := hb _ (List.mem_cons_self)
  have hl_f_Kind : f.Kind.size ≤ 9223372036854775807 := Bd.str (hb_f _ (by simp))
  have hl_f_Fields : f.Fields.length ≤ 9223372036854775807 := Bd.len (U := UU) (τ := .eVal) (xs := f.Fields) (hb_f _ (by simp))
  have hp0 : f.Fields.length ≤ 4294967296 := hp _ (List.mem_cons_self)
  clear hp hb
  rw [vc_impl_copyFact f]
  exact ⟨hp0, Lf_rfl _⟩
def con_spec_l17Copy : Con UU where
  α := (List DTimer)
  md := [.ro]
  of := fun | [.one (.sl .eTimer a0)] => some a0 | _ => none
  ds := fun l => [.one (.sl .eTimer l)]
  pre := fun l => [sizeTimerS l ≤ 4294967296]
  res := fun l => ⟨[.one (.sl .eTimer l)], true, []⟩
  law := by intro l x h; (try simp only at h); split at h <;> cases h; rfl
def I_spec_l17Copy_3 (l : (List DTimer)) : List DTimer × Int × Unit → Prop := fun (out, i, _) => 0 ≤ i ∧ i ≤ l.length ∧ out = l.take i.toNat
def μ_spec_l17Copy_3 (l : (List DTimer)) : List DTimer × Int × Unit → Nat := fun (out, i, _) => l.length - i.toNat
def ann_spec_l17Copy : con_spec_l17Copy.α → Nat → Option (Ann UU) := fun l => annL [(3, annOf [.slot 3 (3, 1024) (.own .eTimer true), .slot 4 (4, 1024) (.lit (.int .i64))] (I_spec_l17Copy_3 l) (μ_spec_l17Copy_3 l))]
def use_spec_l17Copy : List (FuncId × Con UU) := [(47, con_spec_l3Copy)]
theorem vc_spec_l17Copy (l : (List DTimer)) : goal EE use_spec_l17Copy Go.Proofs.Try.f60 con_spec_l17Copy ann_spec_l17Copy l = (I_spec_l17Copy_3 l ([], (0 : Int), PUnit.unit) ∧ ∀ (y : List DTimer × Int × PUnit), I_spec_l17Copy_3 l y → bif decide (y.2.1 < (↑(List.length l) : Int)) then (0 : Int) ≤ y.2.1 ∧ Int.toNat y.2.1 < List.length l ∧ (0 : Int) ≤ y.2.1 ∧ Int.toNat y.2.1 < List.length l ∧ List.length (DFact.Fields (DTimer.F (List.getD l (Int.toNat y.2.1) zTimer))) ≤ (4294967296 : Nat) ∧ List.length y.1 + List.length [List.getD l (Int.toNat y.2.1) zTimer] ≤ (4294967296 : Nat) ∧ I_spec_l17Copy_3 l (y.1 ++ [List.getD l (Int.toNat y.2.1) zTimer], IntKind.wrap IntKind.i64 (y.2.1 + (1 : Int)), PUnit.unit) ∧ μ_spec_l17Copy_3 l (y.1 ++ [List.getD l (Int.toNat y.2.1) zTimer], IntKind.wrap IntKind.i64 (y.2.1 + (1 : Int)), PUnit.unit) < μ_spec_l17Copy_3 l y else Lf [DV.one (Cell.sl Cd.eTimer y.1)] [DV.one (Cell.sl Cd.eTimer l)]) := by kernel_rfl
theorem ok_spec_l17Copy : Holds EE (60, con_spec_l17Copy) := by
  refine holds_of EE_ok Go.Proofs.Try.func60 con_spec_l17Copy (by kernel_rfl) rfl use_spec_l17Copy (all_cons ok_spec_l3Copy all_nil) ann_spec_l17Copy (fun (l : (List DTimer)) hp hb => ?_)
  have hb_l : BdDV (U := UU) (.one (.sl .eTimer l)) := hb _ (List.mem_cons_self)
  have hl_l : l.length ≤ 9223372036854775807 := Bd.len hb_l
  have hp0 : sizeTimerS l ≤ 4294967296 := hp _ (List.mem_cons_self)
  clear hp hb
  rw [vc_spec_l17Copy l]
  refine ⟨⟨by omega, by omega, by simp⟩, ?_⟩
  rintro ⟨out, i, ⟨⟩⟩ ⟨h1, h2, rfl⟩
  simp only
  refine if_cond (fun hc => ?_) (fun hc => ?_)
  · have hc := of_decide_eq_true hc
    have hs := sum_getD_le sizeTimer l zTimer h1 hc
    simp only [sizeTimerS] at hp0
    have hx := hs
    simp only [sizeTimer, sizeFact, sizeValS] at hx
    rw [take_step l zTimer h1 hc, wrap_i64 (by omega) (by omega)]
    repeat' (first | refine And.intro (by omega) ?_ | fail)
    refine ⟨by simp; omega, ⟨by omega, by omega, rfl⟩, by simp only [μ_spec_l17Copy_3]; omega⟩
  · have hc := of_decide_eq_false hc
    rw [take_all l (by omega)]
    exact Lf_rfl _
def con_impl_copyTimers : Con UU where
  α := (List DTimer)
  md := [.ro]
  of := fun | [.one (.sl .eTimer a0)] => some a0 | _ => none
  ds := fun l => [.one (.sl .eTimer l)]
  pre := fun l => [sizeTimerS l ≤ 4294967296]
  res := fun l => ⟨[.one (.sl .eTimer l)], true, []⟩
  law := by intro l x h; (try simp only at h); split at h <;> cases h; rfl
def I_impl_copyTimers_3 (l : (List DTimer)) : List DTimer × Int × Unit → Prop := fun (out, i, _) => 0 ≤ i ∧ i ≤ l.length ∧ out = l.take i.toNat
def μ_impl_copyTimers_3 (l : (List DTimer)) : List DTimer × Int × Unit → Nat := fun (out, i, _) => l.length - i.toNat
def ann_impl_copyTimers : con_impl_copyTimers.α → Nat → Option (Ann UU) := fun l => annL [(3, annOf [.slot 3 (3, 1024) (.own .eTimer true), .slot 8 (8, 1024) (.lit (.int .i64))] (I_impl_copyTimers_3 l) (μ_impl_copyTimers_3 l))]
def use_impl_copyTimers : List (FuncId × Con UU) := [(48, con_impl_copyFact)]
theorem vc_impl_copyTimers (l : (List DTimer)) : goal EE use_impl_copyTimers Go.Proofs.Try.f61 con_impl_copyTimers ann_impl_copyTimers l = (I_impl_copyTimers_3 l ([], (0 : Int), PUnit.unit) ∧ ∀ (y : List DTimer × Int × PUnit), I_impl_copyTimers_3 l y → bif decide (y.2.1 < (↑(List.length l) : Int)) then (0 : Int) ≤ y.2.1 ∧ Int.toNat y.2.1 < List.length l ∧ List.length (DFact.Fields (DTimer.F (List.getD l (Int.toNat y.2.1) zTimer))) ≤ (4294967296 : Nat) ∧ List.length y.1 + List.length [List.getD l (Int.toNat y.2.1) zTimer] ≤ (4294967296 : Nat) ∧ I_impl_copyTimers_3 l (y.1 ++ [List.getD l (Int.toNat y.2.1) zTimer], IntKind.wrap IntKind.i64 (y.2.1 + (1 : Int)), PUnit.unit) ∧ μ_impl_copyTimers_3 l (y.1 ++ [List.getD l (Int.toNat y.2.1) zTimer], IntKind.wrap IntKind.i64 (y.2.1 + (1 : Int)), PUnit.unit) < μ_impl_copyTimers_3 l y else Lf [DV.one (Cell.sl Cd.eTimer y.1)] [DV.one (Cell.sl Cd.eTimer l)]) := by kernel_rfl
theorem ok_impl_copyTimers : Holds EE (61, con_impl_copyTimers) := by
  refine holds_of EE_ok Go.Proofs.Try.func61 con_impl_copyTimers (by kernel_rfl) rfl use_impl_copyTimers (all_cons ok_impl_copyFact all_nil) ann_impl_copyTimers (fun (l : (List DTimer)) hp hb => ?_)
  have hb_l : BdDV (U := UU) (.one (.sl .eTimer l)) := hb _ (List.mem_cons_self)
  have hl_l : l.length ≤ 9223372036854775807 := Bd.len hb_l
  have hp0 : sizeTimerS l ≤ 4294967296 := hp _ (List.mem_cons_self)
  clear hp hb
  rw [vc_impl_copyTimers l]
  refine ⟨⟨by omega, by omega, by simp⟩, ?_⟩
  rintro ⟨out, i, ⟨⟩⟩ ⟨h1, h2, rfl⟩
  simp only
  refine if_cond (fun hc => ?_) (fun hc => ?_)
  · have hc := of_decide_eq_true hc
    have hs := sum_getD_le sizeTimer l zTimer h1 hc
    simp only [sizeTimerS] at hp0
    have hx := hs
    simp only [sizeTimer, sizeFact, sizeValS] at hx
    rw [take_step l zTimer h1 hc, wrap_i64 (by omega) (by omega)]
    repeat' (first | refine And.intro (by omega) ?_ | fail)
    refine ⟨by simp; omega, ⟨by omega, by omega, rfl⟩, by simp only [μ_impl_copyTimers_3]; omega⟩
  · have hc := of_decide_eq_false hc
    rw [take_all l (by omega)]
    exact Lf_rfl _
def con_spec_l19Copy : Con UU where
  α := (List DUndo)
  md := [.ro]
  of := fun | [.one (.sl .eUndo a0)] => some a0 | _ => none
  ds := fun l => [.one (.sl .eUndo l)]
  pre := fun l => [sizeUndoS l ≤ 4294967296]
  res := fun l => ⟨[.one (.sl .eUndo l)], true, []⟩
  law := by intro l x h; (try simp only at h); split at h <;> cases h; rfl
def I_spec_l19Copy_3 (l : (List DUndo)) : List DUndo × Int × Unit → Prop := fun (out, i, _) => 0 ≤ i ∧ i ≤ l.length ∧ out = l.take i.toNat
def μ_spec_l19Copy_3 (l : (List DUndo)) : List DUndo × Int × Unit → Nat := fun (out, i, _) => l.length - i.toNat
def ann_spec_l19Copy : con_spec_l19Copy.α → Nat → Option (Ann UU) := fun l => annL [(3, annOf [.slot 3 (3, 1024) (.own .eUndo true), .slot 4 (4, 1024) (.lit (.int .i64))] (I_spec_l19Copy_3 l) (μ_spec_l19Copy_3 l))]
def use_spec_l19Copy : List (FuncId × Con UU) := [(47, con_spec_l3Copy)]
theorem vc_spec_l19Copy (l : (List DUndo)) : goal EE use_spec_l19Copy Go.Proofs.Try.f58 con_spec_l19Copy ann_spec_l19Copy l = (I_spec_l19Copy_3 l ([], (0 : Int), PUnit.unit) ∧ ∀ (y : List DUndo × Int × PUnit), I_spec_l19Copy_3 l y → bif decide (y.2.1 < (↑(List.length l) : Int)) then (0 : Int) ≤ y.2.1 ∧ Int.toNat y.2.1 < List.length l ∧ (0 : Int) ≤ y.2.1 ∧ Int.toNat y.2.1 < List.length l ∧ List.length (DFact.Fields (DUndo.F (List.getD l (Int.toNat y.2.1) zUndo))) ≤ (4294967296 : Nat) ∧ List.length y.1 + List.length [List.getD l (Int.toNat y.2.1) zUndo] ≤ (4294967296 : Nat) ∧ I_spec_l19Copy_3 l (y.1 ++ [List.getD l (Int.toNat y.2.1) zUndo], IntKind.wrap IntKind.i64 (y.2.1 + (1 : Int)), PUnit.unit) ∧ μ_spec_l19Copy_3 l (y.1 ++ [List.getD l (Int.toNat y.2.1) zUndo], IntKind.wrap IntKind.i64 (y.2.1 + (1 : Int)), PUnit.unit) < μ_spec_l19Copy_3 l y else Lf [DV.one (Cell.sl Cd.eUndo y.1)] [DV.one (Cell.sl Cd.eUndo l)]) := by kernel_rfl
theorem ok_spec_l19Copy : Holds EE (58, con_spec_l19Copy) := by
  refine holds_of EE_ok Go.Proofs.Try.func58 con_spec_l19Copy (by kernel_rfl) rfl use_spec_l19Copy (all_cons ok_spec_l3Copy all_nil) ann_spec_l19Copy (fun (l : (List DUndo)) hp hb => ?_)
  have hb_l : BdDV (U := UU) (.one (.sl .eUndo l)) := hb _ (List.mem_cons_self)
  have hl_l : l.length ≤ 9223372036854775807 := Bd.len hb_l
  have hp0 : sizeUndoS l ≤ 4294967296 := hp _ (List.mem_cons_self)
  clear hp hb
  rw [vc_spec_l19Copy l]
  refine ⟨⟨by omega, by omega, by simp⟩, ?_⟩
  rintro ⟨out, i, ⟨⟩⟩ ⟨h1, h2, rfl⟩
  simp only
  refine if_cond (fun hc => ?_) (fun hc => ?_)
  · have hc := of_decide_eq_true hc
    have hs := sum_getD_le sizeUndo l zUndo h1 hc
    simp only [sizeUndoS] at hp0
    have hx := hs
    simp only [sizeUndo, sizeFact, sizeValS] at hx
    rw [take_step l zUndo h1 hc, wrap_i64 (by omega) (by omega)]
    repeat' (first | refine And.intro (by omega) ?_ | fail)
    refine ⟨by simp; omega, ⟨by omega, by omega, rfl⟩, by simp only [μ_spec_l19Copy_3]; omega⟩
  · have hc := of_decide_eq_false hc
    rw [take_all l (by omega)]
    exact Lf_rfl _
def con_impl_copyUndos : Con UU where
  α := (List DUndo)
  md := [.ro]
  of := fun | [.one (.sl .eUndo a0)] => some a0 | _ => none
  ds := fun l => [.one (.sl .eUndo l)]
  pre := fun l => [sizeUndoS l ≤ 4294967296]
  res := fun l => ⟨[.one (.sl .eUndo l)], true, []⟩
  law := by intro l x h; (try simp only at h); split at h <;> cases h; rfl
def I_impl_copyUndos_3 (l : (List DUndo)) : List DUndo × Int × Unit → Prop := fun (out, i, _) => 0 ≤ i ∧ i ≤ l.length ∧ out = l.take i.toNat
def μ_impl_copyUndos_3 (l : (List DUndo)) : List DUndo × Int × Unit → Nat := fun (out, i, _) => l.length - i.toNat
def ann_impl_copyUndos : con_impl_copyUndos.α → Nat → Option (Ann UU) := fun l => annL [(3, annOf [.slot 3 (3, 1024) (.own .eUndo true), .slot 8 (8, 1024) (.lit (.int .i64))] (I_impl_copyUndos_3 l) (μ_impl_copyUndos_3 l))]
def use_impl_copyUndos : List (FuncId × Con UU) := [(48, con_impl_copyFact)]
theorem vc_impl_copyUndos (l : (List DUndo)) : goal EE use_impl_copyUndos Go.Proofs.Try.f59 con_impl_copyUndos ann_impl_copyUndos l = (I_impl_copyUndos_3 l ([], (0 : Int), PUnit.unit) ∧ ∀ (y : List DUndo × Int × PUnit), I_impl_copyUndos_3 l y → bif decide (y.2.1 < (↑(List.length l) : Int)) then (0 : Int) ≤ y.2.1 ∧ Int.toNat y.2.1 < List.length l ∧ List.length (DFact.Fields (DUndo.F (List.getD l (Int.toNat y.2.1) zUndo))) ≤ (4294967296 : Nat) ∧ List.length y.1 + List.length [List.getD l (Int.toNat y.2.1) zUndo] ≤ (4294967296 : Nat) ∧ I_impl_copyUndos_3 l (y.1 ++ [List.getD l (Int.toNat y.2.1) zUndo], IntKind.wrap IntKind.i64 (y.2.1 + (1 : Int)), PUnit.unit) ∧ μ_impl_copyUndos_3 l (y.1 ++ [List.getD l (Int.toNat y.2.1) zUndo], IntKind.wrap IntKind.i64 (y.2.1 + (1 : Int)), PUnit.unit) < μ_impl_copyUndos_3 l y else Lf [DV.one (Cell.sl Cd.eUndo y.1)] [DV.one (Cell.sl Cd.eUndo l)]) := by kernel_rfl
theorem ok_impl_copyUndos : Holds EE (59, con_impl_copyUndos) := by
  refine holds_of EE_ok Go.Proofs.Try.func59 con_impl_copyUndos (by kernel_rfl) rfl use_impl_copyUndos (all_cons ok_impl_copyFact all_nil) ann_impl_copyUndos (fun (l : (List DUndo)) hp hb => ?_)
  have hb_l : BdDV (U := UU) (.one (.sl .eUndo l)) := hb _ (List.mem_cons_self)
  have hl_l : l.length ≤ 9223372036854775807 := Bd.len hb_l
  have hp0 : sizeUndoS l ≤ 4294967296 := hp _ (List.mem_cons_self)
  clear hp hb
  rw [vc_impl_copyUndos l]
  refine ⟨⟨by omega, by omega, by simp⟩, ?_⟩
  rintro ⟨out, i, ⟨⟩⟩ ⟨h1, h2, rfl⟩
  simp only
  refine if_cond (fun hc => ?_) (fun hc => ?_)
  · have hc := of_decide_eq_true hc
    have hs := sum_getD_le sizeUndo l zUndo h1 hc
    simp only [sizeUndoS] at hp0
    have hx := hs
    simp only [sizeUndo, sizeFact, sizeValS] at hx
    rw [take_step l zUndo h1 hc, wrap_i64 (by omega) (by omega)]
    repeat' (first | refine And.intro (by omega) ?_ | fail)
    refine ⟨by simp; omega, ⟨by omega, by omega, rfl⟩, by simp only [μ_impl_copyUndos_3]; omega⟩
  · have hc := of_decide_eq_false hc
    rw [take_all l (by omega)]
    exact Lf_rfl _
def con_spec_UndoTask : Con UU where
  α := (List DUndo)
  md := [.ro]
  of := fun | [.one (.sl .eUndo a0)] => some a0 | _ => none
  ds := fun l => [.one (.sl .eUndo l)]
  pre := fun l => [sizeUndoS l ≤ 4294967296]
  res := fun l => ⟨[.agg [.lit (.string ((undoLast l)).Kind), .sl .eVal ((undoLast l)).Fields], .one (.lit (.bool (decide (¬ l = []))))], true, []⟩
  law := by intro l x h; (try simp only at h); split at h <;> cases h; rfl
def ann_spec_UndoTask : con_spec_UndoTask.α → Nat → Option (Ann UU) := fun l => annL []
def use_spec_UndoTask : List (FuncId × Con UU) := [(47, con_spec_l3Copy)]
theorem vc_spec_UndoTask (l : (List DUndo)) : goal EE use_spec_UndoTask Go.Proofs.Try.f22 con_spec_UndoTask ann_spec_UndoTask l = (bif (↑(List.length l) : Int) == (0 : Int) then Lf [DV.agg [Cell.lit (Value.string { data := #[] }), Cell.sl Cd.eVal []], DV.one (Cell.lit (Value.bool false))] [DV.agg [Cell.lit (Value.string (DFact.Kind (undoLast l))), Cell.sl Cd.eVal (DFact.Fields (undoLast l))], DV.one (Cell.lit (Value.bool (decide ¬l = [])))] else (0 : Int) ≤ IntKind.wrap IntKind.i64 ((↑(List.length l) : Int) - (1 : Int)) ∧ Int.toNat (IntKind.wrap IntKind.i64 ((↑(List.length l) : Int) - (1 : Int))) < List.length l ∧ List.length (DFact.Fields (DUndo.F (List.getD l (Int.toNat (IntKind.wrap IntKind.i64 ((↑(List.length l) : Int) - (1 : Int)))) zUndo))) ≤ (4294967296 : Nat) ∧ Lf [DV.agg [Cell.lit (Value.string (DFact.Kind (DUndo.F (List.getD l (Int.toNat (IntKind.wrap IntKind.i64 ((↑(List.length l) : Int) - (1 : Int)))) zUndo)))), Cell.sl Cd.eVal (DFact.Fields (DUndo.F (List.getD l (Int.toNat (IntKind.wrap IntKind.i64 ((↑(List.length l) : Int) - (1 : Int)))) zUndo)))], DV.one (Cell.lit (Value.bool true))] [DV.agg [Cell.lit (Value.string (DFact.Kind (undoLast l))), Cell.sl Cd.eVal (DFact.Fields (undoLast l))], DV.one (Cell.lit (Value.bool (decide ¬l = [])))]) := by kernel_rfl
theorem ok_spec_UndoTask : Holds EE (22, con_spec_UndoTask) := by
  refine holds_of EE_ok Go.Proofs.Try.func22 con_spec_UndoTask (by kernel_rfl) rfl use_spec_UndoTask (all_cons ok_spec_l3Copy all_nil) ann_spec_UndoTask (fun (l : (List DUndo)) hp hb => ?_)
  have hb_l : BdDV (U := UU) (.one (.sl .eUndo l)) := hb _ (List.mem_cons_self)
  have hl_l : l.length ≤ 9223372036854775807 := Bd.len hb_l
  have hp0 : sizeUndoS l ≤ 4294967296 := hp _ (List.mem_cons_self)
  clear hp hb
  rw [vc_spec_UndoTask l]
  by_cases hl : l = []
  · subst hl; exact Lf_rfl _
  · have h0 : 0 < l.length := List.length_pos_iff.2 hl
    have h1 : (l.length - 1 : Int).toNat = l.length - 1 := by omega
    have hs := sum_getD_le sizeUndo l zUndo (i := l.length - 1) (by omega) (by omega)
    simp only [sizeUndoS] at hp0
    rw [h1] at hs
    have hx := hs
    simp only [sizeUndo, sizeFact, sizeValS] at hx
    rw [wrap_i64 (by omega) (by omega), h1]
    refine if_cond (fun h => absurd h (by simp; omega)) (fun h => ?_)
    repeat' (first | refine And.intro (by omega) ?_ | fail)
    simp only [undoLast, if_neg hl, decide_not, hl]
    exact Lf_rfl _
def con_impl_UndoTask : Con UU where
  α := (List DUndo)
  md := [.ro]
  of := fun | [.one (.sl .eUndo a0)] => some a0 | _ => none
  ds := fun l => [.one (.sl .eUndo l)]
  pre := fun l => [sizeUndoS l ≤ 4294967296]
  res := fun l => ⟨[.agg [.lit (.string ((undoLast l)).Kind), .sl .eVal ((undoLast l)).Fields], .one (.lit (.bool (decide (¬ l = []))))], true, []⟩
  law := by intro l x h; (try simp only at h); split at h <;> cases h; rfl
def ann_impl_UndoTask : con_impl_UndoTask.α → Nat → Option (Ann UU) := fun l => annL []
def use_impl_UndoTask : List (FuncId × Con UU) := [(48, con_impl_copyFact)]
theorem vc_impl_UndoTask (l : (List DUndo)) : goal EE use_impl_UndoTask Go.Proofs.Try.f23 con_impl_UndoTask ann_impl_UndoTask l = (bif (↑(List.length l) : Int) == (0 : Int) then Lf [DV.agg [Cell.lit (Value.string { data := #[] }), Cell.sl Cd.eVal []], DV.one (Cell.lit (Value.bool false))] [DV.agg [Cell.lit (Value.string (DFact.Kind (undoLast l))), Cell.sl Cd.eVal (DFact.Fields (undoLast l))], DV.one (Cell.lit (Value.bool (decide ¬l = [])))] else (0 : Int) ≤ IntKind.wrap IntKind.i64 ((↑(List.length l) : Int) - (1 : Int)) ∧ Int.toNat (IntKind.wrap IntKind.i64 ((↑(List.length l) : Int) - (1 : Int))) < List.length l ∧ List.length (DFact.Fields (DUndo.F (List.getD l (Int.toNat (IntKind.wrap IntKind.i64 ((↑(List.length l) : Int) - (1 : Int)))) zUndo))) ≤ (4294967296 : Nat) ∧ Lf [DV.agg [Cell.lit (Value.string (DFact.Kind (DUndo.F (List.getD l (Int.toNat (IntKind.wrap IntKind.i64 ((↑(List.length l) : Int) - (1 : Int)))) zUndo)))), Cell.sl Cd.eVal (DFact.Fields (DUndo.F (List.getD l (Int.toNat (IntKind.wrap IntKind.i64 ((↑(List.length l) : Int) - (1 : Int)))) zUndo)))], DV.one (Cell.lit (Value.bool true))] [DV.agg [Cell.lit (Value.string (DFact.Kind (undoLast l))), Cell.sl Cd.eVal (DFact.Fields (undoLast l))], DV.one (Cell.lit (Value.bool (decide ¬l = [])))]) := by kernel_rfl
theorem ok_impl_UndoTask : Holds EE (23, con_impl_UndoTask) := by
  refine holds_of EE_ok Go.Proofs.Try.func23 con_impl_UndoTask (by kernel_rfl) rfl use_impl_UndoTask (all_cons ok_impl_copyFact all_nil) ann_impl_UndoTask (fun (l : (List DUndo)) hp hb => ?_)
  have hb_l : BdDV (U := UU) (.one (.sl .eUndo l)) := hb _ (List.mem_cons_self)
  have hl_l : l.length ≤ 9223372036854775807 := Bd.len hb_l
  have hp0 : sizeUndoS l ≤ 4294967296 := hp _ (List.mem_cons_self)
  clear hp hb
  rw [vc_impl_UndoTask l]
  by_cases hl : l = []
  · subst hl; exact Lf_rfl _
  · have h0 : 0 < l.length := List.length_pos_iff.2 hl
    have h1 : (l.length - 1 : Int).toNat = l.length - 1 := by omega
    have hs := sum_getD_le sizeUndo l zUndo (i := l.length - 1) (by omega) (by omega)
    simp only [sizeUndoS] at hp0
    rw [h1] at hs
    have hx := hs
    simp only [sizeUndo, sizeFact, sizeValS] at hx
    rw [wrap_i64 (by omega) (by omega), h1]
    refine if_cond (fun h => absurd h (by simp; omega)) (fun h => ?_)
    repeat' (first | refine And.intro (by omega) ?_ | fail)
    simp only [undoLast, if_neg hl, decide_not, hl]
    exact Lf_rfl _
def con_spec_PopUndo : Con UU where
  α := (List DUndo)
  md := [.ro]
  of := fun | [.one (.sl .eUndo a0)] => some a0 | _ => none
  ds := fun l => [.one (.sl .eUndo l)]
  pre := fun l => [sizeUndoS l ≤ 4294967296]
  res := fun l => ⟨[.one (.sl .eUndo (l.take (l.length - 1)))], true, []⟩
  law := by intro l x h; (try simp only at h); split at h <;> cases h; rfl
def ann_spec_PopUndo : con_spec_PopUndo.α → Nat → Option (Ann UU) := fun l => annL []
def use_spec_PopUndo : List (FuncId × Con UU) := [(58, con_spec_l19Copy)]
theorem vc_spec_PopUndo (l : (List DUndo)) : goal EE use_spec_PopUndo Go.Proofs.Try.f33 con_spec_PopUndo ann_spec_PopUndo l = (sizeUndoS l ≤ (4294967296 : Nat) ∧ bif decide ((↑(List.length l) : Int) > (0 : Int)) then (0 : Int) ≤ Option.getD none (0 : Int) ∧ Option.getD none (0 : Int) ≤ Option.getD (some (IntKind.wrap IntKind.i64 ((↑(List.length l) : Int) - (1 : Int)))) (↑(List.length l) : Int) ∧ Option.getD (some (IntKind.wrap IntKind.i64 ((↑(List.length l) : Int) - (1 : Int)))) (↑(List.length l) : Int) ≤ (↑(List.length l) : Int) ∧ Nat.le (Int.toNat (Option.getD (some (IntKind.wrap IntKind.i64 ((↑(List.length l) : Int) - (1 : Int)))) (↑(List.length l) : Int))) (List.length l) ∧ Lf [DV.one (Cell.sl Cd.eUndo (List.take (Int.toNat (Option.getD (some (IntKind.wrap IntKind.i64 ((↑(List.length l) : Int) - (1 : Int)))) (↑(List.length l) : Int))) l))] [DV.one (Cell.sl Cd.eUndo (List.take (List.length l - (1 : Nat)) l))] else Lf [DV.one (Cell.sl Cd.eUndo l)] [DV.one (Cell.sl Cd.eUndo (List.take (List.length l - (1 : Nat)) l))]) := by kernel_rfl
theorem ok_spec_PopUndo : Holds EE (33, con_spec_PopUndo) := by
  refine holds_of EE_ok Go.Proofs.Try.func33 con_spec_PopUndo (by kernel_rfl) rfl use_spec_PopUndo (all_cons ok_spec_l19Copy all_nil) ann_spec_PopUndo (fun (l : (List DUndo)) hp hb => ?_)
  have hb_l : BdDV (U := UU) (.one (.sl .eUndo l)) := hb _ (List.mem_cons_self)
  have hl_l : l.length ≤ 9223372036854775807 := Bd.len hb_l
  have hp0 : sizeUndoS l ≤ 4294967296 := hp _ (List.mem_cons_self)
  clear hp hb
  rw [vc_spec_PopUndo l]
  refine ⟨hp0, if_cond (fun h => ?_) (fun h => ?_)⟩
  · have h := of_decide_eq_true h
    simp only [Option.getD_none, Option.getD_some]
    rw [wrap_i64 (by omega) (by omega)]
    have h1 : (l.length - 1 : Int).toNat = l.length - 1 := by omega
    rw [h1]
    refine ⟨by omega, by omega, by omega, Nat.sub_le _ _, Lf_rfl _⟩
  · have h := of_decide_eq_false h
    have h0 : l = [] := List.length_eq_zero_iff.1 (by omega)
    subst h0
    exact Lf_rfl _
def con_impl_PopUndo : Con UU where
  α := (List DUndo)
  md := [.ro]
  of := fun | [.one (.sl .eUndo a0)] => some a0 | _ => none
  ds := fun l => [.one (.sl .eUndo l)]
  pre := fun l => [sizeUndoS l ≤ 4294967296]
  res := fun l => ⟨[.one (.sl .eUndo (l.take (l.length - 1)))], true, []⟩
  law := by intro l x h; (try simp only at h); split at h <;> cases h; rfl
def ann_impl_PopUndo : con_impl_PopUndo.α → Nat → Option (Ann UU) := fun l => annL []
def use_impl_PopUndo : List (FuncId × Con UU) := [(59, con_impl_copyUndos)]
theorem vc_impl_PopUndo (l : (List DUndo)) : goal EE use_impl_PopUndo Go.Proofs.Try.f34 con_impl_PopUndo ann_impl_PopUndo l = ((0 : Int) ≤ Option.getD none (0 : Int) ∧ Option.getD none (0 : Int) ≤ Option.getD (some (if (0 : Int) > IntKind.wrap IntKind.i64 ((↑(List.length l) : Int) - (1 : Int)) then (0 : Int) else IntKind.wrap IntKind.i64 ((↑(List.length l) : Int) - (1 : Int)))) (↑(List.length l) : Int) ∧ Option.getD (some (if (0 : Int) > IntKind.wrap IntKind.i64 ((↑(List.length l) : Int) - (1 : Int)) then (0 : Int) else IntKind.wrap IntKind.i64 ((↑(List.length l) : Int) - (1 : Int)))) (↑(List.length l) : Int) ≤ (↑(List.length l) : Int) ∧ sizeUndoS (List.drop (Int.toNat (Option.getD none (0 : Int))) (List.take (Int.toNat (Option.getD (some (if (0 : Int) > IntKind.wrap IntKind.i64 ((↑(List.length l) : Int) - (1 : Int)) then (0 : Int) else IntKind.wrap IntKind.i64 ((↑(List.length l) : Int) - (1 : Int)))) (↑(List.length l) : Int))) l)) ≤ (4294967296 : Nat) ∧ Lf [DV.one (Cell.sl Cd.eUndo (List.drop (Int.toNat (Option.getD none (0 : Int))) (List.take (Int.toNat (Option.getD (some (if (0 : Int) > IntKind.wrap IntKind.i64 ((↑(List.length l) : Int) - (1 : Int)) then (0 : Int) else IntKind.wrap IntKind.i64 ((↑(List.length l) : Int) - (1 : Int)))) (↑(List.length l) : Int))) l)))] [DV.one (Cell.sl Cd.eUndo (List.take (List.length l - (1 : Nat)) l))]) := by kernel_rfl
theorem ok_impl_PopUndo : Holds EE (34, con_impl_PopUndo) := by
  refine holds_of EE_ok Go.Proofs.Try.func34 con_impl_PopUndo (by kernel_rfl) rfl use_impl_PopUndo (all_cons ok_impl_copyUndos all_nil) ann_impl_PopUndo (fun (l : (List DUndo)) hp hb => ?_)
  have hb_l : BdDV (U := UU) (.one (.sl .eUndo l)) := hb _ (List.mem_cons_self)
  have hl_l : l.length ≤ 9223372036854775807 := Bd.len hb_l
  have hp0 : sizeUndoS l ≤ 4294967296 := hp _ (List.mem_cons_self)
  clear hp hb
  rw [vc_impl_PopUndo l]
  simp only [Option.getD_none, Option.getD_some]
  rw [wrap_i64 (by omega) (by omega)]
  have h1 : (if (0 : Int) > (l.length : Int) - 1 then (0 : Int) else (l.length : Int) - 1).toNat = l.length - 1 := by split <;> omega
  rw [h1]
  have h2 := sizeUndoS_take l (l.length - 1)
  refine ⟨by omega, by split <;> omega, by split <;> omega, ?_, Lf_rfl _⟩
  show sizeUndoS (List.take (l.length - 1) l) ≤ 4294967296
  omega
def con_laws_FnExactPopUndo : Con UU where
  α := (List DUndo)
  md := [.ro]
  of := fun | [.one (.sl .lUndo a0)] => some a0 | _ => none
  ds := fun aL => [.one (.sl .lUndo aL)]
  pre := fun aL => []
  res := fun aL => ⟨[.one (.lit (.bool true))], true, []⟩
  law := by intro l x h; (try simp only at h); split at h <;> cases h; rfl
def ann_laws_FnExactPopUndo : con_laws_FnExactPopUndo.α → Nat → Option (Ann UU) := fun aL => annL []
def use_laws_FnExactPopUndo : List (FuncId × Con UU) := [(14, con_laws_szUndoS), (17, con_laws_toUndoS), (33, con_spec_PopUndo), (34, con_impl_PopUndo), (20, con_laws_eqUndoS), (25, con_laws_markUndoS), (35, con_laws_heldUndoS)]
theorem vc_laws_FnExactPopUndo (aL : (List DUndo)) : goal EE use_laws_FnExactPopUndo Go.Proofs.Try.f8 con_laws_FnExactPopUndo ann_laws_FnExactPopUndo aL = ((0 : Int) ≤ (1048576 : Int) ∧ bif decide (szr (1048576 : Int) (sizeUndoS aL) < (0 : Int)) then Lf [DV.one (Cell.lit (Value.bool true))] [DV.one (Cell.lit (Value.bool true))] else sizeUndoS aL ≤ (4294967296 : Nat) ∧ sizeUndoS aL ≤ (4294967296 : Nat) ∧ sizeUndoS aL ≤ (4294967296 : Nat) ∧ sizeUndoS aL ≤ (4294967296 : Nat) ∧ bif !decide (List.take (List.length aL - (1 : Nat)) aL = List.take (List.length aL - (1 : Nat)) aL) then Lf [DV.one (Cell.lit (Value.bool false))] [DV.one (Cell.lit (Value.bool true))] else sizeUndoS aL ≤ (4294967296 : Nat) ∧ bif !decide (aL = aL) then Lf [DV.one (Cell.lit (Value.bool false))] [DV.one (Cell.lit (Value.bool true))] else (0 : Int) ≤ (1 : Int) ∧ (1 : Int) + (↑(cntUndoS aL) : Int) ≤ (4611686018427387904 : Int) ∧ bif !decide (List.take (List.length aL - (1 : Nat)) aL = List.take (List.length aL - (1 : Nat)) aL) then Lf [DV.one (Cell.lit (Value.bool false))] [DV.one (Cell.lit (Value.bool true))] else (0 : Int) ≤ (1 : Int) ∧ (1 : Int) + (↑(cntUndoS (List.take (List.length aL - (1 : Nat)) aL)) : Int) ≤ (4611686018427387904 : Int) ∧ (0 : Int) ≤ (1 : Int) ∧ (1 : Int) + (↑(cntUndoS (markUndoS (List.take (List.length aL - (1 : Nat)) aL) (1 : Int))) : Int) ≤ (4611686018427387904 : Int) ∧ bif decide ((if markUndoS (markUndoS (List.take (List.length aL - (1 : Nat)) aL) (1 : Int)) (1 : Int) = markUndoS (List.take (List.length aL - (1 : Nat)) aL) (1 : Int) then (1 : Int) + (↑(cntUndoS (markUndoS (List.take (List.length aL - (1 : Nat)) aL) (1 : Int))) : Int) else (-1 : Int)) < (0 : Int)) then Lf [DV.one (Cell.lit (Value.bool false))] [DV.one (Cell.lit (Value.bool true))] else bif (if markUndoS (markUndoS (List.take (List.length aL - (1 : Nat)) aL) (1 : Int)) (1 : Int) = markUndoS (List.take (List.length aL - (1 : Nat)) aL) (1 : Int) then (1 : Int) + (↑(cntUndoS (markUndoS (List.take (List.length aL - (1 : Nat)) aL) (1 : Int))) : Int) else (-1 : Int)) != (1 : Int) + (↑(cntUndoS (List.take (List.length aL - (1 : Nat)) aL)) : Int) then Lf [DV.one (Cell.lit (Value.bool false))] [DV.one (Cell.lit (Value.bool true))] else sizeUndoS aL ≤ (4294967296 : Nat) ∧ sizeUndoS aL ≤ (4294967296 : Nat) ∧ bif !decide (List.take (List.length aL - (1 : Nat)) aL = List.take (List.length aL - (1 : Nat)) aL) then Lf [DV.one (Cell.lit (Value.bool false))] [DV.one (Cell.lit (Value.bool true))] else (0 : Int) ≤ (1 : Int) ∧ (1 : Int) + (↑(cntUndoS (markUndoS (List.take (List.length aL - (1 : Nat)) aL) (1 : Int))) : Int) ≤ (4611686018427387904 : Int) ∧ bif decide ((if markUndoS (markUndoS (List.take (List.length aL - (1 : Nat)) aL) (1 : Int)) (1 : Int) = markUndoS (List.take (List.length aL - (1 : Nat)) aL) (1 : Int) then (1 : Int) + (↑(cntUndoS (markUndoS (List.take (List.length aL - (1 : Nat)) aL) (1 : Int))) : Int) else (-1 : Int)) < (0 : Int)) then Lf [DV.one (Cell.lit (Value.bool false))] [DV.one (Cell.lit (Value.bool true))] else bif (if markUndoS (markUndoS (List.take (List.length aL - (1 : Nat)) aL) (1 : Int)) (1 : Int) = markUndoS (List.take (List.length aL - (1 : Nat)) aL) (1 : Int) then (1 : Int) + (↑(cntUndoS (markUndoS (List.take (List.length aL - (1 : Nat)) aL) (1 : Int))) : Int) else (-1 : Int)) != (1 : Int) + (↑(cntUndoS (List.take (List.length aL - (1 : Nat)) aL)) : Int) then Lf [DV.one (Cell.lit (Value.bool false))] [DV.one (Cell.lit (Value.bool true))] else Lf [DV.one (Cell.lit (Value.bool true))] [DV.one (Cell.lit (Value.bool true))]) := by kernel_rfl
theorem ok_laws_FnExactPopUndo : Holds EE (8, con_laws_FnExactPopUndo) := by
  refine holds_of EE_ok Go.Proofs.Try.func8 con_laws_FnExactPopUndo (by kernel_rfl) rfl use_laws_FnExactPopUndo (all_cons ok_laws_szUndoS (all_cons ok_laws_toUndoS (all_cons ok_spec_PopUndo (all_cons ok_impl_PopUndo (all_cons ok_laws_eqUndoS (all_cons ok_laws_markUndoS (all_cons ok_laws_heldUndoS all_nil))))))) ann_laws_FnExactPopUndo (fun (aL : (List DUndo)) hp hb => ?_)
  have hb_aL : BdDV (U := UU) (.one (.sl .lUndo aL)) := hb _ (List.mem_cons_self)
  have hl_aL : aL.length ≤ 9223372036854775807 := Bd.len hb_aL
  clear hp hb
  rw [vc_laws_FnExactPopUndo aL]
  refine ⟨by omega, if_cond (fun h => Lf_rfl _) (fun h => ?_)⟩
  obtain ⟨e0, h0⟩ := szr_pos h
  have hc := cntUndoS_le aL
  have hc2 : cntUndoS (List.take (aL.length - 1) aL) ≤ cntUndoS aL := ctS_take_le _ _ _
  simp only [markUndoS_idem, markUndoS_ct, if_true]
  repeat' (first | exact Lf_rfl _ | refine And.intro (by omega) ?_ | refine if_cond (fun h => absurd h (by first | (simp; done) | (simp; omega))) (fun h => ?_) | fail)
def con_laws_FnExactUndoTask : Con UU where
  α := (List DUndo)
  md := [.ro]
  of := fun | [.one (.sl .lUndo a0)] => some a0 | _ => none
  ds := fun aL => [.one (.sl .lUndo aL)]
  pre := fun aL => []
  res := fun aL => ⟨[.one (.lit (.bool true))], true, []⟩
  law := by intro l x h; (try simp only at h); split at h <;> cases h; rfl
def ann_laws_FnExactUndoTask : con_laws_FnExactUndoTask.α → Nat → Option (Ann UU) := fun aL => annL []
def use_laws_FnExactUndoTask : List (FuncId × Con UU) := [(14, con_laws_szUndoS), (17, con_laws_toUndoS), (22, con_spec_UndoTask), (23, con_impl_UndoTask), (24, con_laws_eqFact), (20, con_laws_eqUndoS), (25, con_laws_markUndoS), (26, con_laws_markFact), (27, con_laws_heldFact)]
theorem vc_laws_FnExactUndoTask (aL : (List DUndo)) : goal EE use_laws_FnExactUndoTask Go.Proofs.Try.f6 con_laws_FnExactUndoTask ann_laws_FnExactUndoTask aL = ((0 : Int) ≤ (1048576 : Int) ∧ bif decide (szr (1048576 : Int) (sizeUndoS aL) < (0 : Int)) then Lf [DV.one (Cell.lit (Value.bool true))] [DV.one (Cell.lit (Value.bool true))] else sizeUndoS aL ≤ (4294967296 : Nat) ∧ sizeUndoS aL ≤ (4294967296 : Nat) ∧ sizeUndoS aL ≤ (4294967296 : Nat) ∧ sizeUndoS aL ≤ (4294967296 : Nat) ∧ bif !decide (undoLast aL = undoLast aL) then Lf [DV.one (Cell.lit (Value.bool false))] [DV.one (Cell.lit (Value.bool true))] else bif !(decide ¬aL = []) == decide ¬aL = [] then Lf [DV.one (Cell.lit (Value.bool false))] [DV.one (Cell.lit (Value.bool true))] else sizeUndoS aL ≤ (4294967296 : Nat) ∧ bif !decide (aL = aL) then Lf [DV.one (Cell.lit (Value.bool false))] [DV.one (Cell.lit (Value.bool true))] else (0 : Int) ≤ (1 : Int) ∧ (1 : Int) + (↑(cntUndoS aL) : Int) ≤ (4611686018427387904 : Int) ∧ bif !decide (undoLast aL = undoLast aL) then Lf [DV.one (Cell.lit (Value.bool false))] [DV.one (Cell.lit (Value.bool true))] else bif !(decide ¬aL = []) == decide ¬aL = [] then Lf [DV.one (Cell.lit (Value.bool false))] [DV.one (Cell.lit (Value.bool true))] else (0 : Int) ≤ (1 : Int) ∧ (1 : Int) + (↑(ctFact (undoLast aL)) : Int) ≤ (4611686018427387904 : Int) ∧ (0 : Int) ≤ (1 : Int) ∧ (1 : Int) + (↑(ctFact { Kind := DFact.Kind (undoLast aL), Fields := DFact.Fields (mkFact (undoLast aL) (1 : Int)) }) : Int) ≤ (4611686018427387904 : Int) ∧ bif decide ((if mkFact { Kind := DFact.Kind (undoLast aL), Fields := DFact.Fields (mkFact (undoLast aL) (1 : Int)) } (1 : Int) = { Kind := DFact.Kind (undoLast aL), Fields := DFact.Fields (mkFact (undoLast aL) (1 : Int)) } then (1 : Int) + (↑(ctFact { Kind := DFact.Kind (undoLast aL), Fields := DFact.Fields (mkFact (undoLast aL) (1 : Int)) }) : Int) else (-1 : Int)) < (0 : Int)) then Lf [DV.one (Cell.lit (Value.bool false))] [DV.one (Cell.lit (Value.bool true))] else bif (if mkFact { Kind := DFact.Kind (undoLast aL), Fields := DFact.Fields (mkFact (undoLast aL) (1 : Int)) } (1 : Int) = { Kind := DFact.Kind (undoLast aL), Fields := DFact.Fields (mkFact (undoLast aL) (1 : Int)) } then (1 : Int) + (↑(ctFact { Kind := DFact.Kind (undoLast aL), Fields := DFact.Fields (mkFact (undoLast aL) (1 : Int)) }) : Int) else (-1 : Int)) != (1 : Int) + (↑(ctFact (undoLast aL)) : Int) then Lf [DV.one (Cell.lit (Value.bool false))] [DV.one (Cell.lit (Value.bool true))] else sizeUndoS aL ≤ (4294967296 : Nat) ∧ sizeUndoS aL ≤ (4294967296 : Nat) ∧ bif !decide (undoLast aL = undoLast aL) then Lf [DV.one (Cell.lit (Value.bool false))] [DV.one (Cell.lit (Value.bool true))] else bif !(decide ¬aL = []) == decide ¬aL = [] then Lf [DV.one (Cell.lit (Value.bool false))] [DV.one (Cell.lit (Value.bool true))] else (0 : Int) ≤ (1 : Int) ∧ (1 : Int) + (↑(ctFact { Kind := DFact.Kind (undoLast aL), Fields := DFact.Fields (mkFact (undoLast aL) (1 : Int)) }) : Int) ≤ (4611686018427387904 : Int) ∧ bif decide ((if mkFact { Kind := DFact.Kind (undoLast aL), Fields := DFact.Fields (mkFact (undoLast aL) (1 : Int)) } (1 : Int) = { Kind := DFact.Kind (undoLast aL), Fields := DFact.Fields (mkFact (undoLast aL) (1 : Int)) } then (1 : Int) + (↑(ctFact { Kind := DFact.Kind (undoLast aL), Fields := DFact.Fields (mkFact (undoLast aL) (1 : Int)) }) : Int) else (-1 : Int)) < (0 : Int)) then Lf [DV.one (Cell.lit (Value.bool false))] [DV.one (Cell.lit (Value.bool true))] else bif (if mkFact { Kind := DFact.Kind (undoLast aL), Fields := DFact.Fields (mkFact (undoLast aL) (1 : Int)) } (1 : Int) = { Kind := DFact.Kind (undoLast aL), Fields := DFact.Fields (mkFact (undoLast aL) (1 : Int)) } then (1 : Int) + (↑(ctFact { Kind := DFact.Kind (undoLast aL), Fields := DFact.Fields (mkFact (undoLast aL) (1 : Int)) }) : Int) else (-1 : Int)) != (1 : Int) + (↑(ctFact (undoLast aL)) : Int) then Lf [DV.one (Cell.lit (Value.bool false))] [DV.one (Cell.lit (Value.bool true))] else Lf [DV.one (Cell.lit (Value.bool true))] [DV.one (Cell.lit (Value.bool true))]) := by kernel_rfl
theorem ok_laws_FnExactUndoTask : Holds EE (6, con_laws_FnExactUndoTask) := by
  refine holds_of EE_ok Go.Proofs.Try.func6 con_laws_FnExactUndoTask (by kernel_rfl) rfl use_laws_FnExactUndoTask (all_cons ok_laws_szUndoS (all_cons ok_laws_toUndoS (all_cons ok_spec_UndoTask (all_cons ok_impl_UndoTask (all_cons ok_laws_eqFact (all_cons ok_laws_eqUndoS (all_cons ok_laws_markUndoS (all_cons ok_laws_markFact (all_cons ok_laws_heldFact all_nil))))))))) ann_laws_FnExactUndoTask (fun (aL : (List DUndo)) hp hb => ?_)
  have hb_aL : BdDV (U := UU) (.one (.sl .lUndo aL)) := hb _ (List.mem_cons_self)
  have hl_aL : aL.length ≤ 9223372036854775807 := Bd.len hb_aL
  clear hp hb
  rw [vc_laws_FnExactUndoTask aL]
  refine ⟨by omega, if_cond (fun h => Lf_rfl _) (fun h => ?_)⟩
  obtain ⟨e0, h0⟩ := szr_pos h
  have hc := cntUndoS_le aL
  have hc2 := undoLast_ct aL
  have e1 : ({ Kind := DFact.Kind (undoLast aL), Fields := DFact.Fields (mkFact (undoLast aL) 1) } : DFact) = mkFact (undoLast aL) 1 := rfl
  simp only [e1, mkFact_idem, mkFact_ct, if_true]
  repeat' (first | exact Lf_rfl _ | refine And.intro (by omega) ?_ | refine if_cond (fun h => absurd h (by first | (simp; done) | (simp; omega))) (fun h => ?_) | fail)
end
end AM
