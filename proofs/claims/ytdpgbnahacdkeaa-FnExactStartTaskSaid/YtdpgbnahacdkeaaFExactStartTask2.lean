/- Functions of the program with their contracts: put together by gen/link.py for FnExactStartTask. -/
import Derived.Test.YtdpgbnahacdkeaaAmLib
import Derived.Test.YtdpgbnahacdkeaaAmModels
import Derived.Test.YtdpgbnahacdkeaaFExactStartTask
namespace AM
open Go
set_option linter.unusedVariables false
set_option linter.unusedSimpArgs false
set_option maxRecDepth 100000
noncomputable section
def con_spec_l18Start : Con UU where
  α := (List DTask) × DFact × ByteArray × Int
  md := [.mv, .ro, .ro, .ro]
  of := fun | [.one (.sl .eTask a0), .agg [.lit (.string a1), .sl .eVal a2], .one (.lit (.string a3)), .one (.lit (.int .i64 a4))] => some (a0, ⟨a1, a2⟩, a3, a4) | _ => none
  ds := fun (l, f, undo, now) => [.one (.sl .eTask l), .agg [.lit (.string f.Kind), .sl .eVal f.Fields], .one (.lit (.string undo)), .one (.lit (.int .i64 now))]
  pre := fun (l, f, undo, now) => [f.Fields.length ≤ 4294967296]
  res := fun (l, f, undo, now) => ⟨[.one (.sl .eTask ((startL l f undo now).1)), .one (.lit (.bool ((startL l f undo now).2)))], true, []⟩
  law := by intro l x h; (try simp only at h); split at h <;> cases h; rfl
def I_spec_l18Start_2 (l : (List DTask)) (f : DFact) (undo : ByteArray) (now : Int) : List DTask × Int × (ByteArray × List DVal × Unit) × Unit → Prop := fun (row, i, fb, _) => row = l ∧ fb = (f.Kind, f.Fields, ()) ∧ 0 ≤ i ∧ i ≤ l.length ∧ ∀ j : Nat, (j : Int) < i → decide ((List.getD l j zTask).F = f) = false
def μ_spec_l18Start_2 (l : (List DTask)) (f : DFact) (undo : ByteArray) (now : Int) : List DTask × Int × (ByteArray × List DVal × Unit) × Unit → Nat := fun (row, i, fb, _) => l.length - i.toNat
def ann_spec_l18Start : con_spec_l18Start.α → Nat → Option (Ann UU) := fun (l, f, undo, now) => annL [(2, annOf [.slot 0 (0, 1024) (.own .eTask true), .slot 10 (10, 1024) (.lit (.int .i64)), .box 5 (5, 1024) [.lit .str, .shr .eVal]] (fun _ => I_spec_l18Start_2 l f undo now) (μ_spec_l18Start_2 l f undo now))]
def use_spec_l18Start : List (FuncId × Con UU) := [(93, con_spec_SameFact), (108, con_spec_l3Copy)]
theorem vc_spec_l18Start (l : (List DTask)) (f : DFact) (undo : ByteArray) (now : Int) : goal EE use_spec_l18Start Go.Proofs.Try.f116 con_spec_l18Start ann_spec_l18Start (l, f, undo, now) = (I_spec_l18Start_2 l f undo now (l, (0 : Int), (f.Kind, f.Fields, PUnit.unit), PUnit.unit) ∧
  ∀ (y : List DTask × Int × (ByteArray × List DVal × PUnit) × PUnit),
    let x0 : List DTask := [{ F := { Kind := y.2.2.1.1, Fields := y.2.2.1.2.1 : DFact }, Undo := undo, State := (1 : Int), Tries := (0 : Int), Due := now, V := { K := (0 : Int), N := (0 : Int), S := { data := #[] : ByteArray } : DVal } : DTask }];
    let x1 : Nat := Int.toNat y.2.1;
    let x2 : Int := (↑(List.length y.1) : Int);
    I_spec_l18Start_2 l f undo now y → bif decide (y.2.1 < x2) then (0 : Int) ≤ y.2.1 ∧ x1 < List.length y.1 ∧ x1 < List.length y.1 ∧ x1 < List.length y.1 ∧ bif decide ((List.getD y.1 x1 zTask).F = { Kind := y.2.2.1.1, Fields := y.2.2.1.2.1 : DFact }) then Lf [DV.one (Cell.sl Cd.eTask y.1), DV.one (Cell.lit (Value.bool true))] [DV.one (Cell.sl Cd.eTask (startL l f undo now).1), DV.one (Cell.lit (Value.bool (startL l f undo now).2))] else I_spec_l18Start_2 l f undo now (y.1, IntKind.wrap IntKind.i64 (y.2.1 + (1 : Int)), (y.2.2.1.1, y.2.2.1.2.1, PUnit.unit), PUnit.unit) ∧ μ_spec_l18Start_2 l f undo now (y.1, IntKind.wrap IntKind.i64 (y.2.1 + (1 : Int)), (y.2.2.1.1, y.2.2.1.2.1, PUnit.unit), PUnit.unit) < μ_spec_l18Start_2 l f undo now y else bif decide (x2 ≥ (30 : Int)) then Lf [DV.one (Cell.sl Cd.eTask y.1), DV.one (Cell.lit (Value.bool false))] [DV.one (Cell.sl Cd.eTask (startL l f undo now).1), DV.one (Cell.lit (Value.bool (startL l f undo now).2))] else List.length y.2.2.1.2.1 ≤ (4294967296 : Nat) ∧ List.length y.1 + List.length x0 ≤ (4294967296 : Nat) ∧ Lf [DV.one (Cell.sl Cd.eTask (y.1 ++ x0)), DV.one (Cell.lit (Value.bool true))] [DV.one (Cell.sl Cd.eTask (startL l f undo now).1), DV.one (Cell.lit (Value.bool (startL l f undo now).2))]) := by kernel_rfl
theorem ok_spec_l18Start : Holds EE (116, con_spec_l18Start) := by
  refine holds_of EE_ok Go.Proofs.Try.func116 con_spec_l18Start (by kernel_rfl) rfl use_spec_l18Start (all_cons ok_spec_SameFact (all_cons ok_spec_l3Copy all_nil)) ann_spec_l18Start (fun x hp hb => ?_)
  obtain ⟨l, f, undo, now⟩ := x
  have hb_l : BdDV (U := UU) (.one (.sl .eTask l)) := hb _ (List.mem_cons_self)
  have hl_l : l.length ≤ 9223372036854775807 := Bd.len hb_l
  have hb_f : BdDV (U := UU) (.agg [.lit (.string f.Kind), .sl .eVal f.Fields]) := hb _ (List.mem_cons_of_mem _ (List.mem_cons_self))
  have hl_f_Kind : f.Kind.size ≤ 9223372036854775807 := Bd.str (hb_f _ (by simp))
  have hl_f_Fields : f.Fields.length ≤ 9223372036854775807 := Bd.len (U := UU) (τ := .eVal) (xs := f.Fields) (hb_f _ (by simp))
  have hb_undo : BdDV (U := UU) (.one (.lit (.string undo))) := hb _ (List.mem_cons_of_mem _ (List.mem_cons_of_mem _ (List.mem_cons_self)))
  have hl_undo : undo.size ≤ 9223372036854775807 := Bd.str hb_undo
  have hb_now : BdDV (U := UU) (.one (.lit (.int .i64 now))) := hb _ (List.mem_cons_of_mem _ (List.mem_cons_of_mem _ (List.mem_cons_of_mem _ (List.mem_cons_self))))
  have hl_now := Bd.i64 hb_now
  have hp0 : f.Fields.length ≤ 4294967296 := hp _ (List.mem_cons_self)
  clear hp hb
  rw [vc_spec_l18Start l f undo now]
  dsimp only
  refine ⟨⟨rfl, rfl, by omega, by omega, by intro j hj; omega⟩, ?_⟩
  rintro ⟨row, i, fb, ⟨⟩⟩ ⟨rfl, rfl, h1, h2, hR⟩
  simp only
  refine if_cond (fun hc => ?_) (fun hc => ?_)
  · have hc := of_decide_eq_true hc
    rw [wrap_i64 (by omega) (by omega)]
    repeat' (first | refine And.intro (by omega) ?_ | refine if_cond (fun h => ?_) (fun h => ?_) | fail)
    · have ha : hasTask row f = true := anyI_true (j := i.toNat) (by omega) h
      simp only [startL, if_pos ha]; exact Lf_rfl _
    · exact ⟨⟨rfl, rfl, by omega, by omega, upto_no h1 hR h⟩, by simp only [μ_spec_l18Start_2]; omega⟩
  · have hc := of_decide_eq_false hc
    have ha : ¬ hasTask row f = true := by
      rw [Bool.not_eq_true]; exact anyI_false fun j hj => hR j (by omega)
    refine if_cond (fun h => ?_) (fun h => ?_)
    · have h := of_decide_eq_true h
      simp only [startL, if_neg ha, if_pos (show 30 ≤ row.length by omega)]; exact Lf_rfl _
    · have h := of_decide_eq_false h
      repeat' (first | refine And.intro (by first | omega | (simp; omega)) ?_ | fail)
      simp only [startL, if_neg ha, if_neg (show ¬ 30 ≤ row.length by omega)]; exact Lf_rfl _
def con_spec_StartTask : Con UU where
  α := (List DTask) × DFact × ByteArray × Int
  md := [.ro, .ro, .ro, .ro]
  of := fun | [.one (.sl .eTask a0), .agg [.lit (.string a1), .sl .eVal a2], .one (.lit (.string a3)), .one (.lit (.int .i64 a4))] => some (a0, ⟨a1, a2⟩, a3, a4) | _ => none
  ds := fun (l, f, undo, now) => [.one (.sl .eTask l), .agg [.lit (.string f.Kind), .sl .eVal f.Fields], .one (.lit (.string undo)), .one (.lit (.int .i64 now))]
  pre := fun (l, f, undo, now) => [sizeTaskS l ≤ 4294967296, f.Fields.length ≤ 4294967296]
  res := fun (l, f, undo, now) => ⟨[.one (.sl .eTask ((startTask l f undo now).1)), .one (.lit (.bool ((startTask l f undo now).2)))], true, []⟩
  law := by intro l x h; (try simp only at h); split at h <;> cases h; rfl
def ann_spec_StartTask : con_spec_StartTask.α → Nat → Option (Ann UU) := fun (l, f, undo, now) => annL []
def use_spec_StartTask : List (FuncId × Con UU) := [(84, con_spec_l18Copy), (30, con_spec_TasksOk), (70, con_spec_FactOk), (115, con_spec_l18Undo), (69, con_spec_l1In), (116, con_spec_l18Start)]
theorem vc_spec_StartTask (l : (List DTask)) (f : DFact) (undo : ByteArray) (now : Int) : goal EE use_spec_StartTask Go.Proofs.Try.f50 con_spec_StartTask ann_spec_StartTask (l, f, undo, now) = (sizeTaskS l ≤ (4294967296 : Nat) ∧ bif !tasksOk l then Lf [DV.one (Cell.sl Cd.eTask l), DV.one (Cell.lit (Value.bool false))] [DV.one (Cell.sl Cd.eTask (startTask l f undo now).1), DV.one (Cell.lit (Value.bool (startTask l f undo now).2))] else bif !factOk f then Lf [DV.one (Cell.sl Cd.eTask l), DV.one (Cell.lit (Value.bool false))] [DV.one (Cell.sl Cd.eTask (startTask l f undo now).1), DV.one (Cell.lit (Value.bool (startTask l f undo now).2))] else bif !undoOk undo then Lf [DV.one (Cell.sl Cd.eTask l), DV.one (Cell.lit (Value.bool false))] [DV.one (Cell.sl Cd.eTask (startTask l f undo now).1), DV.one (Cell.lit (Value.bool (startTask l f undo now).2))] else bif !decide ((0 : Int) ≤ now ∧ now ≤ (1000000000 : Int)) then Lf [DV.one (Cell.sl Cd.eTask l), DV.one (Cell.lit (Value.bool false))] [DV.one (Cell.sl Cd.eTask (startTask l f undo now).1), DV.one (Cell.lit (Value.bool (startTask l f undo now).2))] else List.length f.Fields ≤ (4294967296 : Nat) ∧ Lf [DV.one (Cell.sl Cd.eTask (startL { τ := Cd.eTask, xs := l : Arr UU }.xs { Kind := f.Kind, Fields := f.Fields : DFact } undo now).1), DV.one (Cell.lit (Value.bool (startL { τ := Cd.eTask, xs := l : Arr UU }.xs { Kind := f.Kind, Fields := f.Fields : DFact } undo now).2))] [DV.one (Cell.sl Cd.eTask (startTask l f undo now).1), DV.one (Cell.lit (Value.bool (startTask l f undo now).2))]) := by kernel_rfl
theorem ok_spec_StartTask : Holds EE (50, con_spec_StartTask) := by
  refine holds_of EE_ok Go.Proofs.Try.func50 con_spec_StartTask (by kernel_rfl) rfl use_spec_StartTask (all_cons ok_spec_l18Copy (all_cons ok_spec_TasksOk (all_cons ok_spec_FactOk (all_cons ok_spec_l18Undo (all_cons ok_spec_l1In (all_cons ok_spec_l18Start all_nil)))))) ann_spec_StartTask (fun x hp hb => ?_)
  obtain ⟨l, f, undo, now⟩ := x
  have hb_l : BdDV (U := UU) (.one (.sl .eTask l)) := hb _ (List.mem_cons_self)
  have hl_l : l.length ≤ 9223372036854775807 := Bd.len hb_l
  have hb_f : BdDV (U := UU) (.agg [.lit (.string f.Kind), .sl .eVal f.Fields]) := hb _ (List.mem_cons_of_mem _ (List.mem_cons_self))
  have hl_f_Kind : f.Kind.size ≤ 9223372036854775807 := Bd.str (hb_f _ (by simp))
  have hl_f_Fields : f.Fields.length ≤ 9223372036854775807 := Bd.len (U := UU) (τ := .eVal) (xs := f.Fields) (hb_f _ (by simp))
  have hb_undo : BdDV (U := UU) (.one (.lit (.string undo))) := hb _ (List.mem_cons_of_mem _ (List.mem_cons_of_mem _ (List.mem_cons_self)))
  have hl_undo : undo.size ≤ 9223372036854775807 := Bd.str hb_undo
  have hb_now : BdDV (U := UU) (.one (.lit (.int .i64 now))) := hb _ (List.mem_cons_of_mem _ (List.mem_cons_of_mem _ (List.mem_cons_of_mem _ (List.mem_cons_self))))
  have hl_now := Bd.i64 hb_now
  have hp0 : sizeTaskS l ≤ 4294967296 := hp _ (List.mem_cons_self)
  have hp1 : f.Fields.length ≤ 4294967296 := hp _ (List.mem_cons_of_mem _ (List.mem_cons_self))
  clear hp hb
  rw [vc_spec_StartTask l f undo now]
  refine ⟨hp0, ?_⟩
  have hN : canStart l f undo now = false → Lf [.one (.sl .eTask l), .one (.lit (.bool false))] [.one (.sl .eTask (startTask l f undo now).1), .one (.lit (.bool (startTask l f undo now).2))] := fun h => by
    simp only [startTask, h]; exact Lf_rfl _
  repeat' (first | refine And.intro (by omega) ?_ | refine if_cond (fun h => ?_) (fun h => ?_) | fail)
  all_goals first
    | (refine hN ?_; simp only [canStart]; grind)
    | (have hy : canStart l f undo now = true := by simp only [canStart]; grind
       simp only [startTask, hy]; exact Lf_rfl _)
def con_impl_StartTask : Con UU where
  α := (List DTask) × DFact × ByteArray × Int
  md := [.ro, .ro, .ro, .ro]
  of := fun | [.one (.sl .eTask a0), .agg [.lit (.string a1), .sl .eVal a2], .one (.lit (.string a3)), .one (.lit (.int .i64 a4))] => some (a0, ⟨a1, a2⟩, a3, a4) | _ => none
  ds := fun (l, f, undo, now) => [.one (.sl .eTask l), .agg [.lit (.string f.Kind), .sl .eVal f.Fields], .one (.lit (.string undo)), .one (.lit (.int .i64 now))]
  pre := fun (l, f, undo, now) => [sizeTaskS l ≤ 4294967296, f.Fields.length ≤ 4294967296]
  res := fun (l, f, undo, now) => ⟨[.one (.sl .eTask ((startTask l f undo now).1)), .one (.lit (.bool ((startTask l f undo now).2)))], true, []⟩
  law := by intro l x h; (try simp only at h); split at h <;> cases h; rfl
def ann_impl_StartTask : con_impl_StartTask.α → Nat → Option (Ann UU) := fun (l, f, undo, now) => annL []
def use_impl_StartTask : List (FuncId × Con UU) := [(86, con_impl_copyTasks), (31, con_impl_TasksOk), (73, con_impl_FactOk), (118, con_impl_isUndo), (119, con_impl_isTime), (95, con_impl_placeOfTask), (113, con_impl_copyFact)]
theorem vc_impl_StartTask (l : (List DTask)) (f : DFact) (undo : ByteArray) (now : Int) : goal EE use_impl_StartTask Go.Proofs.Try.f52 con_impl_StartTask ann_impl_StartTask (l, f, undo, now) = (let x0 : List DTask := [{ F := f, Undo := undo, State := (1 : Int), Tries := (0 : Int), Due := now, V := { K := (0 : Int), N := (0 : Int), S := { data := #[] : ByteArray } : DVal } : DTask }];
sizeTaskS l ≤ (4294967296 : Nat) ∧ bif !tasksOk l then Lf [DV.one (Cell.sl Cd.eTask l), DV.one (Cell.lit (Value.bool false))] [DV.one (Cell.sl Cd.eTask (startTask l f undo now).1), DV.one (Cell.lit (Value.bool (startTask l f undo now).2))] else bif !factOk f then Lf [DV.one (Cell.sl Cd.eTask l), DV.one (Cell.lit (Value.bool false))] [DV.one (Cell.sl Cd.eTask (startTask l f undo now).1), DV.one (Cell.lit (Value.bool (startTask l f undo now).2))] else bif !undoOk undo then Lf [DV.one (Cell.sl Cd.eTask l), DV.one (Cell.lit (Value.bool false))] [DV.one (Cell.sl Cd.eTask (startTask l f undo now).1), DV.one (Cell.lit (Value.bool (startTask l f undo now).2))] else bif !decide ((0 : Int) ≤ now ∧ now ≤ (1000000000 : Int)) then Lf [DV.one (Cell.sl Cd.eTask l), DV.one (Cell.lit (Value.bool false))] [DV.one (Cell.sl Cd.eTask (startTask l f undo now).1), DV.one (Cell.lit (Value.bool (startTask l f undo now).2))] else bif decide (placeOf l f ≥ (0 : Int)) then Lf [DV.one (Cell.sl Cd.eTask l), DV.one (Cell.lit (Value.bool true))] [DV.one (Cell.sl Cd.eTask (startTask l f undo now).1), DV.one (Cell.lit (Value.bool (startTask l f undo now).2))] else bif (↑(List.length l) : Int) == (30 : Int) then Lf [DV.one (Cell.sl Cd.eTask l), DV.one (Cell.lit (Value.bool false))] [DV.one (Cell.sl Cd.eTask (startTask l f undo now).1), DV.one (Cell.lit (Value.bool (startTask l f undo now).2))] else List.length f.Fields ≤ (4294967296 : Nat) ∧ List.length l + List.length x0 ≤ (4294967296 : Nat) ∧ Lf [DV.one (Cell.sl Cd.eTask (l ++ x0)), DV.one (Cell.lit (Value.bool true))] [DV.one (Cell.sl Cd.eTask (startTask l f undo now).1), DV.one (Cell.lit (Value.bool (startTask l f undo now).2))]) := by kernel_rfl
theorem ok_impl_StartTask : Holds EE (52, con_impl_StartTask) := by
  refine holds_of EE_ok Go.Proofs.Try.func52 con_impl_StartTask (by kernel_rfl) rfl use_impl_StartTask (all_cons ok_impl_copyTasks (all_cons ok_impl_TasksOk (all_cons ok_impl_FactOk (all_cons ok_impl_isUndo (all_cons ok_impl_isTime (all_cons ok_impl_placeOfTask (all_cons ok_impl_copyFact all_nil))))))) ann_impl_StartTask (fun x hp hb => ?_)
  obtain ⟨l, f, undo, now⟩ := x
  have hb_l : BdDV (U := UU) (.one (.sl .eTask l)) := hb _ (List.mem_cons_self)
  have hl_l : l.length ≤ 9223372036854775807 := Bd.len hb_l
  have hb_f : BdDV (U := UU) (.agg [.lit (.string f.Kind), .sl .eVal f.Fields]) := hb _ (List.mem_cons_of_mem _ (List.mem_cons_self))
  have hl_f_Kind : f.Kind.size ≤ 9223372036854775807 := Bd.str (hb_f _ (by simp))
  have hl_f_Fields : f.Fields.length ≤ 9223372036854775807 := Bd.len (U := UU) (τ := .eVal) (xs := f.Fields) (hb_f _ (by simp))
  have hb_undo : BdDV (U := UU) (.one (.lit (.string undo))) := hb _ (List.mem_cons_of_mem _ (List.mem_cons_of_mem _ (List.mem_cons_self)))
  have hl_undo : undo.size ≤ 9223372036854775807 := Bd.str hb_undo
  have hb_now : BdDV (U := UU) (.one (.lit (.int .i64 now))) := hb _ (List.mem_cons_of_mem _ (List.mem_cons_of_mem _ (List.mem_cons_of_mem _ (List.mem_cons_self))))
  have hl_now := Bd.i64 hb_now
  have hp0 : sizeTaskS l ≤ 4294967296 := hp _ (List.mem_cons_self)
  have hp1 : f.Fields.length ≤ 4294967296 := hp _ (List.mem_cons_of_mem _ (List.mem_cons_self))
  clear hp hb
  rw [vc_impl_StartTask l f undo now]
  dsimp only
  refine ⟨hp0, ?_⟩
  have hN : canStart l f undo now = false → Lf [.one (.sl .eTask l), .one (.lit (.bool false))] [.one (.sl .eTask (startTask l f undo now).1), .one (.lit (.bool (startTask l f undo now).2))] := fun h => by
    simp only [startTask, h]; exact Lf_rfl _
  have hpl : decide (placeOf l f ≥ 0) = hasTask l f := placeOf_ge l f
  rw [hpl]
  repeat' (first | refine And.intro (by first | omega | (simp; omega)) ?_ | refine if_cond (fun h => ?_) (fun h => ?_) | fail)
  all_goals first
    | (refine hN ?_; simp only [canStart]; grind)
    | (have hy : canStart l f undo now = true := by simp only [canStart]; grind
       have hlen := tasksOk_len (l := l) (by simp only [canStart] at hy; grind)
       simp only [startTask, hy, if_true, startL]
       first
         | (rw [if_pos (by assumption)]; exact Lf_rfl _)
         | (rw [if_neg (by simp_all), if_pos (by (try simp_all); omega)]; exact Lf_rfl _)
         | (rw [if_neg (by simp_all), if_neg (by simp_all; omega)]; exact ⟨by simp; omega, Lf_rfl _⟩))
def con_laws_FnExactStartTask : Con UU where
  α := (List DTask) × DFact × ByteArray × Int
  md := [.ro, .ro, .ro, .ro]
  of := fun | [.one (.sl .lTask a0), .agg [.lit (.string a1), .sl .lVal a2], .one (.lit (.string a3)), .one (.lit (.int .i64 a4))] => some (a0, ⟨a1, a2⟩, a3, a4) | _ => none
  ds := fun (aL, aF, aUndo, aNow) => [.one (.sl .lTask aL), .agg [.lit (.string aF.Kind), .sl .lVal aF.Fields], .one (.lit (.string aUndo)), .one (.lit (.int .i64 aNow))]
  pre := fun (aL, aF, aUndo, aNow) => []
  res := fun (aL, aF, aUndo, aNow) => ⟨[.one (.lit (.bool true))], true, []⟩
  law := by intro l x h; (try simp only at h); split at h <;> cases h; rfl
def ann_laws_FnExactStartTask : con_laws_FnExactStartTask.α → Nat → Option (Ann UU) := fun (aL, aF, aUndo, aNow) => annL []
def use_laws_FnExactStartTask : List (FuncId × Con UU) := [(23, con_laws_szTaskS), (49, con_laws_szFact), (25, con_laws_toTaskS), (51, con_laws_toFact), (50, con_spec_StartTask), (52, con_impl_StartTask), (27, con_laws_eqTaskS), (53, con_laws_eqFact), (28, con_laws_markTaskS), (54, con_laws_markFact), (29, con_laws_heldTaskS)]
theorem vc_laws_FnExactStartTask (aL : (List DTask)) (aF : DFact) (aUndo : ByteArray) (aNow : Int) : goal EE use_laws_FnExactStartTask Go.Proofs.Try.f9 con_laws_FnExactStartTask ann_laws_FnExactStartTask (aL, aF, aUndo, aNow) = (let x0 : Bool := decide ((if markTaskS (markTaskS (startTask { τ := Cd.eTask, xs := aL : Arr UU }.xs { Kind := aF.Kind, Fields := { τ := Cd.eVal, xs := aF.Fields : Arr UU }.xs : DFact } aUndo aNow).1 (1 : Int)) (1 : Int) = markTaskS (startTask { τ := Cd.eTask, xs := aL : Arr UU }.xs { Kind := aF.Kind, Fields := { τ := Cd.eVal, xs := aF.Fields : Arr UU }.xs : DFact } aUndo aNow).1 (1 : Int) then (1 : Int) + (↑(cntTaskS (markTaskS (startTask { τ := Cd.eTask, xs := aL : Arr UU }.xs { Kind := aF.Kind, Fields := { τ := Cd.eVal, xs := aF.Fields : Arr UU }.xs : DFact } aUndo aNow).1 (1 : Int))) : Int) else (-1 : Int)) < (0 : Int));
let x1 : Bool := (if markTaskS (markTaskS (startTask { τ := Cd.eTask, xs := aL : Arr UU }.xs { Kind := aF.Kind, Fields := { τ := Cd.eVal, xs := aF.Fields : Arr UU }.xs : DFact } aUndo aNow).1 (1 : Int)) (1 : Int) = markTaskS (startTask { τ := Cd.eTask, xs := aL : Arr UU }.xs { Kind := aF.Kind, Fields := { τ := Cd.eVal, xs := aF.Fields : Arr UU }.xs : DFact } aUndo aNow).1 (1 : Int) then (1 : Int) + (↑(cntTaskS (markTaskS (startTask { τ := Cd.eTask, xs := aL : Arr UU }.xs { Kind := aF.Kind, Fields := { τ := Cd.eVal, xs := aF.Fields : Arr UU }.xs : DFact } aUndo aNow).1 (1 : Int))) : Int) else (-1 : Int)) != (1 : Int) + (↑(cntTaskS (startTask { τ := Cd.eTask, xs := aL : Arr UU }.xs { Kind := aF.Kind, Fields := { τ := Cd.eVal, xs := aF.Fields : Arr UU }.xs : DFact } aUndo aNow).1) : Int);
let x2 : Bool := !decide ((startTask { τ := Cd.eTask, xs := aL : Arr UU }.xs { Kind := aF.Kind, Fields := { τ := Cd.eVal, xs := aF.Fields : Arr UU }.xs : DFact } aUndo aNow).1 = (startTask { τ := Cd.eTask, xs := aL : Arr UU }.xs { Kind := aF.Kind, Fields := { τ := Cd.eVal, xs := aF.Fields : Arr UU }.xs : DFact } aUndo aNow).1);
let x3 : Bool := !(startTask { τ := Cd.eTask, xs := aL : Arr UU }.xs { Kind := aF.Kind, Fields := { τ := Cd.eVal, xs := aF.Fields : Arr UU }.xs : DFact } aUndo aNow).2 == (startTask { τ := Cd.eTask, xs := aL : Arr UU }.xs { Kind := aF.Kind, Fields := { τ := Cd.eVal, xs := aF.Fields : Arr UU }.xs : DFact } aUndo aNow).2;
let x4 : Int := (1 : Int) + (↑(cntTaskS aL) : Int);
let x5 : Int := szr (1048576 : Int) (sizeTaskS aL);
bif decide ((↑(ByteArray.size aUndo) : Int) > (1048576 : Int)) then Lf [DV.one (Cell.lit (Value.bool true))] [DV.one (Cell.lit (Value.bool true))] else (0 : Int) ≤ (1048576 : Int) ∧ bif decide (x5 < (0 : Int)) then Lf [DV.one (Cell.lit (Value.bool true))] [DV.one (Cell.lit (Value.bool true))] else (0 : Int) ≤ x5 ∧ bif decide (szr x5 (sizeFact aF) < (0 : Int)) then Lf [DV.one (Cell.lit (Value.bool true))] [DV.one (Cell.lit (Value.bool true))] else sizeTaskS aL ≤ (4294967296 : Nat) ∧ sizeFact aF ≤ (4294967296 : Nat) ∧ sizeTaskS aL ≤ (4294967296 : Nat) ∧ List.length aF.Fields ≤ (4294967296 : Nat) ∧ sizeTaskS aL ≤ (4294967296 : Nat) ∧ sizeFact aF ≤ (4294967296 : Nat) ∧ sizeTaskS aL ≤ (4294967296 : Nat) ∧ List.length aF.Fields ≤ (4294967296 : Nat) ∧ bif x2 then Lf [DV.one (Cell.lit (Value.bool false))] [DV.one (Cell.lit (Value.bool true))] else bif x3 then Lf [DV.one (Cell.lit (Value.bool false))] [DV.one (Cell.lit (Value.bool true))] else sizeTaskS aL ≤ (4294967296 : Nat) ∧ bif !decide (aL = aL) then Lf [DV.one (Cell.lit (Value.bool false))] [DV.one (Cell.lit (Value.bool true))] else sizeFact aF ≤ (4294967296 : Nat) ∧ bif !decide (aF = aF) then Lf [DV.one (Cell.lit (Value.bool false))] [DV.one (Cell.lit (Value.bool true))] else (0 : Int) ≤ (1 : Int) ∧ x4 ≤ (4611686018427387904 : Int) ∧ (0 : Int) ≤ x4 ∧ x4 + (↑(ctFact aF) : Int) ≤ (4611686018427387904 : Int) ∧ bif x2 then Lf [DV.one (Cell.lit (Value.bool false))] [DV.one (Cell.lit (Value.bool true))] else bif x3 then Lf [DV.one (Cell.lit (Value.bool false))] [DV.one (Cell.lit (Value.bool true))] else (0 : Int) ≤ (1 : Int) ∧ (1 : Int) + (↑(cntTaskS (startTask { τ := Cd.eTask, xs := aL : Arr UU }.xs { Kind := aF.Kind, Fields := { τ := Cd.eVal, xs := aF.Fields : Arr UU }.xs : DFact } aUndo aNow).1) : Int) ≤ (4611686018427387904 : Int) ∧ (0 : Int) ≤ (1 : Int) ∧ (1 : Int) + (↑(cntTaskS (markTaskS (startTask { τ := Cd.eTask, xs := aL : Arr UU }.xs { Kind := aF.Kind, Fields := { τ := Cd.eVal, xs := aF.Fields : Arr UU }.xs : DFact } aUndo aNow).1 (1 : Int))) : Int) ≤ (4611686018427387904 : Int) ∧ bif x0 then Lf [DV.one (Cell.lit (Value.bool false))] [DV.one (Cell.lit (Value.bool true))] else bif x1 then Lf [DV.one (Cell.lit (Value.bool false))] [DV.one (Cell.lit (Value.bool true))] else sizeTaskS aL ≤ (4294967296 : Nat) ∧ sizeFact aF ≤ (4294967296 : Nat) ∧ sizeTaskS aL ≤ (4294967296 : Nat) ∧ List.length aF.Fields ≤ (4294967296 : Nat) ∧ bif x2 then Lf [DV.one (Cell.lit (Value.bool false))] [DV.one (Cell.lit (Value.bool true))] else bif x3 then Lf [DV.one (Cell.lit (Value.bool false))] [DV.one (Cell.lit (Value.bool true))] else (0 : Int) ≤ (1 : Int) ∧ (1 : Int) + (↑(cntTaskS (markTaskS (startTask { τ := Cd.eTask, xs := aL : Arr UU }.xs { Kind := aF.Kind, Fields := { τ := Cd.eVal, xs := aF.Fields : Arr UU }.xs : DFact } aUndo aNow).1 (1 : Int))) : Int) ≤ (4611686018427387904 : Int) ∧ bif x0 then Lf [DV.one (Cell.lit (Value.bool false))] [DV.one (Cell.lit (Value.bool true))] else bif x1 then Lf [DV.one (Cell.lit (Value.bool false))] [DV.one (Cell.lit (Value.bool true))] else Lf [DV.one (Cell.lit (Value.bool true))] [DV.one (Cell.lit (Value.bool true))]) := by kernel_rfl
theorem ok_laws_FnExactStartTask : Holds EE (9, con_laws_FnExactStartTask) := by
  refine holds_of EE_ok Go.Proofs.Try.func9 con_laws_FnExactStartTask (by kernel_rfl) rfl use_laws_FnExactStartTask (all_cons ok_laws_szTaskS (all_cons ok_laws_szFact (all_cons ok_laws_toTaskS (all_cons ok_laws_toFact (all_cons ok_spec_StartTask (all_cons ok_impl_StartTask (all_cons ok_laws_eqTaskS (all_cons ok_laws_eqFact (all_cons ok_laws_markTaskS (all_cons ok_laws_markFact (all_cons ok_laws_heldTaskS all_nil))))))))))) ann_laws_FnExactStartTask (fun x hp hb => ?_)
  obtain ⟨aL, aF, aUndo, aNow⟩ := x
  have hb_aL : BdDV (U := UU) (.one (.sl .lTask aL)) := hb _ (List.mem_cons_self)
  have hl_aL : aL.length ≤ 9223372036854775807 := Bd.len hb_aL
  have hb_aF : BdDV (U := UU) (.agg [.lit (.string aF.Kind), .sl .lVal aF.Fields]) := hb _ (List.mem_cons_of_mem _ (List.mem_cons_self))
  have hl_aF_Kind : aF.Kind.size ≤ 9223372036854775807 := Bd.str (hb_aF _ (by simp))
  have hl_aF_Fields : aF.Fields.length ≤ 9223372036854775807 := Bd.len (U := UU) (τ := .lVal) (xs := aF.Fields) (hb_aF _ (by simp))
  have hb_aUndo : BdDV (U := UU) (.one (.lit (.string aUndo))) := hb _ (List.mem_cons_of_mem _ (List.mem_cons_of_mem _ (List.mem_cons_self)))
  have hl_aUndo : aUndo.size ≤ 9223372036854775807 := Bd.str hb_aUndo
  have hb_aNow : BdDV (U := UU) (.one (.lit (.int .i64 aNow))) := hb _ (List.mem_cons_of_mem _ (List.mem_cons_of_mem _ (List.mem_cons_of_mem _ (List.mem_cons_self))))
  have hl_aNow := Bd.i64 hb_aNow
  clear hp hb
  rw [vc_laws_FnExactStartTask aL aF aUndo aNow]
  dsimp only
  obtain ⟨fk, ff⟩ := aF
  dsimp only at hb_aF hl_aF_Kind hl_aF_Fields ⊢
  refine if_cond (fun h => Lf_rfl _) (fun hu => ?_)
  have hu := of_decide_eq_false hu
  refine ⟨by omega, if_cond (fun h => Lf_rfl _) (fun h => ?_)⟩
  obtain ⟨e0, h0⟩ := szr_pos h
  rw [e0]
  refine ⟨by omega, if_cond (fun h => Lf_rfl _) (fun h => ?_)⟩
  obtain ⟨e1, h1⟩ := szr_pos h
  have hf : ff.length ≤ sizeFact ⟨fk, ff⟩ := by simp only [sizeFact, sizeValS]; omega
  have hc := cntTaskS_le aL
  have hc2 := startTask_ct aL ⟨fk, ff⟩ aUndo aNow
  have hc3 := ctFact_le ⟨fk, ff⟩
  simp only [mkFact_eta, mkFact_idem, mkFact_ct, markTaskS_idem, markTaskS_ct, if_true]
  repeat' (first | exact Lf_rfl _ | refine And.intro (by omega) ?_ | refine if_cond (fun h => absurd h (by first | (simp; done) | (simp; omega))) (fun h => ?_) | fail)
end
end AM
