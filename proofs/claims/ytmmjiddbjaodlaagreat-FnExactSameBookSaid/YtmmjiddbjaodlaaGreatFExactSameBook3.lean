/- Functions of the program with their contracts: put together by gen/link.py for FnExactSameBook. -/
import Derived.Test.YtmmjiddbjaodlaaGreatAmLib
import Derived.Test.YtmmjiddbjaodlaaGreatAmModels
import Derived.Test.YtmmjiddbjaodlaaGreatFExactSameBook2
namespace AM
open Go
set_option linter.unusedVariables false
set_option linter.unusedSimpArgs false
set_option maxRecDepth 100000
noncomputable section
def con_impl_sameRule : Con UU where
  α := DRule × DRule
  md := [.ro, .ro]
  of := fun | [.agg [.lit (.string a0), .lit (.int .i64 a1), .sl .ePat a2, .sl .eCond a3, .sl .eAct a4], .agg [.lit (.string a5), .lit (.int .i64 a6), .sl .ePat a7, .sl .eCond a8, .sl .eAct a9]] => some (⟨a0, a1, a2, a3, a4⟩, ⟨a5, a6, a7, a8, a9⟩) | _ => none
  ds := fun (a, b) => [.agg [.lit (.string a.Name), .lit (.int .i64 a.Sal), .sl .ePat a.Pats, .sl .eCond a.Conds, .sl .eAct a.Acts], .agg [.lit (.string b.Name), .lit (.int .i64 b.Sal), .sl .ePat b.Pats, .sl .eCond b.Conds, .sl .eAct b.Acts]]
  pre := fun (a, b) => []
  res := fun (a, b) => ⟨[.one (.lit (.bool (decide (a = b))))], true, []⟩
  law := by intro l x h; (try simp only at h); split at h <;> cases h; rfl
def ann_impl_sameRule : con_impl_sameRule.α → Nat → Option (Ann UU) := fun (a, b) => annL []
def use_impl_sameRule : List (FuncId × Con UU) := [(53, con_EqualCond), (54, con_EqualFuncPat), (55, con_impl_samePat), (56, con_EqualFuncAct), (57, con_impl_sameAct)]
theorem vc_impl_sameRule (a : DRule) (b : DRule) : goal EE use_impl_sameRule Go.Proofs.Tryz.f32 con_impl_sameRule ann_impl_sameRule (a, b) = (bif !ByteArray.toList a.Name == ByteArray.toList b.Name then Lf [DV.one (Cell.lit (Value.bool false))] [DV.one (Cell.lit (Value.bool (decide (a = b))))] else bif a.Sal != b.Sal then Lf [DV.one (Cell.lit (Value.bool false))] [DV.one (Cell.lit (Value.bool (decide (a = b))))] else bif !decide (a.Conds = b.Conds) then Lf [DV.one (Cell.lit (Value.bool false))] [DV.one (Cell.lit (Value.bool (decide (a = b))))] else (∀ (j : Nat), j < List.length a.Pats → j < List.length b.Pats → closP con_impl_samePat [] [qaPat (List.getD a.Pats j zPat), qaPat (List.getD b.Pats j zPat)] = some (Value.bool (decide (List.getD a.Pats j zPat = List.getD b.Pats j zPat)))) ∧ bif decide (a.Pats = b.Pats) then (∀ (j : Nat), j < List.length a.Acts → j < List.length b.Acts → closP con_impl_sameAct [] [qaAct (List.getD a.Acts j zAct), qaAct (List.getD b.Acts j zAct)] = some (Value.bool (decide (List.getD a.Acts j zAct = List.getD b.Acts j zAct)))) ∧ Lf [DV.one (Cell.lit (Value.bool (decide (a.Acts = b.Acts))))] [DV.one (Cell.lit (Value.bool (decide (a = b))))] else Lf [DV.one (Cell.lit (Value.bool false))] [DV.one (Cell.lit (Value.bool (decide (a = b))))]) := by kernel_rfl
theorem ok_impl_sameRule : Holds EE (32, con_impl_sameRule) := by
  refine holds_of EE_ok Go.Proofs.Tryz.func32 con_impl_sameRule (by kernel_rfl) use_impl_sameRule (all_cons ok_EqualCond (all_cons ok_EqualFuncPat (all_cons ok_impl_samePat (all_cons ok_EqualFuncAct (all_cons ok_impl_sameAct all_nil))))) ann_impl_sameRule (fun x hp hb => ?_)
  obtain ⟨a, b⟩ := x
  have hb_a : BdDV (U := UU) (.agg [.lit (.string a.Name), .lit (.int .i64 a.Sal), .sl .ePat a.Pats, .sl .eCond a.Conds, .sl .eAct a.Acts]) := hb _ (List.mem_cons_self)
  have hl_a_Name : a.Name.size ≤ 9223372036854775807 := Bd.str (hb_a _ (by simp))
  have hl_a_Pats : a.Pats.length ≤ 9223372036854775807 := Bd.len (U := UU) (τ := .ePat) (xs := a.Pats) (hb_a _ (by simp))
  have hl_a_Conds : a.Conds.length ≤ 9223372036854775807 := Bd.len (U := UU) (τ := .eCond) (xs := a.Conds) (hb_a _ (by simp))
  have hl_a_Acts : a.Acts.length ≤ 9223372036854775807 := Bd.len (U := UU) (τ := .eAct) (xs := a.Acts) (hb_a _ (by simp))
  have hb_b : BdDV (U := UU) (.agg [.lit (.string b.Name), .lit (.int .i64 b.Sal), .sl .ePat b.Pats, .sl .eCond b.Conds, .sl .eAct b.Acts]) := hb _ (List.mem_cons_of_mem _ (List.mem_cons_self))
  have hl_b_Name : b.Name.size ≤ 9223372036854775807 := Bd.str (hb_b _ (by simp))
  have hl_b_Pats : b.Pats.length ≤ 9223372036854775807 := Bd.len (U := UU) (τ := .ePat) (xs := b.Pats) (hb_b _ (by simp))
  have hl_b_Conds : b.Conds.length ≤ 9223372036854775807 := Bd.len (U := UU) (τ := .eCond) (xs := b.Conds) (hb_b _ (by simp))
  have hl_b_Acts : b.Acts.length ≤ 9223372036854775807 := Bd.len (U := UU) (τ := .eAct) (xs := b.Acts) (hb_b _ (by simp))
  clear hp hb
  rw [vc_impl_sameRule a b]
  have h1 : ∀ x y : DPat, closP con_impl_samePat [] [qaPat x, qaPat y] = some (.bool (decide (x = y))) := fun x y => closP_of (x := (x, y)) rfl rfl rfl rfl (by simp [con_impl_samePat])
  have h2 : ∀ x y : DAct, closP con_impl_sameAct [] [qaAct x, qaAct y] = some (.bool (decide (x = y))) := fun x y => closP_of (x := (x, y)) rfl rfl rfl rfl (by simp [con_impl_sameAct])
  obtain ⟨a1, a2, a3, a4, a5⟩ := a
  obtain ⟨b1, b2, b3, b4, b5⟩ := b
  simp only [toList_beq]
  refine if_cond (fun h => Lf_b ?_) (fun h => if_cond (fun h' => Lf_b ?_) (fun h' => if_cond (fun h3 => Lf_b ?_) (fun h3 => ⟨fun j _ _ => h1 _ _, if_cond (fun h4 => ⟨fun j _ _ => h2 _ _, Lf_b ?_⟩) (fun h4 => Lf_b ?_)⟩)))
  all_goals (simp only [DRule.mk.injEq] at *; grind)
def con_impl_SameDef : Con UU where
  α := DDef × DDef
  md := [.ro, .ro]
  of := fun | [.agg [.lit (.string a0), .sl .eRule a1], .agg [.lit (.string a2), .sl .eRule a3]] => some (⟨a0, a1⟩, ⟨a2, a3⟩) | _ => none
  ds := fun (a, b) => [.agg [.lit (.string a.Name), .sl .eRule a.Rules], .agg [.lit (.string b.Name), .sl .eRule b.Rules]]
  pre := fun (a, b) => []
  res := fun (a, b) => ⟨[.one (.lit (.bool (decide (a = b))))], true, []⟩
  law := by intro l x h; (try simp only at h); split at h <;> cases h; rfl
def ann_impl_SameDef : con_impl_SameDef.α → Nat → Option (Ann UU) := fun (a, b) => annL []
def use_impl_SameDef : List (FuncId × Con UU) := [(31, con_EqualFuncRule), (32, con_impl_sameRule)]
theorem vc_impl_SameDef (a : DDef) (b : DDef) : goal EE use_impl_SameDef Go.Proofs.Tryz.f16 con_impl_SameDef ann_impl_SameDef (a, b) = (bif ByteArray.toList a.Name == ByteArray.toList b.Name then (∀ (j : Nat), j < List.length a.Rules → j < List.length b.Rules → closP con_impl_sameRule [] [qaRule (List.getD a.Rules j zRule), qaRule (List.getD b.Rules j zRule)] = some (Value.bool (decide (List.getD a.Rules j zRule = List.getD b.Rules j zRule)))) ∧ Lf [DV.one (Cell.lit (Value.bool (decide (a.Rules = b.Rules))))] [DV.one (Cell.lit (Value.bool (decide (a = b))))] else Lf [DV.one (Cell.lit (Value.bool false))] [DV.one (Cell.lit (Value.bool (decide (a = b))))]) := by kernel_rfl
theorem ok_impl_SameDef : Holds EE (16, con_impl_SameDef) := by
  refine holds_of EE_ok Go.Proofs.Tryz.func16 con_impl_SameDef (by kernel_rfl) use_impl_SameDef (all_cons ok_EqualFuncRule (all_cons ok_impl_sameRule all_nil)) ann_impl_SameDef (fun x hp hb => ?_)
  obtain ⟨a, b⟩ := x
  have hb_a : BdDV (U := UU) (.agg [.lit (.string a.Name), .sl .eRule a.Rules]) := hb _ (List.mem_cons_self)
  have hl_a_Name : a.Name.size ≤ 9223372036854775807 := Bd.str (hb_a _ (by simp))
  have hl_a_Rules : a.Rules.length ≤ 9223372036854775807 := Bd.len (U := UU) (τ := .eRule) (xs := a.Rules) (hb_a _ (by simp))
  have hb_b : BdDV (U := UU) (.agg [.lit (.string b.Name), .sl .eRule b.Rules]) := hb _ (List.mem_cons_of_mem _ (List.mem_cons_self))
  have hl_b_Name : b.Name.size ≤ 9223372036854775807 := Bd.str (hb_b _ (by simp))
  have hl_b_Rules : b.Rules.length ≤ 9223372036854775807 := Bd.len (U := UU) (τ := .eRule) (xs := b.Rules) (hb_b _ (by simp))
  clear hp hb
  rw [vc_impl_SameDef a b]
  have h1 : ∀ x y : DRule, closP con_impl_sameRule [] [qaRule x, qaRule y] = some (.bool (decide (x = y))) := fun x y => closP_of (x := (x, y)) rfl rfl rfl rfl (by simp [con_impl_sameRule])
  obtain ⟨a1, a2⟩ := a
  obtain ⟨b1, b2⟩ := b
  try simp only [toList_beq]
  refine if_cond (fun h => ⟨fun j _ _ => h1 _ _, Lf_b ?_⟩) (fun h => Lf_b ?_)
  all_goals (simp only [DDef.mk.injEq] at *; grind)
def con_impl_sameTask : Con UU where
  α := DTask × DTask
  md := [.ro, .ro]
  of := fun | [.agg [.lit (.string a0), .sl .eVal a1, .lit (.string a2), .lit (.int .i64 a3), .lit (.int .i64 a4), .lit (.int .i64 a5), .lit (.int .i64 a6), .lit (.int .i64 a7), .lit (.string a8)], .agg [.lit (.string a9), .sl .eVal a10, .lit (.string a11), .lit (.int .i64 a12), .lit (.int .i64 a13), .lit (.int .i64 a14), .lit (.int .i64 a15), .lit (.int .i64 a16), .lit (.string a17)]] => some (⟨⟨a0, a1⟩, a2, a3, a4, a5, ⟨a6, a7, a8⟩⟩, ⟨⟨a9, a10⟩, a11, a12, a13, a14, ⟨a15, a16, a17⟩⟩) | _ => none
  ds := fun (a, b) => [.agg [.lit (.string a.F.Kind), .sl .eVal a.F.Fields, .lit (.string a.Undo), .lit (.int .i64 a.State), .lit (.int .i64 a.Tries), .lit (.int .i64 a.Due), .lit (.int .i64 a.V.K), .lit (.int .i64 a.V.N), .lit (.string a.V.S)], .agg [.lit (.string b.F.Kind), .sl .eVal b.F.Fields, .lit (.string b.Undo), .lit (.int .i64 b.State), .lit (.int .i64 b.Tries), .lit (.int .i64 b.Due), .lit (.int .i64 b.V.K), .lit (.int .i64 b.V.N), .lit (.string b.V.S)]]
  pre := fun (a, b) => []
  res := fun (a, b) => ⟨[.one (.lit (.bool (decide (a = b))))], true, []⟩
  law := by intro l x h; (try simp only at h); split at h <;> cases h; rfl
def ann_impl_sameTask : con_impl_sameTask.α → Nat → Option (Ann UU) := fun (a, b) => annL []
def use_impl_sameTask : List (FuncId × Con UU) := [(37, con_impl_SameFact)]
theorem vc_impl_sameTask (a : DTask) (b : DTask) : goal EE use_impl_sameTask Go.Proofs.Tryz.f42 con_impl_sameTask ann_impl_sameTask (a, b) = (bif ByteArray.toList a.Undo == ByteArray.toList b.Undo then bif a.State == b.State then bif a.Tries == b.Tries then bif a.Due == b.Due then bif a.V.K == b.V.K && (a.V.N == b.V.N && (ByteArray.toList a.V.S == ByteArray.toList b.V.S && true)) then Lf [DV.one (Cell.lit (Value.bool (decide (a.F = b.F))))] [DV.one (Cell.lit (Value.bool (decide (a = b))))] else Lf [DV.one (Cell.lit (Value.bool false))] [DV.one (Cell.lit (Value.bool (decide (a = b))))] else Lf [DV.one (Cell.lit (Value.bool false))] [DV.one (Cell.lit (Value.bool (decide (a = b))))] else Lf [DV.one (Cell.lit (Value.bool false))] [DV.one (Cell.lit (Value.bool (decide (a = b))))] else Lf [DV.one (Cell.lit (Value.bool false))] [DV.one (Cell.lit (Value.bool (decide (a = b))))] else Lf [DV.one (Cell.lit (Value.bool false))] [DV.one (Cell.lit (Value.bool (decide (a = b))))]) := by kernel_rfl
theorem ok_impl_sameTask : Holds EE (42, con_impl_sameTask) := by
  refine holds_of EE_ok Go.Proofs.Tryz.func42 con_impl_sameTask (by kernel_rfl) use_impl_sameTask (all_cons ok_impl_SameFact all_nil) ann_impl_sameTask (fun x hp hb => ?_)
  obtain ⟨a, b⟩ := x
  have hb_a : BdDV (U := UU) (.agg [.lit (.string a.F.Kind), .sl .eVal a.F.Fields, .lit (.string a.Undo), .lit (.int .i64 a.State), .lit (.int .i64 a.Tries), .lit (.int .i64 a.Due), .lit (.int .i64 a.V.K), .lit (.int .i64 a.V.N), .lit (.string a.V.S)]) := hb _ (List.mem_cons_self)
  have hl_a_F_Kind : a.F.Kind.size ≤ 9223372036854775807 := Bd.str (hb_a _ (by simp))
  have hl_a_F_Fields : a.F.Fields.length ≤ 9223372036854775807 := Bd.len (U := UU) (τ := .eVal) (xs := a.F.Fields) (hb_a _ (by simp))
  have hl_a_Undo : a.Undo.size ≤ 9223372036854775807 := Bd.str (hb_a _ (by simp))
  have hl_a_V_S : a.V.S.size ≤ 9223372036854775807 := Bd.str (hb_a _ (by simp))
  have hb_b : BdDV (U := UU) (.agg [.lit (.string b.F.Kind), .sl .eVal b.F.Fields, .lit (.string b.Undo), .lit (.int .i64 b.State), .lit (.int .i64 b.Tries), .lit (.int .i64 b.Due), .lit (.int .i64 b.V.K), .lit (.int .i64 b.V.N), .lit (.string b.V.S)]) := hb _ (List.mem_cons_of_mem _ (List.mem_cons_self))
  have hl_b_F_Kind : b.F.Kind.size ≤ 9223372036854775807 := Bd.str (hb_b _ (by simp))
  have hl_b_F_Fields : b.F.Fields.length ≤ 9223372036854775807 := Bd.len (U := UU) (τ := .eVal) (xs := b.F.Fields) (hb_b _ (by simp))
  have hl_b_Undo : b.Undo.size ≤ 9223372036854775807 := Bd.str (hb_b _ (by simp))
  have hl_b_V_S : b.V.S.size ≤ 9223372036854775807 := Bd.str (hb_b _ (by simp))
  clear hp hb
  rw [vc_impl_sameTask a b]
  obtain ⟨a1, a2, a3, a4, a5, a6⟩ := a
  obtain ⟨b1, b2, b3, b4, b5, b6⟩ := b
  try simp only [val_beq]
  try simp only [toList_beq]
  repeat' (refine if_cond (fun h => ?_) (fun h => ?_))
  all_goals (refine Lf_b ?_; simp only [DTask.mk.injEq] at *; grind)
def con_impl_sameInst_1 : Con UU where
  α := DTimer × DTimer
  md := [.ro, .ro]
  of := fun | [.agg [.lit (.int .i64 a0), .lit (.string a1), .sl .eVal a2], .agg [.lit (.int .i64 a3), .lit (.string a4), .sl .eVal a5]] => some (⟨a0, ⟨a1, a2⟩⟩, ⟨a3, ⟨a4, a5⟩⟩) | _ => none
  ds := fun (a, b) => [.agg [.lit (.int .i64 a.At), .lit (.string a.F.Kind), .sl .eVal a.F.Fields], .agg [.lit (.int .i64 b.At), .lit (.string b.F.Kind), .sl .eVal b.F.Fields]]
  pre := fun (a, b) => []
  res := fun (a, b) => ⟨[.one (.lit (.bool (decide (a = b))))], true, []⟩
  law := by intro l x h; (try simp only at h); split at h <;> cases h; rfl
def ann_impl_sameInst_1 : con_impl_sameInst_1.α → Nat → Option (Ann UU) := fun (a, b) => annL []
def use_impl_sameInst_1 : List (FuncId × Con UU) := [(37, con_impl_SameFact)]
theorem vc_impl_sameInst_1 (a : DTimer) (b : DTimer) : goal EE use_impl_sameInst_1 Go.Proofs.Tryz.f36 con_impl_sameInst_1 ann_impl_sameInst_1 (a, b) = (bif a.At == b.At then Lf [DV.one (Cell.lit (Value.bool (decide (a.F = b.F))))] [DV.one (Cell.lit (Value.bool (decide (a = b))))] else Lf [DV.one (Cell.lit (Value.bool false))] [DV.one (Cell.lit (Value.bool (decide (a = b))))]) := by kernel_rfl
theorem ok_impl_sameInst_1 : Holds EE (36, con_impl_sameInst_1) := by
  refine holds_of EE_ok Go.Proofs.Tryz.func36 con_impl_sameInst_1 (by kernel_rfl) use_impl_sameInst_1 (all_cons ok_impl_SameFact all_nil) ann_impl_sameInst_1 (fun x hp hb => ?_)
  obtain ⟨a, b⟩ := x
  have hb_a : BdDV (U := UU) (.agg [.lit (.int .i64 a.At), .lit (.string a.F.Kind), .sl .eVal a.F.Fields]) := hb _ (List.mem_cons_self)
  have hl_a_F_Kind : a.F.Kind.size ≤ 9223372036854775807 := Bd.str (hb_a _ (by simp))
  have hl_a_F_Fields : a.F.Fields.length ≤ 9223372036854775807 := Bd.len (U := UU) (τ := .eVal) (xs := a.F.Fields) (hb_a _ (by simp))
  have hb_b : BdDV (U := UU) (.agg [.lit (.int .i64 b.At), .lit (.string b.F.Kind), .sl .eVal b.F.Fields]) := hb _ (List.mem_cons_of_mem _ (List.mem_cons_self))
  have hl_b_F_Kind : b.F.Kind.size ≤ 9223372036854775807 := Bd.str (hb_b _ (by simp))
  have hl_b_F_Fields : b.F.Fields.length ≤ 9223372036854775807 := Bd.len (U := UU) (τ := .eVal) (xs := b.F.Fields) (hb_b _ (by simp))
  clear hp hb
  rw [vc_impl_sameInst_1 a b]
  obtain ⟨a1, a2⟩ := a
  obtain ⟨b1, b2⟩ := b
  try simp only [val_beq]
  try simp only [toList_beq]
  repeat' (refine if_cond (fun h => ?_) (fun h => ?_))
  all_goals (refine Lf_b ?_; simp only [DTimer.mk.injEq] at *; grind)
def con_impl_sameInst_2 : Con UU where
  α := DUndo × DUndo
  md := [.ro, .ro]
  of := fun | [.agg [.lit (.string a0), .lit (.string a1), .sl .eVal a2], .agg [.lit (.string a3), .lit (.string a4), .sl .eVal a5]] => some (⟨a0, ⟨a1, a2⟩⟩, ⟨a3, ⟨a4, a5⟩⟩) | _ => none
  ds := fun (a, b) => [.agg [.lit (.string a.Key), .lit (.string a.F.Kind), .sl .eVal a.F.Fields], .agg [.lit (.string b.Key), .lit (.string b.F.Kind), .sl .eVal b.F.Fields]]
  pre := fun (a, b) => []
  res := fun (a, b) => ⟨[.one (.lit (.bool (decide (a = b))))], true, []⟩
  law := by intro l x h; (try simp only at h); split at h <;> cases h; rfl
def ann_impl_sameInst_2 : con_impl_sameInst_2.α → Nat → Option (Ann UU) := fun (a, b) => annL []
def use_impl_sameInst_2 : List (FuncId × Con UU) := [(37, con_impl_SameFact)]
theorem vc_impl_sameInst_2 (a : DUndo) (b : DUndo) : goal EE use_impl_sameInst_2 Go.Proofs.Tryz.f39 con_impl_sameInst_2 ann_impl_sameInst_2 (a, b) = (bif ByteArray.toList a.Key == ByteArray.toList b.Key then Lf [DV.one (Cell.lit (Value.bool (decide (a.F = b.F))))] [DV.one (Cell.lit (Value.bool (decide (a = b))))] else Lf [DV.one (Cell.lit (Value.bool false))] [DV.one (Cell.lit (Value.bool (decide (a = b))))]) := by kernel_rfl
theorem ok_impl_sameInst_2 : Holds EE (39, con_impl_sameInst_2) := by
  refine holds_of EE_ok Go.Proofs.Tryz.func39 con_impl_sameInst_2 (by kernel_rfl) use_impl_sameInst_2 (all_cons ok_impl_SameFact all_nil) ann_impl_sameInst_2 (fun x hp hb => ?_)
  obtain ⟨a, b⟩ := x
  have hb_a : BdDV (U := UU) (.agg [.lit (.string a.Key), .lit (.string a.F.Kind), .sl .eVal a.F.Fields]) := hb _ (List.mem_cons_self)
  have hl_a_Key : a.Key.size ≤ 9223372036854775807 := Bd.str (hb_a _ (by simp))
  have hl_a_F_Kind : a.F.Kind.size ≤ 9223372036854775807 := Bd.str (hb_a _ (by simp))
  have hl_a_F_Fields : a.F.Fields.length ≤ 9223372036854775807 := Bd.len (U := UU) (τ := .eVal) (xs := a.F.Fields) (hb_a _ (by simp))
  have hb_b : BdDV (U := UU) (.agg [.lit (.string b.Key), .lit (.string b.F.Kind), .sl .eVal b.F.Fields]) := hb _ (List.mem_cons_of_mem _ (List.mem_cons_self))
  have hl_b_Key : b.Key.size ≤ 9223372036854775807 := Bd.str (hb_b _ (by simp))
  have hl_b_F_Kind : b.F.Kind.size ≤ 9223372036854775807 := Bd.str (hb_b _ (by simp))
  have hl_b_F_Fields : b.F.Fields.length ≤ 9223372036854775807 := Bd.len (U := UU) (τ := .eVal) (xs := b.F.Fields) (hb_b _ (by simp))
  clear hp hb
  rw [vc_impl_sameInst_2 a b]
  obtain ⟨a1, a2⟩ := a
  obtain ⟨b1, b2⟩ := b
  try simp only [val_beq]
  try simp only [toList_beq]
  repeat' (refine if_cond (fun h => ?_) (fun h => ?_))
  all_goals (refine Lf_b ?_; simp only [DUndo.mk.injEq] at *; grind)
def con_impl_SameSet_1 : Con UU where
  α := DMatch × DMatch
  md := [.ro, .ro]
  of := fun | [.agg [.lit (.int .i64 a0), .sl .int a1, .sl .eBind a2], .agg [.lit (.int .i64 a3), .sl .int a4, .sl .eBind a5]] => some (⟨a0, a1, a2⟩, ⟨a3, a4, a5⟩) | _ => none
  ds := fun (a, b) => [.agg [.lit (.int .i64 a.Rule), .sl .int a.Ids, .sl .eBind a.Binds], .agg [.lit (.int .i64 b.Rule), .sl .int b.Ids, .sl .eBind b.Binds]]
  pre := fun (a, b) => []
  res := fun (a, b) => ⟨[.one (.lit (.bool (decide (a = b))))], true, []⟩
  law := by intro l x h; (try simp only at h); split at h <;> cases h; rfl
def ann_impl_SameSet_1 : con_impl_SameSet_1.α → Nat → Option (Ann UU) := fun (a, b) => annL []
def use_impl_SameSet_1 : List (FuncId × Con UU) := [(61, con_impl_SameMatch), (62, con_EqualBind)]
theorem vc_impl_SameSet_1 (a : DMatch) (b : DMatch) : goal EE use_impl_SameSet_1 Go.Proofs.Tryz.f60 con_impl_SameSet_1 ann_impl_SameSet_1 (a, b) = (bif decide (a.Rule = b.Rule ∧ a.Ids = b.Ids) then Lf [DV.one (Cell.lit (Value.bool (decide (a.Binds = b.Binds))))] [DV.one (Cell.lit (Value.bool (decide (a = b))))] else Lf [DV.one (Cell.lit (Value.bool false))] [DV.one (Cell.lit (Value.bool (decide (a = b))))]) := by kernel_rfl
theorem ok_impl_SameSet_1 : Holds EE (60, con_impl_SameSet_1) := by
  refine holds_of EE_ok Go.Proofs.Tryz.func60 con_impl_SameSet_1 (by kernel_rfl) use_impl_SameSet_1 (all_cons ok_impl_SameMatch (all_cons ok_EqualBind all_nil)) ann_impl_SameSet_1 (fun x hp hb => ?_)
  obtain ⟨a, b⟩ := x
  have hb_a : BdDV (U := UU) (.agg [.lit (.int .i64 a.Rule), .sl .int a.Ids, .sl .eBind a.Binds]) := hb _ (List.mem_cons_self)
  have hl_a_Ids : a.Ids.length ≤ 9223372036854775807 := Bd.len (U := UU) (τ := .int) (xs := a.Ids) (hb_a _ (by simp))
  have hl_a_Binds : a.Binds.length ≤ 9223372036854775807 := Bd.len (U := UU) (τ := .eBind) (xs := a.Binds) (hb_a _ (by simp))
  have hb_b : BdDV (U := UU) (.agg [.lit (.int .i64 b.Rule), .sl .int b.Ids, .sl .eBind b.Binds]) := hb _ (List.mem_cons_of_mem _ (List.mem_cons_self))
  have hl_b_Ids : b.Ids.length ≤ 9223372036854775807 := Bd.len (U := UU) (τ := .int) (xs := b.Ids) (hb_b _ (by simp))
  have hl_b_Binds : b.Binds.length ≤ 9223372036854775807 := Bd.len (U := UU) (τ := .eBind) (xs := b.Binds) (hb_b _ (by simp))
  clear hp hb
  rw [vc_impl_SameSet_1 a b]
  obtain ⟨a1, a2, a3⟩ := a
  obtain ⟨b1, b2, b3⟩ := b
  try simp only [val_beq]
  try simp only [toList_beq]
  repeat' (refine if_cond (fun h => ?_) (fun h => ?_))
  all_goals (refine Lf_b ?_; simp only [DMatch.mk.injEq] at *; grind)
def con_impl_SameSet : Con UU where
  α := (List DMatch) × (List DMatch)
  md := [.ro, .ro]
  of := fun | [.one (.sl .eMatch a0), .one (.sl .eMatch a1)] => some (a0, a1) | _ => none
  ds := fun (a, b) => [.one (.sl .eMatch a), .one (.sl .eMatch b)]
  pre := fun (a, b) => []
  res := fun (a, b) => ⟨[.one (.lit (.bool (decide (a = b))))], true, []⟩
  law := by intro l x h; (try simp only at h); split at h <;> cases h; rfl
def ann_impl_SameSet : con_impl_SameSet.α → Nat → Option (Ann UU) := fun (a, b) => annL []
def use_impl_SameSet : List (FuncId × Con UU) := [(59, con_EqualFuncMatch), (60, con_impl_SameSet_1)]
theorem vc_impl_SameSet (a : (List DMatch)) (b : (List DMatch)) : goal EE use_impl_SameSet Go.Proofs.Tryz.f40 con_impl_SameSet ann_impl_SameSet (a, b) = ((∀ (j : Nat), j < List.length a → j < List.length b → closP con_impl_SameSet_1 [] [qaMatch (List.getD a j zMatch), qaMatch (List.getD b j zMatch)] = some (Value.bool (decide (List.getD a j zMatch = List.getD b j zMatch)))) ∧ Lf [DV.one (Cell.lit (Value.bool (decide (a = b))))] [DV.one (Cell.lit (Value.bool (decide (a = b))))]) := by kernel_rfl
theorem ok_impl_SameSet : Holds EE (40, con_impl_SameSet) := by
  refine holds_of EE_ok Go.Proofs.Tryz.func40 con_impl_SameSet (by kernel_rfl) use_impl_SameSet (all_cons ok_EqualFuncMatch (all_cons ok_impl_SameSet_1 all_nil)) ann_impl_SameSet (fun x hp hb => ?_)
  obtain ⟨a, b⟩ := x
  have hb_a : BdDV (U := UU) (.one (.sl .eMatch a)) := hb _ (List.mem_cons_self)
  have hl_a : a.length ≤ 9223372036854775807 := Bd.len hb_a
  have hb_b : BdDV (U := UU) (.one (.sl .eMatch b)) := hb _ (List.mem_cons_of_mem _ (List.mem_cons_self))
  have hl_b : b.length ≤ 9223372036854775807 := Bd.len hb_b
  clear hp hb
  rw [vc_impl_SameSet a b]
  have h1 : ∀ x y : DMatch, closP con_impl_SameSet_1 [] [qaMatch x, qaMatch y] = some (.bool (decide (x = y))) := fun x y => closP_of (x := (x, y)) rfl rfl rfl rfl (by simp [con_impl_SameSet_1])
  exact ⟨fun j _ _ => h1 _ _, Lf_rfl _⟩
def con_impl_sameInst : Con UU where
  α := DInst × DInst
  md := [.ro, .ro]
  of := fun | [.agg [.sl .eItem a0, .lit (.int .i64 a1), .sl .eMatch a2, .sl .eTask a3, .sl .eTimer a4, .sl .eUndo a5, .lit (.int .i64 a6), .lit (.int .i64 a7)], .agg [.sl .eItem a8, .lit (.int .i64 a9), .sl .eMatch a10, .sl .eTask a11, .sl .eTimer a12, .sl .eUndo a13, .lit (.int .i64 a14), .lit (.int .i64 a15)]] => some (⟨⟨a0, a1⟩, a2, a3, a4, a5, a6, a7⟩, ⟨⟨a8, a9⟩, a10, a11, a12, a13, a14, a15⟩) | _ => none
  ds := fun (a, b) => [.agg [.sl .eItem a.S.Items, .lit (.int .i64 a.S.Next), .sl .eMatch a.Fired, .sl .eTask a.Tasks, .sl .eTimer a.Timers, .sl .eUndo a.Undos, .lit (.int .i64 a.State), .lit (.int .i64 a.Now)], .agg [.sl .eItem b.S.Items, .lit (.int .i64 b.S.Next), .sl .eMatch b.Fired, .sl .eTask b.Tasks, .sl .eTimer b.Timers, .sl .eUndo b.Undos, .lit (.int .i64 b.State), .lit (.int .i64 b.Now)]]
  pre := fun (a, b) => []
  res := fun (a, b) => ⟨[.one (.lit (.bool (decide (a = b))))], true, []⟩
  law := by intro l x h; (try simp only at h); split at h <;> cases h; rfl
def ann_impl_sameInst : con_impl_sameInst.α → Nat → Option (Ann UU) := fun (a, b) => annL []
def use_impl_sameInst : List (FuncId × Con UU) := [(33, con_EqualFuncItem), (34, con_impl_sameItem), (35, con_EqualFuncTimer), (36, con_impl_sameInst_1), (38, con_EqualFuncUndo), (39, con_impl_sameInst_2), (40, con_impl_SameSet), (41, con_EqualFuncTask), (42, con_impl_sameTask)]
theorem vc_impl_sameInst (a : DInst) (b : DInst) : goal EE use_impl_sameInst Go.Proofs.Tryz.f19 con_impl_sameInst ann_impl_sameInst (a, b) = (bif a.State != b.State then Lf [DV.one (Cell.lit (Value.bool false))] [DV.one (Cell.lit (Value.bool (decide (a = b))))] else bif a.Now != b.Now then Lf [DV.one (Cell.lit (Value.bool false))] [DV.one (Cell.lit (Value.bool (decide (a = b))))] else bif a.S.Next != b.S.Next then Lf [DV.one (Cell.lit (Value.bool false))] [DV.one (Cell.lit (Value.bool (decide (a = b))))] else (∀ (j : Nat), j < List.length a.S.Items → j < List.length b.S.Items → closP con_impl_sameItem [] [qaItem (List.getD a.S.Items j zItem), qaItem (List.getD b.S.Items j zItem)] = some (Value.bool (decide (List.getD a.S.Items j zItem = List.getD b.S.Items j zItem)))) ∧ bif !decide (a.S.Items = b.S.Items) then Lf [DV.one (Cell.lit (Value.bool false))] [DV.one (Cell.lit (Value.bool (decide (a = b))))] else (∀ (j : Nat), j < List.length a.Timers → j < List.length b.Timers → closP con_impl_sameInst_1 [] [qaTimer (List.getD a.Timers j zTimer), qaTimer (List.getD b.Timers j zTimer)] = some (Value.bool (decide (List.getD a.Timers j zTimer = List.getD b.Timers j zTimer)))) ∧ (∀ (j : Nat), j < List.length a.Undos → j < List.length b.Undos → closP con_impl_sameInst_2 [] [qaUndo (List.getD a.Undos j zUndo), qaUndo (List.getD b.Undos j zUndo)] = some (Value.bool (decide (List.getD a.Undos j zUndo = List.getD b.Undos j zUndo)))) ∧ bif decide (a.Timers = b.Timers) then bif decide (a.Undos = b.Undos) then bif decide (a.Fired = b.Fired) then (∀ (j : Nat), j < List.length a.Tasks → j < List.length b.Tasks → closP con_impl_sameTask [] [qaTask (List.getD a.Tasks j zTask), qaTask (List.getD b.Tasks j zTask)] = some (Value.bool (decide (List.getD a.Tasks j zTask = List.getD b.Tasks j zTask)))) ∧ Lf [DV.one (Cell.lit (Value.bool (decide (a.Tasks = b.Tasks))))] [DV.one (Cell.lit (Value.bool (decide (a = b))))] else Lf [DV.one (Cell.lit (Value.bool false))] [DV.one (Cell.lit (Value.bool (decide (a = b))))] else Lf [DV.one (Cell.lit (Value.bool false))] [DV.one (Cell.lit (Value.bool (decide (a = b))))] else Lf [DV.one (Cell.lit (Value.bool false))] [DV.one (Cell.lit (Value.bool (decide (a = b))))]) := by kernel_rfl
theorem ok_impl_sameInst : Holds EE (19, con_impl_sameInst) := by
  refine holds_of EE_ok Go.Proofs.Tryz.func19 con_impl_sameInst (by kernel_rfl) use_impl_sameInst (all_cons ok_EqualFuncItem (all_cons ok_impl_sameItem (all_cons ok_EqualFuncTimer (all_cons ok_impl_sameInst_1 (all_cons ok_EqualFuncUndo (all_cons ok_impl_sameInst_2 (all_cons ok_impl_SameSet (all_cons ok_EqualFuncTask (all_cons ok_impl_sameTask all_nil))))))))) ann_impl_sameInst (fun x hp hb => ?_)
  obtain ⟨a, b⟩ := x
  have hb_a : BdDV (U := UU) (.agg [.sl .eItem a.S.Items, .lit (.int .i64 a.S.Next), .sl .eMatch a.Fired, .sl .eTask a.Tasks, .sl .eTimer a.Timers, .sl .eUndo a.Undos, .lit (.int .i64 a.State), .lit (.int .i64 a.Now)]) := hb _ (List.mem_cons_self)
  have hl_a_S_Items : a.S.Items.length ≤ 9223372036854775807 := Bd.len (U := UU) (τ := .eItem) (xs := a.S.Items) (hb_a _ (by simp))
  have hl_a_Fired : a.Fired.length ≤ 9223372036854775807 := Bd.len (U := UU) (τ := .eMatch) (xs := a.Fired) (hb_a _ (by simp))
  have hl_a_Tasks : a.Tasks.length ≤ 9223372036854775807 := Bd.len (U := UU) (τ := .eTask) (xs := a.Tasks) (hb_a _ (by simp))
  have hl_a_Timers : a.Timers.length ≤ 9223372036854775807 := Bd.len (U := UU) (τ := .eTimer) (xs := a.Timers) (hb_a _ (by simp))
  have hl_a_Undos : a.Undos.length ≤ 9223372036854775807 := Bd.len (U := UU) (τ := .eUndo) (xs := a.Undos) (hb_a _ (by simp))
  have hb_b : BdDV (U := UU) (.agg [.sl .eItem b.S.Items, .lit (.int .i64 b.S.Next), .sl .eMatch b.Fired, .sl .eTask b.Tasks, .sl .eTimer b.Timers, .sl .eUndo b.Undos, .lit (.int .i64 b.State), .lit (.int .i64 b.Now)]) := hb _ (List.mem_cons_of_mem _ (List.mem_cons_self))
  have hl_b_S_Items : b.S.Items.length ≤ 9223372036854775807 := Bd.len (U := UU) (τ := .eItem) (xs := b.S.Items) (hb_b _ (by simp))
  have hl_b_Fired : b.Fired.length ≤ 9223372036854775807 := Bd.len (U := UU) (τ := .eMatch) (xs := b.Fired) (hb_b _ (by simp))
  have hl_b_Tasks : b.Tasks.length ≤ 9223372036854775807 := Bd.len (U := UU) (τ := .eTask) (xs := b.Tasks) (hb_b _ (by simp))
  have hl_b_Timers : b.Timers.length ≤ 9223372036854775807 := Bd.len (U := UU) (τ := .eTimer) (xs := b.Timers) (hb_b _ (by simp))
  have hl_b_Undos : b.Undos.length ≤ 9223372036854775807 := Bd.len (U := UU) (τ := .eUndo) (xs := b.Undos) (hb_b _ (by simp))
  clear hp hb
  rw [vc_impl_sameInst a b]
  have h1 : ∀ x y : DItem, closP con_impl_sameItem [] [qaItem x, qaItem y] = some (.bool (decide (x = y))) := fun x y => closP_of (x := (x, y)) rfl rfl rfl rfl (by simp [con_impl_sameItem])
  have h2 : ∀ x y : DTimer, closP con_impl_sameInst_1 [] [qaTimer x, qaTimer y] = some (.bool (decide (x = y))) := fun x y => closP_of (x := (x, y)) rfl rfl rfl rfl (by simp [con_impl_sameInst_1])
  have h3 : ∀ x y : DUndo, closP con_impl_sameInst_2 [] [qaUndo x, qaUndo y] = some (.bool (decide (x = y))) := fun x y => closP_of (x := (x, y)) rfl rfl rfl rfl (by simp [con_impl_sameInst_2])
  have h4 : ∀ x y : DTask, closP con_impl_sameTask [] [qaTask x, qaTask y] = some (.bool (decide (x = y))) := fun x y => closP_of (x := (x, y)) rfl rfl rfl rfl (by simp [con_impl_sameTask])
  obtain ⟨⟨a1, a1'⟩, a2, a3, a4, a5, a6, a7⟩ := a
  obtain ⟨⟨b1, b1'⟩, b2, b3, b4, b5, b6, b7⟩ := b
  try simp only [toList_beq]
  repeat' (first | refine Lf_b ?_ | refine if_cond (fun h => ?_) (fun h => ?_) | refine And.intro (fun j _ _ => h1 _ _) ?_ | refine And.intro (fun j _ _ => h2 _ _) ?_ | refine And.intro (fun j _ _ => h3 _ _) ?_ | refine And.intro (fun j _ _ => h4 _ _) ?_)
  all_goals (simp only [DInst.mk.injEq, DStore.mk.injEq] at *; grind)
def con_impl_SameBook_1 : Con UU where
  α := DWork × DWork
  md := [.ro, .ro]
  of := fun | [.agg [.lit (.string a0), .lit (.string a1), .sl .eItem a2, .lit (.int .i64 a3), .sl .eMatch a4, .sl .eTask a5, .sl .eTimer a6, .sl .eUndo a7, .lit (.int .i64 a8), .lit (.int .i64 a9)], .agg [.lit (.string a10), .lit (.string a11), .sl .eItem a12, .lit (.int .i64 a13), .sl .eMatch a14, .sl .eTask a15, .sl .eTimer a16, .sl .eUndo a17, .lit (.int .i64 a18), .lit (.int .i64 a19)]] => some (⟨a0, a1, ⟨⟨a2, a3⟩, a4, a5, a6, a7, a8, a9⟩⟩, ⟨a10, a11, ⟨⟨a12, a13⟩, a14, a15, a16, a17, a18, a19⟩⟩) | _ => none
  ds := fun (a, b) => [.agg [.lit (.string a.Name), .lit (.string a.Def), .sl .eItem a.X.S.Items, .lit (.int .i64 a.X.S.Next), .sl .eMatch a.X.Fired, .sl .eTask a.X.Tasks, .sl .eTimer a.X.Timers, .sl .eUndo a.X.Undos, .lit (.int .i64 a.X.State), .lit (.int .i64 a.X.Now)], .agg [.lit (.string b.Name), .lit (.string b.Def), .sl .eItem b.X.S.Items, .lit (.int .i64 b.X.S.Next), .sl .eMatch b.X.Fired, .sl .eTask b.X.Tasks, .sl .eTimer b.X.Timers, .sl .eUndo b.X.Undos, .lit (.int .i64 b.X.State), .lit (.int .i64 b.X.Now)]]
  pre := fun (a, b) => []
  res := fun (a, b) => ⟨[.one (.lit (.bool (decide (a = b))))], true, []⟩
  law := by intro l x h; (try simp only at h); split at h <;> cases h; rfl
def ann_impl_SameBook_1 : con_impl_SameBook_1.α → Nat → Option (Ann UU) := fun (a, b) => annL []
def use_impl_SameBook_1 : List (FuncId × Con UU) := [(19, con_impl_sameInst)]
theorem vc_impl_SameBook_1 (a : DWork) (b : DWork) : goal EE use_impl_SameBook_1 Go.Proofs.Tryz.f18 con_impl_SameBook_1 ann_impl_SameBook_1 (a, b) = (bif ByteArray.toList a.Name == ByteArray.toList b.Name then bif ByteArray.toList a.Def == ByteArray.toList b.Def then Lf [DV.one (Cell.lit (Value.bool (decide (a.X = b.X))))] [DV.one (Cell.lit (Value.bool (decide (a = b))))] else Lf [DV.one (Cell.lit (Value.bool false))] [DV.one (Cell.lit (Value.bool (decide (a = b))))] else Lf [DV.one (Cell.lit (Value.bool false))] [DV.one (Cell.lit (Value.bool (decide (a = b))))]) := by kernel_rfl
theorem ok_impl_SameBook_1 : Holds EE (18, con_impl_SameBook_1) := by
  refine holds_of EE_ok Go.Proofs.Tryz.func18 con_impl_SameBook_1 (by kernel_rfl) use_impl_SameBook_1 (all_cons ok_impl_sameInst all_nil) ann_impl_SameBook_1 (fun x hp hb => ?_)
  obtain ⟨a, b⟩ := x
  have hb_a : BdDV (U := UU) (.agg [.lit (.string a.Name), .lit (.string a.Def), .sl .eItem a.X.S.Items, .lit (.int .i64 a.X.S.Next), .sl .eMatch a.X.Fired, .sl .eTask a.X.Tasks, .sl .eTimer a.X.Timers, .sl .eUndo a.X.Undos, .lit (.int .i64 a.X.State), .lit (.int .i64 a.X.Now)]) := hb _ (List.mem_cons_self)
  have hl_a_Name : a.Name.size ≤ 9223372036854775807 := Bd.str (hb_a _ (by simp))
  have hl_a_Def : a.Def.size ≤ 9223372036854775807 := Bd.str (hb_a _ (by simp))
  have hl_a_X_S_Items : a.X.S.Items.length ≤ 9223372036854775807 := Bd.len (U := UU) (τ := .eItem) (xs := a.X.S.Items) (hb_a _ (by simp))
  have hl_a_X_Fired : a.X.Fired.length ≤ 9223372036854775807 := Bd.len (U := UU) (τ := .eMatch) (xs := a.X.Fired) (hb_a _ (by simp))
  have hl_a_X_Tasks : a.X.Tasks.length ≤ 9223372036854775807 := Bd.len (U := UU) (τ := .eTask) (xs := a.X.Tasks) (hb_a _ (by simp))
  have hl_a_X_Timers : a.X.Timers.length ≤ 9223372036854775807 := Bd.len (U := UU) (τ := .eTimer) (xs := a.X.Timers) (hb_a _ (by simp))
  have hl_a_X_Undos : a.X.Undos.length ≤ 9223372036854775807 := Bd.len (U := UU) (τ := .eUndo) (xs := a.X.Undos) (hb_a _ (by simp))
  have hb_b : BdDV (U := UU) (.agg [.lit (.string b.Name), .lit (.string b.Def), .sl .eItem b.X.S.Items, .lit (.int .i64 b.X.S.Next), .sl .eMatch b.X.Fired, .sl .eTask b.X.Tasks, .sl .eTimer b.X.Timers, .sl .eUndo b.X.Undos, .lit (.int .i64 b.X.State), .lit (.int .i64 b.X.Now)]) := hb _ (List.mem_cons_of_mem _ (List.mem_cons_self))
  have hl_b_Name : b.Name.size ≤ 9223372036854775807 := Bd.str (hb_b _ (by simp))
  have hl_b_Def : b.Def.size ≤ 9223372036854775807 := Bd.str (hb_b _ (by simp))
  have hl_b_X_S_Items : b.X.S.Items.length ≤ 9223372036854775807 := Bd.len (U := UU) (τ := .eItem) (xs := b.X.S.Items) (hb_b _ (by simp))
  have hl_b_X_Fired : b.X.Fired.length ≤ 9223372036854775807 := Bd.len (U := UU) (τ := .eMatch) (xs := b.X.Fired) (hb_b _ (by simp))
  have hl_b_X_Tasks : b.X.Tasks.length ≤ 9223372036854775807 := Bd.len (U := UU) (τ := .eTask) (xs := b.X.Tasks) (hb_b _ (by simp))
  have hl_b_X_Timers : b.X.Timers.length ≤ 9223372036854775807 := Bd.len (U := UU) (τ := .eTimer) (xs := b.X.Timers) (hb_b _ (by simp))
  have hl_b_X_Undos : b.X.Undos.length ≤ 9223372036854775807 := Bd.len (U := UU) (τ := .eUndo) (xs := b.X.Undos) (hb_b _ (by simp))
  clear hp hb
  rw [vc_impl_SameBook_1 a b]
  obtain ⟨a1, a2, a3⟩ := a
  obtain ⟨b1, b2, b3⟩ := b
  try simp only [val_beq]
  try simp only [toList_beq]
  repeat' (refine if_cond (fun h => ?_) (fun h => ?_))
  all_goals (refine Lf_b ?_; simp only [DWork.mk.injEq] at *; grind)
def con_impl_SameBook : Con UU where
  α := DBook × DBook
  md := [.ro, .ro]
  of := fun | [.agg [.sl .eDef a0, .sl .eWork a1, .lit (.int .i64 a2), .lit (.int .i64 a3)], .agg [.sl .eDef a4, .sl .eWork a5, .lit (.int .i64 a6), .lit (.int .i64 a7)]] => some (⟨a0, a1, a2, a3⟩, ⟨a4, a5, a6, a7⟩) | _ => none
  ds := fun (a, b) => [.agg [.sl .eDef a.Defs, .sl .eWork a.Works, .lit (.int .i64 a.Now), .lit (.int .i64 a.Ring)], .agg [.sl .eDef b.Defs, .sl .eWork b.Works, .lit (.int .i64 b.Now), .lit (.int .i64 b.Ring)]]
  pre := fun (a, b) => []
  res := fun (a, b) => ⟨[.one (.lit (.bool (decide (a = b))))], true, []⟩
  law := by intro l x h; (try simp only at h); split at h <;> cases h; rfl
def ann_impl_SameBook : con_impl_SameBook.α → Nat → Option (Ann UU) := fun (a, b) => annL []
def use_impl_SameBook : List (FuncId × Con UU) := [(15, con_EqualFuncDef), (16, con_impl_SameDef), (17, con_EqualFuncWork), (18, con_impl_SameBook_1)]
theorem vc_impl_SameBook (a : DBook) (b : DBook) : goal EE use_impl_SameBook Go.Proofs.Tryz.f7 con_impl_SameBook ann_impl_SameBook (a, b) = (bif a.Now != b.Now then Lf [DV.one (Cell.lit (Value.bool false))] [DV.one (Cell.lit (Value.bool (decide (a = b))))] else bif a.Ring != b.Ring then Lf [DV.one (Cell.lit (Value.bool false))] [DV.one (Cell.lit (Value.bool (decide (a = b))))] else (∀ (j : Nat), j < List.length a.Defs → j < List.length b.Defs → closP con_impl_SameDef [] [qaDef (List.getD a.Defs j zDef), qaDef (List.getD b.Defs j zDef)] = some (Value.bool (decide (List.getD a.Defs j zDef = List.getD b.Defs j zDef)))) ∧ bif !decide (a.Defs = b.Defs) then Lf [DV.one (Cell.lit (Value.bool false))] [DV.one (Cell.lit (Value.bool (decide (a = b))))] else (∀ (j : Nat), j < List.length a.Works → j < List.length b.Works → closP con_impl_SameBook_1 [] [qaWork (List.getD a.Works j zWork), qaWork (List.getD b.Works j zWork)] = some (Value.bool (decide (List.getD a.Works j zWork = List.getD b.Works j zWork)))) ∧ Lf [DV.one (Cell.lit (Value.bool (decide (a.Works = b.Works))))] [DV.one (Cell.lit (Value.bool (decide (a = b))))]) := by kernel_rfl
theorem ok_impl_SameBook : Holds EE (7, con_impl_SameBook) := by
  refine holds_of EE_ok Go.Proofs.Tryz.func7 con_impl_SameBook (by kernel_rfl) use_impl_SameBook (all_cons ok_EqualFuncDef (all_cons ok_impl_SameDef (all_cons ok_EqualFuncWork (all_cons ok_impl_SameBook_1 all_nil)))) ann_impl_SameBook (fun x hp hb => ?_)
  obtain ⟨a, b⟩ := x
  have hb_a : BdDV (U := UU) (.agg [.sl .eDef a.Defs, .sl .eWork a.Works, .lit (.int .i64 a.Now), .lit (.int .i64 a.Ring)]) := hb _ (List.mem_cons_self)
  have hl_a_Defs : a.Defs.length ≤ 9223372036854775807 := Bd.len (U := UU) (τ := .eDef) (xs := a.Defs) (hb_a _ (by simp))
  have hl_a_Works : a.Works.length ≤ 9223372036854775807 := Bd.len (U := UU) (τ := .eWork) (xs := a.Works) (hb_a _ (by simp))
  have hb_b : BdDV (U := UU) (.agg [.sl .eDef b.Defs, .sl .eWork b.Works, .lit (.int .i64 b.Now), .lit (.int .i64 b.Ring)]) := hb _ (List.mem_cons_of_mem _ (List.mem_cons_self))
  have hl_b_Defs : b.Defs.length ≤ 9223372036854775807 := Bd.len (U := UU) (τ := .eDef) (xs := b.Defs) (hb_b _ (by simp))
  have hl_b_Works : b.Works.length ≤ 9223372036854775807 := Bd.len (U := UU) (τ := .eWork) (xs := b.Works) (hb_b _ (by simp))
  clear hp hb
  rw [vc_impl_SameBook a b]
  have h1 : ∀ x y : DDef, closP con_impl_SameDef [] [qaDef x, qaDef y] = some (.bool (decide (x = y))) := fun x y => closP_of (x := (x, y)) rfl rfl rfl rfl (by simp [con_impl_SameDef])
  have h2 : ∀ x y : DWork, closP con_impl_SameBook_1 [] [qaWork x, qaWork y] = some (.bool (decide (x = y))) := fun x y => closP_of (x := (x, y)) rfl rfl rfl rfl (by simp [con_impl_SameBook_1])
  obtain ⟨a1, a2, a3, a4⟩ := a
  obtain ⟨b1, b2, b3, b4⟩ := b
  try simp only [toList_beq]
  repeat' (first | refine Lf_b ?_ | refine if_cond (fun h => ?_) (fun h => ?_) | refine And.intro (fun j _ _ => h1 _ _) ?_ | refine And.intro (fun j _ _ => h2 _ _) ?_)
  all_goals (simp only [DBook.mk.injEq] at *; grind)
theorem dr_ne {α : Type} {a b : List α} (z : α) {i : Int} (h1 : 0 ≤ i) (ha : i < a.length) (hb : i < b.length) (hR : a.drop i.toNat = b.drop i.toNat ↔ a = b) (h : List.getD a i.toNat z ≠ List.getD b i.toNat z) : a ≠ b := by
  rw [drop_step a z h1 ha, drop_step b z h1 hb] at hR
  exact fun e => h (List.cons.inj (hR.2 e)).1
theorem dr_eq {α : Type} {a b : List α} (z : α) {i : Int} (h1 : 0 ≤ i) (ha : i < a.length) (hb : i < b.length) (hR : a.drop i.toNat = b.drop i.toNat ↔ a = b) (h : List.getD a i.toNat z = List.getD b i.toNat z) : (a.drop (i + 1).toNat = b.drop (i + 1).toNat ↔ a = b) := by
  rw [drop_step a z h1 ha, drop_step b z h1 hb, h] at hR
  rw [← hR]; simp
theorem dr_end {α : Type} {a b : List α} {i : Int} (ha : a.length ≤ i) (hb : b.length ≤ i) (hR : a.drop i.toNat = b.drop i.toNat ↔ a = b) : a = b := by
  rw [drop_end a ha, drop_end b hb] at hR
  exact hR.1 rfl
theorem len_eq {α : Type} {a b : List α} (h : ((a.length : Int) != (b.length : Int)) = false) : a.length = b.length := by
  have h : (a.length : Int) = b.length := by simpa using h
  omega
theorem ne_len {α : Type} {a b : List α} (h : ¬ (a.length : Int) = b.length) : a ≠ b := fun e => h (by rw [e])
theorem eq_Pat (x y : DPat) : x = y ↔ x.Kind = y.Kind ∧ x.Args = y.Args ∧ x.Not = y.Not := by cases x; cases y; simp [DPat.mk.injEq]
theorem eq_Act (x y : DAct) : x = y ↔ x.Kind = y.Kind ∧ x.Name = y.Name ∧ x.Args = y.Args ∧ x.N = y.N ∧ x.Undo = y.Undo := by cases x; cases y; simp [DAct.mk.injEq]
theorem eq_Match (x y : DMatch) : x = y ↔ x.Rule = y.Rule ∧ x.Ids = y.Ids ∧ x.Binds = y.Binds := by cases x; cases y; simp [DMatch.mk.injEq]
theorem eq_Item (x y : DItem) : x = y ↔ x.Id = y.Id ∧ x.F = y.F := by cases x; cases y; simp [DItem.mk.injEq]
theorem eq_Timer (x y : DTimer) : x = y ↔ x.At = y.At ∧ x.F = y.F := by cases x; cases y; simp [DTimer.mk.injEq]
theorem eq_Undo (x y : DUndo) : x = y ↔ x.Key = y.Key ∧ x.F = y.F := by cases x; cases y; simp [DUndo.mk.injEq]
theorem eq_Task (x y : DTask) : x = y ↔ x.F = y.F ∧ x.Undo = y.Undo ∧ x.State = y.State ∧ x.Tries = y.Tries ∧ x.Due = y.Due ∧ x.V = y.V := by cases x; cases y; simp [DTask.mk.injEq]
theorem eq_Rule (x y : DRule) : x = y ↔ x.Name = y.Name ∧ x.Sal = y.Sal ∧ x.Pats = y.Pats ∧ x.Conds = y.Conds ∧ x.Acts = y.Acts := by cases x; cases y; simp [DRule.mk.injEq]
theorem eq_Def (x y : DDef) : x = y ↔ x.Name = y.Name ∧ x.Rules = y.Rules := by cases x; cases y; simp [DDef.mk.injEq]
theorem eq_Work (x y : DWork) : x = y ↔ x.Name = y.Name ∧ x.Def = y.Def ∧ x.X = y.X := by cases x; cases y; simp [DWork.mk.injEq]
theorem eq_Store (x y : DStore) : x = y ↔ x.Items = y.Items ∧ x.Next = y.Next := by cases x; cases y; simp [DStore.mk.injEq]
theorem eq_Inst (x y : DInst) : x = y ↔ x.S = y.S ∧ x.Fired = y.Fired ∧ x.Tasks = y.Tasks ∧ x.Timers = y.Timers ∧ x.Undos = y.Undos ∧ x.State = y.State ∧ x.Now = y.Now := by cases x; cases y; simp [DInst.mk.injEq]
theorem eq_Book (x y : DBook) : x = y ↔ x.Defs = y.Defs ∧ x.Works = y.Works ∧ x.Now = y.Now ∧ x.Ring = y.Ring := by cases x; cases y; simp [DBook.mk.injEq]
def con_spec_l11Same : Con UU where
  α := (List Int) × (List Int)
  md := [.ro, .ro]
  of := fun | [.one (.sl .int a0), .one (.sl .int a1)] => some (a0, a1) | _ => none
  ds := fun (a, b) => [.one (.sl .int a), .one (.sl .int b)]
  pre := fun (a, b) => []
  res := fun (a, b) => ⟨[.one (.lit (.bool (decide (a = b))))], true, []⟩
  law := by intro l x h; (try simp only at h); split at h <;> cases h; rfl
def I_spec_l11Same_4 (a : (List Int)) (b : (List Int)) : Int × Unit → Prop := fun (i, _) => 0 ≤ i ∧ i ≤ a.length ∧ a.length = b.length ∧ (a.drop i.toNat = b.drop i.toNat ↔ a = b)
def μ_spec_l11Same_4 (a : (List Int)) (b : (List Int)) : Int × Unit → Nat := fun (i, _) => a.length - i.toNat
def ann_spec_l11Same : con_spec_l11Same.α → Nat → Option (Ann UU) := fun (a, b) => annL [(4, annOf [.slot 5 (5, 1024) (.lit (.int .i64))] (fun _ => I_spec_l11Same_4 a b) (μ_spec_l11Same_4 a b))]
def use_spec_l11Same : List (FuncId × Con UU) := []
theorem vc_spec_l11Same (a : (List Int)) (b : (List Int)) : goal EE use_spec_l11Same Go.Proofs.Tryz.f71 con_spec_l11Same ann_spec_l11Same (a, b) = (bif (↑(List.length a) : Int) != (↑(List.length b) : Int) then Lf [DV.one (Cell.lit (Value.bool false))] [DV.one (Cell.lit (Value.bool (decide (a = b))))] else I_spec_l11Same_4 a b ((0 : Int), PUnit.unit) ∧ ∀ (y : Int × PUnit), I_spec_l11Same_4 a b y → bif decide (y.1 < (↑(List.length a) : Int)) then (0 : Int) ≤ y.1 ∧ Int.toNat y.1 < List.length a ∧ (0 : Int) ≤ y.1 ∧ Int.toNat y.1 < List.length b ∧ bif List.getD a (Int.toNat y.1) (0 : Int) != List.getD b (Int.toNat y.1) (0 : Int) then Lf [DV.one (Cell.lit (Value.bool false))] [DV.one (Cell.lit (Value.bool (decide (a = b))))] else I_spec_l11Same_4 a b (IntKind.wrap IntKind.i64 (y.1 + (1 : Int)), PUnit.unit) ∧ μ_spec_l11Same_4 a b (IntKind.wrap IntKind.i64 (y.1 + (1 : Int)), PUnit.unit) < μ_spec_l11Same_4 a b y else Lf [DV.one (Cell.lit (Value.bool true))] [DV.one (Cell.lit (Value.bool (decide (a = b))))]) := by kernel_rfl
theorem ok_spec_l11Same : Holds EE (71, con_spec_l11Same) := by
  refine holds_of EE_ok Go.Proofs.Tryz.func71 con_spec_l11Same (by kernel_rfl) use_spec_l11Same all_nil ann_spec_l11Same (fun x hp hb => ?_)
  obtain ⟨a, b⟩ := x
  have hb_a : BdDV (U := UU) (.one (.sl .int a)) := hb _ (List.mem_cons_self)
  have hl_a : a.length ≤ 9223372036854775807 := Bd.len hb_a
  have hb_b : BdDV (U := UU) (.one (.sl .int b)) := hb _ (List.mem_cons_of_mem _ (List.mem_cons_self))
  have hl_b : b.length ≤ 9223372036854775807 := Bd.len hb_b
  clear hp hb
  rw [vc_spec_l11Same a b]
  refine if_cond (fun h => Lf_f (ne_len (by simpa using h))) (fun h => ⟨⟨by omega, by omega, (len_eq (a := a) (b := b) (by assumption)), by simp⟩, ?_⟩)
  rintro ⟨i, ⟨⟩⟩ ⟨h1, h2, h3, hR⟩
  simp only
  refine if_cond (fun hc => ?_) (fun hc => ?_)
  · have hc : i < a.length := of_decide_eq_true hc
    rw [wrap_i64 (by omega) (by omega)]
    try simp only [val_beq]
    try simp only [toList_beq]
    have hz : True := trivial
    repeat' (first | refine And.intro (by omega) ?_ | refine if_cond (fun h => ?_) (fun h => ?_))
    all_goals first | exact Lf_f (dr_ne (0 : Int) h1 hc (by omega) hR (by first | grind | (rw [hz]; grind))) | exact ⟨⟨by omega, by omega, h3, dr_eq (0 : Int) h1 hc (by omega) hR (by first | grind | (rw [hz]; grind))⟩, by simp only [μ_spec_l11Same_4]; omega⟩
  · have hc : a.length ≤ i := by have := of_decide_eq_false hc; omega
    exact Lf_t (dr_end hc (by omega) hR)
def con_spec_l23SameTasks : Con UU where
  α := (List DTask) × (List DTask)
  md := [.ro, .ro]
  of := fun | [.one (.sl .eTask a0), .one (.sl .eTask a1)] => some (a0, a1) | _ => none
  ds := fun (a, b) => [.one (.sl .eTask a), .one (.sl .eTask b)]
  pre := fun (a, b) => []
  res := fun (a, b) => ⟨[.one (.lit (.bool (decide (a = b))))], true, []⟩
  law := by intro l x h; (try simp only at h); split at h <;> cases h; rfl
def I_spec_l23SameTasks_4 (a : (List DTask)) (b : (List DTask)) : Int × Unit → Prop := fun (i, _) => 0 ≤ i ∧ i ≤ a.length ∧ a.length = b.length ∧ (a.drop i.toNat = b.drop i.toNat ↔ a = b)
def μ_spec_l23SameTasks_4 (a : (List DTask)) (b : (List DTask)) : Int × Unit → Nat := fun (i, _) => a.length - i.toNat
def ann_spec_l23SameTasks : con_spec_l23SameTasks.α → Nat → Option (Ann UU) := fun (a, b) => annL [(4, annOf [.slot 5 (5, 1024) (.lit (.int .i64))] (fun _ => I_spec_l23SameTasks_4 a b) (μ_spec_l23SameTasks_4 a b))]
def use_spec_l23SameTasks : List (FuncId × Con UU) := [(28, con_spec_SameFact)]
theorem vc_spec_l23SameTasks (a : (List DTask)) (b : (List DTask)) : goal EE use_spec_l23SameTasks Go.Proofs.Tryz.f26 con_spec_l23SameTasks ann_spec_l23SameTasks (a, b) = (bif (↑(List.length a) : Int) != (↑(List.length b) : Int) then Lf [DV.one (Cell.lit (Value.bool false))] [DV.one (Cell.lit (Value.bool (decide (a = b))))]
else
  I_spec_l23SameTasks_4 a b ((0 : Int), PUnit.unit) ∧
    ∀ (y : Int × PUnit),
      let x0 : DTask := List.getD b (Int.toNat y.1) zTask;
      let x1 : DTask := List.getD a (Int.toNat y.1) zTask;
      I_spec_l23SameTasks_4 a b y → bif decide (y.1 < (↑(List.length a) : Int)) then (0 : Int) ≤ y.1 ∧ Int.toNat y.1 < List.length a ∧ (0 : Int) ≤ y.1 ∧ Int.toNat y.1 < List.length b ∧ bif !decide (x1.F = x0.F) then Lf [DV.one (Cell.lit (Value.bool false))] [DV.one (Cell.lit (Value.bool (decide (a = b))))] else bif !ByteArray.toList x1.Undo == ByteArray.toList x0.Undo then Lf [DV.one (Cell.lit (Value.bool false))] [DV.one (Cell.lit (Value.bool (decide (a = b))))] else bif x1.State != x0.State then Lf [DV.one (Cell.lit (Value.bool false))] [DV.one (Cell.lit (Value.bool (decide (a = b))))] else bif x1.Tries != x0.Tries then Lf [DV.one (Cell.lit (Value.bool false))] [DV.one (Cell.lit (Value.bool (decide (a = b))))] else bif x1.Due != x0.Due then Lf [DV.one (Cell.lit (Value.bool false))] [DV.one (Cell.lit (Value.bool (decide (a = b))))] else bif !(x1.V.K == x0.V.K && (x1.V.N == x0.V.N && (ByteArray.toList x1.V.S == ByteArray.toList x0.V.S && true))) then Lf [DV.one (Cell.lit (Value.bool false))] [DV.one (Cell.lit (Value.bool (decide (a = b))))] else I_spec_l23SameTasks_4 a b (IntKind.wrap IntKind.i64 (y.1 + (1 : Int)), PUnit.unit) ∧ μ_spec_l23SameTasks_4 a b (IntKind.wrap IntKind.i64 (y.1 + (1 : Int)), PUnit.unit) < μ_spec_l23SameTasks_4 a b y else Lf [DV.one (Cell.lit (Value.bool true))] [DV.one (Cell.lit (Value.bool (decide (a = b))))]) := by kernel_rfl
theorem ok_spec_l23SameTasks : Holds EE (26, con_spec_l23SameTasks) := by
  refine holds_of EE_ok Go.Proofs.Tryz.func26 con_spec_l23SameTasks (by kernel_rfl) use_spec_l23SameTasks (all_cons ok_spec_SameFact all_nil) ann_spec_l23SameTasks (fun x hp hb => ?_)
  obtain ⟨a, b⟩ := x
  have hb_a : BdDV (U := UU) (.one (.sl .eTask a)) := hb _ (List.mem_cons_self)
  have hl_a : a.length ≤ 9223372036854775807 := Bd.len hb_a
  have hb_b : BdDV (U := UU) (.one (.sl .eTask b)) := hb _ (List.mem_cons_of_mem _ (List.mem_cons_self))
  have hl_b : b.length ≤ 9223372036854775807 := Bd.len hb_b
  clear hp hb
  rw [vc_spec_l23SameTasks a b]
  dsimp only
  refine if_cond (fun h => Lf_f (ne_len (by simpa using h))) (fun h => ⟨⟨by omega, by omega, (len_eq (a := a) (b := b) (by assumption)), by simp⟩, ?_⟩)
  rintro ⟨i, ⟨⟩⟩ ⟨h1, h2, h3, hR⟩
  simp only
  refine if_cond (fun hc => ?_) (fun hc => ?_)
  · have hc : i < a.length := of_decide_eq_true hc
    rw [wrap_i64 (by omega) (by omega)]
    try simp only [val_beq]
    try simp only [toList_beq]
    have hz : _ := eq_Task (List.getD a i.toNat zTask) (List.getD b i.toNat zTask)
    repeat' (first | refine And.intro (by omega) ?_ | refine if_cond (fun h => ?_) (fun h => ?_))
    all_goals first | exact Lf_f (dr_ne zTask h1 hc (by omega) hR (by first | grind | (rw [hz]; grind))) | exact ⟨⟨by omega, by omega, h3, dr_eq zTask h1 hc (by omega) hR (by first | grind | (rw [hz]; grind))⟩, by simp only [μ_spec_l23SameTasks_4]; omega⟩
  · have hc : a.length ≤ i := by have := of_decide_eq_false hc; omega
    exact Lf_t (dr_end hc (by omega) hR)
def con_spec_SameMatch : Con UU where
  α := DMatch × DMatch
  md := [.ro, .ro]
  of := fun | [.agg [.lit (.int .i64 a0), .sl .int a1, .sl .eBind a2], .agg [.lit (.int .i64 a3), .sl .int a4, .sl .eBind a5]] => some (⟨a0, a1, a2⟩, ⟨a3, a4, a5⟩) | _ => none
  ds := fun (a, b) => [.agg [.lit (.int .i64 a.Rule), .sl .int a.Ids, .sl .eBind a.Binds], .agg [.lit (.int .i64 b.Rule), .sl .int b.Ids, .sl .eBind b.Binds]]
  pre := fun (a, b) => []
  res := fun (a, b) => ⟨[.one (.lit (.bool (decide (a.Rule = b.Rule ∧ a.Ids = b.Ids))))], true, []⟩
  law := by intro l x h; (try simp only at h); split at h <;> cases h; rfl
def ann_spec_SameMatch : con_spec_SameMatch.α → Nat → Option (Ann UU) := fun (a, b) => annL []
def use_spec_SameMatch : List (FuncId × Con UU) := [(71, con_spec_l11Same)]
theorem vc_spec_SameMatch (a : DMatch) (b : DMatch) : goal EE use_spec_SameMatch Go.Proofs.Tryz.f49 con_spec_SameMatch ann_spec_SameMatch (a, b) = (bif a.Rule == b.Rule then Lf [DV.one (Cell.lit (Value.bool (decide (a.Ids = b.Ids))))] [DV.one (Cell.lit (Value.bool (decide (a.Rule = b.Rule ∧ a.Ids = b.Ids))))] else Lf [DV.one (Cell.lit (Value.bool false))] [DV.one (Cell.lit (Value.bool (decide (a.Rule = b.Rule ∧ a.Ids = b.Ids))))]) := by kernel_rfl
theorem ok_spec_SameMatch : Holds EE (49, con_spec_SameMatch) := by
  refine holds_of EE_ok Go.Proofs.Tryz.func49 con_spec_SameMatch (by kernel_rfl) use_spec_SameMatch (all_cons ok_spec_l11Same all_nil) ann_spec_SameMatch (fun x hp hb => ?_)
  obtain ⟨a, b⟩ := x
  have hb_a : BdDV (U := UU) (.agg [.lit (.int .i64 a.Rule), .sl .int a.Ids, .sl .eBind a.Binds]) := hb _ (List.mem_cons_self)
  have hl_a_Ids : a.Ids.length ≤ 9223372036854775807 := Bd.len (U := UU) (τ := .int) (xs := a.Ids) (hb_a _ (by simp))
  have hl_a_Binds : a.Binds.length ≤ 9223372036854775807 := Bd.len (U := UU) (τ := .eBind) (xs := a.Binds) (hb_a _ (by simp))
  have hb_b : BdDV (U := UU) (.agg [.lit (.int .i64 b.Rule), .sl .int b.Ids, .sl .eBind b.Binds]) := hb _ (List.mem_cons_of_mem _ (List.mem_cons_self))
  have hl_b_Ids : b.Ids.length ≤ 9223372036854775807 := Bd.len (U := UU) (τ := .int) (xs := b.Ids) (hb_b _ (by simp))
  have hl_b_Binds : b.Binds.length ≤ 9223372036854775807 := Bd.len (U := UU) (τ := .eBind) (xs := b.Binds) (hb_b _ (by simp))
  clear hp hb
  rw [vc_spec_SameMatch a b]
  refine if_cond (fun h => Lf_b ?_) (fun h => Lf_b ?_) <;> grind
def con_spec_l10SamePats : Con UU where
  α := (List DPat) × (List DPat)
  md := [.ro, .ro]
  of := fun | [.one (.sl .ePat a0), .one (.sl .ePat a1)] => some (a0, a1) | _ => none
  ds := fun (a, b) => [.one (.sl .ePat a), .one (.sl .ePat b)]
  pre := fun (a, b) => []
  res := fun (a, b) => ⟨[.one (.lit (.bool (decide (a = b))))], true, []⟩
  law := by intro l x h; (try simp only at h); split at h <;> cases h; rfl
def I_spec_l10SamePats_4 (a : (List DPat)) (b : (List DPat)) : Int × Unit → Prop := fun (i, _) => 0 ≤ i ∧ i ≤ a.length ∧ a.length = b.length ∧ (a.drop i.toNat = b.drop i.toNat ↔ a = b)
def μ_spec_l10SamePats_4 (a : (List DPat)) (b : (List DPat)) : Int × Unit → Nat := fun (i, _) => a.length - i.toNat
def I_spec_l10SamePats_9 (a : (List DPat)) (b : (List DPat)) : Int × Int × Unit → Int × Int × Unit → Prop := fun (i0, k0, _) (i, k, _) => i = i0 ∧ 0 ≤ k ∧ k ≤ (List.getD a i.toNat zPat).Args.length ∧ (List.getD a i.toNat zPat).Args.length = (List.getD b i.toNat zPat).Args.length ∧ ((List.getD a i.toNat zPat).Args.drop k.toNat = (List.getD b i.toNat zPat).Args.drop k.toNat ↔ (List.getD a i.toNat zPat).Args = (List.getD b i.toNat zPat).Args)
def μ_spec_l10SamePats_9 (a : (List DPat)) (b : (List DPat)) : Int × Int × Unit → Nat := fun (i, k, _) => (List.getD a i.toNat zPat).Args.length - k.toNat
def ann_spec_l10SamePats : con_spec_l10SamePats.α → Nat → Option (Ann UU) := fun (a, b) => annL [(4, annOf [.slot 5 (5, 1024) (.lit (.int .i64))] (fun _ => I_spec_l10SamePats_4 a b) (μ_spec_l10SamePats_4 a b)), (9, annOf [.slot 5 (5, 1024) (.lit (.int .i64)), .slot 6 (6, 1024) (.lit (.int .i64))] (I_spec_l10SamePats_9 a b) (μ_spec_l10SamePats_9 a b))]
def use_spec_l10SamePats : List (FuncId × Con UU) := []
theorem vc_spec_l10SamePats (a : (List DPat)) (b : (List DPat)) : goal EE use_spec_l10SamePats Go.Proofs.Tryz.f47 con_spec_l10SamePats ann_spec_l10SamePats (a, b) = (bif (↑(List.length a) : Int) != (↑(List.length b) : Int) then Lf [DV.one (Cell.lit (Value.bool false))] [DV.one (Cell.lit (Value.bool (decide (a = b))))]
else
  I_spec_l10SamePats_4 a b ((0 : Int), PUnit.unit) ∧
    ∀ (y : Int × PUnit),
      let x0 : DPat := List.getD a (Int.toNat y.1) zPat;
      let x1 : DPat := List.getD b (Int.toNat y.1) zPat;
      I_spec_l10SamePats_4 a b y →
        bif decide (y.1 < (↑(List.length a) : Int)) then
          (0 : Int) ≤ y.1 ∧
            Int.toNat y.1 < List.length a ∧
              (0 : Int) ≤ y.1 ∧
                Int.toNat y.1 < List.length b ∧
                  bif !ByteArray.toList x0.Kind == ByteArray.toList x1.Kind then Lf [DV.one (Cell.lit (Value.bool false))] [DV.one (Cell.lit (Value.bool (decide (a = b))))]
                  else
                    (0 : Int) ≤ y.1 ∧
                      Int.toNat y.1 < List.length a ∧
                        (0 : Int) ≤ y.1 ∧
                          Int.toNat y.1 < List.length b ∧
                            bif !x0.Not == x1.Not then Lf [DV.one (Cell.lit (Value.bool false))] [DV.one (Cell.lit (Value.bool (decide (a = b))))]
                            else
                              (0 : Int) ≤ y.1 ∧
                                Int.toNat y.1 < List.length a ∧
                                  (0 : Int) ≤ y.1 ∧
                                    Int.toNat y.1 < List.length b ∧
                                      bif (↑(List.length x0.Args) : Int) != (↑(List.length x1.Args) : Int) then Lf [DV.one (Cell.lit (Value.bool false))] [DV.one (Cell.lit (Value.bool (decide (a = b))))]
                                      else
                                        I_spec_l10SamePats_9 a b (y.1, (0 : Int), PUnit.unit) (y.1, (0 : Int), PUnit.unit) ∧
                                          ∀ (y_1 : Int × Int × PUnit),
                                            let x2 : Nat := Int.toNat y_1.2.1;
                                            let x3 : DVal := (List.getD (List.getD a (Int.toNat y_1.1) zPat).Args x2 zArg).V;
                                            let x4 : DVal := (List.getD (List.getD b (Int.toNat y_1.1) zPat).Args x2 zArg).V;
                                            let x5 : Int := (↑(List.length (List.getD a (Int.toNat y_1.1) zPat).Args) : Int);
                                            I_spec_l10SamePats_9 a b (y.1, (0 : Int), PUnit.unit) y_1 → (0 : Int) ≤ y_1.1 ∧ Int.toNat y_1.1 < List.length a ∧ bif decide (y_1.2.1 < x5) then (0 : Int) ≤ y_1.1 ∧ Int.toNat y_1.1 < List.length a ∧ (0 : Int) ≤ y_1.2.1 ∧ x2 < List.length (List.getD a (Int.toNat y_1.1) zPat).Args ∧ (0 : Int) ≤ y_1.1 ∧ Int.toNat y_1.1 < List.length b ∧ (0 : Int) ≤ y_1.2.1 ∧ x2 < List.length (List.getD b (Int.toNat y_1.1) zPat).Args ∧ bif !((List.getD (List.getD a (Int.toNat y_1.1) zPat).Args x2 zArg).K == (List.getD (List.getD b (Int.toNat y_1.1) zPat).Args x2 zArg).K && (ByteArray.toList (List.getD (List.getD a (Int.toNat y_1.1) zPat).Args x2 zArg).S == ByteArray.toList (List.getD (List.getD b (Int.toNat y_1.1) zPat).Args x2 zArg).S && (x3.K == x4.K && (x3.N == x4.N && (ByteArray.toList x3.S == ByteArray.toList x4.S && true)) && true))) then Lf [DV.one (Cell.lit (Value.bool false))] [DV.one (Cell.lit (Value.bool (decide (a = b))))] else I_spec_l10SamePats_9 a b (y.1, (0 : Int), PUnit.unit) (y_1.1, IntKind.wrap IntKind.i64 (y_1.2.1 + (1 : Int)), PUnit.unit) ∧ μ_spec_l10SamePats_9 a b (y_1.1, IntKind.wrap IntKind.i64 (y_1.2.1 + (1 : Int)), PUnit.unit) < μ_spec_l10SamePats_9 a b y_1 else I_spec_l10SamePats_4 a b (IntKind.wrap IntKind.i64 (y_1.1 + (1 : Int)), PUnit.unit) ∧ μ_spec_l10SamePats_4 a b (IntKind.wrap IntKind.i64 (y_1.1 + (1 : Int)), PUnit.unit) < μ_spec_l10SamePats_4 a b y
        else Lf [DV.one (Cell.lit (Value.bool true))] [DV.one (Cell.lit (Value.bool (decide (a = b))))]) := by kernel_rfl
theorem ok_spec_l10SamePats : Holds EE (47, con_spec_l10SamePats) := by
  refine holds_of EE_ok Go.Proofs.Tryz.func47 con_spec_l10SamePats (by kernel_rfl) use_spec_l10SamePats all_nil ann_spec_l10SamePats (fun x hp hb => ?_)
  obtain ⟨a, b⟩ := x
  have hb_a : BdDV (U := UU) (.one (.sl .ePat a)) := hb _ (List.mem_cons_self)
  have hl_a : a.length ≤ 9223372036854775807 := Bd.len hb_a
  have hb_b : BdDV (U := UU) (.one (.sl .ePat b)) := hb _ (List.mem_cons_of_mem _ (List.mem_cons_self))
  have hl_b : b.length ≤ 9223372036854775807 := Bd.len hb_b
  clear hp hb
  rw [vc_spec_l10SamePats a b]
  dsimp only
  refine if_cond (fun h => Lf_f (ne_len (by simpa using h))) (fun h => ⟨⟨by omega, by omega, (len_eq (a := a) (b := b) (by assumption)), by simp⟩, ?_⟩)
  rintro ⟨i, ⟨⟩⟩ ⟨h1, h2, h3, hR⟩
  simp only
  refine if_cond (fun hc => ?_) (fun hc => ?_)
  · have hc : i < a.length := of_decide_eq_true hc
    have hm : μ_spec_l10SamePats_4 a b (i + 1, PUnit.unit) < μ_spec_l10SamePats_4 a b (i, ()) := by simp only [μ_spec_l10SamePats_4]; omega
    try simp only [arg_beq]
    try simp only [toList_beq]
    have hz : _ := eq_Pat (List.getD a i.toNat zPat) (List.getD b i.toNat zPat)
    have hlA : (List.getD a i.toNat zPat).Args.length ≤ 9223372036854775807 := Bd.len (Bd.row hb_a (x := List.getD a i.toNat zPat) (c := .sl .eArg (List.getD a i.toNat zPat).Args) (getD_mem a _ h1 hc) (.tail _ (.head _)))
    repeat' (first | refine And.intro (by omega) ?_ | refine if_cond (fun h => Lf_f (dr_ne zPat h1 hc (by omega) hR (by first | grind | (rw [hz]; grind)))) (fun h => ?_))
    refine ⟨⟨rfl, by omega, by omega, (len_eq (a := (List.getD a i.toNat zPat).Args) (b := (List.getD b i.toNat zPat).Args) (by assumption)), by simp⟩, ?_⟩
    rintro ⟨i, k, ⟨⟩⟩ ⟨rfl, g1, g2, g3, gR⟩
    try simp only
    repeat' (refine And.intro (by omega) ?_)
    refine if_cond (fun hk => ?_) (fun hk => ?_)
    · have hk := of_decide_eq_true hk
      simp (disch := omega) only [wrap_i64]
      repeat' (first | refine And.intro (by omega) ?_ | refine if_cond (fun h => ?_) (fun h => ?_))
      all_goals first | exact Lf_f (dr_ne zPat h1 hc (by omega) hR (fun e => absurd (by rw [e]) (dr_ne zArg g1 hk (by omega) gR (by grind)))) | exact ⟨⟨rfl, by omega, by omega, g3, dr_eq zArg g1 hk (by omega) gR (by grind)⟩, by simp only [μ_spec_l10SamePats_9]; omega⟩
    · have hk : (List.getD a i.toNat zPat).Args.length ≤ k := by have := of_decide_eq_false hk; omega
      have he := dr_end hk (by omega) gR
      simp (disch := omega) only [wrap_i64]
      exact ⟨⟨by omega, by omega, h3, dr_eq zPat h1 hc (by omega) hR (by first | grind | (rw [hz]; grind))⟩, hm⟩
  · have hc : a.length ≤ i := by have := of_decide_eq_false hc; omega
    exact Lf_t (dr_end hc (by omega) hR)
def con_spec_SameSet : Con UU where
  α := (List DMatch) × (List DMatch)
  md := [.ro, .ro]
  of := fun | [.one (.sl .eMatch a0), .one (.sl .eMatch a1)] => some (a0, a1) | _ => none
  ds := fun (a, b) => [.one (.sl .eMatch a), .one (.sl .eMatch b)]
  pre := fun (a, b) => []
  res := fun (a, b) => ⟨[.one (.lit (.bool (decide (a = b))))], true, []⟩
  law := by intro l x h; (try simp only at h); split at h <;> cases h; rfl
def I_spec_SameSet_4 (a : (List DMatch)) (b : (List DMatch)) : Int × Unit → Prop := fun (i, _) => 0 ≤ i ∧ i ≤ a.length ∧ a.length = b.length ∧ (a.drop i.toNat = b.drop i.toNat ↔ a = b)
def μ_spec_SameSet_4 (a : (List DMatch)) (b : (List DMatch)) : Int × Unit → Nat := fun (i, _) => a.length - i.toNat
def I_spec_SameSet_9 (a : (List DMatch)) (b : (List DMatch)) : Int × Int × Unit → Int × Int × Unit → Prop := fun (i0, k0, _) (i, k, _) => i = i0 ∧ 0 ≤ k ∧ k ≤ (List.getD a i.toNat zMatch).Binds.length ∧ (List.getD a i.toNat zMatch).Binds.length = (List.getD b i.toNat zMatch).Binds.length ∧ ((List.getD a i.toNat zMatch).Binds.drop k.toNat = (List.getD b i.toNat zMatch).Binds.drop k.toNat ↔ (List.getD a i.toNat zMatch).Binds = (List.getD b i.toNat zMatch).Binds)
def μ_spec_SameSet_9 (a : (List DMatch)) (b : (List DMatch)) : Int × Int × Unit → Nat := fun (i, k, _) => (List.getD a i.toNat zMatch).Binds.length - k.toNat
def ann_spec_SameSet : con_spec_SameSet.α → Nat → Option (Ann UU) := fun (a, b) => annL [(4, annOf [.slot 5 (5, 1024) (.lit (.int .i64))] (fun _ => I_spec_SameSet_4 a b) (μ_spec_SameSet_4 a b)), (9, annOf [.slot 5 (5, 1024) (.lit (.int .i64)), .slot 6 (6, 1024) (.lit (.int .i64))] (I_spec_SameSet_9 a b) (μ_spec_SameSet_9 a b))]
def use_spec_SameSet : List (FuncId × Con UU) := [(49, con_spec_SameMatch)]
theorem vc_spec_SameSet (a : (List DMatch)) (b : (List DMatch)) : goal EE use_spec_SameSet Go.Proofs.Tryz.f27 con_spec_SameSet ann_spec_SameSet (a, b) = (bif (↑(List.length a) : Int) != (↑(List.length b) : Int) then Lf [DV.one (Cell.lit (Value.bool false))] [DV.one (Cell.lit (Value.bool (decide (a = b))))]
else
  I_spec_SameSet_4 a b ((0 : Int), PUnit.unit) ∧
    ∀ (y : Int × PUnit),
      let x0 : DMatch := List.getD a (Int.toNat y.1) zMatch;
      let x1 : DMatch := List.getD b (Int.toNat y.1) zMatch;
      I_spec_SameSet_4 a b y →
        bif decide (y.1 < (↑(List.length a) : Int)) then
          (0 : Int) ≤ y.1 ∧
            Int.toNat y.1 < List.length a ∧
              (0 : Int) ≤ y.1 ∧
                Int.toNat y.1 < List.length b ∧
                  bif !decide (x0.Rule = x1.Rule ∧ x0.Ids = x1.Ids) then Lf [DV.one (Cell.lit (Value.bool false))] [DV.one (Cell.lit (Value.bool (decide (a = b))))]
                  else
                    (0 : Int) ≤ y.1 ∧
                      Int.toNat y.1 < List.length a ∧
                        (0 : Int) ≤ y.1 ∧
                          Int.toNat y.1 < List.length b ∧
                            bif (↑(List.length x0.Binds) : Int) != (↑(List.length x1.Binds) : Int) then Lf [DV.one (Cell.lit (Value.bool false))] [DV.one (Cell.lit (Value.bool (decide (a = b))))]
                            else
                              I_spec_SameSet_9 a b (y.1, (0 : Int), PUnit.unit) (y.1, (0 : Int), PUnit.unit) ∧
                                ∀ (y_1 : Int × Int × PUnit),
                                  let x2 : Nat := Int.toNat y_1.2.1;
                                  let x3 : DVal := (List.getD (List.getD a (Int.toNat y_1.1) zMatch).Binds x2 zBind).V;
                                  let x4 : DVal := (List.getD (List.getD b (Int.toNat y_1.1) zMatch).Binds x2 zBind).V;
                                  let x5 : Int := (↑(List.length (List.getD a (Int.toNat y_1.1) zMatch).Binds) : Int);
                                  I_spec_SameSet_9 a b (y.1, (0 : Int), PUnit.unit) y_1 → (0 : Int) ≤ y_1.1 ∧ Int.toNat y_1.1 < List.length a ∧ bif decide (y_1.2.1 < x5) then (0 : Int) ≤ y_1.1 ∧ Int.toNat y_1.1 < List.length a ∧ (0 : Int) ≤ y_1.2.1 ∧ x2 < List.length (List.getD a (Int.toNat y_1.1) zMatch).Binds ∧ (0 : Int) ≤ y_1.1 ∧ Int.toNat y_1.1 < List.length b ∧ (0 : Int) ≤ y_1.2.1 ∧ x2 < List.length (List.getD b (Int.toNat y_1.1) zMatch).Binds ∧ bif !(ByteArray.toList (List.getD (List.getD a (Int.toNat y_1.1) zMatch).Binds x2 zBind).Name == ByteArray.toList (List.getD (List.getD b (Int.toNat y_1.1) zMatch).Binds x2 zBind).Name && (x3.K == x4.K && (x3.N == x4.N && (ByteArray.toList x3.S == ByteArray.toList x4.S && true)) && true)) then Lf [DV.one (Cell.lit (Value.bool false))] [DV.one (Cell.lit (Value.bool (decide (a = b))))] else I_spec_SameSet_9 a b (y.1, (0 : Int), PUnit.unit) (y_1.1, IntKind.wrap IntKind.i64 (y_1.2.1 + (1 : Int)), PUnit.unit) ∧ μ_spec_SameSet_9 a b (y_1.1, IntKind.wrap IntKind.i64 (y_1.2.1 + (1 : Int)), PUnit.unit) < μ_spec_SameSet_9 a b y_1 else I_spec_SameSet_4 a b (IntKind.wrap IntKind.i64 (y_1.1 + (1 : Int)), PUnit.unit) ∧ μ_spec_SameSet_4 a b (IntKind.wrap IntKind.i64 (y_1.1 + (1 : Int)), PUnit.unit) < μ_spec_SameSet_4 a b y
        else Lf [DV.one (Cell.lit (Value.bool true))] [DV.one (Cell.lit (Value.bool (decide (a = b))))]) := by kernel_rfl
theorem ok_spec_SameSet : Holds EE (27, con_spec_SameSet) := by
  refine holds_of EE_ok Go.Proofs.Tryz.func27 con_spec_SameSet (by kernel_rfl) use_spec_SameSet (all_cons ok_spec_SameMatch all_nil) ann_spec_SameSet (fun x hp hb => ?_)
  obtain ⟨a, b⟩ := x
  have hb_a : BdDV (U := UU) (.one (.sl .eMatch a)) := hb _ (List.mem_cons_self)
  have hl_a : a.length ≤ 9223372036854775807 := Bd.len hb_a
  have hb_b : BdDV (U := UU) (.one (.sl .eMatch b)) := hb _ (List.mem_cons_of_mem _ (List.mem_cons_self))
  have hl_b : b.length ≤ 9223372036854775807 := Bd.len hb_b
  clear hp hb
  rw [vc_spec_SameSet a b]
  dsimp only
  refine if_cond (fun h => Lf_f (ne_len (by simpa using h))) (fun h => ⟨⟨by omega, by omega, (len_eq (a := a) (b := b) (by assumption)), by simp⟩, ?_⟩)
  rintro ⟨i, ⟨⟩⟩ ⟨h1, h2, h3, hR⟩
  simp only
  refine if_cond (fun hc => ?_) (fun hc => ?_)
  · have hc : i < a.length := of_decide_eq_true hc
    have hm : μ_spec_SameSet_4 a b (i + 1, PUnit.unit) < μ_spec_SameSet_4 a b (i, ()) := by simp only [μ_spec_SameSet_4]; omega
    try simp only [bind_beq]
    try simp only [toList_beq]
    have hz : _ := eq_Match (List.getD a i.toNat zMatch) (List.getD b i.toNat zMatch)
    have hlA : (List.getD a i.toNat zMatch).Binds.length ≤ 9223372036854775807 := Bd.len (Bd.row hb_a (x := List.getD a i.toNat zMatch) (c := .sl .eBind (List.getD a i.toNat zMatch).Binds) (getD_mem a _ h1 hc) (.tail _ (.tail _ (.head _))))
    repeat' (first | refine And.intro (by omega) ?_ | refine if_cond (fun h => Lf_f (dr_ne zMatch h1 hc (by omega) hR (by first | grind | (rw [hz]; grind)))) (fun h => ?_))
    refine ⟨⟨rfl, by omega, by omega, (len_eq (a := (List.getD a i.toNat zMatch).Binds) (b := (List.getD b i.toNat zMatch).Binds) (by assumption)), by simp⟩, ?_⟩
    rintro ⟨i, k, ⟨⟩⟩ ⟨rfl, g1, g2, g3, gR⟩
    try simp only
    repeat' (refine And.intro (by omega) ?_)
    refine if_cond (fun hk => ?_) (fun hk => ?_)
    · have hk := of_decide_eq_true hk
      simp (disch := omega) only [wrap_i64]
      repeat' (first | refine And.intro (by omega) ?_ | refine if_cond (fun h => ?_) (fun h => ?_))
      all_goals first | exact Lf_f (dr_ne zMatch h1 hc (by omega) hR (fun e => absurd (by rw [e]) (dr_ne zBind g1 hk (by omega) gR (by grind)))) | exact ⟨⟨rfl, by omega, by omega, g3, dr_eq zBind g1 hk (by omega) gR (by grind)⟩, by simp only [μ_spec_SameSet_9]; omega⟩
    · have hk : (List.getD a i.toNat zMatch).Binds.length ≤ k := by have := of_decide_eq_false hk; omega
      have he := dr_end hk (by omega) gR
      simp (disch := omega) only [wrap_i64]
      exact ⟨⟨by omega, by omega, h3, dr_eq zMatch h1 hc (by omega) hR (by first | grind | (rw [hz]; grind))⟩, hm⟩
  · have hc : a.length ≤ i := by have := of_decide_eq_false hc; omega
    exact Lf_t (dr_end hc (by omega) hR)
def con_spec_l10SameActs : Con UU where
  α := (List DAct) × (List DAct)
  md := [.ro, .ro]
  of := fun | [.one (.sl .eAct a0), .one (.sl .eAct a1)] => some (a0, a1) | _ => none
  ds := fun (a, b) => [.one (.sl .eAct a), .one (.sl .eAct b)]
  pre := fun (a, b) => []
  res := fun (a, b) => ⟨[.one (.lit (.bool (decide (a = b))))], true, []⟩
  law := by intro l x h; (try simp only at h); split at h <;> cases h; rfl
def I_spec_l10SameActs_4 (a : (List DAct)) (b : (List DAct)) : Int × Unit → Prop := fun (i, _) => 0 ≤ i ∧ i ≤ a.length ∧ a.length = b.length ∧ (a.drop i.toNat = b.drop i.toNat ↔ a = b)
def μ_spec_l10SameActs_4 (a : (List DAct)) (b : (List DAct)) : Int × Unit → Nat := fun (i, _) => a.length - i.toNat
def I_spec_l10SameActs_11 (a : (List DAct)) (b : (List DAct)) : Int × (Int × ByteArray × List DExpr × Int × ByteArray × Unit) × (Int × ByteArray × List DExpr × Int × ByteArray × Unit) × Int × Unit → Int × (Int × ByteArray × List DExpr × Int × ByteArray × Unit) × (Int × ByteArray × List DExpr × Int × ByteArray × Unit) × Int × Unit → Prop := fun (i0, fx0, fy0, k0, _) (i, fx, fy, k, _) => i = i0 ∧ 0 ≤ k ∧ k ≤ (List.getD a i.toNat zAct).Args.length ∧ (List.getD a i.toNat zAct).Args.length = (List.getD b i.toNat zAct).Args.length ∧ ((List.getD a i.toNat zAct).Args.drop k.toNat = (List.getD b i.toNat zAct).Args.drop k.toNat ↔ (List.getD a i.toNat zAct).Args = (List.getD b i.toNat zAct).Args) ∧ fx = ((List.getD a i.toNat zAct).Kind, (List.getD a i.toNat zAct).Name, (List.getD a i.toNat zAct).Args, (List.getD a i.toNat zAct).N, (List.getD a i.toNat zAct).Undo, ()) ∧ fy = ((List.getD b i.toNat zAct).Kind, (List.getD b i.toNat zAct).Name, (List.getD b i.toNat zAct).Args, (List.getD b i.toNat zAct).N, (List.getD b i.toNat zAct).Undo, ())
def μ_spec_l10SameActs_11 (a : (List DAct)) (b : (List DAct)) : Int × (Int × ByteArray × List DExpr × Int × ByteArray × Unit) × (Int × ByteArray × List DExpr × Int × ByteArray × Unit) × Int × Unit → Nat := fun (i, fx, fy, k, _) => (List.getD a i.toNat zAct).Args.length - k.toNat
def ann_spec_l10SameActs : con_spec_l10SameActs.α → Nat → Option (Ann UU) := fun (a, b) => annL [(4, annOf [.slot 5 (5, 1024) (.lit (.int .i64))] (fun _ => I_spec_l10SameActs_4 a b) (μ_spec_l10SameActs_4 a b)), (11, annOf [.slot 5 (5, 1024) (.lit (.int .i64)), .box 6 (6, 1024) [.lit (.int .i64), .lit .str, .shr .eExpr, .lit (.int .i64), .lit .str], .box 7 (7, 1024) [.lit (.int .i64), .lit .str, .shr .eExpr, .lit (.int .i64), .lit .str], .slot 8 (8, 1024) (.lit (.int .i64))] (I_spec_l10SameActs_11 a b) (μ_spec_l10SameActs_11 a b))]
def use_spec_l10SameActs : List (FuncId × Con UU) := []
theorem vc_spec_l10SameActs (a : (List DAct)) (b : (List DAct)) : goal EE use_spec_l10SameActs Go.Proofs.Tryz.f48 con_spec_l10SameActs ann_spec_l10SameActs (a, b) = (bif (↑(List.length a) : Int) != (↑(List.length b) : Int) then Lf [DV.one (Cell.lit (Value.bool false))] [DV.one (Cell.lit (Value.bool (decide (a = b))))]
else
  I_spec_l10SameActs_4 a b ((0 : Int), PUnit.unit) ∧
    ∀ (y : Int × PUnit),
      let x0 : DAct := List.getD b (Int.toNat y.1) zAct;
      let x1 : DAct := List.getD a (Int.toNat y.1) zAct;
      I_spec_l10SameActs_4 a b y →
        bif decide (y.1 < (↑(List.length a) : Int)) then
          (0 : Int) ≤ y.1 ∧
            Int.toNat y.1 < List.length a ∧
              (0 : Int) ≤ y.1 ∧
                Int.toNat y.1 < List.length b ∧
                  bif x1.Kind != x0.Kind then Lf [DV.one (Cell.lit (Value.bool false))] [DV.one (Cell.lit (Value.bool (decide (a = b))))]
                  else
                    bif !ByteArray.toList x1.Name == ByteArray.toList x0.Name then Lf [DV.one (Cell.lit (Value.bool false))] [DV.one (Cell.lit (Value.bool (decide (a = b))))]
                    else
                      bif x1.N != x0.N then Lf [DV.one (Cell.lit (Value.bool false))] [DV.one (Cell.lit (Value.bool (decide (a = b))))]
                      else
                        bif !ByteArray.toList x1.Undo == ByteArray.toList x0.Undo then Lf [DV.one (Cell.lit (Value.bool false))] [DV.one (Cell.lit (Value.bool (decide (a = b))))]
                        else
                          bif (↑(List.length x1.Args) : Int) != (↑(List.length x0.Args) : Int) then Lf [DV.one (Cell.lit (Value.bool false))] [DV.one (Cell.lit (Value.bool (decide (a = b))))]
                          else
                            I_spec_l10SameActs_11 a b (y.1, (x1.Kind, x1.Name, x1.Args, x1.N, x1.Undo, PUnit.unit), (x0.Kind, x0.Name, x0.Args, x0.N, x0.Undo, PUnit.unit), (0 : Int), PUnit.unit) (y.1, (x1.Kind, x1.Name, x1.Args, x1.N, x1.Undo, PUnit.unit), (x0.Kind, x0.Name, x0.Args, x0.N, x0.Undo, PUnit.unit), (0 : Int), PUnit.unit) ∧
                              ∀ (y_1 : Int × (Int × ByteArray × List DExpr × Int × ByteArray × PUnit) × (Int × ByteArray × List DExpr × Int × ByteArray × PUnit) × Int × PUnit),
                                let x2 : DVal := (List.getD y_1.2.2.1.2.2.1 (Int.toNat y_1.2.2.2.1) zExpr).L.V;
                                let x3 : DVal := (List.getD y_1.2.2.1.2.2.1 (Int.toNat y_1.2.2.2.1) zExpr).R.V;
                                let x4 : DExpr := List.getD y_1.2.2.1.2.2.1 (Int.toNat y_1.2.2.2.1) zExpr;
                                let x5 : DVal := (List.getD y_1.2.1.2.2.1 (Int.toNat y_1.2.2.2.1) zExpr).R.V;
                                let x6 : DVal := (List.getD y_1.2.1.2.2.1 (Int.toNat y_1.2.2.2.1) zExpr).L.V;
                                let x7 : DExpr := List.getD y_1.2.1.2.2.1 (Int.toNat y_1.2.2.2.1) zExpr;
                                let x8 : Nat := Int.toNat y_1.2.2.2.1;
                                let x9 : Int := (↑(List.length y_1.2.1.2.2.1) : Int);
                                I_spec_l10SameActs_11 a b (y.1, (x1.Kind, x1.Name, x1.Args, x1.N, x1.Undo, PUnit.unit), (x0.Kind, x0.Name, x0.Args, x0.N, x0.Undo, PUnit.unit), (0 : Int), PUnit.unit) y_1 → bif decide (y_1.2.2.2.1 < x9) then (0 : Int) ≤ y_1.2.2.2.1 ∧ x8 < List.length y_1.2.1.2.2.1 ∧ (0 : Int) ≤ y_1.2.2.2.1 ∧ x8 < List.length y_1.2.2.1.2.2.1 ∧ bif !(ByteArray.toList x7.Op == ByteArray.toList x4.Op && (x7.L.K == x4.L.K && (ByteArray.toList x7.L.S == ByteArray.toList x4.L.S && (x6.K == x2.K && (x6.N == x2.N && (ByteArray.toList x6.S == ByteArray.toList x2.S && true)) && true)) && (x7.R.K == x4.R.K && (ByteArray.toList x7.R.S == ByteArray.toList x4.R.S && (x5.K == x3.K && (x5.N == x3.N && (ByteArray.toList x5.S == ByteArray.toList x3.S && true)) && true)) && true))) then Lf [DV.one (Cell.lit (Value.bool false))] [DV.one (Cell.lit (Value.bool (decide (a = b))))] else I_spec_l10SameActs_11 a b (y.1, (x1.Kind, x1.Name, x1.Args, x1.N, x1.Undo, PUnit.unit), (x0.Kind, x0.Name, x0.Args, x0.N, x0.Undo, PUnit.unit), (0 : Int), PUnit.unit) (y_1.1, (y_1.2.1.1, y_1.2.1.2.1, y_1.2.1.2.2.1, y_1.2.1.2.2.2.1, y_1.2.1.2.2.2.2.1, PUnit.unit), (y_1.2.2.1.1, y_1.2.2.1.2.1, y_1.2.2.1.2.2.1, y_1.2.2.1.2.2.2.1, y_1.2.2.1.2.2.2.2.1, PUnit.unit), IntKind.wrap IntKind.i64 (y_1.2.2.2.1 + (1 : Int)), PUnit.unit) ∧ μ_spec_l10SameActs_11 a b (y_1.1, (y_1.2.1.1, y_1.2.1.2.1, y_1.2.1.2.2.1, y_1.2.1.2.2.2.1, y_1.2.1.2.2.2.2.1, PUnit.unit), (y_1.2.2.1.1, y_1.2.2.1.2.1, y_1.2.2.1.2.2.1, y_1.2.2.1.2.2.2.1, y_1.2.2.1.2.2.2.2.1, PUnit.unit), IntKind.wrap IntKind.i64 (y_1.2.2.2.1 + (1 : Int)), PUnit.unit) < μ_spec_l10SameActs_11 a b y_1 else I_spec_l10SameActs_4 a b (IntKind.wrap IntKind.i64 (y_1.1 + (1 : Int)), PUnit.unit) ∧ μ_spec_l10SameActs_4 a b (IntKind.wrap IntKind.i64 (y_1.1 + (1 : Int)), PUnit.unit) < μ_spec_l10SameActs_4 a b y
        else Lf [DV.one (Cell.lit (Value.bool true))] [DV.one (Cell.lit (Value.bool (decide (a = b))))]) := by kernel_rfl
theorem ok_spec_l10SameActs : Holds EE (48, con_spec_l10SameActs) := by
  refine holds_of EE_ok Go.Proofs.Tryz.func48 con_spec_l10SameActs (by kernel_rfl) use_spec_l10SameActs all_nil ann_spec_l10SameActs (fun x hp hb => ?_)
  obtain ⟨a, b⟩ := x
  have hb_a : BdDV (U := UU) (.one (.sl .eAct a)) := hb _ (List.mem_cons_self)
  have hl_a : a.length ≤ 9223372036854775807 := Bd.len hb_a
  have hb_b : BdDV (U := UU) (.one (.sl .eAct b)) := hb _ (List.mem_cons_of_mem _ (List.mem_cons_self))
  have hl_b : b.length ≤ 9223372036854775807 := Bd.len hb_b
  clear hp hb
  rw [vc_spec_l10SameActs a b]
  dsimp only
  refine if_cond (fun h => Lf_f (ne_len (by simpa using h))) (fun h => ⟨⟨by omega, by omega, (len_eq (a := a) (b := b) (by assumption)), by simp⟩, ?_⟩)
  rintro ⟨i, ⟨⟩⟩ ⟨h1, h2, h3, hR⟩
  simp only
  refine if_cond (fun hc => ?_) (fun hc => ?_)
  · have hc : i < a.length := of_decide_eq_true hc
    have hm : μ_spec_l10SameActs_4 a b (i + 1, PUnit.unit) < μ_spec_l10SameActs_4 a b (i, ()) := by simp only [μ_spec_l10SameActs_4]; omega
    try simp only [expr_beq]
    try simp only [toList_beq]
    have hz : _ := eq_Act (List.getD a i.toNat zAct) (List.getD b i.toNat zAct)
    have hlA : (List.getD a i.toNat zAct).Args.length ≤ 9223372036854775807 := Bd.len (Bd.row hb_a (x := List.getD a i.toNat zAct) (c := .sl .eExpr (List.getD a i.toNat zAct).Args) (getD_mem a _ h1 hc) (.tail _ (.tail _ (.head _))))
    repeat' (first | refine And.intro (by omega) ?_ | refine if_cond (fun h => Lf_f (dr_ne zAct h1 hc (by omega) hR (by first | grind | (rw [hz]; grind)))) (fun h => ?_))
    refine ⟨⟨rfl, by omega, by omega, (len_eq (a := (List.getD a i.toNat zAct).Args) (b := (List.getD b i.toNat zAct).Args) (by assumption)), by simp, rfl, rfl⟩, ?_⟩
    rintro ⟨i, fx, fy, k, ⟨⟩⟩ ⟨rfl, g1, g2, g3, gR, rfl, rfl⟩
    try simp only
    repeat' (refine And.intro (by omega) ?_)
    refine if_cond (fun hk => ?_) (fun hk => ?_)
    · have hk := of_decide_eq_true hk
      simp (disch := omega) only [wrap_i64]
      repeat' (first | refine And.intro (by omega) ?_ | refine if_cond (fun h => ?_) (fun h => ?_))
      all_goals first | exact Lf_f (dr_ne zAct h1 hc (by omega) hR (fun e => absurd (by rw [e]) (dr_ne zExpr g1 hk (by omega) gR (by grind)))) | exact ⟨⟨rfl, by omega, by omega, g3, dr_eq zExpr g1 hk (by omega) gR (by grind), rfl, rfl⟩, by simp only [μ_spec_l10SameActs_11]; omega⟩
    · have hk : (List.getD a i.toNat zAct).Args.length ≤ k := by have := of_decide_eq_false hk; omega
      have he := dr_end hk (by omega) gR
      simp (disch := omega) only [wrap_i64]
      exact ⟨⟨by omega, by omega, h3, dr_eq zAct h1 hc (by omega) hR (by first | grind | (rw [hz]; grind))⟩, hm⟩
  · have hc : a.length ≤ i := by have := of_decide_eq_false hc; omega
    exact Lf_t (dr_end hc (by omega) hR)
def con_spec_l23SameStore : Con UU where
  α := DStore × DStore
  md := [.ro, .ro]
  of := fun | [.agg [.sl .eItem a0, .lit (.int .i64 a1)], .agg [.sl .eItem a2, .lit (.int .i64 a3)]] => some (⟨a0, a1⟩, ⟨a2, a3⟩) | _ => none
  ds := fun (a, b) => [.agg [.sl .eItem a.Items, .lit (.int .i64 a.Next)], .agg [.sl .eItem b.Items, .lit (.int .i64 b.Next)]]
  pre := fun (a, b) => []
  res := fun (a, b) => ⟨[.one (.lit (.bool (decide (a = b))))], true, []⟩
  law := by intro l x h; (try simp only at h); split at h <;> cases h; rfl
def I_spec_l23SameStore_4 (a : DStore) (b : DStore) : Int × (List DItem × Int × Unit) × (List DItem × Int × Unit) × Unit → Prop := fun (i, fa, fb, _) => fa = (a.Items, a.Next, ()) ∧ fb = (b.Items, b.Next, ()) ∧ 0 ≤ i ∧ i ≤ a.Items.length ∧ a.Items.length = b.Items.length ∧ (a.Items.drop i.toNat = b.Items.drop i.toNat ↔ a.Items = b.Items)
def μ_spec_l23SameStore_4 (a : DStore) (b : DStore) : Int × (List DItem × Int × Unit) × (List DItem × Int × Unit) × Unit → Nat := fun (i, fa, fb, _) => a.Items.length - i.toNat
def ann_spec_l23SameStore : con_spec_l23SameStore.α → Nat → Option (Ann UU) := fun (a, b) => annL [(4, annOf [.slot 5 (5, 1024) (.lit (.int .i64)), .box 2 (2, 1024) [.shr .eItem, .lit (.int .i64)], .box 3 (3, 1024) [.shr .eItem, .lit (.int .i64)]] (fun _ => I_spec_l23SameStore_4 a b) (μ_spec_l23SameStore_4 a b))]
def use_spec_l23SameStore : List (FuncId × Con UU) := [(28, con_spec_SameFact)]
theorem vc_spec_l23SameStore (a : DStore) (b : DStore) : goal EE use_spec_l23SameStore Go.Proofs.Tryz.f25 con_spec_l23SameStore ann_spec_l23SameStore (a, b) = (bif a.Next != b.Next then Lf [DV.one (Cell.lit (Value.bool false))] [DV.one (Cell.lit (Value.bool (decide (a = b))))]
else
  bif (↑(List.length a.Items) : Int) != (↑(List.length b.Items) : Int) then Lf [DV.one (Cell.lit (Value.bool false))] [DV.one (Cell.lit (Value.bool (decide (a = b))))]
  else
    I_spec_l23SameStore_4 a b ((0 : Int), (a.Items, a.Next, PUnit.unit), (b.Items, b.Next, PUnit.unit), PUnit.unit) ∧
      ∀ (y : Int × (List DItem × Int × PUnit) × (List DItem × Int × PUnit) × PUnit),
        let x0 : DItem := List.getD y.2.2.1.1 (Int.toNat y.1) zItem;
        let x1 : DItem := List.getD y.2.1.1 (Int.toNat y.1) zItem;
        let x2 : Int := (↑(List.length y.2.1.1) : Int);
        I_spec_l23SameStore_4 a b y → bif decide (y.1 < x2) then (0 : Int) ≤ y.1 ∧ Int.toNat y.1 < List.length y.2.1.1 ∧ (0 : Int) ≤ y.1 ∧ Int.toNat y.1 < List.length y.2.2.1.1 ∧ bif x1.Id != x0.Id then Lf [DV.one (Cell.lit (Value.bool false))] [DV.one (Cell.lit (Value.bool (decide (a = b))))] else (0 : Int) ≤ y.1 ∧ Int.toNat y.1 < List.length y.2.1.1 ∧ (0 : Int) ≤ y.1 ∧ Int.toNat y.1 < List.length y.2.2.1.1 ∧ bif !decide (x1.F = x0.F) then Lf [DV.one (Cell.lit (Value.bool false))] [DV.one (Cell.lit (Value.bool (decide (a = b))))] else I_spec_l23SameStore_4 a b (IntKind.wrap IntKind.i64 (y.1 + (1 : Int)), (y.2.1.1, y.2.1.2.1, PUnit.unit), (y.2.2.1.1, y.2.2.1.2.1, PUnit.unit), PUnit.unit) ∧ μ_spec_l23SameStore_4 a b (IntKind.wrap IntKind.i64 (y.1 + (1 : Int)), (y.2.1.1, y.2.1.2.1, PUnit.unit), (y.2.2.1.1, y.2.2.1.2.1, PUnit.unit), PUnit.unit) < μ_spec_l23SameStore_4 a b y else Lf [DV.one (Cell.lit (Value.bool true))] [DV.one (Cell.lit (Value.bool (decide (a = b))))]) := by kernel_rfl
theorem ok_spec_l23SameStore : Holds EE (25, con_spec_l23SameStore) := by
  refine holds_of EE_ok Go.Proofs.Tryz.func25 con_spec_l23SameStore (by kernel_rfl) use_spec_l23SameStore (all_cons ok_spec_SameFact all_nil) ann_spec_l23SameStore (fun x hp hb => ?_)
  obtain ⟨a, b⟩ := x
  have hb_a : BdDV (U := UU) (.agg [.sl .eItem a.Items, .lit (.int .i64 a.Next)]) := hb _ (List.mem_cons_self)
  have hl_a_Items : a.Items.length ≤ 9223372036854775807 := Bd.len (U := UU) (τ := .eItem) (xs := a.Items) (hb_a _ (by simp))
  have hb_b : BdDV (U := UU) (.agg [.sl .eItem b.Items, .lit (.int .i64 b.Next)]) := hb _ (List.mem_cons_of_mem _ (List.mem_cons_self))
  have hl_b_Items : b.Items.length ≤ 9223372036854775807 := Bd.len (U := UU) (τ := .eItem) (xs := b.Items) (hb_b _ (by simp))
  clear hp hb
  rw [vc_spec_l23SameStore a b]
  dsimp only
  have hy : _ := eq_Store a b
  try simp only [val_beq]
  try simp only [toList_beq]
  repeat' (refine if_cond (fun h => Lf_f (by first | grind | (have := @ne_len; rw [hy]; grind))) (fun h => ?_))
  refine ⟨⟨rfl, rfl, by omega, by omega, by grind, by simp⟩, ?_⟩
  rintro ⟨i, fa, fb, ⟨⟩⟩ ⟨rfl, rfl, h1, h2, h3, hR⟩
  simp only
  refine if_cond (fun hc => ?_) (fun hc => ?_)
  · have hc : i < a.Items.length := of_decide_eq_true hc
    rw [wrap_i64 (by omega) (by omega)]
    try simp only [val_beq]
    try simp only [toList_beq]
    have hz : _ := eq_Item (List.getD a.Items i.toNat zItem) (List.getD b.Items i.toNat zItem)
    repeat' (first | refine And.intro (by omega) ?_ | refine if_cond (fun h => ?_) (fun h => ?_))
    all_goals first | exact Lf_f (fun e => absurd (by rw [e]) (dr_ne zItem h1 hc (by omega) hR (by first | grind | (rw [hz]; grind)))) | exact ⟨⟨rfl, rfl, by omega, by omega, h3, dr_eq zItem h1 hc (by omega) hR (by first | grind | (rw [hz]; grind))⟩, by simp only [μ_spec_l23SameStore_4]; omega⟩
  · have hc : a.Items.length ≤ i := by have := of_decide_eq_false hc; omega
    have he0 := dr_end hc (by omega) hR
    clear hR h1 h2 h3 hc
    repeat' (refine if_cond (fun h => ?_) (fun h => ?_))
    all_goals (refine Lf_b ?_; grind)
def con_spec_l10SameRule : Con UU where
  α := DRule × DRule
  md := [.ro, .ro]
  of := fun | [.agg [.lit (.string a0), .lit (.int .i64 a1), .sl .ePat a2, .sl .eCond a3, .sl .eAct a4], .agg [.lit (.string a5), .lit (.int .i64 a6), .sl .ePat a7, .sl .eCond a8, .sl .eAct a9]] => some (⟨a0, a1, a2, a3, a4⟩, ⟨a5, a6, a7, a8, a9⟩) | _ => none
  ds := fun (a, b) => [.agg [.lit (.string a.Name), .lit (.int .i64 a.Sal), .sl .ePat a.Pats, .sl .eCond a.Conds, .sl .eAct a.Acts], .agg [.lit (.string b.Name), .lit (.int .i64 b.Sal), .sl .ePat b.Pats, .sl .eCond b.Conds, .sl .eAct b.Acts]]
  pre := fun (a, b) => []
  res := fun (a, b) => ⟨[.one (.lit (.bool (decide (a = b))))], true, []⟩
  law := by intro l x h; (try simp only at h); split at h <;> cases h; rfl
def I_spec_l10SameRule_4 (a : DRule) (b : DRule) : Int × (ByteArray × Int × List DPat × List DCond × List DAct × Unit) × (ByteArray × Int × List DPat × List DCond × List DAct × Unit) × Unit → Prop := fun (i, fa, fb, _) => fa = (a.Name, a.Sal, a.Pats, a.Conds, a.Acts, ()) ∧ fb = (b.Name, b.Sal, b.Pats, b.Conds, b.Acts, ()) ∧ 0 ≤ i ∧ i ≤ a.Conds.length ∧ a.Conds.length = b.Conds.length ∧ (a.Conds.drop i.toNat = b.Conds.drop i.toNat ↔ a.Conds = b.Conds)
def μ_spec_l10SameRule_4 (a : DRule) (b : DRule) : Int × (ByteArray × Int × List DPat × List DCond × List DAct × Unit) × (ByteArray × Int × List DPat × List DCond × List DAct × Unit) × Unit → Nat := fun (i, fa, fb, _) => a.Conds.length - i.toNat
def ann_spec_l10SameRule : con_spec_l10SameRule.α → Nat → Option (Ann UU) := fun (a, b) => annL [(4, annOf [.slot 5 (5, 1024) (.lit (.int .i64)), .box 2 (2, 1024) [.lit .str, .lit (.int .i64), .shr .ePat, .shr .eCond, .shr .eAct], .box 3 (3, 1024) [.lit .str, .lit (.int .i64), .shr .ePat, .shr .eCond, .shr .eAct]] (fun _ => I_spec_l10SameRule_4 a b) (μ_spec_l10SameRule_4 a b))]
def use_spec_l10SameRule : List (FuncId × Con UU) := [(47, con_spec_l10SamePats), (48, con_spec_l10SameActs)]
theorem vc_spec_l10SameRule (a : DRule) (b : DRule) : goal EE use_spec_l10SameRule Go.Proofs.Tryz.f24 con_spec_l10SameRule ann_spec_l10SameRule (a, b) = (bif !ByteArray.toList a.Name == ByteArray.toList b.Name then Lf [DV.one (Cell.lit (Value.bool false))] [DV.one (Cell.lit (Value.bool (decide (a = b))))]
else
  bif a.Sal != b.Sal then Lf [DV.one (Cell.lit (Value.bool false))] [DV.one (Cell.lit (Value.bool (decide (a = b))))]
  else
    bif (↑(List.length a.Conds) : Int) != (↑(List.length b.Conds) : Int) then Lf [DV.one (Cell.lit (Value.bool false))] [DV.one (Cell.lit (Value.bool (decide (a = b))))]
    else
      I_spec_l10SameRule_4 a b ((0 : Int), (a.Name, a.Sal, a.Pats, a.Conds, a.Acts, PUnit.unit), (b.Name, b.Sal, b.Pats, b.Conds, b.Acts, PUnit.unit), PUnit.unit) ∧
        ∀ (y : Int × (ByteArray × Int × List DPat × List DCond × List DAct × PUnit) × (ByteArray × Int × List DPat × List DCond × List DAct × PUnit) × PUnit),
          let x0 : DVal := (List.getD y.2.2.1.2.2.2.1 (Int.toNat y.1) zCond).L.V;
          let x1 : DVal := (List.getD y.2.2.1.2.2.2.1 (Int.toNat y.1) zCond).R.V;
          let x2 : DCond := List.getD y.2.2.1.2.2.2.1 (Int.toNat y.1) zCond;
          let x3 : DVal := (List.getD y.2.1.2.2.2.1 (Int.toNat y.1) zCond).R.V;
          let x4 : DVal := (List.getD y.2.1.2.2.2.1 (Int.toNat y.1) zCond).L.V;
          let x5 : DCond := List.getD y.2.1.2.2.2.1 (Int.toNat y.1) zCond;
          let x6 : Int := (↑(List.length y.2.1.2.2.2.1) : Int);
          I_spec_l10SameRule_4 a b y → bif decide (y.1 < x6) then (0 : Int) ≤ y.1 ∧ Int.toNat y.1 < List.length y.2.1.2.2.2.1 ∧ (0 : Int) ≤ y.1 ∧ Int.toNat y.1 < List.length y.2.2.1.2.2.2.1 ∧ bif !(x5.Op == x2.Op && (x5.L.K == x2.L.K && (ByteArray.toList x5.L.S == ByteArray.toList x2.L.S && (x4.K == x0.K && (x4.N == x0.N && (ByteArray.toList x4.S == ByteArray.toList x0.S && true)) && true)) && (x5.R.K == x2.R.K && (ByteArray.toList x5.R.S == ByteArray.toList x2.R.S && (x3.K == x1.K && (x3.N == x1.N && (ByteArray.toList x3.S == ByteArray.toList x1.S && true)) && true)) && true))) then Lf [DV.one (Cell.lit (Value.bool false))] [DV.one (Cell.lit (Value.bool (decide (a = b))))] else I_spec_l10SameRule_4 a b (IntKind.wrap IntKind.i64 (y.1 + (1 : Int)), (y.2.1.1, y.2.1.2.1, y.2.1.2.2.1, y.2.1.2.2.2.1, y.2.1.2.2.2.2.1, PUnit.unit), (y.2.2.1.1, y.2.2.1.2.1, y.2.2.1.2.2.1, y.2.2.1.2.2.2.1, y.2.2.1.2.2.2.2.1, PUnit.unit), PUnit.unit) ∧ μ_spec_l10SameRule_4 a b (IntKind.wrap IntKind.i64 (y.1 + (1 : Int)), (y.2.1.1, y.2.1.2.1, y.2.1.2.2.1, y.2.1.2.2.2.1, y.2.1.2.2.2.2.1, PUnit.unit), (y.2.2.1.1, y.2.2.1.2.1, y.2.2.1.2.2.1, y.2.2.1.2.2.2.1, y.2.2.1.2.2.2.2.1, PUnit.unit), PUnit.unit) < μ_spec_l10SameRule_4 a b y else bif decide (y.2.1.2.2.1 = y.2.2.1.2.2.1) then Lf [DV.one (Cell.lit (Value.bool (decide (y.2.1.2.2.2.2.1 = y.2.2.1.2.2.2.2.1))))] [DV.one (Cell.lit (Value.bool (decide (a = b))))] else Lf [DV.one (Cell.lit (Value.bool false))] [DV.one (Cell.lit (Value.bool (decide (a = b))))]) := by kernel_rfl
theorem ok_spec_l10SameRule : Holds EE (24, con_spec_l10SameRule) := by
  refine holds_of EE_ok Go.Proofs.Tryz.func24 con_spec_l10SameRule (by kernel_rfl) use_spec_l10SameRule (all_cons ok_spec_l10SamePats (all_cons ok_spec_l10SameActs all_nil)) ann_spec_l10SameRule (fun x hp hb => ?_)
  obtain ⟨a, b⟩ := x
  have hb_a : BdDV (U := UU) (.agg [.lit (.string a.Name), .lit (.int .i64 a.Sal), .sl .ePat a.Pats, .sl .eCond a.Conds, .sl .eAct a.Acts]) := hb _ (List.mem_cons_self)
  have hl_a_Name : a.Name.size ≤ 9223372036854775807 := Bd.str (hb_a _ (by simp))
  have hl_a_Pats : a.Pats.length ≤ 9223372036854775807 := Bd.len (U := UU) (τ := .ePat) (xs := a.Pats) (hb_a _ (by simp))
  have hl_a_Conds : a.Conds.length ≤ 9223372036854775807 := Bd.len (U := UU) (τ := .eCond) (xs := a.Conds) (hb_a _ (by simp))
  have hl_a_Acts : a.Acts.length ≤ 9223372036854775807 := Bd.len (U := UU) (τ := .eAct) (xs := a.Acts) (hb_a _ (by simp))
  have hb_b : BdDV (U := UU) (.agg [.lit (.string b.Name), .lit (.int .i64 b.Sal), .sl .ePat b.Pats, .sl .eCond b.Conds, .sl .eAct b.Acts]) := hb _ (List.mem_cons_of_mem _ (List.mem_cons_self))
  have hl_b_Name : b.Name.size ≤ 9223372036854775807 := Bd.str (hb_b _ (by simp))
  have hl_b_Pats : b.Pats.length ≤ 9223372036854775807 := Bd.len (U := UU) (τ := .ePat) (xs := b.Pats) (hb_b _ (by simp))
  have hl_b_Conds : b.Conds.length ≤ 9223372036854775807 := Bd.len (U := UU) (τ := .eCond) (xs := b.Conds) (hb_b _ (by simp))
  have hl_b_Acts : b.Acts.length ≤ 9223372036854775807 := Bd.len (U := UU) (τ := .eAct) (xs := b.Acts) (hb_b _ (by simp))
  clear hp hb
  rw [vc_spec_l10SameRule a b]
  dsimp only
  have hy : _ := eq_Rule a b
  try simp only [cond_beq]
  try simp only [toList_beq]
  repeat' (refine if_cond (fun h => Lf_f (by first | grind | (have := @ne_len; rw [hy]; grind))) (fun h => ?_))
  refine ⟨⟨rfl, rfl, by omega, by omega, by grind, by simp⟩, ?_⟩
  rintro ⟨i, fa, fb, ⟨⟩⟩ ⟨rfl, rfl, h1, h2, h3, hR⟩
  simp only
  refine if_cond (fun hc => ?_) (fun hc => ?_)
  · have hc : i < a.Conds.length := of_decide_eq_true hc
    rw [wrap_i64 (by omega) (by omega)]
    try simp only [cond_beq]
    try simp only [toList_beq]
    have hz : True := trivial
    repeat' (first | refine And.intro (by omega) ?_ | refine if_cond (fun h => ?_) (fun h => ?_))
    all_goals first | exact Lf_f (fun e => absurd (by rw [e]) (dr_ne zCond h1 hc (by omega) hR (by first | grind | (rw [hz]; grind)))) | exact ⟨⟨rfl, rfl, by omega, by omega, h3, dr_eq zCond h1 hc (by omega) hR (by first | grind | (rw [hz]; grind))⟩, by simp only [μ_spec_l10SameRule_4]; omega⟩
  · have hc : a.Conds.length ≤ i := by have := of_decide_eq_false hc; omega
    have he0 := dr_end hc (by omega) hR
    clear hR h1 h2 h3 hc
    repeat' (refine if_cond (fun h => ?_) (fun h => ?_))
    all_goals (refine Lf_b ?_; grind)
def con_spec_SameDef : Con UU where
  α := DDef × DDef
  md := [.ro, .ro]
  of := fun | [.agg [.lit (.string a0), .sl .eRule a1], .agg [.lit (.string a2), .sl .eRule a3]] => some (⟨a0, a1⟩, ⟨a2, a3⟩) | _ => none
  ds := fun (a, b) => [.agg [.lit (.string a.Name), .sl .eRule a.Rules], .agg [.lit (.string b.Name), .sl .eRule b.Rules]]
  pre := fun (a, b) => []
  res := fun (a, b) => ⟨[.one (.lit (.bool (decide (a = b))))], true, []⟩
  law := by intro l x h; (try simp only at h); split at h <;> cases h; rfl
def I_spec_SameDef_4 (a : DDef) (b : DDef) : Int × (ByteArray × List DRule × Unit) × (ByteArray × List DRule × Unit) × Unit → Prop := fun (i, fa, fb, _) => fa = (a.Name, a.Rules, ()) ∧ fb = (b.Name, b.Rules, ()) ∧ 0 ≤ i ∧ i ≤ a.Rules.length ∧ a.Rules.length = b.Rules.length ∧ (a.Rules.drop i.toNat = b.Rules.drop i.toNat ↔ a.Rules = b.Rules)
def μ_spec_SameDef_4 (a : DDef) (b : DDef) : Int × (ByteArray × List DRule × Unit) × (ByteArray × List DRule × Unit) × Unit → Nat := fun (i, fa, fb, _) => a.Rules.length - i.toNat
def ann_spec_SameDef : con_spec_SameDef.α → Nat → Option (Ann UU) := fun (a, b) => annL [(4, annOf [.slot 5 (5, 1024) (.lit (.int .i64)), .box 2 (2, 1024) [.lit .str, .shr .eRule], .box 3 (3, 1024) [.lit .str, .shr .eRule]] (fun _ => I_spec_SameDef_4 a b) (μ_spec_SameDef_4 a b))]
def use_spec_SameDef : List (FuncId × Con UU) := [(24, con_spec_l10SameRule)]
theorem vc_spec_SameDef (a : DDef) (b : DDef) : goal EE use_spec_SameDef Go.Proofs.Tryz.f11 con_spec_SameDef ann_spec_SameDef (a, b) = (bif !ByteArray.toList a.Name == ByteArray.toList b.Name then Lf [DV.one (Cell.lit (Value.bool false))] [DV.one (Cell.lit (Value.bool (decide (a = b))))]
else
  bif (↑(List.length a.Rules) : Int) != (↑(List.length b.Rules) : Int) then Lf [DV.one (Cell.lit (Value.bool false))] [DV.one (Cell.lit (Value.bool (decide (a = b))))]
  else
    I_spec_SameDef_4 a b ((0 : Int), (a.Name, a.Rules, PUnit.unit), (b.Name, b.Rules, PUnit.unit), PUnit.unit) ∧
      ∀ (y : Int × (ByteArray × List DRule × PUnit) × (ByteArray × List DRule × PUnit) × PUnit),
        let x0 : Int := (↑(List.length y.2.1.2.1) : Int);
        I_spec_SameDef_4 a b y → bif decide (y.1 < x0) then (0 : Int) ≤ y.1 ∧ Int.toNat y.1 < List.length y.2.1.2.1 ∧ (0 : Int) ≤ y.1 ∧ Int.toNat y.1 < List.length y.2.2.1.2.1 ∧ bif !decide (List.getD y.2.1.2.1 (Int.toNat y.1) zRule = List.getD y.2.2.1.2.1 (Int.toNat y.1) zRule) then Lf [DV.one (Cell.lit (Value.bool false))] [DV.one (Cell.lit (Value.bool (decide (a = b))))] else I_spec_SameDef_4 a b (IntKind.wrap IntKind.i64 (y.1 + (1 : Int)), (y.2.1.1, y.2.1.2.1, PUnit.unit), (y.2.2.1.1, y.2.2.1.2.1, PUnit.unit), PUnit.unit) ∧ μ_spec_SameDef_4 a b (IntKind.wrap IntKind.i64 (y.1 + (1 : Int)), (y.2.1.1, y.2.1.2.1, PUnit.unit), (y.2.2.1.1, y.2.2.1.2.1, PUnit.unit), PUnit.unit) < μ_spec_SameDef_4 a b y else Lf [DV.one (Cell.lit (Value.bool true))] [DV.one (Cell.lit (Value.bool (decide (a = b))))]) := by kernel_rfl
theorem ok_spec_SameDef : Holds EE (11, con_spec_SameDef) := by
  refine holds_of EE_ok Go.Proofs.Tryz.func11 con_spec_SameDef (by kernel_rfl) use_spec_SameDef (all_cons ok_spec_l10SameRule all_nil) ann_spec_SameDef (fun x hp hb => ?_)
  obtain ⟨a, b⟩ := x
  have hb_a : BdDV (U := UU) (.agg [.lit (.string a.Name), .sl .eRule a.Rules]) := hb _ (List.mem_cons_self)
  have hl_a_Name : a.Name.size ≤ 9223372036854775807 := Bd.str (hb_a _ (by simp))
  have hl_a_Rules : a.Rules.length ≤ 9223372036854775807 := Bd.len (U := UU) (τ := .eRule) (xs := a.Rules) (hb_a _ (by simp))
  have hb_b : BdDV (U := UU) (.agg [.lit (.string b.Name), .sl .eRule b.Rules]) := hb _ (List.mem_cons_of_mem _ (List.mem_cons_self))
  have hl_b_Name : b.Name.size ≤ 9223372036854775807 := Bd.str (hb_b _ (by simp))
  have hl_b_Rules : b.Rules.length ≤ 9223372036854775807 := Bd.len (U := UU) (τ := .eRule) (xs := b.Rules) (hb_b _ (by simp))
  clear hp hb
  rw [vc_spec_SameDef a b]
  dsimp only
  have hy : _ := eq_Def a b
  try simp only [val_beq]
  try simp only [toList_beq]
  repeat' (refine if_cond (fun h => Lf_f (by first | grind | (have := @ne_len; rw [hy]; grind))) (fun h => ?_))
  refine ⟨⟨rfl, rfl, by omega, by omega, by grind, by simp⟩, ?_⟩
  rintro ⟨i, fa, fb, ⟨⟩⟩ ⟨rfl, rfl, h1, h2, h3, hR⟩
  simp only
  refine if_cond (fun hc => ?_) (fun hc => ?_)
  · have hc : i < a.Rules.length := of_decide_eq_true hc
    rw [wrap_i64 (by omega) (by omega)]
    try simp only [val_beq]
    try simp only [toList_beq]
    have hz : _ := eq_Rule (List.getD a.Rules i.toNat zRule) (List.getD b.Rules i.toNat zRule)
    repeat' (first | refine And.intro (by omega) ?_ | refine if_cond (fun h => ?_) (fun h => ?_))
    all_goals first | exact Lf_f (fun e => absurd (by rw [e]) (dr_ne zRule h1 hc (by omega) hR (by first | grind | (rw [hz]; grind)))) | exact ⟨⟨rfl, rfl, by omega, by omega, h3, dr_eq zRule h1 hc (by omega) hR (by first | grind | (rw [hz]; grind))⟩, by simp only [μ_spec_SameDef_4]; omega⟩
  · have hc : a.Rules.length ≤ i := by have := of_decide_eq_false hc; omega
    have he0 := dr_end hc (by omega) hR
    clear hR h1 h2 h3 hc
    repeat' (refine if_cond (fun h => ?_) (fun h => ?_))
    all_goals (refine Lf_b ?_; grind)
def con_spec_l23SameInst : Con UU where
  α := DInst × DInst
  md := [.ro, .ro]
  of := fun | [.agg [.sl .eItem a0, .lit (.int .i64 a1), .sl .eMatch a2, .sl .eTask a3, .sl .eTimer a4, .sl .eUndo a5, .lit (.int .i64 a6), .lit (.int .i64 a7)], .agg [.sl .eItem a8, .lit (.int .i64 a9), .sl .eMatch a10, .sl .eTask a11, .sl .eTimer a12, .sl .eUndo a13, .lit (.int .i64 a14), .lit (.int .i64 a15)]] => some (⟨⟨a0, a1⟩, a2, a3, a4, a5, a6, a7⟩, ⟨⟨a8, a9⟩, a10, a11, a12, a13, a14, a15⟩) | _ => none
  ds := fun (a, b) => [.agg [.sl .eItem a.S.Items, .lit (.int .i64 a.S.Next), .sl .eMatch a.Fired, .sl .eTask a.Tasks, .sl .eTimer a.Timers, .sl .eUndo a.Undos, .lit (.int .i64 a.State), .lit (.int .i64 a.Now)], .agg [.sl .eItem b.S.Items, .lit (.int .i64 b.S.Next), .sl .eMatch b.Fired, .sl .eTask b.Tasks, .sl .eTimer b.Timers, .sl .eUndo b.Undos, .lit (.int .i64 b.State), .lit (.int .i64 b.Now)]]
  pre := fun (a, b) => []
  res := fun (a, b) => ⟨[.one (.lit (.bool (decide (a = b))))], true, []⟩
  law := by intro l x h; (try simp only at h); split at h <;> cases h; rfl
def I_spec_l23SameInst_4 (a : DInst) (b : DInst) : Int × (List DItem × Int × List DMatch × List DTask × List DTimer × List DUndo × Int × Int × Unit) × (List DItem × Int × List DMatch × List DTask × List DTimer × List DUndo × Int × Int × Unit) × Unit → Prop := fun (i, fa, fb, _) => fa = (a.S.Items, a.S.Next, a.Fired, a.Tasks, a.Timers, a.Undos, a.State, a.Now, ()) ∧ fb = (b.S.Items, b.S.Next, b.Fired, b.Tasks, b.Timers, b.Undos, b.State, b.Now, ()) ∧ 0 ≤ i ∧ i ≤ a.Timers.length ∧ a.Timers.length = b.Timers.length ∧ (a.Timers.drop i.toNat = b.Timers.drop i.toNat ↔ a.Timers = b.Timers)
def μ_spec_l23SameInst_4 (a : DInst) (b : DInst) : Int × (List DItem × Int × List DMatch × List DTask × List DTimer × List DUndo × Int × Int × Unit) × (List DItem × Int × List DMatch × List DTask × List DTimer × List DUndo × Int × Int × Unit) × Unit → Nat := fun (i, fa, fb, _) => a.Timers.length - i.toNat
def I_spec_l23SameInst_9 (a : DInst) (b : DInst) : Int × (List DItem × Int × List DMatch × List DTask × List DTimer × List DUndo × Int × Int × Unit) × (List DItem × Int × List DMatch × List DTask × List DTimer × List DUndo × Int × Int × Unit) × Unit → Prop := fun (i, fa, fb, _) => fa = (a.S.Items, a.S.Next, a.Fired, a.Tasks, a.Timers, a.Undos, a.State, a.Now, ()) ∧ fb = (b.S.Items, b.S.Next, b.Fired, b.Tasks, b.Timers, b.Undos, b.State, b.Now, ()) ∧ 0 ≤ i ∧ i ≤ a.Undos.length ∧ a.Undos.length = b.Undos.length ∧ (a.Undos.drop i.toNat = b.Undos.drop i.toNat ↔ a.Undos = b.Undos)
def μ_spec_l23SameInst_9 (a : DInst) (b : DInst) : Int × (List DItem × Int × List DMatch × List DTask × List DTimer × List DUndo × Int × Int × Unit) × (List DItem × Int × List DMatch × List DTask × List DTimer × List DUndo × Int × Int × Unit) × Unit → Nat := fun (i, fa, fb, _) => a.Undos.length - i.toNat
def ann_spec_l23SameInst : con_spec_l23SameInst.α → Nat → Option (Ann UU) := fun (a, b) => annL [(4, annOf [.slot 5 (5, 1024) (.lit (.int .i64)), .box 2 (2, 1024) [.shr .eItem, .lit (.int .i64), .shr .eMatch, .shr .eTask, .shr .eTimer, .shr .eUndo, .lit (.int .i64), .lit (.int .i64)], .box 3 (3, 1024) [.shr .eItem, .lit (.int .i64), .shr .eMatch, .shr .eTask, .shr .eTimer, .shr .eUndo, .lit (.int .i64), .lit (.int .i64)]] (fun _ => I_spec_l23SameInst_4 a b) (μ_spec_l23SameInst_4 a b)), (9, annOf [.slot 6 (6, 1024) (.lit (.int .i64)), .box 2 (2, 1024) [.shr .eItem, .lit (.int .i64), .shr .eMatch, .shr .eTask, .shr .eTimer, .shr .eUndo, .lit (.int .i64), .lit (.int .i64)], .box 3 (3, 1024) [.shr .eItem, .lit (.int .i64), .shr .eMatch, .shr .eTask, .shr .eTimer, .shr .eUndo, .lit (.int .i64), .lit (.int .i64)]] (fun _ => I_spec_l23SameInst_9 a b) (μ_spec_l23SameInst_9 a b))]
def use_spec_l23SameInst : List (FuncId × Con UU) := [(25, con_spec_l23SameStore), (26, con_spec_l23SameTasks), (27, con_spec_SameSet), (28, con_spec_SameFact)]
theorem vc_spec_l23SameInst (a : DInst) (b : DInst) : goal EE use_spec_l23SameInst Go.Proofs.Tryz.f12 con_spec_l23SameInst ann_spec_l23SameInst (a, b) = (bif a.State != b.State then Lf [DV.one (Cell.lit (Value.bool false))] [DV.one (Cell.lit (Value.bool (decide (a = b))))]
else
  bif a.Now != b.Now then Lf [DV.one (Cell.lit (Value.bool false))] [DV.one (Cell.lit (Value.bool (decide (a = b))))]
  else
    bif !decide (a.S = b.S) then Lf [DV.one (Cell.lit (Value.bool false))] [DV.one (Cell.lit (Value.bool (decide (a = b))))]
    else
      bif !decide (a.Tasks = b.Tasks) then Lf [DV.one (Cell.lit (Value.bool false))] [DV.one (Cell.lit (Value.bool (decide (a = b))))]
      else
        bif !decide (a.Fired = b.Fired) then Lf [DV.one (Cell.lit (Value.bool false))] [DV.one (Cell.lit (Value.bool (decide (a = b))))]
        else
          bif (↑(List.length a.Timers) : Int) != (↑(List.length b.Timers) : Int) then Lf [DV.one (Cell.lit (Value.bool false))] [DV.one (Cell.lit (Value.bool (decide (a = b))))]
          else
            bif (↑(List.length a.Undos) : Int) != (↑(List.length b.Undos) : Int) then Lf [DV.one (Cell.lit (Value.bool false))] [DV.one (Cell.lit (Value.bool (decide (a = b))))]
            else
              I_spec_l23SameInst_4 a b ((0 : Int), (a.S.Items, a.S.Next, a.Fired, a.Tasks, a.Timers, a.Undos, a.State, a.Now, PUnit.unit), (b.S.Items, b.S.Next, b.Fired, b.Tasks, b.Timers, b.Undos, b.State, b.Now, PUnit.unit), PUnit.unit) ∧
                ∀ (y : Int × (List DItem × Int × List DMatch × List DTask × List DTimer × List DUndo × Int × Int × PUnit) × (List DItem × Int × List DMatch × List DTask × List DTimer × List DUndo × Int × Int × PUnit) × PUnit),
                  let x0 : DTimer := List.getD y.2.2.1.2.2.2.2.1 (Int.toNat y.1) zTimer;
                  let x1 : DTimer := List.getD y.2.1.2.2.2.2.1 (Int.toNat y.1) zTimer;
                  let x2 : Int := (↑(List.length y.2.1.2.2.2.2.1) : Int);
                  I_spec_l23SameInst_4 a b y →
                    bif decide (y.1 < x2) then (0 : Int) ≤ y.1 ∧ Int.toNat y.1 < List.length y.2.1.2.2.2.2.1 ∧ (0 : Int) ≤ y.1 ∧ Int.toNat y.1 < List.length y.2.2.1.2.2.2.2.1 ∧ bif x1.At != x0.At then Lf [DV.one (Cell.lit (Value.bool false))] [DV.one (Cell.lit (Value.bool (decide (a = b))))] else (0 : Int) ≤ y.1 ∧ Int.toNat y.1 < List.length y.2.1.2.2.2.2.1 ∧ (0 : Int) ≤ y.1 ∧ Int.toNat y.1 < List.length y.2.2.1.2.2.2.2.1 ∧ bif !decide (x1.F = x0.F) then Lf [DV.one (Cell.lit (Value.bool false))] [DV.one (Cell.lit (Value.bool (decide (a = b))))] else I_spec_l23SameInst_4 a b (IntKind.wrap IntKind.i64 (y.1 + (1 : Int)), (y.2.1.1, y.2.1.2.1, y.2.1.2.2.1, y.2.1.2.2.2.1, y.2.1.2.2.2.2.1, y.2.1.2.2.2.2.2.1, y.2.1.2.2.2.2.2.2.1, y.2.1.2.2.2.2.2.2.2.1, PUnit.unit), (y.2.2.1.1, y.2.2.1.2.1, y.2.2.1.2.2.1, y.2.2.1.2.2.2.1, y.2.2.1.2.2.2.2.1, y.2.2.1.2.2.2.2.2.1, y.2.2.1.2.2.2.2.2.2.1, y.2.2.1.2.2.2.2.2.2.2.1, PUnit.unit), PUnit.unit) ∧ μ_spec_l23SameInst_4 a b (IntKind.wrap IntKind.i64 (y.1 + (1 : Int)), (y.2.1.1, y.2.1.2.1, y.2.1.2.2.1, y.2.1.2.2.2.1, y.2.1.2.2.2.2.1, y.2.1.2.2.2.2.2.1, y.2.1.2.2.2.2.2.2.1, y.2.1.2.2.2.2.2.2.2.1, PUnit.unit), (y.2.2.1.1, y.2.2.1.2.1, y.2.2.1.2.2.1, y.2.2.1.2.2.2.1, y.2.2.1.2.2.2.2.1, y.2.2.1.2.2.2.2.2.1, y.2.2.1.2.2.2.2.2.2.1, y.2.2.1.2.2.2.2.2.2.2.1, PUnit.unit), PUnit.unit) < μ_spec_l23SameInst_4 a b y
                    else
                      I_spec_l23SameInst_9 a b ((0 : Int), (y.2.1.1, y.2.1.2.1, y.2.1.2.2.1, y.2.1.2.2.2.1, y.2.1.2.2.2.2.1, y.2.1.2.2.2.2.2.1, y.2.1.2.2.2.2.2.2.1, y.2.1.2.2.2.2.2.2.2.1, PUnit.unit), (y.2.2.1.1, y.2.2.1.2.1, y.2.2.1.2.2.1, y.2.2.1.2.2.2.1, y.2.2.1.2.2.2.2.1, y.2.2.1.2.2.2.2.2.1, y.2.2.1.2.2.2.2.2.2.1, y.2.2.1.2.2.2.2.2.2.2.1, PUnit.unit), PUnit.unit) ∧
                        ∀ (y : Int × (List DItem × Int × List DMatch × List DTask × List DTimer × List DUndo × Int × Int × PUnit) × (List DItem × Int × List DMatch × List DTask × List DTimer × List DUndo × Int × Int × PUnit) × PUnit),
                          let x3 : DUndo := List.getD y.2.2.1.2.2.2.2.2.1 (Int.toNat y.1) zUndo;
                          let x4 : DUndo := List.getD y.2.1.2.2.2.2.2.1 (Int.toNat y.1) zUndo;
                          let x5 : Int := (↑(List.length y.2.1.2.2.2.2.2.1) : Int);
                          I_spec_l23SameInst_9 a b y → bif decide (y.1 < x5) then (0 : Int) ≤ y.1 ∧ Int.toNat y.1 < List.length y.2.1.2.2.2.2.2.1 ∧ (0 : Int) ≤ y.1 ∧ Int.toNat y.1 < List.length y.2.2.1.2.2.2.2.2.1 ∧ bif !ByteArray.toList x4.Key == ByteArray.toList x3.Key then Lf [DV.one (Cell.lit (Value.bool false))] [DV.one (Cell.lit (Value.bool (decide (a = b))))] else (0 : Int) ≤ y.1 ∧ Int.toNat y.1 < List.length y.2.1.2.2.2.2.2.1 ∧ (0 : Int) ≤ y.1 ∧ Int.toNat y.1 < List.length y.2.2.1.2.2.2.2.2.1 ∧ bif !decide (x4.F = x3.F) then Lf [DV.one (Cell.lit (Value.bool false))] [DV.one (Cell.lit (Value.bool (decide (a = b))))] else I_spec_l23SameInst_9 a b (IntKind.wrap IntKind.i64 (y.1 + (1 : Int)), (y.2.1.1, y.2.1.2.1, y.2.1.2.2.1, y.2.1.2.2.2.1, y.2.1.2.2.2.2.1, y.2.1.2.2.2.2.2.1, y.2.1.2.2.2.2.2.2.1, y.2.1.2.2.2.2.2.2.2.1, PUnit.unit), (y.2.2.1.1, y.2.2.1.2.1, y.2.2.1.2.2.1, y.2.2.1.2.2.2.1, y.2.2.1.2.2.2.2.1, y.2.2.1.2.2.2.2.2.1, y.2.2.1.2.2.2.2.2.2.1, y.2.2.1.2.2.2.2.2.2.2.1, PUnit.unit), PUnit.unit) ∧ μ_spec_l23SameInst_9 a b (IntKind.wrap IntKind.i64 (y.1 + (1 : Int)), (y.2.1.1, y.2.1.2.1, y.2.1.2.2.1, y.2.1.2.2.2.1, y.2.1.2.2.2.2.1, y.2.1.2.2.2.2.2.1, y.2.1.2.2.2.2.2.2.1, y.2.1.2.2.2.2.2.2.2.1, PUnit.unit), (y.2.2.1.1, y.2.2.1.2.1, y.2.2.1.2.2.1, y.2.2.1.2.2.2.1, y.2.2.1.2.2.2.2.1, y.2.2.1.2.2.2.2.2.1, y.2.2.1.2.2.2.2.2.2.1, y.2.2.1.2.2.2.2.2.2.2.1, PUnit.unit), PUnit.unit) < μ_spec_l23SameInst_9 a b y else Lf [DV.one (Cell.lit (Value.bool true))] [DV.one (Cell.lit (Value.bool (decide (a = b))))]) := by kernel_rfl
theorem ok_spec_l23SameInst : Holds EE (12, con_spec_l23SameInst) := by
  refine holds_of EE_ok Go.Proofs.Tryz.func12 con_spec_l23SameInst (by kernel_rfl) use_spec_l23SameInst (all_cons ok_spec_l23SameStore (all_cons ok_spec_l23SameTasks (all_cons ok_spec_SameSet (all_cons ok_spec_SameFact all_nil)))) ann_spec_l23SameInst (fun x hp hb => ?_)
  obtain ⟨a, b⟩ := x
  have hb_a : BdDV (U := UU) (.agg [.sl .eItem a.S.Items, .lit (.int .i64 a.S.Next), .sl .eMatch a.Fired, .sl .eTask a.Tasks, .sl .eTimer a.Timers, .sl .eUndo a.Undos, .lit (.int .i64 a.State), .lit (.int .i64 a.Now)]) := hb _ (List.mem_cons_self)
  have hl_a_S_Items : a.S.Items.length ≤ 9223372036854775807 := Bd.len (U := UU) (τ := .eItem) (xs := a.S.Items) (hb_a _ (by simp))
  have hl_a_Fired : a.Fired.length ≤ 9223372036854775807 := Bd.len (U := UU) (τ := .eMatch) (xs := a.Fired) (hb_a _ (by simp))
  have hl_a_Tasks : a.Tasks.length ≤ 9223372036854775807 := Bd.len (U := UU) (τ := .eTask) (xs := a.Tasks) (hb_a _ (by simp))
  have hl_a_Timers : a.Timers.length ≤ 9223372036854775807 := Bd.len (U := UU) (τ := .eTimer) (xs := a.Timers) (hb_a _ (by simp))
  have hl_a_Undos : a.Undos.length ≤ 9223372036854775807 := Bd.len (U := UU) (τ := .eUndo) (xs := a.Undos) (hb_a _ (by simp))
  have hb_b : BdDV (U := UU) (.agg [.sl .eItem b.S.Items, .lit (.int .i64 b.S.Next), .sl .eMatch b.Fired, .sl .eTask b.Tasks, .sl .eTimer b.Timers, .sl .eUndo b.Undos, .lit (.int .i64 b.State), .lit (.int .i64 b.Now)]) := hb _ (List.mem_cons_of_mem _ (List.mem_cons_self))
  have hl_b_S_Items : b.S.Items.length ≤ 9223372036854775807 := Bd.len (U := UU) (τ := .eItem) (xs := b.S.Items) (hb_b _ (by simp))
  have hl_b_Fired : b.Fired.length ≤ 9223372036854775807 := Bd.len (U := UU) (τ := .eMatch) (xs := b.Fired) (hb_b _ (by simp))
  have hl_b_Tasks : b.Tasks.length ≤ 9223372036854775807 := Bd.len (U := UU) (τ := .eTask) (xs := b.Tasks) (hb_b _ (by simp))
  have hl_b_Timers : b.Timers.length ≤ 9223372036854775807 := Bd.len (U := UU) (τ := .eTimer) (xs := b.Timers) (hb_b _ (by simp))
  have hl_b_Undos : b.Undos.length ≤ 9223372036854775807 := Bd.len (U := UU) (τ := .eUndo) (xs := b.Undos) (hb_b _ (by simp))
  clear hp hb
  rw [vc_spec_l23SameInst a b]
  dsimp only
  have hy : _ := eq_Inst a b
  try simp only [val_beq]
  try simp only [toList_beq]
  repeat' (refine if_cond (fun h => Lf_f (by first | grind | (have := @ne_len; rw [hy]; grind))) (fun h => ?_))
  refine ⟨⟨rfl, rfl, by omega, by omega, by grind, by simp⟩, ?_⟩
  rintro ⟨i, fa, fb, ⟨⟩⟩ ⟨rfl, rfl, h1, h2, h3, hR⟩
  simp only
  refine if_cond (fun hc => ?_) (fun hc => ?_)
  · have hc : i < a.Timers.length := of_decide_eq_true hc
    rw [wrap_i64 (by omega) (by omega)]
    try simp only [val_beq]
    try simp only [toList_beq]
    have hz : _ := eq_Timer (List.getD a.Timers i.toNat zTimer) (List.getD b.Timers i.toNat zTimer)
    repeat' (first | refine And.intro (by omega) ?_ | refine if_cond (fun h => ?_) (fun h => ?_))
    all_goals first | exact Lf_f (fun e => absurd (by rw [e]) (dr_ne zTimer h1 hc (by omega) hR (by first | grind | (rw [hz]; grind)))) | exact ⟨⟨rfl, rfl, by omega, by omega, h3, dr_eq zTimer h1 hc (by omega) hR (by first | grind | (rw [hz]; grind))⟩, by simp only [μ_spec_l23SameInst_4]; omega⟩
  · have hc : a.Timers.length ≤ i := by have := of_decide_eq_false hc; omega
    have he0 := dr_end hc (by omega) hR
    clear hR h1 h2 h3 hc
    refine ⟨⟨rfl, rfl, by omega, by omega, by grind, by simp⟩, ?_⟩
    rintro ⟨i, fa, fb, ⟨⟩⟩ ⟨rfl, rfl, h1, h2, h3, hR⟩
    simp only
    refine if_cond (fun hc => ?_) (fun hc => ?_)
    · have hc : i < a.Undos.length := of_decide_eq_true hc
      rw [wrap_i64 (by omega) (by omega)]
      try simp only [val_beq]
      try simp only [toList_beq]
      have hz : _ := eq_Undo (List.getD a.Undos i.toNat zUndo) (List.getD b.Undos i.toNat zUndo)
      repeat' (first | refine And.intro (by omega) ?_ | refine if_cond (fun h => ?_) (fun h => ?_))
      all_goals first | exact Lf_f (fun e => absurd (by rw [e]) (dr_ne zUndo h1 hc (by omega) hR (by first | grind | (rw [hz]; grind)))) | exact ⟨⟨rfl, rfl, by omega, by omega, h3, dr_eq zUndo h1 hc (by omega) hR (by first | grind | (rw [hz]; grind))⟩, by simp only [μ_spec_l23SameInst_9]; omega⟩
    · have hc : a.Undos.length ≤ i := by have := of_decide_eq_false hc; omega
      have he1 := dr_end hc (by omega) hR
      clear hR h1 h2 h3 hc
      repeat' (refine if_cond (fun h => ?_) (fun h => ?_))
      all_goals (refine Lf_b ?_; grind)
def con_spec_SameBook : Con UU where
  α := DBook × DBook
  md := [.ro, .ro]
  of := fun | [.agg [.sl .eDef a0, .sl .eWork a1, .lit (.int .i64 a2), .lit (.int .i64 a3)], .agg [.sl .eDef a4, .sl .eWork a5, .lit (.int .i64 a6), .lit (.int .i64 a7)]] => some (⟨a0, a1, a2, a3⟩, ⟨a4, a5, a6, a7⟩) | _ => none
  ds := fun (a, b) => [.agg [.sl .eDef a.Defs, .sl .eWork a.Works, .lit (.int .i64 a.Now), .lit (.int .i64 a.Ring)], .agg [.sl .eDef b.Defs, .sl .eWork b.Works, .lit (.int .i64 b.Now), .lit (.int .i64 b.Ring)]]
  pre := fun (a, b) => []
  res := fun (a, b) => ⟨[.one (.lit (.bool (decide (a = b))))], true, []⟩
  law := by intro l x h; (try simp only at h); split at h <;> cases h; rfl
def I_spec_SameBook_4 (a : DBook) (b : DBook) : Int × (List DDef × List DWork × Int × Int × Unit) × (List DDef × List DWork × Int × Int × Unit) × Unit → Prop := fun (i, fa, fb, _) => fa = (a.Defs, a.Works, a.Now, a.Ring, ()) ∧ fb = (b.Defs, b.Works, b.Now, b.Ring, ()) ∧ 0 ≤ i ∧ i ≤ a.Defs.length ∧ a.Defs.length = b.Defs.length ∧ (a.Defs.drop i.toNat = b.Defs.drop i.toNat ↔ a.Defs = b.Defs)
def μ_spec_SameBook_4 (a : DBook) (b : DBook) : Int × (List DDef × List DWork × Int × Int × Unit) × (List DDef × List DWork × Int × Int × Unit) × Unit → Nat := fun (i, fa, fb, _) => a.Defs.length - i.toNat
def I_spec_SameBook_9 (a : DBook) (b : DBook) : Int × (List DDef × List DWork × Int × Int × Unit) × (List DDef × List DWork × Int × Int × Unit) × Unit → Prop := fun (i, fa, fb, _) => fa = (a.Defs, a.Works, a.Now, a.Ring, ()) ∧ fb = (b.Defs, b.Works, b.Now, b.Ring, ()) ∧ 0 ≤ i ∧ i ≤ a.Works.length ∧ a.Works.length = b.Works.length ∧ (a.Works.drop i.toNat = b.Works.drop i.toNat ↔ a.Works = b.Works)
def μ_spec_SameBook_9 (a : DBook) (b : DBook) : Int × (List DDef × List DWork × Int × Int × Unit) × (List DDef × List DWork × Int × Int × Unit) × Unit → Nat := fun (i, fa, fb, _) => a.Works.length - i.toNat
def ann_spec_SameBook : con_spec_SameBook.α → Nat → Option (Ann UU) := fun (a, b) => annL [(4, annOf [.slot 5 (5, 1024) (.lit (.int .i64)), .box 2 (2, 1024) [.shr .eDef, .shr .eWork, .lit (.int .i64), .lit (.int .i64)], .box 3 (3, 1024) [.shr .eDef, .shr .eWork, .lit (.int .i64), .lit (.int .i64)]] (fun _ => I_spec_SameBook_4 a b) (μ_spec_SameBook_4 a b)), (9, annOf [.slot 6 (6, 1024) (.lit (.int .i64)), .box 2 (2, 1024) [.shr .eDef, .shr .eWork, .lit (.int .i64), .lit (.int .i64)], .box 3 (3, 1024) [.shr .eDef, .shr .eWork, .lit (.int .i64), .lit (.int .i64)]] (fun _ => I_spec_SameBook_9 a b) (μ_spec_SameBook_9 a b))]
def use_spec_SameBook : List (FuncId × Con UU) := [(11, con_spec_SameDef), (12, con_spec_l23SameInst)]
theorem vc_spec_SameBook (a : DBook) (b : DBook) : goal EE use_spec_SameBook Go.Proofs.Tryz.f5 con_spec_SameBook ann_spec_SameBook (a, b) = (bif a.Now != b.Now then Lf [DV.one (Cell.lit (Value.bool false))] [DV.one (Cell.lit (Value.bool (decide (a = b))))]
else
  bif a.Ring != b.Ring then Lf [DV.one (Cell.lit (Value.bool false))] [DV.one (Cell.lit (Value.bool (decide (a = b))))]
  else
    bif (↑(List.length a.Defs) : Int) != (↑(List.length b.Defs) : Int) then Lf [DV.one (Cell.lit (Value.bool false))] [DV.one (Cell.lit (Value.bool (decide (a = b))))]
    else
      bif (↑(List.length a.Works) : Int) != (↑(List.length b.Works) : Int) then Lf [DV.one (Cell.lit (Value.bool false))] [DV.one (Cell.lit (Value.bool (decide (a = b))))]
      else
        I_spec_SameBook_4 a b ((0 : Int), (a.Defs, a.Works, a.Now, a.Ring, PUnit.unit), (b.Defs, b.Works, b.Now, b.Ring, PUnit.unit), PUnit.unit) ∧
          ∀ (y : Int × (List DDef × List DWork × Int × Int × PUnit) × (List DDef × List DWork × Int × Int × PUnit) × PUnit),
            let x0 : Int := (↑(List.length y.2.1.1) : Int);
            I_spec_SameBook_4 a b y →
              bif decide (y.1 < x0) then (0 : Int) ≤ y.1 ∧ Int.toNat y.1 < List.length y.2.1.1 ∧ (0 : Int) ≤ y.1 ∧ Int.toNat y.1 < List.length y.2.2.1.1 ∧ bif !decide (List.getD y.2.1.1 (Int.toNat y.1) zDef = List.getD y.2.2.1.1 (Int.toNat y.1) zDef) then Lf [DV.one (Cell.lit (Value.bool false))] [DV.one (Cell.lit (Value.bool (decide (a = b))))] else I_spec_SameBook_4 a b (IntKind.wrap IntKind.i64 (y.1 + (1 : Int)), (y.2.1.1, y.2.1.2.1, y.2.1.2.2.1, y.2.1.2.2.2.1, PUnit.unit), (y.2.2.1.1, y.2.2.1.2.1, y.2.2.1.2.2.1, y.2.2.1.2.2.2.1, PUnit.unit), PUnit.unit) ∧ μ_spec_SameBook_4 a b (IntKind.wrap IntKind.i64 (y.1 + (1 : Int)), (y.2.1.1, y.2.1.2.1, y.2.1.2.2.1, y.2.1.2.2.2.1, PUnit.unit), (y.2.2.1.1, y.2.2.1.2.1, y.2.2.1.2.2.1, y.2.2.1.2.2.2.1, PUnit.unit), PUnit.unit) < μ_spec_SameBook_4 a b y
              else
                I_spec_SameBook_9 a b ((0 : Int), (y.2.1.1, y.2.1.2.1, y.2.1.2.2.1, y.2.1.2.2.2.1, PUnit.unit), (y.2.2.1.1, y.2.2.1.2.1, y.2.2.1.2.2.1, y.2.2.1.2.2.2.1, PUnit.unit), PUnit.unit) ∧
                  ∀ (y : Int × (List DDef × List DWork × Int × Int × PUnit) × (List DDef × List DWork × Int × Int × PUnit) × PUnit),
                    let x1 : DWork := List.getD y.2.2.1.2.1 (Int.toNat y.1) zWork;
                    let x2 : DWork := List.getD y.2.1.2.1 (Int.toNat y.1) zWork;
                    let x3 : Int := (↑(List.length y.2.1.2.1) : Int);
                    I_spec_SameBook_9 a b y → bif decide (y.1 < x3) then (0 : Int) ≤ y.1 ∧ Int.toNat y.1 < List.length y.2.1.2.1 ∧ (0 : Int) ≤ y.1 ∧ Int.toNat y.1 < List.length y.2.2.1.2.1 ∧ bif !ByteArray.toList x2.Name == ByteArray.toList x1.Name then Lf [DV.one (Cell.lit (Value.bool false))] [DV.one (Cell.lit (Value.bool (decide (a = b))))] else bif !ByteArray.toList x2.Def == ByteArray.toList x1.Def then Lf [DV.one (Cell.lit (Value.bool false))] [DV.one (Cell.lit (Value.bool (decide (a = b))))] else bif !decide (x2.X = x1.X) then Lf [DV.one (Cell.lit (Value.bool false))] [DV.one (Cell.lit (Value.bool (decide (a = b))))] else I_spec_SameBook_9 a b (IntKind.wrap IntKind.i64 (y.1 + (1 : Int)), (y.2.1.1, y.2.1.2.1, y.2.1.2.2.1, y.2.1.2.2.2.1, PUnit.unit), (y.2.2.1.1, y.2.2.1.2.1, y.2.2.1.2.2.1, y.2.2.1.2.2.2.1, PUnit.unit), PUnit.unit) ∧ μ_spec_SameBook_9 a b (IntKind.wrap IntKind.i64 (y.1 + (1 : Int)), (y.2.1.1, y.2.1.2.1, y.2.1.2.2.1, y.2.1.2.2.2.1, PUnit.unit), (y.2.2.1.1, y.2.2.1.2.1, y.2.2.1.2.2.1, y.2.2.1.2.2.2.1, PUnit.unit), PUnit.unit) < μ_spec_SameBook_9 a b y else Lf [DV.one (Cell.lit (Value.bool true))] [DV.one (Cell.lit (Value.bool (decide (a = b))))]) := by kernel_rfl
theorem ok_spec_SameBook : Holds EE (5, con_spec_SameBook) := by
  refine holds_of EE_ok Go.Proofs.Tryz.func5 con_spec_SameBook (by kernel_rfl) use_spec_SameBook (all_cons ok_spec_SameDef (all_cons ok_spec_l23SameInst all_nil)) ann_spec_SameBook (fun x hp hb => ?_)
  obtain ⟨a, b⟩ := x
  have hb_a : BdDV (U := UU) (.agg [.sl .eDef a.Defs, .sl .eWork a.Works, .lit (.int .i64 a.Now), .lit (.int .i64 a.Ring)]) := hb _ (List.mem_cons_self)
  have hl_a_Defs : a.Defs.length ≤ 9223372036854775807 := Bd.len (U := UU) (τ := .eDef) (xs := a.Defs) (hb_a _ (by simp))
  have hl_a_Works : a.Works.length ≤ 9223372036854775807 := Bd.len (U := UU) (τ := .eWork) (xs := a.Works) (hb_a _ (by simp))
  have hb_b : BdDV (U := UU) (.agg [.sl .eDef b.Defs, .sl .eWork b.Works, .lit (.int .i64 b.Now), .lit (.int .i64 b.Ring)]) := hb _ (List.mem_cons_of_mem _ (List.mem_cons_self))
  have hl_b_Defs : b.Defs.length ≤ 9223372036854775807 := Bd.len (U := UU) (τ := .eDef) (xs := b.Defs) (hb_b _ (by simp))
  have hl_b_Works : b.Works.length ≤ 9223372036854775807 := Bd.len (U := UU) (τ := .eWork) (xs := b.Works) (hb_b _ (by simp))
  clear hp hb
  rw [vc_spec_SameBook a b]
  dsimp only
  have hy : _ := eq_Book a b
  try simp only [val_beq]
  try simp only [toList_beq]
  repeat' (refine if_cond (fun h => Lf_f (by first | grind | (have := @ne_len; rw [hy]; grind))) (fun h => ?_))
  refine ⟨⟨rfl, rfl, by omega, by omega, by grind, by simp⟩, ?_⟩
  rintro ⟨i, fa, fb, ⟨⟩⟩ ⟨rfl, rfl, h1, h2, h3, hR⟩
  simp only
  refine if_cond (fun hc => ?_) (fun hc => ?_)
  · have hc : i < a.Defs.length := of_decide_eq_true hc
    rw [wrap_i64 (by omega) (by omega)]
    try simp only [val_beq]
    try simp only [toList_beq]
    have hz : _ := eq_Def (List.getD a.Defs i.toNat zDef) (List.getD b.Defs i.toNat zDef)
    repeat' (first | refine And.intro (by omega) ?_ | refine if_cond (fun h => ?_) (fun h => ?_))
    all_goals first | exact Lf_f (fun e => absurd (by rw [e]) (dr_ne zDef h1 hc (by omega) hR (by first | grind | (rw [hz]; grind)))) | exact ⟨⟨rfl, rfl, by omega, by omega, h3, dr_eq zDef h1 hc (by omega) hR (by first | grind | (rw [hz]; grind))⟩, by simp only [μ_spec_SameBook_4]; omega⟩
  · have hc : a.Defs.length ≤ i := by have := of_decide_eq_false hc; omega
    have he0 := dr_end hc (by omega) hR
    clear hR h1 h2 h3 hc
    refine ⟨⟨rfl, rfl, by omega, by omega, by grind, by simp⟩, ?_⟩
    rintro ⟨i, fa, fb, ⟨⟩⟩ ⟨rfl, rfl, h1, h2, h3, hR⟩
    simp only
    refine if_cond (fun hc => ?_) (fun hc => ?_)
    · have hc : i < a.Works.length := of_decide_eq_true hc
      rw [wrap_i64 (by omega) (by omega)]
      try simp only [val_beq]
      try simp only [toList_beq]
      have hz : _ := eq_Work (List.getD a.Works i.toNat zWork) (List.getD b.Works i.toNat zWork)
      repeat' (first | refine And.intro (by omega) ?_ | refine if_cond (fun h => ?_) (fun h => ?_))
      all_goals first | exact Lf_f (fun e => absurd (by rw [e]) (dr_ne zWork h1 hc (by omega) hR (by first | grind | (rw [hz]; grind)))) | exact ⟨⟨rfl, rfl, by omega, by omega, h3, dr_eq zWork h1 hc (by omega) hR (by first | grind | (rw [hz]; grind))⟩, by simp only [μ_spec_SameBook_9]; omega⟩
    · have hc : a.Works.length ≤ i := by have := of_decide_eq_false hc; omega
      have he1 := dr_end hc (by omega) hR
      clear hR h1 h2 h3 hc
      repeat' (refine if_cond (fun h => ?_) (fun h => ?_))
      all_goals (refine Lf_b ?_; grind)
def con_laws_FnExactSameBook : Con UU where
  α := DBook × DBook
  md := [.ro, .ro]
  of := fun | [.agg [.sl .lDef a0, .sl .lWork a1, .lit (.int .i64 a2), .lit (.int .i64 a3)], .agg [.sl .lDef a4, .sl .lWork a5, .lit (.int .i64 a6), .lit (.int .i64 a7)]] => some (⟨a0, a1, a2, a3⟩, ⟨a4, a5, a6, a7⟩) | _ => none
  ds := fun (aA, aB) => [.agg [.sl .lDef aA.Defs, .sl .lWork aA.Works, .lit (.int .i64 aA.Now), .lit (.int .i64 aA.Ring)], .agg [.sl .lDef aB.Defs, .sl .lWork aB.Works, .lit (.int .i64 aB.Now), .lit (.int .i64 aB.Ring)]]
  pre := fun (aA, aB) => []
  res := fun (aA, aB) => ⟨[.one (.lit (.bool true))], true, []⟩
  law := by intro l x h; (try simp only at h); split at h <;> cases h; rfl
def ann_laws_FnExactSameBook : con_laws_FnExactSameBook.α → Nat → Option (Ann UU) := fun (aA, aB) => annL []
def use_laws_FnExactSameBook : List (FuncId × Con UU) := [(4, con_laws_szBook), (6, con_laws_toBook), (5, con_spec_SameBook), (7, con_impl_SameBook), (8, con_laws_eqBook)]
theorem vc_laws_FnExactSameBook (aA : DBook) (aB : DBook) : goal EE use_laws_FnExactSameBook Go.Proofs.Tryz.f3 con_laws_FnExactSameBook ann_laws_FnExactSameBook (aA, aB) = (let x0 : Int := szr (1048576 : Int) (sizeBook aA);
(0 : Int) ≤ (1048576 : Int) ∧ bif decide (x0 < (0 : Int)) then Lf [DV.one (Cell.lit (Value.bool true))] [DV.one (Cell.lit (Value.bool true))] else (0 : Int) ≤ x0 ∧ bif decide (szr x0 (sizeBook aB) < (0 : Int)) then Lf [DV.one (Cell.lit (Value.bool true))] [DV.one (Cell.lit (Value.bool true))] else sizeBook aA ≤ (4294967296 : Nat) ∧ sizeBook aB ≤ (4294967296 : Nat) ∧ sizeBook aA ≤ (4294967296 : Nat) ∧ sizeBook aB ≤ (4294967296 : Nat) ∧ bif !decide (aA = aB) == decide (aA = aB) then Lf [DV.one (Cell.lit (Value.bool false))] [DV.one (Cell.lit (Value.bool true))] else sizeBook aA ≤ (4294967296 : Nat) ∧ bif !decide (aA = aA) then Lf [DV.one (Cell.lit (Value.bool false))] [DV.one (Cell.lit (Value.bool true))] else sizeBook aB ≤ (4294967296 : Nat) ∧ bif !decide (aB = aB) then Lf [DV.one (Cell.lit (Value.bool false))] [DV.one (Cell.lit (Value.bool true))] else Lf [DV.one (Cell.lit (Value.bool true))] [DV.one (Cell.lit (Value.bool true))]) := by kernel_rfl
theorem ok_laws_FnExactSameBook : Holds EE (3, con_laws_FnExactSameBook) := by
  refine holds_of EE_ok Go.Proofs.Tryz.func3 con_laws_FnExactSameBook (by kernel_rfl) use_laws_FnExactSameBook (all_cons ok_laws_szBook (all_cons ok_laws_toBook (all_cons ok_spec_SameBook (all_cons ok_impl_SameBook (all_cons ok_laws_eqBook all_nil))))) ann_laws_FnExactSameBook (fun x hp hb => ?_)
  obtain ⟨aA, aB⟩ := x
  have hb_aA : BdDV (U := UU) (.agg [.sl .lDef aA.Defs, .sl .lWork aA.Works, .lit (.int .i64 aA.Now), .lit (.int .i64 aA.Ring)]) := hb _ (List.mem_cons_self)
  have hl_aA_Defs : aA.Defs.length ≤ 9223372036854775807 := Bd.len (U := UU) (τ := .lDef) (xs := aA.Defs) (hb_aA _ (by simp))
  have hl_aA_Works : aA.Works.length ≤ 9223372036854775807 := Bd.len (U := UU) (τ := .lWork) (xs := aA.Works) (hb_aA _ (by simp))
  have hb_aB : BdDV (U := UU) (.agg [.sl .lDef aB.Defs, .sl .lWork aB.Works, .lit (.int .i64 aB.Now), .lit (.int .i64 aB.Ring)]) := hb _ (List.mem_cons_of_mem _ (List.mem_cons_self))
  have hl_aB_Defs : aB.Defs.length ≤ 9223372036854775807 := Bd.len (U := UU) (τ := .lDef) (xs := aB.Defs) (hb_aB _ (by simp))
  have hl_aB_Works : aB.Works.length ≤ 9223372036854775807 := Bd.len (U := UU) (τ := .lWork) (xs := aB.Works) (hb_aB _ (by simp))
  clear hp hb
  rw [vc_laws_FnExactSameBook aA aB]
  dsimp only
  refine ⟨by omega, if_cond (fun h => Lf_rfl _) (fun h => ?_)⟩
  obtain ⟨e0, h0⟩ := szr_pos h
  refine ⟨by omega, if_cond (fun h => Lf_rfl _) (fun h => ?_)⟩
  obtain ⟨e1, h1⟩ := szr_pos h
  repeat' (first | exact Lf_rfl _ | refine And.intro (by omega) ?_ | refine if_cond (fun h => absurd h (by simp)) (fun h => ?_) | fail)
end
end AM
