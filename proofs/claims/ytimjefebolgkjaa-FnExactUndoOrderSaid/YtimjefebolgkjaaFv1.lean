/- Functions of the program with their contracts: written by gen/fn.py out of v1.fn. -/
import Derived.Test.YtimjefebolgkjaaAmLib
import Derived.Test.YtimjefebolgkjaaFu1
namespace AM
open Go
set_option linter.unusedVariables false
set_option linter.unusedSimpArgs false
set_option maxRecDepth 100000
noncomputable section
theorem undo_at (l : List DUndo) {i : Int} (h0 : 0 ≤ i) (h : i < l.length) : List.getD (l.reverse.map DUndo.Key) i.toNat noBytes = DUndo.Key (List.getD l (l.length - 1 - i).toNat zUndo) := by
  have hn : i.toNat < (l.reverse.map DUndo.Key).length := by simp; omega
  have hm : (l.length - 1 - i).toNat < l.length := by omega
  rw [List.getD_eq_getElem?_getD, List.getElem?_eq_getElem hn, List.getD_eq_getElem?_getD, List.getElem?_eq_getElem hm]
  simp only [List.getElem_map, List.getElem_reverse, Option.getD_some]
  congr 2
  omega
def con_spec_UndoOrder : Con UU where
  α := (List DUndo) × (List ByteArray)
  md := [.ro, .ro]
  of := fun | [.one (.sl .eUndo a0), .one (.sl .str a1)] => some (a0, a1) | _ => none
  ds := fun (l, keys) => [.one (.sl .eUndo l), .one (.sl .str keys)]
  pre := fun (l, keys) => []
  res := fun (l, keys) => ⟨[.one (.lit (.bool (decide (l.reverse.map DUndo.Key = keys))))], true, []⟩
  law := by intro l x h; (try simp only at h); split at h <;> cases h; rfl
def I_spec_UndoOrder_4 (l : (List DUndo)) (keys : (List ByteArray)) : Int × Unit → Prop := fun (i, _) => 0 ≤ i ∧ i ≤ keys.length ∧ l.length = keys.length ∧ ((l.reverse.map DUndo.Key).drop i.toNat = keys.drop i.toNat ↔ l.reverse.map DUndo.Key = keys)
def μ_spec_UndoOrder_4 (l : (List DUndo)) (keys : (List ByteArray)) : Int × Unit → Nat := fun (i, _) => keys.length - i.toNat
def ann_spec_UndoOrder : con_spec_UndoOrder.α → Nat → Option (Ann UU) := fun (l, keys) => annL [(4, annOf [.slot 5 (5, 1024) (.lit (.int .i64))] (I_spec_UndoOrder_4 l keys) (μ_spec_UndoOrder_4 l keys))]
def use_spec_UndoOrder : List (FuncId × Con UU) := []
theorem vc_spec_UndoOrder (l : (List DUndo)) (keys : (List ByteArray)) : goal EE use_spec_UndoOrder Go.Proofs.Try.f16 con_spec_UndoOrder ann_spec_UndoOrder (l, keys) = (bif (↑(List.length l) : Int) != (↑(List.length keys) : Int) then Lf [DV.one (Cell.lit (Value.bool false))] [DV.one (Cell.lit (Value.bool (decide (List.map DUndo.Key (List.reverse l) = keys))))] else I_spec_UndoOrder_4 l keys ((0 : Int), PUnit.unit) ∧ ∀ (y : Int × PUnit), I_spec_UndoOrder_4 l keys y → bif decide (y.1 < (↑(List.length keys) : Int)) then (0 : Int) ≤ IntKind.wrap IntKind.i64 (IntKind.wrap IntKind.i64 ((↑(List.length l) : Int) - (1 : Int)) - y.1) ∧ Int.toNat (IntKind.wrap IntKind.i64 (IntKind.wrap IntKind.i64 ((↑(List.length l) : Int) - (1 : Int)) - y.1)) < List.length l ∧ (0 : Int) ≤ y.1 ∧ Int.toNat y.1 < List.length keys ∧ bif !ByteArray.toList (DUndo.Key (List.getD l (Int.toNat (IntKind.wrap IntKind.i64 (IntKind.wrap IntKind.i64 ((↑(List.length l) : Int) - (1 : Int)) - y.1))) zUndo)) == ByteArray.toList (List.getD keys (Int.toNat y.1) noBytes) then Lf [DV.one (Cell.lit (Value.bool false))] [DV.one (Cell.lit (Value.bool (decide (List.map DUndo.Key (List.reverse l) = keys))))] else I_spec_UndoOrder_4 l keys (IntKind.wrap IntKind.i64 (y.1 + (1 : Int)), PUnit.unit) ∧ μ_spec_UndoOrder_4 l keys (IntKind.wrap IntKind.i64 (y.1 + (1 : Int)), PUnit.unit) < μ_spec_UndoOrder_4 l keys y else Lf [DV.one (Cell.lit (Value.bool true))] [DV.one (Cell.lit (Value.bool (decide (List.map DUndo.Key (List.reverse l) = keys))))]) := by kernel_rfl
theorem ok_spec_UndoOrder : Holds EE (16, con_spec_UndoOrder) := by
  refine holds_of EE_ok Go.Proofs.Try.func16 con_spec_UndoOrder (by kernel_rfl) rfl use_spec_UndoOrder all_nil ann_spec_UndoOrder (fun x hp hb => ?_)
  obtain ⟨l, keys⟩ := x
  have hb_l : BdDV (U := UU) (.one (.sl .eUndo l)) := hb _ (List.mem_cons_self)
  have hl_l : l.length ≤ 9223372036854775807 := Bd.len hb_l
  have hb_keys : BdDV (U := UU) (.one (.sl .str keys)) := hb _ (List.mem_cons_of_mem _ (List.mem_cons_self))
  have hl_keys : keys.length ≤ 9223372036854775807 := Bd.len hb_keys
  clear hp hb
  rw [vc_spec_UndoOrder l keys]
  refine if_cond (fun h => Lf_f ?_) (fun h => ⟨?_, ?_⟩)
  · rintro rfl; simp at h
  · have h : (l.length : Int) = keys.length := by simpa using h
    exact ⟨by omega, by omega, by omega, by simp⟩
  rintro ⟨i, ⟨⟩⟩ ⟨h1, h2, h3, hR⟩
  simp only at *
  refine if_cond (fun hc => ?_) (fun hc => ?_)
  · have hc : i < keys.length := by have hc := of_decide_eq_true hc; omega
    simp (disch := omega) only [wrap_i64, toList_beq]
    rw [drop_step (l.reverse.map DUndo.Key) noBytes h1 (by simp; omega), drop_step keys noBytes h1 hc, undo_at l h1 (by omega)] at hR
    refine ⟨by omega, by omega, by omega, by omega, if_cond (fun h => Lf_f ?_) (fun h => ⟨⟨by omega, by omega, h3, ?_⟩, ?_⟩)⟩
    · rw [← hR]; simp at h; simp [h]
    · rw [← hR]; simp at h; simp [h]
    · simp only [μ_spec_UndoOrder_4]; omega
  · have hc : keys.length ≤ i := by have hc := of_decide_eq_false hc; omega
    rw [drop_end _ (by simp; omega), drop_end keys hc] at hR
    exact Lf_t (hR.1 rfl)
def con_impl_UndoOrder : Con UU where
  α := (List DUndo) × (List ByteArray)
  md := [.ro, .ro]
  of := fun | [.one (.sl .eUndo a0), .one (.sl .str a1)] => some (a0, a1) | _ => none
  ds := fun (l, keys) => [.one (.sl .eUndo l), .one (.sl .str keys)]
  pre := fun (l, keys) => []
  res := fun (l, keys) => ⟨[.one (.lit (.bool (decide (l.reverse.map DUndo.Key = keys))))], true, []⟩
  law := by intro l x h; (try simp only at h); split at h <;> cases h; rfl
def I_impl_UndoOrder_4 (l : (List DUndo)) (keys : (List ByteArray)) : Int × Unit → Prop := fun (i, _) => 0 ≤ i ∧ i ≤ keys.length ∧ l.length = keys.length ∧ ((l.reverse.map DUndo.Key).drop i.toNat = keys.drop i.toNat ↔ l.reverse.map DUndo.Key = keys)
def μ_impl_UndoOrder_4 (l : (List DUndo)) (keys : (List ByteArray)) : Int × Unit → Nat := fun (i, _) => keys.length - i.toNat
def ann_impl_UndoOrder : con_impl_UndoOrder.α → Nat → Option (Ann UU) := fun (l, keys) => annL [(4, annOf [.slot 14 (14, 1024) (.lit (.int .i64))] (I_impl_UndoOrder_4 l keys) (μ_impl_UndoOrder_4 l keys))]
def use_impl_UndoOrder : List (FuncId × Con UU) := []
theorem vc_impl_UndoOrder (l : (List DUndo)) (keys : (List ByteArray)) : goal EE use_impl_UndoOrder Go.Proofs.Try.f19 con_impl_UndoOrder ann_impl_UndoOrder (l, keys) = (bif (↑(List.length keys) : Int) != (↑(List.length l) : Int) then Lf [DV.one (Cell.lit (Value.bool false))] [DV.one (Cell.lit (Value.bool (decide (List.map DUndo.Key (List.reverse l) = keys))))] else I_impl_UndoOrder_4 l keys ((0 : Int), PUnit.unit) ∧ ∀ (y : Int × PUnit), I_impl_UndoOrder_4 l keys y → bif decide (y.1 < (↑(List.length keys) : Int)) then (0 : Int) ≤ y.1 ∧ Int.toNat y.1 < List.length keys ∧ (0 : Int) ≤ IntKind.wrap IntKind.i64 (IntKind.wrap IntKind.i64 ((↑(List.length l) : Int) - (1 : Int)) - y.1) ∧ Int.toNat (IntKind.wrap IntKind.i64 (IntKind.wrap IntKind.i64 ((↑(List.length l) : Int) - (1 : Int)) - y.1)) < List.length l ∧ bif !ByteArray.toList (DUndo.Key (List.getD l (Int.toNat (IntKind.wrap IntKind.i64 (IntKind.wrap IntKind.i64 ((↑(List.length l) : Int) - (1 : Int)) - y.1))) zUndo)) == ByteArray.toList (List.getD keys (Int.toNat y.1) noBytes) then Lf [DV.one (Cell.lit (Value.bool false))] [DV.one (Cell.lit (Value.bool (decide (List.map DUndo.Key (List.reverse l) = keys))))] else I_impl_UndoOrder_4 l keys (IntKind.wrap IntKind.i64 (y.1 + (1 : Int)), PUnit.unit) ∧ μ_impl_UndoOrder_4 l keys (IntKind.wrap IntKind.i64 (y.1 + (1 : Int)), PUnit.unit) < μ_impl_UndoOrder_4 l keys y else Lf [DV.one (Cell.lit (Value.bool true))] [DV.one (Cell.lit (Value.bool (decide (List.map DUndo.Key (List.reverse l) = keys))))]) := by kernel_rfl
theorem ok_impl_UndoOrder : Holds EE (19, con_impl_UndoOrder) := by
  refine holds_of EE_ok Go.Proofs.Try.func19 con_impl_UndoOrder (by kernel_rfl) rfl use_impl_UndoOrder all_nil ann_impl_UndoOrder (fun x hp hb => ?_)
  obtain ⟨l, keys⟩ := x
  have hb_l : BdDV (U := UU) (.one (.sl .eUndo l)) := hb _ (List.mem_cons_self)
  have hl_l : l.length ≤ 9223372036854775807 := Bd.len hb_l
  have hb_keys : BdDV (U := UU) (.one (.sl .str keys)) := hb _ (List.mem_cons_of_mem _ (List.mem_cons_self))
  have hl_keys : keys.length ≤ 9223372036854775807 := Bd.len hb_keys
  clear hp hb
  rw [vc_impl_UndoOrder l keys]
  refine if_cond (fun h => Lf_f ?_) (fun h => ⟨?_, ?_⟩)
  · rintro rfl; simp at h
  · have h : (keys.length : Int) = l.length := by simpa using h
    exact ⟨by omega, by omega, by omega, by simp⟩
  rintro ⟨i, ⟨⟩⟩ ⟨h1, h2, h3, hR⟩
  simp only at *
  refine if_cond (fun hc => ?_) (fun hc => ?_)
  · have hc : i < keys.length := by have hc := of_decide_eq_true hc; omega
    simp (disch := omega) only [wrap_i64, toList_beq]
    rw [drop_step (l.reverse.map DUndo.Key) noBytes h1 (by simp; omega), drop_step keys noBytes h1 hc, undo_at l h1 (by omega)] at hR
    refine ⟨by omega, by omega, by omega, by omega, if_cond (fun h => Lf_f ?_) (fun h => ⟨⟨by omega, by omega, h3, ?_⟩, ?_⟩)⟩
    · rw [← hR]; simp at h; simp [h]
    · rw [← hR]; simp at h; simp [h]
    · simp only [μ_impl_UndoOrder_4]; omega
  · have hc : keys.length ≤ i := by have hc := of_decide_eq_false hc; omega
    rw [drop_end _ (by simp; omega), drop_end keys hc] at hR
    exact Lf_t (hR.1 rfl)
def con_laws_FnExactUndoOrder : Con UU where
  α := (List DUndo) × (List ByteArray)
  md := [.ro, .ro]
  of := fun | [.one (.sl .lUndo a0), .one (.sl .str a1)] => some (a0, a1) | _ => none
  ds := fun (aL, aKeys) => [.one (.sl .lUndo aL), .one (.sl .str aKeys)]
  pre := fun (aL, aKeys) => []
  res := fun (aL, aKeys) => ⟨[.one (.lit (.bool true))], true, []⟩
  law := by intro l x h; (try simp only at h); split at h <;> cases h; rfl
def ann_laws_FnExactUndoOrder : con_laws_FnExactUndoOrder.α → Nat → Option (Ann UU) := fun (aL, aKeys) => annL []
def use_laws_FnExactUndoOrder : List (FuncId × Con UU) := [(14, con_laws_szUndoS), (15, con_laws_szStringS), (17, con_laws_toUndoS), (18, con_laws_toStringS), (16, con_spec_UndoOrder), (19, con_impl_UndoOrder), (20, con_laws_eqUndoS), (21, con_laws_eqStringS)]
theorem vc_laws_FnExactUndoOrder (aL : (List DUndo)) (aKeys : (List ByteArray)) : goal EE use_laws_FnExactUndoOrder Go.Proofs.Try.f5 con_laws_FnExactUndoOrder ann_laws_FnExactUndoOrder (aL, aKeys) = ((0 : Int) ≤ (1048576 : Int) ∧ bif decide (szr (1048576 : Int) (sizeUndoS aL) < (0 : Int)) then Lf [DV.one (Cell.lit (Value.bool true))] [DV.one (Cell.lit (Value.bool true))] else (0 : Int) ≤ szr (1048576 : Int) (sizeUndoS aL) ∧ bif decide (szr (szr (1048576 : Int) (sizeUndoS aL)) (sizeStringS aKeys) < (0 : Int)) then Lf [DV.one (Cell.lit (Value.bool true))] [DV.one (Cell.lit (Value.bool true))] else sizeUndoS aL ≤ (4294967296 : Nat) ∧ sizeStringS aKeys ≤ (4294967296 : Nat) ∧ sizeUndoS aL ≤ (4294967296 : Nat) ∧ sizeStringS aKeys ≤ (4294967296 : Nat) ∧ bif !decide (List.map DUndo.Key (List.reverse aL) = aKeys) == decide (List.map DUndo.Key (List.reverse aL) = aKeys) then Lf [DV.one (Cell.lit (Value.bool false))] [DV.one (Cell.lit (Value.bool true))] else sizeUndoS aL ≤ (4294967296 : Nat) ∧ bif !decide (aL = aL) then Lf [DV.one (Cell.lit (Value.bool false))] [DV.one (Cell.lit (Value.bool true))] else sizeStringS aKeys ≤ (4294967296 : Nat) ∧ bif !decide (aKeys = aKeys) then Lf [DV.one (Cell.lit (Value.bool false))] [DV.one (Cell.lit (Value.bool true))] else Lf [DV.one (Cell.lit (Value.bool true))] [DV.one (Cell.lit (Value.bool true))]) := by kernel_rfl
theorem ok_laws_FnExactUndoOrder : Holds EE (5, con_laws_FnExactUndoOrder) := by
  refine holds_of EE_ok Go.Proofs.Try.func5 con_laws_FnExactUndoOrder (by kernel_rfl) rfl use_laws_FnExactUndoOrder (all_cons ok_laws_szUndoS (all_cons ok_laws_szStringS (all_cons ok_laws_toUndoS (all_cons ok_laws_toStringS (all_cons ok_spec_UndoOrder (all_cons ok_impl_UndoOrder (all_cons ok_laws_eqUndoS (all_cons ok_laws_eqStringS all_nil)))))))) ann_laws_FnExactUndoOrder (fun x hp hb => ?_)
  obtain ⟨aL, aKeys⟩ := x
  have hb_aL : BdDV (U := UU) (.one (.sl .lUndo aL)) := hb _ (List.mem_cons_self)
  have hl_aL : aL.length ≤ 9223372036854775807 := Bd.len hb_aL
  have hb_aKeys : BdDV (U := UU) (.one (.sl .str aKeys)) := hb _ (List.mem_cons_of_mem _ (List.mem_cons_self))
  have hl_aKeys : aKeys.length ≤ 9223372036854775807 := Bd.len hb_aKeys
  clear hp hb
  rw [vc_laws_FnExactUndoOrder aL aKeys]
  refine ⟨by omega, if_cond (fun h => Lf_rfl _) (fun h => ?_)⟩
  obtain ⟨e0, h0⟩ := szr_pos h
  rw [e0]
  refine ⟨by omega, if_cond (fun h => Lf_rfl _) (fun h => ?_)⟩
  obtain ⟨e1, h1⟩ := szr_pos h
  repeat' (first | exact Lf_rfl _ | refine And.intro (by omega) ?_ | refine if_cond (fun h => absurd h (by simp)) (fun h => ?_) | fail)
end
end AM
