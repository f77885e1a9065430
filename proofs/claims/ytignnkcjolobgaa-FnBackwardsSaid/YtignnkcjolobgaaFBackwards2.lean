/- Functions of the program with their contracts: put together by gen/link.py for FnBackwards. -/
import Derived.Test.YtignnkcjolobgaaAmLib
import Derived.Test.YtignnkcjolobgaaAmModels
import Derived.Test.YtignnkcjolobgaaFBackwards
import Derived.Lib.ItoaLen
import Derived.Lib.Join
namespace AM
open Go
set_option linter.unusedVariables false
set_option linter.unusedSimpArgs false
set_option maxRecDepth 100000
noncomputable section
theorem undo_at (l : List DUndo) {i : Int} (h0 : 0 ≤ i) (h : i < l.length) : List.getD (l.reverse.map DUndo.Key) i.toNat noBytes = DUndo.Key (List.getD l (l.length - 1 - i).toNat zUndo) := by
  have hn : i.toNat < (l.reverse.map DUndo.Key).length := by simp; omega
  have hm : (l.length - 1 - i).toNat < l.length := by omega
  rw [List.getD_eq_getElem?_getD, List.getElem?_eq_getElem hn, List.getD_eq_getElem?_getD, List.getElem?_eq_getElem hm]
  simp only [List.getElem_map, List.getElem_reverse, Option.getD_some]
  congr 2
  omega
def con_spec_UndoOrder : Con UU where
  α := (List DUndo) × (List ByteArray)
  md := [.ro, .ro]
  of := fun | [.one (.sl .eUndo a0), .one (.sl .str a1)] => some (a0, a1) | _ => none
  ds := fun (l, keys) => [.one (.sl .eUndo l), .one (.sl .str keys)]
  pre := fun (l, keys) => []
  res := fun (l, keys) => ⟨[.one (.lit (.bool (decide (l.reverse.map DUndo.Key = keys))))], true, []⟩
  law := by intro l x h; (try simp only at h); split at h <;> cases h; rfl
def I_spec_UndoOrder_4 (l : (List DUndo)) (keys : (List ByteArray)) : Int × Unit → Prop := fun (i, _) => 0 ≤ i ∧ i ≤ keys.length ∧ l.length = keys.length ∧ ((l.reverse.map DUndo.Key).drop i.toNat = keys.drop i.toNat ↔ l.reverse.map DUndo.Key = keys)
def μ_spec_UndoOrder_4 (l : (List DUndo)) (keys : (List ByteArray)) : Int × Unit → Nat := fun (i, _) => keys.length - i.toNat
def ann_spec_UndoOrder : con_spec_UndoOrder.α → Nat → Option (Ann UU) := fun (l, keys) => annL [(4, annOf [.slot 5 (5, 1024) (.lit (.int .i64))] (fun _ => I_spec_UndoOrder_4 l keys) (μ_spec_UndoOrder_4 l keys))]
def use_spec_UndoOrder : List (FuncId × Con UU) := []
theorem vc_spec_UndoOrder (l : (List DUndo)) (keys : (List ByteArray)) : goal EE use_spec_UndoOrder Go.Proofs.Try.f15 con_spec_UndoOrder ann_spec_UndoOrder (l, keys) = (bif (↑(List.length l) : Int) != (↑(List.length keys) : Int) then Lf [DV.one (Cell.lit (Value.bool false))] [DV.one (Cell.lit (Value.bool (decide (List.map DUndo.Key (List.reverse l) = keys))))]
else
  I_spec_UndoOrder_4 l keys ((0 : Int), PUnit.unit) ∧
    ∀ (y : Int × PUnit),
      let x0 : Nat := Int.toNat (IntKind.wrap IntKind.i64 (IntKind.wrap IntKind.i64 ((↑(List.length l) : Int) - (1 : Int)) - y.1));
      I_spec_UndoOrder_4 l keys y → bif decide (y.1 < (↑(List.length keys) : Int)) then (0 : Int) ≤ IntKind.wrap IntKind.i64 (IntKind.wrap IntKind.i64 ((↑(List.length l) : Int) - (1 : Int)) - y.1) ∧ x0 < List.length l ∧ (0 : Int) ≤ y.1 ∧ Int.toNat y.1 < List.length keys ∧ bif !ByteArray.toList (List.getD l x0 zUndo).Key == ByteArray.toList (List.getD keys (Int.toNat y.1) noBytes) then Lf [DV.one (Cell.lit (Value.bool false))] [DV.one (Cell.lit (Value.bool (decide (List.map DUndo.Key (List.reverse l) = keys))))] else I_spec_UndoOrder_4 l keys (IntKind.wrap IntKind.i64 (y.1 + (1 : Int)), PUnit.unit) ∧ μ_spec_UndoOrder_4 l keys (IntKind.wrap IntKind.i64 (y.1 + (1 : Int)), PUnit.unit) < μ_spec_UndoOrder_4 l keys y else Lf [DV.one (Cell.lit (Value.bool true))] [DV.one (Cell.lit (Value.bool (decide (List.map DUndo.Key (List.reverse l) = keys))))]) := by kernel_rfl
theorem ok_spec_UndoOrder : Holds EE (15, con_spec_UndoOrder) := by
  refine holds_of EE_ok Go.Proofs.Try.func15 con_spec_UndoOrder (by kernel_rfl) use_spec_UndoOrder all_nil ann_spec_UndoOrder (fun x hp hb => ?_)
  obtain ⟨l, keys⟩ := x
  have hb_l : BdDV (U := UU) (.one (.sl .eUndo l)) := hb _ (List.mem_cons_self)
  have hl_l : l.length ≤ 9223372036854775807 := Bd.len hb_l
  have hb_keys : BdDV (U := UU) (.one (.sl .str keys)) := hb _ (List.mem_cons_of_mem _ (List.mem_cons_self))
  have hl_keys : keys.length ≤ 9223372036854775807 := Bd.len hb_keys
  clear hp hb
  rw [vc_spec_UndoOrder l keys]
  dsimp only
  refine if_cond (fun h => Lf_f ?_) (fun h => ⟨?_, ?_⟩)
  · rintro rfl; simp at h
  · have h : (l.length : Int) = keys.length := by simpa using h
    exact ⟨by omega, by omega, by omega, by simp⟩
  rintro ⟨i, ⟨⟩⟩ ⟨h1, h2, h3, hR⟩
  simp only at *
  refine if_cond (fun hc => ?_) (fun hc => ?_)
  · have hc : i < keys.length := by have hc := of_decide_eq_true hc; omega
    simp (disch := omega) only [wrap_i64, toList_beq]
    rw [drop_step (l.reverse.map DUndo.Key) noBytes h1 (by simp; omega), drop_step keys noBytes h1 hc, undo_at l h1 (by omega)] at hR
    refine ⟨by omega, by omega, by omega, by omega, if_cond (fun h => Lf_f ?_) (fun h => ⟨⟨by omega, by omega, h3, ?_⟩, ?_⟩)⟩
    · rw [← hR]; simp at h; simp [h]
    · rw [← hR]; simp at h; simp [h]
    · simp only [μ_spec_UndoOrder_4]; omega
  · have hc : keys.length ≤ i := by have hc := of_decide_eq_false hc; omega
    rw [drop_end _ (by simp; omega), drop_end keys hc] at hR
    exact Lf_t (hR.1 rfl)
def con_impl_UndoOrder : Con UU where
  α := (List DUndo) × (List ByteArray)
  md := [.ro, .ro]
  of := fun | [.one (.sl .eUndo a0), .one (.sl .str a1)] => some (a0, a1) | _ => none
  ds := fun (l, keys) => [.one (.sl .eUndo l), .one (.sl .str keys)]
  pre := fun (l, keys) => []
  res := fun (l, keys) => ⟨[.one (.lit (.bool (decide (l.reverse.map DUndo.Key = keys))))], true, []⟩
  law := by intro l x h; (try simp only at h); split at h <;> cases h; rfl
def I_impl_UndoOrder_4 (l : (List DUndo)) (keys : (List ByteArray)) : Int × Unit → Prop := fun (i, _) => 0 ≤ i ∧ i ≤ keys.length ∧ l.length = keys.length ∧ ((l.reverse.map DUndo.Key).drop i.toNat = keys.drop i.toNat ↔ l.reverse.map DUndo.Key = keys)
def μ_impl_UndoOrder_4 (l : (List DUndo)) (keys : (List ByteArray)) : Int × Unit → Nat := fun (i, _) => keys.length - i.toNat
def ann_impl_UndoOrder : con_impl_UndoOrder.α → Nat → Option (Ann UU) := fun (l, keys) => annL [(4, annOf [.slot 14 (14, 1024) (.lit (.int .i64))] (fun _ => I_impl_UndoOrder_4 l keys) (μ_impl_UndoOrder_4 l keys))]
def use_impl_UndoOrder : List (FuncId × Con UU) := []
theorem vc_impl_UndoOrder (l : (List DUndo)) (keys : (List ByteArray)) : goal EE use_impl_UndoOrder Go.Proofs.Try.f14 con_impl_UndoOrder ann_impl_UndoOrder (l, keys) = (bif (↑(List.length keys) : Int) != (↑(List.length l) : Int) then Lf [DV.one (Cell.lit (Value.bool false))] [DV.one (Cell.lit (Value.bool (decide (List.map DUndo.Key (List.reverse l) = keys))))]
else
  I_impl_UndoOrder_4 l keys ((0 : Int), PUnit.unit) ∧
    ∀ (y : Int × PUnit),
      let x0 : Nat := Int.toNat (IntKind.wrap IntKind.i64 (IntKind.wrap IntKind.i64 ((↑(List.length l) : Int) - (1 : Int)) - y.1));
      I_impl_UndoOrder_4 l keys y → bif decide (y.1 < (↑(List.length keys) : Int)) then (0 : Int) ≤ y.1 ∧ Int.toNat y.1 < List.length keys ∧ (0 : Int) ≤ IntKind.wrap IntKind.i64 (IntKind.wrap IntKind.i64 ((↑(List.length l) : Int) - (1 : Int)) - y.1) ∧ x0 < List.length l ∧ bif !ByteArray.toList (List.getD l x0 zUndo).Key == ByteArray.toList (List.getD keys (Int.toNat y.1) noBytes) then Lf [DV.one (Cell.lit (Value.bool false))] [DV.one (Cell.lit (Value.bool (decide (List.map DUndo.Key (List.reverse l) = keys))))] else I_impl_UndoOrder_4 l keys (IntKind.wrap IntKind.i64 (y.1 + (1 : Int)), PUnit.unit) ∧ μ_impl_UndoOrder_4 l keys (IntKind.wrap IntKind.i64 (y.1 + (1 : Int)), PUnit.unit) < μ_impl_UndoOrder_4 l keys y else Lf [DV.one (Cell.lit (Value.bool true))] [DV.one (Cell.lit (Value.bool (decide (List.map DUndo.Key (List.reverse l) = keys))))]) := by kernel_rfl
theorem ok_impl_UndoOrder : Holds EE (14, con_impl_UndoOrder) := by
  refine holds_of EE_ok Go.Proofs.Try.func14 con_impl_UndoOrder (by kernel_rfl) use_impl_UndoOrder all_nil ann_impl_UndoOrder (fun x hp hb => ?_)
  obtain ⟨l, keys⟩ := x
  have hb_l : BdDV (U := UU) (.one (.sl .eUndo l)) := hb _ (List.mem_cons_self)
  have hl_l : l.length ≤ 9223372036854775807 := Bd.len hb_l
  have hb_keys : BdDV (U := UU) (.one (.sl .str keys)) := hb _ (List.mem_cons_of_mem _ (List.mem_cons_self))
  have hl_keys : keys.length ≤ 9223372036854775807 := Bd.len hb_keys
  clear hp hb
  rw [vc_impl_UndoOrder l keys]
  dsimp only
  refine if_cond (fun h => Lf_f ?_) (fun h => ⟨?_, ?_⟩)
  · rintro rfl; simp at h
  · have h : (keys.length : Int) = l.length := by simpa using h
    exact ⟨by omega, by omega, by omega, by simp⟩
  rintro ⟨i, ⟨⟩⟩ ⟨h1, h2, h3, hR⟩
  simp only at *
  refine if_cond (fun hc => ?_) (fun hc => ?_)
  · have hc : i < keys.length := by have hc := of_decide_eq_true hc; omega
    simp (disch := omega) only [wrap_i64, toList_beq]
    rw [drop_step (l.reverse.map DUndo.Key) noBytes h1 (by simp; omega), drop_step keys noBytes h1 hc, undo_at l h1 (by omega)] at hR
    refine ⟨by omega, by omega, by omega, by omega, if_cond (fun h => Lf_f ?_) (fun h => ⟨⟨by omega, by omega, h3, ?_⟩, ?_⟩)⟩
    · rw [← hR]; simp at h; simp [h]
    · rw [← hR]; simp at h; simp [h]
    · simp only [μ_impl_UndoOrder_4]; omega
  · have hc : keys.length ≤ i := by have hc := of_decide_eq_false hc; omega
    rw [drop_end _ (by simp; omega), drop_end keys hc] at hR
    exact Lf_t (hR.1 rfl)
def con_laws_FnBackwards : Con UU where
  α := (List Int)
  md := [.ro]
  of := fun | [.one (.sl .byte a0)] => some a0 | _ => none
  ds := fun code => [.one (.sl .byte code)]
  pre := fun code => []
  res := fun code => ⟨[.one (.lit (.bool true))], true, []⟩
  law := by intro l x h; (try simp only at h); split at h <;> cases h; rfl
def I_laws_FnBackwards_6 (code : (List Int)) : List DUndo × List ByteArray × List ByteArray × List DUndo × Unit → Prop := fun (l, ks, all, x, _) => l = anyU (newCur code) ∧ ks = drawnK code ∧ x = (anyU (newCur code)).take x.length ∧ x.length ≤ (anyU (newCur code)).length ∧ all = ((anyU (newCur code)).drop x.length).reverse.map DUndo.Key
def μ_laws_FnBackwards_6 (code : (List Int)) : List DUndo × List ByteArray × List ByteArray × List DUndo × Unit → Nat := fun (l, ks, all, x, _) => x.length
def ann_laws_FnBackwards : con_laws_FnBackwards.α → Nat → Option (Ann UU) := fun code => annL [(6, annOf [.slot 3 (3, 1024) (.shr .eUndo), .slot 4 (4, 1024) (.own .str true), .slot 5 (5, 1024) (.own .str true), .slot 6 (6, 1024) (.shr .eUndo)] (fun _ => I_laws_FnBackwards_6 code) (μ_laws_FnBackwards_6 code))]
def use_laws_FnBackwards : List (FuncId × Con UU) := [(10, con_laws_big), (11, con_spec_DrawUndoOrder), (12, con_impl_PopUndo), (13, con_spec_DrawUndosOk), (14, con_impl_UndoOrder), (15, con_spec_UndoOrder), (16, con_impl_UndosOk), (17, con_spec_UndosOk)]
theorem vc_laws_FnBackwards (code : (List Int)) : goal EE use_laws_FnBackwards Go.Proofs.Try.f3 con_laws_FnBackwards ann_laws_FnBackwards code = (bif decide (List.length code > (1048576 : Nat)) then Lf [DV.one (Cell.lit (Value.bool true))] [DV.one (Cell.lit (Value.bool true))]
else
  List.length code ≤ (4294967296 : Nat) ∧
    I_laws_FnBackwards_6 code (anyU (newCur code), drawnK code, [], anyU (newCur code), PUnit.unit) ∧
      ∀ (y : List DUndo × List ByteArray × List ByteArray × List DUndo × PUnit),
        let x0 : Int := IntKind.wrap IntKind.i64 ((↑(List.length y.2.2.2.1) : Int) - (1 : Int));
        let x1 : List DUndo := List.take (List.length y.2.2.2.1 - (1 : Nat)) y.2.2.2.1;
        let x2 : Int := Option.getD none (↑(List.length y.2.2.1) : Int);
        let x3 : Nat := List.length y.2.2.1;
        let x4 : List ByteArray := [(List.getD y.2.2.2.1 (Int.toNat x0) zUndo).Key];
        let x5 : Int := (↑(List.length y.2.2.2.1) : Int);
        let x6 : Bool := decide (List.map DUndo.Key (List.reverse y.1) = y.2.1);
        I_laws_FnBackwards_6 code y → bif decide (x5 > (0 : Int)) then (0 : Int) ≤ x0 ∧ Int.toNat x0 < List.length y.2.2.2.1 ∧ x3 + List.length x4 ≤ (4294967296 : Nat) ∧ sizeUndoS y.2.2.2.1 ≤ (4294967296 : Nat) ∧ bif (↑(List.length x1) : Int) != x0 then Lf [DV.one (Cell.lit (Value.bool false))] [DV.one (Cell.lit (Value.bool true))] else I_laws_FnBackwards_6 code (y.1, y.2.1, y.2.2.1 ++ x4, x1, PUnit.unit) ∧ μ_laws_FnBackwards_6 code (y.1, y.2.1, y.2.2.1 ++ x4, x1, PUnit.unit) < μ_laws_FnBackwards_6 code y else List.length code ≤ (4294967296 : Nat) ∧ bif decide (List.map DUndo.Key (List.reverse y.1) = y.2.2.1) then bif x6 == x6 then bif (↑x3 : Int) == (0 : Int) then Lf [DV.one (Cell.lit (Value.bool (undosOk (anyU (newCur code)) == undosOk (anyU (newCur code)))))] [DV.one (Cell.lit (Value.bool true))] else (0 : Int) ≤ Option.getD (some (1 : Int)) (0 : Int) ∧ Option.getD (some (1 : Int)) (0 : Int) ≤ x2 ∧ x2 ≤ (↑x3 : Int) ∧ Int.toNat x2 ≤ x3 ∧ bif !decide (List.map DUndo.Key (List.reverse y.1) = List.drop (nat_lit 1) (List.take (Int.toNat x2) y.2.2.1)) then Lf [DV.one (Cell.lit (Value.bool (undosOk (anyU (newCur code)) == undosOk (anyU (newCur code)))))] [DV.one (Cell.lit (Value.bool true))] else Lf [DV.one (Cell.lit (Value.bool false))] [DV.one (Cell.lit (Value.bool true))] else Lf [DV.one (Cell.lit (Value.bool false))] [DV.one (Cell.lit (Value.bool true))] else Lf [DV.one (Cell.lit (Value.bool false))] [DV.one (Cell.lit (Value.bool true))]) := by kernel_rfl
theorem ok_laws_FnBackwards : Holds EE (3, con_laws_FnBackwards) := by
  refine holds_of EE_ok Go.Proofs.Try.func3 con_laws_FnBackwards (by kernel_rfl) use_laws_FnBackwards (all_cons ok_laws_big (all_cons ok_spec_DrawUndoOrder (all_cons ok_impl_PopUndo (all_cons ok_spec_DrawUndosOk (all_cons ok_impl_UndoOrder (all_cons ok_spec_UndoOrder (all_cons ok_impl_UndosOk (all_cons ok_spec_UndosOk all_nil)))))))) ann_laws_FnBackwards (fun (code : (List Int)) hp hb => ?_)
  have hb_code : BdDV (U := UU) (.one (.sl .byte code)) := hb _ (List.mem_cons_self)
  have hl_code : code.length ≤ 9223372036854775807 := Bd.len hb_code
  clear hp hb
  rw [vc_laws_FnBackwards code]
  dsimp only
  refine if_cond (fun h => Lf_rfl _) (fun h => ?_)
  have hcode := of_decide_eq_false h
  obtain ⟨_, hU, hL⟩ := anyU_ok (cOk_new (code := code) (by omega))
  refine ⟨by omega, ⟨rfl, rfl, (List.take_length).symm, Nat.le_refl _, by simp⟩, ?_⟩
  rintro ⟨l, ks, all, x, ⟨⟩⟩ ⟨rfl, rfl, g1, g2, rfl⟩
  simp only at g1 g2 ⊢
  obtain ⟨n, hn, rfl⟩ : ∃ n, n ≤ (anyU (newCur code)).length ∧ x = (anyU (newCur code)).take n := ⟨x.length, g2, g1⟩
  clear g1 g2
  have hlx : (List.take n (anyU (newCur code))).length = n := by rw [List.length_take]; omega
  have gall : (List.map DUndo.Key (List.drop n (anyU (newCur code))).reverse).length + n = (anyU (newCur code)).length := by simp only [List.length_map, List.length_reverse, List.length_drop]; omega
  have gm : ∀ u ∈ List.take n (anyU (newCur code)), sizeUndo u ≤ 800 := fun u hu => hU u (List.mem_of_mem_take hu)
  have gs := undoS_size gm
  rw [hlx] at gs ⊢
  refine if_cond (fun hc => ?_) (fun hc => ?_)
  · have hc := of_decide_eq_true hc
    rw [wrap_i64 (by omega) (by omega)]
    have e0 : ((n : Int) - 1).toNat = n - 1 := by omega
    have e1 : List.take (n - 1) (List.take n (anyU (newCur code))) = List.take (n - 1) (anyU (newCur code)) := by rw [List.take_take]; congr 1; omega
    have e2 : (List.take (n - 1) (anyU (newCur code))).length = n - 1 := by rw [List.length_take]; omega
    have hlt : n - 1 < (anyU (newCur code)).length := by omega
    have e5 : List.getD (List.take n (anyU (newCur code))) (n - 1) zUndo = (anyU (newCur code))[n - 1] := by
      rw [List.getD_eq_getElem?_getD, List.getElem?_take, if_pos (by omega), List.getElem?_eq_getElem hlt]; rfl
    have e4 : List.drop (n - 1) (anyU (newCur code)) = (anyU (newCur code))[n - 1] :: List.drop n (anyU (newCur code)) := by
      rw [List.drop_eq_getElem_cons hlt]; congr 2; omega
    rw [e0, e1, e2, e5]
    refine ⟨by omega, by omega, by simp only [List.length_cons, List.length_nil]; omega, by omega, if_cond (fun hd => ?_) (fun hd => ⟨⟨rfl, rfl, ?_, by rw [e2]; omega, ?_⟩, by simp only [μ_laws_FnBackwards_6]; rw [e2, hlx]; omega⟩)⟩
    · simp at hd; omega
    · rw [e2]
    · rw [e2, e4, List.reverse_cons, List.map_append]; rfl
  · have hc := of_decide_eq_false hc
    have hx : n = 0 := by omega
    subst hx
    rw [List.drop_zero]
    refine ⟨by omega, if_cond (fun _ => if_cond (fun _ => ?_) (fun hh => absurd hh (by simp))) (fun hh => absurd rfl (of_decide_eq_false hh))⟩
    refine if_cond (fun _ => Lf_b (by simp)) (fun he => ?_)
    have hne : (List.map DUndo.Key (anyU (newCur code)).reverse).length ≠ 0 := fun e => by rw [e] at he; exact absurd he (by decide)
    refine ⟨by decide, by show (1 : Int) ≤ ((List.map DUndo.Key (anyU (newCur code)).reverse).length : Int); omega, Int.le_refl _, Nat.le_refl _, if_cond (fun _ => Lf_b (by simp)) (fun hd => ?_)⟩
    exfalso
    have hd : List.map DUndo.Key (anyU (newCur code)).reverse = List.drop 1 (List.take (List.map DUndo.Key (anyU (newCur code)).reverse).length (List.map DUndo.Key (anyU (newCur code)).reverse)) := of_decide_eq_true (by simpa using hd)
    have hq := congrArg List.length hd
    rw [List.length_drop, List.length_take] at hq
    omega
end
end AM
