/- Functions of the program with their contracts: put together by gen/link.py for FnExactWorkAt. -/
import Derived.Test.YtgpfppbkndgejaaGreatAmLib
import Derived.Test.YtgpfppbkndgejaaGreatAmModels
import Derived.Test.YtgpfppbkndgejaaGreatFExactWorkAt
namespace AM
open Go
set_option linter.unusedVariables false
set_option linter.unusedSimpArgs false
set_option maxRecDepth 100000
noncomputable section
def con_laws_szActS : Con UU where
  α := (List DAct) × Int
  md := [.ro, .ro]
  of := fun | [.one (.sl .lAct a0), .one (.lit (.int .i64 a1))] => some (a0, a1) | _ => none
  ds := fun (a, left) => [.one (.sl .lAct a), .one (.lit (.int .i64 left))]
  pre := fun (a, left) => [0 ≤ left]
  res := fun (a, left) => ⟨[.one (.lit (.int .i64 (szr left (sizeActS a))))], true, []⟩
  law := by intro l x h; (try simp only at h); split at h <;> cases h; rfl
def I_laws_szActS_5 (a : (List DAct)) (left : Int) : Int × Int × Unit → Prop := fun (lf, i, _) => 0 ≤ lf ∧ 0 ≤ i ∧ i ≤ a.length ∧ szr lf ((a.drop i.toNat).map sizeAct).sum = szr left (sizeActS a)
def μ_laws_szActS_5 (a : (List DAct)) (left : Int) : Int × Int × Unit → Nat := fun (lf, i, _) => a.length - i.toNat
def ann_laws_szActS : con_laws_szActS.α → Nat → Option (Ann UU) := fun (a, left) => annL [(5, annOf [.slot 1 (1, 1024) (.lit (.int .i64)), .slot 5 (5, 1024) (.lit (.int .i64))] (fun _ => I_laws_szActS_5 a left) (μ_laws_szActS_5 a left))]
def use_laws_szActS : List (FuncId × Con UU) := [(123, con_laws_szAct)]
theorem vc_laws_szActS (a : (List DAct)) (left : Int) : goal EE use_laws_szActS Go.Proofs.Tryz.f99 con_laws_szActS ann_laws_szActS (a, left) = (let x0 : Int := IntKind.wrap IntKind.i64 (left - (↑(List.length a) : Int));
bif decide (x0 < (0 : Int)) then Lf [DV.one (Cell.lit (Value.int IntKind.i64 (-1 : Int)))] [DV.one (Cell.lit (Value.int IntKind.i64 (szr left (sizeActS a))))]
else
  I_laws_szActS_5 a left (x0, (0 : Int), PUnit.unit) ∧
    ∀ (y : Int × Int × PUnit),
      let x1 : Int := szr y.1 (sizeAct (List.getD a (Int.toNat y.2.1) zAct));
      I_laws_szActS_5 a left y → bif decide (y.2.1 < (↑(List.length a) : Int)) then (0 : Int) ≤ y.2.1 ∧ Int.toNat y.2.1 < List.length a ∧ (0 : Int) ≤ y.1 ∧ bif decide (x1 < (0 : Int)) then Lf [DV.one (Cell.lit (Value.int IntKind.i64 (-1 : Int)))] [DV.one (Cell.lit (Value.int IntKind.i64 (szr left (sizeActS a))))] else I_laws_szActS_5 a left (x1, IntKind.wrap IntKind.i64 (y.2.1 + (1 : Int)), PUnit.unit) ∧ μ_laws_szActS_5 a left (x1, IntKind.wrap IntKind.i64 (y.2.1 + (1 : Int)), PUnit.unit) < μ_laws_szActS_5 a left y else Lf [DV.one (Cell.lit (Value.int IntKind.i64 y.1))] [DV.one (Cell.lit (Value.int IntKind.i64 (szr left (sizeActS a))))]) := by kernel_rfl
theorem ok_laws_szActS : Holds EE (99, con_laws_szActS) := by
  refine holds_of EE_ok Go.Proofs.Tryz.func99 con_laws_szActS (by kernel_rfl) rfl use_laws_szActS (all_cons ok_laws_szAct all_nil) ann_laws_szActS (fun x hp hb => ?_)
  obtain ⟨a, left⟩ := x
  have hb_a : BdDV (U := UU) (.one (.sl .lAct a)) := hb _ (List.mem_cons_self)
  have hl_a : a.length ≤ 9223372036854775807 := Bd.len hb_a
  have hb_left : BdDV (U := UU) (.one (.lit (.int .i64 left))) := hb _ (List.mem_cons_of_mem _ (List.mem_cons_self))
  have hl_left := Bd.i64 hb_left
  have hp0 : 0 ≤ left := hp _ (List.mem_cons_self)
  clear hp hb
  rw [vc_laws_szActS a left]
  dsimp only
  rw [wrap_i64 (by omega) (by omega)]
  refine if_cond (fun h => Lf_i ?_) (fun h => ⟨?_, ?_⟩)
  · simp [szr, sizeActS] at *; omega
  · simp only [I_laws_szActS_5, sizeActS]; simp at h; have h' : 0 ≤ left - a.length := by omega
    exact ⟨h', by omega, by omega, szr_sub h'⟩
  rintro ⟨lf, i, ⟨⟩⟩ ⟨h0, h1, h2, hR⟩
  refine if_cond (fun hc => ?_) (fun hc => ?_)
  · have hc : i < a.length := by simpa using hc
    rw [drop_step a zAct h1 hc, List.map_cons, List.sum_cons] at hR
    simp only at *
    rw [wrap_i64 (by omega) (by omega)]
    generalize List.getD a i.toNat zAct = x at *
    refine ⟨by omega, by omega, by omega, if_cond (fun h => Lf_i ?_) (fun h => ⟨⟨?_, by omega, by omega, ?_⟩, ?_⟩)⟩
    · rw [← hR]; exact (szr_bad (of_decide_eq_true h)).symm
    · simp at h; omega
    · rw [← hR]; simp at h; exact szr_szr h
    · simp only [μ_laws_szActS_5]; omega
  · have hc : a.length ≤ i := by simpa using hc
    rw [drop_end a hc] at hR
    apply Lf_i; rw [← hR]; simp [szr, h0]
def con_laws_toActS : Con UU where
  α := (List DAct)
  md := [.ro]
  of := fun | [.one (.sl .lAct a0)] => some a0 | _ => none
  ds := fun a => [.one (.sl .lAct a)]
  pre := fun a => [sizeActS a ≤ 4294967296]
  res := fun a => ⟨[.one (.sl .eAct a)], true, []⟩
  law := by intro l x h; (try simp only at h); split at h <;> cases h; rfl
def I_laws_toActS_3 (a : (List DAct)) : List DAct × Int × Unit → Prop := fun (out, i, _) => 0 ≤ i ∧ i ≤ a.length ∧ out = a.take i.toNat ++ List.replicate (a.length - i.toNat) zAct
def μ_laws_toActS_3 (a : (List DAct)) : List DAct × Int × Unit → Nat := fun (out, i, _) => a.length - i.toNat
def ann_laws_toActS : con_laws_toActS.α → Nat → Option (Ann UU) := fun a => annL [(3, annOf [.slot 3 (3, 1024) (.own .eAct true), .slot 4 (4, 1024) (.lit (.int .i64))] (fun _ => I_laws_toActS_3 a) (μ_laws_toActS_3 a))]
def use_laws_toActS : List (FuncId × Con UU) := [(131, con_laws_toAct)]
theorem vc_laws_toActS (a : (List DAct)) : goal EE use_laws_toActS Go.Proofs.Tryz.f107 con_laws_toActS ann_laws_toActS a = (let x0 : Int := (↑(List.length a) : Int);
(0 : Int) ≤ x0 ∧
  x0 = x0 ∧
    x0 ≤ (4294967296 : Int) ∧
      I_laws_toActS_3 a (List.replicate (Int.toNat x0) zAct, (0 : Int), PUnit.unit) ∧
        ∀ (y : List DAct × Int × PUnit),
          let x1 : Nat := Int.toNat y.2.1;
          I_laws_toActS_3 a y → bif decide (y.2.1 < x0) then (0 : Int) ≤ y.2.1 ∧ x1 < List.length a ∧ sizeAct (List.getD a x1 zAct) ≤ (4294967296 : Nat) ∧ (0 : Int) ≤ y.2.1 ∧ x1 < List.length y.1 ∧ x1 < List.length y.1 ∧ I_laws_toActS_3 a (List.set y.1 x1 (List.getD a x1 zAct), IntKind.wrap IntKind.i64 (y.2.1 + (1 : Int)), PUnit.unit) ∧ μ_laws_toActS_3 a (List.set y.1 x1 (List.getD a x1 zAct), IntKind.wrap IntKind.i64 (y.2.1 + (1 : Int)), PUnit.unit) < μ_laws_toActS_3 a y else Lf [DV.one (Cell.sl Cd.eAct y.1)] [DV.one (Cell.sl Cd.eAct a)]) := by kernel_rfl
theorem ok_laws_toActS : Holds EE (107, con_laws_toActS) := by
  refine holds_of EE_ok Go.Proofs.Tryz.func107 con_laws_toActS (by kernel_rfl) rfl use_laws_toActS (all_cons ok_laws_toAct all_nil) ann_laws_toActS (fun (a : (List DAct)) hp hb => ?_)
  have hb_a : BdDV (U := UU) (.one (.sl .lAct a)) := hb _ (List.mem_cons_self)
  have hl_a : a.length ≤ 9223372036854775807 := Bd.len hb_a
  have hp0 : sizeActS a ≤ 4294967296 := hp _ (List.mem_cons_self)
  clear hp hb
  rw [vc_laws_toActS a]
  dsimp only
  have hlen : a.length ≤ 4294967296 := by simp only [sizeActS] at hp0; omega
  refine ⟨by omega, rfl, by omega, ?_, ?_⟩
  · simp [I_laws_toActS_3]
  rintro ⟨out, i, ⟨⟩⟩ ⟨h1, h2, rfl⟩
  simp only at *
  refine if_cond (fun hc => ?_) (fun hc => ?_)
  · have hc : i < a.length := by simpa using hc
    rw [wrap_i64 (by omega) (by omega), set_fill a zAct h1 hc]
    exact ⟨h1, by omega, by exact Nat.le_trans (sum_getD_le sizeAct a zAct h1 hc) (by simp only [sizeActS] at hp0; omega), h1, by simp; omega, by simp; omega, ⟨by omega, by omega, rfl⟩, by simp only [μ_laws_toActS_3]; omega⟩
  · have hc : a.length ≤ i := by simpa using hc
    have e : i.toNat = a.length := by omega
    rw [e]; simp; exact Lf_rfl _
def con_laws_eqActS : Con UU where
  α := (List DAct) × (List DAct)
  md := [.ro, .ro]
  of := fun | [.one (.sl .eAct a0), .one (.sl .eAct a1)] => some (a0, a1) | _ => none
  ds := fun (a, b) => [.one (.sl .eAct a), .one (.sl .eAct b)]
  pre := fun (a, b) => []
  res := fun (a, b) => ⟨[.one (.lit (.bool (decide (a = b))))], true, []⟩
  law := by intro l x h; (try simp only at h); split at h <;> cases h; rfl
def I_laws_eqActS_4 (a : (List DAct)) (b : (List DAct)) : Int × Unit → Prop := fun (i, _) => 0 ≤ i ∧ i ≤ a.length ∧ a.length = b.length ∧ (a.drop i.toNat = b.drop i.toNat ↔ a = b)
def μ_laws_eqActS_4 (a : (List DAct)) (b : (List DAct)) : Int × Unit → Nat := fun (i, _) => a.length - i.toNat
def ann_laws_eqActS : con_laws_eqActS.α → Nat → Option (Ann UU) := fun (a, b) => annL [(4, annOf [.slot 5 (5, 1024) (.lit (.int .i64))] (fun _ => I_laws_eqActS_4 a b) (μ_laws_eqActS_4 a b))]
def use_laws_eqActS : List (FuncId × Con UU) := [(139, con_laws_eqAct)]
theorem vc_laws_eqActS (a : (List DAct)) (b : (List DAct)) : goal EE use_laws_eqActS Go.Proofs.Tryz.f115 con_laws_eqActS ann_laws_eqActS (a, b) = (bif (↑(List.length a) : Int) != (↑(List.length b) : Int) then Lf [DV.one (Cell.lit (Value.bool false))] [DV.one (Cell.lit (Value.bool (decide (a = b))))] else I_laws_eqActS_4 a b ((0 : Int), PUnit.unit) ∧ ∀ (y : Int × PUnit), I_laws_eqActS_4 a b y → bif decide (y.1 < (↑(List.length a) : Int)) then (0 : Int) ≤ y.1 ∧ Int.toNat y.1 < List.length a ∧ (0 : Int) ≤ y.1 ∧ Int.toNat y.1 < List.length b ∧ bif !decide (List.getD a (Int.toNat y.1) zAct = List.getD b (Int.toNat y.1) zAct) then Lf [DV.one (Cell.lit (Value.bool false))] [DV.one (Cell.lit (Value.bool (decide (a = b))))] else I_laws_eqActS_4 a b (IntKind.wrap IntKind.i64 (y.1 + (1 : Int)), PUnit.unit) ∧ μ_laws_eqActS_4 a b (IntKind.wrap IntKind.i64 (y.1 + (1 : Int)), PUnit.unit) < μ_laws_eqActS_4 a b y else Lf [DV.one (Cell.lit (Value.bool true))] [DV.one (Cell.lit (Value.bool (decide (a = b))))]) := by kernel_rfl
theorem ok_laws_eqActS : Holds EE (115, con_laws_eqActS) := by
  refine holds_of EE_ok Go.Proofs.Tryz.func115 con_laws_eqActS (by kernel_rfl) rfl use_laws_eqActS (all_cons ok_laws_eqAct all_nil) ann_laws_eqActS (fun x hp hb => ?_)
  obtain ⟨a, b⟩ := x
  have hb_a : BdDV (U := UU) (.one (.sl .eAct a)) := hb _ (List.mem_cons_self)
  have hl_a : a.length ≤ 9223372036854775807 := Bd.len hb_a
  have hb_b : BdDV (U := UU) (.one (.sl .eAct b)) := hb _ (List.mem_cons_of_mem _ (List.mem_cons_self))
  have hl_b : b.length ≤ 9223372036854775807 := Bd.len hb_b
  clear hp hb
  rw [vc_laws_eqActS a b]
  refine if_cond (fun h => Lf_f ?_) (fun h => ⟨?_, ?_⟩)
  · rintro rfl; simp at h
  · simp [I_laws_eqActS_4] at *; omega
  rintro ⟨i, ⟨⟩⟩ ⟨h1, h2, h3, hR⟩
  simp only at *
  refine if_cond (fun hc => ?_) (fun hc => ?_)
  · have hc : i < a.length := by simpa using hc
    rw [drop_step a zAct h1 hc, drop_step b zAct h1 (by omega)] at hR
    rw [wrap_i64 (by omega) (by omega)]
    refine ⟨by omega, by omega, by omega, by omega, if_cond (fun h => Lf_f ?_) (fun h => ⟨⟨by omega, by omega, h3, ?_⟩, ?_⟩)⟩
    · rw [← hR]; simp at h; simp [h]
    · rw [← hR]; simp at h; simp [h]
    · simp only [μ_laws_eqActS_4]; omega
  · have hc : a.length ≤ i := by simpa using hc
    rw [drop_end a hc, drop_end b (by omega)] at hR
    exact Lf_t (hR.1 rfl)
def con_laws_szRule : Con UU where
  α := DRule × Int
  md := [.ro, .ro]
  of := fun | [.agg [.lit (.string a0), .lit (.int .i64 a1), .sl .lPat a2, .sl .lCond a3, .sl .lAct a4], .one (.lit (.int .i64 a5))] => some (⟨a0, a1, a2, a3, a4⟩, a5) | _ => none
  ds := fun (a, left) => [.agg [.lit (.string a.Name), .lit (.int .i64 a.Sal), .sl .lPat a.Pats, .sl .lCond a.Conds, .sl .lAct a.Acts], .one (.lit (.int .i64 left))]
  pre := fun (a, left) => [0 ≤ left]
  res := fun (a, left) => ⟨[.one (.lit (.int .i64 (szr left (sizeRule a))))], true, []⟩
  law := by intro l x h; (try simp only at h); split at h <;> cases h; rfl
def ann_laws_szRule : con_laws_szRule.α → Nat → Option (Ann UU) := fun (a, left) => annL []
def use_laws_szRule : List (FuncId × Con UU) := [(97, con_laws_szPatS), (98, con_laws_szCondS), (99, con_laws_szActS)]
theorem vc_laws_szRule (a : DRule) (left : Int) : goal EE use_laws_szRule Go.Proofs.Tryz.f75 con_laws_szRule ann_laws_szRule (a, left) = (let x0 : Int := szr (szr (IntKind.wrap IntKind.i64 (left - (↑(ByteArray.size a.Name) : Int))) (sizePatS a.Pats)) (sizeCondS a.Conds);
let x1 : Int := IntKind.wrap IntKind.i64 (left - (↑(ByteArray.size a.Name) : Int));
bif decide (x1 < (0 : Int)) then Lf [DV.one (Cell.lit (Value.int IntKind.i64 (-1 : Int)))] [DV.one (Cell.lit (Value.int IntKind.i64 (szr left (sizeRule a))))] else (0 : Int) ≤ x1 ∧ bif decide (szr x1 (sizePatS a.Pats) < (0 : Int)) then Lf [DV.one (Cell.lit (Value.int IntKind.i64 (-1 : Int)))] [DV.one (Cell.lit (Value.int IntKind.i64 (szr left (sizeRule a))))] else (0 : Int) ≤ szr x1 (sizePatS a.Pats) ∧ bif decide (x0 < (0 : Int)) then Lf [DV.one (Cell.lit (Value.int IntKind.i64 (-1 : Int)))] [DV.one (Cell.lit (Value.int IntKind.i64 (szr left (sizeRule a))))] else (0 : Int) ≤ x0 ∧ bif decide (szr x0 (sizeActS a.Acts) < (0 : Int)) then Lf [DV.one (Cell.lit (Value.int IntKind.i64 (-1 : Int)))] [DV.one (Cell.lit (Value.int IntKind.i64 (szr left (sizeRule a))))] else Lf [DV.one (Cell.lit (Value.int IntKind.i64 (szr x0 (sizeActS a.Acts))))] [DV.one (Cell.lit (Value.int IntKind.i64 (szr left (sizeRule a))))]) := by kernel_rfl
theorem ok_laws_szRule : Holds EE (75, con_laws_szRule) := by
  refine holds_of EE_ok Go.Proofs.Tryz.func75 con_laws_szRule (by kernel_rfl) rfl use_laws_szRule (all_cons ok_laws_szPatS (all_cons ok_laws_szCondS (all_cons ok_laws_szActS all_nil))) ann_laws_szRule (fun x hp hb => ?_)
  obtain ⟨a, left⟩ := x
  have hb_a : BdDV (U := UU) (.agg [.lit (.string a.Name), .lit (.int .i64 a.Sal), .sl .lPat a.Pats, .sl .lCond a.Conds, .sl .lAct a.Acts]) := hb _ (List.mem_cons_self)
  have hl_a_Name : a.Name.size ≤ 9223372036854775807 := Bd.str (hb_a _ (by simp))
  have hl_a_Pats : a.Pats.length ≤ 9223372036854775807 := Bd.len (U := UU) (τ := .lPat) (xs := a.Pats) (hb_a _ (by simp))
  have hl_a_Conds : a.Conds.length ≤ 9223372036854775807 := Bd.len (U := UU) (τ := .lCond) (xs := a.Conds) (hb_a _ (by simp))
  have hl_a_Acts : a.Acts.length ≤ 9223372036854775807 := Bd.len (U := UU) (τ := .lAct) (xs := a.Acts) (hb_a _ (by simp))
  have hb_left : BdDV (U := UU) (.one (.lit (.int .i64 left))) := hb _ (List.mem_cons_of_mem _ (List.mem_cons_self))
  have hl_left := Bd.i64 hb_left
  have hp0 : 0 ≤ left := hp _ (List.mem_cons_self)
  clear hp hb
  rw [vc_laws_szRule a left]
  dsimp only
  rw [wrap_i64 (by omega) (by omega)]
  refine if_cond (fun h => Lf_i (szr_bad' ?_)) (fun h => ?_)
  · have h := of_decide_eq_true h; simp only [sizeRule]; omega
  have h0 := of_decide_eq_false h
  refine ⟨by omega, if_cond (fun h => Lf_i (szr_bad' ?_)) (fun h => ?_)⟩
  · have h := szr_neg h; simp only [sizeRule]; omega
  obtain ⟨e1, h1⟩ := szr_pos h
  rw [e1]
  refine ⟨by omega, if_cond (fun h => Lf_i (szr_bad' ?_)) (fun h => ?_)⟩
  · have h := szr_neg h; simp only [sizeRule]; omega
  obtain ⟨e2, h2⟩ := szr_pos h
  rw [e2]
  refine ⟨by omega, if_cond (fun h => Lf_i (szr_bad' ?_)) (fun h => ?_)⟩
  · have h := szr_neg h; simp only [sizeRule]; omega
  obtain ⟨e3, h3⟩ := szr_pos h
  rw [e3]
  exact Lf_i (by rw [← szr_ok' (by simp only [sizeRule]; omega)]; simp only [sizeRule]; try omega)
def con_laws_toRule : Con UU where
  α := DRule
  md := [.ro]
  of := fun | [.agg [.lit (.string a0), .lit (.int .i64 a1), .sl .lPat a2, .sl .lCond a3, .sl .lAct a4]] => some ⟨a0, a1, a2, a3, a4⟩ | _ => none
  ds := fun a => [.agg [.lit (.string a.Name), .lit (.int .i64 a.Sal), .sl .lPat a.Pats, .sl .lCond a.Conds, .sl .lAct a.Acts]]
  pre := fun a => [sizeRule a ≤ 4294967296]
  res := fun a => ⟨[.agg [.lit (.string a.Name), .lit (.int .i64 a.Sal), .sl .ePat a.Pats, .sl .eCond a.Conds, .sl .eAct a.Acts]], true, []⟩
  law := by intro l x h; (try simp only at h); split at h <;> cases h; rfl
def ann_laws_toRule : con_laws_toRule.α → Nat → Option (Ann UU) := fun a => annL []
def use_laws_toRule : List (FuncId × Con UU) := [(105, con_laws_toPatS), (106, con_laws_toCondS), (107, con_laws_toActS)]
theorem vc_laws_toRule (a : DRule) : goal EE use_laws_toRule Go.Proofs.Tryz.f81 con_laws_toRule ann_laws_toRule a = (sizePatS a.Pats ≤ (4294967296 : Nat) ∧ sizeCondS a.Conds ≤ (4294967296 : Nat) ∧ sizeActS a.Acts ≤ (4294967296 : Nat) ∧ Lf [DV.agg [Cell.lit (Value.string a.Name), Cell.lit (Value.int IntKind.i64 a.Sal), Cell.sl Cd.ePat a.Pats, Cell.sl Cd.eCond a.Conds, Cell.sl Cd.eAct a.Acts]] [DV.agg [Cell.lit (Value.string a.Name), Cell.lit (Value.int IntKind.i64 a.Sal), Cell.sl Cd.ePat a.Pats, Cell.sl Cd.eCond a.Conds, Cell.sl Cd.eAct a.Acts]]) := by kernel_rfl
theorem ok_laws_toRule : Holds EE (81, con_laws_toRule) := by
  refine holds_of EE_ok Go.Proofs.Tryz.func81 con_laws_toRule (by kernel_rfl) rfl use_laws_toRule (all_cons ok_laws_toPatS (all_cons ok_laws_toCondS (all_cons ok_laws_toActS all_nil))) ann_laws_toRule (fun (a : DRule) hp hb => ?_)
  have hb_a : BdDV (U := UU) (.agg [.lit (.string a.Name), .lit (.int .i64 a.Sal), .sl .lPat a.Pats, .sl .lCond a.Conds, .sl .lAct a.Acts]) := hb _ (List.mem_cons_self)
  have hl_a_Name : a.Name.size ≤ 9223372036854775807 := Bd.str (hb_a _ (by simp))
  have hl_a_Pats : a.Pats.length ≤ 9223372036854775807 := Bd.len (U := UU) (τ := .lPat) (xs := a.Pats) (hb_a _ (by simp))
  have hl_a_Conds : a.Conds.length ≤ 9223372036854775807 := Bd.len (U := UU) (τ := .lCond) (xs := a.Conds) (hb_a _ (by simp))
  have hl_a_Acts : a.Acts.length ≤ 9223372036854775807 := Bd.len (U := UU) (τ := .lAct) (xs := a.Acts) (hb_a _ (by simp))
  have hp0 : sizeRule a ≤ 4294967296 := hp _ (List.mem_cons_self)
  clear hp hb
  rw [vc_laws_toRule a]
  simp only [sizeRule] at hp0
  repeat' (first | exact Lf_rfl _ | (refine And.intro (by omega) ?_))
def con_laws_eqRule : Con UU where
  α := DRule × DRule
  md := [.ro, .ro]
  of := fun | [.agg [.lit (.string a0), .lit (.int .i64 a1), .sl .ePat a2, .sl .eCond a3, .sl .eAct a4], .agg [.lit (.string a5), .lit (.int .i64 a6), .sl .ePat a7, .sl .eCond a8, .sl .eAct a9]] => some (⟨a0, a1, a2, a3, a4⟩, ⟨a5, a6, a7, a8, a9⟩) | _ => none
  ds := fun (a, b) => [.agg [.lit (.string a.Name), .lit (.int .i64 a.Sal), .sl .ePat a.Pats, .sl .eCond a.Conds, .sl .eAct a.Acts], .agg [.lit (.string b.Name), .lit (.int .i64 b.Sal), .sl .ePat b.Pats, .sl .eCond b.Conds, .sl .eAct b.Acts]]
  pre := fun (a, b) => []
  res := fun (a, b) => ⟨[.one (.lit (.bool (decide (a = b))))], true, []⟩
  law := by intro l x h; (try simp only at h); split at h <;> cases h; rfl
def ann_laws_eqRule : con_laws_eqRule.α → Nat → Option (Ann UU) := fun (a, b) => annL []
def use_laws_eqRule : List (FuncId × Con UU) := [(113, con_laws_eqPatS), (114, con_laws_eqCondS), (115, con_laws_eqActS)]
theorem vc_laws_eqRule (a : DRule) (b : DRule) : goal EE use_laws_eqRule Go.Proofs.Tryz.f87 con_laws_eqRule ann_laws_eqRule (a, b) = (bif !ByteArray.toList a.Name == ByteArray.toList b.Name then Lf [DV.one (Cell.lit (Value.bool false))] [DV.one (Cell.lit (Value.bool (decide (a = b))))] else bif a.Sal != b.Sal then Lf [DV.one (Cell.lit (Value.bool false))] [DV.one (Cell.lit (Value.bool (decide (a = b))))] else bif !decide (a.Pats = b.Pats) then Lf [DV.one (Cell.lit (Value.bool false))] [DV.one (Cell.lit (Value.bool (decide (a = b))))] else bif !decide (a.Conds = b.Conds) then Lf [DV.one (Cell.lit (Value.bool false))] [DV.one (Cell.lit (Value.bool (decide (a = b))))] else bif !decide (a.Acts = b.Acts) then Lf [DV.one (Cell.lit (Value.bool false))] [DV.one (Cell.lit (Value.bool (decide (a = b))))] else Lf [DV.one (Cell.lit (Value.bool true))] [DV.one (Cell.lit (Value.bool (decide (a = b))))]) := by kernel_rfl
theorem ok_laws_eqRule : Holds EE (87, con_laws_eqRule) := by
  refine holds_of EE_ok Go.Proofs.Tryz.func87 con_laws_eqRule (by kernel_rfl) rfl use_laws_eqRule (all_cons ok_laws_eqPatS (all_cons ok_laws_eqCondS (all_cons ok_laws_eqActS all_nil))) ann_laws_eqRule (fun x hp hb => ?_)
  obtain ⟨a, b⟩ := x
  have hb_a : BdDV (U := UU) (.agg [.lit (.string a.Name), .lit (.int .i64 a.Sal), .sl .ePat a.Pats, .sl .eCond a.Conds, .sl .eAct a.Acts]) := hb _ (List.mem_cons_self)
  have hl_a_Name : a.Name.size ≤ 9223372036854775807 := Bd.str (hb_a _ (by simp))
  have hl_a_Pats : a.Pats.length ≤ 9223372036854775807 := Bd.len (U := UU) (τ := .ePat) (xs := a.Pats) (hb_a _ (by simp))
  have hl_a_Conds : a.Conds.length ≤ 9223372036854775807 := Bd.len (U := UU) (τ := .eCond) (xs := a.Conds) (hb_a _ (by simp))
  have hl_a_Acts : a.Acts.length ≤ 9223372036854775807 := Bd.len (U := UU) (τ := .eAct) (xs := a.Acts) (hb_a _ (by simp))
  have hb_b : BdDV (U := UU) (.agg [.lit (.string b.Name), .lit (.int .i64 b.Sal), .sl .ePat b.Pats, .sl .eCond b.Conds, .sl .eAct b.Acts]) := hb _ (List.mem_cons_of_mem _ (List.mem_cons_self))
  have hl_b_Name : b.Name.size ≤ 9223372036854775807 := Bd.str (hb_b _ (by simp))
  have hl_b_Pats : b.Pats.length ≤ 9223372036854775807 := Bd.len (U := UU) (τ := .ePat) (xs := b.Pats) (hb_b _ (by simp))
  have hl_b_Conds : b.Conds.length ≤ 9223372036854775807 := Bd.len (U := UU) (τ := .eCond) (xs := b.Conds) (hb_b _ (by simp))
  have hl_b_Acts : b.Acts.length ≤ 9223372036854775807 := Bd.len (U := UU) (τ := .eAct) (xs := b.Acts) (hb_b _ (by simp))
  clear hp hb
  rw [vc_laws_eqRule a b]
  obtain ⟨aName, aSal, aPats, aConds, aActs⟩ := a
  obtain ⟨bName, bSal, bPats, bConds, bActs⟩ := b
  repeat' (apply if_cond <;> intro _)
  all_goals (first | apply Lf_t | apply Lf_f) <;> simp_all
def con_laws_szRuleS : Con UU where
  α := (List DRule) × Int
  md := [.ro, .ro]
  of := fun | [.one (.sl .lRule a0), .one (.lit (.int .i64 a1))] => some (a0, a1) | _ => none
  ds := fun (a, left) => [.one (.sl .lRule a), .one (.lit (.int .i64 left))]
  pre := fun (a, left) => [0 ≤ left]
  res := fun (a, left) => ⟨[.one (.lit (.int .i64 (szr left (sizeRuleS a))))], true, []⟩
  law := by intro l x h; (try simp only at h); split at h <;> cases h; rfl
def I_laws_szRuleS_5 (a : (List DRule)) (left : Int) : Int × Int × Unit → Prop := fun (lf, i, _) => 0 ≤ lf ∧ 0 ≤ i ∧ i ≤ a.length ∧ szr lf ((a.drop i.toNat).map sizeRule).sum = szr left (sizeRuleS a)
def μ_laws_szRuleS_5 (a : (List DRule)) (left : Int) : Int × Int × Unit → Nat := fun (lf, i, _) => a.length - i.toNat
def ann_laws_szRuleS : con_laws_szRuleS.α → Nat → Option (Ann UU) := fun (a, left) => annL [(5, annOf [.slot 1 (1, 1024) (.lit (.int .i64)), .slot 5 (5, 1024) (.lit (.int .i64))] (fun _ => I_laws_szRuleS_5 a left) (μ_laws_szRuleS_5 a left))]
def use_laws_szRuleS : List (FuncId × Con UU) := [(75, con_laws_szRule)]
theorem vc_laws_szRuleS (a : (List DRule)) (left : Int) : goal EE use_laws_szRuleS Go.Proofs.Tryz.f55 con_laws_szRuleS ann_laws_szRuleS (a, left) = (let x0 : Int := IntKind.wrap IntKind.i64 (left - (↑(List.length a) : Int));
bif decide (x0 < (0 : Int)) then Lf [DV.one (Cell.lit (Value.int IntKind.i64 (-1 : Int)))] [DV.one (Cell.lit (Value.int IntKind.i64 (szr left (sizeRuleS a))))]
else
  I_laws_szRuleS_5 a left (x0, (0 : Int), PUnit.unit) ∧
    ∀ (y : Int × Int × PUnit),
      let x1 : Int := szr y.1 (sizeRule (List.getD a (Int.toNat y.2.1) zRule));
      I_laws_szRuleS_5 a left y → bif decide (y.2.1 < (↑(List.length a) : Int)) then (0 : Int) ≤ y.2.1 ∧ Int.toNat y.2.1 < List.length a ∧ (0 : Int) ≤ y.1 ∧ bif decide (x1 < (0 : Int)) then Lf [DV.one (Cell.lit (Value.int IntKind.i64 (-1 : Int)))] [DV.one (Cell.lit (Value.int IntKind.i64 (szr left (sizeRuleS a))))] else I_laws_szRuleS_5 a left (x1, IntKind.wrap IntKind.i64 (y.2.1 + (1 : Int)), PUnit.unit) ∧ μ_laws_szRuleS_5 a left (x1, IntKind.wrap IntKind.i64 (y.2.1 + (1 : Int)), PUnit.unit) < μ_laws_szRuleS_5 a left y else Lf [DV.one (Cell.lit (Value.int IntKind.i64 y.1))] [DV.one (Cell.lit (Value.int IntKind.i64 (szr left (sizeRuleS a))))]) := by kernel_rfl
theorem ok_laws_szRuleS : Holds EE (55, con_laws_szRuleS) := by
  refine holds_of EE_ok Go.Proofs.Tryz.func55 con_laws_szRuleS (by kernel_rfl) rfl use_laws_szRuleS (all_cons ok_laws_szRule all_nil) ann_laws_szRuleS (fun x hp hb => ?_)
  obtain ⟨a, left⟩ := x
  have hb_a : BdDV (U := UU) (.one (.sl .lRule a)) := hb _ (List.mem_cons_self)
  have hl_a : a.length ≤ 9223372036854775807 := Bd.len hb_a
  have hb_left : BdDV (U := UU) (.one (.lit (.int .i64 left))) := hb _ (List.mem_cons_of_mem _ (List.mem_cons_self))
  have hl_left := Bd.i64 hb_left
  have hp0 : 0 ≤ left := hp _ (List.mem_cons_self)
  clear hp hb
  rw [vc_laws_szRuleS a left]
  dsimp only
  rw [wrap_i64 (by omega) (by omega)]
  refine if_cond (fun h => Lf_i ?_) (fun h => ⟨?_, ?_⟩)
  · simp [szr, sizeRuleS] at *; omega
  · simp only [I_laws_szRuleS_5, sizeRuleS]; simp at h; have h' : 0 ≤ left - a.length := by omega
    exact ⟨h', by omega, by omega, szr_sub h'⟩
  rintro ⟨lf, i, ⟨⟩⟩ ⟨h0, h1, h2, hR⟩
  refine if_cond (fun hc => ?_) (fun hc => ?_)
  · have hc : i < a.length := by simpa using hc
    rw [drop_step a zRule h1 hc, List.map_cons, List.sum_cons] at hR
    simp only at *
    rw [wrap_i64 (by omega) (by omega)]
    generalize List.getD a i.toNat zRule = x at *
    refine ⟨by omega, by omega, by omega, if_cond (fun h => Lf_i ?_) (fun h => ⟨⟨?_, by omega, by omega, ?_⟩, ?_⟩)⟩
    · rw [← hR]; exact (szr_bad (of_decide_eq_true h)).symm
    · simp at h; omega
    · rw [← hR]; simp at h; exact szr_szr h
    · simp only [μ_laws_szRuleS_5]; omega
  · have hc : a.length ≤ i := by simpa using hc
    rw [drop_end a hc] at hR
    apply Lf_i; rw [← hR]; simp [szr, h0]
def con_laws_toRuleS : Con UU where
  α := (List DRule)
  md := [.ro]
  of := fun | [.one (.sl .lRule a0)] => some a0 | _ => none
  ds := fun a => [.one (.sl .lRule a)]
  pre := fun a => [sizeRuleS a ≤ 4294967296]
  res := fun a => ⟨[.one (.sl .eRule a)], true, []⟩
  law := by intro l x h; (try simp only at h); split at h <;> cases h; rfl
def I_laws_toRuleS_3 (a : (List DRule)) : List DRule × Int × Unit → Prop := fun (out, i, _) => 0 ≤ i ∧ i ≤ a.length ∧ out = a.take i.toNat ++ List.replicate (a.length - i.toNat) zRule
def μ_laws_toRuleS_3 (a : (List DRule)) : List DRule × Int × Unit → Nat := fun (out, i, _) => a.length - i.toNat
def ann_laws_toRuleS : con_laws_toRuleS.α → Nat → Option (Ann UU) := fun a => annL [(3, annOf [.slot 3 (3, 1024) (.own .eRule true), .slot 4 (4, 1024) (.lit (.int .i64))] (fun _ => I_laws_toRuleS_3 a) (μ_laws_toRuleS_3 a))]
def use_laws_toRuleS : List (FuncId × Con UU) := [(81, con_laws_toRule)]
theorem vc_laws_toRuleS (a : (List DRule)) : goal EE use_laws_toRuleS Go.Proofs.Tryz.f57 con_laws_toRuleS ann_laws_toRuleS a = (let x0 : Int := (↑(List.length a) : Int);
(0 : Int) ≤ x0 ∧
  x0 = x0 ∧
    x0 ≤ (4294967296 : Int) ∧
      I_laws_toRuleS_3 a (List.replicate (Int.toNat x0) zRule, (0 : Int), PUnit.unit) ∧
        ∀ (y : List DRule × Int × PUnit),
          let x1 : Nat := Int.toNat y.2.1;
          I_laws_toRuleS_3 a y → bif decide (y.2.1 < x0) then (0 : Int) ≤ y.2.1 ∧ x1 < List.length a ∧ sizeRule (List.getD a x1 zRule) ≤ (4294967296 : Nat) ∧ (0 : Int) ≤ y.2.1 ∧ x1 < List.length y.1 ∧ x1 < List.length y.1 ∧ I_laws_toRuleS_3 a (List.set y.1 x1 (List.getD a x1 zRule), IntKind.wrap IntKind.i64 (y.2.1 + (1 : Int)), PUnit.unit) ∧ μ_laws_toRuleS_3 a (List.set y.1 x1 (List.getD a x1 zRule), IntKind.wrap IntKind.i64 (y.2.1 + (1 : Int)), PUnit.unit) < μ_laws_toRuleS_3 a y else Lf [DV.one (Cell.sl Cd.eRule y.1)] [DV.one (Cell.sl Cd.eRule a)]) := by kernel_rfl
theorem ok_laws_toRuleS : Holds EE (57, con_laws_toRuleS) := by
  refine holds_of EE_ok Go.Proofs.Tryz.func57 con_laws_toRuleS (by kernel_rfl) rfl use_laws_toRuleS (all_cons ok_laws_toRule all_nil) ann_laws_toRuleS (fun (a : (List DRule)) hp hb => ?_)
  have hb_a : BdDV (U := UU) (.one (.sl .lRule a)) := hb _ (List.mem_cons_self)
  have hl_a : a.length ≤ 9223372036854775807 := Bd.len hb_a
  have hp0 : sizeRuleS a ≤ 4294967296 := hp _ (List.mem_cons_self)
  clear hp hb
  rw [vc_laws_toRuleS a]
  dsimp only
  have hlen : a.length ≤ 4294967296 := by simp only [sizeRuleS] at hp0; omega
  refine ⟨by omega, rfl, by omega, ?_, ?_⟩
  · simp [I_laws_toRuleS_3]
  rintro ⟨out, i, ⟨⟩⟩ ⟨h1, h2, rfl⟩
  simp only at *
  refine if_cond (fun hc => ?_) (fun hc => ?_)
  · have hc : i < a.length := by simpa using hc
    rw [wrap_i64 (by omega) (by omega), set_fill a zRule h1 hc]
    exact ⟨h1, by omega, by exact Nat.le_trans (sum_getD_le sizeRule a zRule h1 hc) (by simp only [sizeRuleS] at hp0; omega), h1, by simp; omega, by simp; omega, ⟨by omega, by omega, rfl⟩, by simp only [μ_laws_toRuleS_3]; omega⟩
  · have hc : a.length ≤ i := by simpa using hc
    have e : i.toNat = a.length := by omega
    rw [e]; simp; exact Lf_rfl _
def con_laws_eqRuleS : Con UU where
  α := (List DRule) × (List DRule)
  md := [.ro, .ro]
  of := fun | [.one (.sl .eRule a0), .one (.sl .eRule a1)] => some (a0, a1) | _ => none
  ds := fun (a, b) => [.one (.sl .eRule a), .one (.sl .eRule b)]
  pre := fun (a, b) => []
  res := fun (a, b) => ⟨[.one (.lit (.bool (decide (a = b))))], true, []⟩
  law := by intro l x h; (try simp only at h); split at h <;> cases h; rfl
def I_laws_eqRuleS_4 (a : (List DRule)) (b : (List DRule)) : Int × Unit → Prop := fun (i, _) => 0 ≤ i ∧ i ≤ a.length ∧ a.length = b.length ∧ (a.drop i.toNat = b.drop i.toNat ↔ a = b)
def μ_laws_eqRuleS_4 (a : (List DRule)) (b : (List DRule)) : Int × Unit → Nat := fun (i, _) => a.length - i.toNat
def ann_laws_eqRuleS : con_laws_eqRuleS.α → Nat → Option (Ann UU) := fun (a, b) => annL [(4, annOf [.slot 5 (5, 1024) (.lit (.int .i64))] (fun _ => I_laws_eqRuleS_4 a b) (μ_laws_eqRuleS_4 a b))]
def use_laws_eqRuleS : List (FuncId × Con UU) := [(87, con_laws_eqRule)]
theorem vc_laws_eqRuleS (a : (List DRule)) (b : (List DRule)) : goal EE use_laws_eqRuleS Go.Proofs.Tryz.f59 con_laws_eqRuleS ann_laws_eqRuleS (a, b) = (bif (↑(List.length a) : Int) != (↑(List.length b) : Int) then Lf [DV.one (Cell.lit (Value.bool false))] [DV.one (Cell.lit (Value.bool (decide (a = b))))] else I_laws_eqRuleS_4 a b ((0 : Int), PUnit.unit) ∧ ∀ (y : Int × PUnit), I_laws_eqRuleS_4 a b y → bif decide (y.1 < (↑(List.length a) : Int)) then (0 : Int) ≤ y.1 ∧ Int.toNat y.1 < List.length a ∧ (0 : Int) ≤ y.1 ∧ Int.toNat y.1 < List.length b ∧ bif !decide (List.getD a (Int.toNat y.1) zRule = List.getD b (Int.toNat y.1) zRule) then Lf [DV.one (Cell.lit (Value.bool false))] [DV.one (Cell.lit (Value.bool (decide (a = b))))] else I_laws_eqRuleS_4 a b (IntKind.wrap IntKind.i64 (y.1 + (1 : Int)), PUnit.unit) ∧ μ_laws_eqRuleS_4 a b (IntKind.wrap IntKind.i64 (y.1 + (1 : Int)), PUnit.unit) < μ_laws_eqRuleS_4 a b y else Lf [DV.one (Cell.lit (Value.bool true))] [DV.one (Cell.lit (Value.bool (decide (a = b))))]) := by kernel_rfl
theorem ok_laws_eqRuleS : Holds EE (59, con_laws_eqRuleS) := by
  refine holds_of EE_ok Go.Proofs.Tryz.func59 con_laws_eqRuleS (by kernel_rfl) rfl use_laws_eqRuleS (all_cons ok_laws_eqRule all_nil) ann_laws_eqRuleS (fun x hp hb => ?_)
  obtain ⟨a, b⟩ := x
  have hb_a : BdDV (U := UU) (.one (.sl .eRule a)) := hb _ (List.mem_cons_self)
  have hl_a : a.length ≤ 9223372036854775807 := Bd.len hb_a
  have hb_b : BdDV (U := UU) (.one (.sl .eRule b)) := hb _ (List.mem_cons_of_mem _ (List.mem_cons_self))
  have hl_b : b.length ≤ 9223372036854775807 := Bd.len hb_b
  clear hp hb
  rw [vc_laws_eqRuleS a b]
  refine if_cond (fun h => Lf_f ?_) (fun h => ⟨?_, ?_⟩)
  · rintro rfl; simp at h
  · simp [I_laws_eqRuleS_4] at *; omega
  rintro ⟨i, ⟨⟩⟩ ⟨h1, h2, h3, hR⟩
  simp only at *
  refine if_cond (fun hc => ?_) (fun hc => ?_)
  · have hc : i < a.length := by simpa using hc
    rw [drop_step a zRule h1 hc, drop_step b zRule h1 (by omega)] at hR
    rw [wrap_i64 (by omega) (by omega)]
    refine ⟨by omega, by omega, by omega, by omega, if_cond (fun h => Lf_f ?_) (fun h => ⟨⟨by omega, by omega, h3, ?_⟩, ?_⟩)⟩
    · rw [← hR]; simp at h; simp [h]
    · rw [← hR]; simp at h; simp [h]
    · simp only [μ_laws_eqRuleS_4]; omega
  · have hc : a.length ≤ i := by simpa using hc
    rw [drop_end a hc, drop_end b (by omega)] at hR
    exact Lf_t (hR.1 rfl)
def con_laws_szDef : Con UU where
  α := DDef × Int
  md := [.ro, .ro]
  of := fun | [.agg [.lit (.string a0), .sl .lRule a1], .one (.lit (.int .i64 a2))] => some (⟨a0, a1⟩, a2) | _ => none
  ds := fun (a, left) => [.agg [.lit (.string a.Name), .sl .lRule a.Rules], .one (.lit (.int .i64 left))]
  pre := fun (a, left) => [0 ≤ left]
  res := fun (a, left) => ⟨[.one (.lit (.int .i64 (szr left (sizeDef a))))], true, []⟩
  law := by intro l x h; (try simp only at h); split at h <;> cases h; rfl
def ann_laws_szDef : con_laws_szDef.α → Nat → Option (Ann UU) := fun (a, left) => annL []
def use_laws_szDef : List (FuncId × Con UU) := [(55, con_laws_szRuleS)]
theorem vc_laws_szDef (a : DDef) (left : Int) : goal EE use_laws_szDef Go.Proofs.Tryz.f32 con_laws_szDef ann_laws_szDef (a, left) = (let x0 : Int := IntKind.wrap IntKind.i64 (left - (↑(ByteArray.size a.Name) : Int));
bif decide (x0 < (0 : Int)) then Lf [DV.one (Cell.lit (Value.int IntKind.i64 (-1 : Int)))] [DV.one (Cell.lit (Value.int IntKind.i64 (szr left (sizeDef a))))] else (0 : Int) ≤ x0 ∧ bif decide (szr x0 (sizeRuleS a.Rules) < (0 : Int)) then Lf [DV.one (Cell.lit (Value.int IntKind.i64 (-1 : Int)))] [DV.one (Cell.lit (Value.int IntKind.i64 (szr left (sizeDef a))))] else Lf [DV.one (Cell.lit (Value.int IntKind.i64 (szr x0 (sizeRuleS a.Rules))))] [DV.one (Cell.lit (Value.int IntKind.i64 (szr left (sizeDef a))))]) := by kernel_rfl
theorem ok_laws_szDef : Holds EE (32, con_laws_szDef) := by
  refine holds_of EE_ok Go.Proofs.Tryz.func32 con_laws_szDef (by kernel_rfl) rfl use_laws_szDef (all_cons ok_laws_szRuleS all_nil) ann_laws_szDef (fun x hp hb => ?_)
  obtain ⟨a, left⟩ := x
  have hb_a : BdDV (U := UU) (.agg [.lit (.string a.Name), .sl .lRule a.Rules]) := hb _ (List.mem_cons_self)
  have hl_a_Name : a.Name.size ≤ 9223372036854775807 := Bd.str (hb_a _ (by simp))
  have hl_a_Rules : a.Rules.length ≤ 9223372036854775807 := Bd.len (U := UU) (τ := .lRule) (xs := a.Rules) (hb_a _ (by simp))
  have hb_left : BdDV (U := UU) (.one (.lit (.int .i64 left))) := hb _ (List.mem_cons_of_mem _ (List.mem_cons_self))
  have hl_left := Bd.i64 hb_left
  have hp0 : 0 ≤ left := hp _ (List.mem_cons_self)
  clear hp hb
  rw [vc_laws_szDef a left]
  dsimp only
  rw [wrap_i64 (by omega) (by omega)]
  refine if_cond (fun h => Lf_i (szr_bad' ?_)) (fun h => ?_)
  · have h := of_decide_eq_true h; simp only [sizeDef]; omega
  have h0 := of_decide_eq_false h
  refine ⟨by omega, if_cond (fun h => Lf_i (szr_bad' ?_)) (fun h => ?_)⟩
  · have h := szr_neg h; simp only [sizeDef]; omega
  obtain ⟨e1, h1⟩ := szr_pos h
  rw [e1]
  exact Lf_i (by rw [← szr_ok' (by simp only [sizeDef]; omega)]; simp only [sizeDef]; try omega)
def con_laws_toDef : Con UU where
  α := DDef
  md := [.ro]
  of := fun | [.agg [.lit (.string a0), .sl .lRule a1]] => some ⟨a0, a1⟩ | _ => none
  ds := fun a => [.agg [.lit (.string a.Name), .sl .lRule a.Rules]]
  pre := fun a => [sizeDef a ≤ 4294967296]
  res := fun a => ⟨[.agg [.lit (.string a.Name), .sl .eRule a.Rules]], true, []⟩
  law := by intro l x h; (try simp only at h); split at h <;> cases h; rfl
def ann_laws_toDef : con_laws_toDef.α → Nat → Option (Ann UU) := fun a => annL []
def use_laws_toDef : List (FuncId × Con UU) := [(57, con_laws_toRuleS)]
theorem vc_laws_toDef (a : DDef) : goal EE use_laws_toDef Go.Proofs.Tryz.f34 con_laws_toDef ann_laws_toDef a = (sizeRuleS a.Rules ≤ (4294967296 : Nat) ∧ Lf [DV.agg [Cell.lit (Value.string a.Name), Cell.sl Cd.eRule a.Rules]] [DV.agg [Cell.lit (Value.string a.Name), Cell.sl Cd.eRule a.Rules]]) := by kernel_rfl
theorem ok_laws_toDef : Holds EE (34, con_laws_toDef) := by
  refine holds_of EE_ok Go.Proofs.Tryz.func34 con_laws_toDef (by kernel_rfl) rfl use_laws_toDef (all_cons ok_laws_toRuleS all_nil) ann_laws_toDef (fun (a : DDef) hp hb => ?_)
  have hb_a : BdDV (U := UU) (.agg [.lit (.string a.Name), .sl .lRule a.Rules]) := hb _ (List.mem_cons_self)
  have hl_a_Name : a.Name.size ≤ 9223372036854775807 := Bd.str (hb_a _ (by simp))
  have hl_a_Rules : a.Rules.length ≤ 9223372036854775807 := Bd.len (U := UU) (τ := .lRule) (xs := a.Rules) (hb_a _ (by simp))
  have hp0 : sizeDef a ≤ 4294967296 := hp _ (List.mem_cons_self)
  clear hp hb
  rw [vc_laws_toDef a]
  simp only [sizeDef] at hp0
  repeat' (first | exact Lf_rfl _ | (refine And.intro (by omega) ?_))
def con_laws_eqDef : Con UU where
  α := DDef × DDef
  md := [.ro, .ro]
  of := fun | [.agg [.lit (.string a0), .sl .eRule a1], .agg [.lit (.string a2), .sl .eRule a3]] => some (⟨a0, a1⟩, ⟨a2, a3⟩) | _ => none
  ds := fun (a, b) => [.agg [.lit (.string a.Name), .sl .eRule a.Rules], .agg [.lit (.string b.Name), .sl .eRule b.Rules]]
  pre := fun (a, b) => []
  res := fun (a, b) => ⟨[.one (.lit (.bool (decide (a = b))))], true, []⟩
  law := by intro l x h; (try simp only at h); split at h <;> cases h; rfl
def ann_laws_eqDef : con_laws_eqDef.α → Nat → Option (Ann UU) := fun (a, b) => annL []
def use_laws_eqDef : List (FuncId × Con UU) := [(59, con_laws_eqRuleS)]
theorem vc_laws_eqDef (a : DDef) (b : DDef) : goal EE use_laws_eqDef Go.Proofs.Tryz.f36 con_laws_eqDef ann_laws_eqDef (a, b) = (bif !ByteArray.toList a.Name == ByteArray.toList b.Name then Lf [DV.one (Cell.lit (Value.bool false))] [DV.one (Cell.lit (Value.bool (decide (a = b))))] else bif !decide (a.Rules = b.Rules) then Lf [DV.one (Cell.lit (Value.bool false))] [DV.one (Cell.lit (Value.bool (decide (a = b))))] else Lf [DV.one (Cell.lit (Value.bool true))] [DV.one (Cell.lit (Value.bool (decide (a = b))))]) := by kernel_rfl
theorem ok_laws_eqDef : Holds EE (36, con_laws_eqDef) := by
  refine holds_of EE_ok Go.Proofs.Tryz.func36 con_laws_eqDef (by kernel_rfl) rfl use_laws_eqDef (all_cons ok_laws_eqRuleS all_nil) ann_laws_eqDef (fun x hp hb => ?_)
  obtain ⟨a, b⟩ := x
  have hb_a : BdDV (U := UU) (.agg [.lit (.string a.Name), .sl .eRule a.Rules]) := hb _ (List.mem_cons_self)
  have hl_a_Name : a.Name.size ≤ 9223372036854775807 := Bd.str (hb_a _ (by simp))
  have hl_a_Rules : a.Rules.length ≤ 9223372036854775807 := Bd.len (U := UU) (τ := .eRule) (xs := a.Rules) (hb_a _ (by simp))
  have hb_b : BdDV (U := UU) (.agg [.lit (.string b.Name), .sl .eRule b.Rules]) := hb _ (List.mem_cons_of_mem _ (List.mem_cons_self))
  have hl_b_Name : b.Name.size ≤ 9223372036854775807 := Bd.str (hb_b _ (by simp))
  have hl_b_Rules : b.Rules.length ≤ 9223372036854775807 := Bd.len (U := UU) (τ := .eRule) (xs := b.Rules) (hb_b _ (by simp))
  clear hp hb
  rw [vc_laws_eqDef a b]
  obtain ⟨aName, aRules⟩ := a
  obtain ⟨bName, bRules⟩ := b
  repeat' (apply if_cond <;> intro _)
  all_goals (first | apply Lf_t | apply Lf_f) <;> simp_all
def con_laws_szDefS : Con UU where
  α := (List DDef) × Int
  md := [.ro, .ro]
  of := fun | [.one (.sl .lDef a0), .one (.lit (.int .i64 a1))] => some (a0, a1) | _ => none
  ds := fun (a, left) => [.one (.sl .lDef a), .one (.lit (.int .i64 left))]
  pre := fun (a, left) => [0 ≤ left]
  res := fun (a, left) => ⟨[.one (.lit (.int .i64 (szr left (sizeDefS a))))], true, []⟩
  law := by intro l x h; (try simp only at h); split at h <;> cases h; rfl
def I_laws_szDefS_5 (a : (List DDef)) (left : Int) : Int × Int × Unit → Prop := fun (lf, i, _) => 0 ≤ lf ∧ 0 ≤ i ∧ i ≤ a.length ∧ szr lf ((a.drop i.toNat).map sizeDef).sum = szr left (sizeDefS a)
def μ_laws_szDefS_5 (a : (List DDef)) (left : Int) : Int × Int × Unit → Nat := fun (lf, i, _) => a.length - i.toNat
def ann_laws_szDefS : con_laws_szDefS.α → Nat → Option (Ann UU) := fun (a, left) => annL [(5, annOf [.slot 1 (1, 1024) (.lit (.int .i64)), .slot 5 (5, 1024) (.lit (.int .i64))] (fun _ => I_laws_szDefS_5 a left) (μ_laws_szDefS_5 a left))]
def use_laws_szDefS : List (FuncId × Con UU) := [(32, con_laws_szDef)]
theorem vc_laws_szDefS (a : (List DDef)) (left : Int) : goal EE use_laws_szDefS Go.Proofs.Tryz.f15 con_laws_szDefS ann_laws_szDefS (a, left) = (let x0 : Int := IntKind.wrap IntKind.i64 (left - (↑(List.length a) : Int));
bif decide (x0 < (0 : Int)) then Lf [DV.one (Cell.lit (Value.int IntKind.i64 (-1 : Int)))] [DV.one (Cell.lit (Value.int IntKind.i64 (szr left (sizeDefS a))))]
else
  I_laws_szDefS_5 a left (x0, (0 : Int), PUnit.unit) ∧
    ∀ (y : Int × Int × PUnit),
      let x1 : Int := szr y.1 (sizeDef (List.getD a (Int.toNat y.2.1) zDef));
      I_laws_szDefS_5 a left y → bif decide (y.2.1 < (↑(List.length a) : Int)) then (0 : Int) ≤ y.2.1 ∧ Int.toNat y.2.1 < List.length a ∧ (0 : Int) ≤ y.1 ∧ bif decide (x1 < (0 : Int)) then Lf [DV.one (Cell.lit (Value.int IntKind.i64 (-1 : Int)))] [DV.one (Cell.lit (Value.int IntKind.i64 (szr left (sizeDefS a))))] else I_laws_szDefS_5 a left (x1, IntKind.wrap IntKind.i64 (y.2.1 + (1 : Int)), PUnit.unit) ∧ μ_laws_szDefS_5 a left (x1, IntKind.wrap IntKind.i64 (y.2.1 + (1 : Int)), PUnit.unit) < μ_laws_szDefS_5 a left y else Lf [DV.one (Cell.lit (Value.int IntKind.i64 y.1))] [DV.one (Cell.lit (Value.int IntKind.i64 (szr left (sizeDefS a))))]) := by kernel_rfl
theorem ok_laws_szDefS : Holds EE (15, con_laws_szDefS) := by
  refine holds_of EE_ok Go.Proofs.Tryz.func15 con_laws_szDefS (by kernel_rfl) rfl use_laws_szDefS (all_cons ok_laws_szDef all_nil) ann_laws_szDefS (fun x hp hb => ?_)
  obtain ⟨a, left⟩ := x
  have hb_a : BdDV (U := UU) (.one (.sl .lDef a)) := hb _ (List.mem_cons_self)
  have hl_a : a.length ≤ 9223372036854775807 := Bd.len hb_a
  have hb_left : BdDV (U := UU) (.one (.lit (.int .i64 left))) := hb _ (List.mem_cons_of_mem _ (List.mem_cons_self))
  have hl_left := Bd.i64 hb_left
  have hp0 : 0 ≤ left := hp _ (List.mem_cons_self)
  clear hp hb
  rw [vc_laws_szDefS a left]
  dsimp only
  rw [wrap_i64 (by omega) (by omega)]
  refine if_cond (fun h => Lf_i ?_) (fun h => ⟨?_, ?_⟩)
  · simp [szr, sizeDefS] at *; omega
  · simp only [I_laws_szDefS_5, sizeDefS]; simp at h; have h' : 0 ≤ left - a.length := by omega
    exact ⟨h', by omega, by omega, szr_sub h'⟩
  rintro ⟨lf, i, ⟨⟩⟩ ⟨h0, h1, h2, hR⟩
  refine if_cond (fun hc => ?_) (fun hc => ?_)
  · have hc : i < a.length := by simpa using hc
    rw [drop_step a zDef h1 hc, List.map_cons, List.sum_cons] at hR
    simp only at *
    rw [wrap_i64 (by omega) (by omega)]
    generalize List.getD a i.toNat zDef = x at *
    refine ⟨by omega, by omega, by omega, if_cond (fun h => Lf_i ?_) (fun h => ⟨⟨?_, by omega, by omega, ?_⟩, ?_⟩)⟩
    · rw [← hR]; exact (szr_bad (of_decide_eq_true h)).symm
    · simp at h; omega
    · rw [← hR]; simp at h; exact szr_szr h
    · simp only [μ_laws_szDefS_5]; omega
  · have hc : a.length ≤ i := by simpa using hc
    rw [drop_end a hc] at hR
    apply Lf_i; rw [← hR]; simp [szr, h0]
def con_laws_toDefS : Con UU where
  α := (List DDef)
  md := [.ro]
  of := fun | [.one (.sl .lDef a0)] => some a0 | _ => none
  ds := fun a => [.one (.sl .lDef a)]
  pre := fun a => [sizeDefS a ≤ 4294967296]
  res := fun a => ⟨[.one (.sl .eDef a)], true, []⟩
  law := by intro l x h; (try simp only at h); split at h <;> cases h; rfl
def I_laws_toDefS_3 (a : (List DDef)) : List DDef × Int × Unit → Prop := fun (out, i, _) => 0 ≤ i ∧ i ≤ a.length ∧ out = a.take i.toNat ++ List.replicate (a.length - i.toNat) zDef
def μ_laws_toDefS_3 (a : (List DDef)) : List DDef × Int × Unit → Nat := fun (out, i, _) => a.length - i.toNat
def ann_laws_toDefS : con_laws_toDefS.α → Nat → Option (Ann UU) := fun a => annL [(3, annOf [.slot 3 (3, 1024) (.own .eDef true), .slot 4 (4, 1024) (.lit (.int .i64))] (fun _ => I_laws_toDefS_3 a) (μ_laws_toDefS_3 a))]
def use_laws_toDefS : List (FuncId × Con UU) := [(34, con_laws_toDef)]
theorem vc_laws_toDefS (a : (List DDef)) : goal EE use_laws_toDefS Go.Proofs.Tryz.f17 con_laws_toDefS ann_laws_toDefS a = (let x0 : Int := (↑(List.length a) : Int);
(0 : Int) ≤ x0 ∧
  x0 = x0 ∧
    x0 ≤ (4294967296 : Int) ∧
      I_laws_toDefS_3 a (List.replicate (Int.toNat x0) zDef, (0 : Int), PUnit.unit) ∧
        ∀ (y : List DDef × Int × PUnit),
          let x1 : Nat := Int.toNat y.2.1;
          I_laws_toDefS_3 a y → bif decide (y.2.1 < x0) then (0 : Int) ≤ y.2.1 ∧ x1 < List.length a ∧ sizeDef (List.getD a x1 zDef) ≤ (4294967296 : Nat) ∧ (0 : Int) ≤ y.2.1 ∧ x1 < List.length y.1 ∧ x1 < List.length y.1 ∧ I_laws_toDefS_3 a (List.set y.1 x1 (List.getD a x1 zDef), IntKind.wrap IntKind.i64 (y.2.1 + (1 : Int)), PUnit.unit) ∧ μ_laws_toDefS_3 a (List.set y.1 x1 (List.getD a x1 zDef), IntKind.wrap IntKind.i64 (y.2.1 + (1 : Int)), PUnit.unit) < μ_laws_toDefS_3 a y else Lf [DV.one (Cell.sl Cd.eDef y.1)] [DV.one (Cell.sl Cd.eDef a)]) := by kernel_rfl
theorem ok_laws_toDefS : Holds EE (17, con_laws_toDefS) := by
  refine holds_of EE_ok Go.Proofs.Tryz.func17 con_laws_toDefS (by kernel_rfl) rfl use_laws_toDefS (all_cons ok_laws_toDef all_nil) ann_laws_toDefS (fun (a : (List DDef)) hp hb => ?_)
  have hb_a : BdDV (U := UU) (.one (.sl .lDef a)) := hb _ (List.mem_cons_self)
  have hl_a : a.length ≤ 9223372036854775807 := Bd.len hb_a
  have hp0 : sizeDefS a ≤ 4294967296 := hp _ (List.mem_cons_self)
  clear hp hb
  rw [vc_laws_toDefS a]
  dsimp only
  have hlen : a.length ≤ 4294967296 := by simp only [sizeDefS] at hp0; omega
  refine ⟨by omega, rfl, by omega, ?_, ?_⟩
  · simp [I_laws_toDefS_3]
  rintro ⟨out, i, ⟨⟩⟩ ⟨h1, h2, rfl⟩
  simp only at *
  refine if_cond (fun hc => ?_) (fun hc => ?_)
  · have hc : i < a.length := by simpa using hc
    rw [wrap_i64 (by omega) (by omega), set_fill a zDef h1 hc]
    exact ⟨h1, by omega, by exact Nat.le_trans (sum_getD_le sizeDef a zDef h1 hc) (by simp only [sizeDefS] at hp0; omega), h1, by simp; omega, by simp; omega, ⟨by omega, by omega, rfl⟩, by simp only [μ_laws_toDefS_3]; omega⟩
  · have hc : a.length ≤ i := by simpa using hc
    have e : i.toNat = a.length := by omega
    rw [e]; simp; exact Lf_rfl _
def con_laws_eqDefS : Con UU where
  α := (List DDef) × (List DDef)
  md := [.ro, .ro]
  of := fun | [.one (.sl .eDef a0), .one (.sl .eDef a1)] => some (a0, a1) | _ => none
  ds := fun (a, b) => [.one (.sl .eDef a), .one (.sl .eDef b)]
  pre := fun (a, b) => []
  res := fun (a, b) => ⟨[.one (.lit (.bool (decide (a = b))))], true, []⟩
  law := by intro l x h; (try simp only at h); split at h <;> cases h; rfl
def I_laws_eqDefS_4 (a : (List DDef)) (b : (List DDef)) : Int × Unit → Prop := fun (i, _) => 0 ≤ i ∧ i ≤ a.length ∧ a.length = b.length ∧ (a.drop i.toNat = b.drop i.toNat ↔ a = b)
def μ_laws_eqDefS_4 (a : (List DDef)) (b : (List DDef)) : Int × Unit → Nat := fun (i, _) => a.length - i.toNat
def ann_laws_eqDefS : con_laws_eqDefS.α → Nat → Option (Ann UU) := fun (a, b) => annL [(4, annOf [.slot 5 (5, 1024) (.lit (.int .i64))] (fun _ => I_laws_eqDefS_4 a b) (μ_laws_eqDefS_4 a b))]
def use_laws_eqDefS : List (FuncId × Con UU) := [(36, con_laws_eqDef)]
theorem vc_laws_eqDefS (a : (List DDef)) (b : (List DDef)) : goal EE use_laws_eqDefS Go.Proofs.Tryz.f21 con_laws_eqDefS ann_laws_eqDefS (a, b) = (bif (↑(List.length a) : Int) != (↑(List.length b) : Int) then Lf [DV.one (Cell.lit (Value.bool false))] [DV.one (Cell.lit (Value.bool (decide (a = b))))] else I_laws_eqDefS_4 a b ((0 : Int), PUnit.unit) ∧ ∀ (y : Int × PUnit), I_laws_eqDefS_4 a b y → bif decide (y.1 < (↑(List.length a) : Int)) then (0 : Int) ≤ y.1 ∧ Int.toNat y.1 < List.length a ∧ (0 : Int) ≤ y.1 ∧ Int.toNat y.1 < List.length b ∧ bif !decide (List.getD a (Int.toNat y.1) zDef = List.getD b (Int.toNat y.1) zDef) then Lf [DV.one (Cell.lit (Value.bool false))] [DV.one (Cell.lit (Value.bool (decide (a = b))))] else I_laws_eqDefS_4 a b (IntKind.wrap IntKind.i64 (y.1 + (1 : Int)), PUnit.unit) ∧ μ_laws_eqDefS_4 a b (IntKind.wrap IntKind.i64 (y.1 + (1 : Int)), PUnit.unit) < μ_laws_eqDefS_4 a b y else Lf [DV.one (Cell.lit (Value.bool true))] [DV.one (Cell.lit (Value.bool (decide (a = b))))]) := by kernel_rfl
theorem ok_laws_eqDefS : Holds EE (21, con_laws_eqDefS) := by
  refine holds_of EE_ok Go.Proofs.Tryz.func21 con_laws_eqDefS (by kernel_rfl) rfl use_laws_eqDefS (all_cons ok_laws_eqDef all_nil) ann_laws_eqDefS (fun x hp hb => ?_)
  obtain ⟨a, b⟩ := x
  have hb_a : BdDV (U := UU) (.one (.sl .eDef a)) := hb _ (List.mem_cons_self)
  have hl_a : a.length ≤ 9223372036854775807 := Bd.len hb_a
  have hb_b : BdDV (U := UU) (.one (.sl .eDef b)) := hb _ (List.mem_cons_of_mem _ (List.mem_cons_self))
  have hl_b : b.length ≤ 9223372036854775807 := Bd.len hb_b
  clear hp hb
  rw [vc_laws_eqDefS a b]
  refine if_cond (fun h => Lf_f ?_) (fun h => ⟨?_, ?_⟩)
  · rintro rfl; simp at h
  · simp [I_laws_eqDefS_4] at *; omega
  rintro ⟨i, ⟨⟩⟩ ⟨h1, h2, h3, hR⟩
  simp only at *
  refine if_cond (fun hc => ?_) (fun hc => ?_)
  · have hc : i < a.length := by simpa using hc
    rw [drop_step a zDef h1 hc, drop_step b zDef h1 (by omega)] at hR
    rw [wrap_i64 (by omega) (by omega)]
    refine ⟨by omega, by omega, by omega, by omega, if_cond (fun h => Lf_f ?_) (fun h => ⟨⟨by omega, by omega, h3, ?_⟩, ?_⟩)⟩
    · rw [← hR]; simp at h; simp [h]
    · rw [← hR]; simp at h; simp [h]
    · simp only [μ_laws_eqDefS_4]; omega
  · have hc : a.length ≤ i := by simpa using hc
    rw [drop_end a hc, drop_end b (by omega)] at hR
    exact Lf_t (hR.1 rfl)
def con_laws_szMatch : Con UU where
  α := DMatch × Int
  md := [.ro, .ro]
  of := fun | [.agg [.lit (.int .i64 a0), .sl .int a1, .sl .lBind a2], .one (.lit (.int .i64 a3))] => some (⟨a0, a1, a2⟩, a3) | _ => none
  ds := fun (a, left) => [.agg [.lit (.int .i64 a.Rule), .sl .int a.Ids, .sl .lBind a.Binds], .one (.lit (.int .i64 left))]
  pre := fun (a, left) => [0 ≤ left]
  res := fun (a, left) => ⟨[.one (.lit (.int .i64 (szr left (sizeMatch a))))], true, []⟩
  law := by intro l x h; (try simp only at h); split at h <;> cases h; rfl
def ann_laws_szMatch : con_laws_szMatch.α → Nat → Option (Ann UU) := fun (a, left) => annL []
def use_laws_szMatch : List (FuncId × Con UU) := [(125, con_laws_szIntS), (126, con_laws_szBindS)]
theorem vc_laws_szMatch (a : DMatch) (left : Int) : goal EE use_laws_szMatch Go.Proofs.Tryz.f101 con_laws_szMatch ann_laws_szMatch (a, left) = (let x0 : Int := szr (szr left (sizeIntS a.Ids)) (sizeBindS a.Binds);
(0 : Int) ≤ left ∧ bif decide (szr left (sizeIntS a.Ids) < (0 : Int)) then Lf [DV.one (Cell.lit (Value.int IntKind.i64 (-1 : Int)))] [DV.one (Cell.lit (Value.int IntKind.i64 (szr left (sizeMatch a))))] else (0 : Int) ≤ szr left (sizeIntS a.Ids) ∧ bif decide (x0 < (0 : Int)) then Lf [DV.one (Cell.lit (Value.int IntKind.i64 (-1 : Int)))] [DV.one (Cell.lit (Value.int IntKind.i64 (szr left (sizeMatch a))))] else Lf [DV.one (Cell.lit (Value.int IntKind.i64 x0))] [DV.one (Cell.lit (Value.int IntKind.i64 (szr left (sizeMatch a))))]) := by kernel_rfl
theorem ok_laws_szMatch : Holds EE (101, con_laws_szMatch) := by
  refine holds_of EE_ok Go.Proofs.Tryz.func101 con_laws_szMatch (by kernel_rfl) rfl use_laws_szMatch (all_cons ok_laws_szIntS (all_cons ok_laws_szBindS all_nil)) ann_laws_szMatch (fun x hp hb => ?_)
  obtain ⟨a, left⟩ := x
  have hb_a : BdDV (U := UU) (.agg [.lit (.int .i64 a.Rule), .sl .int a.Ids, .sl .lBind a.Binds]) := hb _ (List.mem_cons_self)
  have hl_a_Ids : a.Ids.length ≤ 9223372036854775807 := Bd.len (U := UU) (τ := .int) (xs := a.Ids) (hb_a _ (by simp))
  have hl_a_Binds : a.Binds.length ≤ 9223372036854775807 := Bd.len (U := UU) (τ := .lBind) (xs := a.Binds) (hb_a _ (by simp))
  have hb_left : BdDV (U := UU) (.one (.lit (.int .i64 left))) := hb _ (List.mem_cons_of_mem _ (List.mem_cons_self))
  have hl_left := Bd.i64 hb_left
  have hp0 : 0 ≤ left := hp _ (List.mem_cons_self)
  clear hp hb
  rw [vc_laws_szMatch a left]
  dsimp only
  refine ⟨by omega, if_cond (fun h => Lf_i (szr_bad' ?_)) (fun h => ?_)⟩
  · have h := szr_neg h; simp only [sizeMatch]; omega
  obtain ⟨e0, h0⟩ := szr_pos h
  rw [e0]
  refine ⟨by omega, if_cond (fun h => Lf_i (szr_bad' ?_)) (fun h => ?_)⟩
  · have h := szr_neg h; simp only [sizeMatch]; omega
  obtain ⟨e1, h1⟩ := szr_pos h
  rw [e1]
  exact Lf_i (by rw [← szr_ok' (by simp only [sizeMatch]; omega)]; simp only [sizeMatch]; try omega)
def con_laws_toMatch : Con UU where
  α := DMatch
  md := [.ro]
  of := fun | [.agg [.lit (.int .i64 a0), .sl .int a1, .sl .lBind a2]] => some ⟨a0, a1, a2⟩ | _ => none
  ds := fun a => [.agg [.lit (.int .i64 a.Rule), .sl .int a.Ids, .sl .lBind a.Binds]]
  pre := fun a => [sizeMatch a ≤ 4294967296]
  res := fun a => ⟨[.agg [.lit (.int .i64 a.Rule), .sl .int a.Ids, .sl .eBind a.Binds]], true, []⟩
  law := by intro l x h; (try simp only at h); split at h <;> cases h; rfl
def ann_laws_toMatch : con_laws_toMatch.α → Nat → Option (Ann UU) := fun a => annL []
def use_laws_toMatch : List (FuncId × Con UU) := [(133, con_laws_toIntS), (134, con_laws_toBindS)]
theorem vc_laws_toMatch (a : DMatch) : goal EE use_laws_toMatch Go.Proofs.Tryz.f109 con_laws_toMatch ann_laws_toMatch a = (sizeIntS a.Ids ≤ (4294967296 : Nat) ∧ sizeBindS a.Binds ≤ (4294967296 : Nat) ∧ Lf [DV.agg [Cell.lit (Value.int IntKind.i64 a.Rule), Cell.sl Cd.int a.Ids, Cell.sl Cd.eBind a.Binds]] [DV.agg [Cell.lit (Value.int IntKind.i64 a.Rule), Cell.sl Cd.int a.Ids, Cell.sl Cd.eBind a.Binds]]) := by kernel_rfl
theorem ok_laws_toMatch : Holds EE (109, con_laws_toMatch) := by
  refine holds_of EE_ok Go.Proofs.Tryz.func109 con_laws_toMatch (by kernel_rfl) rfl use_laws_toMatch (all_cons ok_laws_toIntS (all_cons ok_laws_toBindS all_nil)) ann_laws_toMatch (fun (a : DMatch) hp hb => ?_)
  have hb_a : BdDV (U := UU) (.agg [.lit (.int .i64 a.Rule), .sl .int a.Ids, .sl .lBind a.Binds]) := hb _ (List.mem_cons_self)
  have hl_a_Ids : a.Ids.length ≤ 9223372036854775807 := Bd.len (U := UU) (τ := .int) (xs := a.Ids) (hb_a _ (by simp))
  have hl_a_Binds : a.Binds.length ≤ 9223372036854775807 := Bd.len (U := UU) (τ := .lBind) (xs := a.Binds) (hb_a _ (by simp))
  have hp0 : sizeMatch a ≤ 4294967296 := hp _ (List.mem_cons_self)
  clear hp hb
  rw [vc_laws_toMatch a]
  simp only [sizeMatch] at hp0
  repeat' (first | exact Lf_rfl _ | (refine And.intro (by omega) ?_))
def con_laws_eqMatch : Con UU where
  α := DMatch × DMatch
  md := [.ro, .ro]
  of := fun | [.agg [.lit (.int .i64 a0), .sl .int a1, .sl .eBind a2], .agg [.lit (.int .i64 a3), .sl .int a4, .sl .eBind a5]] => some (⟨a0, a1, a2⟩, ⟨a3, a4, a5⟩) | _ => none
  ds := fun (a, b) => [.agg [.lit (.int .i64 a.Rule), .sl .int a.Ids, .sl .eBind a.Binds], .agg [.lit (.int .i64 b.Rule), .sl .int b.Ids, .sl .eBind b.Binds]]
  pre := fun (a, b) => []
  res := fun (a, b) => ⟨[.one (.lit (.bool (decide (a = b))))], true, []⟩
  law := by intro l x h; (try simp only at h); split at h <;> cases h; rfl
def ann_laws_eqMatch : con_laws_eqMatch.α → Nat → Option (Ann UU) := fun (a, b) => annL []
def use_laws_eqMatch : List (FuncId × Con UU) := [(141, con_laws_eqIntS), (142, con_laws_eqBindS)]
theorem vc_laws_eqMatch (a : DMatch) (b : DMatch) : goal EE use_laws_eqMatch Go.Proofs.Tryz.f117 con_laws_eqMatch ann_laws_eqMatch (a, b) = (bif a.Rule != b.Rule then Lf [DV.one (Cell.lit (Value.bool false))] [DV.one (Cell.lit (Value.bool (decide (a = b))))] else bif !decide (a.Ids = b.Ids) then Lf [DV.one (Cell.lit (Value.bool false))] [DV.one (Cell.lit (Value.bool (decide (a = b))))] else bif !decide (a.Binds = b.Binds) then Lf [DV.one (Cell.lit (Value.bool false))] [DV.one (Cell.lit (Value.bool (decide (a = b))))] else Lf [DV.one (Cell.lit (Value.bool true))] [DV.one (Cell.lit (Value.bool (decide (a = b))))]) := by kernel_rfl
theorem ok_laws_eqMatch : Holds EE (117, con_laws_eqMatch) := by
  refine holds_of EE_ok Go.Proofs.Tryz.func117 con_laws_eqMatch (by kernel_rfl) rfl use_laws_eqMatch (all_cons ok_laws_eqIntS (all_cons ok_laws_eqBindS all_nil)) ann_laws_eqMatch (fun x hp hb => ?_)
  obtain ⟨a, b⟩ := x
  have hb_a : BdDV (U := UU) (.agg [.lit (.int .i64 a.Rule), .sl .int a.Ids, .sl .eBind a.Binds]) := hb _ (List.mem_cons_self)
  have hl_a_Ids : a.Ids.length ≤ 9223372036854775807 := Bd.len (U := UU) (τ := .int) (xs := a.Ids) (hb_a _ (by simp))
  have hl_a_Binds : a.Binds.length ≤ 9223372036854775807 := Bd.len (U := UU) (τ := .eBind) (xs := a.Binds) (hb_a _ (by simp))
  have hb_b : BdDV (U := UU) (.agg [.lit (.int .i64 b.Rule), .sl .int b.Ids, .sl .eBind b.Binds]) := hb _ (List.mem_cons_of_mem _ (List.mem_cons_self))
  have hl_b_Ids : b.Ids.length ≤ 9223372036854775807 := Bd.len (U := UU) (τ := .int) (xs := b.Ids) (hb_b _ (by simp))
  have hl_b_Binds : b.Binds.length ≤ 9223372036854775807 := Bd.len (U := UU) (τ := .eBind) (xs := b.Binds) (hb_b _ (by simp))
  clear hp hb
  rw [vc_laws_eqMatch a b]
  obtain ⟨aRule, aIds, aBinds⟩ := a
  obtain ⟨bRule, bIds, bBinds⟩ := b
  repeat' (apply if_cond <;> intro _)
  all_goals (first | apply Lf_t | apply Lf_f) <;> simp_all
def con_laws_szMatchS : Con UU where
  α := (List DMatch) × Int
  md := [.ro, .ro]
  of := fun | [.one (.sl .lMatch a0), .one (.lit (.int .i64 a1))] => some (a0, a1) | _ => none
  ds := fun (a, left) => [.one (.sl .lMatch a), .one (.lit (.int .i64 left))]
  pre := fun (a, left) => [0 ≤ left]
  res := fun (a, left) => ⟨[.one (.lit (.int .i64 (szr left (sizeMatchS a))))], true, []⟩
  law := by intro l x h; (try simp only at h); split at h <;> cases h; rfl
def I_laws_szMatchS_5 (a : (List DMatch)) (left : Int) : Int × Int × Unit → Prop := fun (lf, i, _) => 0 ≤ lf ∧ 0 ≤ i ∧ i ≤ a.length ∧ szr lf ((a.drop i.toNat).map sizeMatch).sum = szr left (sizeMatchS a)
def μ_laws_szMatchS_5 (a : (List DMatch)) (left : Int) : Int × Int × Unit → Nat := fun (lf, i, _) => a.length - i.toNat
def ann_laws_szMatchS : con_laws_szMatchS.α → Nat → Option (Ann UU) := fun (a, left) => annL [(5, annOf [.slot 1 (1, 1024) (.lit (.int .i64)), .slot 5 (5, 1024) (.lit (.int .i64))] (fun _ => I_laws_szMatchS_5 a left) (μ_laws_szMatchS_5 a left))]
def use_laws_szMatchS : List (FuncId × Con UU) := [(101, con_laws_szMatch)]
theorem vc_laws_szMatchS (a : (List DMatch)) (left : Int) : goal EE use_laws_szMatchS Go.Proofs.Tryz.f77 con_laws_szMatchS ann_laws_szMatchS (a, left) = (let x0 : Int := IntKind.wrap IntKind.i64 (left - (↑(List.length a) : Int));
bif decide (x0 < (0 : Int)) then Lf [DV.one (Cell.lit (Value.int IntKind.i64 (-1 : Int)))] [DV.one (Cell.lit (Value.int IntKind.i64 (szr left (sizeMatchS a))))]
else
  I_laws_szMatchS_5 a left (x0, (0 : Int), PUnit.unit) ∧
    ∀ (y : Int × Int × PUnit),
      let x1 : Int := szr y.1 (sizeMatch (List.getD a (Int.toNat y.2.1) zMatch));
      I_laws_szMatchS_5 a left y → bif decide (y.2.1 < (↑(List.length a) : Int)) then (0 : Int) ≤ y.2.1 ∧ Int.toNat y.2.1 < List.length a ∧ (0 : Int) ≤ y.1 ∧ bif decide (x1 < (0 : Int)) then Lf [DV.one (Cell.lit (Value.int IntKind.i64 (-1 : Int)))] [DV.one (Cell.lit (Value.int IntKind.i64 (szr left (sizeMatchS a))))] else I_laws_szMatchS_5 a left (x1, IntKind.wrap IntKind.i64 (y.2.1 + (1 : Int)), PUnit.unit) ∧ μ_laws_szMatchS_5 a left (x1, IntKind.wrap IntKind.i64 (y.2.1 + (1 : Int)), PUnit.unit) < μ_laws_szMatchS_5 a left y else Lf [DV.one (Cell.lit (Value.int IntKind.i64 y.1))] [DV.one (Cell.lit (Value.int IntKind.i64 (szr left (sizeMatchS a))))]) := by kernel_rfl
theorem ok_laws_szMatchS : Holds EE (77, con_laws_szMatchS) := by
  refine holds_of EE_ok Go.Proofs.Tryz.func77 con_laws_szMatchS (by kernel_rfl) rfl use_laws_szMatchS (all_cons ok_laws_szMatch all_nil) ann_laws_szMatchS (fun x hp hb => ?_)
  obtain ⟨a, left⟩ := x
  have hb_a : BdDV (U := UU) (.one (.sl .lMatch a)) := hb _ (List.mem_cons_self)
  have hl_a : a.length ≤ 9223372036854775807 := Bd.len hb_a
  have hb_left : BdDV (U := UU) (.one (.lit (.int .i64 left))) := hb _ (List.mem_cons_of_mem _ (List.mem_cons_self))
  have hl_left := Bd.i64 hb_left
  have hp0 : 0 ≤ left := hp _ (List.mem_cons_self)
  clear hp hb
  rw [vc_laws_szMatchS a left]
  dsimp only
  rw [wrap_i64 (by omega) (by omega)]
  refine if_cond (fun h => Lf_i ?_) (fun h => ⟨?_, ?_⟩)
  · simp [szr, sizeMatchS] at *; omega
  · simp only [I_laws_szMatchS_5, sizeMatchS]; simp at h; have h' : 0 ≤ left - a.length := by omega
    exact ⟨h', by omega, by omega, szr_sub h'⟩
  rintro ⟨lf, i, ⟨⟩⟩ ⟨h0, h1, h2, hR⟩
  refine if_cond (fun hc => ?_) (fun hc => ?_)
  · have hc : i < a.length := by simpa using hc
    rw [drop_step a zMatch h1 hc, List.map_cons, List.sum_cons] at hR
    simp only at *
    rw [wrap_i64 (by omega) (by omega)]
    generalize List.getD a i.toNat zMatch = x at *
    refine ⟨by omega, by omega, by omega, if_cond (fun h => Lf_i ?_) (fun h => ⟨⟨?_, by omega, by omega, ?_⟩, ?_⟩)⟩
    · rw [← hR]; exact (szr_bad (of_decide_eq_true h)).symm
    · simp at h; omega
    · rw [← hR]; simp at h; exact szr_szr h
    · simp only [μ_laws_szMatchS_5]; omega
  · have hc : a.length ≤ i := by simpa using hc
    rw [drop_end a hc] at hR
    apply Lf_i; rw [← hR]; simp [szr, h0]
def con_laws_toMatchS : Con UU where
  α := (List DMatch)
  md := [.ro]
  of := fun | [.one (.sl .lMatch a0)] => some a0 | _ => none
  ds := fun a => [.one (.sl .lMatch a)]
  pre := fun a => [sizeMatchS a ≤ 4294967296]
  res := fun a => ⟨[.one (.sl .eMatch a)], true, []⟩
  law := by intro l x h; (try simp only at h); split at h <;> cases h; rfl
def I_laws_toMatchS_3 (a : (List DMatch)) : List DMatch × Int × Unit → Prop := fun (out, i, _) => 0 ≤ i ∧ i ≤ a.length ∧ out = a.take i.toNat ++ List.replicate (a.length - i.toNat) zMatch
def μ_laws_toMatchS_3 (a : (List DMatch)) : List DMatch × Int × Unit → Nat := fun (out, i, _) => a.length - i.toNat
def ann_laws_toMatchS : con_laws_toMatchS.α → Nat → Option (Ann UU) := fun a => annL [(3, annOf [.slot 3 (3, 1024) (.own .eMatch true), .slot 4 (4, 1024) (.lit (.int .i64))] (fun _ => I_laws_toMatchS_3 a) (μ_laws_toMatchS_3 a))]
def use_laws_toMatchS : List (FuncId × Con UU) := [(109, con_laws_toMatch)]
theorem vc_laws_toMatchS (a : (List DMatch)) : goal EE use_laws_toMatchS Go.Proofs.Tryz.f83 con_laws_toMatchS ann_laws_toMatchS a = (let x0 : Int := (↑(List.length a) : Int);
(0 : Int) ≤ x0 ∧
  x0 = x0 ∧
    x0 ≤ (4294967296 : Int) ∧
      I_laws_toMatchS_3 a (List.replicate (Int.toNat x0) zMatch, (0 : Int), PUnit.unit) ∧
        ∀ (y : List DMatch × Int × PUnit),
          let x1 : Nat := Int.toNat y.2.1;
          I_laws_toMatchS_3 a y → bif decide (y.2.1 < x0) then (0 : Int) ≤ y.2.1 ∧ x1 < List.length a ∧ sizeMatch (List.getD a x1 zMatch) ≤ (4294967296 : Nat) ∧ (0 : Int) ≤ y.2.1 ∧ x1 < List.length y.1 ∧ x1 < List.length y.1 ∧ I_laws_toMatchS_3 a (List.set y.1 x1 (List.getD a x1 zMatch), IntKind.wrap IntKind.i64 (y.2.1 + (1 : Int)), PUnit.unit) ∧ μ_laws_toMatchS_3 a (List.set y.1 x1 (List.getD a x1 zMatch), IntKind.wrap IntKind.i64 (y.2.1 + (1 : Int)), PUnit.unit) < μ_laws_toMatchS_3 a y else Lf [DV.one (Cell.sl Cd.eMatch y.1)] [DV.one (Cell.sl Cd.eMatch a)]) := by kernel_rfl
theorem ok_laws_toMatchS : Holds EE (83, con_laws_toMatchS) := by
  refine holds_of EE_ok Go.Proofs.Tryz.func83 con_laws_toMatchS (by kernel_rfl) rfl use_laws_toMatchS (all_cons ok_laws_toMatch all_nil) ann_laws_toMatchS (fun (a : (List DMatch)) hp hb => ?_)
  have hb_a : BdDV (U := UU) (.one (.sl .lMatch a)) := hb _ (List.mem_cons_self)
  have hl_a : a.length ≤ 9223372036854775807 := Bd.len hb_a
  have hp0 : sizeMatchS a ≤ 4294967296 := hp _ (List.mem_cons_self)
  clear hp hb
  rw [vc_laws_toMatchS a]
  dsimp only
  have hlen : a.length ≤ 4294967296 := by simp only [sizeMatchS] at hp0; omega
  refine ⟨by omega, rfl, by omega, ?_, ?_⟩
  · simp [I_laws_toMatchS_3]
  rintro ⟨out, i, ⟨⟩⟩ ⟨h1, h2, rfl⟩
  simp only at *
  refine if_cond (fun hc => ?_) (fun hc => ?_)
  · have hc : i < a.length := by simpa using hc
    rw [wrap_i64 (by omega) (by omega), set_fill a zMatch h1 hc]
    exact ⟨h1, by omega, by exact Nat.le_trans (sum_getD_le sizeMatch a zMatch h1 hc) (by simp only [sizeMatchS] at hp0; omega), h1, by simp; omega, by simp; omega, ⟨by omega, by omega, rfl⟩, by simp only [μ_laws_toMatchS_3]; omega⟩
  · have hc : a.length ≤ i := by simpa using hc
    have e : i.toNat = a.length := by omega
    rw [e]; simp; exact Lf_rfl _
def con_laws_eqMatchS : Con UU where
  α := (List DMatch) × (List DMatch)
  md := [.ro, .ro]
  of := fun | [.one (.sl .eMatch a0), .one (.sl .eMatch a1)] => some (a0, a1) | _ => none
  ds := fun (a, b) => [.one (.sl .eMatch a), .one (.sl .eMatch b)]
  pre := fun (a, b) => []
  res := fun (a, b) => ⟨[.one (.lit (.bool (decide (a = b))))], true, []⟩
  law := by intro l x h; (try simp only at h); split at h <;> cases h; rfl
def I_laws_eqMatchS_4 (a : (List DMatch)) (b : (List DMatch)) : Int × Unit → Prop := fun (i, _) => 0 ≤ i ∧ i ≤ a.length ∧ a.length = b.length ∧ (a.drop i.toNat = b.drop i.toNat ↔ a = b)
def μ_laws_eqMatchS_4 (a : (List DMatch)) (b : (List DMatch)) : Int × Unit → Nat := fun (i, _) => a.length - i.toNat
def ann_laws_eqMatchS : con_laws_eqMatchS.α → Nat → Option (Ann UU) := fun (a, b) => annL [(4, annOf [.slot 5 (5, 1024) (.lit (.int .i64))] (fun _ => I_laws_eqMatchS_4 a b) (μ_laws_eqMatchS_4 a b))]
def use_laws_eqMatchS : List (FuncId × Con UU) := [(117, con_laws_eqMatch)]
theorem vc_laws_eqMatchS (a : (List DMatch)) (b : (List DMatch)) : goal EE use_laws_eqMatchS Go.Proofs.Tryz.f89 con_laws_eqMatchS ann_laws_eqMatchS (a, b) = (bif (↑(List.length a) : Int) != (↑(List.length b) : Int) then Lf [DV.one (Cell.lit (Value.bool false))] [DV.one (Cell.lit (Value.bool (decide (a = b))))] else I_laws_eqMatchS_4 a b ((0 : Int), PUnit.unit) ∧ ∀ (y : Int × PUnit), I_laws_eqMatchS_4 a b y → bif decide (y.1 < (↑(List.length a) : Int)) then (0 : Int) ≤ y.1 ∧ Int.toNat y.1 < List.length a ∧ (0 : Int) ≤ y.1 ∧ Int.toNat y.1 < List.length b ∧ bif !decide (List.getD a (Int.toNat y.1) zMatch = List.getD b (Int.toNat y.1) zMatch) then Lf [DV.one (Cell.lit (Value.bool false))] [DV.one (Cell.lit (Value.bool (decide (a = b))))] else I_laws_eqMatchS_4 a b (IntKind.wrap IntKind.i64 (y.1 + (1 : Int)), PUnit.unit) ∧ μ_laws_eqMatchS_4 a b (IntKind.wrap IntKind.i64 (y.1 + (1 : Int)), PUnit.unit) < μ_laws_eqMatchS_4 a b y else Lf [DV.one (Cell.lit (Value.bool true))] [DV.one (Cell.lit (Value.bool (decide (a = b))))]) := by kernel_rfl
theorem ok_laws_eqMatchS : Holds EE (89, con_laws_eqMatchS) := by
  refine holds_of EE_ok Go.Proofs.Tryz.func89 con_laws_eqMatchS (by kernel_rfl) rfl use_laws_eqMatchS (all_cons ok_laws_eqMatch all_nil) ann_laws_eqMatchS (fun x hp hb => ?_)
  obtain ⟨a, b⟩ := x
  have hb_a : BdDV (U := UU) (.one (.sl .eMatch a)) := hb _ (List.mem_cons_self)
  have hl_a : a.length ≤ 9223372036854775807 := Bd.len hb_a
  have hb_b : BdDV (U := UU) (.one (.sl .eMatch b)) := hb _ (List.mem_cons_of_mem _ (List.mem_cons_self))
  have hl_b : b.length ≤ 9223372036854775807 := Bd.len hb_b
  clear hp hb
  rw [vc_laws_eqMatchS a b]
  refine if_cond (fun h => Lf_f ?_) (fun h => ⟨?_, ?_⟩)
  · rintro rfl; simp at h
  · simp [I_laws_eqMatchS_4] at *; omega
  rintro ⟨i, ⟨⟩⟩ ⟨h1, h2, h3, hR⟩
  simp only at *
  refine if_cond (fun hc => ?_) (fun hc => ?_)
  · have hc : i < a.length := by simpa using hc
    rw [drop_step a zMatch h1 hc, drop_step b zMatch h1 (by omega)] at hR
    rw [wrap_i64 (by omega) (by omega)]
    refine ⟨by omega, by omega, by omega, by omega, if_cond (fun h => Lf_f ?_) (fun h => ⟨⟨by omega, by omega, h3, ?_⟩, ?_⟩)⟩
    · rw [← hR]; simp at h; simp [h]
    · rw [← hR]; simp at h; simp [h]
    · simp only [μ_laws_eqMatchS_4]; omega
  · have hc : a.length ≤ i := by simpa using hc
    rw [drop_end a hc, drop_end b (by omega)] at hR
    exact Lf_t (hR.1 rfl)
def con_laws_szInst : Con UU where
  α := DInst × Int
  md := [.ro, .ro]
  of := fun | [.agg [.sl .lItem a0, .lit (.int .i64 a1), .sl .lMatch a2, .sl .lTask a3, .sl .lTimer a4, .sl .lUndo a5, .lit (.int .i64 a6), .lit (.int .i64 a7)], .one (.lit (.int .i64 a8))] => some (⟨⟨a0, a1⟩, a2, a3, a4, a5, a6, a7⟩, a8) | _ => none
  ds := fun (a, left) => [.agg [.sl .lItem a.S.Items, .lit (.int .i64 a.S.Next), .sl .lMatch a.Fired, .sl .lTask a.Tasks, .sl .lTimer a.Timers, .sl .lUndo a.Undos, .lit (.int .i64 a.State), .lit (.int .i64 a.Now)], .one (.lit (.int .i64 left))]
  pre := fun (a, left) => [0 ≤ left]
  res := fun (a, left) => ⟨[.one (.lit (.int .i64 (szr left (sizeInst a))))], true, []⟩
  law := by intro l x h; (try simp only at h); split at h <;> cases h; rfl
def ann_laws_szInst : con_laws_szInst.α → Nat → Option (Ann UU) := fun (a, left) => annL []
def use_laws_szInst : List (FuncId × Con UU) := [(76, con_laws_szStore), (77, con_laws_szMatchS), (78, con_laws_szTaskS), (79, con_laws_szTimerS), (80, con_laws_szUndoS)]
theorem vc_laws_szInst (a : DInst) (left : Int) : goal EE use_laws_szInst Go.Proofs.Tryz.f56 con_laws_szInst ann_laws_szInst (a, left) = (let x0 : Int := szr (szr (szr (szr left (sizeStore a.S)) (sizeMatchS a.Fired)) (sizeTaskS a.Tasks)) (sizeTimerS a.Timers);
let x1 : Int := szr (szr left (sizeStore a.S)) (sizeMatchS a.Fired);
(0 : Int) ≤ left ∧ bif decide (szr left (sizeStore a.S) < (0 : Int)) then Lf [DV.one (Cell.lit (Value.int IntKind.i64 (-1 : Int)))] [DV.one (Cell.lit (Value.int IntKind.i64 (szr left (sizeInst a))))] else (0 : Int) ≤ szr left (sizeStore a.S) ∧ bif decide (x1 < (0 : Int)) then Lf [DV.one (Cell.lit (Value.int IntKind.i64 (-1 : Int)))] [DV.one (Cell.lit (Value.int IntKind.i64 (szr left (sizeInst a))))] else (0 : Int) ≤ x1 ∧ bif decide (szr x1 (sizeTaskS a.Tasks) < (0 : Int)) then Lf [DV.one (Cell.lit (Value.int IntKind.i64 (-1 : Int)))] [DV.one (Cell.lit (Value.int IntKind.i64 (szr left (sizeInst a))))] else (0 : Int) ≤ szr x1 (sizeTaskS a.Tasks) ∧ bif decide (x0 < (0 : Int)) then Lf [DV.one (Cell.lit (Value.int IntKind.i64 (-1 : Int)))] [DV.one (Cell.lit (Value.int IntKind.i64 (szr left (sizeInst a))))] else (0 : Int) ≤ x0 ∧ bif decide (szr x0 (sizeUndoS a.Undos) < (0 : Int)) then Lf [DV.one (Cell.lit (Value.int IntKind.i64 (-1 : Int)))] [DV.one (Cell.lit (Value.int IntKind.i64 (szr left (sizeInst a))))] else Lf [DV.one (Cell.lit (Value.int IntKind.i64 (szr x0 (sizeUndoS a.Undos))))] [DV.one (Cell.lit (Value.int IntKind.i64 (szr left (sizeInst a))))]) := by kernel_rfl
theorem ok_laws_szInst : Holds EE (56, con_laws_szInst) := by
  refine holds_of EE_ok Go.Proofs.Tryz.func56 con_laws_szInst (by kernel_rfl) rfl use_laws_szInst (all_cons ok_laws_szStore (all_cons ok_laws_szMatchS (all_cons ok_laws_szTaskS (all_cons ok_laws_szTimerS (all_cons ok_laws_szUndoS all_nil))))) ann_laws_szInst (fun x hp hb => ?_)
  obtain ⟨a, left⟩ := x
  have hb_a : BdDV (U := UU) (.agg [.sl .lItem a.S.Items, .lit (.int .i64 a.S.Next), .sl .lMatch a.Fired, .sl .lTask a.Tasks, .sl .lTimer a.Timers, .sl .lUndo a.Undos, .lit (.int .i64 a.State), .lit (.int .i64 a.Now)]) := hb _ (List.mem_cons_self)
  have hl_a_S_Items : a.S.Items.length ≤ 9223372036854775807 := Bd.len (U := UU) (τ := .lItem) (xs := a.S.Items) (hb_a _ (by simp))
  have hl_a_Fired : a.Fired.length ≤ 9223372036854775807 := Bd.len (U := UU) (τ := .lMatch) (xs := a.Fired) (hb_a _ (by simp))
  have hl_a_Tasks : a.Tasks.length ≤ 9223372036854775807 := Bd.len (U := UU) (τ := .lTask) (xs := a.Tasks) (hb_a _ (by simp))
  have hl_a_Timers : a.Timers.length ≤ 9223372036854775807 := Bd.len (U := UU) (τ := .lTimer) (xs := a.Timers) (hb_a _ (by simp))
  have hl_a_Undos : a.Undos.length ≤ 9223372036854775807 := Bd.len (U := UU) (τ := .lUndo) (xs := a.Undos) (hb_a _ (by simp))
  have hb_left : BdDV (U := UU) (.one (.lit (.int .i64 left))) := hb _ (List.mem_cons_of_mem _ (List.mem_cons_self))
  have hl_left := Bd.i64 hb_left
  have hp0 : 0 ≤ left := hp _ (List.mem_cons_self)
  clear hp hb
  rw [vc_laws_szInst a left]
  dsimp only
  refine ⟨by omega, if_cond (fun h => Lf_i (szr_bad' ?_)) (fun h => ?_)⟩
  · have h := szr_neg h; simp only [sizeInst]; omega
  obtain ⟨e0, h0⟩ := szr_pos h
  rw [e0]
  refine ⟨by omega, if_cond (fun h => Lf_i (szr_bad' ?_)) (fun h => ?_)⟩
  · have h := szr_neg h; simp only [sizeInst]; omega
  obtain ⟨e1, h1⟩ := szr_pos h
  rw [e1]
  refine ⟨by omega, if_cond (fun h => Lf_i (szr_bad' ?_)) (fun h => ?_)⟩
  · have h := szr_neg h; simp only [sizeInst]; omega
  obtain ⟨e2, h2⟩ := szr_pos h
  rw [e2]
  refine ⟨by omega, if_cond (fun h => Lf_i (szr_bad' ?_)) (fun h => ?_)⟩
  · have h := szr_neg h; simp only [sizeInst]; omega
  obtain ⟨e3, h3⟩ := szr_pos h
  rw [e3]
  refine ⟨by omega, if_cond (fun h => Lf_i (szr_bad' ?_)) (fun h => ?_)⟩
  · have h := szr_neg h; simp only [sizeInst]; omega
  obtain ⟨e4, h4⟩ := szr_pos h
  rw [e4]
  exact Lf_i (by rw [← szr_ok' (by simp only [sizeInst]; omega)]; simp only [sizeInst]; try omega)
def con_laws_toInst : Con UU where
  α := DInst
  md := [.ro]
  of := fun | [.agg [.sl .lItem a0, .lit (.int .i64 a1), .sl .lMatch a2, .sl .lTask a3, .sl .lTimer a4, .sl .lUndo a5, .lit (.int .i64 a6), .lit (.int .i64 a7)]] => some ⟨⟨a0, a1⟩, a2, a3, a4, a5, a6, a7⟩ | _ => none
  ds := fun a => [.agg [.sl .lItem a.S.Items, .lit (.int .i64 a.S.Next), .sl .lMatch a.Fired, .sl .lTask a.Tasks, .sl .lTimer a.Timers, .sl .lUndo a.Undos, .lit (.int .i64 a.State), .lit (.int .i64 a.Now)]]
  pre := fun a => [sizeInst a ≤ 4294967296]
  res := fun a => ⟨[.agg [.sl .eItem a.S.Items, .lit (.int .i64 a.S.Next), .sl .eMatch a.Fired, .sl .eTask a.Tasks, .sl .eTimer a.Timers, .sl .eUndo a.Undos, .lit (.int .i64 a.State), .lit (.int .i64 a.Now)]], true, []⟩
  law := by intro l x h; (try simp only at h); split at h <;> cases h; rfl
def ann_laws_toInst : con_laws_toInst.α → Nat → Option (Ann UU) := fun a => annL []
def use_laws_toInst : List (FuncId × Con UU) := [(82, con_laws_toStore), (83, con_laws_toMatchS), (84, con_laws_toTaskS), (85, con_laws_toTimerS), (86, con_laws_toUndoS)]
theorem vc_laws_toInst (a : DInst) : goal EE use_laws_toInst Go.Proofs.Tryz.f58 con_laws_toInst ann_laws_toInst a = (sizeStore a.S ≤ (4294967296 : Nat) ∧ sizeMatchS a.Fired ≤ (4294967296 : Nat) ∧ sizeTaskS a.Tasks ≤ (4294967296 : Nat) ∧ sizeTimerS a.Timers ≤ (4294967296 : Nat) ∧ sizeUndoS a.Undos ≤ (4294967296 : Nat) ∧ Lf [DV.agg [Cell.sl Cd.eItem a.S.Items, Cell.lit (Value.int IntKind.i64 a.S.Next), Cell.sl Cd.eMatch a.Fired, Cell.sl Cd.eTask a.Tasks, Cell.sl Cd.eTimer a.Timers, Cell.sl Cd.eUndo a.Undos, Cell.lit (Value.int IntKind.i64 a.State), Cell.lit (Value.int IntKind.i64 a.Now)]] [DV.agg [Cell.sl Cd.eItem a.S.Items, Cell.lit (Value.int IntKind.i64 a.S.Next), Cell.sl Cd.eMatch a.Fired, Cell.sl Cd.eTask a.Tasks, Cell.sl Cd.eTimer a.Timers, Cell.sl Cd.eUndo a.Undos, Cell.lit (Value.int IntKind.i64 a.State), Cell.lit (Value.int IntKind.i64 a.Now)]]) := by kernel_rfl
theorem ok_laws_toInst : Holds EE (58, con_laws_toInst) := by
  refine holds_of EE_ok Go.Proofs.Tryz.func58 con_laws_toInst (by kernel_rfl) rfl use_laws_toInst (all_cons ok_laws_toStore (all_cons ok_laws_toMatchS (all_cons ok_laws_toTaskS (all_cons ok_laws_toTimerS (all_cons ok_laws_toUndoS all_nil))))) ann_laws_toInst (fun (a : DInst) hp hb => ?_)
  have hb_a : BdDV (U := UU) (.agg [.sl .lItem a.S.Items, .lit (.int .i64 a.S.Next), .sl .lMatch a.Fired, .sl .lTask a.Tasks, .sl .lTimer a.Timers, .sl .lUndo a.Undos, .lit (.int .i64 a.State), .lit (.int .i64 a.Now)]) := hb _ (List.mem_cons_self)
  have hl_a_S_Items : a.S.Items.length ≤ 9223372036854775807 := Bd.len (U := UU) (τ := .lItem) (xs := a.S.Items) (hb_a _ (by simp))
  have hl_a_Fired : a.Fired.length ≤ 9223372036854775807 := Bd.len (U := UU) (τ := .lMatch) (xs := a.Fired) (hb_a _ (by simp))
  have hl_a_Tasks : a.Tasks.length ≤ 9223372036854775807 := Bd.len (U := UU) (τ := .lTask) (xs := a.Tasks) (hb_a _ (by simp))
  have hl_a_Timers : a.Timers.length ≤ 9223372036854775807 := Bd.len (U := UU) (τ := .lTimer) (xs := a.Timers) (hb_a _ (by simp))
  have hl_a_Undos : a.Undos.length ≤ 9223372036854775807 := Bd.len (U := UU) (τ := .lUndo) (xs := a.Undos) (hb_a _ (by simp))
  have hp0 : sizeInst a ≤ 4294967296 := hp _ (List.mem_cons_self)
  clear hp hb
  rw [vc_laws_toInst a]
  simp only [sizeInst] at hp0
  repeat' (first | exact Lf_rfl _ | (refine And.intro (by omega) ?_))
def con_laws_eqInst : Con UU where
  α := DInst × DInst
  md := [.ro, .ro]
  of := fun | [.agg [.sl .eItem a0, .lit (.int .i64 a1), .sl .eMatch a2, .sl .eTask a3, .sl .eTimer a4, .sl .eUndo a5, .lit (.int .i64 a6), .lit (.int .i64 a7)], .agg [.sl .eItem a8, .lit (.int .i64 a9), .sl .eMatch a10, .sl .eTask a11, .sl .eTimer a12, .sl .eUndo a13, .lit (.int .i64 a14), .lit (.int .i64 a15)]] => some (⟨⟨a0, a1⟩, a2, a3, a4, a5, a6, a7⟩, ⟨⟨a8, a9⟩, a10, a11, a12, a13, a14, a15⟩) | _ => none
  ds := fun (a, b) => [.agg [.sl .eItem a.S.Items, .lit (.int .i64 a.S.Next), .sl .eMatch a.Fired, .sl .eTask a.Tasks, .sl .eTimer a.Timers, .sl .eUndo a.Undos, .lit (.int .i64 a.State), .lit (.int .i64 a.Now)], .agg [.sl .eItem b.S.Items, .lit (.int .i64 b.S.Next), .sl .eMatch b.Fired, .sl .eTask b.Tasks, .sl .eTimer b.Timers, .sl .eUndo b.Undos, .lit (.int .i64 b.State), .lit (.int .i64 b.Now)]]
  pre := fun (a, b) => []
  res := fun (a, b) => ⟨[.one (.lit (.bool (decide (a = b))))], true, []⟩
  law := by intro l x h; (try simp only at h); split at h <;> cases h; rfl
def ann_laws_eqInst : con_laws_eqInst.α → Nat → Option (Ann UU) := fun (a, b) => annL []
def use_laws_eqInst : List (FuncId × Con UU) := [(88, con_laws_eqStore), (89, con_laws_eqMatchS), (90, con_laws_eqTaskS), (91, con_laws_eqTimerS), (92, con_laws_eqUndoS)]
theorem vc_laws_eqInst (a : DInst) (b : DInst) : goal EE use_laws_eqInst Go.Proofs.Tryz.f60 con_laws_eqInst ann_laws_eqInst (a, b) = (bif !decide (a.S = b.S) then Lf [DV.one (Cell.lit (Value.bool false))] [DV.one (Cell.lit (Value.bool (decide (a = b))))] else bif !decide (a.Fired = b.Fired) then Lf [DV.one (Cell.lit (Value.bool false))] [DV.one (Cell.lit (Value.bool (decide (a = b))))] else bif !decide (a.Tasks = b.Tasks) then Lf [DV.one (Cell.lit (Value.bool false))] [DV.one (Cell.lit (Value.bool (decide (a = b))))] else bif !decide (a.Timers = b.Timers) then Lf [DV.one (Cell.lit (Value.bool false))] [DV.one (Cell.lit (Value.bool (decide (a = b))))] else bif !decide (a.Undos = b.Undos) then Lf [DV.one (Cell.lit (Value.bool false))] [DV.one (Cell.lit (Value.bool (decide (a = b))))] else bif a.State != b.State then Lf [DV.one (Cell.lit (Value.bool false))] [DV.one (Cell.lit (Value.bool (decide (a = b))))] else bif a.Now != b.Now then Lf [DV.one (Cell.lit (Value.bool false))] [DV.one (Cell.lit (Value.bool (decide (a = b))))] else Lf [DV.one (Cell.lit (Value.bool true))] [DV.one (Cell.lit (Value.bool (decide (a = b))))]) := by kernel_rfl
theorem ok_laws_eqInst : Holds EE (60, con_laws_eqInst) := by
  refine holds_of EE_ok Go.Proofs.Tryz.func60 con_laws_eqInst (by kernel_rfl) rfl use_laws_eqInst (all_cons ok_laws_eqStore (all_cons ok_laws_eqMatchS (all_cons ok_laws_eqTaskS (all_cons ok_laws_eqTimerS (all_cons ok_laws_eqUndoS all_nil))))) ann_laws_eqInst (fun x hp hb => ?_)
  obtain ⟨a, b⟩ := x
  have hb_a : BdDV (U := UU) (.agg [.sl .eItem a.S.Items, .lit (.int .i64 a.S.Next), .sl .eMatch a.Fired, .sl .eTask a.Tasks, .sl .eTimer a.Timers, .sl .eUndo a.Undos, .lit (.int .i64 a.State), .lit (.int .i64 a.Now)]) := hb _ (List.mem_cons_self)
  have hl_a_S_Items : a.S.Items.length ≤ 9223372036854775807 := Bd.len (U := UU) (τ := .eItem) (xs := a.S.Items) (hb_a _ (by simp))
  have hl_a_Fired : a.Fired.length ≤ 9223372036854775807 := Bd.len (U := UU) (τ := .eMatch) (xs := a.Fired) (hb_a _ (by simp))
  have hl_a_Tasks : a.Tasks.length ≤ 9223372036854775807 := Bd.len (U := UU) (τ := .eTask) (xs := a.Tasks) (hb_a _ (by simp))
  have hl_a_Timers : a.Timers.length ≤ 9223372036854775807 := Bd.len (U := UU) (τ := .eTimer) (xs := a.Timers) (hb_a _ (by simp))
  have hl_a_Undos : a.Undos.length ≤ 9223372036854775807 := Bd.len (U := UU) (τ := .eUndo) (xs := a.Undos) (hb_a _ (by simp))
  have hb_b : BdDV (U := UU) (.agg [.sl .eItem b.S.Items, .lit (.int .i64 b.S.Next), .sl .eMatch b.Fired, .sl .eTask b.Tasks, .sl .eTimer b.Timers, .sl .eUndo b.Undos, .lit (.int .i64 b.State), .lit (.int .i64 b.Now)]) := hb _ (List.mem_cons_of_mem _ (List.mem_cons_self))
  have hl_b_S_Items : b.S.Items.length ≤ 9223372036854775807 := Bd.len (U := UU) (τ := .eItem) (xs := b.S.Items) (hb_b _ (by simp))
  have hl_b_Fired : b.Fired.length ≤ 9223372036854775807 := Bd.len (U := UU) (τ := .eMatch) (xs := b.Fired) (hb_b _ (by simp))
  have hl_b_Tasks : b.Tasks.length ≤ 9223372036854775807 := Bd.len (U := UU) (τ := .eTask) (xs := b.Tasks) (hb_b _ (by simp))
  have hl_b_Timers : b.Timers.length ≤ 9223372036854775807 := Bd.len (U := UU) (τ := .eTimer) (xs := b.Timers) (hb_b _ (by simp))
  have hl_b_Undos : b.Undos.length ≤ 9223372036854775807 := Bd.len (U := UU) (τ := .eUndo) (xs := b.Undos) (hb_b _ (by simp))
  clear hp hb
  rw [vc_laws_eqInst a b]
  obtain ⟨aS, aFired, aTasks, aTimers, aUndos, aState, aNow⟩ := a
  obtain ⟨bS, bFired, bTasks, bTimers, bUndos, bState, bNow⟩ := b
  repeat' (apply if_cond <;> intro _)
  all_goals (first | apply Lf_t | apply Lf_f) <;> simp_all
def con_laws_szWork : Con UU where
  α := DWork × Int
  md := [.ro, .ro]
  of := fun | [.agg [.lit (.string a0), .lit (.string a1), .sl .lItem a2, .lit (.int .i64 a3), .sl .lMatch a4, .sl .lTask a5, .sl .lTimer a6, .sl .lUndo a7, .lit (.int .i64 a8), .lit (.int .i64 a9)], .one (.lit (.int .i64 a10))] => some (⟨a0, a1, ⟨⟨a2, a3⟩, a4, a5, a6, a7, a8, a9⟩⟩, a10) | _ => none
  ds := fun (a, left) => [.agg [.lit (.string a.Name), .lit (.string a.Def), .sl .lItem a.X.S.Items, .lit (.int .i64 a.X.S.Next), .sl .lMatch a.X.Fired, .sl .lTask a.X.Tasks, .sl .lTimer a.X.Timers, .sl .lUndo a.X.Undos, .lit (.int .i64 a.X.State), .lit (.int .i64 a.X.Now)], .one (.lit (.int .i64 left))]
  pre := fun (a, left) => [0 ≤ left]
  res := fun (a, left) => ⟨[.one (.lit (.int .i64 (szr left (sizeWork a))))], true, []⟩
  law := by intro l x h; (try simp only at h); split at h <;> cases h; rfl
def ann_laws_szWork : con_laws_szWork.α → Nat → Option (Ann UU) := fun (a, left) => annL []
def use_laws_szWork : List (FuncId × Con UU) := [(56, con_laws_szInst)]
theorem vc_laws_szWork (a : DWork) (left : Int) : goal EE use_laws_szWork Go.Proofs.Tryz.f33 con_laws_szWork ann_laws_szWork (a, left) = (let x0 : Int := IntKind.wrap IntKind.i64 (IntKind.wrap IntKind.i64 (left - (↑(ByteArray.size a.Name) : Int)) - (↑(ByteArray.size a.Def) : Int));
let x1 : Int := IntKind.wrap IntKind.i64 (left - (↑(ByteArray.size a.Name) : Int));
bif decide (x1 < (0 : Int)) then Lf [DV.one (Cell.lit (Value.int IntKind.i64 (-1 : Int)))] [DV.one (Cell.lit (Value.int IntKind.i64 (szr left (sizeWork a))))] else bif decide (x0 < (0 : Int)) then Lf [DV.one (Cell.lit (Value.int IntKind.i64 (-1 : Int)))] [DV.one (Cell.lit (Value.int IntKind.i64 (szr left (sizeWork a))))] else (0 : Int) ≤ x0 ∧ bif decide (szr x0 (sizeInst a.X) < (0 : Int)) then Lf [DV.one (Cell.lit (Value.int IntKind.i64 (-1 : Int)))] [DV.one (Cell.lit (Value.int IntKind.i64 (szr left (sizeWork a))))] else Lf [DV.one (Cell.lit (Value.int IntKind.i64 (szr x0 (sizeInst a.X))))] [DV.one (Cell.lit (Value.int IntKind.i64 (szr left (sizeWork a))))]) := by kernel_rfl
theorem ok_laws_szWork : Holds EE (33, con_laws_szWork) := by
  refine holds_of EE_ok Go.Proofs.Tryz.func33 con_laws_szWork (by kernel_rfl) rfl use_laws_szWork (all_cons ok_laws_szInst all_nil) ann_laws_szWork (fun x hp hb => ?_)
  obtain ⟨a, left⟩ := x
  have hb_a : BdDV (U := UU) (.agg [.lit (.string a.Name), .lit (.string a.Def), .sl .lItem a.X.S.Items, .lit (.int .i64 a.X.S.Next), .sl .lMatch a.X.Fired, .sl .lTask a.X.Tasks, .sl .lTimer a.X.Timers, .sl .lUndo a.X.Undos, .lit (.int .i64 a.X.State), .lit (.int .i64 a.X.Now)]) := hb _ (List.mem_cons_self)
  have hl_a_Name : a.Name.size ≤ 9223372036854775807 := Bd.str (hb_a _ (by simp))
  have hl_a_Def : a.Def.size ≤ 9223372036854775807 := Bd.str (hb_a _ (by simp))
  have hl_a_X_S_Items : a.X.S.Items.length ≤ 9223372036854775807 := Bd.len (U := UU) (τ := .lItem) (xs := a.X.S.Items) (hb_a _ (by simp))
  have hl_a_X_Fired : a.X.Fired.length ≤ 9223372036854775807 := Bd.len (U := UU) (τ := .lMatch) (xs := a.X.Fired) (hb_a _ (by simp))
  have hl_a_X_Tasks : a.X.Tasks.length ≤ 9223372036854775807 := Bd.len (U := UU) (τ := .lTask) (xs := a.X.Tasks) (hb_a _ (by simp))
  have hl_a_X_Timers : a.X.Timers.length ≤ 9223372036854775807 := Bd.len (U := UU) (τ := .lTimer) (xs := a.X.Timers) (hb_a _ (by simp))
  have hl_a_X_Undos : a.X.Undos.length ≤ 9223372036854775807 := Bd.len (U := UU) (τ := .lUndo) (xs := a.X.Undos) (hb_a _ (by simp))
  have hb_left : BdDV (U := UU) (.one (.lit (.int .i64 left))) := hb _ (List.mem_cons_of_mem _ (List.mem_cons_self))
  have hl_left := Bd.i64 hb_left
  have hp0 : 0 ≤ left := hp _ (List.mem_cons_self)
  clear hp hb
  rw [vc_laws_szWork a left]
  dsimp only
  rw [wrap_i64 (by omega) (by omega)]
  refine if_cond (fun h => Lf_i (szr_bad' ?_)) (fun h => ?_)
  · have h := of_decide_eq_true h; simp only [sizeWork]; omega
  have h0 := of_decide_eq_false h
  rw [wrap_i64 (by omega) (by omega)]
  refine if_cond (fun h => Lf_i (szr_bad' ?_)) (fun h => ?_)
  · have h := of_decide_eq_true h; simp only [sizeWork]; omega
  have h1 := of_decide_eq_false h
  refine ⟨by omega, if_cond (fun h => Lf_i (szr_bad' ?_)) (fun h => ?_)⟩
  · have h := szr_neg h; simp only [sizeWork]; omega
  obtain ⟨e2, h2⟩ := szr_pos h
  rw [e2]
  exact Lf_i (by rw [← szr_ok' (by simp only [sizeWork]; omega)]; simp only [sizeWork]; try omega)
def con_laws_toWork : Con UU where
  α := DWork
  md := [.ro]
  of := fun | [.agg [.lit (.string a0), .lit (.string a1), .sl .lItem a2, .lit (.int .i64 a3), .sl .lMatch a4, .sl .lTask a5, .sl .lTimer a6, .sl .lUndo a7, .lit (.int .i64 a8), .lit (.int .i64 a9)]] => some ⟨a0, a1, ⟨⟨a2, a3⟩, a4, a5, a6, a7, a8, a9⟩⟩ | _ => none
  ds := fun a => [.agg [.lit (.string a.Name), .lit (.string a.Def), .sl .lItem a.X.S.Items, .lit (.int .i64 a.X.S.Next), .sl .lMatch a.X.Fired, .sl .lTask a.X.Tasks, .sl .lTimer a.X.Timers, .sl .lUndo a.X.Undos, .lit (.int .i64 a.X.State), .lit (.int .i64 a.X.Now)]]
  pre := fun a => [sizeWork a ≤ 4294967296]
  res := fun a => ⟨[.agg [.lit (.string a.Name), .lit (.string a.Def), .sl .eItem a.X.S.Items, .lit (.int .i64 a.X.S.Next), .sl .eMatch a.X.Fired, .sl .eTask a.X.Tasks, .sl .eTimer a.X.Timers, .sl .eUndo a.X.Undos, .lit (.int .i64 a.X.State), .lit (.int .i64 a.X.Now)]], true, []⟩
  law := by intro l x h; (try simp only at h); split at h <;> cases h; rfl
def ann_laws_toWork : con_laws_toWork.α → Nat → Option (Ann UU) := fun a => annL []
def use_laws_toWork : List (FuncId × Con UU) := [(58, con_laws_toInst)]
theorem vc_laws_toWork (a : DWork) : goal EE use_laws_toWork Go.Proofs.Tryz.f35 con_laws_toWork ann_laws_toWork a = (sizeInst a.X ≤ (4294967296 : Nat) ∧ Lf [DV.agg [Cell.lit (Value.string a.Name), Cell.lit (Value.string a.Def), Cell.sl Cd.eItem a.X.S.Items, Cell.lit (Value.int IntKind.i64 a.X.S.Next), Cell.sl Cd.eMatch a.X.Fired, Cell.sl Cd.eTask a.X.Tasks, Cell.sl Cd.eTimer a.X.Timers, Cell.sl Cd.eUndo a.X.Undos, Cell.lit (Value.int IntKind.i64 a.X.State), Cell.lit (Value.int IntKind.i64 a.X.Now)]] [DV.agg [Cell.lit (Value.string a.Name), Cell.lit (Value.string a.Def), Cell.sl Cd.eItem a.X.S.Items, Cell.lit (Value.int IntKind.i64 a.X.S.Next), Cell.sl Cd.eMatch a.X.Fired, Cell.sl Cd.eTask a.X.Tasks, Cell.sl Cd.eTimer a.X.Timers, Cell.sl Cd.eUndo a.X.Undos, Cell.lit (Value.int IntKind.i64 a.X.State), Cell.lit (Value.int IntKind.i64 a.X.Now)]]) := by kernel_rfl
theorem ok_laws_toWork : Holds EE (35, con_laws_toWork) := by
  refine holds_of EE_ok Go.Proofs.Tryz.func35 con_laws_toWork (by kernel_rfl) rfl use_laws_toWork (all_cons ok_laws_toInst all_nil) ann_laws_toWork (fun (a : DWork) hp hb => ?_)
  have hb_a : BdDV (U := UU) (.agg [.lit (.string a.Name), .lit (.string a.Def), .sl .lItem a.X.S.Items, .lit (.int .i64 a.X.S.Next), .sl .lMatch a.X.Fired, .sl .lTask a.X.Tasks, .sl .lTimer a.X.Timers, .sl .lUndo a.X.Undos, .lit (.int .i64 a.X.State), .lit (.int .i64 a.X.Now)]) := hb _ (List.mem_cons_self)
  have hl_a_Name : a.Name.size ≤ 9223372036854775807 := Bd.str (hb_a _ (by simp))
  have hl_a_Def : a.Def.size ≤ 9223372036854775807 := Bd.str (hb_a _ (by simp))
  have hl_a_X_S_Items : a.X.S.Items.length ≤ 9223372036854775807 := Bd.len (U := UU) (τ := .lItem) (xs := a.X.S.Items) (hb_a _ (by simp))
  have hl_a_X_Fired : a.X.Fired.length ≤ 9223372036854775807 := Bd.len (U := UU) (τ := .lMatch) (xs := a.X.Fired) (hb_a _ (by simp))
  have hl_a_X_Tasks : a.X.Tasks.length ≤ 9223372036854775807 := Bd.len (U := UU) (τ := .lTask) (xs := a.X.Tasks) (hb_a _ (by simp))
  have hl_a_X_Timers : a.X.Timers.length ≤ 9223372036854775807 := Bd.len (U := UU) (τ := .lTimer) (xs := a.X.Timers) (hb_a _ (by simp))
  have hl_a_X_Undos : a.X.Undos.length ≤ 9223372036854775807 := Bd.len (U := UU) (τ := .lUndo) (xs := a.X.Undos) (hb_a _ (by simp))
  have hp0 : sizeWork a ≤ 4294967296 := hp _ (List.mem_cons_self)
  clear hp hb
  rw [vc_laws_toWork a]
  simp only [sizeWork] at hp0
  repeat' (first | exact Lf_rfl _ | (refine And.intro (by omega) ?_))
def con_laws_eqWork : Con UU where
  α := DWork × DWork
  md := [.ro, .ro]
  of := fun | [.agg [.lit (.string a0), .lit (.string a1), .sl .eItem a2, .lit (.int .i64 a3), .sl .eMatch a4, .sl .eTask a5, .sl .eTimer a6, .sl .eUndo a7, .lit (.int .i64 a8), .lit (.int .i64 a9)], .agg [.lit (.string a10), .lit (.string a11), .sl .eItem a12, .lit (.int .i64 a13), .sl .eMatch a14, .sl .eTask a15, .sl .eTimer a16, .sl .eUndo a17, .lit (.int .i64 a18), .lit (.int .i64 a19)]] => some (⟨a0, a1, ⟨⟨a2, a3⟩, a4, a5, a6, a7, a8, a9⟩⟩, ⟨a10, a11, ⟨⟨a12, a13⟩, a14, a15, a16, a17, a18, a19⟩⟩) | _ => none
  ds := fun (a, b) => [.agg [.lit (.string a.Name), .lit (.string a.Def), .sl .eItem a.X.S.Items, .lit (.int .i64 a.X.S.Next), .sl .eMatch a.X.Fired, .sl .eTask a.X.Tasks, .sl .eTimer a.X.Timers, .sl .eUndo a.X.Undos, .lit (.int .i64 a.X.State), .lit (.int .i64 a.X.Now)], .agg [.lit (.string b.Name), .lit (.string b.Def), .sl .eItem b.X.S.Items, .lit (.int .i64 b.X.S.Next), .sl .eMatch b.X.Fired, .sl .eTask b.X.Tasks, .sl .eTimer b.X.Timers, .sl .eUndo b.X.Undos, .lit (.int .i64 b.X.State), .lit (.int .i64 b.X.Now)]]
  pre := fun (a, b) => []
  res := fun (a, b) => ⟨[.one (.lit (.bool (decide (a = b))))], true, []⟩
  law := by intro l x h; (try simp only at h); split at h <;> cases h; rfl
def ann_laws_eqWork : con_laws_eqWork.α → Nat → Option (Ann UU) := fun (a, b) => annL []
def use_laws_eqWork : List (FuncId × Con UU) := [(60, con_laws_eqInst)]
theorem vc_laws_eqWork (a : DWork) (b : DWork) : goal EE use_laws_eqWork Go.Proofs.Tryz.f37 con_laws_eqWork ann_laws_eqWork (a, b) = (bif !ByteArray.toList a.Name == ByteArray.toList b.Name then Lf [DV.one (Cell.lit (Value.bool false))] [DV.one (Cell.lit (Value.bool (decide (a = b))))] else bif !ByteArray.toList a.Def == ByteArray.toList b.Def then Lf [DV.one (Cell.lit (Value.bool false))] [DV.one (Cell.lit (Value.bool (decide (a = b))))] else bif !decide (a.X = b.X) then Lf [DV.one (Cell.lit (Value.bool false))] [DV.one (Cell.lit (Value.bool (decide (a = b))))] else Lf [DV.one (Cell.lit (Value.bool true))] [DV.one (Cell.lit (Value.bool (decide (a = b))))]) := by kernel_rfl
theorem ok_laws_eqWork : Holds EE (37, con_laws_eqWork) := by
  refine holds_of EE_ok Go.Proofs.Tryz.func37 con_laws_eqWork (by kernel_rfl) rfl use_laws_eqWork (all_cons ok_laws_eqInst all_nil) ann_laws_eqWork (fun x hp hb => ?_)
  obtain ⟨a, b⟩ := x
  have hb_a : BdDV (U := UU) (.agg [.lit (.string a.Name), .lit (.string a.Def), .sl .eItem a.X.S.Items, .lit (.int .i64 a.X.S.Next), .sl .eMatch a.X.Fired, .sl .eTask a.X.Tasks, .sl .eTimer a.X.Timers, .sl .eUndo a.X.Undos, .lit (.int .i64 a.X.State), .lit (.int .i64 a.X.Now)]) := hb _ (List.mem_cons_self)
  have hl_a_Name : a.Name.size ≤ 9223372036854775807 := Bd.str (hb_a _ (by simp))
  have hl_a_Def : a.Def.size ≤ 9223372036854775807 := Bd.str (hb_a _ (by simp))
  have hl_a_X_S_Items : a.X.S.Items.length ≤ 9223372036854775807 := Bd.len (U := UU) (τ := .eItem) (xs := a.X.S.Items) (hb_a _ (by simp))
  have hl_a_X_Fired : a.X.Fired.length ≤ 9223372036854775807 := Bd.len (U := UU) (τ := .eMatch) (xs := a.X.Fired) (hb_a _ (by simp))
  have hl_a_X_Tasks : a.X.Tasks.length ≤ 9223372036854775807 := Bd.len (U := UU) (τ := .eTask) (xs := a.X.Tasks) (hb_a _ (by simp))
  have hl_a_X_Timers : a.X.Timers.length ≤ 9223372036854775807 := Bd.len (U := UU) (τ := .eTimer) (xs := a.X.Timers) (hb_a _ (by simp))
  have hl_a_X_Undos : a.X.Undos.length ≤ 9223372036854775807 := Bd.len (U := UU) (τ := .eUndo) (xs := a.X.Undos) (hb_a _ (by simp))
  have hb_b : BdDV (U := UU) (.agg [.lit (.string b.Name), .lit (.string b.Def), .sl .eItem b.X.S.Items, .lit (.int .i64 b.X.S.Next), .sl .eMatch b.X.Fired, .sl .eTask b.X.Tasks, .sl .eTimer b.X.Timers, .sl .eUndo b.X.Undos, .lit (.int .i64 b.X.State), .lit (.int .i64 b.X.Now)]) := hb _ (List.mem_cons_of_mem _ (List.mem_cons_self))
  have hl_b_Name : b.Name.size ≤ 9223372036854775807 := Bd.str (hb_b _ (by simp))
  have hl_b_Def : b.Def.size ≤ 9223372036854775807 := Bd.str (hb_b _ (by simp))
  have hl_b_X_S_Items : b.X.S.Items.length ≤ 9223372036854775807 := Bd.len (U := UU) (τ := .eItem) (xs := b.X.S.Items) (hb_b _ (by simp))
  have hl_b_X_Fired : b.X.Fired.length ≤ 9223372036854775807 := Bd.len (U := UU) (τ := .eMatch) (xs := b.X.Fired) (hb_b _ (by simp))
  have hl_b_X_Tasks : b.X.Tasks.length ≤ 9223372036854775807 := Bd.len (U := UU) (τ := .eTask) (xs := b.X.Tasks) (hb_b _ (by simp))
  have hl_b_X_Timers : b.X.Timers.length ≤ 9223372036854775807 := Bd.len (U := UU) (τ := .eTimer) (xs := b.X.Timers) (hb_b _ (by simp))
  have hl_b_X_Undos : b.X.Undos.length ≤ 9223372036854775807 := Bd.len (U := UU) (τ := .eUndo) (xs := b.X.Undos) (hb_b _ (by simp))
  clear hp hb
  rw [vc_laws_eqWork a b]
  obtain ⟨aName, aDef, aX⟩ := a
  obtain ⟨bName, bDef, bX⟩ := b
  repeat' (apply if_cond <;> intro _)
  all_goals (first | apply Lf_t | apply Lf_f) <;> simp_all
def con_laws_szWorkS : Con UU where
  α := (List DWork) × Int
  md := [.ro, .ro]
  of := fun | [.one (.sl .lWork a0), .one (.lit (.int .i64 a1))] => some (a0, a1) | _ => none
  ds := fun (a, left) => [.one (.sl .lWork a), .one (.lit (.int .i64 left))]
  pre := fun (a, left) => [0 ≤ left]
  res := fun (a, left) => ⟨[.one (.lit (.int .i64 (szr left (sizeWorkS a))))], true, []⟩
  law := by intro l x h; (try simp only at h); split at h <;> cases h; rfl
def I_laws_szWorkS_5 (a : (List DWork)) (left : Int) : Int × Int × Unit → Prop := fun (lf, i, _) => 0 ≤ lf ∧ 0 ≤ i ∧ i ≤ a.length ∧ szr lf ((a.drop i.toNat).map sizeWork).sum = szr left (sizeWorkS a)
def μ_laws_szWorkS_5 (a : (List DWork)) (left : Int) : Int × Int × Unit → Nat := fun (lf, i, _) => a.length - i.toNat
def ann_laws_szWorkS : con_laws_szWorkS.α → Nat → Option (Ann UU) := fun (a, left) => annL [(5, annOf [.slot 1 (1, 1024) (.lit (.int .i64)), .slot 5 (5, 1024) (.lit (.int .i64))] (fun _ => I_laws_szWorkS_5 a left) (μ_laws_szWorkS_5 a left))]
def use_laws_szWorkS : List (FuncId × Con UU) := [(33, con_laws_szWork)]
theorem vc_laws_szWorkS (a : (List DWork)) (left : Int) : goal EE use_laws_szWorkS Go.Proofs.Tryz.f16 con_laws_szWorkS ann_laws_szWorkS (a, left) = (let x0 : Int := IntKind.wrap IntKind.i64 (left - (↑(List.length a) : Int));
bif decide (x0 < (0 : Int)) then Lf [DV.one (Cell.lit (Value.int IntKind.i64 (-1 : Int)))] [DV.one (Cell.lit (Value.int IntKind.i64 (szr left (sizeWorkS a))))]
else
  I_laws_szWorkS_5 a left (x0, (0 : Int), PUnit.unit) ∧
    ∀ (y : Int × Int × PUnit),
      let x1 : Int := szr y.1 (sizeWork (List.getD a (Int.toNat y.2.1) zWork));
      I_laws_szWorkS_5 a left y → bif decide (y.2.1 < (↑(List.length a) : Int)) then (0 : Int) ≤ y.2.1 ∧ Int.toNat y.2.1 < List.length a ∧ (0 : Int) ≤ y.1 ∧ bif decide (x1 < (0 : Int)) then Lf [DV.one (Cell.lit (Value.int IntKind.i64 (-1 : Int)))] [DV.one (Cell.lit (Value.int IntKind.i64 (szr left (sizeWorkS a))))] else I_laws_szWorkS_5 a left (x1, IntKind.wrap IntKind.i64 (y.2.1 + (1 : Int)), PUnit.unit) ∧ μ_laws_szWorkS_5 a left (x1, IntKind.wrap IntKind.i64 (y.2.1 + (1 : Int)), PUnit.unit) < μ_laws_szWorkS_5 a left y else Lf [DV.one (Cell.lit (Value.int IntKind.i64 y.1))] [DV.one (Cell.lit (Value.int IntKind.i64 (szr left (sizeWorkS a))))]) := by kernel_rfl
theorem ok_laws_szWorkS : Holds EE (16, con_laws_szWorkS) := by
  refine holds_of EE_ok Go.Proofs.Tryz.func16 con_laws_szWorkS (by kernel_rfl) rfl use_laws_szWorkS (all_cons ok_laws_szWork all_nil) ann_laws_szWorkS (fun x hp hb => ?_)
  obtain ⟨a, left⟩ := x
  have hb_a : BdDV (U := UU) (.one (.sl .lWork a)) := hb _ (List.mem_cons_self)
  have hl_a : a.length ≤ 9223372036854775807 := Bd.len hb_a
  have hb_left : BdDV (U := UU) (.one (.lit (.int .i64 left))) := hb _ (List.mem_cons_of_mem _ (List.mem_cons_self))
  have hl_left := Bd.i64 hb_left
  have hp0 : 0 ≤ left := hp _ (List.mem_cons_self)
  clear hp hb
  rw [vc_laws_szWorkS a left]
  dsimp only
  rw [wrap_i64 (by omega) (by omega)]
  refine if_cond (fun h => Lf_i ?_) (fun h => ⟨?_, ?_⟩)
  · simp [szr, sizeWorkS] at *; omega
  · simp only [I_laws_szWorkS_5, sizeWorkS]; simp at h; have h' : 0 ≤ left - a.length := by omega
    exact ⟨h', by omega, by omega, szr_sub h'⟩
  rintro ⟨lf, i, ⟨⟩⟩ ⟨h0, h1, h2, hR⟩
  refine if_cond (fun hc => ?_) (fun hc => ?_)
  · have hc : i < a.length := by simpa using hc
    rw [drop_step a zWork h1 hc, List.map_cons, List.sum_cons] at hR
    simp only at *
    rw [wrap_i64 (by omega) (by omega)]
    generalize List.getD a i.toNat zWork = x at *
    refine ⟨by omega, by omega, by omega, if_cond (fun h => Lf_i ?_) (fun h => ⟨⟨?_, by omega, by omega, ?_⟩, ?_⟩)⟩
    · rw [← hR]; exact (szr_bad (of_decide_eq_true h)).symm
    · simp at h; omega
    · rw [← hR]; simp at h; exact szr_szr h
    · simp only [μ_laws_szWorkS_5]; omega
  · have hc : a.length ≤ i := by simpa using hc
    rw [drop_end a hc] at hR
    apply Lf_i; rw [← hR]; simp [szr, h0]
def con_laws_toWorkS : Con UU where
  α := (List DWork)
  md := [.ro]
  of := fun | [.one (.sl .lWork a0)] => some a0 | _ => none
  ds := fun a => [.one (.sl .lWork a)]
  pre := fun a => [sizeWorkS a ≤ 4294967296]
  res := fun a => ⟨[.one (.sl .eWork a)], true, []⟩
  law := by intro l x h; (try simp only at h); split at h <;> cases h; rfl
def I_laws_toWorkS_3 (a : (List DWork)) : List DWork × Int × Unit → Prop := fun (out, i, _) => 0 ≤ i ∧ i ≤ a.length ∧ out = a.take i.toNat ++ List.replicate (a.length - i.toNat) zWork
def μ_laws_toWorkS_3 (a : (List DWork)) : List DWork × Int × Unit → Nat := fun (out, i, _) => a.length - i.toNat
def ann_laws_toWorkS : con_laws_toWorkS.α → Nat → Option (Ann UU) := fun a => annL [(3, annOf [.slot 3 (3, 1024) (.own .eWork true), .slot 4 (4, 1024) (.lit (.int .i64))] (fun _ => I_laws_toWorkS_3 a) (μ_laws_toWorkS_3 a))]
def use_laws_toWorkS : List (FuncId × Con UU) := [(35, con_laws_toWork)]
theorem vc_laws_toWorkS (a : (List DWork)) : goal EE use_laws_toWorkS Go.Proofs.Tryz.f18 con_laws_toWorkS ann_laws_toWorkS a = (let x0 : Int := (↑(List.length a) : Int);
(0 : Int) ≤ x0 ∧
  x0 = x0 ∧
    x0 ≤ (4294967296 : Int) ∧
      I_laws_toWorkS_3 a (List.replicate (Int.toNat x0) zWork, (0 : Int), PUnit.unit) ∧
        ∀ (y : List DWork × Int × PUnit),
          let x1 : Nat := Int.toNat y.2.1;
          I_laws_toWorkS_3 a y → bif decide (y.2.1 < x0) then (0 : Int) ≤ y.2.1 ∧ x1 < List.length a ∧ sizeWork (List.getD a x1 zWork) ≤ (4294967296 : Nat) ∧ (0 : Int) ≤ y.2.1 ∧ x1 < List.length y.1 ∧ x1 < List.length y.1 ∧ I_laws_toWorkS_3 a (List.set y.1 x1 (List.getD a x1 zWork), IntKind.wrap IntKind.i64 (y.2.1 + (1 : Int)), PUnit.unit) ∧ μ_laws_toWorkS_3 a (List.set y.1 x1 (List.getD a x1 zWork), IntKind.wrap IntKind.i64 (y.2.1 + (1 : Int)), PUnit.unit) < μ_laws_toWorkS_3 a y else Lf [DV.one (Cell.sl Cd.eWork y.1)] [DV.one (Cell.sl Cd.eWork a)]) := by kernel_rfl
theorem ok_laws_toWorkS : Holds EE (18, con_laws_toWorkS) := by
  refine holds_of EE_ok Go.Proofs.Tryz.func18 con_laws_toWorkS (by kernel_rfl) rfl use_laws_toWorkS (all_cons ok_laws_toWork all_nil) ann_laws_toWorkS (fun (a : (List DWork)) hp hb => ?_)
  have hb_a : BdDV (U := UU) (.one (.sl .lWork a)) := hb _ (List.mem_cons_self)
  have hl_a : a.length ≤ 9223372036854775807 := Bd.len hb_a
  have hp0 : sizeWorkS a ≤ 4294967296 := hp _ (List.mem_cons_self)
  clear hp hb
  rw [vc_laws_toWorkS a]
  dsimp only
  have hlen : a.length ≤ 4294967296 := by simp only [sizeWorkS] at hp0; omega
  refine ⟨by omega, rfl, by omega, ?_, ?_⟩
  · simp [I_laws_toWorkS_3]
  rintro ⟨out, i, ⟨⟩⟩ ⟨h1, h2, rfl⟩
  simp only at *
  refine if_cond (fun hc => ?_) (fun hc => ?_)
  · have hc : i < a.length := by simpa using hc
    rw [wrap_i64 (by omega) (by omega), set_fill a zWork h1 hc]
    exact ⟨h1, by omega, by exact Nat.le_trans (sum_getD_le sizeWork a zWork h1 hc) (by simp only [sizeWorkS] at hp0; omega), h1, by simp; omega, by simp; omega, ⟨by omega, by omega, rfl⟩, by simp only [μ_laws_toWorkS_3]; omega⟩
  · have hc : a.length ≤ i := by simpa using hc
    have e : i.toNat = a.length := by omega
    rw [e]; simp; exact Lf_rfl _
def con_laws_eqWorkS : Con UU where
  α := (List DWork) × (List DWork)
  md := [.ro, .ro]
  of := fun | [.one (.sl .eWork a0), .one (.sl .eWork a1)] => some (a0, a1) | _ => none
  ds := fun (a, b) => [.one (.sl .eWork a), .one (.sl .eWork b)]
  pre := fun (a, b) => []
  res := fun (a, b) => ⟨[.one (.lit (.bool (decide (a = b))))], true, []⟩
  law := by intro l x h; (try simp only at h); split at h <;> cases h; rfl
def I_laws_eqWorkS_4 (a : (List DWork)) (b : (List DWork)) : Int × Unit → Prop := fun (i, _) => 0 ≤ i ∧ i ≤ a.length ∧ a.length = b.length ∧ (a.drop i.toNat = b.drop i.toNat ↔ a = b)
def μ_laws_eqWorkS_4 (a : (List DWork)) (b : (List DWork)) : Int × Unit → Nat := fun (i, _) => a.length - i.toNat
def ann_laws_eqWorkS : con_laws_eqWorkS.α → Nat → Option (Ann UU) := fun (a, b) => annL [(4, annOf [.slot 5 (5, 1024) (.lit (.int .i64))] (fun _ => I_laws_eqWorkS_4 a b) (μ_laws_eqWorkS_4 a b))]
def use_laws_eqWorkS : List (FuncId × Con UU) := [(37, con_laws_eqWork)]
theorem vc_laws_eqWorkS (a : (List DWork)) (b : (List DWork)) : goal EE use_laws_eqWorkS Go.Proofs.Tryz.f22 con_laws_eqWorkS ann_laws_eqWorkS (a, b) = (bif (↑(List.length a) : Int) != (↑(List.length b) : Int) then Lf [DV.one (Cell.lit (Value.bool false))] [DV.one (Cell.lit (Value.bool (decide (a = b))))] else I_laws_eqWorkS_4 a b ((0 : Int), PUnit.unit) ∧ ∀ (y : Int × PUnit), I_laws_eqWorkS_4 a b y → bif decide (y.1 < (↑(List.length a) : Int)) then (0 : Int) ≤ y.1 ∧ Int.toNat y.1 < List.length a ∧ (0 : Int) ≤ y.1 ∧ Int.toNat y.1 < List.length b ∧ bif !decide (List.getD a (Int.toNat y.1) zWork = List.getD b (Int.toNat y.1) zWork) then Lf [DV.one (Cell.lit (Value.bool false))] [DV.one (Cell.lit (Value.bool (decide (a = b))))] else I_laws_eqWorkS_4 a b (IntKind.wrap IntKind.i64 (y.1 + (1 : Int)), PUnit.unit) ∧ μ_laws_eqWorkS_4 a b (IntKind.wrap IntKind.i64 (y.1 + (1 : Int)), PUnit.unit) < μ_laws_eqWorkS_4 a b y else Lf [DV.one (Cell.lit (Value.bool true))] [DV.one (Cell.lit (Value.bool (decide (a = b))))]) := by kernel_rfl
theorem ok_laws_eqWorkS : Holds EE (22, con_laws_eqWorkS) := by
  refine holds_of EE_ok Go.Proofs.Tryz.func22 con_laws_eqWorkS (by kernel_rfl) rfl use_laws_eqWorkS (all_cons ok_laws_eqWork all_nil) ann_laws_eqWorkS (fun x hp hb => ?_)
  obtain ⟨a, b⟩ := x
  have hb_a : BdDV (U := UU) (.one (.sl .eWork a)) := hb _ (List.mem_cons_self)
  have hl_a : a.length ≤ 9223372036854775807 := Bd.len hb_a
  have hb_b : BdDV (U := UU) (.one (.sl .eWork b)) := hb _ (List.mem_cons_of_mem _ (List.mem_cons_self))
  have hl_b : b.length ≤ 9223372036854775807 := Bd.len hb_b
  clear hp hb
  rw [vc_laws_eqWorkS a b]
  refine if_cond (fun h => Lf_f ?_) (fun h => ⟨?_, ?_⟩)
  · rintro rfl; simp at h
  · simp [I_laws_eqWorkS_4] at *; omega
  rintro ⟨i, ⟨⟩⟩ ⟨h1, h2, h3, hR⟩
  simp only at *
  refine if_cond (fun hc => ?_) (fun hc => ?_)
  · have hc : i < a.length := by simpa using hc
    rw [drop_step a zWork h1 hc, drop_step b zWork h1 (by omega)] at hR
    rw [wrap_i64 (by omega) (by omega)]
    refine ⟨by omega, by omega, by omega, by omega, if_cond (fun h => Lf_f ?_) (fun h => ⟨⟨by omega, by omega, h3, ?_⟩, ?_⟩)⟩
    · rw [← hR]; simp at h; simp [h]
    · rw [← hR]; simp at h; simp [h]
    · simp only [μ_laws_eqWorkS_4]; omega
  · have hc : a.length ≤ i := by simpa using hc
    rw [drop_end a hc, drop_end b (by omega)] at hR
    exact Lf_t (hR.1 rfl)
def con_laws_szBook : Con UU where
  α := DBook × Int
  md := [.ro, .ro]
  of := fun | [.agg [.sl .lDef a0, .sl .lWork a1, .lit (.int .i64 a2), .lit (.int .i64 a3)], .one (.lit (.int .i64 a4))] => some (⟨a0, a1, a2, a3⟩, a4) | _ => none
  ds := fun (a, left) => [.agg [.sl .lDef a.Defs, .sl .lWork a.Works, .lit (.int .i64 a.Now), .lit (.int .i64 a.Ring)], .one (.lit (.int .i64 left))]
  pre := fun (a, left) => [0 ≤ left]
  res := fun (a, left) => ⟨[.one (.lit (.int .i64 (szr left (sizeBook a))))], true, []⟩
  law := by intro l x h; (try simp only at h); split at h <;> cases h; rfl
def ann_laws_szBook : con_laws_szBook.α → Nat → Option (Ann UU) := fun (a, left) => annL []
def use_laws_szBook : List (FuncId × Con UU) := [(15, con_laws_szDefS), (16, con_laws_szWorkS)]
theorem vc_laws_szBook (a : DBook) (left : Int) : goal EE use_laws_szBook Go.Proofs.Tryz.f6 con_laws_szBook ann_laws_szBook (a, left) = (let x0 : Int := szr (szr left (sizeDefS a.Defs)) (sizeWorkS a.Works);
(0 : Int) ≤ left ∧ bif decide (szr left (sizeDefS a.Defs) < (0 : Int)) then Lf [DV.one (Cell.lit (Value.int IntKind.i64 (-1 : Int)))] [DV.one (Cell.lit (Value.int IntKind.i64 (szr left (sizeBook a))))] else (0 : Int) ≤ szr left (sizeDefS a.Defs) ∧ bif decide (x0 < (0 : Int)) then Lf [DV.one (Cell.lit (Value.int IntKind.i64 (-1 : Int)))] [DV.one (Cell.lit (Value.int IntKind.i64 (szr left (sizeBook a))))] else Lf [DV.one (Cell.lit (Value.int IntKind.i64 x0))] [DV.one (Cell.lit (Value.int IntKind.i64 (szr left (sizeBook a))))]) := by kernel_rfl
theorem ok_laws_szBook : Holds EE (6, con_laws_szBook) := by
  refine holds_of EE_ok Go.Proofs.Tryz.func6 con_laws_szBook (by kernel_rfl) rfl use_laws_szBook (all_cons ok_laws_szDefS (all_cons ok_laws_szWorkS all_nil)) ann_laws_szBook (fun x hp hb => ?_)
  obtain ⟨a, left⟩ := x
  have hb_a : BdDV (U := UU) (.agg [.sl .lDef a.Defs, .sl .lWork a.Works, .lit (.int .i64 a.Now), .lit (.int .i64 a.Ring)]) := hb _ (List.mem_cons_self)
  have hl_a_Defs : a.Defs.length ≤ 9223372036854775807 := Bd.len (U := UU) (τ := .lDef) (xs := a.Defs) (hb_a _ (by simp))
  have hl_a_Works : a.Works.length ≤ 9223372036854775807 := Bd.len (U := UU) (τ := .lWork) (xs := a.Works) (hb_a _ (by simp))
  have hb_left : BdDV (U := UU) (.one (.lit (.int .i64 left))) := hb _ (List.mem_cons_of_mem _ (List.mem_cons_self))
  have hl_left := Bd.i64 hb_left
  have hp0 : 0 ≤ left := hp _ (List.mem_cons_self)
  clear hp hb
  rw [vc_laws_szBook a left]
  dsimp only
  refine ⟨by omega, if_cond (fun h => Lf_i (szr_bad' ?_)) (fun h => ?_)⟩
  · have h := szr_neg h; simp only [sizeBook]; omega
  obtain ⟨e0, h0⟩ := szr_pos h
  rw [e0]
  refine ⟨by omega, if_cond (fun h => Lf_i (szr_bad' ?_)) (fun h => ?_)⟩
  · have h := szr_neg h; simp only [sizeBook]; omega
  obtain ⟨e1, h1⟩ := szr_pos h
  rw [e1]
  exact Lf_i (by rw [← szr_ok' (by simp only [sizeBook]; omega)]; simp only [sizeBook]; try omega)
def con_laws_toBook : Con UU where
  α := DBook
  md := [.ro]
  of := fun | [.agg [.sl .lDef a0, .sl .lWork a1, .lit (.int .i64 a2), .lit (.int .i64 a3)]] => some ⟨a0, a1, a2, a3⟩ | _ => none
  ds := fun a => [.agg [.sl .lDef a.Defs, .sl .lWork a.Works, .lit (.int .i64 a.Now), .lit (.int .i64 a.Ring)]]
  pre := fun a => [sizeBook a ≤ 4294967296]
  res := fun a => ⟨[.agg [.sl .eDef a.Defs, .sl .eWork a.Works, .lit (.int .i64 a.Now), .lit (.int .i64 a.Ring)]], true, []⟩
  law := by intro l x h; (try simp only at h); split at h <;> cases h; rfl
def ann_laws_toBook : con_laws_toBook.α → Nat → Option (Ann UU) := fun a => annL []
def use_laws_toBook : List (FuncId × Con UU) := [(17, con_laws_toDefS), (18, con_laws_toWorkS)]
theorem vc_laws_toBook (a : DBook) : goal EE use_laws_toBook Go.Proofs.Tryz.f8 con_laws_toBook ann_laws_toBook a = (sizeDefS a.Defs ≤ (4294967296 : Nat) ∧ sizeWorkS a.Works ≤ (4294967296 : Nat) ∧ Lf [DV.agg [Cell.sl Cd.eDef a.Defs, Cell.sl Cd.eWork a.Works, Cell.lit (Value.int IntKind.i64 a.Now), Cell.lit (Value.int IntKind.i64 a.Ring)]] [DV.agg [Cell.sl Cd.eDef a.Defs, Cell.sl Cd.eWork a.Works, Cell.lit (Value.int IntKind.i64 a.Now), Cell.lit (Value.int IntKind.i64 a.Ring)]]) := by kernel_rfl
theorem ok_laws_toBook : Holds EE (8, con_laws_toBook) := by
  refine holds_of EE_ok Go.Proofs.Tryz.func8 con_laws_toBook (by kernel_rfl) rfl use_laws_toBook (all_cons ok_laws_toDefS (all_cons ok_laws_toWorkS all_nil)) ann_laws_toBook (fun (a : DBook) hp hb => ?_)
  have hb_a : BdDV (U := UU) (.agg [.sl .lDef a.Defs, .sl .lWork a.Works, .lit (.int .i64 a.Now), .lit (.int .i64 a.Ring)]) := hb _ (List.mem_cons_self)
  have hl_a_Defs : a.Defs.length ≤ 9223372036854775807 := Bd.len (U := UU) (τ := .lDef) (xs := a.Defs) (hb_a _ (by simp))
  have hl_a_Works : a.Works.length ≤ 9223372036854775807 := Bd.len (U := UU) (τ := .lWork) (xs := a.Works) (hb_a _ (by simp))
  have hp0 : sizeBook a ≤ 4294967296 := hp _ (List.mem_cons_self)
  clear hp hb
  rw [vc_laws_toBook a]
  simp only [sizeBook] at hp0
  repeat' (first | exact Lf_rfl _ | (refine And.intro (by omega) ?_))
def con_laws_eqBook : Con UU where
  α := DBook × DBook
  md := [.ro, .ro]
  of := fun | [.agg [.sl .eDef a0, .sl .eWork a1, .lit (.int .i64 a2), .lit (.int .i64 a3)], .agg [.sl .eDef a4, .sl .eWork a5, .lit (.int .i64 a6), .lit (.int .i64 a7)]] => some (⟨a0, a1, a2, a3⟩, ⟨a4, a5, a6, a7⟩) | _ => none
  ds := fun (a, b) => [.agg [.sl .eDef a.Defs, .sl .eWork a.Works, .lit (.int .i64 a.Now), .lit (.int .i64 a.Ring)], .agg [.sl .eDef b.Defs, .sl .eWork b.Works, .lit (.int .i64 b.Now), .lit (.int .i64 b.Ring)]]
  pre := fun (a, b) => []
  res := fun (a, b) => ⟨[.one (.lit (.bool (decide (a = b))))], true, []⟩
  law := by intro l x h; (try simp only at h); split at h <;> cases h; rfl
def ann_laws_eqBook : con_laws_eqBook.α → Nat → Option (Ann UU) := fun (a, b) => annL []
def use_laws_eqBook : List (FuncId × Con UU) := [(21, con_laws_eqDefS), (22, con_laws_eqWorkS)]
theorem vc_laws_eqBook (a : DBook) (b : DBook) : goal EE use_laws_eqBook Go.Proofs.Tryz.f10 con_laws_eqBook ann_laws_eqBook (a, b) = (bif !decide (a.Defs = b.Defs) then Lf [DV.one (Cell.lit (Value.bool false))] [DV.one (Cell.lit (Value.bool (decide (a = b))))] else bif !decide (a.Works = b.Works) then Lf [DV.one (Cell.lit (Value.bool false))] [DV.one (Cell.lit (Value.bool (decide (a = b))))] else bif a.Now != b.Now then Lf [DV.one (Cell.lit (Value.bool false))] [DV.one (Cell.lit (Value.bool (decide (a = b))))] else bif a.Ring != b.Ring then Lf [DV.one (Cell.lit (Value.bool false))] [DV.one (Cell.lit (Value.bool (decide (a = b))))] else Lf [DV.one (Cell.lit (Value.bool true))] [DV.one (Cell.lit (Value.bool (decide (a = b))))]) := by kernel_rfl
theorem ok_laws_eqBook : Holds EE (10, con_laws_eqBook) := by
  refine holds_of EE_ok Go.Proofs.Tryz.func10 con_laws_eqBook (by kernel_rfl) rfl use_laws_eqBook (all_cons ok_laws_eqDefS (all_cons ok_laws_eqWorkS all_nil)) ann_laws_eqBook (fun x hp hb => ?_)
  obtain ⟨a, b⟩ := x
  have hb_a : BdDV (U := UU) (.agg [.sl .eDef a.Defs, .sl .eWork a.Works, .lit (.int .i64 a.Now), .lit (.int .i64 a.Ring)]) := hb _ (List.mem_cons_self)
  have hl_a_Defs : a.Defs.length ≤ 9223372036854775807 := Bd.len (U := UU) (τ := .eDef) (xs := a.Defs) (hb_a _ (by simp))
  have hl_a_Works : a.Works.length ≤ 9223372036854775807 := Bd.len (U := UU) (τ := .eWork) (xs := a.Works) (hb_a _ (by simp))
  have hb_b : BdDV (U := UU) (.agg [.sl .eDef b.Defs, .sl .eWork b.Works, .lit (.int .i64 b.Now), .lit (.int .i64 b.Ring)]) := hb _ (List.mem_cons_of_mem _ (List.mem_cons_self))
  have hl_b_Defs : b.Defs.length ≤ 9223372036854775807 := Bd.len (U := UU) (τ := .eDef) (xs := b.Defs) (hb_b _ (by simp))
  have hl_b_Works : b.Works.length ≤ 9223372036854775807 := Bd.len (U := UU) (τ := .eWork) (xs := b.Works) (hb_b _ (by simp))
  clear hp hb
  rw [vc_laws_eqBook a b]
  obtain ⟨aDefs, aWorks, aNow, aRing⟩ := a
  obtain ⟨bDefs, bWorks, bNow, bRing⟩ := b
  repeat' (apply if_cond <;> intro _)
  all_goals (first | apply Lf_t | apply Lf_f) <;> simp_all
def daDef (x : DDef) : DA UU := ⟨true, [.lit (.string x.Name), .sl .eRule x.Rules]⟩
def daWork (x : DWork) : DA UU := ⟨true, [.lit (.string x.Name), .lit (.string x.Def), .sl .eItem x.X.S.Items, .lit (.int .i64 x.X.S.Next), .sl .eMatch x.X.Fired, .sl .eTask x.X.Tasks, .sl .eTimer x.X.Timers, .sl .eUndo x.X.Undos, .lit (.int .i64 x.X.State), .lit (.int .i64 x.X.Now)]⟩
def defAt (l : List DDef) (name : ByteArray) : Int := idxI l.length fun k => decide ((List.getD l k zDef).Name = name)
def workAt (l : List DWork) (name : ByteArray) : Int := idxI l.length fun k => decide ((List.getD l k zWork).Name = name)
def con_IndexFuncWork : Con UU where
  α := (List DWork) × (List (DA UU) → Option Value)
  md := [.ro, .ro]
  of := fun | [.one (.sl .eWork a0), .fn a1] => some (a0, a1) | _ => none
  ds := fun (l, p) => [.one (.sl .eWork l), .fn p]
  pre := fun (l, p) => [∀ j : Nat, j < l.length → p [daWork (List.getD l j zWork)] = some (.bool (boolOf (p [daWork (List.getD l j zWork)])))]
  res := fun (l, p) => ⟨[.one (.lit (.int .i64 (idxI l.length (fun j => boolOf (p [daWork (List.getD l j zWork)])))))], true, []⟩
  law := by intro l x h; (try simp only at h); split at h <;> cases h; rfl
def I_IndexFuncWork_2 (l : (List DWork)) (p : (List (DA UU) → Option Value)) : Int × Unit → Prop := fun (i, _) => 0 ≤ i ∧ i ≤ l.length ∧ ∀ j : Nat, (j : Int) < i → boolOf (p [daWork (List.getD l j zWork)]) = false
def μ_IndexFuncWork_2 (l : (List DWork)) (p : (List (DA UU) → Option Value)) : Int × Unit → Nat := fun (i, _) => l.length - i.toNat
def ann_IndexFuncWork : con_IndexFuncWork.α → Nat → Option (Ann UU) := fun (l, p) => annL [(2, annOf [.slot 8 (8, 1024) (.lit (.int .i64))] (fun _ => I_IndexFuncWork_2 l p) (μ_IndexFuncWork_2 l p))]
def use_IndexFuncWork : List (FuncId × Con UU) := []
theorem vc_IndexFuncWork (l : (List DWork)) (p : (List (DA UU) → Option Value)) : goal EE use_IndexFuncWork Go.Proofs.Tryz.f23 con_IndexFuncWork ann_IndexFuncWork (l, p) = (I_IndexFuncWork_2 l p ((0 : Int), PUnit.unit) ∧
  ∀ (y : Int × PUnit),
    let x0 : Bool :=
      boolOf
        (p
          [{ agg := true, cs := [Cell.lit (Value.string (List.getD l (Int.toNat y.1) zWork).Name), Cell.lit (Value.string (List.getD l (Int.toNat y.1) zWork).Def), Cell.sl Cd.eItem (List.getD l (Int.toNat y.1) zWork).X.S.Items, Cell.lit (Value.int IntKind.i64 (List.getD l (Int.toNat y.1) zWork).X.S.Next), Cell.sl Cd.eMatch (List.getD l (Int.toNat y.1) zWork).X.Fired, Cell.sl Cd.eTask (List.getD l (Int.toNat y.1) zWork).X.Tasks, Cell.sl Cd.eTimer (List.getD l (Int.toNat y.1) zWork).X.Timers, Cell.sl Cd.eUndo (List.getD l (Int.toNat y.1) zWork).X.Undos, Cell.lit (Value.int IntKind.i64 (List.getD l (Int.toNat y.1) zWork).X.State), Cell.lit (Value.int IntKind.i64 (List.getD l (Int.toNat y.1) zWork).X.Now)] :
              DA
                { Ty := Cd,
                  T := fun (x : Cd) =>
                    match x with
                    | Cd.int => Int
                    | Cd.byte => Int
                    | Cd.str => ByteArray
                    | Cd.eVal => DVal
                    | Cd.lVal => DVal
                    | Cd.eFact => DFact
                    | Cd.lFact => DFact
                    | Cd.eItem => DItem
                    | Cd.lItem => DItem
                    | Cd.eStore => DStore
                    | Cd.lStore => DStore
                    | Cd.eToken => DToken
                    | Cd.lToken => DToken
                    | Cd.eArg => DArg
                    | Cd.lArg => DArg
                    | Cd.ePat => DPat
                    | Cd.lPat => DPat
                    | Cd.eBind => DBind
                    | Cd.lBind => DBind
                    | Cd.eCond => DCond
                    | Cd.lCond => DCond
                    | Cd.eExpr => DExpr
                    | Cd.lExpr => DExpr
                    | Cd.eAct => DAct
                    | Cd.lAct => DAct
                    | Cd.eRule => DRule
                    | Cd.lRule => DRule
                    | Cd.eDef => DDef
                    | Cd.lDef => DDef
                    | Cd.eMatch => DMatch
                    | Cd.lMatch => DMatch
                    | Cd.eAlpha => DAlpha
                    | Cd.lAlpha => DAlpha
                    | Cd.eChain => DChain
                    | Cd.lChain => DChain
                    | Cd.eNet => DNet
                    | Cd.lNet => DNet
                    | Cd.eIds => DIds
                    | Cd.lIds => DIds
                    | Cd.eTok => DTok
                    | Cd.lTok => DTok
                    | Cd.eLevel => DLevel
                    | Cd.lLevel => DLevel
                    | Cd.eRow => DRow
                    | Cd.lRow => DRow
                    | Cd.eMem => DMem
                    | Cd.lMem => DMem
                    | Cd.eEffect => DEffect
                    | Cd.lEffect => DEffect
                    | Cd.eTimer => DTimer
                    | Cd.lTimer => DTimer
                    | Cd.eTask => DTask
                    | Cd.lTask => DTask
                    | Cd.eCall => DCall
                    | Cd.lCall => DCall
                    | Cd.eUndo => DUndo
                    | Cd.lUndo => DUndo
                    | Cd.eInst => DInst
                    | Cd.lInst => DInst
                    | Cd.eRun => DRun
                    | Cd.lRun => DRun
                    | Cd.eOp => DOp
                    | Cd.lOp => DOp
                    | Cd.eWork => DWork
                    | Cd.lWork => DWork
                    | Cd.eBook => DBook
                    | Cd.lBook => DBook
                    | Cd.eSent => DSent
                    | Cd.lSent => DSent,
                  deq := inferInstance,
                  wd := fun (x : Cd) =>
                    match x with
                    | Cd.int => (1 : Nat)
                    | Cd.byte => (1 : Nat)
                    | Cd.str => (1 : Nat)
                    | Cd.eVal => (3 : Nat)
                    | Cd.lVal => (3 : Nat)
                    | Cd.eFact => (2 : Nat)
                    | Cd.lFact => (2 : Nat)
                    | Cd.eItem => (3 : Nat)
                    | Cd.lItem => (3 : Nat)
                    | Cd.eStore => (2 : Nat)
                    | Cd.lStore => (2 : Nat)
                    | Cd.eToken => (3 : Nat)
                    | Cd.lToken => (3 : Nat)
                    | Cd.eArg => (5 : Nat)
                    | Cd.lArg => (5 : Nat)
                    | Cd.ePat => (3 : Nat)
                    | Cd.lPat => (3 : Nat)
                    | Cd.eBind => (4 : Nat)
                    | Cd.lBind => (4 : Nat)
                    | Cd.eCond => (11 : Nat)
                    | Cd.lCond => (11 : Nat)
                    | Cd.eExpr => (11 : Nat)
                    | Cd.lExpr => (11 : Nat)
                    | Cd.eAct => (5 : Nat)
                    | Cd.lAct => (5 : Nat)
                    | Cd.eRule => (5 : Nat)
                    | Cd.lRule => (5 : Nat)
                    | Cd.eDef => (2 : Nat)
                    | Cd.lDef => (2 : Nat)
                    | Cd.eMatch => (3 : Nat)
                    | Cd.lMatch => (3 : Nat)
                    | Cd.eAlpha => (4 : Nat)
                    | Cd.lAlpha => (4 : Nat)
                    | Cd.eChain => (2 : Nat)
                    | Cd.lChain => (2 : Nat)
                    | Cd.eNet => (2 : Nat)
                    | Cd.lNet => (2 : Nat)
                    | Cd.eIds => (1 : Nat)
                    | Cd.lIds => (1 : Nat)
                    | Cd.eTok => (2 : Nat)
                    | Cd.lTok => (2 : Nat)
                    | Cd.eLevel => (1 : Nat)
                    | Cd.lLevel => (1 : Nat)
                    | Cd.eRow => (1 : Nat)
                    | Cd.lRow => (1 : Nat)
                    | Cd.eMem => (2 : Nat)
                    | Cd.lMem => (2 : Nat)
                    | Cd.eEffect => (6 : Nat)
                    | Cd.lEffect => (6 : Nat)
                    | Cd.eTimer => (3 : Nat)
                    | Cd.lTimer => (3 : Nat)
                    | Cd.eTask => (9 : Nat)
                    | Cd.lTask => (9 : Nat)
                    | Cd.eCall => (4 : Nat)
                    | Cd.lCall => (4 : Nat)
                    | Cd.eUndo => (3 : Nat)
                    | Cd.lUndo => (3 : Nat)
                    | Cd.eInst => (8 : Nat)
                    | Cd.lInst => (8 : Nat)
                    | Cd.eRun => (10 : Nat)
                    | Cd.lRun => (10 : Nat)
                    | Cd.eOp => (11 : Nat)
                    | Cd.lOp => (11 : Nat)
                    | Cd.eWork => (10 : Nat)
                    | Cd.lWork => (10 : Nat)
                    | Cd.eBook => (4 : Nat)
                    | Cd.lBook => (4 : Nat)
                    | Cd.eSent => (5 : Nat)
                    | Cd.lSent => (5 : Nat),
                  enc := fun (x : Cd) (x_1 : Cd.T x) =>
                    match x, x_1 with
                    | Cd.int, x => enc_int x
                    | Cd.byte, x => enc_byte x
                    | Cd.str, x => enc_str x
                    | Cd.eVal, x => enc_eVal x
                    | Cd.lVal, x => enc_lVal x
                    | Cd.eFact, x => enc_eFact x
                    | Cd.lFact, x => enc_lFact x
                    | Cd.eItem, x => enc_eItem x
                    | Cd.lItem, x => enc_lItem x
                    | Cd.eStore, x => enc_eStore x
                    | Cd.lStore, x => enc_lStore x
                    | Cd.eToken, x => enc_eToken x
                    | Cd.lToken, x => enc_lToken x
                    | Cd.eArg, x => enc_eArg x
                    | Cd.lArg, x => enc_lArg x
                    | Cd.ePat, x => enc_ePat x
                    | Cd.lPat, x => enc_lPat x
                    | Cd.eBind, x => enc_eBind x
                    | Cd.lBind, x => enc_lBind x
                    | Cd.eCond, x => enc_eCond x
                    | Cd.lCond, x => enc_lCond x
                    | Cd.eExpr, x => enc_eExpr x
                    | Cd.lExpr, x => enc_lExpr x
                    | Cd.eAct, x => enc_eAct x
                    | Cd.lAct, x => enc_lAct x
                    | Cd.eRule, x => enc_eRule x
                    | Cd.lRule, x => enc_lRule x
                    | Cd.eDef, x => enc_eDef x
                    | Cd.lDef, x => enc_lDef x
                    | Cd.eMatch, x => enc_eMatch x
                    | Cd.lMatch, x => enc_lMatch x
                    | Cd.eAlpha, x => enc_eAlpha x
                    | Cd.lAlpha, x => enc_lAlpha x
                    | Cd.eChain, x => enc_eChain x
                    | Cd.lChain, x => enc_lChain x
                    | Cd.eNet, x => enc_eNet x
                    | Cd.lNet, x => enc_lNet x
                    | Cd.eIds, x => enc_eIds x
                    | Cd.lIds, x => enc_lIds x
                    | Cd.eTok, x => enc_eTok x
                    | Cd.lTok, x => enc_lTok x
                    | Cd.eLevel, x => enc_eLevel x
                    | Cd.lLevel, x => enc_lLevel x
                    | Cd.eRow, x => enc_eRow x
                    | Cd.lRow, x => enc_lRow x
                    | Cd.eMem, x => enc_eMem x
                    | Cd.lMem, x => enc_lMem x
                    | Cd.eEffect, x => enc_eEffect x
                    | Cd.lEffect, x => enc_lEffect x
                    | Cd.eTimer, x => enc_eTimer x
                    | Cd.lTimer, x => enc_lTimer x
                    | Cd.eTask, x => enc_eTask x
                    | Cd.lTask, x => enc_lTask x
                    | Cd.eCall, x => enc_eCall x
                    | Cd.lCall, x => enc_lCall x
                    | Cd.eUndo, x => enc_eUndo x
                    | Cd.lUndo, x => enc_lUndo x
                    | Cd.eInst, x => enc_eInst x
                    | Cd.lInst, x => enc_lInst x
                    | Cd.eRun, x => enc_eRun x
                    | Cd.lRun, x => enc_lRun x
                    | Cd.eOp, x => enc_eOp x
                    | Cd.lOp, x => enc_lOp x
                    | Cd.eWork, x => enc_eWork x
                    | Cd.lWork, x => enc_lWork x
                    | Cd.eBook, x => enc_eBook x
                    | Cd.lBook, x => enc_lBook x
                    | Cd.eSent, x => enc_eSent x
                    | Cd.lSent, x => enc_lSent x,
                  dec := Cd.dec,
                  dflt := fun (x : Cd) =>
                    match x with
                    | Cd.int => (0 : Int)
                    | Cd.byte => (0 : Int)
                    | Cd.str => noBytes
                    | Cd.eVal => zVal
                    | Cd.lVal => zVal
                    | Cd.eFact => zFact
                    | Cd.lFact => zFact
                    | Cd.eItem => zItem
                    | Cd.lItem => zItem
                    | Cd.eStore => zStore
                    | Cd.lStore => zStore
                    | Cd.eToken => zToken
                    | Cd.lToken => zToken
                    | Cd.eArg => zArg
                    | Cd.lArg => zArg
                    | Cd.ePat => zPat
                    | Cd.lPat => zPat
                    | Cd.eBind => zBind
                    | Cd.lBind => zBind
                    | Cd.eCond => zCond
                    | Cd.lCond => zCond
                    | Cd.eExpr => zExpr
                    | Cd.lExpr => zExpr
                    | Cd.eAct => zAct
                    | Cd.lAct => zAct
                    | Cd.eRule => zRule
                    | Cd.lRule => zRule
                    | Cd.eDef => zDef
                    | Cd.lDef => zDef
                    | Cd.eMatch => zMatch
                    | Cd.lMatch => zMatch
                    | Cd.eAlpha => zAlpha
                    | Cd.lAlpha => zAlpha
                    | Cd.eChain => zChain
                    | Cd.lChain => zChain
                    | Cd.eNet => zNet
                    | Cd.lNet => zNet
                    | Cd.eIds => zIds
                    | Cd.lIds => zIds
                    | Cd.eTok => zTok
                    | Cd.lTok => zTok
                    | Cd.eLevel => zLevel
                    | Cd.lLevel => zLevel
                    | Cd.eRow => zRow
                    | Cd.lRow => zRow
                    | Cd.eMem => zMem
                    | Cd.lMem => zMem
                    | Cd.eEffect => zEffect
                    | Cd.lEffect => zEffect
                    | Cd.eTimer => zTimer
                    | Cd.lTimer => zTimer
                    | Cd.eTask => zTask
                    | Cd.lTask => zTask
                    | Cd.eCall => zCall
                    | Cd.lCall => zCall
                    | Cd.eUndo => zUndo
                    | Cd.lUndo => zUndo
                    | Cd.eInst => zInst
                    | Cd.lInst => zInst
                    | Cd.eRun => zRun
                    | Cd.lRun => zRun
                    | Cd.eOp => zOp
                    | Cd.lOp => zOp
                    | Cd.eWork => zWork
                    | Cd.lWork => zWork
                    | Cd.eBook => zBook
                    | Cd.lBook => zBook
                    | Cd.eSent => zSent
                    | Cd.lSent => zSent,
                  flat := Cd.flat, wd_pos := UU._proof_1, enc_len := UU._proof_2, enc_dec := UU._proof_3, flat_ok := UU._proof_4, bcode := Cd.byte, toB := fun (x : Cd.T Cd.byte) => x, ofB := fun (x : Int) => x, toB_ofB := fun (x : Int) => rfl, enc_b := UU._proof_5 : Uni } }]);
    let x1 : DInst := (List.getD l (Int.toNat y.1) zWork).X;
    I_IndexFuncWork_2 l p y →
      bif decide (y.1 < (↑(List.length l) : Int)) then
        (0 : Int) ≤ y.1 ∧
          Int.toNat y.1 < List.length l ∧
            p
                  [{ agg := true, cs := [Cell.lit (Value.string (List.getD l (Int.toNat y.1) zWork).Name), Cell.lit (Value.string (List.getD l (Int.toNat y.1) zWork).Def), Cell.sl Cd.eItem x1.S.Items, Cell.lit (Value.int IntKind.i64 x1.S.Next), Cell.sl Cd.eMatch x1.Fired, Cell.sl Cd.eTask x1.Tasks, Cell.sl Cd.eTimer x1.Timers, Cell.sl Cd.eUndo x1.Undos, Cell.lit (Value.int IntKind.i64 x1.State), Cell.lit (Value.int IntKind.i64 x1.Now)] :
                      DA
                        { Ty := Cd,
                          T := fun (x : Cd) =>
                            match x with
                            | Cd.int => Int
                            | Cd.byte => Int
                            | Cd.str => ByteArray
                            | Cd.eVal => DVal
                            | Cd.lVal => DVal
                            | Cd.eFact => DFact
                            | Cd.lFact => DFact
                            | Cd.eItem => DItem
                            | Cd.lItem => DItem
                            | Cd.eStore => DStore
                            | Cd.lStore => DStore
                            | Cd.eToken => DToken
                            | Cd.lToken => DToken
                            | Cd.eArg => DArg
                            | Cd.lArg => DArg
                            | Cd.ePat => DPat
                            | Cd.lPat => DPat
                            | Cd.eBind => DBind
                            | Cd.lBind => DBind
                            | Cd.eCond => DCond
                            | Cd.lCond => DCond
                            | Cd.eExpr => DExpr
                            | Cd.lExpr => DExpr
                            | Cd.eAct => DAct
                            | Cd.lAct => DAct
                            | Cd.eRule => DRule
                            | Cd.lRule => DRule
                            | Cd.eDef => DDef
                            | Cd.lDef => DDef
                            | Cd.eMatch => DMatch
                            | Cd.lMatch => DMatch
                            | Cd.eAlpha => DAlpha
                            | Cd.lAlpha => DAlpha
                            | Cd.eChain => DChain
                            | Cd.lChain => DChain
                            | Cd.eNet => DNet
                            | Cd.lNet => DNet
                            | Cd.eIds => DIds
                            | Cd.lIds => DIds
                            | Cd.eTok => DTok
                            | Cd.lTok => DTok
                            | Cd.eLevel => DLevel
                            | Cd.lLevel => DLevel
                            | Cd.eRow => DRow
                            | Cd.lRow => DRow
                            | Cd.eMem => DMem
                            | Cd.lMem => DMem
                            | Cd.eEffect => DEffect
                            | Cd.lEffect => DEffect
                            | Cd.eTimer => DTimer
                            | Cd.lTimer => DTimer
                            | Cd.eTask => DTask
                            | Cd.lTask => DTask
                            | Cd.eCall => DCall
                            | Cd.lCall => DCall
                            | Cd.eUndo => DUndo
                            | Cd.lUndo => DUndo
                            | Cd.eInst => DInst
                            | Cd.lInst => DInst
                            | Cd.eRun => DRun
                            | Cd.lRun => DRun
                            | Cd.eOp => DOp
                            | Cd.lOp => DOp
                            | Cd.eWork => DWork
                            | Cd.lWork => DWork
                            | Cd.eBook => DBook
                            | Cd.lBook => DBook
                            | Cd.eSent => DSent
                            | Cd.lSent => DSent,
                          deq := inferInstance,
                          wd := fun (x : Cd) =>
                            match x with
                            | Cd.int => (1 : Nat)
                            | Cd.byte => (1 : Nat)
                            | Cd.str => (1 : Nat)
                            | Cd.eVal => (3 : Nat)
                            | Cd.lVal => (3 : Nat)
                            | Cd.eFact => (2 : Nat)
                            | Cd.lFact => (2 : Nat)
                            | Cd.eItem => (3 : Nat)
                            | Cd.lItem => (3 : Nat)
                            | Cd.eStore => (2 : Nat)
                            | Cd.lStore => (2 : Nat)
                            | Cd.eToken => (3 : Nat)
                            | Cd.lToken => (3 : Nat)
                            | Cd.eArg => (5 : Nat)
                            | Cd.lArg => (5 : Nat)
                            | Cd.ePat => (3 : Nat)
                            | Cd.lPat => (3 : Nat)
                            | Cd.eBind => (4 : Nat)
                            | Cd.lBind => (4 : Nat)
                            | Cd.eCond => (11 : Nat)
                            | Cd.lCond => (11 : Nat)
                            | Cd.eExpr => (11 : Nat)
                            | Cd.lExpr => (11 : Nat)
                            | Cd.eAct => (5 : Nat)
                            | Cd.lAct => (5 : Nat)
                            | Cd.eRule => (5 : Nat)
                            | Cd.lRule => (5 : Nat)
                            | Cd.eDef => (2 : Nat)
                            | Cd.lDef => (2 : Nat)
                            | Cd.eMatch => (3 : Nat)
                            | Cd.lMatch => (3 : Nat)
                            | Cd.eAlpha => (4 : Nat)
                            | Cd.lAlpha => (4 : Nat)
                            | Cd.eChain => (2 : Nat)
                            | Cd.lChain => (2 : Nat)
                            | Cd.eNet => (2 : Nat)
                            | Cd.lNet => (2 : Nat)
                            | Cd.eIds => (1 : Nat)
                            | Cd.lIds => (1 : Nat)
                            | Cd.eTok => (2 : Nat)
                            | Cd.lTok => (2 : Nat)
                            | Cd.eLevel => (1 : Nat)
                            | Cd.lLevel => (1 : Nat)
                            | Cd.eRow => (1 : Nat)
                            | Cd.lRow => (1 : Nat)
                            | Cd.eMem => (2 : Nat)
                            | Cd.lMem => (2 : Nat)
                            | Cd.eEffect => (6 : Nat)
                            | Cd.lEffect => (6 : Nat)
                            | Cd.eTimer => (3 : Nat)
                            | Cd.lTimer => (3 : Nat)
                            | Cd.eTask => (9 : Nat)
                            | Cd.lTask => (9 : Nat)
                            | Cd.eCall => (4 : Nat)
                            | Cd.lCall => (4 : Nat)
                            | Cd.eUndo => (3 : Nat)
                            | Cd.lUndo => (3 : Nat)
                            | Cd.eInst => (8 : Nat)
                            | Cd.lInst => (8 : Nat)
                            | Cd.eRun => (10 : Nat)
                            | Cd.lRun => (10 : Nat)
                            | Cd.eOp => (11 : Nat)
                            | Cd.lOp => (11 : Nat)
                            | Cd.eWork => (10 : Nat)
                            | Cd.lWork => (10 : Nat)
                            | Cd.eBook => (4 : Nat)
                            | Cd.lBook => (4 : Nat)
                            | Cd.eSent => (5 : Nat)
                            | Cd.lSent => (5 : Nat),
                          enc := fun (x : Cd) (x_1 : Cd.T x) =>
                            match x, x_1 with
                            | Cd.int, x => enc_int x
                            | Cd.byte, x => enc_byte x
                            | Cd.str, x => enc_str x
                            | Cd.eVal, x => enc_eVal x
                            | Cd.lVal, x => enc_lVal x
                            | Cd.eFact, x => enc_eFact x
                            | Cd.lFact, x => enc_lFact x
                            | Cd.eItem, x => enc_eItem x
                            | Cd.lItem, x => enc_lItem x
                            | Cd.eStore, x => enc_eStore x
                            | Cd.lStore, x => enc_lStore x
                            | Cd.eToken, x => enc_eToken x
                            | Cd.lToken, x => enc_lToken x
                            | Cd.eArg, x => enc_eArg x
                            | Cd.lArg, x => enc_lArg x
                            | Cd.ePat, x => enc_ePat x
                            | Cd.lPat, x => enc_lPat x
                            | Cd.eBind, x => enc_eBind x
                            | Cd.lBind, x => enc_lBind x
                            | Cd.eCond, x => enc_eCond x
                            | Cd.lCond, x => enc_lCond x
                            | Cd.eExpr, x => enc_eExpr x
                            | Cd.lExpr, x => enc_lExpr x
                            | Cd.eAct, x => enc_eAct x
                            | Cd.lAct, x => enc_lAct x
                            | Cd.eRule, x => enc_eRule x
                            | Cd.lRule, x => enc_lRule x
                            | Cd.eDef, x => enc_eDef x
                            | Cd.lDef, x => enc_lDef x
                            | Cd.eMatch, x => enc_eMatch x
                            | Cd.lMatch, x => enc_lMatch x
                            | Cd.eAlpha, x => enc_eAlpha x
                            | Cd.lAlpha, x => enc_lAlpha x
                            | Cd.eChain, x => enc_eChain x
                            | Cd.lChain, x => enc_lChain x
                            | Cd.eNet, x => enc_eNet x
                            | Cd.lNet, x => enc_lNet x
                            | Cd.eIds, x => enc_eIds x
                            | Cd.lIds, x => enc_lIds x
                            | Cd.eTok, x => enc_eTok x
                            | Cd.lTok, x => enc_lTok x
                            | Cd.eLevel, x => enc_eLevel x
                            | Cd.lLevel, x => enc_lLevel x
                            | Cd.eRow, x => enc_eRow x
                            | Cd.lRow, x => enc_lRow x
                            | Cd.eMem, x => enc_eMem x
                            | Cd.lMem, x => enc_lMem x
                            | Cd.eEffect, x => enc_eEffect x
                            | Cd.lEffect, x => enc_lEffect x
                            | Cd.eTimer, x => enc_eTimer x
                            | Cd.lTimer, x => enc_lTimer x
                            | Cd.eTask, x => enc_eTask x
                            | Cd.lTask, x => enc_lTask x
                            | Cd.eCall, x => enc_eCall x
                            | Cd.lCall, x => enc_lCall x
                            | Cd.eUndo, x => enc_eUndo x
                            | Cd.lUndo, x => enc_lUndo x
                            | Cd.eInst, x => enc_eInst x
                            | Cd.lInst, x => enc_lInst x
                            | Cd.eRun, x => enc_eRun x
                            | Cd.lRun, x => enc_lRun x
                            | Cd.eOp, x => enc_eOp x
                            | Cd.lOp, x => enc_lOp x
                            | Cd.eWork, x => enc_eWork x
                            | Cd.lWork, x => enc_lWork x
                            | Cd.eBook, x => enc_eBook x
                            | Cd.lBook, x => enc_lBook x
                            | Cd.eSent, x => enc_eSent x
                            | Cd.lSent, x => enc_lSent x,
                          dec := Cd.dec,
                          dflt := fun (x : Cd) =>
                            match x with
                            | Cd.int => (0 : Int)
                            | Cd.byte => (0 : Int)
                            | Cd.str => noBytes
                            | Cd.eVal => zVal
                            | Cd.lVal => zVal
                            | Cd.eFact => zFact
                            | Cd.lFact => zFact
                            | Cd.eItem => zItem
                            | Cd.lItem => zItem
                            | Cd.eStore => zStore
                            | Cd.lStore => zStore
                            | Cd.eToken => zToken
                            | Cd.lToken => zToken
                            | Cd.eArg => zArg
                            | Cd.lArg => zArg
                            | Cd.ePat => zPat
                            | Cd.lPat => zPat
                            | Cd.eBind => zBind
                            | Cd.lBind => zBind
                            | Cd.eCond => zCond
                            | Cd.lCond => zCond
                            | Cd.eExpr => zExpr
                            | Cd.lExpr => zExpr
                            | Cd.eAct => zAct
                            | Cd.lAct => zAct
                            | Cd.eRule => zRule
                            | Cd.lRule => zRule
                            | Cd.eDef => zDef
                            | Cd.lDef => zDef
                            | Cd.eMatch => zMatch
                            | Cd.lMatch => zMatch
                            | Cd.eAlpha => zAlpha
                            | Cd.lAlpha => zAlpha
                            | Cd.eChain => zChain
                            | Cd.lChain => zChain
                            | Cd.eNet => zNet
                            | Cd.lNet => zNet
                            | Cd.eIds => zIds
                            | Cd.lIds => zIds
                            | Cd.eTok => zTok
                            | Cd.lTok => zTok
                            | Cd.eLevel => zLevel
                            | Cd.lLevel => zLevel
                            | Cd.eRow => zRow
                            | Cd.lRow => zRow
                            | Cd.eMem => zMem
                            | Cd.lMem => zMem
                            | Cd.eEffect => zEffect
                            | Cd.lEffect => zEffect
                            | Cd.eTimer => zTimer
                            | Cd.lTimer => zTimer
                            | Cd.eTask => zTask
                            | Cd.lTask => zTask
                            | Cd.eCall => zCall
                            | Cd.lCall => zCall
                            | Cd.eUndo => zUndo
                            | Cd.lUndo => zUndo
                            | Cd.eInst => zInst
                            | Cd.lInst => zInst
                            | Cd.eRun => zRun
                            | Cd.lRun => zRun
                            | Cd.eOp => zOp
                            | Cd.lOp => zOp
                            | Cd.eWork => zWork
                            | Cd.lWork => zWork
                            | Cd.eBook => zBook
                            | Cd.lBook => zBook
                            | Cd.eSent => zSent
                            | Cd.lSent => zSent,
                          flat := Cd.flat, wd_pos := UU._proof_1, enc_len := UU._proof_2, enc_dec := UU._proof_3, flat_ok := UU._proof_4, bcode := Cd.byte, toB := fun (x : Cd.T Cd.byte) => x, ofB := fun (x : Int) => x, toB_ofB := fun (x : Int) => rfl, enc_b := UU._proof_5 : Uni } }] =
                some (Value.bool x0) ∧
              bif x0 then Lf [DV.one (Cell.lit (Value.int IntKind.i64 y.1))] [DV.one (Cell.lit (Value.int IntKind.i64 (idxI (List.length l) fun (j : Nat) => boolOf (p [daWork (List.getD l j zWork)]))))] else I_IndexFuncWork_2 l p (IntKind.wrap IntKind.i64 (y.1 + (1 : Int)), PUnit.unit) ∧ μ_IndexFuncWork_2 l p (IntKind.wrap IntKind.i64 (y.1 + (1 : Int)), PUnit.unit) < μ_IndexFuncWork_2 l p y
      else Lf [DV.one (Cell.lit (Value.int IntKind.i64 (-1 : Int)))] [DV.one (Cell.lit (Value.int IntKind.i64 (idxI (List.length l) fun (j : Nat) => boolOf (p [daWork (List.getD l j zWork)]))))]) := by kernel_rfl
theorem ok_IndexFuncWork : Holds EE (23, con_IndexFuncWork) := by
  refine holds_of EE_ok Go.Proofs.Tryz.func23 con_IndexFuncWork (by kernel_rfl) rfl use_IndexFuncWork all_nil ann_IndexFuncWork (fun x hp hb => ?_)
  obtain ⟨l, p⟩ := x
  have hb_l : BdDV (U := UU) (.one (.sl .eWork l)) := hb _ (List.mem_cons_self)
  have hl_l : l.length ≤ 9223372036854775807 := Bd.len hb_l
  have hp0 : ∀ j : Nat, j < l.length → p [daWork (List.getD l j zWork)] = some (.bool (boolOf (p [daWork (List.getD l j zWork)]))) := hp _ (List.mem_cons_self)
  clear hp hb
  rw [vc_IndexFuncWork l p]
  dsimp only
  refine ⟨⟨by omega, by omega, by intro j hj; omega⟩, ?_⟩
  rintro ⟨i, ⟨⟩⟩ ⟨h1, h2, hR⟩
  simp only [daWork] at *
  refine if_cond (fun hc => ?_) (fun hc => ?_)
  · have hc := of_decide_eq_true hc
    rw [wrap_i64 (by omega) (by omega)]
    refine ⟨by omega, by omega, hp0 i.toNat (by omega), if_cond (fun h => Lf_i ?_) (fun h => ⟨⟨by omega, by omega, upto_no (p := fun j => boolOf (p [daWork (List.getD l j zWork)])) h1 hR h⟩, by simp only [μ_IndexFuncWork_2]; omega⟩)⟩
    rw [idxI_found (i := i.toNat) (by omega) h (fun j hj => hR j (by omega))]
    omega
  · have hc := of_decide_eq_false hc
    exact Lf_i (idxI_none (fun j hj => hR j (by omega))).symm
def con_impl_WorkAt_1 : Con UU where
  α := DWork × ByteArray
  md := [.ro, .ro]
  of := fun | [.agg [.lit (.string a0), .lit (.string a1), .sl .eItem a2, .lit (.int .i64 a3), .sl .eMatch a4, .sl .eTask a5, .sl .eTimer a6, .sl .eUndo a7, .lit (.int .i64 a8), .lit (.int .i64 a9)], .ptr [.lit (.string a10)]] => some (⟨a0, a1, ⟨⟨a2, a3⟩, a4, a5, a6, a7, a8, a9⟩⟩, a10) | _ => none
  ds := fun (d, name) => [.agg [.lit (.string d.Name), .lit (.string d.Def), .sl .eItem d.X.S.Items, .lit (.int .i64 d.X.S.Next), .sl .eMatch d.X.Fired, .sl .eTask d.X.Tasks, .sl .eTimer d.X.Timers, .sl .eUndo d.X.Undos, .lit (.int .i64 d.X.State), .lit (.int .i64 d.X.Now)], .ptr [.lit (.string name)]]
  pre := fun (d, name) => []
  res := fun (d, name) => ⟨[.one (.lit (.bool (decide (d.Name = name))))], true, []⟩
  law := by intro l x h; (try simp only at h); split at h <;> cases h; rfl
def ann_impl_WorkAt_1 : con_impl_WorkAt_1.α → Nat → Option (Ann UU) := fun (d, name) => annL []
def use_impl_WorkAt_1 : List (FuncId × Con UU) := []
theorem vc_impl_WorkAt_1 (d : DWork) (name : ByteArray) : goal EE use_impl_WorkAt_1 Go.Proofs.Tryz.f24 con_impl_WorkAt_1 ann_impl_WorkAt_1 (d, name) = (Lf [DV.one (Cell.lit (Value.bool (ByteArray.toList d.Name == ByteArray.toList name)))] [DV.one (Cell.lit (Value.bool (decide (d.Name = name))))]) := by kernel_rfl
theorem ok_impl_WorkAt_1 : Holds EE (24, con_impl_WorkAt_1) := by
  refine holds_of EE_ok Go.Proofs.Tryz.func24 con_impl_WorkAt_1 (by kernel_rfl) rfl use_impl_WorkAt_1 all_nil ann_impl_WorkAt_1 (fun x hp hb => ?_)
  obtain ⟨d, name⟩ := x
  have hb_d : BdDV (U := UU) (.agg [.lit (.string d.Name), .lit (.string d.Def), .sl .eItem d.X.S.Items, .lit (.int .i64 d.X.S.Next), .sl .eMatch d.X.Fired, .sl .eTask d.X.Tasks, .sl .eTimer d.X.Timers, .sl .eUndo d.X.Undos, .lit (.int .i64 d.X.State), .lit (.int .i64 d.X.Now)]) := hb _ (List.mem_cons_self)
  have hl_d_Name : d.Name.size ≤ 9223372036854775807 := Bd.str (hb_d _ (by simp))
  have hl_d_Def : d.Def.size ≤ 9223372036854775807 := Bd.str (hb_d _ (by simp))
  have hl_d_X_S_Items : d.X.S.Items.length ≤ 9223372036854775807 := Bd.len (U := UU) (τ := .eItem) (xs := d.X.S.Items) (hb_d _ (by simp))
  have hl_d_X_Fired : d.X.Fired.length ≤ 9223372036854775807 := Bd.len (U := UU) (τ := .eMatch) (xs := d.X.Fired) (hb_d _ (by simp))
  have hl_d_X_Tasks : d.X.Tasks.length ≤ 9223372036854775807 := Bd.len (U := UU) (τ := .eTask) (xs := d.X.Tasks) (hb_d _ (by simp))
  have hl_d_X_Timers : d.X.Timers.length ≤ 9223372036854775807 := Bd.len (U := UU) (τ := .eTimer) (xs := d.X.Timers) (hb_d _ (by simp))
  have hl_d_X_Undos : d.X.Undos.length ≤ 9223372036854775807 := Bd.len (U := UU) (τ := .eUndo) (xs := d.X.Undos) (hb_d _ (by simp))
  have hb_name : BdDV (U := UU) (.ptr [.lit (.string name)]) := hb _ (List.mem_cons_of_mem _ (List.mem_cons_self))
  have hl_name : name.size ≤ 9223372036854775807 := Bd.str (hb_name _ (by simp))
  clear hp hb
  rw [vc_impl_WorkAt_1 d name]
  rw [toList_beq]
  exact Lf_rfl _
def con_impl_WorkAt : Con UU where
  α := DBook × ByteArray
  md := [.ro, .ro]
  of := fun | [.agg [.sl .eDef a0, .sl .eWork a1, .lit (.int .i64 a2), .lit (.int .i64 a3)], .one (.lit (.string a4))] => some (⟨a0, a1, a2, a3⟩, a4) | _ => none
  ds := fun (b, name) => [.agg [.sl .eDef b.Defs, .sl .eWork b.Works, .lit (.int .i64 b.Now), .lit (.int .i64 b.Ring)], .one (.lit (.string name))]
  pre := fun (b, name) => []
  res := fun (b, name) => ⟨[.one (.lit (.int .i64 (workAt b.Works name)))], true, []⟩
  law := by intro l x h; (try simp only at h); split at h <;> cases h; rfl
def ann_impl_WorkAt : con_impl_WorkAt.α → Nat → Option (Ann UU) := fun (b, name) => annL []
def use_impl_WorkAt : List (FuncId × Con UU) := [(23, con_IndexFuncWork), (24, con_impl_WorkAt_1)]
theorem vc_impl_WorkAt (b : DBook) (name : ByteArray) : goal EE use_impl_WorkAt Go.Proofs.Tryz.f12 con_impl_WorkAt ann_impl_WorkAt (b, name) = ((∀ (j : Nat), j < List.length b.Works → closP con_impl_WorkAt_1 [DV.ptr [Cell.lit (Value.string name)]] [daWork (List.getD b.Works j zWork)] = some (Value.bool (boolOf (closP con_impl_WorkAt_1 [DV.ptr [Cell.lit (Value.string name)]] [daWork (List.getD b.Works j zWork)])))) ∧ Lf [DV.one (Cell.lit (Value.int IntKind.i64 (idxI (List.length b.Works) fun (j : Nat) => boolOf (closP con_impl_WorkAt_1 [DV.ptr [Cell.lit (Value.string name)]] [daWork (List.getD b.Works j zWork)]))))] [DV.one (Cell.lit (Value.int IntKind.i64 (workAt b.Works name)))]) := by kernel_rfl
theorem ok_impl_WorkAt : Holds EE (12, con_impl_WorkAt) := by
  refine holds_of EE_ok Go.Proofs.Tryz.func12 con_impl_WorkAt (by kernel_rfl) rfl use_impl_WorkAt (all_cons ok_IndexFuncWork (all_cons ok_impl_WorkAt_1 all_nil)) ann_impl_WorkAt (fun x hp hb => ?_)
  obtain ⟨b, name⟩ := x
  have hb_b : BdDV (U := UU) (.agg [.sl .eDef b.Defs, .sl .eWork b.Works, .lit (.int .i64 b.Now), .lit (.int .i64 b.Ring)]) := hb _ (List.mem_cons_self)
  have hl_b_Defs : b.Defs.length ≤ 9223372036854775807 := Bd.len (U := UU) (τ := .eDef) (xs := b.Defs) (hb_b _ (by simp))
  have hl_b_Works : b.Works.length ≤ 9223372036854775807 := Bd.len (U := UU) (τ := .eWork) (xs := b.Works) (hb_b _ (by simp))
  have hb_name : BdDV (U := UU) (.one (.lit (.string name))) := hb _ (List.mem_cons_of_mem _ (List.mem_cons_self))
  have hl_name : name.size ≤ 9223372036854775807 := Bd.str hb_name
  clear hp hb
  rw [vc_impl_WorkAt b name]
  have hc : ∀ x : DWork, closP con_impl_WorkAt_1 [.ptr [.lit (.string name)]] [daWork x] = some (.bool (decide (x.Name = name))) := fun x => closP_of (x := (x, name)) rfl rfl rfl rfl (by simp [con_impl_WorkAt_1])
  refine ⟨fun j hj => ?_, Lf_i ?_⟩
  · show closP con_impl_WorkAt_1 [.ptr [.lit (.string name)]] [daWork (List.getD b.Works j zWork)] = _
    rw [hc]; rfl
  · exact idxI_congr fun j hj => by
      show boolOf (closP con_impl_WorkAt_1 [.ptr [.lit (.string name)]] [daWork (List.getD b.Works j zWork)]) = _
      rw [hc]; rfl
def con_spec_WorkAt : Con UU where
  α := DBook × ByteArray
  md := [.ro, .ro]
  of := fun | [.agg [.sl .eDef a0, .sl .eWork a1, .lit (.int .i64 a2), .lit (.int .i64 a3)], .one (.lit (.string a4))] => some (⟨a0, a1, a2, a3⟩, a4) | _ => none
  ds := fun (b, name) => [.agg [.sl .eDef b.Defs, .sl .eWork b.Works, .lit (.int .i64 b.Now), .lit (.int .i64 b.Ring)], .one (.lit (.string name))]
  pre := fun (b, name) => []
  res := fun (b, name) => ⟨[.one (.lit (.int .i64 (workAt b.Works name)))], true, []⟩
  law := by intro l x h; (try simp only at h); split at h <;> cases h; rfl
def I_spec_WorkAt_2 (b : DBook) (name : ByteArray) : Int × (List DDef × List DWork × Int × Int × Unit) × Unit → Prop := fun (i, fb, _) => fb = (b.Defs, b.Works, b.Now, b.Ring, ()) ∧ 0 ≤ i ∧ i ≤ b.Works.length ∧ ∀ j : Nat, (j : Int) < i → decide ((List.getD b.Works j zWork).Name = name) = false
def μ_spec_WorkAt_2 (b : DBook) (name : ByteArray) : Int × (List DDef × List DWork × Int × Int × Unit) × Unit → Nat := fun (i, fb, _) => b.Works.length - i.toNat
def ann_spec_WorkAt : con_spec_WorkAt.α → Nat → Option (Ann UU) := fun (b, name) => annL [(2, annOf [.slot 5 (5, 1024) (.lit (.int .i64)), .box 2 (2, 1024) [.shr .eDef, .shr .eWork, .lit (.int .i64), .lit (.int .i64)]] (fun _ => I_spec_WorkAt_2 b name) (μ_spec_WorkAt_2 b name))]
def use_spec_WorkAt : List (FuncId × Con UU) := []
theorem vc_spec_WorkAt (b : DBook) (name : ByteArray) : goal EE use_spec_WorkAt Go.Proofs.Tryz.f11 con_spec_WorkAt ann_spec_WorkAt (b, name) = (I_spec_WorkAt_2 b name ((0 : Int), (b.Defs, b.Works, b.Now, b.Ring, PUnit.unit), PUnit.unit) ∧
  ∀ (y : Int × (List DDef × List DWork × Int × Int × PUnit) × PUnit),
    let x0 : Int := (↑(List.length y.2.1.2.1) : Int);
    I_spec_WorkAt_2 b name y → bif decide (y.1 < x0) then (0 : Int) ≤ y.1 ∧ Int.toNat y.1 < List.length y.2.1.2.1 ∧ bif ByteArray.toList (List.getD y.2.1.2.1 (Int.toNat y.1) zWork).Name == ByteArray.toList name then Lf [DV.one (Cell.lit (Value.int IntKind.i64 y.1))] [DV.one (Cell.lit (Value.int IntKind.i64 (workAt b.Works name)))] else I_spec_WorkAt_2 b name (IntKind.wrap IntKind.i64 (y.1 + (1 : Int)), (y.2.1.1, y.2.1.2.1, y.2.1.2.2.1, y.2.1.2.2.2.1, PUnit.unit), PUnit.unit) ∧ μ_spec_WorkAt_2 b name (IntKind.wrap IntKind.i64 (y.1 + (1 : Int)), (y.2.1.1, y.2.1.2.1, y.2.1.2.2.1, y.2.1.2.2.2.1, PUnit.unit), PUnit.unit) < μ_spec_WorkAt_2 b name y else Lf [DV.one (Cell.lit (Value.int IntKind.i64 (-1 : Int)))] [DV.one (Cell.lit (Value.int IntKind.i64 (workAt b.Works name)))]) := by kernel_rfl
theorem ok_spec_WorkAt : Holds EE (11, con_spec_WorkAt) := by
  refine holds_of EE_ok Go.Proofs.Tryz.func11 con_spec_WorkAt (by kernel_rfl) rfl use_spec_WorkAt all_nil ann_spec_WorkAt (fun x hp hb => ?_)
  obtain ⟨b, name⟩ := x
  have hb_b : BdDV (U := UU) (.agg [.sl .eDef b.Defs, .sl .eWork b.Works, .lit (.int .i64 b.Now), .lit (.int .i64 b.Ring)]) := hb _ (List.mem_cons_self)
  have hl_b_Defs : b.Defs.length ≤ 9223372036854775807 := Bd.len (U := UU) (τ := .eDef) (xs := b.Defs) (hb_b _ (by simp))
  have hl_b_Works : b.Works.length ≤ 9223372036854775807 := Bd.len (U := UU) (τ := .eWork) (xs := b.Works) (hb_b _ (by simp))
  have hb_name : BdDV (U := UU) (.one (.lit (.string name))) := hb _ (List.mem_cons_of_mem _ (List.mem_cons_self))
  have hl_name : name.size ≤ 9223372036854775807 := Bd.str hb_name
  clear hp hb
  rw [vc_spec_WorkAt b name]
  dsimp only
  refine ⟨⟨rfl, by omega, by omega, by intro j hj; omega⟩, ?_⟩
  rintro ⟨i, fb, ⟨⟩⟩ ⟨rfl, h1, h2, hR⟩
  simp only
  refine if_cond (fun hc => ?_) (fun hc => ?_)
  · have hc : i < b.Works.length := of_decide_eq_true hc
    simp (disch := omega) only [wrap_i64, toList_beq]
    refine ⟨by omega, by omega, if_cond (fun h => Lf_i ?_) (fun h => ⟨⟨rfl, by omega, by omega, upto_no (p := fun j => decide ((List.getD b.Works j zWork).Name = name)) h1 hR h⟩, by simp only [μ_spec_WorkAt_2]; omega⟩)⟩
    rw [workAt, idxI_found (i := i.toNat) (by omega) h (fun j hj => hR j (by omega))]
    omega
  · have hc : ¬ i < b.Works.length := of_decide_eq_false hc
    exact Lf_i (idxI_none (fun j hj => hR j (by omega))).symm
def con_laws_FnExactWorkAt : Con UU where
  α := DBook × ByteArray
  md := [.ro, .ro]
  of := fun | [.agg [.sl .lDef a0, .sl .lWork a1, .lit (.int .i64 a2), .lit (.int .i64 a3)], .one (.lit (.string a4))] => some (⟨a0, a1, a2, a3⟩, a4) | _ => none
  ds := fun (aB, aName) => [.agg [.sl .lDef aB.Defs, .sl .lWork aB.Works, .lit (.int .i64 aB.Now), .lit (.int .i64 aB.Ring)], .one (.lit (.string aName))]
  pre := fun (aB, aName) => []
  res := fun (aB, aName) => ⟨[.one (.lit (.bool true))], true, []⟩
  law := by intro l x h; (try simp only at h); split at h <;> cases h; rfl
def ann_laws_FnExactWorkAt : con_laws_FnExactWorkAt.α → Nat → Option (Ann UU) := fun (aB, aName) => annL []
def use_laws_FnExactWorkAt : List (FuncId × Con UU) := [(6, con_laws_szBook), (8, con_laws_toBook), (11, con_spec_WorkAt), (12, con_impl_WorkAt), (10, con_laws_eqBook)]
theorem vc_laws_FnExactWorkAt (aB : DBook) (aName : ByteArray) : goal EE use_laws_FnExactWorkAt Go.Proofs.Tryz.f4 con_laws_FnExactWorkAt ann_laws_FnExactWorkAt (aB, aName) = (bif decide ((↑(ByteArray.size aName) : Int) > (1048576 : Int)) then Lf [DV.one (Cell.lit (Value.bool true))] [DV.one (Cell.lit (Value.bool true))] else (0 : Int) ≤ (1048576 : Int) ∧ bif decide (szr (1048576 : Int) (sizeBook aB) < (0 : Int)) then Lf [DV.one (Cell.lit (Value.bool true))] [DV.one (Cell.lit (Value.bool true))] else sizeBook aB ≤ (4294967296 : Nat) ∧ sizeBook aB ≤ (4294967296 : Nat) ∧ bif workAt aB.Works aName != workAt aB.Works aName then Lf [DV.one (Cell.lit (Value.bool false))] [DV.one (Cell.lit (Value.bool true))] else sizeBook aB ≤ (4294967296 : Nat) ∧ bif !decide (aB = aB) then Lf [DV.one (Cell.lit (Value.bool false))] [DV.one (Cell.lit (Value.bool true))] else Lf [DV.one (Cell.lit (Value.bool true))] [DV.one (Cell.lit (Value.bool true))]) := by kernel_rfl
theorem ok_laws_FnExactWorkAt : Holds EE (4, con_laws_FnExactWorkAt) := by
  refine holds_of EE_ok Go.Proofs.Tryz.func4 con_laws_FnExactWorkAt (by kernel_rfl) rfl use_laws_FnExactWorkAt (all_cons ok_laws_szBook (all_cons ok_laws_toBook (all_cons ok_spec_WorkAt (all_cons ok_impl_WorkAt (all_cons ok_laws_eqBook all_nil))))) ann_laws_FnExactWorkAt (fun x hp hb => ?_)
  obtain ⟨aB, aName⟩ := x
  have hb_aB : BdDV (U := UU) (.agg [.sl .lDef aB.Defs, .sl .lWork aB.Works, .lit (.int .i64 aB.Now), .lit (.int .i64 aB.Ring)]) := hb _ (List.mem_cons_self)
  have hl_aB_Defs : aB.Defs.length ≤ 9223372036854775807 := Bd.len (U := UU) (τ := .lDef) (xs := aB.Defs) (hb_aB _ (by simp))
  have hl_aB_Works : aB.Works.length ≤ 9223372036854775807 := Bd.len (U := UU) (τ := .lWork) (xs := aB.Works) (hb_aB _ (by simp))
  have hb_aName : BdDV (U := UU) (.one (.lit (.string aName))) := hb _ (List.mem_cons_of_mem _ (List.mem_cons_self))
  have hl_aName : aName.size ≤ 9223372036854775807 := Bd.str hb_aName
  clear hp hb
  rw [vc_laws_FnExactWorkAt aB aName]
  refine if_cond (fun h => Lf_rfl _) (fun hu => ?_)
  refine ⟨by omega, if_cond (fun h => Lf_rfl _) (fun h => ?_)⟩
  obtain ⟨e0, h0⟩ := szr_pos h
  repeat' (first | exact Lf_rfl _ | refine And.intro (by omega) ?_ | refine if_cond (fun h => absurd h (by simp)) (fun h => ?_) | fail)
end
end AM
