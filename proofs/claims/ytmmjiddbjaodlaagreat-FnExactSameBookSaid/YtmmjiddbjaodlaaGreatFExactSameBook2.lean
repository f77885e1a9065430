/- Functions of the program with their contracts: put together by gen/link.py for FnExactSameBook. -/
import Derived.Test.YtmmjiddbjaodlaaGreatAmLib
import Derived.Test.YtmmjiddbjaodlaaGreatAmModels
import Derived.Test.YtmmjiddbjaodlaaGreatFExactSameBook
namespace AM
open Go
set_option linter.unusedVariables false
set_option linter.unusedSimpArgs false
set_option maxRecDepth 100000
noncomputable section
def con_laws_szActS : Con UU where
  α := (List DAct) × Int
  md := [.ro, .ro]
  of := fun | [.one (.sl .lAct a0), .one (.lit (.int .i64 a1))] => some (a0, a1) | _ => none
  ds := fun (a, left) => [.one (.sl .lAct a), .one (.lit (.int .i64 left))]
  pre := fun (a, left) => [0 ≤ left]
  res := fun (a, left) => ⟨[.one (.lit (.int .i64 (szr left (sizeActS a))))], true, []⟩
  law := by intro l x h; (try simp only at h); split at h <;> cases h; rfl
def I_laws_szActS_5 (a : (List DAct)) (left : Int) : Int × Int × Unit → Prop := fun (lf, i, _) => 0 ≤ lf ∧ 0 ≤ i ∧ i ≤ a.length ∧ szr lf ((a.drop i.toNat).map sizeAct).sum = szr left (sizeActS a)
def μ_laws_szActS_5 (a : (List DAct)) (left : Int) : Int × Int × Unit → Nat := fun (lf, i, _) => a.length - i.toNat
def ann_laws_szActS : con_laws_szActS.α → Nat → Option (Ann UU) := fun (a, left) => annL [(5, annOf [.slot 1 (1, 1024) (.lit (.int .i64)), .slot 5 (5, 1024) (.lit (.int .i64))] (fun _ => I_laws_szActS_5 a left) (μ_laws_szActS_5 a left))]
def use_laws_szActS : List (FuncId × Con UU) := [(113, con_laws_szAct)]
theorem vc_laws_szActS (a : (List DAct)) (left : Int) : goal EE use_laws_szActS Go.Proofs.Tryz.f89 con_laws_szActS ann_laws_szActS (a, left) = (let x0 : Int := IntKind.wrap IntKind.i64 (left - (↑(List.length a) : Int));
bif decide (x0 < (0 : Int)) then Lf [DV.one (Cell.lit (Value.int IntKind.i64 (-1 : Int)))] [DV.one (Cell.lit (Value.int IntKind.i64 (szr left (sizeActS a))))]
else
  I_laws_szActS_5 a left (x0, (0 : Int), PUnit.unit) ∧
    ∀ (y : Int × Int × PUnit),
      let x1 : Int := szr y.1 (sizeAct (List.getD a (Int.toNat y.2.1) zAct));
      I_laws_szActS_5 a left y → bif decide (y.2.1 < (↑(List.length a) : Int)) then (0 : Int) ≤ y.2.1 ∧ Int.toNat y.2.1 < List.length a ∧ (0 : Int) ≤ y.1 ∧ bif decide (x1 < (0 : Int)) then Lf [DV.one (Cell.lit (Value.int IntKind.i64 (-1 : Int)))] [DV.one (Cell.lit (Value.int IntKind.i64 (szr left (sizeActS a))))] else I_laws_szActS_5 a left (x1, IntKind.wrap IntKind.i64 (y.2.1 + (1 : Int)), PUnit.unit) ∧ μ_laws_szActS_5 a left (x1, IntKind.wrap IntKind.i64 (y.2.1 + (1 : Int)), PUnit.unit) < μ_laws_szActS_5 a left y else Lf [DV.one (Cell.lit (Value.int IntKind.i64 y.1))] [DV.one (Cell.lit (Value.int IntKind.i64 (szr left (sizeActS a))))]) := by kernel_rfl
theorem ok_laws_szActS : Holds EE (89, con_laws_szActS) := by
  refine holds_of EE_ok Go.Proofs.Tryz.func89 con_laws_szActS (by kernel_rfl) use_laws_szActS (all_cons ok_laws_szAct all_nil) ann_laws_szActS (fun x hp hb => ?_)
  obtain ⟨a, left⟩ := x
  have hb_a : BdDV (U := UU) (.one (.sl .lAct a)) := hb _ (List.mem_cons_self)
  have hl_a : a.length ≤ 9223372036854775807 := Bd.len hb_a
  have hb_left : BdDV (U := UU) (.one (.lit (.int .i64 left))) := hb _ (List.mem_cons_of_mem _ (List.mem_cons_self))
  have hl_left := Bd.i64 hb_left
  have hp0 : 0 ≤ left := hp _ (List.mem_cons_self)
  clear hp hb
  rw [vc_laws_szActS a left]
  dsimp only
  rw [wrap_i64 (by omega) (by omega)]
  refine if_cond (fun h => Lf_i ?_) (fun h => ⟨?_, ?_⟩)
  · simp [szr, sizeActS] at *; omega
  · simp only [I_laws_szActS_5, sizeActS]; simp at h; have h' : 0 ≤ left - a.length := by omega
    exact ⟨h', by omega, by omega, szr_sub h'⟩
  rintro ⟨lf, i, ⟨⟩⟩ ⟨h0, h1, h2, hR⟩
  refine if_cond (fun hc => ?_) (fun hc => ?_)
  · have hc : i < a.length := by simpa using hc
    rw [drop_step a zAct h1 hc, List.map_cons, List.sum_cons] at hR
    simp only at *
    rw [wrap_i64 (by omega) (by omega)]
    generalize List.getD a i.toNat zAct = x at *
    refine ⟨by omega, by omega, by omega, if_cond (fun h => Lf_i ?_) (fun h => ⟨⟨?_, by omega, by omega, ?_⟩, ?_⟩)⟩
    · rw [← hR]; exact (szr_bad (of_decide_eq_true h)).symm
    · simp at h; omega
    · rw [← hR]; simp at h; exact szr_szr h
    · simp only [μ_laws_szActS_5]; omega
  · have hc : a.length ≤ i := by simpa using hc
    rw [drop_end a hc] at hR
    apply Lf_i; rw [← hR]; simp [szr, h0]
def con_laws_toActS : Con UU where
  α := (List DAct)
  md := [.ro]
  of := fun | [.one (.sl .lAct a0)] => some a0 | _ => none
  ds := fun a => [.one (.sl .lAct a)]
  pre := fun a => [sizeActS a ≤ 4294967296]
  res := fun a => ⟨[.one (.sl .eAct a)], true, []⟩
  law := by intro l x h; (try simp only at h); split at h <;> cases h; rfl
def I_laws_toActS_3 (a : (List DAct)) : List DAct × Int × Unit → Prop := fun (out, i, _) => 0 ≤ i ∧ i ≤ a.length ∧ out = a.take i.toNat ++ List.replicate (a.length - i.toNat) zAct
def μ_laws_toActS_3 (a : (List DAct)) : List DAct × Int × Unit → Nat := fun (out, i, _) => a.length - i.toNat
def ann_laws_toActS : con_laws_toActS.α → Nat → Option (Ann UU) := fun a => annL [(3, annOf [.slot 3 (3, 1024) (.own .eAct true), .slot 4 (4, 1024) (.lit (.int .i64))] (fun _ => I_laws_toActS_3 a) (μ_laws_toActS_3 a))]
def use_laws_toActS : List (FuncId × Con UU) := [(121, con_laws_toAct)]
theorem vc_laws_toActS (a : (List DAct)) : goal EE use_laws_toActS Go.Proofs.Tryz.f97 con_laws_toActS ann_laws_toActS a = (let x0 : Int := (↑(List.length a) : Int);
(0 : Int) ≤ x0 ∧
  x0 = x0 ∧
    x0 ≤ (4294967296 : Int) ∧
      I_laws_toActS_3 a (List.replicate (Int.toNat x0) zAct, (0 : Int), PUnit.unit) ∧
        ∀ (y : List DAct × Int × PUnit),
          let x1 : Nat := Int.toNat y.2.1;
          I_laws_toActS_3 a y → bif decide (y.2.1 < x0) then (0 : Int) ≤ y.2.1 ∧ x1 < List.length a ∧ sizeAct (List.getD a x1 zAct) ≤ (4294967296 : Nat) ∧ (0 : Int) ≤ y.2.1 ∧ x1 < List.length y.1 ∧ x1 < List.length y.1 ∧ I_laws_toActS_3 a (List.set y.1 x1 (List.getD a x1 zAct), IntKind.wrap IntKind.i64 (y.2.1 + (1 : Int)), PUnit.unit) ∧ μ_laws_toActS_3 a (List.set y.1 x1 (List.getD a x1 zAct), IntKind.wrap IntKind.i64 (y.2.1 + (1 : Int)), PUnit.unit) < μ_laws_toActS_3 a y else Lf [DV.one (Cell.sl Cd.eAct y.1)] [DV.one (Cell.sl Cd.eAct a)]) := by kernel_rfl
theorem ok_laws_toActS : Holds EE (97, con_laws_toActS) := by
  refine holds_of EE_ok Go.Proofs.Tryz.func97 con_laws_toActS (by kernel_rfl) use_laws_toActS (all_cons ok_laws_toAct all_nil) ann_laws_toActS (fun (a : (List DAct)) hp hb => ?_)
  have hb_a : BdDV (U := UU) (.one (.sl .lAct a)) := hb _ (List.mem_cons_self)
  have hl_a : a.length ≤ 9223372036854775807 := Bd.len hb_a
  have hp0 : sizeActS a ≤ 4294967296 := hp _ (List.mem_cons_self)
  clear hp hb
  rw [vc_laws_toActS a]
  dsimp only
  have hlen : a.length ≤ 4294967296 := by simp only [sizeActS] at hp0; omega
  refine ⟨by omega, rfl, by omega, ?_, ?_⟩
  · simp [I_laws_toActS_3]
  rintro ⟨out, i, ⟨⟩⟩ ⟨h1, h2, rfl⟩
  simp only at *
  refine if_cond (fun hc => ?_) (fun hc => ?_)
  · have hc : i < a.length := by simpa using hc
    rw [wrap_i64 (by omega) (by omega), set_fill a zAct h1 hc]
    exact ⟨h1, by omega, by exact Nat.le_trans (sum_getD_le sizeAct a zAct h1 hc) (by simp only [sizeActS] at hp0; omega), h1, by simp; omega, by simp; omega, ⟨by omega, by omega, rfl⟩, by simp only [μ_laws_toActS_3]; omega⟩
  · have hc : a.length ≤ i := by simpa using hc
    have e : i.toNat = a.length := by omega
    rw [e]; simp; exact Lf_rfl _
def con_laws_eqActS : Con UU where
  α := (List DAct) × (List DAct)
  md := [.ro, .ro]
  of := fun | [.one (.sl .eAct a0), .one (.sl .eAct a1)] => some (a0, a1) | _ => none
  ds := fun (a, b) => [.one (.sl .eAct a), .one (.sl .eAct b)]
  pre := fun (a, b) => []
  res := fun (a, b) => ⟨[.one (.lit (.bool (decide (a = b))))], true, []⟩
  law := by intro l x h; (try simp only at h); split at h <;> cases h; rfl
def I_laws_eqActS_4 (a : (List DAct)) (b : (List DAct)) : Int × Unit → Prop := fun (i, _) => 0 ≤ i ∧ i ≤ a.length ∧ a.length = b.length ∧ (a.drop i.toNat = b.drop i.toNat ↔ a = b)
def μ_laws_eqActS_4 (a : (List DAct)) (b : (List DAct)) : Int × Unit → Nat := fun (i, _) => a.length - i.toNat
def ann_laws_eqActS : con_laws_eqActS.α → Nat → Option (Ann UU) := fun (a, b) => annL [(4, annOf [.slot 5 (5, 1024) (.lit (.int .i64))] (fun _ => I_laws_eqActS_4 a b) (μ_laws_eqActS_4 a b))]
def use_laws_eqActS : List (FuncId × Con UU) := [(129, con_laws_eqAct)]
theorem vc_laws_eqActS (a : (List DAct)) (b : (List DAct)) : goal EE use_laws_eqActS Go.Proofs.Tryz.f105 con_laws_eqActS ann_laws_eqActS (a, b) = (bif (↑(List.length a) : Int) != (↑(List.length b) : Int) then Lf [DV.one (Cell.lit (Value.bool false))] [DV.one (Cell.lit (Value.bool (decide (a = b))))] else I_laws_eqActS_4 a b ((0 : Int), PUnit.unit) ∧ ∀ (y : Int × PUnit), I_laws_eqActS_4 a b y → bif decide (y.1 < (↑(List.length a) : Int)) then (0 : Int) ≤ y.1 ∧ Int.toNat y.1 < List.length a ∧ (0 : Int) ≤ y.1 ∧ Int.toNat y.1 < List.length b ∧ bif !decide (List.getD a (Int.toNat y.1) zAct = List.getD b (Int.toNat y.1) zAct) then Lf [DV.one (Cell.lit (Value.bool false))] [DV.one (Cell.lit (Value.bool (decide (a = b))))] else I_laws_eqActS_4 a b (IntKind.wrap IntKind.i64 (y.1 + (1 : Int)), PUnit.unit) ∧ μ_laws_eqActS_4 a b (IntKind.wrap IntKind.i64 (y.1 + (1 : Int)), PUnit.unit) < μ_laws_eqActS_4 a b y else Lf [DV.one (Cell.lit (Value.bool true))] [DV.one (Cell.lit (Value.bool (decide (a = b))))]) := by kernel_rfl
theorem ok_laws_eqActS : Holds EE (105, con_laws_eqActS) := by
  refine holds_of EE_ok Go.Proofs.Tryz.func105 con_laws_eqActS (by kernel_rfl) use_laws_eqActS (all_cons ok_laws_eqAct all_nil) ann_laws_eqActS (fun x hp hb => ?_)
  obtain ⟨a, b⟩ := x
  have hb_a : BdDV (U := UU) (.one (.sl .eAct a)) := hb _ (List.mem_cons_self)
  have hl_a : a.length ≤ 9223372036854775807 := Bd.len hb_a
  have hb_b : BdDV (U := UU) (.one (.sl .eAct b)) := hb _ (List.mem_cons_of_mem _ (List.mem_cons_self))
  have hl_b : b.length ≤ 9223372036854775807 := Bd.len hb_b
  clear hp hb
  rw [vc_laws_eqActS a b]
  refine if_cond (fun h => Lf_f ?_) (fun h => ⟨?_, ?_⟩)
  · rintro rfl; simp at h
  · simp [I_laws_eqActS_4] at *; omega
  rintro ⟨i, ⟨⟩⟩ ⟨h1, h2, h3, hR⟩
  simp only at *
  refine if_cond (fun hc => ?_) (fun hc => ?_)
  · have hc : i < a.length := by simpa using hc
    rw [drop_step a zAct h1 hc, drop_step b zAct h1 (by omega)] at hR
    rw [wrap_i64 (by omega) (by omega)]
    refine ⟨by omega, by omega, by omega, by omega, if_cond (fun h => Lf_f ?_) (fun h => ⟨⟨by omega, by omega, h3, ?_⟩, ?_⟩)⟩
    · rw [← hR]; simp at h; simp [h]
    · rw [← hR]; simp at h; simp [h]
    · simp only [μ_laws_eqActS_4]; omega
  · have hc : a.length ≤ i := by simpa using hc
    rw [drop_end a hc, drop_end b (by omega)] at hR
    exact Lf_t (hR.1 rfl)
def con_laws_szRule : Con UU where
  α := DRule × Int
  md := [.ro, .ro]
  of := fun | [.agg [.lit (.string a0), .lit (.int .i64 a1), .sl .lPat a2, .sl .lCond a3, .sl .lAct a4], .one (.lit (.int .i64 a5))] => some (⟨a0, a1, a2, a3, a4⟩, a5) | _ => none
  ds := fun (a, left) => [.agg [.lit (.string a.Name), .lit (.int .i64 a.Sal), .sl .lPat a.Pats, .sl .lCond a.Conds, .sl .lAct a.Acts], .one (.lit (.int .i64 left))]
  pre := fun (a, left) => [0 ≤ left]
  res := fun (a, left) => ⟨[.one (.lit (.int .i64 (szr left (sizeRule a))))], true, []⟩
  law := by intro l x h; (try simp only at h); split at h <;> cases h; rfl
def ann_laws_szRule : con_laws_szRule.α → Nat → Option (Ann UU) := fun (a, left) => annL []
def use_laws_szRule : List (FuncId × Con UU) := [(87, con_laws_szPatS), (88, con_laws_szCondS), (89, con_laws_szActS)]
theorem vc_laws_szRule (a : DRule) (left : Int) : goal EE use_laws_szRule Go.Proofs.Tryz.f65 con_laws_szRule ann_laws_szRule (a, left) = (let x0 : Int := szr (szr (IntKind.wrap IntKind.i64 (left - (↑(ByteArray.size a.Name) : Int))) (sizePatS a.Pats)) (sizeCondS a.Conds);
let x1 : Int := IntKind.wrap IntKind.i64 (left - (↑(ByteArray.size a.Name) : Int));
bif decide (x1 < (0 : Int)) then Lf [DV.one (Cell.lit (Value.int IntKind.i64 (-1 : Int)))] [DV.one (Cell.lit (Value.int IntKind.i64 (szr left (sizeRule a))))] else (0 : Int) ≤ x1 ∧ bif decide (szr x1 (sizePatS a.Pats) < (0 : Int)) then Lf [DV.one (Cell.lit (Value.int IntKind.i64 (-1 : Int)))] [DV.one (Cell.lit (Value.int IntKind.i64 (szr left (sizeRule a))))] else (0 : Int) ≤ szr x1 (sizePatS a.Pats) ∧ bif decide (x0 < (0 : Int)) then Lf [DV.one (Cell.lit (Value.int IntKind.i64 (-1 : Int)))] [DV.one (Cell.lit (Value.int IntKind.i64 (szr left (sizeRule a))))] else (0 : Int) ≤ x0 ∧ bif decide (szr x0 (sizeActS a.Acts) < (0 : Int)) then Lf [DV.one (Cell.lit (Value.int IntKind.i64 (-1 : Int)))] [DV.one (Cell.lit (Value.int IntKind.i64 (szr left (sizeRule a))))] else Lf [DV.one (Cell.lit (Value.int IntKind.i64 (szr x0 (sizeActS a.Acts))))] [DV.one (Cell.lit (Value.int IntKind.i64 (szr left (sizeRule a))))]) := by kernel_rfl
theorem ok_laws_szRule : Holds EE (65, con_laws_szRule) := by
  refine holds_of EE_ok Go.Proofs.Tryz.func65 con_laws_szRule (by kernel_rfl) use_laws_szRule (all_cons ok_laws_szPatS (all_cons ok_laws_szCondS (all_cons ok_laws_szActS all_nil))) ann_laws_szRule (fun x hp hb => ?_)
  obtain ⟨a, left⟩ := x
  have hb_a : BdDV (U := UU) (.agg [.lit (.string a.Name), .lit (.int .i64 a.Sal), .sl .lPat a.Pats, .sl .lCond a.Conds, .sl .lAct a.Acts]) := hb _ (List.mem_cons_self)
  have hl_a_Name : a.Name.size ≤ 9223372036854775807 := Bd.str (hb_a _ (by simp))
  have hl_a_Pats : a.Pats.length ≤ 9223372036854775807 := Bd.len (U := UU) (τ := .lPat) (xs := a.Pats) (hb_a _ (by simp))
  have hl_a_Conds : a.Conds.length ≤ 9223372036854775807 := Bd.len (U := UU) (τ := .lCond) (xs := a.Conds) (hb_a _ (by simp))
  have hl_a_Acts : a.Acts.length ≤ 9223372036854775807 := Bd.len (U := UU) (τ := .lAct) (xs := a.Acts) (hb_a _ (by simp))
  have hb_left : BdDV (U := UU) (.one (.lit (.int .i64 left))) := hb _ (List.mem_cons_of_mem _ (List.mem_cons_self))
  have hl_left := Bd.i64 hb_left
  have hp0 : 0 ≤ left := hp _ (List.mem_cons_self)
  clear hp hb
  rw [vc_laws_szRule a left]
  dsimp only
  rw [wrap_i64 (by omega) (by omega)]
  refine if_cond (fun h => Lf_i (szr_bad' ?_)) (fun h => ?_)
  · have h := of_decide_eq_true h; simp only [sizeRule]; omega
  have h0 := of_decide_eq_false h
  refine ⟨by omega, if_cond (fun h => Lf_i (szr_bad' ?_)) (fun h => ?_)⟩
  · have h := szr_neg h; simp only [sizeRule]; omega
  obtain ⟨e1, h1⟩ := szr_pos h
  rw [e1]
  refine ⟨by omega, if_cond (fun h => Lf_i (szr_bad' ?_)) (fun h => ?_)⟩
  · have h := szr_neg h; simp only [sizeRule]; omega
  obtain ⟨e2, h2⟩ := szr_pos h
  rw [e2]
  refine ⟨by omega, if_cond (fun h => Lf_i (szr_bad' ?_)) (fun h => ?_)⟩
  · have h := szr_neg h; simp only [sizeRule]; omega
  obtain ⟨e3, h3⟩ := szr_pos h
  rw [e3]
  exact Lf_i (by rw [← szr_ok' (by simp only [sizeRule]; omega)]; simp only [sizeRule]; try omega)
def con_laws_toRule : Con UU where
  α := DRule
  md := [.ro]
  of := fun | [.agg [.lit (.string a0), .lit (.int .i64 a1), .sl .lPat a2, .sl .lCond a3, .sl .lAct a4]] => some ⟨a0, a1, a2, a3, a4⟩ | _ => none
  ds := fun a => [.agg [.lit (.string a.Name), .lit (.int .i64 a.Sal), .sl .lPat a.Pats, .sl .lCond a.Conds, .sl .lAct a.Acts]]
  pre := fun a => [sizeRule a ≤ 4294967296]
  res := fun a => ⟨[.agg [.lit (.string a.Name), .lit (.int .i64 a.Sal), .sl .ePat a.Pats, .sl .eCond a.Conds, .sl .eAct a.Acts]], true, []⟩
  law := by intro l x h; (try simp only at h); split at h <;> cases h; rfl
def ann_laws_toRule : con_laws_toRule.α → Nat → Option (Ann UU) := fun a => annL []
def use_laws_toRule : List (FuncId × Con UU) := [(95, con_laws_toPatS), (96, con_laws_toCondS), (97, con_laws_toActS)]
theorem vc_laws_toRule (a : DRule) : goal EE use_laws_toRule Go.Proofs.Tryz.f72 con_laws_toRule ann_laws_toRule a = (sizePatS a.Pats ≤ (4294967296 : Nat) ∧ sizeCondS a.Conds ≤ (4294967296 : Nat) ∧ sizeActS a.Acts ≤ (4294967296 : Nat) ∧ Lf [DV.agg [Cell.lit (Value.string a.Name), Cell.lit (Value.int IntKind.i64 a.Sal), Cell.sl Cd.ePat a.Pats, Cell.sl Cd.eCond a.Conds, Cell.sl Cd.eAct a.Acts]] [DV.agg [Cell.lit (Value.string a.Name), Cell.lit (Value.int IntKind.i64 a.Sal), Cell.sl Cd.ePat a.Pats, Cell.sl Cd.eCond a.Conds, Cell.sl Cd.eAct a.Acts]]) := by kernel_rfl
theorem ok_laws_toRule : Holds EE (72, con_laws_toRule) := by
  refine holds_of EE_ok Go.Proofs.Tryz.func72 con_laws_toRule (by kernel_rfl) use_laws_toRule (all_cons ok_laws_toPatS (all_cons ok_laws_toCondS (all_cons ok_laws_toActS all_nil))) ann_laws_toRule (fun (a : DRule) hp hb => ?_)
  have hb_a : BdDV (U := UU) (.agg [.lit (.string a.Name), .lit (.int .i64 a.Sal), .sl .lPat a.Pats, .sl .lCond a.Conds, .sl .lAct a.Acts]) := hb _ (List.mem_cons_self)
  have hl_a_Name : a.Name.size ≤ 9223372036854775807 := Bd.str (hb_a _ (by simp))
  have hl_a_Pats : a.Pats.length ≤ 9223372036854775807 := Bd.len (U := UU) (τ := .lPat) (xs := a.Pats) (hb_a _ (by simp))
  have hl_a_Conds : a.Conds.length ≤ 9223372036854775807 := Bd.len (U := UU) (τ := .lCond) (xs := a.Conds) (hb_a _ (by simp))
  have hl_a_Acts : a.Acts.length ≤ 9223372036854775807 := Bd.len (U := UU) (τ := .lAct) (xs := a.Acts) (hb_a _ (by simp))
  have hp0 : sizeRule a ≤ 4294967296 := hp _ (List.mem_cons_self)
  clear hp hb
  rw [vc_laws_toRule a]
  simp only [sizeRule] at hp0
  repeat' (first | exact Lf_rfl _ | (refine And.intro (by omega) ?_))
def con_laws_eqRule : Con UU where
  α := DRule × DRule
  md := [.ro, .ro]
  of := fun | [.agg [.lit (.string a0), .lit (.int .i64 a1), .sl .ePat a2, .sl .eCond a3, .sl .eAct a4], .agg [.lit (.string a5), .lit (.int .i64 a6), .sl .ePat a7, .sl .eCond a8, .sl .eAct a9]] => some (⟨a0, a1, a2, a3, a4⟩, ⟨a5, a6, a7, a8, a9⟩) | _ => none
  ds := fun (a, b) => [.agg [.lit (.string a.Name), .lit (.int .i64 a.Sal), .sl .ePat a.Pats, .sl .eCond a.Conds, .sl .eAct a.Acts], .agg [.lit (.string b.Name), .lit (.int .i64 b.Sal), .sl .ePat b.Pats, .sl .eCond b.Conds, .sl .eAct b.Acts]]
  pre := fun (a, b) => []
  res := fun (a, b) => ⟨[.one (.lit (.bool (decide (a = b))))], true, []⟩
  law := by intro l x h; (try simp only at h); split at h <;> cases h; rfl
def ann_laws_eqRule : con_laws_eqRule.α → Nat → Option (Ann UU) := fun (a, b) => annL []
def use_laws_eqRule : List (FuncId × Con UU) := [(103, con_laws_eqPatS), (104, con_laws_eqCondS), (105, con_laws_eqActS)]
theorem vc_laws_eqRule (a : DRule) (b : DRule) : goal EE use_laws_eqRule Go.Proofs.Tryz.f81 con_laws_eqRule ann_laws_eqRule (a, b) = (bif !ByteArray.toList a.Name == ByteArray.toList b.Name then Lf [DV.one (Cell.lit (Value.bool false))] [DV.one (Cell.lit (Value.bool (decide (a = b))))] else bif a.Sal != b.Sal then Lf [DV.one (Cell.lit (Value.bool false))] [DV.one (Cell.lit (Value.bool (decide (a = b))))] else bif !decide (a.Pats = b.Pats) then Lf [DV.one (Cell.lit (Value.bool false))] [DV.one (Cell.lit (Value.bool (decide (a = b))))] else bif !decide (a.Conds = b.Conds) then Lf [DV.one (Cell.lit (Value.bool false))] [DV.one (Cell.lit (Value.bool (decide (a = b))))] else bif !decide (a.Acts = b.Acts) then Lf [DV.one (Cell.lit (Value.bool false))] [DV.one (Cell.lit (Value.bool (decide (a = b))))] else Lf [DV.one (Cell.lit (Value.bool true))] [DV.one (Cell.lit (Value.bool (decide (a = b))))]) := by kernel_rfl
theorem ok_laws_eqRule : Holds EE (81, con_laws_eqRule) := by
  refine holds_of EE_ok Go.Proofs.Tryz.func81 con_laws_eqRule (by kernel_rfl) use_laws_eqRule (all_cons ok_laws_eqPatS (all_cons ok_laws_eqCondS (all_cons ok_laws_eqActS all_nil))) ann_laws_eqRule (fun x hp hb => ?_)
  obtain ⟨a, b⟩ := x
  have hb_a : BdDV (U := UU) (.agg [.lit (.string a.Name), .lit (.int .i64 a.Sal), .sl .ePat a.Pats, .sl .eCond a.Conds, .sl .eAct a.Acts]) := hb _ (List.mem_cons_self)
  have hl_a_Name : a.Name.size ≤ 9223372036854775807 := Bd.str (hb_a _ (by simp))
  have hl_a_Pats : a.Pats.length ≤ 9223372036854775807 := Bd.len (U := UU) (τ := .ePat) (xs := a.Pats) (hb_a _ (by simp))
  have hl_a_Conds : a.Conds.length ≤ 9223372036854775807 := Bd.len (U := UU) (τ := .eCond) (xs := a.Conds) (hb_a _ (by simp))
  have hl_a_Acts : a.Acts.length ≤ 9223372036854775807 := Bd.len (U := UU) (τ := .eAct) (xs := a.Acts) (hb_a _ (by simp))
  have hb_b : BdDV (U := UU) (.agg [.lit (.string b.Name), .lit (.int .i64 b.Sal), .sl .ePat b.Pats, .sl .eCond b.Conds, .sl .eAct b.Acts]) := hb _ (List.mem_cons_of_mem _ (List.mem_cons_self))
  have hl_b_Name : b.Name.size ≤ 9223372036854775807 := Bd.str (hb_b _ (by simp))
  have hl_b_Pats : b.Pats.length ≤ 9223372036854775807 := Bd.len (U := UU) (τ := .ePat) (xs := b.Pats) (hb_b _ (by simp))
  have hl_b_Conds : b.Conds.length ≤ 9223372036854775807 := Bd.len (U := UU) (τ := .eCond) (xs := b.Conds) (hb_b _ (by simp))
  have hl_b_Acts : b.Acts.length ≤ 9223372036854775807 := Bd.len (U := UU) (τ := .eAct) (xs := b.Acts) (hb_b _ (by simp))
  clear hp hb
  rw [vc_laws_eqRule a b]
  obtain ⟨aName, aSal, aPats, aConds, aActs⟩ := a
  obtain ⟨bName, bSal, bPats, bConds, bActs⟩ := b
  repeat' (apply if_cond <;> intro _)
  all_goals (first | apply Lf_t | apply Lf_f) <;> simp_all
def con_laws_szRuleS : Con UU where
  α := (List DRule) × Int
  md := [.ro, .ro]
  of := fun | [.one (.sl .lRule a0), .one (.lit (.int .i64 a1))] => some (a0, a1) | _ => none
  ds := fun (a, left) => [.one (.sl .lRule a), .one (.lit (.int .i64 left))]
  pre := fun (a, left) => [0 ≤ left]
  res := fun (a, left) => ⟨[.one (.lit (.int .i64 (szr left (sizeRuleS a))))], true, []⟩
  law := by intro l x h; (try simp only at h); split at h <;> cases h; rfl
def I_laws_szRuleS_5 (a : (List DRule)) (left : Int) : Int × Int × Unit → Prop := fun (lf, i, _) => 0 ≤ lf ∧ 0 ≤ i ∧ i ≤ a.length ∧ szr lf ((a.drop i.toNat).map sizeRule).sum = szr left (sizeRuleS a)
def μ_laws_szRuleS_5 (a : (List DRule)) (left : Int) : Int × Int × Unit → Nat := fun (lf, i, _) => a.length - i.toNat
def ann_laws_szRuleS : con_laws_szRuleS.α → Nat → Option (Ann UU) := fun (a, left) => annL [(5, annOf [.slot 1 (1, 1024) (.lit (.int .i64)), .slot 5 (5, 1024) (.lit (.int .i64))] (fun _ => I_laws_szRuleS_5 a left) (μ_laws_szRuleS_5 a left))]
def use_laws_szRuleS : List (FuncId × Con UU) := [(65, con_laws_szRule)]
theorem vc_laws_szRuleS (a : (List DRule)) (left : Int) : goal EE use_laws_szRuleS Go.Proofs.Tryz.f45 con_laws_szRuleS ann_laws_szRuleS (a, left) = (let x0 : Int := IntKind.wrap IntKind.i64 (left - (↑(List.length a) : Int));
bif decide (x0 < (0 : Int)) then Lf [DV.one (Cell.lit (Value.int IntKind.i64 (-1 : Int)))] [DV.one (Cell.lit (Value.int IntKind.i64 (szr left (sizeRuleS a))))]
else
  I_laws_szRuleS_5 a left (x0, (0 : Int), PUnit.unit) ∧
    ∀ (y : Int × Int × PUnit),
      let x1 : Int := szr y.1 (sizeRule (List.getD a (Int.toNat y.2.1) zRule));
      I_laws_szRuleS_5 a left y → bif decide (y.2.1 < (↑(List.length a) : Int)) then (0 : Int) ≤ y.2.1 ∧ Int.toNat y.2.1 < List.length a ∧ (0 : Int) ≤ y.1 ∧ bif decide (x1 < (0 : Int)) then Lf [DV.one (Cell.lit (Value.int IntKind.i64 (-1 : Int)))] [DV.one (Cell.lit (Value.int IntKind.i64 (szr left (sizeRuleS a))))] else I_laws_szRuleS_5 a left (x1, IntKind.wrap IntKind.i64 (y.2.1 + (1 : Int)), PUnit.unit) ∧ μ_laws_szRuleS_5 a left (x1, IntKind.wrap IntKind.i64 (y.2.1 + (1 : Int)), PUnit.unit) < μ_laws_szRuleS_5 a left y else Lf [DV.one (Cell.lit (Value.int IntKind.i64 y.1))] [DV.one (Cell.lit (Value.int IntKind.i64 (szr left (sizeRuleS a))))]) := by kernel_rfl
theorem ok_laws_szRuleS : Holds EE (45, con_laws_szRuleS) := by
  refine holds_of EE_ok Go.Proofs.Tryz.func45 con_laws_szRuleS (by kernel_rfl) use_laws_szRuleS (all_cons ok_laws_szRule all_nil) ann_laws_szRuleS (fun x hp hb => ?_)
  obtain ⟨a, left⟩ := x
  have hb_a : BdDV (U := UU) (.one (.sl .lRule a)) := hb _ (List.mem_cons_self)
  have hl_a : a.length ≤ 9223372036854775807 := Bd.len hb_a
  have hb_left : BdDV (U := UU) (.one (.lit (.int .i64 left))) := hb _ (List.mem_cons_of_mem _ (List.mem_cons_self))
  have hl_left := Bd.i64 hb_left
  have hp0 : 0 ≤ left := hp _ (List.mem_cons_self)
  clear hp hb
  rw [vc_laws_szRuleS a left]
  dsimp only
  rw [wrap_i64 (by omega) (by omega)]
  refine if_cond (fun h => Lf_i ?_) (fun h => ⟨?_, ?_⟩)
  · simp [szr, sizeRuleS] at *; omega
  · simp only [I_laws_szRuleS_5, sizeRuleS]; simp at h; have h' : 0 ≤ left - a.length := by omega
    exact ⟨h', by omega, by omega, szr_sub h'⟩
  rintro ⟨lf, i, ⟨⟩⟩ ⟨h0, h1, h2, hR⟩
  refine if_cond (fun hc => ?_) (fun hc => ?_)
  · have hc : i < a.length := by simpa using hc
    rw [drop_step a zRule h1 hc, List.map_cons, List.sum_cons] at hR
    simp only at *
    rw [wrap_i64 (by omega) (by omega)]
    generalize List.getD a i.toNat zRule = x at *
    refine ⟨by omega, by omega, by omega, if_cond (fun h => Lf_i ?_) (fun h => ⟨⟨?_, by omega, by omega, ?_⟩, ?_⟩)⟩
    · rw [← hR]; exact (szr_bad (of_decide_eq_true h)).symm
    · simp at h; omega
    · rw [← hR]; simp at h; exact szr_szr h
    · simp only [μ_laws_szRuleS_5]; omega
  · have hc : a.length ≤ i := by simpa using hc
    rw [drop_end a hc] at hR
    apply Lf_i; rw [← hR]; simp [szr, h0]
def con_laws_toRuleS : Con UU where
  α := (List DRule)
  md := [.ro]
  of := fun | [.one (.sl .lRule a0)] => some a0 | _ => none
  ds := fun a => [.one (.sl .lRule a)]
  pre := fun a => [sizeRuleS a ≤ 4294967296]
  res := fun a => ⟨[.one (.sl .eRule a)], true, []⟩
  law := by intro l x h; (try simp only at h); split at h <;> cases h; rfl
def I_laws_toRuleS_3 (a : (List DRule)) : List DRule × Int × Unit → Prop := fun (out, i, _) => 0 ≤ i ∧ i ≤ a.length ∧ out = a.take i.toNat ++ List.replicate (a.length - i.toNat) zRule
def μ_laws_toRuleS_3 (a : (List DRule)) : List DRule × Int × Unit → Nat := fun (out, i, _) => a.length - i.toNat
def ann_laws_toRuleS : con_laws_toRuleS.α → Nat → Option (Ann UU) := fun a => annL [(3, annOf [.slot 3 (3, 1024) (.own .eRule true), .slot 4 (4, 1024) (.lit (.int .i64))] (fun _ => I_laws_toRuleS_3 a) (μ_laws_toRuleS_3 a))]
def use_laws_toRuleS : List (FuncId × Con UU) := [(72, con_laws_toRule)]
theorem vc_laws_toRuleS (a : (List DRule)) : goal EE use_laws_toRuleS Go.Proofs.Tryz.f51 con_laws_toRuleS ann_laws_toRuleS a = (let x0 : Int := (↑(List.length a) : Int);
(0 : Int) ≤ x0 ∧
  x0 = x0 ∧
    x0 ≤ (4294967296 : Int) ∧
      I_laws_toRuleS_3 a (List.replicate (Int.toNat x0) zRule, (0 : Int), PUnit.unit) ∧
        ∀ (y : List DRule × Int × PUnit),
          let x1 : Nat := Int.toNat y.2.1;
          I_laws_toRuleS_3 a y → bif decide (y.2.1 < x0) then (0 : Int) ≤ y.2.1 ∧ x1 < List.length a ∧ sizeRule (List.getD a x1 zRule) ≤ (4294967296 : Nat) ∧ (0 : Int) ≤ y.2.1 ∧ x1 < List.length y.1 ∧ x1 < List.length y.1 ∧ I_laws_toRuleS_3 a (List.set y.1 x1 (List.getD a x1 zRule), IntKind.wrap IntKind.i64 (y.2.1 + (1 : Int)), PUnit.unit) ∧ μ_laws_toRuleS_3 a (List.set y.1 x1 (List.getD a x1 zRule), IntKind.wrap IntKind.i64 (y.2.1 + (1 : Int)), PUnit.unit) < μ_laws_toRuleS_3 a y else Lf [DV.one (Cell.sl Cd.eRule y.1)] [DV.one (Cell.sl Cd.eRule a)]) := by kernel_rfl
theorem ok_laws_toRuleS : Holds EE (51, con_laws_toRuleS) := by
  refine holds_of EE_ok Go.Proofs.Tryz.func51 con_laws_toRuleS (by kernel_rfl) use_laws_toRuleS (all_cons ok_laws_toRule all_nil) ann_laws_toRuleS (fun (a : (List DRule)) hp hb => ?_)
  have hb_a : BdDV (U := UU) (.one (.sl .lRule a)) := hb _ (List.mem_cons_self)
  have hl_a : a.length ≤ 9223372036854775807 := Bd.len hb_a
  have hp0 : sizeRuleS a ≤ 4294967296 := hp _ (List.mem_cons_self)
  clear hp hb
  rw [vc_laws_toRuleS a]
  dsimp only
  have hlen : a.length ≤ 4294967296 := by simp only [sizeRuleS] at hp0; omega
  refine ⟨by omega, rfl, by omega, ?_, ?_⟩
  · simp [I_laws_toRuleS_3]
  rintro ⟨out, i, ⟨⟩⟩ ⟨h1, h2, rfl⟩
  simp only at *
  refine if_cond (fun hc => ?_) (fun hc => ?_)
  · have hc : i < a.length := by simpa using hc
    rw [wrap_i64 (by omega) (by omega), set_fill a zRule h1 hc]
    exact ⟨h1, by omega, by exact Nat.le_trans (sum_getD_le sizeRule a zRule h1 hc) (by simp only [sizeRuleS] at hp0; omega), h1, by simp; omega, by simp; omega, ⟨by omega, by omega, rfl⟩, by simp only [μ_laws_toRuleS_3]; omega⟩
  · have hc : a.length ≤ i := by simpa using hc
    have e : i.toNat = a.length := by omega
    rw [e]; simp; exact Lf_rfl _
def con_laws_eqRuleS : Con UU where
  α := (List DRule) × (List DRule)
  md := [.ro, .ro]
  of := fun | [.one (.sl .eRule a0), .one (.sl .eRule a1)] => some (a0, a1) | _ => none
  ds := fun (a, b) => [.one (.sl .eRule a), .one (.sl .eRule b)]
  pre := fun (a, b) => []
  res := fun (a, b) => ⟨[.one (.lit (.bool (decide (a = b))))], true, []⟩
  law := by intro l x h; (try simp only at h); split at h <;> cases h; rfl
def I_laws_eqRuleS_4 (a : (List DRule)) (b : (List DRule)) : Int × Unit → Prop := fun (i, _) => 0 ≤ i ∧ i ≤ a.length ∧ a.length = b.length ∧ (a.drop i.toNat = b.drop i.toNat ↔ a = b)
def μ_laws_eqRuleS_4 (a : (List DRule)) (b : (List DRule)) : Int × Unit → Nat := fun (i, _) => a.length - i.toNat
def ann_laws_eqRuleS : con_laws_eqRuleS.α → Nat → Option (Ann UU) := fun (a, b) => annL [(4, annOf [.slot 5 (5, 1024) (.lit (.int .i64))] (fun _ => I_laws_eqRuleS_4 a b) (μ_laws_eqRuleS_4 a b))]
def use_laws_eqRuleS : List (FuncId × Con UU) := [(81, con_laws_eqRule)]
theorem vc_laws_eqRuleS (a : (List DRule)) (b : (List DRule)) : goal EE use_laws_eqRuleS Go.Proofs.Tryz.f63 con_laws_eqRuleS ann_laws_eqRuleS (a, b) = (bif (↑(List.length a) : Int) != (↑(List.length b) : Int) then Lf [DV.one (Cell.lit (Value.bool false))] [DV.one (Cell.lit (Value.bool (decide (a = b))))] else I_laws_eqRuleS_4 a b ((0 : Int), PUnit.unit) ∧ ∀ (y : Int × PUnit), I_laws_eqRuleS_4 a b y → bif decide (y.1 < (↑(List.length a) : Int)) then (0 : Int) ≤ y.1 ∧ Int.toNat y.1 < List.length a ∧ (0 : Int) ≤ y.1 ∧ Int.toNat y.1 < List.length b ∧ bif !decide (List.getD a (Int.toNat y.1) zRule = List.getD b (Int.toNat y.1) zRule) then Lf [DV.one (Cell.lit (Value.bool false))] [DV.one (Cell.lit (Value.bool (decide (a = b))))] else I_laws_eqRuleS_4 a b (IntKind.wrap IntKind.i64 (y.1 + (1 : Int)), PUnit.unit) ∧ μ_laws_eqRuleS_4 a b (IntKind.wrap IntKind.i64 (y.1 + (1 : Int)), PUnit.unit) < μ_laws_eqRuleS_4 a b y else Lf [DV.one (Cell.lit (Value.bool true))] [DV.one (Cell.lit (Value.bool (decide (a = b))))]) := by kernel_rfl
theorem ok_laws_eqRuleS : Holds EE (63, con_laws_eqRuleS) := by
  refine holds_of EE_ok Go.Proofs.Tryz.func63 con_laws_eqRuleS (by kernel_rfl) use_laws_eqRuleS (all_cons ok_laws_eqRule all_nil) ann_laws_eqRuleS (fun x hp hb => ?_)
  obtain ⟨a, b⟩ := x
  have hb_a : BdDV (U := UU) (.one (.sl .eRule a)) := hb _ (List.mem_cons_self)
  have hl_a : a.length ≤ 9223372036854775807 := Bd.len hb_a
  have hb_b : BdDV (U := UU) (.one (.sl .eRule b)) := hb _ (List.mem_cons_of_mem _ (List.mem_cons_self))
  have hl_b : b.length ≤ 9223372036854775807 := Bd.len hb_b
  clear hp hb
  rw [vc_laws_eqRuleS a b]
  refine if_cond (fun h => Lf_f ?_) (fun h => ⟨?_, ?_⟩)
  · rintro rfl; simp at h
  · simp [I_laws_eqRuleS_4] at *; omega
  rintro ⟨i, ⟨⟩⟩ ⟨h1, h2, h3, hR⟩
  simp only at *
  refine if_cond (fun hc => ?_) (fun hc => ?_)
  · have hc : i < a.length := by simpa using hc
    rw [drop_step a zRule h1 hc, drop_step b zRule h1 (by omega)] at hR
    rw [wrap_i64 (by omega) (by omega)]
    refine ⟨by omega, by omega, by omega, by omega, if_cond (fun h => Lf_f ?_) (fun h => ⟨⟨by omega, by omega, h3, ?_⟩, ?_⟩)⟩
    · rw [← hR]; simp at h; simp [h]
    · rw [← hR]; simp at h; simp [h]
    · simp only [μ_laws_eqRuleS_4]; omega
  · have hc : a.length ≤ i := by simpa using hc
    rw [drop_end a hc, drop_end b (by omega)] at hR
    exact Lf_t (hR.1 rfl)
def con_laws_szDef : Con UU where
  α := DDef × Int
  md := [.ro, .ro]
  of := fun | [.agg [.lit (.string a0), .sl .lRule a1], .one (.lit (.int .i64 a2))] => some (⟨a0, a1⟩, a2) | _ => none
  ds := fun (a, left) => [.agg [.lit (.string a.Name), .sl .lRule a.Rules], .one (.lit (.int .i64 left))]
  pre := fun (a, left) => [0 ≤ left]
  res := fun (a, left) => ⟨[.one (.lit (.int .i64 (szr left (sizeDef a))))], true, []⟩
  law := by intro l x h; (try simp only at h); split at h <;> cases h; rfl
def ann_laws_szDef : con_laws_szDef.α → Nat → Option (Ann UU) := fun (a, left) => annL []
def use_laws_szDef : List (FuncId × Con UU) := [(45, con_laws_szRuleS)]
theorem vc_laws_szDef (a : DDef) (left : Int) : goal EE use_laws_szDef Go.Proofs.Tryz.f22 con_laws_szDef ann_laws_szDef (a, left) = (let x0 : Int := IntKind.wrap IntKind.i64 (left - (↑(ByteArray.size a.Name) : Int));
bif decide (x0 < (0 : Int)) then Lf [DV.one (Cell.lit (Value.int IntKind.i64 (-1 : Int)))] [DV.one (Cell.lit (Value.int IntKind.i64 (szr left (sizeDef a))))] else (0 : Int) ≤ x0 ∧ bif decide (szr x0 (sizeRuleS a.Rules) < (0 : Int)) then Lf [DV.one (Cell.lit (Value.int IntKind.i64 (-1 : Int)))] [DV.one (Cell.lit (Value.int IntKind.i64 (szr left (sizeDef a))))] else Lf [DV.one (Cell.lit (Value.int IntKind.i64 (szr x0 (sizeRuleS a.Rules))))] [DV.one (Cell.lit (Value.int IntKind.i64 (szr left (sizeDef a))))]) := by kernel_rfl
theorem ok_laws_szDef : Holds EE (22, con_laws_szDef) := by
  refine holds_of EE_ok Go.Proofs.Tryz.func22 con_laws_szDef (by kernel_rfl) use_laws_szDef (all_cons ok_laws_szRuleS all_nil) ann_laws_szDef (fun x hp hb => ?_)
  obtain ⟨a, left⟩ := x
  have hb_a : BdDV (U := UU) (.agg [.lit (.string a.Name), .sl .lRule a.Rules]) := hb _ (List.mem_cons_self)
  have hl_a_Name : a.Name.size ≤ 9223372036854775807 := Bd.str (hb_a _ (by simp))
  have hl_a_Rules : a.Rules.length ≤ 9223372036854775807 := Bd.len (U := UU) (τ := .lRule) (xs := a.Rules) (hb_a _ (by simp))
  have hb_left : BdDV (U := UU) (.one (.lit (.int .i64 left))) := hb _ (List.mem_cons_of_mem _ (List.mem_cons_self))
  have hl_left := Bd.i64 hb_left
  have hp0 : 0 ≤ left := hp _ (List.mem_cons_self)
  clear hp hb
  rw [vc_laws_szDef a left]
  dsimp only
  rw [wrap_i64 (by omega) (by omega)]
  refine if_cond (fun h => Lf_i (szr_bad' ?_)) (fun h => ?_)
  · have h := of_decide_eq_true h; simp only [sizeDef]; omega
  have h0 := of_decide_eq_false h
  refine ⟨by omega, if_cond (fun h => Lf_i (szr_bad' ?_)) (fun h => ?_)⟩
  · have h := szr_neg h; simp only [sizeDef]; omega
  obtain ⟨e1, h1⟩ := szr_pos h
  rw [e1]
  exact Lf_i (by rw [← szr_ok' (by simp only [sizeDef]; omega)]; simp only [sizeDef]; try omega)
def con_laws_toDef : Con UU where
  α := DDef
  md := [.ro]
  of := fun | [.agg [.lit (.string a0), .sl .lRule a1]] => some ⟨a0, a1⟩ | _ => none
  ds := fun a => [.agg [.lit (.string a.Name), .sl .lRule a.Rules]]
  pre := fun a => [sizeDef a ≤ 4294967296]
  res := fun a => ⟨[.agg [.lit (.string a.Name), .sl .eRule a.Rules]], true, []⟩
  law := by intro l x h; (try simp only at h); split at h <;> cases h; rfl
def ann_laws_toDef : con_laws_toDef.α → Nat → Option (Ann UU) := fun a => annL []
def use_laws_toDef : List (FuncId × Con UU) := [(51, con_laws_toRuleS)]
theorem vc_laws_toDef (a : DDef) : goal EE use_laws_toDef Go.Proofs.Tryz.f29 con_laws_toDef ann_laws_toDef a = (sizeRuleS a.Rules ≤ (4294967296 : Nat) ∧ Lf [DV.agg [Cell.lit (Value.string a.Name), Cell.sl Cd.eRule a.Rules]] [DV.agg [Cell.lit (Value.string a.Name), Cell.sl Cd.eRule a.Rules]]) := by kernel_rfl
theorem ok_laws_toDef : Holds EE (29, con_laws_toDef) := by
  refine holds_of EE_ok Go.Proofs.Tryz.func29 con_laws_toDef (by kernel_rfl) use_laws_toDef (all_cons ok_laws_toRuleS all_nil) ann_laws_toDef (fun (a : DDef) hp hb => ?_)
  have hb_a : BdDV (U := UU) (.agg [.lit (.string a.Name), .sl .lRule a.Rules]) := hb _ (List.mem_cons_self)
  have hl_a_Name : a.Name.size ≤ 9223372036854775807 := Bd.str (hb_a _ (by simp))
  have hl_a_Rules : a.Rules.length ≤ 9223372036854775807 := Bd.len (U := UU) (τ := .lRule) (xs := a.Rules) (hb_a _ (by simp))
  have hp0 : sizeDef a ≤ 4294967296 := hp _ (List.mem_cons_self)
  clear hp hb
  rw [vc_laws_toDef a]
  simp only [sizeDef] at hp0
  repeat' (first | exact Lf_rfl _ | (refine And.intro (by omega) ?_))
def con_laws_eqDef : Con UU where
  α := DDef × DDef
  md := [.ro, .ro]
  of := fun | [.agg [.lit (.string a0), .sl .eRule a1], .agg [.lit (.string a2), .sl .eRule a3]] => some (⟨a0, a1⟩, ⟨a2, a3⟩) | _ => none
  ds := fun (a, b) => [.agg [.lit (.string a.Name), .sl .eRule a.Rules], .agg [.lit (.string b.Name), .sl .eRule b.Rules]]
  pre := fun (a, b) => []
  res := fun (a, b) => ⟨[.one (.lit (.bool (decide (a = b))))], true, []⟩
  law := by intro l x h; (try simp only at h); split at h <;> cases h; rfl
def ann_laws_eqDef : con_laws_eqDef.α → Nat → Option (Ann UU) := fun (a, b) => annL []
def use_laws_eqDef : List (FuncId × Con UU) := [(63, con_laws_eqRuleS)]
theorem vc_laws_eqDef (a : DDef) (b : DDef) : goal EE use_laws_eqDef Go.Proofs.Tryz.f43 con_laws_eqDef ann_laws_eqDef (a, b) = (bif !ByteArray.toList a.Name == ByteArray.toList b.Name then Lf [DV.one (Cell.lit (Value.bool false))] [DV.one (Cell.lit (Value.bool (decide (a = b))))] else bif !decide (a.Rules = b.Rules) then Lf [DV.one (Cell.lit (Value.bool false))] [DV.one (Cell.lit (Value.bool (decide (a = b))))] else Lf [DV.one (Cell.lit (Value.bool true))] [DV.one (Cell.lit (Value.bool (decide (a = b))))]) := by kernel_rfl
theorem ok_laws_eqDef : Holds EE (43, con_laws_eqDef) := by
  refine holds_of EE_ok Go.Proofs.Tryz.func43 con_laws_eqDef (by kernel_rfl) use_laws_eqDef (all_cons ok_laws_eqRuleS all_nil) ann_laws_eqDef (fun x hp hb => ?_)
  obtain ⟨a, b⟩ := x
  have hb_a : BdDV (U := UU) (.agg [.lit (.string a.Name), .sl .eRule a.Rules]) := hb _ (List.mem_cons_self)
  have hl_a_Name : a.Name.size ≤ 9223372036854775807 := Bd.str (hb_a _ (by simp))
  have hl_a_Rules : a.Rules.length ≤ 9223372036854775807 := Bd.len (U := UU) (τ := .eRule) (xs := a.Rules) (hb_a _ (by simp))
  have hb_b : BdDV (U := UU) (.agg [.lit (.string b.Name), .sl .eRule b.Rules]) := hb _ (List.mem_cons_of_mem _ (List.mem_cons_self))
  have hl_b_Name : b.Name.size ≤ 9223372036854775807 := Bd.str (hb_b _ (by simp))
  have hl_b_Rules : b.Rules.length ≤ 9223372036854775807 := Bd.len (U := UU) (τ := .eRule) (xs := b.Rules) (hb_b _ (by simp))
  clear hp hb
  rw [vc_laws_eqDef a b]
  obtain ⟨aName, aRules⟩ := a
  obtain ⟨bName, bRules⟩ := b
  repeat' (apply if_cond <;> intro _)
  all_goals (first | apply Lf_t | apply Lf_f) <;> simp_all
def con_laws_szDefS : Con UU where
  α := (List DDef) × Int
  md := [.ro, .ro]
  of := fun | [.one (.sl .lDef a0), .one (.lit (.int .i64 a1))] => some (a0, a1) | _ => none
  ds := fun (a, left) => [.one (.sl .lDef a), .one (.lit (.int .i64 left))]
  pre := fun (a, left) => [0 ≤ left]
  res := fun (a, left) => ⟨[.one (.lit (.int .i64 (szr left (sizeDefS a))))], true, []⟩
  law := by intro l x h; (try simp only at h); split at h <;> cases h; rfl
def I_laws_szDefS_5 (a : (List DDef)) (left : Int) : Int × Int × Unit → Prop := fun (lf, i, _) => 0 ≤ lf ∧ 0 ≤ i ∧ i ≤ a.length ∧ szr lf ((a.drop i.toNat).map sizeDef).sum = szr left (sizeDefS a)
def μ_laws_szDefS_5 (a : (List DDef)) (left : Int) : Int × Int × Unit → Nat := fun (lf, i, _) => a.length - i.toNat
def ann_laws_szDefS : con_laws_szDefS.α → Nat → Option (Ann UU) := fun (a, left) => annL [(5, annOf [.slot 1 (1, 1024) (.lit (.int .i64)), .slot 5 (5, 1024) (.lit (.int .i64))] (fun _ => I_laws_szDefS_5 a left) (μ_laws_szDefS_5 a left))]
def use_laws_szDefS : List (FuncId × Con UU) := [(22, con_laws_szDef)]
theorem vc_laws_szDefS (a : (List DDef)) (left : Int) : goal EE use_laws_szDefS Go.Proofs.Tryz.f9 con_laws_szDefS ann_laws_szDefS (a, left) = (let x0 : Int := IntKind.wrap IntKind.i64 (left - (↑(List.length a) : Int));
bif decide (x0 < (0 : Int)) then Lf [DV.one (Cell.lit (Value.int IntKind.i64 (-1 : Int)))] [DV.one (Cell.lit (Value.int IntKind.i64 (szr left (sizeDefS a))))]
else
  I_laws_szDefS_5 a left (x0, (0 : Int), PUnit.unit) ∧
    ∀ (y : Int × Int × PUnit),
      let x1 : Int := szr y.1 (sizeDef (List.getD a (Int.toNat y.2.1) zDef));
      I_laws_szDefS_5 a left y → bif decide (y.2.1 < (↑(List.length a) : Int)) then (0 : Int) ≤ y.2.1 ∧ Int.toNat y.2.1 < List.length a ∧ (0 : Int) ≤ y.1 ∧ bif decide (x1 < (0 : Int)) then Lf [DV.one (Cell.lit (Value.int IntKind.i64 (-1 : Int)))] [DV.one (Cell.lit (Value.int IntKind.i64 (szr left (sizeDefS a))))] else I_laws_szDefS_5 a left (x1, IntKind.wrap IntKind.i64 (y.2.1 + (1 : Int)), PUnit.unit) ∧ μ_laws_szDefS_5 a left (x1, IntKind.wrap IntKind.i64 (y.2.1 + (1 : Int)), PUnit.unit) < μ_laws_szDefS_5 a left y else Lf [DV.one (Cell.lit (Value.int IntKind.i64 y.1))] [DV.one (Cell.lit (Value.int IntKind.i64 (szr left (sizeDefS a))))]) := by kernel_rfl
theorem ok_laws_szDefS : Holds EE (9, con_laws_szDefS) := by
  refine holds_of EE_ok Go.Proofs.Tryz.func9 con_laws_szDefS (by kernel_rfl) use_laws_szDefS (all_cons ok_laws_szDef all_nil) ann_laws_szDefS (fun x hp hb => ?_)
  obtain ⟨a, left⟩ := x
  have hb_a : BdDV (U := UU) (.one (.sl .lDef a)) := hb _ (List.mem_cons_self)
  have hl_a : a.length ≤ 9223372036854775807 := Bd.len hb_a
  have hb_left : BdDV (U := UU) (.one (.lit (.int .i64 left))) := hb _ (List.mem_cons_of_mem _ (List.mem_cons_self))
  have hl_left := Bd.i64 hb_left
  have hp0 : 0 ≤ left := hp _ (List.mem_cons_self)
  clear hp hb
  rw [vc_laws_szDefS a left]
  dsimp only
  rw [wrap_i64 (by omega) (by omega)]
  refine if_cond (fun h => Lf_i ?_) (fun h => ⟨?_, ?_⟩)
  · simp [szr, sizeDefS] at *; omega
  · simp only [I_laws_szDefS_5, sizeDefS]; simp at h; have h' : 0 ≤ left - a.length := by omega
    exact ⟨h', by omega, by omega, szr_sub h'⟩
  rintro ⟨lf, i, ⟨⟩⟩ ⟨h0, h1, h2, hR⟩
  refine if_cond (fun hc => ?_) (fun hc => ?_)
  · have hc : i < a.length := by simpa using hc
    rw [drop_step a zDef h1 hc, List.map_cons, List.sum_cons] at hR
    simp only at *
    rw [wrap_i64 (by omega) (by omega)]
    generalize List.getD a i.toNat zDef = x at *
    refine ⟨by omega, by omega, by omega, if_cond (fun h => Lf_i ?_) (fun h => ⟨⟨?_, by omega, by omega, ?_⟩, ?_⟩)⟩
    · rw [← hR]; exact (szr_bad (of_decide_eq_true h)).symm
    · simp at h; omega
    · rw [← hR]; simp at h; exact szr_szr h
    · simp only [μ_laws_szDefS_5]; omega
  · have hc : a.length ≤ i := by simpa using hc
    rw [drop_end a hc] at hR
    apply Lf_i; rw [← hR]; simp [szr, h0]
def con_laws_toDefS : Con UU where
  α := (List DDef)
  md := [.ro]
  of := fun | [.one (.sl .lDef a0)] => some a0 | _ => none
  ds := fun a => [.one (.sl .lDef a)]
  pre := fun a => [sizeDefS a ≤ 4294967296]
  res := fun a => ⟨[.one (.sl .eDef a)], true, []⟩
  law := by intro l x h; (try simp only at h); split at h <;> cases h; rfl
def I_laws_toDefS_3 (a : (List DDef)) : List DDef × Int × Unit → Prop := fun (out, i, _) => 0 ≤ i ∧ i ≤ a.length ∧ out = a.take i.toNat ++ List.replicate (a.length - i.toNat) zDef
def μ_laws_toDefS_3 (a : (List DDef)) : List DDef × Int × Unit → Nat := fun (out, i, _) => a.length - i.toNat
def ann_laws_toDefS : con_laws_toDefS.α → Nat → Option (Ann UU) := fun a => annL [(3, annOf [.slot 3 (3, 1024) (.own .eDef true), .slot 4 (4, 1024) (.lit (.int .i64))] (fun _ => I_laws_toDefS_3 a) (μ_laws_toDefS_3 a))]
def use_laws_toDefS : List (FuncId × Con UU) := [(29, con_laws_toDef)]
theorem vc_laws_toDefS (a : (List DDef)) : goal EE use_laws_toDefS Go.Proofs.Tryz.f13 con_laws_toDefS ann_laws_toDefS a = (let x0 : Int := (↑(List.length a) : Int);
(0 : Int) ≤ x0 ∧
  x0 = x0 ∧
    x0 ≤ (4294967296 : Int) ∧
      I_laws_toDefS_3 a (List.replicate (Int.toNat x0) zDef, (0 : Int), PUnit.unit) ∧
        ∀ (y : List DDef × Int × PUnit),
          let x1 : Nat := Int.toNat y.2.1;
          I_laws_toDefS_3 a y → bif decide (y.2.1 < x0) then (0 : Int) ≤ y.2.1 ∧ x1 < List.length a ∧ sizeDef (List.getD a x1 zDef) ≤ (4294967296 : Nat) ∧ (0 : Int) ≤ y.2.1 ∧ x1 < List.length y.1 ∧ x1 < List.length y.1 ∧ I_laws_toDefS_3 a (List.set y.1 x1 (List.getD a x1 zDef), IntKind.wrap IntKind.i64 (y.2.1 + (1 : Int)), PUnit.unit) ∧ μ_laws_toDefS_3 a (List.set y.1 x1 (List.getD a x1 zDef), IntKind.wrap IntKind.i64 (y.2.1 + (1 : Int)), PUnit.unit) < μ_laws_toDefS_3 a y else Lf [DV.one (Cell.sl Cd.eDef y.1)] [DV.one (Cell.sl Cd.eDef a)]) := by kernel_rfl
theorem ok_laws_toDefS : Holds EE (13, con_laws_toDefS) := by
  refine holds_of EE_ok Go.Proofs.Tryz.func13 con_laws_toDefS (by kernel_rfl) use_laws_toDefS (all_cons ok_laws_toDef all_nil) ann_laws_toDefS (fun (a : (List DDef)) hp hb => ?_)
  have hb_a : BdDV (U := UU) (.one (.sl .lDef a)) := hb _ (List.mem_cons_self)
  have hl_a : a.length ≤ 9223372036854775807 := Bd.len hb_a
  have hp0 : sizeDefS a ≤ 4294967296 := hp _ (List.mem_cons_self)
  clear hp hb
  rw [vc_laws_toDefS a]
  dsimp only
  have hlen : a.length ≤ 4294967296 := by simp only [sizeDefS] at hp0; omega
  refine ⟨by omega, rfl, by omega, ?_, ?_⟩
  · simp [I_laws_toDefS_3]
  rintro ⟨out, i, ⟨⟩⟩ ⟨h1, h2, rfl⟩
  simp only at *
  refine if_cond (fun hc => ?_) (fun hc => ?_)
  · have hc : i < a.length := by simpa using hc
    rw [wrap_i64 (by omega) (by omega), set_fill a zDef h1 hc]
    exact ⟨h1, by omega, by exact Nat.le_trans (sum_getD_le sizeDef a zDef h1 hc) (by simp only [sizeDefS] at hp0; omega), h1, by simp; omega, by simp; omega, ⟨by omega, by omega, rfl⟩, by simp only [μ_laws_toDefS_3]; omega⟩
  · have hc : a.length ≤ i := by simpa using hc
    have e : i.toNat = a.length := by omega
    rw [e]; simp; exact Lf_rfl _
def con_laws_eqDefS : Con UU where
  α := (List DDef) × (List DDef)
  md := [.ro, .ro]
  of := fun | [.one (.sl .eDef a0), .one (.sl .eDef a1)] => some (a0, a1) | _ => none
  ds := fun (a, b) => [.one (.sl .eDef a), .one (.sl .eDef b)]
  pre := fun (a, b) => []
  res := fun (a, b) => ⟨[.one (.lit (.bool (decide (a = b))))], true, []⟩
  law := by intro l x h; (try simp only at h); split at h <;> cases h; rfl
def I_laws_eqDefS_4 (a : (List DDef)) (b : (List DDef)) : Int × Unit → Prop := fun (i, _) => 0 ≤ i ∧ i ≤ a.length ∧ a.length = b.length ∧ (a.drop i.toNat = b.drop i.toNat ↔ a = b)
def μ_laws_eqDefS_4 (a : (List DDef)) (b : (List DDef)) : Int × Unit → Nat := fun (i, _) => a.length - i.toNat
def ann_laws_eqDefS : con_laws_eqDefS.α → Nat → Option (Ann UU) := fun (a, b) => annL [(4, annOf [.slot 5 (5, 1024) (.lit (.int .i64))] (fun _ => I_laws_eqDefS_4 a b) (μ_laws_eqDefS_4 a b))]
def use_laws_eqDefS : List (FuncId × Con UU) := [(43, con_laws_eqDef)]
theorem vc_laws_eqDefS (a : (List DDef)) (b : (List DDef)) : goal EE use_laws_eqDefS Go.Proofs.Tryz.f20 con_laws_eqDefS ann_laws_eqDefS (a, b) = (bif (↑(List.length a) : Int) != (↑(List.length b) : Int) then Lf [DV.one (Cell.lit (Value.bool false))] [DV.one (Cell.lit (Value.bool (decide (a = b))))] else I_laws_eqDefS_4 a b ((0 : Int), PUnit.unit) ∧ ∀ (y : Int × PUnit), I_laws_eqDefS_4 a b y → bif decide (y.1 < (↑(List.length a) : Int)) then (0 : Int) ≤ y.1 ∧ Int.toNat y.1 < List.length a ∧ (0 : Int) ≤ y.1 ∧ Int.toNat y.1 < List.length b ∧ bif !decide (List.getD a (Int.toNat y.1) zDef = List.getD b (Int.toNat y.1) zDef) then Lf [DV.one (Cell.lit (Value.bool false))] [DV.one (Cell.lit (Value.bool (decide (a = b))))] else I_laws_eqDefS_4 a b (IntKind.wrap IntKind.i64 (y.1 + (1 : Int)), PUnit.unit) ∧ μ_laws_eqDefS_4 a b (IntKind.wrap IntKind.i64 (y.1 + (1 : Int)), PUnit.unit) < μ_laws_eqDefS_4 a b y else Lf [DV.one (Cell.lit (Value.bool true))] [DV.one (Cell.lit (Value.bool (decide (a = b))))]) := by kernel_rfl
theorem ok_laws_eqDefS : Holds EE (20, con_laws_eqDefS) := by
  refine holds_of EE_ok Go.Proofs.Tryz.func20 con_laws_eqDefS (by kernel_rfl) use_laws_eqDefS (all_cons ok_laws_eqDef all_nil) ann_laws_eqDefS (fun x hp hb => ?_)
  obtain ⟨a, b⟩ := x
  have hb_a : BdDV (U := UU) (.one (.sl .eDef a)) := hb _ (List.mem_cons_self)
  have hl_a : a.length ≤ 9223372036854775807 := Bd.len hb_a
  have hb_b : BdDV (U := UU) (.one (.sl .eDef b)) := hb _ (List.mem_cons_of_mem _ (List.mem_cons_self))
  have hl_b : b.length ≤ 9223372036854775807 := Bd.len hb_b
  clear hp hb
  rw [vc_laws_eqDefS a b]
  refine if_cond (fun h => Lf_f ?_) (fun h => ⟨?_, ?_⟩)
  · rintro rfl; simp at h
  · simp [I_laws_eqDefS_4] at *; omega
  rintro ⟨i, ⟨⟩⟩ ⟨h1, h2, h3, hR⟩
  simp only at *
  refine if_cond (fun hc => ?_) (fun hc => ?_)
  · have hc : i < a.length := by simpa using hc
    rw [drop_step a zDef h1 hc, drop_step b zDef h1 (by omega)] at hR
    rw [wrap_i64 (by omega) (by omega)]
    refine ⟨by omega, by omega, by omega, by omega, if_cond (fun h => Lf_f ?_) (fun h => ⟨⟨by omega, by omega, h3, ?_⟩, ?_⟩)⟩
    · rw [← hR]; simp at h; simp [h]
    · rw [← hR]; simp at h; simp [h]
    · simp only [μ_laws_eqDefS_4]; omega
  · have hc : a.length ≤ i := by simpa using hc
    rw [drop_end a hc, drop_end b (by omega)] at hR
    exact Lf_t (hR.1 rfl)
def con_laws_szMatch : Con UU where
  α := DMatch × Int
  md := [.ro, .ro]
  of := fun | [.agg [.lit (.int .i64 a0), .sl .int a1, .sl .lBind a2], .one (.lit (.int .i64 a3))] => some (⟨a0, a1, a2⟩, a3) | _ => none
  ds := fun (a, left) => [.agg [.lit (.int .i64 a.Rule), .sl .int a.Ids, .sl .lBind a.Binds], .one (.lit (.int .i64 left))]
  pre := fun (a, left) => [0 ≤ left]
  res := fun (a, left) => ⟨[.one (.lit (.int .i64 (szr left (sizeMatch a))))], true, []⟩
  law := by intro l x h; (try simp only at h); split at h <;> cases h; rfl
def ann_laws_szMatch : con_laws_szMatch.α → Nat → Option (Ann UU) := fun (a, left) => annL []
def use_laws_szMatch : List (FuncId × Con UU) := [(115, con_laws_szIntS), (116, con_laws_szBindS)]
theorem vc_laws_szMatch (a : DMatch) (left : Int) : goal EE use_laws_szMatch Go.Proofs.Tryz.f91 con_laws_szMatch ann_laws_szMatch (a, left) = (let x0 : Int := szr (szr left (sizeIntS a.Ids)) (sizeBindS a.Binds);
(0 : Int) ≤ left ∧ bif decide (szr left (sizeIntS a.Ids) < (0 : Int)) then Lf [DV.one (Cell.lit (Value.int IntKind.i64 (-1 : Int)))] [DV.one (Cell.lit (Value.int IntKind.i64 (szr left (sizeMatch a))))] else (0 : Int) ≤ szr left (sizeIntS a.Ids) ∧ bif decide (x0 < (0 : Int)) then Lf [DV.one (Cell.lit (Value.int IntKind.i64 (-1 : Int)))] [DV.one (Cell.lit (Value.int IntKind.i64 (szr left (sizeMatch a))))] else Lf [DV.one (Cell.lit (Value.int IntKind.i64 x0))] [DV.one (Cell.lit (Value.int IntKind.i64 (szr left (sizeMatch a))))]) := by kernel_rfl
theorem ok_laws_szMatch : Holds EE (91, con_laws_szMatch) := by
  refine holds_of EE_ok Go.Proofs.Tryz.func91 con_laws_szMatch (by kernel_rfl) use_laws_szMatch (all_cons ok_laws_szIntS (all_cons ok_laws_szBindS all_nil)) ann_laws_szMatch (fun x hp hb => ?_)
  obtain ⟨a, left⟩ := x
  have hb_a : BdDV (U := UU) (.agg [.lit (.int .i64 a.Rule), .sl .int a.Ids, .sl .lBind a.Binds]) := hb _ (List.mem_cons_self)
  have hl_a_Ids : a.Ids.length ≤ 9223372036854775807 := Bd.len (U := UU) (τ := .int) (xs := a.Ids) (hb_a _ (by simp))
  have hl_a_Binds : a.Binds.length ≤ 9223372036854775807 := Bd.len (U := UU) (τ := .lBind) (xs := a.Binds) (hb_a _ (by simp))
  have hb_left : BdDV (U := UU) (.one (.lit (.int .i64 left))) := hb _ (List.mem_cons_of_mem _ (List.mem_cons_self))
  have hl_left := Bd.i64 hb_left
  have hp0 : 0 ≤ left := hp _ (List.mem_cons_self)
  clear hp hb
  rw [vc_laws_szMatch a left]
  dsimp only
  refine ⟨by omega, if_cond (fun h => Lf_i (szr_bad' ?_)) (fun h => ?_)⟩
  · have h := szr_neg h; simp only [sizeMatch]; omega
  obtain ⟨e0, h0⟩ := szr_pos h
  rw [e0]
  refine ⟨by omega, if_cond (fun h => Lf_i (szr_bad' ?_)) (fun h => ?_)⟩
  · have h := szr_neg h; simp only [sizeMatch]; omega
  obtain ⟨e1, h1⟩ := szr_pos h
  rw [e1]
  exact Lf_i (by rw [← szr_ok' (by simp only [sizeMatch]; omega)]; simp only [sizeMatch]; try omega)
def con_laws_toMatch : Con UU where
  α := DMatch
  md := [.ro]
  of := fun | [.agg [.lit (.int .i64 a0), .sl .int a1, .sl .lBind a2]] => some ⟨a0, a1, a2⟩ | _ => none
  ds := fun a => [.agg [.lit (.int .i64 a.Rule), .sl .int a.Ids, .sl .lBind a.Binds]]
  pre := fun a => [sizeMatch a ≤ 4294967296]
  res := fun a => ⟨[.agg [.lit (.int .i64 a.Rule), .sl .int a.Ids, .sl .eBind a.Binds]], true, []⟩
  law := by intro l x h; (try simp only at h); split at h <;> cases h; rfl
def ann_laws_toMatch : con_laws_toMatch.α → Nat → Option (Ann UU) := fun a => annL []
def use_laws_toMatch : List (FuncId × Con UU) := [(123, con_laws_toIntS), (124, con_laws_toBindS)]
theorem vc_laws_toMatch (a : DMatch) : goal EE use_laws_toMatch Go.Proofs.Tryz.f99 con_laws_toMatch ann_laws_toMatch a = (sizeIntS a.Ids ≤ (4294967296 : Nat) ∧ sizeBindS a.Binds ≤ (4294967296 : Nat) ∧ Lf [DV.agg [Cell.lit (Value.int IntKind.i64 a.Rule), Cell.sl Cd.int a.Ids, Cell.sl Cd.eBind a.Binds]] [DV.agg [Cell.lit (Value.int IntKind.i64 a.Rule), Cell.sl Cd.int a.Ids, Cell.sl Cd.eBind a.Binds]]) := by kernel_rfl
theorem ok_laws_toMatch : Holds EE (99, con_laws_toMatch) := by
  refine holds_of EE_ok Go.Proofs.Tryz.func99 con_laws_toMatch (by kernel_rfl) use_laws_toMatch (all_cons ok_laws_toIntS (all_cons ok_laws_toBindS all_nil)) ann_laws_toMatch (fun (a : DMatch) hp hb => ?_)
  have hb_a : BdDV (U := UU) (.agg [.lit (.int .i64 a.Rule), .sl .int a.Ids, .sl .lBind a.Binds]) := hb _ (List.mem_cons_self)
  have hl_a_Ids : a.Ids.length ≤ 9223372036854775807 := Bd.len (U := UU) (τ := .int) (xs := a.Ids) (hb_a _ (by simp))
  have hl_a_Binds : a.Binds.length ≤ 9223372036854775807 := Bd.len (U := UU) (τ := .lBind) (xs := a.Binds) (hb_a _ (by simp))
  have hp0 : sizeMatch a ≤ 4294967296 := hp _ (List.mem_cons_self)
  clear hp hb
  rw [vc_laws_toMatch a]
  simp only [sizeMatch] at hp0
  repeat' (first | exact Lf_rfl _ | (refine And.intro (by omega) ?_))
def con_laws_eqMatch : Con UU where
  α := DMatch × DMatch
  md := [.ro, .ro]
  of := fun | [.agg [.lit (.int .i64 a0), .sl .int a1, .sl .eBind a2], .agg [.lit (.int .i64 a3), .sl .int a4, .sl .eBind a5]] => some (⟨a0, a1, a2⟩, ⟨a3, a4, a5⟩) | _ => none
  ds := fun (a, b) => [.agg [.lit (.int .i64 a.Rule), .sl .int a.Ids, .sl .eBind a.Binds], .agg [.lit (.int .i64 b.Rule), .sl .int b.Ids, .sl .eBind b.Binds]]
  pre := fun (a, b) => []
  res := fun (a, b) => ⟨[.one (.lit (.bool (decide (a = b))))], true, []⟩
  law := by intro l x h; (try simp only at h); split at h <;> cases h; rfl
def ann_laws_eqMatch : con_laws_eqMatch.α → Nat → Option (Ann UU) := fun (a, b) => annL []
def use_laws_eqMatch : List (FuncId × Con UU) := [(131, con_laws_eqIntS), (132, con_laws_eqBindS)]
theorem vc_laws_eqMatch (a : DMatch) (b : DMatch) : goal EE use_laws_eqMatch Go.Proofs.Tryz.f107 con_laws_eqMatch ann_laws_eqMatch (a, b) = (bif a.Rule != b.Rule then Lf [DV.one (Cell.lit (Value.bool false))] [DV.one (Cell.lit (Value.bool (decide (a = b))))] else bif !decide (a.Ids = b.Ids) then Lf [DV.one (Cell.lit (Value.bool false))] [DV.one (Cell.lit (Value.bool (decide (a = b))))] else bif !decide (a.Binds = b.Binds) then Lf [DV.one (Cell.lit (Value.bool false))] [DV.one (Cell.lit (Value.bool (decide (a = b))))] else Lf [DV.one (Cell.lit (Value.bool true))] [DV.one (Cell.lit (Value.bool (decide (a = b))))]) := by kernel_rfl
theorem ok_laws_eqMatch : Holds EE (107, con_laws_eqMatch) := by
  refine holds_of EE_ok Go.Proofs.Tryz.func107 con_laws_eqMatch (by kernel_rfl) use_laws_eqMatch (all_cons ok_laws_eqIntS (all_cons ok_laws_eqBindS all_nil)) ann_laws_eqMatch (fun x hp hb => ?_)
  obtain ⟨a, b⟩ := x
  have hb_a : BdDV (U := UU) (.agg [.lit (.int .i64 a.Rule), .sl .int a.Ids, .sl .eBind a.Binds]) := hb _ (List.mem_cons_self)
  have hl_a_Ids : a.Ids.length ≤ 9223372036854775807 := Bd.len (U := UU) (τ := .int) (xs := a.Ids) (hb_a _ (by simp))
  have hl_a_Binds : a.Binds.length ≤ 9223372036854775807 := Bd.len (U := UU) (τ := .eBind) (xs := a.Binds) (hb_a _ (by simp))
  have hb_b : BdDV (U := UU) (.agg [.lit (.int .i64 b.Rule), .sl .int b.Ids, .sl .eBind b.Binds]) := hb _ (List.mem_cons_of_mem _ (List.mem_cons_self))
  have hl_b_Ids : b.Ids.length ≤ 9223372036854775807 := Bd.len (U := UU) (τ := .int) (xs := b.Ids) (hb_b _ (by simp))
  have hl_b_Binds : b.Binds.length ≤ 9223372036854775807 := Bd.len (U := UU) (τ := .eBind) (xs := b.Binds) (hb_b _ (by simp))
  clear hp hb
  rw [vc_laws_eqMatch a b]
  obtain ⟨aRule, aIds, aBinds⟩ := a
  obtain ⟨bRule, bIds, bBinds⟩ := b
  repeat' (apply if_cond <;> intro _)
  all_goals (first | apply Lf_t | apply Lf_f) <;> simp_all
def con_laws_szMatchS : Con UU where
  α := (List DMatch) × Int
  md := [.ro, .ro]
  of := fun | [.one (.sl .lMatch a0), .one (.lit (.int .i64 a1))] => some (a0, a1) | _ => none
  ds := fun (a, left) => [.one (.sl .lMatch a), .one (.lit (.int .i64 left))]
  pre := fun (a, left) => [0 ≤ left]
  res := fun (a, left) => ⟨[.one (.lit (.int .i64 (szr left (sizeMatchS a))))], true, []⟩
  law := by intro l x h; (try simp only at h); split at h <;> cases h; rfl
def I_laws_szMatchS_5 (a : (List DMatch)) (left : Int) : Int × Int × Unit → Prop := fun (lf, i, _) => 0 ≤ lf ∧ 0 ≤ i ∧ i ≤ a.length ∧ szr lf ((a.drop i.toNat).map sizeMatch).sum = szr left (sizeMatchS a)
def μ_laws_szMatchS_5 (a : (List DMatch)) (left : Int) : Int × Int × Unit → Nat := fun (lf, i, _) => a.length - i.toNat
def ann_laws_szMatchS : con_laws_szMatchS.α → Nat → Option (Ann UU) := fun (a, left) => annL [(5, annOf [.slot 1 (1, 1024) (.lit (.int .i64)), .slot 5 (5, 1024) (.lit (.int .i64))] (fun _ => I_laws_szMatchS_5 a left) (μ_laws_szMatchS_5 a left))]
def use_laws_szMatchS : List (FuncId × Con UU) := [(91, con_laws_szMatch)]
theorem vc_laws_szMatchS (a : (List DMatch)) (left : Int) : goal EE use_laws_szMatchS Go.Proofs.Tryz.f67 con_laws_szMatchS ann_laws_szMatchS (a, left) = (let x0 : Int := IntKind.wrap IntKind.i64 (left - (↑(List.length a) : Int));
bif decide (x0 < (0 : Int)) then Lf [DV.one (Cell.lit (Value.int IntKind.i64 (-1 : Int)))] [DV.one (Cell.lit (Value.int IntKind.i64 (szr left (sizeMatchS a))))]
else
  I_laws_szMatchS_5 a left (x0, (0 : Int), PUnit.unit) ∧
    ∀ (y : Int × Int × PUnit),
      let x1 : Int := szr y.1 (sizeMatch (List.getD a (Int.toNat y.2.1) zMatch));
      I_laws_szMatchS_5 a left y → bif decide (y.2.1 < (↑(List.length a) : Int)) then (0 : Int) ≤ y.2.1 ∧ Int.toNat y.2.1 < List.length a ∧ (0 : Int) ≤ y.1 ∧ bif decide (x1 < (0 : Int)) then Lf [DV.one (Cell.lit (Value.int IntKind.i64 (-1 : Int)))] [DV.one (Cell.lit (Value.int IntKind.i64 (szr left (sizeMatchS a))))] else I_laws_szMatchS_5 a left (x1, IntKind.wrap IntKind.i64 (y.2.1 + (1 : Int)), PUnit.unit) ∧ μ_laws_szMatchS_5 a left (x1, IntKind.wrap IntKind.i64 (y.2.1 + (1 : Int)), PUnit.unit) < μ_laws_szMatchS_5 a left y else Lf [DV.one (Cell.lit (Value.int IntKind.i64 y.1))] [DV.one (Cell.lit (Value.int IntKind.i64 (szr left (sizeMatchS a))))]) := by kernel_rfl
theorem ok_laws_szMatchS : Holds EE (67, con_laws_szMatchS) := by
  refine holds_of EE_ok Go.Proofs.Tryz.func67 con_laws_szMatchS (by kernel_rfl) use_laws_szMatchS (all_cons ok_laws_szMatch all_nil) ann_laws_szMatchS (fun x hp hb => ?_)
  obtain ⟨a, left⟩ := x
  have hb_a : BdDV (U := UU) (.one (.sl .lMatch a)) := hb _ (List.mem_cons_self)
  have hl_a : a.length ≤ 9223372036854775807 := Bd.len hb_a
  have hb_left : BdDV (U := UU) (.one (.lit (.int .i64 left))) := hb _ (List.mem_cons_of_mem _ (List.mem_cons_self))
  have hl_left := Bd.i64 hb_left
  have hp0 : 0 ≤ left := hp _ (List.mem_cons_self)
  clear hp hb
  rw [vc_laws_szMatchS a left]
  dsimp only
  rw [wrap_i64 (by omega) (by omega)]
  refine if_cond (fun h => Lf_i ?_) (fun h => ⟨?_, ?_⟩)
  · simp [szr, sizeMatchS] at *; omega
  · simp only [I_laws_szMatchS_5, sizeMatchS]; simp at h; have h' : 0 ≤ left - a.length := by omega
    exact ⟨h', by omega, by omega, szr_sub h'⟩
  rintro ⟨lf, i, ⟨⟩⟩ ⟨h0, h1, h2, hR⟩
  refine if_cond (fun hc => ?_) (fun hc => ?_)
  · have hc : i < a.length := by simpa using hc
    rw [drop_step a zMatch h1 hc, List.map_cons, List.sum_cons] at hR
    simp only at *
    rw [wrap_i64 (by omega) (by omega)]
    generalize List.getD a i.toNat zMatch = x at *
    refine ⟨by omega, by omega, by omega, if_cond (fun h => Lf_i ?_) (fun h => ⟨⟨?_, by omega, by omega, ?_⟩, ?_⟩)⟩
    · rw [← hR]; exact (szr_bad (of_decide_eq_true h)).symm
    · simp at h; omega
    · rw [← hR]; simp at h; exact szr_szr h
    · simp only [μ_laws_szMatchS_5]; omega
  · have hc : a.length ≤ i := by simpa using hc
    rw [drop_end a hc] at hR
    apply Lf_i; rw [← hR]; simp [szr, h0]
def con_laws_toMatchS : Con UU where
  α := (List DMatch)
  md := [.ro]
  of := fun | [.one (.sl .lMatch a0)] => some a0 | _ => none
  ds := fun a => [.one (.sl .lMatch a)]
  pre := fun a => [sizeMatchS a ≤ 4294967296]
  res := fun a => ⟨[.one (.sl .eMatch a)], true, []⟩
  law := by intro l x h; (try simp only at h); split at h <;> cases h; rfl
def I_laws_toMatchS_3 (a : (List DMatch)) : List DMatch × Int × Unit → Prop := fun (out, i, _) => 0 ≤ i ∧ i ≤ a.length ∧ out = a.take i.toNat ++ List.replicate (a.length - i.toNat) zMatch
def μ_laws_toMatchS_3 (a : (List DMatch)) : List DMatch × Int × Unit → Nat := fun (out, i, _) => a.length - i.toNat
def ann_laws_toMatchS : con_laws_toMatchS.α → Nat → Option (Ann UU) := fun a => annL [(3, annOf [.slot 3 (3, 1024) (.own .eMatch true), .slot 4 (4, 1024) (.lit (.int .i64))] (fun _ => I_laws_toMatchS_3 a) (μ_laws_toMatchS_3 a))]
def use_laws_toMatchS : List (FuncId × Con UU) := [(99, con_laws_toMatch)]
theorem vc_laws_toMatchS (a : (List DMatch)) : goal EE use_laws_toMatchS Go.Proofs.Tryz.f74 con_laws_toMatchS ann_laws_toMatchS a = (let x0 : Int := (↑(List.length a) : Int);
(0 : Int) ≤ x0 ∧
  x0 = x0 ∧
    x0 ≤ (4294967296 : Int) ∧
      I_laws_toMatchS_3 a (List.replicate (Int.toNat x0) zMatch, (0 : Int), PUnit.unit) ∧
        ∀ (y : List DMatch × Int × PUnit),
          let x1 : Nat := Int.toNat y.2.1;
          I_laws_toMatchS_3 a y → bif decide (y.2.1 < x0) then (0 : Int) ≤ y.2.1 ∧ x1 < List.length a ∧ sizeMatch (List.getD a x1 zMatch) ≤ (4294967296 : Nat) ∧ (0 : Int) ≤ y.2.1 ∧ x1 < List.length y.1 ∧ x1 < List.length y.1 ∧ I_laws_toMatchS_3 a (List.set y.1 x1 (List.getD a x1 zMatch), IntKind.wrap IntKind.i64 (y.2.1 + (1 : Int)), PUnit.unit) ∧ μ_laws_toMatchS_3 a (List.set y.1 x1 (List.getD a x1 zMatch), IntKind.wrap IntKind.i64 (y.2.1 + (1 : Int)), PUnit.unit) < μ_laws_toMatchS_3 a y else Lf [DV.one (Cell.sl Cd.eMatch y.1)] [DV.one (Cell.sl Cd.eMatch a)]) := by kernel_rfl
theorem ok_laws_toMatchS : Holds EE (74, con_laws_toMatchS) := by
  refine holds_of EE_ok Go.Proofs.Tryz.func74 con_laws_toMatchS (by kernel_rfl) use_laws_toMatchS (all_cons ok_laws_toMatch all_nil) ann_laws_toMatchS (fun (a : (List DMatch)) hp hb => ?_)
  have hb_a : BdDV (U := UU) (.one (.sl .lMatch a)) := hb _ (List.mem_cons_self)
  have hl_a : a.length ≤ 9223372036854775807 := Bd.len hb_a
  have hp0 : sizeMatchS a ≤ 4294967296 := hp _ (List.mem_cons_self)
  clear hp hb
  rw [vc_laws_toMatchS a]
  dsimp only
  have hlen : a.length ≤ 4294967296 := by simp only [sizeMatchS] at hp0; omega
  refine ⟨by omega, rfl, by omega, ?_, ?_⟩
  · simp [I_laws_toMatchS_3]
  rintro ⟨out, i, ⟨⟩⟩ ⟨h1, h2, rfl⟩
  simp only at *
  refine if_cond (fun hc => ?_) (fun hc => ?_)
  · have hc : i < a.length := by simpa using hc
    rw [wrap_i64 (by omega) (by omega), set_fill a zMatch h1 hc]
    exact ⟨h1, by omega, by exact Nat.le_trans (sum_getD_le sizeMatch a zMatch h1 hc) (by simp only [sizeMatchS] at hp0; omega), h1, by simp; omega, by simp; omega, ⟨by omega, by omega, rfl⟩, by simp only [μ_laws_toMatchS_3]; omega⟩
  · have hc : a.length ≤ i := by simpa using hc
    have e : i.toNat = a.length := by omega
    rw [e]; simp; exact Lf_rfl _
def con_laws_eqMatchS : Con UU where
  α := (List DMatch) × (List DMatch)
  md := [.ro, .ro]
  of := fun | [.one (.sl .eMatch a0), .one (.sl .eMatch a1)] => some (a0, a1) | _ => none
  ds := fun (a, b) => [.one (.sl .eMatch a), .one (.sl .eMatch b)]
  pre := fun (a, b) => []
  res := fun (a, b) => ⟨[.one (.lit (.bool (decide (a = b))))], true, []⟩
  law := by intro l x h; (try simp only at h); split at h <;> cases h; rfl
def I_laws_eqMatchS_4 (a : (List DMatch)) (b : (List DMatch)) : Int × Unit → Prop := fun (i, _) => 0 ≤ i ∧ i ≤ a.length ∧ a.length = b.length ∧ (a.drop i.toNat = b.drop i.toNat ↔ a = b)
def μ_laws_eqMatchS_4 (a : (List DMatch)) (b : (List DMatch)) : Int × Unit → Nat := fun (i, _) => a.length - i.toNat
def ann_laws_eqMatchS : con_laws_eqMatchS.α → Nat → Option (Ann UU) := fun (a, b) => annL [(4, annOf [.slot 5 (5, 1024) (.lit (.int .i64))] (fun _ => I_laws_eqMatchS_4 a b) (μ_laws_eqMatchS_4 a b))]
def use_laws_eqMatchS : List (FuncId × Con UU) := [(107, con_laws_eqMatch)]
theorem vc_laws_eqMatchS (a : (List DMatch)) (b : (List DMatch)) : goal EE use_laws_eqMatchS Go.Proofs.Tryz.f83 con_laws_eqMatchS ann_laws_eqMatchS (a, b) = (bif (↑(List.length a) : Int) != (↑(List.length b) : Int) then Lf [DV.one (Cell.lit (Value.bool false))] [DV.one (Cell.lit (Value.bool (decide (a = b))))] else I_laws_eqMatchS_4 a b ((0 : Int), PUnit.unit) ∧ ∀ (y : Int × PUnit), I_laws_eqMatchS_4 a b y → bif decide (y.1 < (↑(List.length a) : Int)) then (0 : Int) ≤ y.1 ∧ Int.toNat y.1 < List.length a ∧ (0 : Int) ≤ y.1 ∧ Int.toNat y.1 < List.length b ∧ bif !decide (List.getD a (Int.toNat y.1) zMatch = List.getD b (Int.toNat y.1) zMatch) then Lf [DV.one (Cell.lit (Value.bool false))] [DV.one (Cell.lit (Value.bool (decide (a = b))))] else I_laws_eqMatchS_4 a b (IntKind.wrap IntKind.i64 (y.1 + (1 : Int)), PUnit.unit) ∧ μ_laws_eqMatchS_4 a b (IntKind.wrap IntKind.i64 (y.1 + (1 : Int)), PUnit.unit) < μ_laws_eqMatchS_4 a b y else Lf [DV.one (Cell.lit (Value.bool true))] [DV.one (Cell.lit (Value.bool (decide (a = b))))]) := by kernel_rfl
theorem ok_laws_eqMatchS : Holds EE (83, con_laws_eqMatchS) := by
  refine holds_of EE_ok Go.Proofs.Tryz.func83 con_laws_eqMatchS (by kernel_rfl) use_laws_eqMatchS (all_cons ok_laws_eqMatch all_nil) ann_laws_eqMatchS (fun x hp hb => ?_)
  obtain ⟨a, b⟩ := x
  have hb_a : BdDV (U := UU) (.one (.sl .eMatch a)) := hb _ (List.mem_cons_self)
  have hl_a : a.length ≤ 9223372036854775807 := Bd.len hb_a
  have hb_b : BdDV (U := UU) (.one (.sl .eMatch b)) := hb _ (List.mem_cons_of_mem _ (List.mem_cons_self))
  have hl_b : b.length ≤ 9223372036854775807 := Bd.len hb_b
  clear hp hb
  rw [vc_laws_eqMatchS a b]
  refine if_cond (fun h => Lf_f ?_) (fun h => ⟨?_, ?_⟩)
  · rintro rfl; simp at h
  · simp [I_laws_eqMatchS_4] at *; omega
  rintro ⟨i, ⟨⟩⟩ ⟨h1, h2, h3, hR⟩
  simp only at *
  refine if_cond (fun hc => ?_) (fun hc => ?_)
  · have hc : i < a.length := by simpa using hc
    rw [drop_step a zMatch h1 hc, drop_step b zMatch h1 (by omega)] at hR
    rw [wrap_i64 (by omega) (by omega)]
    refine ⟨by omega, by omega, by omega, by omega, if_cond (fun h => Lf_f ?_) (fun h => ⟨⟨by omega, by omega, h3, ?_⟩, ?_⟩)⟩
    · rw [← hR]; simp at h; simp [h]
    · rw [← hR]; simp at h; simp [h]
    · simp only [μ_laws_eqMatchS_4]; omega
  · have hc : a.length ≤ i := by simpa using hc
    rw [drop_end a hc, drop_end b (by omega)] at hR
    exact Lf_t (hR.1 rfl)
def con_laws_szInst : Con UU where
  α := DInst × Int
  md := [.ro, .ro]
  of := fun | [.agg [.sl .lItem a0, .lit (.int .i64 a1), .sl .lMatch a2, .sl .lTask a3, .sl .lTimer a4, .sl .lUndo a5, .lit (.int .i64 a6), .lit (.int .i64 a7)], .one (.lit (.int .i64 a8))] => some (⟨⟨a0, a1⟩, a2, a3, a4, a5, a6, a7⟩, a8) | _ => none
  ds := fun (a, left) => [.agg [.sl .lItem a.S.Items, .lit (.int .i64 a.S.Next), .sl .lMatch a.Fired, .sl .lTask a.Tasks, .sl .lTimer a.Timers, .sl .lUndo a.Undos, .lit (.int .i64 a.State), .lit (.int .i64 a.Now)], .one (.lit (.int .i64 left))]
  pre := fun (a, left) => [0 ≤ left]
  res := fun (a, left) => ⟨[.one (.lit (.int .i64 (szr left (sizeInst a))))], true, []⟩
  law := by intro l x h; (try simp only at h); split at h <;> cases h; rfl
def ann_laws_szInst : con_laws_szInst.α → Nat → Option (Ann UU) := fun (a, left) => annL []
def use_laws_szInst : List (FuncId × Con UU) := [(66, con_laws_szStore), (67, con_laws_szMatchS), (68, con_laws_szTaskS), (69, con_laws_szTimerS), (70, con_laws_szUndoS)]
theorem vc_laws_szInst (a : DInst) (left : Int) : goal EE use_laws_szInst Go.Proofs.Tryz.f46 con_laws_szInst ann_laws_szInst (a, left) = (let x0 : Int := szr (szr (szr (szr left (sizeStore a.S)) (sizeMatchS a.Fired)) (sizeTaskS a.Tasks)) (sizeTimerS a.Timers);
let x1 : Int := szr (szr left (sizeStore a.S)) (sizeMatchS a.Fired);
(0 : Int) ≤ left ∧ bif decide (szr left (sizeStore a.S) < (0 : Int)) then Lf [DV.one (Cell.lit (Value.int IntKind.i64 (-1 : Int)))] [DV.one (Cell.lit (Value.int IntKind.i64 (szr left (sizeInst a))))] else (0 : Int) ≤ szr left (sizeStore a.S) ∧ bif decide (x1 < (0 : Int)) then Lf [DV.one (Cell.lit (Value.int IntKind.i64 (-1 : Int)))] [DV.one (Cell.lit (Value.int IntKind.i64 (szr left (sizeInst a))))] else (0 : Int) ≤ x1 ∧ bif decide (szr x1 (sizeTaskS a.Tasks) < (0 : Int)) then Lf [DV.one (Cell.lit (Value.int IntKind.i64 (-1 : Int)))] [DV.one (Cell.lit (Value.int IntKind.i64 (szr left (sizeInst a))))] else (0 : Int) ≤ szr x1 (sizeTaskS a.Tasks) ∧ bif decide (x0 < (0 : Int)) then Lf [DV.one (Cell.lit (Value.int IntKind.i64 (-1 : Int)))] [DV.one (Cell.lit (Value.int IntKind.i64 (szr left (sizeInst a))))] else (0 : Int) ≤ x0 ∧ bif decide (szr x0 (sizeUndoS a.Undos) < (0 : Int)) then Lf [DV.one (Cell.lit (Value.int IntKind.i64 (-1 : Int)))] [DV.one (Cell.lit (Value.int IntKind.i64 (szr left (sizeInst a))))] else Lf [DV.one (Cell.lit (Value.int IntKind.i64 (szr x0 (sizeUndoS a.Undos))))] [DV.one (Cell.lit (Value.int IntKind.i64 (szr left (sizeInst a))))]) := by kernel_rfl
theorem ok_laws_szInst : Holds EE (46, con_laws_szInst) := by
  refine holds_of EE_ok Go.Proofs.Tryz.func46 con_laws_szInst (by kernel_rfl) use_laws_szInst (all_cons ok_laws_szStore (all_cons ok_laws_szMatchS (all_cons ok_laws_szTaskS (all_cons ok_laws_szTimerS (all_cons ok_laws_szUndoS all_nil))))) ann_laws_szInst (fun x hp hb => ?_)
  obtain ⟨a, left⟩ := x
  have hb_a : BdDV (U := UU) (.agg [.sl .lItem a.S.Items, .lit (.int .i64 a.S.Next), .sl .lMatch a.Fired, .sl .lTask a.Tasks, .sl .lTimer a.Timers, .sl .lUndo a.Undos, .lit (.int .i64 a.State), .lit (.int .i64 a.Now)]) := hb _ (List.mem_cons_self)
  have hl_a_S_Items : a.S.Items.length ≤ 9223372036854775807 := Bd.len (U := UU) (τ := .lItem) (xs := a.S.Items) (hb_a _ (by simp))
  have hl_a_Fired : a.Fired.length ≤ 9223372036854775807 := Bd.len (U := UU) (τ := .lMatch) (xs := a.Fired) (hb_a _ (by simp))
  have hl_a_Tasks : a.Tasks.length ≤ 9223372036854775807 := Bd.len (U := UU) (τ := .lTask) (xs := a.Tasks) (hb_a _ (by simp))
  have hl_a_Timers : a.Timers.length ≤ 9223372036854775807 := Bd.len (U := UU) (τ := .lTimer) (xs := a.Timers) (hb_a _ (by simp))
  have hl_a_Undos : a.Undos.length ≤ 9223372036854775807 := Bd.len (U := UU) (τ := .lUndo) (xs := a.Undos) (hb_a _ (by simp))
  have hb_left : BdDV (U := UU) (.one (.lit (.int .i64 left))) := hb _ (List.mem_cons_of_mem _ (List.mem_cons_self))
  have hl_left := Bd.i64 hb_left
  have hp0 : 0 ≤ left := hp _ (List.mem_cons_self)
  clear hp hb
  rw [vc_laws_szInst a left]
  dsimp only
  refine ⟨by omega, if_cond (fun h => Lf_i (szr_bad' ?_)) (fun h => ?_)⟩
  · have h := szr_neg h; simp only [sizeInst]; omega
  obtain ⟨e0, h0⟩ := szr_pos h
  rw [e0]
  refine ⟨by omega, if_cond (fun h => Lf_i (szr_bad' ?_)) (fun h => ?_)⟩
  · have h := szr_neg h; simp only [sizeInst]; omega
  obtain ⟨e1, h1⟩ := szr_pos h
  rw [e1]
  refine ⟨by omega, if_cond (fun h => Lf_i (szr_bad' ?_)) (fun h => ?_)⟩
  · have h := szr_neg h; simp only [sizeInst]; omega
  obtain ⟨e2, h2⟩ := szr_pos h
  rw [e2]
  refine ⟨by omega, if_cond (fun h => Lf_i (szr_bad' ?_)) (fun h => ?_)⟩
  · have h := szr_neg h; simp only [sizeInst]; omega
  obtain ⟨e3, h3⟩ := szr_pos h
  rw [e3]
  refine ⟨by omega, if_cond (fun h => Lf_i (szr_bad' ?_)) (fun h => ?_)⟩
  · have h := szr_neg h; simp only [sizeInst]; omega
  obtain ⟨e4, h4⟩ := szr_pos h
  rw [e4]
  exact Lf_i (by rw [← szr_ok' (by simp only [sizeInst]; omega)]; simp only [sizeInst]; try omega)
def con_laws_toInst : Con UU where
  α := DInst
  md := [.ro]
  of := fun | [.agg [.sl .lItem a0, .lit (.int .i64 a1), .sl .lMatch a2, .sl .lTask a3, .sl .lTimer a4, .sl .lUndo a5, .lit (.int .i64 a6), .lit (.int .i64 a7)]] => some ⟨⟨a0, a1⟩, a2, a3, a4, a5, a6, a7⟩ | _ => none
  ds := fun a => [.agg [.sl .lItem a.S.Items, .lit (.int .i64 a.S.Next), .sl .lMatch a.Fired, .sl .lTask a.Tasks, .sl .lTimer a.Timers, .sl .lUndo a.Undos, .lit (.int .i64 a.State), .lit (.int .i64 a.Now)]]
  pre := fun a => [sizeInst a ≤ 4294967296]
  res := fun a => ⟨[.agg [.sl .eItem a.S.Items, .lit (.int .i64 a.S.Next), .sl .eMatch a.Fired, .sl .eTask a.Tasks, .sl .eTimer a.Timers, .sl .eUndo a.Undos, .lit (.int .i64 a.State), .lit (.int .i64 a.Now)]], true, []⟩
  law := by intro l x h; (try simp only at h); split at h <;> cases h; rfl
def ann_laws_toInst : con_laws_toInst.α → Nat → Option (Ann UU) := fun a => annL []
def use_laws_toInst : List (FuncId × Con UU) := [(73, con_laws_toStore), (74, con_laws_toMatchS), (75, con_laws_toTaskS), (76, con_laws_toTimerS), (77, con_laws_toUndoS)]
theorem vc_laws_toInst (a : DInst) : goal EE use_laws_toInst Go.Proofs.Tryz.f52 con_laws_toInst ann_laws_toInst a = (sizeStore a.S ≤ (4294967296 : Nat) ∧ sizeMatchS a.Fired ≤ (4294967296 : Nat) ∧ sizeTaskS a.Tasks ≤ (4294967296 : Nat) ∧ sizeTimerS a.Timers ≤ (4294967296 : Nat) ∧ sizeUndoS a.Undos ≤ (4294967296 : Nat) ∧ Lf [DV.agg [Cell.sl Cd.eItem a.S.Items, Cell.lit (Value.int IntKind.i64 a.S.Next), Cell.sl Cd.eMatch a.Fired, Cell.sl Cd.eTask a.Tasks, Cell.sl Cd.eTimer a.Timers, Cell.sl Cd.eUndo a.Undos, Cell.lit (Value.int IntKind.i64 a.State), Cell.lit (Value.int IntKind.i64 a.Now)]] [DV.agg [Cell.sl Cd.eItem a.S.Items, Cell.lit (Value.int IntKind.i64 a.S.Next), Cell.sl Cd.eMatch a.Fired, Cell.sl Cd.eTask a.Tasks, Cell.sl Cd.eTimer a.Timers, Cell.sl Cd.eUndo a.Undos, Cell.lit (Value.int IntKind.i64 a.State), Cell.lit (Value.int IntKind.i64 a.Now)]]) := by kernel_rfl
theorem ok_laws_toInst : Holds EE (52, con_laws_toInst) := by
  refine holds_of EE_ok Go.Proofs.Tryz.func52 con_laws_toInst (by kernel_rfl) use_laws_toInst (all_cons ok_laws_toStore (all_cons ok_laws_toMatchS (all_cons ok_laws_toTaskS (all_cons ok_laws_toTimerS (all_cons ok_laws_toUndoS all_nil))))) ann_laws_toInst (fun (a : DInst) hp hb => ?_)
  have hb_a : BdDV (U := UU) (.agg [.sl .lItem a.S.Items, .lit (.int .i64 a.S.Next), .sl .lMatch a.Fired, .sl .lTask a.Tasks, .sl .lTimer a.Timers, .sl .lUndo a.Undos, .lit (.int .i64 a.State), .lit (.int .i64 a.Now)]) := hb _ (List.mem_cons_self)
  have hl_a_S_Items : a.S.Items.length ≤ 9223372036854775807 := Bd.len (U := UU) (τ := .lItem) (xs := a.S.Items) (hb_a _ (by simp))
  have hl_a_Fired : a.Fired.length ≤ 9223372036854775807 := Bd.len (U := UU) (τ := .lMatch) (xs := a.Fired) (hb_a _ (by simp))
  have hl_a_Tasks : a.Tasks.length ≤ 9223372036854775807 := Bd.len (U := UU) (τ := .lTask) (xs := a.Tasks) (hb_a _ (by simp))
  have hl_a_Timers : a.Timers.length ≤ 9223372036854775807 := Bd.len (U := UU) (τ := .lTimer) (xs := a.Timers) (hb_a _ (by simp))
  have hl_a_Undos : a.Undos.length ≤ 9223372036854775807 := Bd.len (U := UU) (τ := .lUndo) (xs := a.Undos) (hb_a _ (by simp))
  have hp0 : sizeInst a ≤ 4294967296 := hp _ (List.mem_cons_self)
  clear hp hb
  rw [vc_laws_toInst a]
  simp only [sizeInst] at hp0
  repeat' (first | exact Lf_rfl _ | (refine And.intro (by omega) ?_))
def con_laws_eqInst : Con UU where
  α := DInst × DInst
  md := [.ro, .ro]
  of := fun | [.agg [.sl .eItem a0, .lit (.int .i64 a1), .sl .eMatch a2, .sl .eTask a3, .sl .eTimer a4, .sl .eUndo a5, .lit (.int .i64 a6), .lit (.int .i64 a7)], .agg [.sl .eItem a8, .lit (.int .i64 a9), .sl .eMatch a10, .sl .eTask a11, .sl .eTimer a12, .sl .eUndo a13, .lit (.int .i64 a14), .lit (.int .i64 a15)]] => some (⟨⟨a0, a1⟩, a2, a3, a4, a5, a6, a7⟩, ⟨⟨a8, a9⟩, a10, a11, a12, a13, a14, a15⟩) | _ => none
  ds := fun (a, b) => [.agg [.sl .eItem a.S.Items, .lit (.int .i64 a.S.Next), .sl .eMatch a.Fired, .sl .eTask a.Tasks, .sl .eTimer a.Timers, .sl .eUndo a.Undos, .lit (.int .i64 a.State), .lit (.int .i64 a.Now)], .agg [.sl .eItem b.S.Items, .lit (.int .i64 b.S.Next), .sl .eMatch b.Fired, .sl .eTask b.Tasks, .sl .eTimer b.Timers, .sl .eUndo b.Undos, .lit (.int .i64 b.State), .lit (.int .i64 b.Now)]]
  pre := fun (a, b) => []
  res := fun (a, b) => ⟨[.one (.lit (.bool (decide (a = b))))], true, []⟩
  law := by intro l x h; (try simp only at h); split at h <;> cases h; rfl
def ann_laws_eqInst : con_laws_eqInst.α → Nat → Option (Ann UU) := fun (a, b) => annL []
def use_laws_eqInst : List (FuncId × Con UU) := [(82, con_laws_eqStore), (83, con_laws_eqMatchS), (84, con_laws_eqTaskS), (85, con_laws_eqTimerS), (86, con_laws_eqUndoS)]
theorem vc_laws_eqInst (a : DInst) (b : DInst) : goal EE use_laws_eqInst Go.Proofs.Tryz.f64 con_laws_eqInst ann_laws_eqInst (a, b) = (bif !decide (a.S = b.S) then Lf [DV.one (Cell.lit (Value.bool false))] [DV.one (Cell.lit (Value.bool (decide (a = b))))] else bif !decide (a.Fired = b.Fired) then Lf [DV.one (Cell.lit (Value.bool false))] [DV.one (Cell.lit (Value.bool (decide (a = b))))] else bif !decide (a.Tasks = b.Tasks) then Lf [DV.one (Cell.lit (Value.bool false))] [DV.one (Cell.lit (Value.bool (decide (a = b))))] else bif !decide (a.Timers = b.Timers) then Lf [DV.one (Cell.lit (Value.bool false))] [DV.one (Cell.lit (Value.bool (decide (a = b))))] else bif !decide (a.Undos = b.Undos) then Lf [DV.one (Cell.lit (Value.bool false))] [DV.one (Cell.lit (Value.bool (decide (a = b))))] else bif a.State != b.State then Lf [DV.one (Cell.lit (Value.bool false))] [DV.one (Cell.lit (Value.bool (decide (a = b))))] else bif a.Now != b.Now then Lf [DV.one (Cell.lit (Value.bool false))] [DV.one (Cell.lit (Value.bool (decide (a = b))))] else Lf [DV.one (Cell.lit (Value.bool true))] [DV.one (Cell.lit (Value.bool (decide (a = b))))]) := by kernel_rfl
theorem ok_laws_eqInst : Holds EE (64, con_laws_eqInst) := by
  refine holds_of EE_ok Go.Proofs.Tryz.func64 con_laws_eqInst (by kernel_rfl) use_laws_eqInst (all_cons ok_laws_eqStore (all_cons ok_laws_eqMatchS (all_cons ok_laws_eqTaskS (all_cons ok_laws_eqTimerS (all_cons ok_laws_eqUndoS all_nil))))) ann_laws_eqInst (fun x hp hb => ?_)
  obtain ⟨a, b⟩ := x
  have hb_a : BdDV (U := UU) (.agg [.sl .eItem a.S.Items, .lit (.int .i64 a.S.Next), .sl .eMatch a.Fired, .sl .eTask a.Tasks, .sl .eTimer a.Timers, .sl .eUndo a.Undos, .lit (.int .i64 a.State), .lit (.int .i64 a.Now)]) := hb _ (List.mem_cons_self)
  have hl_a_S_Items : a.S.Items.length ≤ 9223372036854775807 := Bd.len (U := UU) (τ := .eItem) (xs := a.S.Items) (hb_a _ (by simp))
  have hl_a_Fired : a.Fired.length ≤ 9223372036854775807 := Bd.len (U := UU) (τ := .eMatch) (xs := a.Fired) (hb_a _ (by simp))
  have hl_a_Tasks : a.Tasks.length ≤ 9223372036854775807 := Bd.len (U := UU) (τ := .eTask) (xs := a.Tasks) (hb_a _ (by simp))
  have hl_a_Timers : a.Timers.length ≤ 9223372036854775807 := Bd.len (U := UU) (τ := .eTimer) (xs := a.Timers) (hb_a _ (by simp))
  have hl_a_Undos : a.Undos.length ≤ 9223372036854775807 := Bd.len (U := UU) (τ := .eUndo) (xs := a.Undos) (hb_a _ (by simp))
  have hb_b : BdDV (U := UU) (.agg [.sl .eItem b.S.Items, .lit (.int .i64 b.S.Next), .sl .eMatch b.Fired, .sl .eTask b.Tasks, .sl .eTimer b.Timers, .sl .eUndo b.Undos, .lit (.int .i64 b.State), .lit (.int .i64 b.Now)]) := hb _ (List.mem_cons_of_mem _ (List.mem_cons_self))
  have hl_b_S_Items : b.S.Items.length ≤ 9223372036854775807 := Bd.len (U := UU) (τ := .eItem) (xs := b.S.Items) (hb_b _ (by simp))
  have hl_b_Fired : b.Fired.length ≤ 9223372036854775807 := Bd.len (U := UU) (τ := .eMatch) (xs := b.Fired) (hb_b _ (by simp))
  have hl_b_Tasks : b.Tasks.length ≤ 9223372036854775807 := Bd.len (U := UU) (τ := .eTask) (xs := b.Tasks) (hb_b _ (by simp))
  have hl_b_Timers : b.Timers.length ≤ 9223372036854775807 := Bd.len (U := UU) (τ := .eTimer) (xs := b.Timers) (hb_b _ (by simp))
  have hl_b_Undos : b.Undos.length ≤ 9223372036854775807 := Bd.len (U := UU) (τ := .eUndo) (xs := b.Undos) (hb_b _ (by simp))
  clear hp hb
  rw [vc_laws_eqInst a b]
  obtain ⟨aS, aFired, aTasks, aTimers, aUndos, aState, aNow⟩ := a
  obtain ⟨bS, bFired, bTasks, bTimers, bUndos, bState, bNow⟩ := b
  repeat' (apply if_cond <;> intro _)
  all_goals (first | apply Lf_t | apply Lf_f) <;> simp_all
def con_laws_szWork : Con UU where
  α := DWork × Int
  md := [.ro, .ro]
  of := fun | [.agg [.lit (.string a0), .lit (.string a1), .sl .lItem a2, .lit (.int .i64 a3), .sl .lMatch a4, .sl .lTask a5, .sl .lTimer a6, .sl .lUndo a7, .lit (.int .i64 a8), .lit (.int .i64 a9)], .one (.lit (.int .i64 a10))] => some (⟨a0, a1, ⟨⟨a2, a3⟩, a4, a5, a6, a7, a8, a9⟩⟩, a10) | _ => none
  ds := fun (a, left) => [.agg [.lit (.string a.Name), .lit (.string a.Def), .sl .lItem a.X.S.Items, .lit (.int .i64 a.X.S.Next), .sl .lMatch a.X.Fired, .sl .lTask a.X.Tasks, .sl .lTimer a.X.Timers, .sl .lUndo a.X.Undos, .lit (.int .i64 a.X.State), .lit (.int .i64 a.X.Now)], .one (.lit (.int .i64 left))]
  pre := fun (a, left) => [0 ≤ left]
  res := fun (a, left) => ⟨[.one (.lit (.int .i64 (szr left (sizeWork a))))], true, []⟩
  law := by intro l x h; (try simp only at h); split at h <;> cases h; rfl
def ann_laws_szWork : con_laws_szWork.α → Nat → Option (Ann UU) := fun (a, left) => annL []
def use_laws_szWork : List (FuncId × Con UU) := [(46, con_laws_szInst)]
theorem vc_laws_szWork (a : DWork) (left : Int) : goal EE use_laws_szWork Go.Proofs.Tryz.f23 con_laws_szWork ann_laws_szWork (a, left) = (let x0 : Int := IntKind.wrap IntKind.i64 (IntKind.wrap IntKind.i64 (left - (↑(ByteArray.size a.Name) : Int)) - (↑(ByteArray.size a.Def) : Int));
let x1 : Int := IntKind.wrap IntKind.i64 (left - (↑(ByteArray.size a.Name) : Int));
bif decide (x1 < (0 : Int)) then Lf [DV.one (Cell.lit (Value.int IntKind.i64 (-1 : Int)))] [DV.one (Cell.lit (Value.int IntKind.i64 (szr left (sizeWork a))))] else bif decide (x0 < (0 : Int)) then Lf [DV.one (Cell.lit (Value.int IntKind.i64 (-1 : Int)))] [DV.one (Cell.lit (Value.int IntKind.i64 (szr left (sizeWork a))))] else (0 : Int) ≤ x0 ∧ bif decide (szr x0 (sizeInst a.X) < (0 : Int)) then Lf [DV.one (Cell.lit (Value.int IntKind.i64 (-1 : Int)))] [DV.one (Cell.lit (Value.int IntKind.i64 (szr left (sizeWork a))))] else Lf [DV.one (Cell.lit (Value.int IntKind.i64 (szr x0 (sizeInst a.X))))] [DV.one (Cell.lit (Value.int IntKind.i64 (szr left (sizeWork a))))]) := by kernel_rfl
theorem ok_laws_szWork : Holds EE (23, con_laws_szWork) := by
  refine holds_of EE_ok Go.Proofs.Tryz.func23 con_laws_szWork (by kernel_rfl) use_laws_szWork (all_cons ok_laws_szInst all_nil) ann_laws_szWork (fun x hp hb => ?_)
  obtain ⟨a, left⟩ := x
  have hb_a : BdDV (U := UU) (.agg [.lit (.string a.Name), .lit (.string a.Def), .sl .lItem a.X.S.Items, .lit (.int .i64 a.X.S.Next), .sl .lMatch a.X.Fired, .sl .lTask a.X.Tasks, .sl .lTimer a.X.Timers, .sl .lUndo a.X.Undos, .lit (.int .i64 a.X.State), .lit (.int .i64 a.X.Now)]) := hb _ (List.mem_cons_self)
  have hl_a_Name : a.Name.size ≤ 9223372036854775807 := Bd.str (hb_a _ (by simp))
  have hl_a_Def : a.Def.size ≤ 9223372036854775807 := Bd.str (hb_a _ (by simp))
  have hl_a_X_S_Items : a.X.S.Items.length ≤ 9223372036854775807 := Bd.len (U := UU) (τ := .lItem) (xs := a.X.S.Items) (hb_a _ (by simp))
  have hl_a_X_Fired : a.X.Fired.length ≤ 9223372036854775807 := Bd.len (U := UU) (τ := .lMatch) (xs := a.X.Fired) (hb_a _ (by simp))
  have hl_a_X_Tasks : a.X.Tasks.length ≤ 9223372036854775807 := Bd.len (U := UU) (τ := .lTask) (xs := a.X.Tasks) (hb_a _ (by simp))
  have hl_a_X_Timers : a.X.Timers.length ≤ 9223372036854775807 := Bd.len (U := UU) (τ := .lTimer) (xs := a.X.Timers) (hb_a _ (by simp))
  have hl_a_X_Undos : a.X.Undos.length ≤ 9223372036854775807 := Bd.len (U := UU) (τ := .lUndo) (xs := a.X.Undos) (hb_a _ (by simp))
  have hb_left : BdDV (U := UU) (.one (.lit (.int .i64 left))) := hb _ (List.mem_cons_of_mem _ (List.mem_cons_self))
  have hl_left := Bd.i64 hb_left
  have hp0 : 0 ≤ left := hp _ (List.mem_cons_self)
  clear hp hb
  rw [vc_laws_szWork a left]
  dsimp only
  rw [wrap_i64 (by omega) (by omega)]
  refine if_cond (fun h => Lf_i (szr_bad' ?_)) (fun h => ?_)
  · have h := of_decide_eq_true h; simp only [sizeWork]; omega
  have h0 := of_decide_eq_false h
  rw [wrap_i64 (by omega) (by omega)]
  refine if_cond (fun h => Lf_i (szr_bad' ?_)) (fun h => ?_)
  · have h := of_decide_eq_true h; simp only [sizeWork]; omega
  have h1 := of_decide_eq_false h
  refine ⟨by omega, if_cond (fun h => Lf_i (szr_bad' ?_)) (fun h => ?_)⟩
  · have h := szr_neg h; simp only [sizeWork]; omega
  obtain ⟨e2, h2⟩ := szr_pos h
  rw [e2]
  exact Lf_i (by rw [← szr_ok' (by simp only [sizeWork]; omega)]; simp only [sizeWork]; try omega)
def con_laws_toWork : Con UU where
  α := DWork
  md := [.ro]
  of := fun | [.agg [.lit (.string a0), .lit (.string a1), .sl .lItem a2, .lit (.int .i64 a3), .sl .lMatch a4, .sl .lTask a5, .sl .lTimer a6, .sl .lUndo a7, .lit (.int .i64 a8), .lit (.int .i64 a9)]] => some ⟨a0, a1, ⟨⟨a2, a3⟩, a4, a5, a6, a7, a8, a9⟩⟩ | _ => none
  ds := fun a => [.agg [.lit (.string a.Name), .lit (.string a.Def), .sl .lItem a.X.S.Items, .lit (.int .i64 a.X.S.Next), .sl .lMatch a.X.Fired, .sl .lTask a.X.Tasks, .sl .lTimer a.X.Timers, .sl .lUndo a.X.Undos, .lit (.int .i64 a.X.State), .lit (.int .i64 a.X.Now)]]
  pre := fun a => [sizeWork a ≤ 4294967296]
  res := fun a => ⟨[.agg [.lit (.string a.Name), .lit (.string a.Def), .sl .eItem a.X.S.Items, .lit (.int .i64 a.X.S.Next), .sl .eMatch a.X.Fired, .sl .eTask a.X.Tasks, .sl .eTimer a.X.Timers, .sl .eUndo a.X.Undos, .lit (.int .i64 a.X.State), .lit (.int .i64 a.X.Now)]], true, []⟩
  law := by intro l x h; (try simp only at h); split at h <;> cases h; rfl
def ann_laws_toWork : con_laws_toWork.α → Nat → Option (Ann UU) := fun a => annL []
def use_laws_toWork : List (FuncId × Con UU) := [(52, con_laws_toInst)]
theorem vc_laws_toWork (a : DWork) : goal EE use_laws_toWork Go.Proofs.Tryz.f30 con_laws_toWork ann_laws_toWork a = (sizeInst a.X ≤ (4294967296 : Nat) ∧ Lf [DV.agg [Cell.lit (Value.string a.Name), Cell.lit (Value.string a.Def), Cell.sl Cd.eItem a.X.S.Items, Cell.lit (Value.int IntKind.i64 a.X.S.Next), Cell.sl Cd.eMatch a.X.Fired, Cell.sl Cd.eTask a.X.Tasks, Cell.sl Cd.eTimer a.X.Timers, Cell.sl Cd.eUndo a.X.Undos, Cell.lit (Value.int IntKind.i64 a.X.State), Cell.lit (Value.int IntKind.i64 a.X.Now)]] [DV.agg [Cell.lit (Value.string a.Name), Cell.lit (Value.string a.Def), Cell.sl Cd.eItem a.X.S.Items, Cell.lit (Value.int IntKind.i64 a.X.S.Next), Cell.sl Cd.eMatch a.X.Fired, Cell.sl Cd.eTask a.X.Tasks, Cell.sl Cd.eTimer a.X.Timers, Cell.sl Cd.eUndo a.X.Undos, Cell.lit (Value.int IntKind.i64 a.X.State), Cell.lit (Value.int IntKind.i64 a.X.Now)]]) := by kernel_rfl
theorem ok_laws_toWork : Holds EE (30, con_laws_toWork) := by
  refine holds_of EE_ok Go.Proofs.Tryz.func30 con_laws_toWork (by kernel_rfl) use_laws_toWork (all_cons ok_laws_toInst all_nil) ann_laws_toWork (fun (a : DWork) hp hb => ?_)
  have hb_a : BdDV (U := UU) (.agg [.lit (.string a.Name), .lit (.string a.Def), .sl .lItem a.X.S.Items, .lit (.int .i64 a.X.S.Next), .sl .lMatch a.X.Fired, .sl .lTask a.X.Tasks, .sl .lTimer a.X.Timers, .sl .lUndo a.X.Undos, .lit (.int .i64 a.X.State), .lit (.int .i64 a.X.Now)]) := hb _ (List.mem_cons_self)
  have hl_a_Name : a.Name.size ≤ 9223372036854775807 := Bd.str (hb_a _ (by simp))
  have hl_a_Def : a.Def.size ≤ 9223372036854775807 := Bd.str (hb_a _ (by simp))
  have hl_a_X_S_Items : a.X.S.Items.length ≤ 9223372036854775807 := Bd.len (U := UU) (τ := .lItem) (xs := a.X.S.Items) (hb_a _ (by simp))
  have hl_a_X_Fired : a.X.Fired.length ≤ 9223372036854775807 := Bd.len (U := UU) (τ := .lMatch) (xs := a.X.Fired) (hb_a _ (by simp))
  have hl_a_X_Tasks : a.X.Tasks.length ≤ 9223372036854775807 := Bd.len (U := UU) (τ := .lTask) (xs := a.X.Tasks) (hb_a _ (by simp))
  have hl_a_X_Timers : a.X.Timers.length ≤ 9223372036854775807 := Bd.len (U := UU) (τ := .lTimer) (xs := a.X.Timers) (hb_a _ (by simp))
  have hl_a_X_Undos : a.X.Undos.length ≤ 9223372036854775807 := Bd.len (U := UU) (τ := .lUndo) (xs := a.X.Undos) (hb_a _ (by simp))
  have hp0 : sizeWork a ≤ 4294967296 := hp _ (List.mem_cons_self)
  clear hp hb
  rw [vc_laws_toWork a]
  simp only [sizeWork] at hp0
  repeat' (first | exact Lf_rfl _ | (refine And.intro (by omega) ?_))
def con_laws_eqWork : Con UU where
  α := DWork × DWork
  md := [.ro, .ro]
  of := fun | [.agg [.lit (.string a0), .lit (.string a1), .sl .eItem a2, .lit (.int .i64 a3), .sl .eMatch a4, .sl .eTask a5, .sl .eTimer a6, .sl .eUndo a7, .lit (.int .i64 a8), .lit (.int .i64 a9)], .agg [.lit (.string a10), .lit (.string a11), .sl .eItem a12, .lit (.int .i64 a13), .sl .eMatch a14, .sl .eTask a15, .sl .eTimer a16, .sl .eUndo a17, .lit (.int .i64 a18), .lit (.int .i64 a19)]] => some (⟨a0, a1, ⟨⟨a2, a3⟩, a4, a5, a6, a7, a8, a9⟩⟩, ⟨a10, a11, ⟨⟨a12, a13⟩, a14, a15, a16, a17, a18, a19⟩⟩) | _ => none
  ds := fun (a, b) => [.agg [.lit (.string a.Name), .lit (.string a.Def), .sl .eItem a.X.S.Items, .lit (.int .i64 a.X.S.Next), .sl .eMatch a.X.Fired, .sl .eTask a.X.Tasks, .sl .eTimer a.X.Timers, .sl .eUndo a.X.Undos, .lit (.int .i64 a.X.State), .lit (.int .i64 a.X.Now)], .agg [.lit (.string b.Name), .lit (.string b.Def), .sl .eItem b.X.S.Items, .lit (.int .i64 b.X.S.Next), .sl .eMatch b.X.Fired, .sl .eTask b.X.Tasks, .sl .eTimer b.X.Timers, .sl .eUndo b.X.Undos, .lit (.int .i64 b.X.State), .lit (.int .i64 b.X.Now)]]
  pre := fun (a, b) => []
  res := fun (a, b) => ⟨[.one (.lit (.bool (decide (a = b))))], true, []⟩
  law := by intro l x h; (try simp only at h); split at h <;> cases h; rfl
def ann_laws_eqWork : con_laws_eqWork.α → Nat → Option (Ann UU) := fun (a, b) => annL []
def use_laws_eqWork : List (FuncId × Con UU) := [(64, con_laws_eqInst)]
theorem vc_laws_eqWork (a : DWork) (b : DWork) : goal EE use_laws_eqWork Go.Proofs.Tryz.f44 con_laws_eqWork ann_laws_eqWork (a, b) = (bif !ByteArray.toList a.Name == ByteArray.toList b.Name then Lf [DV.one (Cell.lit (Value.bool false))] [DV.one (Cell.lit (Value.bool (decide (a = b))))] else bif !ByteArray.toList a.Def == ByteArray.toList b.Def then Lf [DV.one (Cell.lit (Value.bool false))] [DV.one (Cell.lit (Value.bool (decide (a = b))))] else bif !decide (a.X = b.X) then Lf [DV.one (Cell.lit (Value.bool false))] [DV.one (Cell.lit (Value.bool (decide (a = b))))] else Lf [DV.one (Cell.lit (Value.bool true))] [DV.one (Cell.lit (Value.bool (decide (a = b))))]) := by kernel_rfl
theorem ok_laws_eqWork : Holds EE (44, con_laws_eqWork) := by
  refine holds_of EE_ok Go.Proofs.Tryz.func44 con_laws_eqWork (by kernel_rfl) use_laws_eqWork (all_cons ok_laws_eqInst all_nil) ann_laws_eqWork (fun x hp hb => ?_)
  obtain ⟨a, b⟩ := x
  have hb_a : BdDV (U := UU) (.agg [.lit (.string a.Name), .lit (.string a.Def), .sl .eItem a.X.S.Items, .lit (.int .i64 a.X.S.Next), .sl .eMatch a.X.Fired, .sl .eTask a.X.Tasks, .sl .eTimer a.X.Timers, .sl .eUndo a.X.Undos, .lit (.int .i64 a.X.State), .lit (.int .i64 a.X.Now)]) := hb _ (List.mem_cons_self)
  have hl_a_Name : a.Name.size ≤ 9223372036854775807 := Bd.str (hb_a _ (by simp))
  have hl_a_Def : a.Def.size ≤ 9223372036854775807 := Bd.str (hb_a _ (by simp))
  have hl_a_X_S_Items : a.X.S.Items.length ≤ 9223372036854775807 := Bd.len (U := UU) (τ := .eItem) (xs := a.X.S.Items) (hb_a _ (by simp))
  have hl_a_X_Fired : a.X.Fired.length ≤ 9223372036854775807 := Bd.len (U := UU) (τ := .eMatch) (xs := a.X.Fired) (hb_a _ (by simp))
  have hl_a_X_Tasks : a.X.Tasks.length ≤ 9223372036854775807 := Bd.len (U := UU) (τ := .eTask) (xs := a.X.Tasks) (hb_a _ (by simp))
  have hl_a_X_Timers : a.X.Timers.length ≤ 9223372036854775807 := Bd.len (U := UU) (τ := .eTimer) (xs := a.X.Timers) (hb_a _ (by simp))
  have hl_a_X_Undos : a.X.Undos.length ≤ 9223372036854775807 := Bd.len (U := UU) (τ := .eUndo) (xs := a.X.Undos) (hb_a _ (by simp))
  have hb_b : BdDV (U := UU) (.agg [.lit (.string b.Name), .lit (.string b.Def), .sl .eItem b.X.S.Items, .lit (.int .i64 b.X.S.Next), .sl .eMatch b.X.Fired, .sl .eTask b.X.Tasks, .sl .eTimer b.X.Timers, .sl .eUndo b.X.Undos, .lit (.int .i64 b.X.State), .lit (.int .i64 b.X.Now)]) := hb _ (List.mem_cons_of_mem _ (List.mem_cons_self))
  have hl_b_Name : b.Name.size ≤ 9223372036854775807 := Bd.str (hb_b _ (by simp))
  have hl_b_Def : b.Def.size ≤ 9223372036854775807 := Bd.str (hb_b _ (by simp))
  have hl_b_X_S_Items : b.X.S.Items.length ≤ 9223372036854775807 := Bd.len (U := UU) (τ := .eItem) (xs := b.X.S.Items) (hb_b _ (by simp))
  have hl_b_X_Fired : b.X.Fired.length ≤ 9223372036854775807 := Bd.len (U := UU) (τ := .eMatch) (xs := b.X.Fired) (hb_b _ (by simp))
  have hl_b_X_Tasks : b.X.Tasks.length ≤ 9223372036854775807 := Bd.len (U := UU) (τ := .eTask) (xs := b.X.Tasks) (hb_b _ (by simp))
  have hl_b_X_Timers : b.X.Timers.length ≤ 9223372036854775807 := Bd.len (U := UU) (τ := .eTimer) (xs := b.X.Timers) (hb_b _ (by simp))
  have hl_b_X_Undos : b.X.Undos.length ≤ 9223372036854775807 := Bd.len (U := UU) (τ := .eUndo) (xs := b.X.Undos) (hb_b _ (by simp))
  clear hp hb
  rw [vc_laws_eqWork a b]
  obtain ⟨aName, aDef, aX⟩ := a
  obtain ⟨bName, bDef, bX⟩ := b
  repeat' (apply if_cond <;> intro _)
  all_goals (first | apply Lf_t | apply Lf_f) <;> simp_all
def con_laws_szWorkS : Con UU where
  α := (List DWork) × Int
  md := [.ro, .ro]
  of := fun | [.one (.sl .lWork a0), .one (.lit (.int .i64 a1))] => some (a0, a1) | _ => none
  ds := fun (a, left) => [.one (.sl .lWork a), .one (.lit (.int .i64 left))]
  pre := fun (a, left) => [0 ≤ left]
  res := fun (a, left) => ⟨[.one (.lit (.int .i64 (szr left (sizeWorkS a))))], true, []⟩
  law := by intro l x h; (try simp only at h); split at h <;> cases h; rfl
def I_laws_szWorkS_5 (a : (List DWork)) (left : Int) : Int × Int × Unit → Prop := fun (lf, i, _) => 0 ≤ lf ∧ 0 ≤ i ∧ i ≤ a.length ∧ szr lf ((a.drop i.toNat).map sizeWork).sum = szr left (sizeWorkS a)
def μ_laws_szWorkS_5 (a : (List DWork)) (left : Int) : Int × Int × Unit → Nat := fun (lf, i, _) => a.length - i.toNat
def ann_laws_szWorkS : con_laws_szWorkS.α → Nat → Option (Ann UU) := fun (a, left) => annL [(5, annOf [.slot 1 (1, 1024) (.lit (.int .i64)), .slot 5 (5, 1024) (.lit (.int .i64))] (fun _ => I_laws_szWorkS_5 a left) (μ_laws_szWorkS_5 a left))]
def use_laws_szWorkS : List (FuncId × Con UU) := [(23, con_laws_szWork)]
theorem vc_laws_szWorkS (a : (List DWork)) (left : Int) : goal EE use_laws_szWorkS Go.Proofs.Tryz.f10 con_laws_szWorkS ann_laws_szWorkS (a, left) = (let x0 : Int := IntKind.wrap IntKind.i64 (left - (↑(List.length a) : Int));
bif decide (x0 < (0 : Int)) then Lf [DV.one (Cell.lit (Value.int IntKind.i64 (-1 : Int)))] [DV.one (Cell.lit (Value.int IntKind.i64 (szr left (sizeWorkS a))))]
else
  I_laws_szWorkS_5 a left (x0, (0 : Int), PUnit.unit) ∧
    ∀ (y : Int × Int × PUnit),
      let x1 : Int := szr y.1 (sizeWork (List.getD a (Int.toNat y.2.1) zWork));
      I_laws_szWorkS_5 a left y → bif decide (y.2.1 < (↑(List.length a) : Int)) then (0 : Int) ≤ y.2.1 ∧ Int.toNat y.2.1 < List.length a ∧ (0 : Int) ≤ y.1 ∧ bif decide (x1 < (0 : Int)) then Lf [DV.one (Cell.lit (Value.int IntKind.i64 (-1 : Int)))] [DV.one (Cell.lit (Value.int IntKind.i64 (szr left (sizeWorkS a))))] else I_laws_szWorkS_5 a left (x1, IntKind.wrap IntKind.i64 (y.2.1 + (1 : Int)), PUnit.unit) ∧ μ_laws_szWorkS_5 a left (x1, IntKind.wrap IntKind.i64 (y.2.1 + (1 : Int)), PUnit.unit) < μ_laws_szWorkS_5 a left y else Lf [DV.one (Cell.lit (Value.int IntKind.i64 y.1))] [DV.one (Cell.lit (Value.int IntKind.i64 (szr left (sizeWorkS a))))]) := by kernel_rfl
theorem ok_laws_szWorkS : Holds EE (10, con_laws_szWorkS) := by
  refine holds_of EE_ok Go.Proofs.Tryz.func10 con_laws_szWorkS (by kernel_rfl) use_laws_szWorkS (all_cons ok_laws_szWork all_nil) ann_laws_szWorkS (fun x hp hb => ?_)
  obtain ⟨a, left⟩ := x
  have hb_a : BdDV (U := UU) (.one (.sl .lWork a)) := hb _ (List.mem_cons_self)
  have hl_a : a.length ≤ 9223372036854775807 := Bd.len hb_a
  have hb_left : BdDV (U := UU) (.one (.lit (.int .i64 left))) := hb _ (List.mem_cons_of_mem _ (List.mem_cons_self))
  have hl_left := Bd.i64 hb_left
  have hp0 : 0 ≤ left := hp _ (List.mem_cons_self)
  clear hp hb
  rw [vc_laws_szWorkS a left]
  dsimp only
  rw [wrap_i64 (by omega) (by omega)]
  refine if_cond (fun h => Lf_i ?_) (fun h => ⟨?_, ?_⟩)
  · simp [szr, sizeWorkS] at *; omega
  · simp only [I_laws_szWorkS_5, sizeWorkS]; simp at h; have h' : 0 ≤ left - a.length := by omega
    exact ⟨h', by omega, by omega, szr_sub h'⟩
  rintro ⟨lf, i, ⟨⟩⟩ ⟨h0, h1, h2, hR⟩
  refine if_cond (fun hc => ?_) (fun hc => ?_)
  · have hc : i < a.length := by simpa using hc
    rw [drop_step a zWork h1 hc, List.map_cons, List.sum_cons] at hR
    simp only at *
    rw [wrap_i64 (by omega) (by omega)]
    generalize List.getD a i.toNat zWork = x at *
    refine ⟨by omega, by omega, by omega, if_cond (fun h => Lf_i ?_) (fun h => ⟨⟨?_, by omega, by omega, ?_⟩, ?_⟩)⟩
    · rw [← hR]; exact (szr_bad (of_decide_eq_true h)).symm
    · simp at h; omega
    · rw [← hR]; simp at h; exact szr_szr h
    · simp only [μ_laws_szWorkS_5]; omega
  · have hc : a.length ≤ i := by simpa using hc
    rw [drop_end a hc] at hR
    apply Lf_i; rw [← hR]; simp [szr, h0]
def con_laws_toWorkS : Con UU where
  α := (List DWork)
  md := [.ro]
  of := fun | [.one (.sl .lWork a0)] => some a0 | _ => none
  ds := fun a => [.one (.sl .lWork a)]
  pre := fun a => [sizeWorkS a ≤ 4294967296]
  res := fun a => ⟨[.one (.sl .eWork a)], true, []⟩
  law := by intro l x h; (try simp only at h); split at h <;> cases h; rfl
def I_laws_toWorkS_3 (a : (List DWork)) : List DWork × Int × Unit → Prop := fun (out, i, _) => 0 ≤ i ∧ i ≤ a.length ∧ out = a.take i.toNat ++ List.replicate (a.length - i.toNat) zWork
def μ_laws_toWorkS_3 (a : (List DWork)) : List DWork × Int × Unit → Nat := fun (out, i, _) => a.length - i.toNat
def ann_laws_toWorkS : con_laws_toWorkS.α → Nat → Option (Ann UU) := fun a => annL [(3, annOf [.slot 3 (3, 1024) (.own .eWork true), .slot 4 (4, 1024) (.lit (.int .i64))] (fun _ => I_laws_toWorkS_3 a) (μ_laws_toWorkS_3 a))]
def use_laws_toWorkS : List (FuncId × Con UU) := [(30, con_laws_toWork)]
theorem vc_laws_toWorkS (a : (List DWork)) : goal EE use_laws_toWorkS Go.Proofs.Tryz.f14 con_laws_toWorkS ann_laws_toWorkS a = (let x0 : Int := (↑(List.length a) : Int);
(0 : Int) ≤ x0 ∧
  x0 = x0 ∧
    x0 ≤ (4294967296 : Int) ∧
      I_laws_toWorkS_3 a (List.replicate (Int.toNat x0) zWork, (0 : Int), PUnit.unit) ∧
        ∀ (y : List DWork × Int × PUnit),
          let x1 : Nat := Int.toNat y.2.1;
          I_laws_toWorkS_3 a y → bif decide (y.2.1 < x0) then (0 : Int) ≤ y.2.1 ∧ x1 < List.length a ∧ sizeWork (List.getD a x1 zWork) ≤ (4294967296 : Nat) ∧ (0 : Int) ≤ y.2.1 ∧ x1 < List.length y.1 ∧ x1 < List.length y.1 ∧ I_laws_toWorkS_3 a (List.set y.1 x1 (List.getD a x1 zWork), IntKind.wrap IntKind.i64 (y.2.1 + (1 : Int)), PUnit.unit) ∧ μ_laws_toWorkS_3 a (List.set y.1 x1 (List.getD a x1 zWork), IntKind.wrap IntKind.i64 (y.2.1 + (1 : Int)), PUnit.unit) < μ_laws_toWorkS_3 a y else Lf [DV.one (Cell.sl Cd.eWork y.1)] [DV.one (Cell.sl Cd.eWork a)]) := by kernel_rfl
theorem ok_laws_toWorkS : Holds EE (14, con_laws_toWorkS) := by
  refine holds_of EE_ok Go.Proofs.Tryz.func14 con_laws_toWorkS (by kernel_rfl) use_laws_toWorkS (all_cons ok_laws_toWork all_nil) ann_laws_toWorkS (fun (a : (List DWork)) hp hb => ?_)
  have hb_a : BdDV (U := UU) (.one (.sl .lWork a)) := hb _ (List.mem_cons_self)
  have hl_a : a.length ≤ 9223372036854775807 := Bd.len hb_a
  have hp0 : sizeWorkS a ≤ 4294967296 := hp _ (List.mem_cons_self)
  clear hp hb
  rw [vc_laws_toWorkS a]
  dsimp only
  have hlen : a.length ≤ 4294967296 := by simp only [sizeWorkS] at hp0; omega
  refine ⟨by omega, rfl, by omega, ?_, ?_⟩
  · simp [I_laws_toWorkS_3]
  rintro ⟨out, i, ⟨⟩⟩ ⟨h1, h2, rfl⟩
  simp only at *
  refine if_cond (fun hc => ?_) (fun hc => ?_)
  · have hc : i < a.length := by simpa using hc
    rw [wrap_i64 (by omega) (by omega), set_fill a zWork h1 hc]
    exact ⟨h1, by omega, by exact Nat.le_trans (sum_getD_le sizeWork a zWork h1 hc) (by simp only [sizeWorkS] at hp0; omega), h1, by simp; omega, by simp; omega, ⟨by omega, by omega, rfl⟩, by simp only [μ_laws_toWorkS_3]; omega⟩
  · have hc : a.length ≤ i := by simpa using hc
    have e : i.toNat = a.length := by omega
    rw [e]; simp; exact Lf_rfl _
def con_laws_eqWorkS : Con UU where
  α := (List DWork) × (List DWork)
  md := [.ro, .ro]
  of := fun | [.one (.sl .eWork a0), .one (.sl .eWork a1)] => some (a0, a1) | _ => none
  ds := fun (a, b) => [.one (.sl .eWork a), .one (.sl .eWork b)]
  pre := fun (a, b) => []
  res := fun (a, b) => ⟨[.one (.lit (.bool (decide (a = b))))], true, []⟩
  law := by intro l x h; (try simp only at h); split at h <;> cases h; rfl
def I_laws_eqWorkS_4 (a : (List DWork)) (b : (List DWork)) : Int × Unit → Prop := fun (i, _) => 0 ≤ i ∧ i ≤ a.length ∧ a.length = b.length ∧ (a.drop i.toNat = b.drop i.toNat ↔ a = b)
def μ_laws_eqWorkS_4 (a : (List DWork)) (b : (List DWork)) : Int × Unit → Nat := fun (i, _) => a.length - i.toNat
def ann_laws_eqWorkS : con_laws_eqWorkS.α → Nat → Option (Ann UU) := fun (a, b) => annL [(4, annOf [.slot 5 (5, 1024) (.lit (.int .i64))] (fun _ => I_laws_eqWorkS_4 a b) (μ_laws_eqWorkS_4 a b))]
def use_laws_eqWorkS : List (FuncId × Con UU) := [(44, con_laws_eqWork)]
theorem vc_laws_eqWorkS (a : (List DWork)) (b : (List DWork)) : goal EE use_laws_eqWorkS Go.Proofs.Tryz.f21 con_laws_eqWorkS ann_laws_eqWorkS (a, b) = (bif (↑(List.length a) : Int) != (↑(List.length b) : Int) then Lf [DV.one (Cell.lit (Value.bool false))] [DV.one (Cell.lit (Value.bool (decide (a = b))))] else I_laws_eqWorkS_4 a b ((0 : Int), PUnit.unit) ∧ ∀ (y : Int × PUnit), I_laws_eqWorkS_4 a b y → bif decide (y.1 < (↑(List.length a) : Int)) then (0 : Int) ≤ y.1 ∧ Int.toNat y.1 < List.length a ∧ (0 : Int) ≤ y.1 ∧ Int.toNat y.1 < List.length b ∧ bif !decide (List.getD a (Int.toNat y.1) zWork = List.getD b (Int.toNat y.1) zWork) then Lf [DV.one (Cell.lit (Value.bool false))] [DV.one (Cell.lit (Value.bool (decide (a = b))))] else I_laws_eqWorkS_4 a b (IntKind.wrap IntKind.i64 (y.1 + (1 : Int)), PUnit.unit) ∧ μ_laws_eqWorkS_4 a b (IntKind.wrap IntKind.i64 (y.1 + (1 : Int)), PUnit.unit) < μ_laws_eqWorkS_4 a b y else Lf [DV.one (Cell.lit (Value.bool true))] [DV.one (Cell.lit (Value.bool (decide (a = b))))]) := by kernel_rfl
theorem ok_laws_eqWorkS : Holds EE (21, con_laws_eqWorkS) := by
  refine holds_of EE_ok Go.Proofs.Tryz.func21 con_laws_eqWorkS (by kernel_rfl) use_laws_eqWorkS (all_cons ok_laws_eqWork all_nil) ann_laws_eqWorkS (fun x hp hb => ?_)
  obtain ⟨a, b⟩ := x
  have hb_a : BdDV (U := UU) (.one (.sl .eWork a)) := hb _ (List.mem_cons_self)
  have hl_a : a.length ≤ 9223372036854775807 := Bd.len hb_a
  have hb_b : BdDV (U := UU) (.one (.sl .eWork b)) := hb _ (List.mem_cons_of_mem _ (List.mem_cons_self))
  have hl_b : b.length ≤ 9223372036854775807 := Bd.len hb_b
  clear hp hb
  rw [vc_laws_eqWorkS a b]
  refine if_cond (fun h => Lf_f ?_) (fun h => ⟨?_, ?_⟩)
  · rintro rfl; simp at h
  · simp [I_laws_eqWorkS_4] at *; omega
  rintro ⟨i, ⟨⟩⟩ ⟨h1, h2, h3, hR⟩
  simp only at *
  refine if_cond (fun hc => ?_) (fun hc => ?_)
  · have hc : i < a.length := by simpa using hc
    rw [drop_step a zWork h1 hc, drop_step b zWork h1 (by omega)] at hR
    rw [wrap_i64 (by omega) (by omega)]
    refine ⟨by omega, by omega, by omega, by omega, if_cond (fun h => Lf_f ?_) (fun h => ⟨⟨by omega, by omega, h3, ?_⟩, ?_⟩)⟩
    · rw [← hR]; simp at h; simp [h]
    · rw [← hR]; simp at h; simp [h]
    · simp only [μ_laws_eqWorkS_4]; omega
  · have hc : a.length ≤ i := by simpa using hc
    rw [drop_end a hc, drop_end b (by omega)] at hR
    exact Lf_t (hR.1 rfl)
def con_laws_szBook : Con UU where
  α := DBook × Int
  md := [.ro, .ro]
  of := fun | [.agg [.sl .lDef a0, .sl .lWork a1, .lit (.int .i64 a2), .lit (.int .i64 a3)], .one (.lit (.int .i64 a4))] => some (⟨a0, a1, a2, a3⟩, a4) | _ => none
  ds := fun (a, left) => [.agg [.sl .lDef a.Defs, .sl .lWork a.Works, .lit (.int .i64 a.Now), .lit (.int .i64 a.Ring)], .one (.lit (.int .i64 left))]
  pre := fun (a, left) => [0 ≤ left]
  res := fun (a, left) => ⟨[.one (.lit (.int .i64 (szr left (sizeBook a))))], true, []⟩
  law := by intro l x h; (try simp only at h); split at h <;> cases h; rfl
def ann_laws_szBook : con_laws_szBook.α → Nat → Option (Ann UU) := fun (a, left) => annL []
def use_laws_szBook : List (FuncId × Con UU) := [(9, con_laws_szDefS), (10, con_laws_szWorkS)]
theorem vc_laws_szBook (a : DBook) (left : Int) : goal EE use_laws_szBook Go.Proofs.Tryz.f4 con_laws_szBook ann_laws_szBook (a, left) = (let x0 : Int := szr (szr left (sizeDefS a.Defs)) (sizeWorkS a.Works);
(0 : Int) ≤ left ∧ bif decide (szr left (sizeDefS a.Defs) < (0 : Int)) then Lf [DV.one (Cell.lit (Value.int IntKind.i64 (-1 : Int)))] [DV.one (Cell.lit (Value.int IntKind.i64 (szr left (sizeBook a))))] else (0 : Int) ≤ szr left (sizeDefS a.Defs) ∧ bif decide (x0 < (0 : Int)) then Lf [DV.one (Cell.lit (Value.int IntKind.i64 (-1 : Int)))] [DV.one (Cell.lit (Value.int IntKind.i64 (szr left (sizeBook a))))] else Lf [DV.one (Cell.lit (Value.int IntKind.i64 x0))] [DV.one (Cell.lit (Value.int IntKind.i64 (szr left (sizeBook a))))]) := by kernel_rfl
theorem ok_laws_szBook : Holds EE (4, con_laws_szBook) := by
  refine holds_of EE_ok Go.Proofs.Tryz.func4 con_laws_szBook (by kernel_rfl) use_laws_szBook (all_cons ok_laws_szDefS (all_cons ok_laws_szWorkS all_nil)) ann_laws_szBook (fun x hp hb => ?_)
  obtain ⟨a, left⟩ := x
  have hb_a : BdDV (U := UU) (.agg [.sl .lDef a.Defs, .sl .lWork a.Works, .lit (.int .i64 a.Now), .lit (.int .i64 a.Ring)]) := hb _ (List.mem_cons_self)
  have hl_a_Defs : a.Defs.length ≤ 9223372036854775807 := Bd.len (U := UU) (τ := .lDef) (xs := a.Defs) (hb_a _ (by simp))
  have hl_a_Works : a.Works.length ≤ 9223372036854775807 := Bd.len (U := UU) (τ := .lWork) (xs := a.Works) (hb_a _ (by simp))
  have hb_left : BdDV (U := UU) (.one (.lit (.int .i64 left))) := hb _ (List.mem_cons_of_mem _ (List.mem_cons_self))
  have hl_left := Bd.i64 hb_left
  have hp0 : 0 ≤ left := hp _ (List.mem_cons_self)
  clear hp hb
  rw [vc_laws_szBook a left]
  dsimp only
  refine ⟨by omega, if_cond (fun h => Lf_i (szr_bad' ?_)) (fun h => ?_)⟩
  · have h := szr_neg h; simp only [sizeBook]; omega
  obtain ⟨e0, h0⟩ := szr_pos h
  rw [e0]
  refine ⟨by omega, if_cond (fun h => Lf_i (szr_bad' ?_)) (fun h => ?_)⟩
  · have h := szr_neg h; simp only [sizeBook]; omega
  obtain ⟨e1, h1⟩ := szr_pos h
  rw [e1]
  exact Lf_i (by rw [← szr_ok' (by simp only [sizeBook]; omega)]; simp only [sizeBook]; try omega)
def con_laws_toBook : Con UU where
  α := DBook
  md := [.ro]
  of := fun | [.agg [.sl .lDef a0, .sl .lWork a1, .lit (.int .i64 a2), .lit (.int .i64 a3)]] => some ⟨a0, a1, a2, a3⟩ | _ => none
  ds := fun a => [.agg [.sl .lDef a.Defs, .sl .lWork a.Works, .lit (.int .i64 a.Now), .lit (.int .i64 a.Ring)]]
  pre := fun a => [sizeBook a ≤ 4294967296]
  res := fun a => ⟨[.agg [.sl .eDef a.Defs, .sl .eWork a.Works, .lit (.int .i64 a.Now), .lit (.int .i64 a.Ring)]], true, []⟩
  law := by intro l x h; (try simp only at h); split at h <;> cases h; rfl
def ann_laws_toBook : con_laws_toBook.α → Nat → Option (Ann UU) := fun a => annL []
def use_laws_toBook : List (FuncId × Con UU) := [(13, con_laws_toDefS), (14, con_laws_toWorkS)]
theorem vc_laws_toBook (a : DBook) : goal EE use_laws_toBook Go.Proofs.Tryz.f6 con_laws_toBook ann_laws_toBook a = (sizeDefS a.Defs ≤ (4294967296 : Nat) ∧ sizeWorkS a.Works ≤ (4294967296 : Nat) ∧ Lf [DV.agg [Cell.sl Cd.eDef a.Defs, Cell.sl Cd.eWork a.Works, Cell.lit (Value.int IntKind.i64 a.Now), Cell.lit (Value.int IntKind.i64 a.Ring)]] [DV.agg [Cell.sl Cd.eDef a.Defs, Cell.sl Cd.eWork a.Works, Cell.lit (Value.int IntKind.i64 a.Now), Cell.lit (Value.int IntKind.i64 a.Ring)]]) := by kernel_rfl
theorem ok_laws_toBook : Holds EE (6, con_laws_toBook) := by
  refine holds_of EE_ok Go.Proofs.Tryz.func6 con_laws_toBook (by kernel_rfl) use_laws_toBook (all_cons ok_laws_toDefS (all_cons ok_laws_toWorkS all_nil)) ann_laws_toBook (fun (a : DBook) hp hb => ?_)
  have hb_a : BdDV (U := UU) (.agg [.sl .lDef a.Defs, .sl .lWork a.Works, .lit (.int .i64 a.Now), .lit (.int .i64 a.Ring)]) := hb _ (List.mem_cons_self)
  have hl_a_Defs : a.Defs.length ≤ 9223372036854775807 := Bd.len (U := UU) (τ := .lDef) (xs := a.Defs) (hb_a _ (by simp))
  have hl_a_Works : a.Works.length ≤ 9223372036854775807 := Bd.len (U := UU) (τ := .lWork) (xs := a.Works) (hb_a _ (by simp))
  have hp0 : sizeBook a ≤ 4294967296 := hp _ (List.mem_cons_self)
  clear hp hb
  rw [vc_laws_toBook a]
  simp only [sizeBook] at hp0
  repeat' (first | exact Lf_rfl _ | (refine And.intro (by omega) ?_))
def con_laws_eqBook : Con UU where
  α := DBook × DBook
  md := [.ro, .ro]
  of := fun | [.agg [.sl .eDef a0, .sl .eWork a1, .lit (.int .i64 a2), .lit (.int .i64 a3)], .agg [.sl .eDef a4, .sl .eWork a5, .lit (.int .i64 a6), .lit (.int .i64 a7)]] => some (⟨a0, a1, a2, a3⟩, ⟨a4, a5, a6, a7⟩) | _ => none
  ds := fun (a, b) => [.agg [.sl .eDef a.Defs, .sl .eWork a.Works, .lit (.int .i64 a.Now), .lit (.int .i64 a.Ring)], .agg [.sl .eDef b.Defs, .sl .eWork b.Works, .lit (.int .i64 b.Now), .lit (.int .i64 b.Ring)]]
  pre := fun (a, b) => []
  res := fun (a, b) => ⟨[.one (.lit (.bool (decide (a = b))))], true, []⟩
  law := by intro l x h; (try simp only at h); split at h <;> cases h; rfl
def ann_laws_eqBook : con_laws_eqBook.α → Nat → Option (Ann UU) := fun (a, b) => annL []
def use_laws_eqBook : List (FuncId × Con UU) := [(20, con_laws_eqDefS), (21, con_laws_eqWorkS)]
theorem vc_laws_eqBook (a : DBook) (b : DBook) : goal EE use_laws_eqBook Go.Proofs.Tryz.f8 con_laws_eqBook ann_laws_eqBook (a, b) = (bif !decide (a.Defs = b.Defs) then Lf [DV.one (Cell.lit (Value.bool false))] [DV.one (Cell.lit (Value.bool (decide (a = b))))] else bif !decide (a.Works = b.Works) then Lf [DV.one (Cell.lit (Value.bool false))] [DV.one (Cell.lit (Value.bool (decide (a = b))))] else bif a.Now != b.Now then Lf [DV.one (Cell.lit (Value.bool false))] [DV.one (Cell.lit (Value.bool (decide (a = b))))] else bif a.Ring != b.Ring then Lf [DV.one (Cell.lit (Value.bool false))] [DV.one (Cell.lit (Value.bool (decide (a = b))))] else Lf [DV.one (Cell.lit (Value.bool true))] [DV.one (Cell.lit (Value.bool (decide (a = b))))]) := by kernel_rfl
theorem ok_laws_eqBook : Holds EE (8, con_laws_eqBook) := by
  refine holds_of EE_ok Go.Proofs.Tryz.func8 con_laws_eqBook (by kernel_rfl) use_laws_eqBook (all_cons ok_laws_eqDefS (all_cons ok_laws_eqWorkS all_nil)) ann_laws_eqBook (fun x hp hb => ?_)
  obtain ⟨a, b⟩ := x
  have hb_a : BdDV (U := UU) (.agg [.sl .eDef a.Defs, .sl .eWork a.Works, .lit (.int .i64 a.Now), .lit (.int .i64 a.Ring)]) := hb _ (List.mem_cons_self)
  have hl_a_Defs : a.Defs.length ≤ 9223372036854775807 := Bd.len (U := UU) (τ := .eDef) (xs := a.Defs) (hb_a _ (by simp))
  have hl_a_Works : a.Works.length ≤ 9223372036854775807 := Bd.len (U := UU) (τ := .eWork) (xs := a.Works) (hb_a _ (by simp))
  have hb_b : BdDV (U := UU) (.agg [.sl .eDef b.Defs, .sl .eWork b.Works, .lit (.int .i64 b.Now), .lit (.int .i64 b.Ring)]) := hb _ (List.mem_cons_of_mem _ (List.mem_cons_self))
  have hl_b_Defs : b.Defs.length ≤ 9223372036854775807 := Bd.len (U := UU) (τ := .eDef) (xs := b.Defs) (hb_b _ (by simp))
  have hl_b_Works : b.Works.length ≤ 9223372036854775807 := Bd.len (U := UU) (τ := .eWork) (xs := b.Works) (hb_b _ (by simp))
  clear hp hb
  rw [vc_laws_eqBook a b]
  obtain ⟨aDefs, aWorks, aNow, aRing⟩ := a
  obtain ⟨bDefs, bWorks, bNow, bRing⟩ := b
  repeat' (apply if_cond <;> intro _)
  all_goals (first | apply Lf_t | apply Lf_f) <;> simp_all
def daDef (x : DDef) : DA UU := ⟨true, [.lit (.string x.Name), .sl .eRule x.Rules]⟩
def daWork (x : DWork) : DA UU := ⟨true, [.lit (.string x.Name), .lit (.string x.Def), .sl .eItem x.X.S.Items, .lit (.int .i64 x.X.S.Next), .sl .eMatch x.X.Fired, .sl .eTask x.X.Tasks, .sl .eTimer x.X.Timers, .sl .eUndo x.X.Undos, .lit (.int .i64 x.X.State), .lit (.int .i64 x.X.Now)]⟩
def defAt (l : List DDef) (name : ByteArray) : Int := idxI l.length fun k => decide ((List.getD l k zDef).Name = name)
def workAt (l : List DWork) (name : ByteArray) : Int := idxI l.length fun k => decide ((List.getD l k zWork).Name = name)
def undoLast (l : List DUndo) : DFact := if l = [] then zFact else (List.getD l (l.length - 1) zUndo).F
theorem undoLast_ct (l : List DUndo) : ctFact (undoLast l) ≤ 20 * sizeUndoS l := by
  unfold undoLast
  split
  · exact Nat.zero_le _
  · rename_i hl
    have h0 : 0 < l.length := List.length_pos_iff.2 hl
    have h1 : (l.length - 1 : Int).toNat = l.length - 1 := by omega
    have hs := sum_getD_le sizeUndo l zUndo (i := l.length - 1) (by omega) (by omega)
    rw [h1] at hs
    have := ctFact_le (List.getD l (l.length - 1) zUndo).F
    simp only [sizeUndo] at hs
    simp only [sizeUndoS, sizeUndo]
    omega
theorem sum_take_le {α : Type} (f : α → Nat) (l : List α) (n : Nat) : ((l.take n).map f).sum ≤ (l.map f).sum := by
  have h := congrArg (fun q => (q.map f).sum) (List.take_append_drop n l)
  simp only [List.map_append, List.sum_append] at h
  omega
theorem sizeUndoS_take (l : List DUndo) (n : Nat) : sizeUndoS (l.take n) ≤ sizeUndoS l := by
  have := sum_take_le sizeUndo l n
  simp only [sizeUndoS, List.length_take]
  omega
def undoOk (s : ByteArray) : Bool := decide (s = noBytes) || nameOk s
def taskOk (t : DTask) : Bool := factOk t.F && undoOk t.Undo && decide (1 ≤ t.State ∧ t.State ≤ 4) && decide (0 ≤ t.Tries ∧ t.Tries ≤ 4) && decide (0 ≤ t.Due ∧ t.Due ≤ 1000001000) && (decide (t.V = zVal) || valOk t.V) && decide ((t.State = 1 → t.Tries = 0) ∧ (t.State = 2 → t.Tries ≠ 0))
def taskAt (l : List DTask) (i : Nat) : Bool := taskOk (List.getD l i zTask) && !(anyI i fun k => decide ((List.getD l k zTask).F = (List.getD l i zTask).F))
def tasksOk (l : List DTask) : Bool := decide (l.length ≤ 30) && allI l.length (taskAt l)
def placeOf (l : List DTask) (f : DFact) : Int := idxI l.length fun k => decide ((List.getD l k zTask).F = f)
def isOpen (t : DTask) : Bool := decide (t.State = 1 ∨ t.State = 2)
def giveUp1 (t : DTask) : DTask := if t.State = 1 ∨ t.State = 2 then ⟨t.F, t.Undo, 4, t.Tries, t.Due, t.V⟩ else t
def giveUp (l : List DTask) : List DTask := l.map giveUp1
def daTask (x : DTask) : DA UU := ⟨true, [.lit (.string x.F.Kind), .sl .eVal x.F.Fields, .lit (.string x.Undo), .lit (.int .i64 x.State), .lit (.int .i64 x.Tries), .lit (.int .i64 x.Due), .lit (.int .i64 x.V.K), .lit (.int .i64 x.V.N), .lit (.string x.V.S)]⟩
theorem fact_ext {a b : DFact} : a = b ↔ a.Kind = b.Kind ∧ a.Fields = b.Fields := by
  obtain ⟨k, f⟩ := a; obtain ⟨k', f'⟩ := b; simp
theorem map_mod {α : Type} (f : α → α) (l : List α) (z : α) {i : Int} (F : α → α) (h0 : 0 ≤ i) (h : i < l.length) (hF : F (List.getD l i.toNat z) = f (List.getD l i.toNat z)) :
    ((l.map f).take i.toNat ++ l.drop i.toNat).modify i.toNat F = (l.map f).take (i + 1).toNat ++ l.drop (i + 1).toNat := by
  have hn : i.toNat < l.length := by omega
  have e : (i + 1).toNat = i.toNat + 1 := by omega
  have ht : ((l.map f).take i.toNat).length = i.toNat := by rw [List.length_take, List.length_map]; omega
  rw [modify_set _ z, mk_getD _ l z ht h0 h, hF, drop_step l z h0 h, List.set_append_right _ _ (by rw [ht]; exact Nat.le_refl _), ht, Nat.sub_self, List.set_cons_zero, e, List.take_succ_eq_append_getElem (by simpa using hn), List.append_assoc, List.getElem_map]
  rw [List.getD_eq_getElem?_getD, List.getElem?_eq_getElem hn]
  rfl
theorem map_skip {α : Type} (f : α → α) (l : List α) (z : α) {i : Int} (h0 : 0 ≤ i) (h : i < l.length) (hF : List.getD l i.toNat z = f (List.getD l i.toNat z)) :
    (l.map f).take i.toNat ++ l.drop i.toNat = (l.map f).take (i + 1).toNat ++ l.drop (i + 1).toNat := by
  rw [← map_mod f l z (fun x => x) h0 h hF]
  have : ∀ (m : List α) (n : Nat), m.modify n (fun x => x) = m := by
    intro m n
    refine List.ext_getElem? fun j => ?_
    rw [List.getElem?_modify]
    cases m[j]? <;> simp
  rw [this]
theorem map_row {α : Type} (f : α → α) (l : List α) {i : Int} (h0 : 0 ≤ i) (h : i ≤ l.length) : ((l.map f).take i.toNat ++ l.drop i.toNat).length = l.length := by
  rw [List.length_append, List.length_take, List.length_map, List.length_drop]; omega
theorem map_tl {α : Type} (f : α → α) (l : List α) {i : Int} (h0 : 0 ≤ i) (h : i ≤ l.length) : ((l.map f).take i.toNat).length = i.toNat := by
  rw [List.length_take, List.length_map]; omega
theorem map_done {α : Type} (f : α → α) (l : List α) {i : Int} (h : l.length ≤ i) : (l.map f).take i.toNat ++ l.drop i.toNat = l.map f := by
  rw [List.drop_eq_nil_of_le (by omega), List.append_nil, List.take_of_length_le (by rw [List.length_map]; omega)]
def con_spec_l3SameVals : Con UU where
  α := (List DVal) × (List DVal)
  md := [.ro, .ro]
  of := fun | [.one (.sl .eVal a0), .one (.sl .eVal a1)] => some (a0, a1) | _ => none
  ds := fun (a, b) => [.one (.sl .eVal a), .one (.sl .eVal b)]
  pre := fun (a, b) => []
  res := fun (a, b) => ⟨[.one (.lit (.bool (decide (a = b))))], true, []⟩
  law := by intro l x h; (try simp only at h); split at h <;> cases h; rfl
def I_spec_l3SameVals_4 (a : (List DVal)) (b : (List DVal)) : Int × Unit → Prop := fun (i, _) => 0 ≤ i ∧ i ≤ a.length ∧ a.length = b.length ∧ (a.drop i.toNat = b.drop i.toNat ↔ a = b)
def μ_spec_l3SameVals_4 (a : (List DVal)) (b : (List DVal)) : Int × Unit → Nat := fun (i, _) => a.length - i.toNat
def ann_spec_l3SameVals : con_spec_l3SameVals.α → Nat → Option (Ann UU) := fun (a, b) => annL [(4, annOf [.slot 5 (5, 1024) (.lit (.int .i64))] (fun _ => I_spec_l3SameVals_4 a b) (μ_spec_l3SameVals_4 a b))]
def use_spec_l3SameVals : List (FuncId × Con UU) := []
theorem vc_spec_l3SameVals (a : (List DVal)) (b : (List DVal)) : goal EE use_spec_l3SameVals Go.Proofs.Tryz.f50 con_spec_l3SameVals ann_spec_l3SameVals (a, b) = (bif (↑(List.length a) : Int) != (↑(List.length b) : Int) then Lf [DV.one (Cell.lit (Value.bool false))] [DV.one (Cell.lit (Value.bool (decide (a = b))))]
else
  I_spec_l3SameVals_4 a b ((0 : Int), PUnit.unit) ∧
    ∀ (y : Int × PUnit),
      let x0 : DVal := List.getD b (Int.toNat y.1) zVal;
      let x1 : DVal := List.getD a (Int.toNat y.1) zVal;
      I_spec_l3SameVals_4 a b y → bif decide (y.1 < (↑(List.length a) : Int)) then (0 : Int) ≤ y.1 ∧ Int.toNat y.1 < List.length a ∧ (0 : Int) ≤ y.1 ∧ Int.toNat y.1 < List.length b ∧ bif !(x1.K == x0.K && (x1.N == x0.N && (ByteArray.toList x1.S == ByteArray.toList x0.S && true))) then Lf [DV.one (Cell.lit (Value.bool false))] [DV.one (Cell.lit (Value.bool (decide (a = b))))] else I_spec_l3SameVals_4 a b (IntKind.wrap IntKind.i64 (y.1 + (1 : Int)), PUnit.unit) ∧ μ_spec_l3SameVals_4 a b (IntKind.wrap IntKind.i64 (y.1 + (1 : Int)), PUnit.unit) < μ_spec_l3SameVals_4 a b y else Lf [DV.one (Cell.lit (Value.bool true))] [DV.one (Cell.lit (Value.bool (decide (a = b))))]) := by kernel_rfl
theorem ok_spec_l3SameVals : Holds EE (50, con_spec_l3SameVals) := by
  refine holds_of EE_ok Go.Proofs.Tryz.func50 con_spec_l3SameVals (by kernel_rfl) use_spec_l3SameVals all_nil ann_spec_l3SameVals (fun x hp hb => ?_)
  obtain ⟨a, b⟩ := x
  have hb_a : BdDV (U := UU) (.one (.sl .eVal a)) := hb _ (List.mem_cons_self)
  have hl_a : a.length ≤ 9223372036854775807 := Bd.len hb_a
  have hb_b : BdDV (U := UU) (.one (.sl .eVal b)) := hb _ (List.mem_cons_of_mem _ (List.mem_cons_self))
  have hl_b : b.length ≤ 9223372036854775807 := Bd.len hb_b
  clear hp hb
  rw [vc_spec_l3SameVals a b]
  dsimp only
  refine if_cond (fun h => Lf_f ?_) (fun h => ⟨?_, ?_⟩)
  · rintro rfl; simp at h
  · simp [I_spec_l3SameVals_4] at *; omega
  rintro ⟨i, ⟨⟩⟩ ⟨h1, h2, h3, hR⟩
  simp only at *
  refine if_cond (fun hc => ?_) (fun hc => ?_)
  · have hc : i < a.length := by simpa using hc
    rw [drop_step a zVal h1 hc, drop_step b zVal h1 (by omega)] at hR
    rw [wrap_i64 (by omega) (by omega)]
    simp only [val_beq]
    refine ⟨by omega, by omega, by omega, by omega, if_cond (fun h => Lf_f ?_) (fun h => ⟨⟨by omega, by omega, h3, ?_⟩, ?_⟩)⟩
    · rw [← hR]; simp at h; simp [h]
    · rw [← hR]; simp at h; simp [h]
    · simp only [μ_spec_l3SameVals_4]; omega
  · have hc : a.length ≤ i := by simpa using hc
    rw [drop_end a hc, drop_end b (by omega)] at hR
    exact Lf_t (hR.1 rfl)
def con_EqualVal : Con UU where
  α := (List DVal) × (List DVal)
  md := [.ro, .ro]
  of := fun | [.one (.sl .eVal a0), .one (.sl .eVal a1)] => some (a0, a1) | _ => none
  ds := fun (a, b) => [.one (.sl .eVal a), .one (.sl .eVal b)]
  pre := fun (a, b) => []
  res := fun (a, b) => ⟨[.one (.lit (.bool (decide (a = b))))], true, []⟩
  law := by intro l x h; (try simp only at h); split at h <;> cases h; rfl
def I_EqualVal_4 (a : (List DVal)) (b : (List DVal)) : Int × Unit → Prop := fun (i, _) => 0 ≤ i ∧ i ≤ a.length ∧ a.length = b.length ∧ (a.drop i.toNat = b.drop i.toNat ↔ a = b)
def μ_EqualVal_4 (a : (List DVal)) (b : (List DVal)) : Int × Unit → Nat := fun (i, _) => a.length - i.toNat
def ann_EqualVal : con_EqualVal.α → Nat → Option (Ann UU) := fun (a, b) => annL [(4, annOf [.slot 13 (13, 1024) (.lit (.int .i64))] (fun _ => I_EqualVal_4 a b) (μ_EqualVal_4 a b))]
def use_EqualVal : List (FuncId × Con UU) := []
theorem vc_EqualVal (a : (List DVal)) (b : (List DVal)) : goal EE use_EqualVal Go.Proofs.Tryz.f58 con_EqualVal ann_EqualVal (a, b) = (bif (↑(List.length a) : Int) != (↑(List.length b) : Int) then Lf [DV.one (Cell.lit (Value.bool false))] [DV.one (Cell.lit (Value.bool (decide (a = b))))]
else
  I_EqualVal_4 a b ((0 : Int), PUnit.unit) ∧
    ∀ (y : Int × PUnit),
      let x0 : DVal := List.getD a (Int.toNat y.1) zVal;
      let x1 : DVal := List.getD b (Int.toNat y.1) zVal;
      I_EqualVal_4 a b y → bif decide (y.1 < (↑(List.length a) : Int)) then (0 : Int) ≤ y.1 ∧ Int.toNat y.1 < List.length a ∧ (0 : Int) ≤ y.1 ∧ Int.toNat y.1 < List.length b ∧ bif !(x0.K == x1.K && (x0.N == x1.N && (ByteArray.toList x0.S == ByteArray.toList x1.S && true))) then Lf [DV.one (Cell.lit (Value.bool false))] [DV.one (Cell.lit (Value.bool (decide (a = b))))] else I_EqualVal_4 a b (IntKind.wrap IntKind.i64 (y.1 + (1 : Int)), PUnit.unit) ∧ μ_EqualVal_4 a b (IntKind.wrap IntKind.i64 (y.1 + (1 : Int)), PUnit.unit) < μ_EqualVal_4 a b y else Lf [DV.one (Cell.lit (Value.bool true))] [DV.one (Cell.lit (Value.bool (decide (a = b))))]) := by kernel_rfl
theorem ok_EqualVal : Holds EE (58, con_EqualVal) := by
  refine holds_of EE_ok Go.Proofs.Tryz.func58 con_EqualVal (by kernel_rfl) use_EqualVal all_nil ann_EqualVal (fun x hp hb => ?_)
  obtain ⟨a, b⟩ := x
  have hb_a : BdDV (U := UU) (.one (.sl .eVal a)) := hb _ (List.mem_cons_self)
  have hl_a : a.length ≤ 9223372036854775807 := Bd.len hb_a
  have hb_b : BdDV (U := UU) (.one (.sl .eVal b)) := hb _ (List.mem_cons_of_mem _ (List.mem_cons_self))
  have hl_b : b.length ≤ 9223372036854775807 := Bd.len hb_b
  clear hp hb
  rw [vc_EqualVal a b]
  dsimp only
  refine if_cond (fun h => Lf_f ?_) (fun h => ⟨?_, ?_⟩)
  · rintro rfl; simp at h
  · simp [I_EqualVal_4] at *; omega
  rintro ⟨i, ⟨⟩⟩ ⟨h1, h2, h3, hR⟩
  simp only at *
  refine if_cond (fun hc => ?_) (fun hc => ?_)
  · have hc : i < a.length := by simpa using hc
    rw [drop_step a zVal h1 hc, drop_step b zVal h1 (by omega)] at hR
    rw [wrap_i64 (by omega) (by omega)]
    simp only [val_beq]
    refine ⟨by omega, by omega, by omega, by omega, if_cond (fun h => Lf_f ?_) (fun h => ⟨⟨by omega, by omega, h3, ?_⟩, ?_⟩)⟩
    · rw [← hR]; simp at h; simp [h]
    · rw [← hR]; simp at h; simp [h]
    · simp only [μ_EqualVal_4]; omega
  · have hc : a.length ≤ i := by simpa using hc
    rw [drop_end a hc, drop_end b (by omega)] at hR
    exact Lf_t (hR.1 rfl)
def con_spec_SameFact : Con UU where
  α := DFact × DFact
  md := [.ro, .ro]
  of := fun | [.agg [.lit (.string a0), .sl .eVal a1], .agg [.lit (.string a2), .sl .eVal a3]] => some (⟨a0, a1⟩, ⟨a2, a3⟩) | _ => none
  ds := fun (a, b) => [.agg [.lit (.string a.Kind), .sl .eVal a.Fields], .agg [.lit (.string b.Kind), .sl .eVal b.Fields]]
  pre := fun (a, b) => []
  res := fun (a, b) => ⟨[.one (.lit (.bool (decide (a = b))))], true, []⟩
  law := by intro l x h; (try simp only at h); split at h <;> cases h; rfl
def ann_spec_SameFact : con_spec_SameFact.α → Nat → Option (Ann UU) := fun (a, b) => annL []
def use_spec_SameFact : List (FuncId × Con UU) := [(50, con_spec_l3SameVals)]
theorem vc_spec_SameFact (a : DFact) (b : DFact) : goal EE use_spec_SameFact Go.Proofs.Tryz.f28 con_spec_SameFact ann_spec_SameFact (a, b) = (bif ByteArray.toList a.Kind == ByteArray.toList b.Kind then Lf [DV.one (Cell.lit (Value.bool (decide (a.Fields = b.Fields))))] [DV.one (Cell.lit (Value.bool (decide (a = b))))] else Lf [DV.one (Cell.lit (Value.bool false))] [DV.one (Cell.lit (Value.bool (decide (a = b))))]) := by kernel_rfl
theorem ok_spec_SameFact : Holds EE (28, con_spec_SameFact) := by
  refine holds_of EE_ok Go.Proofs.Tryz.func28 con_spec_SameFact (by kernel_rfl) use_spec_SameFact (all_cons ok_spec_l3SameVals all_nil) ann_spec_SameFact (fun x hp hb => ?_)
  obtain ⟨a, b⟩ := x
  have hb_a : BdDV (U := UU) (.agg [.lit (.string a.Kind), .sl .eVal a.Fields]) := hb _ (List.mem_cons_self)
  have hl_a_Kind : a.Kind.size ≤ 9223372036854775807 := Bd.str (hb_a _ (by simp))
  have hl_a_Fields : a.Fields.length ≤ 9223372036854775807 := Bd.len (U := UU) (τ := .eVal) (xs := a.Fields) (hb_a _ (by simp))
  have hb_b : BdDV (U := UU) (.agg [.lit (.string b.Kind), .sl .eVal b.Fields]) := hb _ (List.mem_cons_of_mem _ (List.mem_cons_self))
  have hl_b_Kind : b.Kind.size ≤ 9223372036854775807 := Bd.str (hb_b _ (by simp))
  have hl_b_Fields : b.Fields.length ≤ 9223372036854775807 := Bd.len (U := UU) (τ := .eVal) (xs := b.Fields) (hb_b _ (by simp))
  clear hp hb
  rw [vc_spec_SameFact a b]
  simp only [toList_beq]
  refine if_cond (fun h => Lf_b ?_) (fun h => Lf_b ?_) <;> (simp only [fact_ext]; grind)
def con_impl_SameFact : Con UU where
  α := DFact × DFact
  md := [.ro, .ro]
  of := fun | [.agg [.lit (.string a0), .sl .eVal a1], .agg [.lit (.string a2), .sl .eVal a3]] => some (⟨a0, a1⟩, ⟨a2, a3⟩) | _ => none
  ds := fun (a, b) => [.agg [.lit (.string a.Kind), .sl .eVal a.Fields], .agg [.lit (.string b.Kind), .sl .eVal b.Fields]]
  pre := fun (a, b) => []
  res := fun (a, b) => ⟨[.one (.lit (.bool (decide (a = b))))], true, []⟩
  law := by intro l x h; (try simp only at h); split at h <;> cases h; rfl
def ann_impl_SameFact : con_impl_SameFact.α → Nat → Option (Ann UU) := fun (a, b) => annL []
def use_impl_SameFact : List (FuncId × Con UU) := [(58, con_EqualVal)]
theorem vc_impl_SameFact (a : DFact) (b : DFact) : goal EE use_impl_SameFact Go.Proofs.Tryz.f37 con_impl_SameFact ann_impl_SameFact (a, b) = (bif ByteArray.toList a.Kind == ByteArray.toList b.Kind then Lf [DV.one (Cell.lit (Value.bool (decide (a.Fields = b.Fields))))] [DV.one (Cell.lit (Value.bool (decide (a = b))))] else Lf [DV.one (Cell.lit (Value.bool false))] [DV.one (Cell.lit (Value.bool (decide (a = b))))]) := by kernel_rfl
theorem ok_impl_SameFact : Holds EE (37, con_impl_SameFact) := by
  refine holds_of EE_ok Go.Proofs.Tryz.func37 con_impl_SameFact (by kernel_rfl) use_impl_SameFact (all_cons ok_EqualVal all_nil) ann_impl_SameFact (fun x hp hb => ?_)
  obtain ⟨a, b⟩ := x
  have hb_a : BdDV (U := UU) (.agg [.lit (.string a.Kind), .sl .eVal a.Fields]) := hb _ (List.mem_cons_self)
  have hl_a_Kind : a.Kind.size ≤ 9223372036854775807 := Bd.str (hb_a _ (by simp))
  have hl_a_Fields : a.Fields.length ≤ 9223372036854775807 := Bd.len (U := UU) (τ := .eVal) (xs := a.Fields) (hb_a _ (by simp))
  have hb_b : BdDV (U := UU) (.agg [.lit (.string b.Kind), .sl .eVal b.Fields]) := hb _ (List.mem_cons_of_mem _ (List.mem_cons_self))
  have hl_b_Kind : b.Kind.size ≤ 9223372036854775807 := Bd.str (hb_b _ (by simp))
  have hl_b_Fields : b.Fields.length ≤ 9223372036854775807 := Bd.len (U := UU) (τ := .eVal) (xs := b.Fields) (hb_b _ (by simp))
  clear hp hb
  rw [vc_impl_SameFact a b]
  simp only [toList_beq]
  refine if_cond (fun h => Lf_b ?_) (fun h => Lf_b ?_) <;> (simp only [fact_ext]; grind)
def con_EqualInt : Con UU where
  α := (List Int) × (List Int)
  md := [.ro, .ro]
  of := fun | [.one (.sl .int a0), .one (.sl .int a1)] => some (a0, a1) | _ => none
  ds := fun (a, b) => [.one (.sl .int a), .one (.sl .int b)]
  pre := fun (a, b) => []
  res := fun (a, b) => ⟨[.one (.lit (.bool (decide (a = b))))], true, []⟩
  law := by intro l x h; (try simp only at h); split at h <;> cases h; rfl
def I_EqualInt_4 (a : (List Int)) (b : (List Int)) : Int × Unit → Prop := fun (i, _) => 0 ≤ i ∧ i ≤ a.length ∧ a.length = b.length ∧ (a.drop i.toNat = b.drop i.toNat ↔ a = b)
def μ_EqualInt_4 (a : (List Int)) (b : (List Int)) : Int × Unit → Nat := fun (i, _) => a.length - i.toNat
def ann_EqualInt : con_EqualInt.α → Nat → Option (Ann UU) := fun (a, b) => annL [(4, annOf [.slot 13 (13, 1024) (.lit (.int .i64))] (fun _ => I_EqualInt_4 a b) (μ_EqualInt_4 a b))]
def use_EqualInt : List (FuncId × Con UU) := []
theorem vc_EqualInt (a : (List Int)) (b : (List Int)) : goal EE use_EqualInt Go.Proofs.Tryz.f80 con_EqualInt ann_EqualInt (a, b) = (bif (↑(List.length a) : Int) != (↑(List.length b) : Int) then Lf [DV.one (Cell.lit (Value.bool false))] [DV.one (Cell.lit (Value.bool (decide (a = b))))] else I_EqualInt_4 a b ((0 : Int), PUnit.unit) ∧ ∀ (y : Int × PUnit), I_EqualInt_4 a b y → bif decide (y.1 < (↑(List.length a) : Int)) then (0 : Int) ≤ y.1 ∧ Int.toNat y.1 < List.length a ∧ (0 : Int) ≤ y.1 ∧ Int.toNat y.1 < List.length b ∧ bif List.getD a (Int.toNat y.1) (0 : Int) != List.getD b (Int.toNat y.1) (0 : Int) then Lf [DV.one (Cell.lit (Value.bool false))] [DV.one (Cell.lit (Value.bool (decide (a = b))))] else I_EqualInt_4 a b (IntKind.wrap IntKind.i64 (y.1 + (1 : Int)), PUnit.unit) ∧ μ_EqualInt_4 a b (IntKind.wrap IntKind.i64 (y.1 + (1 : Int)), PUnit.unit) < μ_EqualInt_4 a b y else Lf [DV.one (Cell.lit (Value.bool true))] [DV.one (Cell.lit (Value.bool (decide (a = b))))]) := by kernel_rfl
theorem ok_EqualInt : Holds EE (80, con_EqualInt) := by
  refine holds_of EE_ok Go.Proofs.Tryz.func80 con_EqualInt (by kernel_rfl) use_EqualInt all_nil ann_EqualInt (fun x hp hb => ?_)
  obtain ⟨a, b⟩ := x
  have hb_a : BdDV (U := UU) (.one (.sl .int a)) := hb _ (List.mem_cons_self)
  have hl_a : a.length ≤ 9223372036854775807 := Bd.len hb_a
  have hb_b : BdDV (U := UU) (.one (.sl .int b)) := hb _ (List.mem_cons_of_mem _ (List.mem_cons_self))
  have hl_b : b.length ≤ 9223372036854775807 := Bd.len hb_b
  clear hp hb
  rw [vc_EqualInt a b]
  refine if_cond (fun h => Lf_f ?_) (fun h => ⟨?_, ?_⟩)
  · rintro rfl; simp at h
  · simp [I_EqualInt_4] at *; omega
  rintro ⟨i, ⟨⟩⟩ ⟨h1, h2, h3, hR⟩
  simp only at *
  refine if_cond (fun hc => ?_) (fun hc => ?_)
  · have hc : i < a.length := by simpa using hc
    rw [drop_step a (0 : Int) h1 hc, drop_step b (0 : Int) h1 (by omega)] at hR
    rw [wrap_i64 (by omega) (by omega)]
    skip
    refine ⟨by omega, by omega, by omega, by omega, if_cond (fun h => Lf_f ?_) (fun h => ⟨⟨by omega, by omega, h3, ?_⟩, ?_⟩)⟩
    · rw [← hR]; simp at h; simp [h]
    · rw [← hR]; simp at h; simp [h]
    · simp only [μ_EqualInt_4]; omega
  · have hc : a.length ≤ i := by simpa using hc
    rw [drop_end a hc, drop_end b (by omega)] at hR
    exact Lf_t (hR.1 rfl)
theorem arg_beq (a b : DArg) : (a.K == b.K && (ByteArray.toList a.S == ByteArray.toList b.S && ((a.V.K == b.V.K && (a.V.N == b.V.N && (ByteArray.toList a.V.S == ByteArray.toList b.V.S && true))) && true))) = decide (a = b) := by
  obtain ⟨a1, a2, ⟨a3, a4, a5⟩⟩ := a
  obtain ⟨b6, b7, ⟨b8, b9, b10⟩⟩ := b
  simp only [toList_beq, Bool.and_true]
  rw [Bool.eq_iff_iff]
  simp only [Bool.and_eq_true, beq_iff_eq, decide_eq_true_eq, DArg.mk.injEq, DVal.mk.injEq]
def con_EqualArg : Con UU where
  α := (List DArg) × (List DArg)
  md := [.ro, .ro]
  of := fun | [.one (.sl .eArg a0), .one (.sl .eArg a1)] => some (a0, a1) | _ => none
  ds := fun (a, b) => [.one (.sl .eArg a), .one (.sl .eArg b)]
  pre := fun (a, b) => []
  res := fun (a, b) => ⟨[.one (.lit (.bool (decide (a = b))))], true, []⟩
  law := by intro l x h; (try simp only at h); split at h <;> cases h; rfl
def I_EqualArg_4 (a : (List DArg)) (b : (List DArg)) : Int × Unit → Prop := fun (i, _) => 0 ≤ i ∧ i ≤ a.length ∧ a.length = b.length ∧ (a.drop i.toNat = b.drop i.toNat ↔ a = b)
def μ_EqualArg_4 (a : (List DArg)) (b : (List DArg)) : Int × Unit → Nat := fun (i, _) => a.length - i.toNat
def ann_EqualArg : con_EqualArg.α → Nat → Option (Ann UU) := fun (a, b) => annL [(4, annOf [.slot 13 (13, 1024) (.lit (.int .i64))] (fun _ => I_EqualArg_4 a b) (μ_EqualArg_4 a b))]
def use_EqualArg : List (FuncId × Con UU) := []
theorem vc_EqualArg (a : (List DArg)) (b : (List DArg)) : goal EE use_EqualArg Go.Proofs.Tryz.f78 con_EqualArg ann_EqualArg (a, b) = (bif (↑(List.length a) : Int) != (↑(List.length b) : Int) then Lf [DV.one (Cell.lit (Value.bool false))] [DV.one (Cell.lit (Value.bool (decide (a = b))))]
else
  I_EqualArg_4 a b ((0 : Int), PUnit.unit) ∧
    ∀ (y : Int × PUnit),
      let x0 : DVal := (List.getD b (Int.toNat y.1) zArg).V;
      let x1 : DVal := (List.getD a (Int.toNat y.1) zArg).V;
      I_EqualArg_4 a b y → bif decide (y.1 < (↑(List.length a) : Int)) then (0 : Int) ≤ y.1 ∧ Int.toNat y.1 < List.length a ∧ (0 : Int) ≤ y.1 ∧ Int.toNat y.1 < List.length b ∧ bif !((List.getD a (Int.toNat y.1) zArg).K == (List.getD b (Int.toNat y.1) zArg).K && (ByteArray.toList (List.getD a (Int.toNat y.1) zArg).S == ByteArray.toList (List.getD b (Int.toNat y.1) zArg).S && (x1.K == x0.K && (x1.N == x0.N && (ByteArray.toList x1.S == ByteArray.toList x0.S && true)) && true))) then Lf [DV.one (Cell.lit (Value.bool false))] [DV.one (Cell.lit (Value.bool (decide (a = b))))] else I_EqualArg_4 a b (IntKind.wrap IntKind.i64 (y.1 + (1 : Int)), PUnit.unit) ∧ μ_EqualArg_4 a b (IntKind.wrap IntKind.i64 (y.1 + (1 : Int)), PUnit.unit) < μ_EqualArg_4 a b y else Lf [DV.one (Cell.lit (Value.bool true))] [DV.one (Cell.lit (Value.bool (decide (a = b))))]) := by kernel_rfl
theorem ok_EqualArg : Holds EE (78, con_EqualArg) := by
  refine holds_of EE_ok Go.Proofs.Tryz.func78 con_EqualArg (by kernel_rfl) use_EqualArg all_nil ann_EqualArg (fun x hp hb => ?_)
  obtain ⟨a, b⟩ := x
  have hb_a : BdDV (U := UU) (.one (.sl .eArg a)) := hb _ (List.mem_cons_self)
  have hl_a : a.length ≤ 9223372036854775807 := Bd.len hb_a
  have hb_b : BdDV (U := UU) (.one (.sl .eArg b)) := hb _ (List.mem_cons_of_mem _ (List.mem_cons_self))
  have hl_b : b.length ≤ 9223372036854775807 := Bd.len hb_b
  clear hp hb
  rw [vc_EqualArg a b]
  dsimp only
  refine if_cond (fun h => Lf_f ?_) (fun h => ⟨?_, ?_⟩)
  · rintro rfl; simp at h
  · simp [I_EqualArg_4] at *; omega
  rintro ⟨i, ⟨⟩⟩ ⟨h1, h2, h3, hR⟩
  simp only at *
  refine if_cond (fun hc => ?_) (fun hc => ?_)
  · have hc : i < a.length := by simpa using hc
    rw [drop_step a zArg h1 hc, drop_step b zArg h1 (by omega)] at hR
    rw [wrap_i64 (by omega) (by omega)]
    simp only [arg_beq]
    refine ⟨by omega, by omega, by omega, by omega, if_cond (fun h => Lf_f ?_) (fun h => ⟨⟨by omega, by omega, h3, ?_⟩, ?_⟩)⟩
    · rw [← hR]; simp at h; simp [h]
    · rw [← hR]; simp at h; simp [h]
    · simp only [μ_EqualArg_4]; omega
  · have hc : a.length ≤ i := by simpa using hc
    rw [drop_end a hc, drop_end b (by omega)] at hR
    exact Lf_t (hR.1 rfl)
theorem cond_beq (a b : DCond) : (a.Op == b.Op && ((a.L.K == b.L.K && (ByteArray.toList a.L.S == ByteArray.toList b.L.S && ((a.L.V.K == b.L.V.K && (a.L.V.N == b.L.V.N && (ByteArray.toList a.L.V.S == ByteArray.toList b.L.V.S && true))) && true))) && ((a.R.K == b.R.K && (ByteArray.toList a.R.S == ByteArray.toList b.R.S && ((a.R.V.K == b.R.V.K && (a.R.V.N == b.R.V.N && (ByteArray.toList a.R.V.S == ByteArray.toList b.R.V.S && true))) && true))) && true))) = decide (a = b) := by
  obtain ⟨a11, ⟨a12, a13, ⟨a14, a15, a16⟩⟩, ⟨a17, a18, ⟨a19, a20, a21⟩⟩⟩ := a
  obtain ⟨b22, ⟨b23, b24, ⟨b25, b26, b27⟩⟩, ⟨b28, b29, ⟨b30, b31, b32⟩⟩⟩ := b
  simp only [toList_beq, Bool.and_true]
  rw [Bool.eq_iff_iff]
  simp only [Bool.and_eq_true, beq_iff_eq, decide_eq_true_eq, DArg.mk.injEq, DCond.mk.injEq, DVal.mk.injEq]
def con_EqualCond : Con UU where
  α := (List DCond) × (List DCond)
  md := [.ro, .ro]
  of := fun | [.one (.sl .eCond a0), .one (.sl .eCond a1)] => some (a0, a1) | _ => none
  ds := fun (a, b) => [.one (.sl .eCond a), .one (.sl .eCond b)]
  pre := fun (a, b) => []
  res := fun (a, b) => ⟨[.one (.lit (.bool (decide (a = b))))], true, []⟩
  law := by intro l x h; (try simp only at h); split at h <;> cases h; rfl
def I_EqualCond_4 (a : (List DCond)) (b : (List DCond)) : Int × Unit → Prop := fun (i, _) => 0 ≤ i ∧ i ≤ a.length ∧ a.length = b.length ∧ (a.drop i.toNat = b.drop i.toNat ↔ a = b)
def μ_EqualCond_4 (a : (List DCond)) (b : (List DCond)) : Int × Unit → Nat := fun (i, _) => a.length - i.toNat
def ann_EqualCond : con_EqualCond.α → Nat → Option (Ann UU) := fun (a, b) => annL [(4, annOf [.slot 13 (13, 1024) (.lit (.int .i64))] (fun _ => I_EqualCond_4 a b) (μ_EqualCond_4 a b))]
def use_EqualCond : List (FuncId × Con UU) := []
theorem vc_EqualCond (a : (List DCond)) (b : (List DCond)) : goal EE use_EqualCond Go.Proofs.Tryz.f53 con_EqualCond ann_EqualCond (a, b) = (bif (↑(List.length a) : Int) != (↑(List.length b) : Int) then Lf [DV.one (Cell.lit (Value.bool false))] [DV.one (Cell.lit (Value.bool (decide (a = b))))]
else
  I_EqualCond_4 a b ((0 : Int), PUnit.unit) ∧
    ∀ (y : Int × PUnit),
      let x0 : DVal := (List.getD a (Int.toNat y.1) zCond).R.V;
      let x1 : DVal := (List.getD b (Int.toNat y.1) zCond).R.V;
      let x2 : DVal := (List.getD a (Int.toNat y.1) zCond).L.V;
      let x3 : DVal := (List.getD b (Int.toNat y.1) zCond).L.V;
      let x4 : DCond := List.getD b (Int.toNat y.1) zCond;
      let x5 : DCond := List.getD a (Int.toNat y.1) zCond;
      I_EqualCond_4 a b y → bif decide (y.1 < (↑(List.length a) : Int)) then (0 : Int) ≤ y.1 ∧ Int.toNat y.1 < List.length a ∧ (0 : Int) ≤ y.1 ∧ Int.toNat y.1 < List.length b ∧ bif !(x5.Op == x4.Op && (x5.L.K == x4.L.K && (ByteArray.toList x5.L.S == ByteArray.toList x4.L.S && (x2.K == x3.K && (x2.N == x3.N && (ByteArray.toList x2.S == ByteArray.toList x3.S && true)) && true)) && (x5.R.K == x4.R.K && (ByteArray.toList x5.R.S == ByteArray.toList x4.R.S && (x0.K == x1.K && (x0.N == x1.N && (ByteArray.toList x0.S == ByteArray.toList x1.S && true)) && true)) && true))) then Lf [DV.one (Cell.lit (Value.bool false))] [DV.one (Cell.lit (Value.bool (decide (a = b))))] else I_EqualCond_4 a b (IntKind.wrap IntKind.i64 (y.1 + (1 : Int)), PUnit.unit) ∧ μ_EqualCond_4 a b (IntKind.wrap IntKind.i64 (y.1 + (1 : Int)), PUnit.unit) < μ_EqualCond_4 a b y else Lf [DV.one (Cell.lit (Value.bool true))] [DV.one (Cell.lit (Value.bool (decide (a = b))))]) := by kernel_rfl
theorem ok_EqualCond : Holds EE (53, con_EqualCond) := by
  refine holds_of EE_ok Go.Proofs.Tryz.func53 con_EqualCond (by kernel_rfl) use_EqualCond all_nil ann_EqualCond (fun x hp hb => ?_)
  obtain ⟨a, b⟩ := x
  have hb_a : BdDV (U := UU) (.one (.sl .eCond a)) := hb _ (List.mem_cons_self)
  have hl_a : a.length ≤ 9223372036854775807 := Bd.len hb_a
  have hb_b : BdDV (U := UU) (.one (.sl .eCond b)) := hb _ (List.mem_cons_of_mem _ (List.mem_cons_self))
  have hl_b : b.length ≤ 9223372036854775807 := Bd.len hb_b
  clear hp hb
  rw [vc_EqualCond a b]
  dsimp only
  refine if_cond (fun h => Lf_f ?_) (fun h => ⟨?_, ?_⟩)
  · rintro rfl; simp at h
  · simp [I_EqualCond_4] at *; omega
  rintro ⟨i, ⟨⟩⟩ ⟨h1, h2, h3, hR⟩
  simp only at *
  refine if_cond (fun hc => ?_) (fun hc => ?_)
  · have hc : i < a.length := by simpa using hc
    rw [drop_step a zCond h1 hc, drop_step b zCond h1 (by omega)] at hR
    rw [wrap_i64 (by omega) (by omega)]
    simp only [cond_beq]
    refine ⟨by omega, by omega, by omega, by omega, if_cond (fun h => Lf_f ?_) (fun h => ⟨⟨by omega, by omega, h3, ?_⟩, ?_⟩)⟩
    · rw [← hR]; simp at h; simp [h]
    · rw [← hR]; simp at h; simp [h]
    · simp only [μ_EqualCond_4]; omega
  · have hc : a.length ≤ i := by simpa using hc
    rw [drop_end a hc, drop_end b (by omega)] at hR
    exact Lf_t (hR.1 rfl)
theorem expr_beq (a b : DExpr) : (ByteArray.toList a.Op == ByteArray.toList b.Op && ((a.L.K == b.L.K && (ByteArray.toList a.L.S == ByteArray.toList b.L.S && ((a.L.V.K == b.L.V.K && (a.L.V.N == b.L.V.N && (ByteArray.toList a.L.V.S == ByteArray.toList b.L.V.S && true))) && true))) && ((a.R.K == b.R.K && (ByteArray.toList a.R.S == ByteArray.toList b.R.S && ((a.R.V.K == b.R.V.K && (a.R.V.N == b.R.V.N && (ByteArray.toList a.R.V.S == ByteArray.toList b.R.V.S && true))) && true))) && true))) = decide (a = b) := by
  obtain ⟨a33, ⟨a34, a35, ⟨a36, a37, a38⟩⟩, ⟨a39, a40, ⟨a41, a42, a43⟩⟩⟩ := a
  obtain ⟨b44, ⟨b45, b46, ⟨b47, b48, b49⟩⟩, ⟨b50, b51, ⟨b52, b53, b54⟩⟩⟩ := b
  simp only [toList_beq, Bool.and_true]
  rw [Bool.eq_iff_iff]
  simp only [Bool.and_eq_true, beq_iff_eq, decide_eq_true_eq, DArg.mk.injEq, DExpr.mk.injEq, DVal.mk.injEq]
def con_EqualExpr : Con UU where
  α := (List DExpr) × (List DExpr)
  md := [.ro, .ro]
  of := fun | [.one (.sl .eExpr a0), .one (.sl .eExpr a1)] => some (a0, a1) | _ => none
  ds := fun (a, b) => [.one (.sl .eExpr a), .one (.sl .eExpr b)]
  pre := fun (a, b) => []
  res := fun (a, b) => ⟨[.one (.lit (.bool (decide (a = b))))], true, []⟩
  law := by intro l x h; (try simp only at h); split at h <;> cases h; rfl
def I_EqualExpr_4 (a : (List DExpr)) (b : (List DExpr)) : Int × Unit → Prop := fun (i, _) => 0 ≤ i ∧ i ≤ a.length ∧ a.length = b.length ∧ (a.drop i.toNat = b.drop i.toNat ↔ a = b)
def μ_EqualExpr_4 (a : (List DExpr)) (b : (List DExpr)) : Int × Unit → Nat := fun (i, _) => a.length - i.toNat
def ann_EqualExpr : con_EqualExpr.α → Nat → Option (Ann UU) := fun (a, b) => annL [(4, annOf [.slot 13 (13, 1024) (.lit (.int .i64))] (fun _ => I_EqualExpr_4 a b) (μ_EqualExpr_4 a b))]
def use_EqualExpr : List (FuncId × Con UU) := []
theorem vc_EqualExpr (a : (List DExpr)) (b : (List DExpr)) : goal EE use_EqualExpr Go.Proofs.Tryz.f79 con_EqualExpr ann_EqualExpr (a, b) = (bif (↑(List.length a) : Int) != (↑(List.length b) : Int) then Lf [DV.one (Cell.lit (Value.bool false))] [DV.one (Cell.lit (Value.bool (decide (a = b))))]
else
  I_EqualExpr_4 a b ((0 : Int), PUnit.unit) ∧
    ∀ (y : Int × PUnit),
      let x0 : DVal := (List.getD a (Int.toNat y.1) zExpr).R.V;
      let x1 : DVal := (List.getD a (Int.toNat y.1) zExpr).L.V;
      let x2 : DVal := (List.getD b (Int.toNat y.1) zExpr).R.V;
      let x3 : DVal := (List.getD b (Int.toNat y.1) zExpr).L.V;
      let x4 : DExpr := List.getD a (Int.toNat y.1) zExpr;
      let x5 : DExpr := List.getD b (Int.toNat y.1) zExpr;
      I_EqualExpr_4 a b y → bif decide (y.1 < (↑(List.length a) : Int)) then (0 : Int) ≤ y.1 ∧ Int.toNat y.1 < List.length a ∧ (0 : Int) ≤ y.1 ∧ Int.toNat y.1 < List.length b ∧ bif !(ByteArray.toList x4.Op == ByteArray.toList x5.Op && (x4.L.K == x5.L.K && (ByteArray.toList x4.L.S == ByteArray.toList x5.L.S && (x1.K == x3.K && (x1.N == x3.N && (ByteArray.toList x1.S == ByteArray.toList x3.S && true)) && true)) && (x4.R.K == x5.R.K && (ByteArray.toList x4.R.S == ByteArray.toList x5.R.S && (x0.K == x2.K && (x0.N == x2.N && (ByteArray.toList x0.S == ByteArray.toList x2.S && true)) && true)) && true))) then Lf [DV.one (Cell.lit (Value.bool false))] [DV.one (Cell.lit (Value.bool (decide (a = b))))] else I_EqualExpr_4 a b (IntKind.wrap IntKind.i64 (y.1 + (1 : Int)), PUnit.unit) ∧ μ_EqualExpr_4 a b (IntKind.wrap IntKind.i64 (y.1 + (1 : Int)), PUnit.unit) < μ_EqualExpr_4 a b y else Lf [DV.one (Cell.lit (Value.bool true))] [DV.one (Cell.lit (Value.bool (decide (a = b))))]) := by kernel_rfl
theorem ok_EqualExpr : Holds EE (79, con_EqualExpr) := by
  refine holds_of EE_ok Go.Proofs.Tryz.func79 con_EqualExpr (by kernel_rfl) use_EqualExpr all_nil ann_EqualExpr (fun x hp hb => ?_)
  obtain ⟨a, b⟩ := x
  have hb_a : BdDV (U := UU) (.one (.sl .eExpr a)) := hb _ (List.mem_cons_self)
  have hl_a : a.length ≤ 9223372036854775807 := Bd.len hb_a
  have hb_b : BdDV (U := UU) (.one (.sl .eExpr b)) := hb _ (List.mem_cons_of_mem _ (List.mem_cons_self))
  have hl_b : b.length ≤ 9223372036854775807 := Bd.len hb_b
  clear hp hb
  rw [vc_EqualExpr a b]
  dsimp only
  refine if_cond (fun h => Lf_f ?_) (fun h => ⟨?_, ?_⟩)
  · rintro rfl; simp at h
  · simp [I_EqualExpr_4] at *; omega
  rintro ⟨i, ⟨⟩⟩ ⟨h1, h2, h3, hR⟩
  simp only at *
  refine if_cond (fun hc => ?_) (fun hc => ?_)
  · have hc : i < a.length := by simpa using hc
    rw [drop_step a zExpr h1 hc, drop_step b zExpr h1 (by omega)] at hR
    rw [wrap_i64 (by omega) (by omega)]
    simp only [expr_beq]
    refine ⟨by omega, by omega, by omega, by omega, if_cond (fun h => Lf_f ?_) (fun h => ⟨⟨by omega, by omega, h3, ?_⟩, ?_⟩)⟩
    · rw [← hR]; simp at h; simp [h]
    · rw [← hR]; simp at h; simp [h]
    · simp only [μ_EqualExpr_4]; omega
  · have hc : a.length ≤ i := by simpa using hc
    rw [drop_end a hc, drop_end b (by omega)] at hR
    exact Lf_t (hR.1 rfl)
theorem bind_beq (a b : DBind) : (ByteArray.toList a.Name == ByteArray.toList b.Name && ((a.V.K == b.V.K && (a.V.N == b.V.N && (ByteArray.toList a.V.S == ByteArray.toList b.V.S && true))) && true)) = decide (a = b) := by
  obtain ⟨a55, ⟨a56, a57, a58⟩⟩ := a
  obtain ⟨b59, ⟨b60, b61, b62⟩⟩ := b
  simp only [toList_beq, Bool.and_true]
  rw [Bool.eq_iff_iff]
  simp only [Bool.and_eq_true, beq_iff_eq, decide_eq_true_eq, DBind.mk.injEq, DVal.mk.injEq]
def con_EqualBind : Con UU where
  α := (List DBind) × (List DBind)
  md := [.ro, .ro]
  of := fun | [.one (.sl .eBind a0), .one (.sl .eBind a1)] => some (a0, a1) | _ => none
  ds := fun (a, b) => [.one (.sl .eBind a), .one (.sl .eBind b)]
  pre := fun (a, b) => []
  res := fun (a, b) => ⟨[.one (.lit (.bool (decide (a = b))))], true, []⟩
  law := by intro l x h; (try simp only at h); split at h <;> cases h; rfl
def I_EqualBind_4 (a : (List DBind)) (b : (List DBind)) : Int × Unit → Prop := fun (i, _) => 0 ≤ i ∧ i ≤ a.length ∧ a.length = b.length ∧ (a.drop i.toNat = b.drop i.toNat ↔ a = b)
def μ_EqualBind_4 (a : (List DBind)) (b : (List DBind)) : Int × Unit → Nat := fun (i, _) => a.length - i.toNat
def ann_EqualBind : con_EqualBind.α → Nat → Option (Ann UU) := fun (a, b) => annL [(4, annOf [.slot 13 (13, 1024) (.lit (.int .i64))] (fun _ => I_EqualBind_4 a b) (μ_EqualBind_4 a b))]
def use_EqualBind : List (FuncId × Con UU) := []
theorem vc_EqualBind (a : (List DBind)) (b : (List DBind)) : goal EE use_EqualBind Go.Proofs.Tryz.f62 con_EqualBind ann_EqualBind (a, b) = (bif (↑(List.length a) : Int) != (↑(List.length b) : Int) then Lf [DV.one (Cell.lit (Value.bool false))] [DV.one (Cell.lit (Value.bool (decide (a = b))))]
else
  I_EqualBind_4 a b ((0 : Int), PUnit.unit) ∧
    ∀ (y : Int × PUnit),
      let x0 : DVal := (List.getD b (Int.toNat y.1) zBind).V;
      let x1 : DVal := (List.getD a (Int.toNat y.1) zBind).V;
      I_EqualBind_4 a b y → bif decide (y.1 < (↑(List.length a) : Int)) then (0 : Int) ≤ y.1 ∧ Int.toNat y.1 < List.length a ∧ (0 : Int) ≤ y.1 ∧ Int.toNat y.1 < List.length b ∧ bif !(ByteArray.toList (List.getD a (Int.toNat y.1) zBind).Name == ByteArray.toList (List.getD b (Int.toNat y.1) zBind).Name && (x1.K == x0.K && (x1.N == x0.N && (ByteArray.toList x1.S == ByteArray.toList x0.S && true)) && true)) then Lf [DV.one (Cell.lit (Value.bool false))] [DV.one (Cell.lit (Value.bool (decide (a = b))))] else I_EqualBind_4 a b (IntKind.wrap IntKind.i64 (y.1 + (1 : Int)), PUnit.unit) ∧ μ_EqualBind_4 a b (IntKind.wrap IntKind.i64 (y.1 + (1 : Int)), PUnit.unit) < μ_EqualBind_4 a b y else Lf [DV.one (Cell.lit (Value.bool true))] [DV.one (Cell.lit (Value.bool (decide (a = b))))]) := by kernel_rfl
theorem ok_EqualBind : Holds EE (62, con_EqualBind) := by
  refine holds_of EE_ok Go.Proofs.Tryz.func62 con_EqualBind (by kernel_rfl) use_EqualBind all_nil ann_EqualBind (fun x hp hb => ?_)
  obtain ⟨a, b⟩ := x
  have hb_a : BdDV (U := UU) (.one (.sl .eBind a)) := hb _ (List.mem_cons_self)
  have hl_a : a.length ≤ 9223372036854775807 := Bd.len hb_a
  have hb_b : BdDV (U := UU) (.one (.sl .eBind b)) := hb _ (List.mem_cons_of_mem _ (List.mem_cons_self))
  have hl_b : b.length ≤ 9223372036854775807 := Bd.len hb_b
  clear hp hb
  rw [vc_EqualBind a b]
  dsimp only
  refine if_cond (fun h => Lf_f ?_) (fun h => ⟨?_, ?_⟩)
  · rintro rfl; simp at h
  · simp [I_EqualBind_4] at *; omega
  rintro ⟨i, ⟨⟩⟩ ⟨h1, h2, h3, hR⟩
  simp only at *
  refine if_cond (fun hc => ?_) (fun hc => ?_)
  · have hc : i < a.length := by simpa using hc
    rw [drop_step a zBind h1 hc, drop_step b zBind h1 (by omega)] at hR
    rw [wrap_i64 (by omega) (by omega)]
    simp only [bind_beq]
    refine ⟨by omega, by omega, by omega, by omega, if_cond (fun h => Lf_f ?_) (fun h => ⟨⟨by omega, by omega, h3, ?_⟩, ?_⟩)⟩
    · rw [← hR]; simp at h; simp [h]
    · rw [← hR]; simp at h; simp [h]
    · simp only [μ_EqualBind_4]; omega
  · have hc : a.length ≤ i := by simpa using hc
    rw [drop_end a hc, drop_end b (by omega)] at hR
    exact Lf_t (hR.1 rfl)
def con_impl_SameMatch : Con UU where
  α := DMatch × DMatch
  md := [.ro, .ro]
  of := fun | [.agg [.lit (.int .i64 a0), .sl .int a1, .sl .eBind a2], .agg [.lit (.int .i64 a3), .sl .int a4, .sl .eBind a5]] => some (⟨a0, a1, a2⟩, ⟨a3, a4, a5⟩) | _ => none
  ds := fun (a, b) => [.agg [.lit (.int .i64 a.Rule), .sl .int a.Ids, .sl .eBind a.Binds], .agg [.lit (.int .i64 b.Rule), .sl .int b.Ids, .sl .eBind b.Binds]]
  pre := fun (a, b) => []
  res := fun (a, b) => ⟨[.one (.lit (.bool (decide (a.Rule = b.Rule ∧ a.Ids = b.Ids))))], true, []⟩
  law := by intro l x h; (try simp only at h); split at h <;> cases h; rfl
def ann_impl_SameMatch : con_impl_SameMatch.α → Nat → Option (Ann UU) := fun (a, b) => annL []
def use_impl_SameMatch : List (FuncId × Con UU) := [(80, con_EqualInt)]
theorem vc_impl_SameMatch (a : DMatch) (b : DMatch) : goal EE use_impl_SameMatch Go.Proofs.Tryz.f61 con_impl_SameMatch ann_impl_SameMatch (a, b) = (bif a.Rule == b.Rule then Lf [DV.one (Cell.lit (Value.bool (decide (a.Ids = b.Ids))))] [DV.one (Cell.lit (Value.bool (decide (a.Rule = b.Rule ∧ a.Ids = b.Ids))))] else Lf [DV.one (Cell.lit (Value.bool false))] [DV.one (Cell.lit (Value.bool (decide (a.Rule = b.Rule ∧ a.Ids = b.Ids))))]) := by kernel_rfl
theorem ok_impl_SameMatch : Holds EE (61, con_impl_SameMatch) := by
  refine holds_of EE_ok Go.Proofs.Tryz.func61 con_impl_SameMatch (by kernel_rfl) use_impl_SameMatch (all_cons ok_EqualInt all_nil) ann_impl_SameMatch (fun x hp hb => ?_)
  obtain ⟨a, b⟩ := x
  have hb_a : BdDV (U := UU) (.agg [.lit (.int .i64 a.Rule), .sl .int a.Ids, .sl .eBind a.Binds]) := hb _ (List.mem_cons_self)
  have hl_a_Ids : a.Ids.length ≤ 9223372036854775807 := Bd.len (U := UU) (τ := .int) (xs := a.Ids) (hb_a _ (by simp))
  have hl_a_Binds : a.Binds.length ≤ 9223372036854775807 := Bd.len (U := UU) (τ := .eBind) (xs := a.Binds) (hb_a _ (by simp))
  have hb_b : BdDV (U := UU) (.agg [.lit (.int .i64 b.Rule), .sl .int b.Ids, .sl .eBind b.Binds]) := hb _ (List.mem_cons_of_mem _ (List.mem_cons_self))
  have hl_b_Ids : b.Ids.length ≤ 9223372036854775807 := Bd.len (U := UU) (τ := .int) (xs := b.Ids) (hb_b _ (by simp))
  have hl_b_Binds : b.Binds.length ≤ 9223372036854775807 := Bd.len (U := UU) (τ := .eBind) (xs := b.Binds) (hb_b _ (by simp))
  clear hp hb
  rw [vc_impl_SameMatch a b]
  refine if_cond (fun h => Lf_b ?_) (fun h => Lf_b ?_) <;> grind
def qaPat (x : DPat) : DA UU := ⟨true, [.lit (.string x.Kind), .sl .eArg x.Args, .lit (.bool x.Not)]⟩
def con_EqualFuncPat : Con UU where
  α := (List DPat) × (List DPat) × (List (DA UU) → Option Value)
  md := [.ro, .ro, .ro]
  of := fun | [.one (.sl .ePat a0), .one (.sl .ePat a1), .fn a2] => some (a0, a1, a2) | _ => none
  ds := fun (a, b, p) => [.one (.sl .ePat a), .one (.sl .ePat b), .fn p]
  pre := fun (a, b, p) => [∀ j : Nat, j < a.length → j < b.length → p [qaPat (List.getD a j zPat), qaPat (List.getD b j zPat)] = some (.bool (decide (List.getD a j zPat = List.getD b j zPat)))]
  res := fun (a, b, p) => ⟨[.one (.lit (.bool (decide (a = b))))], true, []⟩
  law := by intro l x h; (try simp only at h); split at h <;> cases h; rfl
def I_EqualFuncPat_4 (a : (List DPat)) (b : (List DPat)) (p : (List (DA UU) → Option Value)) : Int × Unit → Prop := fun (i, _) => 0 ≤ i ∧ i ≤ a.length ∧ a.length = b.length ∧ (a.drop i.toNat = b.drop i.toNat ↔ a = b)
def μ_EqualFuncPat_4 (a : (List DPat)) (b : (List DPat)) (p : (List (DA UU) → Option Value)) : Int × Unit → Nat := fun (i, _) => a.length - i.toNat
def ann_EqualFuncPat : con_EqualFuncPat.α → Nat → Option (Ann UU) := fun (a, b, p) => annL [(4, annOf [.slot 17 (17, 1024) (.lit (.int .i64))] (fun _ => I_EqualFuncPat_4 a b p) (μ_EqualFuncPat_4 a b p))]
def use_EqualFuncPat : List (FuncId × Con UU) := []
theorem vc_EqualFuncPat (a : (List DPat)) (b : (List DPat)) (p : (List (DA UU) → Option Value)) : goal EE use_EqualFuncPat Go.Proofs.Tryz.f54 con_EqualFuncPat ann_EqualFuncPat (a, b, p) = (bif (↑(List.length a) : Int) != (↑(List.length b) : Int) then Lf [DV.one (Cell.lit (Value.bool false))] [DV.one (Cell.lit (Value.bool (decide (a = b))))]
else
  I_EqualFuncPat_4 a b p ((0 : Int), PUnit.unit) ∧
    ∀ (y : Int × PUnit),
      let x0 : Bool := boolOf (p [{ agg := true, cs := [Cell.lit (Value.string (List.getD a (Int.toNat y.1) zPat).Kind), Cell.sl Cd.eArg (List.getD a (Int.toNat y.1) zPat).Args, Cell.lit (Value.bool (List.getD a (Int.toNat y.1) zPat).Not)] : DA UU }, { agg := true, cs := [Cell.lit (Value.string (List.getD b (Int.toNat y.1) zPat).Kind), Cell.sl Cd.eArg (List.getD b (Int.toNat y.1) zPat).Args, Cell.lit (Value.bool (List.getD b (Int.toNat y.1) zPat).Not)] : DA UU }]);
      let x1 : DPat := List.getD b (Int.toNat y.1) zPat;
      let x2 : DPat := List.getD a (Int.toNat y.1) zPat;
      I_EqualFuncPat_4 a b p y → bif decide (y.1 < (↑(List.length a) : Int)) then (0 : Int) ≤ y.1 ∧ Int.toNat y.1 < List.length a ∧ (0 : Int) ≤ y.1 ∧ Int.toNat y.1 < List.length b ∧ p [{ agg := true, cs := [Cell.lit (Value.string x2.Kind), Cell.sl Cd.eArg x2.Args, Cell.lit (Value.bool x2.Not)] : DA UU }, { agg := true, cs := [Cell.lit (Value.string x1.Kind), Cell.sl Cd.eArg x1.Args, Cell.lit (Value.bool x1.Not)] : DA UU }] = some (Value.bool x0) ∧ bif !x0 then Lf [DV.one (Cell.lit (Value.bool false))] [DV.one (Cell.lit (Value.bool (decide (a = b))))] else I_EqualFuncPat_4 a b p (IntKind.wrap IntKind.i64 (y.1 + (1 : Int)), PUnit.unit) ∧ μ_EqualFuncPat_4 a b p (IntKind.wrap IntKind.i64 (y.1 + (1 : Int)), PUnit.unit) < μ_EqualFuncPat_4 a b p y else Lf [DV.one (Cell.lit (Value.bool true))] [DV.one (Cell.lit (Value.bool (decide (a = b))))]) := by kernel_rfl
theorem ok_EqualFuncPat : Holds EE (54, con_EqualFuncPat) := by
  refine holds_of EE_ok Go.Proofs.Tryz.func54 con_EqualFuncPat (by kernel_rfl) use_EqualFuncPat all_nil ann_EqualFuncPat (fun x hp hb => ?_)
  obtain ⟨a, b, p⟩ := x
  have hb_a : BdDV (U := UU) (.one (.sl .ePat a)) := hb _ (List.mem_cons_self)
  have hl_a : a.length ≤ 9223372036854775807 := Bd.len hb_a
  have hb_b : BdDV (U := UU) (.one (.sl .ePat b)) := hb _ (List.mem_cons_of_mem _ (List.mem_cons_self))
  have hl_b : b.length ≤ 9223372036854775807 := Bd.len hb_b
  have hp0 : ∀ j : Nat, j < a.length → j < b.length → p [qaPat (List.getD a j zPat), qaPat (List.getD b j zPat)] = some (.bool (decide (List.getD a j zPat = List.getD b j zPat))) := hp _ (List.mem_cons_self)
  clear hp hb
  rw [vc_EqualFuncPat a b p]
  dsimp only
  refine if_cond (fun h => Lf_f ?_) (fun h => ⟨?_, ?_⟩)
  · rintro rfl; simp at h
  · have h : (a.length : Int) = b.length := by simpa using h
    exact ⟨by omega, by omega, by omega, Iff.rfl⟩
  rintro ⟨i, ⟨⟩⟩ ⟨h1, h2, h3, hR⟩
  simp only at *
  refine if_cond (fun hc => ?_) (fun hc => ?_)
  · have hc : i < a.length := of_decide_eq_true hc
    have hq := hp0 i.toNat (by omega) (by omega)
    rw [drop_step a zPat h1 hc, drop_step b zPat h1 (by omega)] at hR
    rw [wrap_i64 (by omega) (by omega)]
    have e1 : boolOf (p [qaPat (List.getD a i.toNat zPat), qaPat (List.getD b i.toNat zPat)]) = decide (List.getD a i.toNat zPat = List.getD b i.toNat zPat) := by rw [hq]; rfl
    have hq2 : p [qaPat (List.getD a i.toNat zPat), qaPat (List.getD b i.toNat zPat)] = some (.bool (boolOf (p [qaPat (List.getD a i.toNat zPat), qaPat (List.getD b i.toNat zPat)]))) := by rw [e1]; exact hq
    refine ⟨by omega, by omega, by omega, by omega, hq2, if_cond (fun h => Lf_f ?_) (fun h => ⟨⟨by omega, by omega, h3, ?_⟩, ?_⟩)⟩
    · have h : (!boolOf (p [qaPat (List.getD a i.toNat zPat), qaPat (List.getD b i.toNat zPat)])) = true := h
      rw [e1] at h; rw [← hR]; simp only [Bool.not_eq_true', decide_eq_false_iff_not] at h; exact fun hh => h (List.cons.inj hh).1
    · have h : (!boolOf (p [qaPat (List.getD a i.toNat zPat), qaPat (List.getD b i.toNat zPat)])) = false := h
      rw [e1] at h; rw [← hR]; simp only [Bool.not_eq_false', decide_eq_true_eq] at h; rw [h]; simp
    · simp only [μ_EqualFuncPat_4]; omega
  · have hc : a.length ≤ i := by have := of_decide_eq_false hc; omega
    rw [drop_end a hc, drop_end b (by omega)] at hR
    exact Lf_t (hR.1 rfl)
def qaAct (x : DAct) : DA UU := ⟨true, [.lit (.int .i64 x.Kind), .lit (.string x.Name), .sl .eExpr x.Args, .lit (.int .i64 x.N), .lit (.string x.Undo)]⟩
def con_EqualFuncAct : Con UU where
  α := (List DAct) × (List DAct) × (List (DA UU) → Option Value)
  md := [.ro, .ro, .ro]
  of := fun | [.one (.sl .eAct a0), .one (.sl .eAct a1), .fn a2] => some (a0, a1, a2) | _ => none
  ds := fun (a, b, p) => [.one (.sl .eAct a), .one (.sl .eAct b), .fn p]
  pre := fun (a, b, p) => [∀ j : Nat, j < a.length → j < b.length → p [qaAct (List.getD a j zAct), qaAct (List.getD b j zAct)] = some (.bool (decide (List.getD a j zAct = List.getD b j zAct)))]
  res := fun (a, b, p) => ⟨[.one (.lit (.bool (decide (a = b))))], true, []⟩
  law := by intro l x h; (try simp only at h); split at h <;> cases h; rfl
def I_EqualFuncAct_4 (a : (List DAct)) (b : (List DAct)) (p : (List (DA UU) → Option Value)) : Int × Unit → Prop := fun (i, _) => 0 ≤ i ∧ i ≤ a.length ∧ a.length = b.length ∧ (a.drop i.toNat = b.drop i.toNat ↔ a = b)
def μ_EqualFuncAct_4 (a : (List DAct)) (b : (List DAct)) (p : (List (DA UU) → Option Value)) : Int × Unit → Nat := fun (i, _) => a.length - i.toNat
def ann_EqualFuncAct : con_EqualFuncAct.α → Nat → Option (Ann UU) := fun (a, b, p) => annL [(4, annOf [.slot 17 (17, 1024) (.lit (.int .i64))] (fun _ => I_EqualFuncAct_4 a b p) (μ_EqualFuncAct_4 a b p))]
def use_EqualFuncAct : List (FuncId × Con UU) := []
theorem vc_EqualFuncAct (a : (List DAct)) (b : (List DAct)) (p : (List (DA UU) → Option Value)) : goal EE use_EqualFuncAct Go.Proofs.Tryz.f56 con_EqualFuncAct ann_EqualFuncAct (a, b, p) = (bif (↑(List.length a) : Int) != (↑(List.length b) : Int) then Lf [DV.one (Cell.lit (Value.bool false))] [DV.one (Cell.lit (Value.bool (decide (a = b))))]
else
  I_EqualFuncAct_4 a b p ((0 : Int), PUnit.unit) ∧
    ∀ (y : Int × PUnit),
      let x0 : Bool := boolOf (p [{ agg := true, cs := [Cell.lit (Value.int IntKind.i64 (List.getD a (Int.toNat y.1) zAct).Kind), Cell.lit (Value.string (List.getD a (Int.toNat y.1) zAct).Name), Cell.sl Cd.eExpr (List.getD a (Int.toNat y.1) zAct).Args, Cell.lit (Value.int IntKind.i64 (List.getD a (Int.toNat y.1) zAct).N), Cell.lit (Value.string (List.getD a (Int.toNat y.1) zAct).Undo)] : DA UU }, { agg := true, cs := [Cell.lit (Value.int IntKind.i64 (List.getD b (Int.toNat y.1) zAct).Kind), Cell.lit (Value.string (List.getD b (Int.toNat y.1) zAct).Name), Cell.sl Cd.eExpr (List.getD b (Int.toNat y.1) zAct).Args, Cell.lit (Value.int IntKind.i64 (List.getD b (Int.toNat y.1) zAct).N), Cell.lit (Value.string (List.getD b (Int.toNat y.1) zAct).Undo)] : DA UU }]);
      let x1 : DAct := List.getD b (Int.toNat y.1) zAct;
      let x2 : DAct := List.getD a (Int.toNat y.1) zAct;
      I_EqualFuncAct_4 a b p y → bif decide (y.1 < (↑(List.length a) : Int)) then (0 : Int) ≤ y.1 ∧ Int.toNat y.1 < List.length a ∧ (0 : Int) ≤ y.1 ∧ Int.toNat y.1 < List.length b ∧ p [{ agg := true, cs := [Cell.lit (Value.int IntKind.i64 x2.Kind), Cell.lit (Value.string x2.Name), Cell.sl Cd.eExpr x2.Args, Cell.lit (Value.int IntKind.i64 x2.N), Cell.lit (Value.string x2.Undo)] : DA UU }, { agg := true, cs := [Cell.lit (Value.int IntKind.i64 x1.Kind), Cell.lit (Value.string x1.Name), Cell.sl Cd.eExpr x1.Args, Cell.lit (Value.int IntKind.i64 x1.N), Cell.lit (Value.string x1.Undo)] : DA UU }] = some (Value.bool x0) ∧ bif !x0 then Lf [DV.one (Cell.lit (Value.bool false))] [DV.one (Cell.lit (Value.bool (decide (a = b))))] else I_EqualFuncAct_4 a b p (IntKind.wrap IntKind.i64 (y.1 + (1 : Int)), PUnit.unit) ∧ μ_EqualFuncAct_4 a b p (IntKind.wrap IntKind.i64 (y.1 + (1 : Int)), PUnit.unit) < μ_EqualFuncAct_4 a b p y else Lf [DV.one (Cell.lit (Value.bool true))] [DV.one (Cell.lit (Value.bool (decide (a = b))))]) := by kernel_rfl
theorem ok_EqualFuncAct : Holds EE (56, con_EqualFuncAct) := by
  refine holds_of EE_ok Go.Proofs.Tryz.func56 con_EqualFuncAct (by kernel_rfl) use_EqualFuncAct all_nil ann_EqualFuncAct (fun x hp hb => ?_)
  obtain ⟨a, b, p⟩ := x
  have hb_a : BdDV (U := UU) (.one (.sl .eAct a)) := hb _ (List.mem_cons_self)
  have hl_a : a.length ≤ 9223372036854775807 := Bd.len hb_a
  have hb_b : BdDV (U := UU) (.one (.sl .eAct b)) := hb _ (List.mem_cons_of_mem _ (List.mem_cons_self))
  have hl_b : b.length ≤ 9223372036854775807 := Bd.len hb_b
  have hp0 : ∀ j : Nat, j < a.length → j < b.length → p [qaAct (List.getD a j zAct), qaAct (List.getD b j zAct)] = some (.bool (decide (List.getD a j zAct = List.getD b j zAct))) := hp _ (List.mem_cons_self)
  clear hp hb
  rw [vc_EqualFuncAct a b p]
  dsimp only
  refine if_cond (fun h => Lf_f ?_) (fun h => ⟨?_, ?_⟩)
  · rintro rfl; simp at h
  · have h : (a.length : Int) = b.length := by simpa using h
    exact ⟨by omega, by omega, by omega, Iff.rfl⟩
  rintro ⟨i, ⟨⟩⟩ ⟨h1, h2, h3, hR⟩
  simp only at *
  refine if_cond (fun hc => ?_) (fun hc => ?_)
  · have hc : i < a.length := of_decide_eq_true hc
    have hq := hp0 i.toNat (by omega) (by omega)
    rw [drop_step a zAct h1 hc, drop_step b zAct h1 (by omega)] at hR
    rw [wrap_i64 (by omega) (by omega)]
    have e1 : boolOf (p [qaAct (List.getD a i.toNat zAct), qaAct (List.getD b i.toNat zAct)]) = decide (List.getD a i.toNat zAct = List.getD b i.toNat zAct) := by rw [hq]; rfl
    have hq2 : p [qaAct (List.getD a i.toNat zAct), qaAct (List.getD b i.toNat zAct)] = some (.bool (boolOf (p [qaAct (List.getD a i.toNat zAct), qaAct (List.getD b i.toNat zAct)]))) := by rw [e1]; exact hq
    refine ⟨by omega, by omega, by omega, by omega, hq2, if_cond (fun h => Lf_f ?_) (fun h => ⟨⟨by omega, by omega, h3, ?_⟩, ?_⟩)⟩
    · have h : (!boolOf (p [qaAct (List.getD a i.toNat zAct), qaAct (List.getD b i.toNat zAct)])) = true := h
      rw [e1] at h; rw [← hR]; simp only [Bool.not_eq_true', decide_eq_false_iff_not] at h; exact fun hh => h (List.cons.inj hh).1
    · have h : (!boolOf (p [qaAct (List.getD a i.toNat zAct), qaAct (List.getD b i.toNat zAct)])) = false := h
      rw [e1] at h; rw [← hR]; simp only [Bool.not_eq_false', decide_eq_true_eq] at h; rw [h]; simp
    · simp only [μ_EqualFuncAct_4]; omega
  · have hc : a.length ≤ i := by have := of_decide_eq_false hc; omega
    rw [drop_end a hc, drop_end b (by omega)] at hR
    exact Lf_t (hR.1 rfl)
def qaRule (x : DRule) : DA UU := ⟨true, [.lit (.string x.Name), .lit (.int .i64 x.Sal), .sl .ePat x.Pats, .sl .eCond x.Conds, .sl .eAct x.Acts]⟩
def con_EqualFuncRule : Con UU where
  α := (List DRule) × (List DRule) × (List (DA UU) → Option Value)
  md := [.ro, .ro, .ro]
  of := fun | [.one (.sl .eRule a0), .one (.sl .eRule a1), .fn a2] => some (a0, a1, a2) | _ => none
  ds := fun (a, b, p) => [.one (.sl .eRule a), .one (.sl .eRule b), .fn p]
  pre := fun (a, b, p) => [∀ j : Nat, j < a.length → j < b.length → p [qaRule (List.getD a j zRule), qaRule (List.getD b j zRule)] = some (.bool (decide (List.getD a j zRule = List.getD b j zRule)))]
  res := fun (a, b, p) => ⟨[.one (.lit (.bool (decide (a = b))))], true, []⟩
  law := by intro l x h; (try simp only at h); split at h <;> cases h; rfl
def I_EqualFuncRule_4 (a : (List DRule)) (b : (List DRule)) (p : (List (DA UU) → Option Value)) : Int × Unit → Prop := fun (i, _) => 0 ≤ i ∧ i ≤ a.length ∧ a.length = b.length ∧ (a.drop i.toNat = b.drop i.toNat ↔ a = b)
def μ_EqualFuncRule_4 (a : (List DRule)) (b : (List DRule)) (p : (List (DA UU) → Option Value)) : Int × Unit → Nat := fun (i, _) => a.length - i.toNat
def ann_EqualFuncRule : con_EqualFuncRule.α → Nat → Option (Ann UU) := fun (a, b, p) => annL [(4, annOf [.slot 17 (17, 1024) (.lit (.int .i64))] (fun _ => I_EqualFuncRule_4 a b p) (μ_EqualFuncRule_4 a b p))]
def use_EqualFuncRule : List (FuncId × Con UU) := []
theorem vc_EqualFuncRule (a : (List DRule)) (b : (List DRule)) (p : (List (DA UU) → Option Value)) : goal EE use_EqualFuncRule Go.Proofs.Tryz.f31 con_EqualFuncRule ann_EqualFuncRule (a, b, p) = (bif (↑(List.length a) : Int) != (↑(List.length b) : Int) then Lf [DV.one (Cell.lit (Value.bool false))] [DV.one (Cell.lit (Value.bool (decide (a = b))))]
else
  I_EqualFuncRule_4 a b p ((0 : Int), PUnit.unit) ∧
    ∀ (y : Int × PUnit),
      let x0 : Bool := boolOf (p [{ agg := true, cs := [Cell.lit (Value.string (List.getD a (Int.toNat y.1) zRule).Name), Cell.lit (Value.int IntKind.i64 (List.getD a (Int.toNat y.1) zRule).Sal), Cell.sl Cd.ePat (List.getD a (Int.toNat y.1) zRule).Pats, Cell.sl Cd.eCond (List.getD a (Int.toNat y.1) zRule).Conds, Cell.sl Cd.eAct (List.getD a (Int.toNat y.1) zRule).Acts] : DA UU }, { agg := true, cs := [Cell.lit (Value.string (List.getD b (Int.toNat y.1) zRule).Name), Cell.lit (Value.int IntKind.i64 (List.getD b (Int.toNat y.1) zRule).Sal), Cell.sl Cd.ePat (List.getD b (Int.toNat y.1) zRule).Pats, Cell.sl Cd.eCond (List.getD b (Int.toNat y.1) zRule).Conds, Cell.sl Cd.eAct (List.getD b (Int.toNat y.1) zRule).Acts] : DA UU }]);
      let x1 : DRule := List.getD b (Int.toNat y.1) zRule;
      let x2 : DRule := List.getD a (Int.toNat y.1) zRule;
      I_EqualFuncRule_4 a b p y → bif decide (y.1 < (↑(List.length a) : Int)) then (0 : Int) ≤ y.1 ∧ Int.toNat y.1 < List.length a ∧ (0 : Int) ≤ y.1 ∧ Int.toNat y.1 < List.length b ∧ p [{ agg := true, cs := [Cell.lit (Value.string x2.Name), Cell.lit (Value.int IntKind.i64 x2.Sal), Cell.sl Cd.ePat x2.Pats, Cell.sl Cd.eCond x2.Conds, Cell.sl Cd.eAct x2.Acts] : DA UU }, { agg := true, cs := [Cell.lit (Value.string x1.Name), Cell.lit (Value.int IntKind.i64 x1.Sal), Cell.sl Cd.ePat x1.Pats, Cell.sl Cd.eCond x1.Conds, Cell.sl Cd.eAct x1.Acts] : DA UU }] = some (Value.bool x0) ∧ bif !x0 then Lf [DV.one (Cell.lit (Value.bool false))] [DV.one (Cell.lit (Value.bool (decide (a = b))))] else I_EqualFuncRule_4 a b p (IntKind.wrap IntKind.i64 (y.1 + (1 : Int)), PUnit.unit) ∧ μ_EqualFuncRule_4 a b p (IntKind.wrap IntKind.i64 (y.1 + (1 : Int)), PUnit.unit) < μ_EqualFuncRule_4 a b p y else Lf [DV.one (Cell.lit (Value.bool true))] [DV.one (Cell.lit (Value.bool (decide (a = b))))]) := by kernel_rfl
theorem ok_EqualFuncRule : Holds EE (31, con_EqualFuncRule) := by
  refine holds_of EE_ok Go.Proofs.Tryz.func31 con_EqualFuncRule (by kernel_rfl) use_EqualFuncRule all_nil ann_EqualFuncRule (fun x hp hb => ?_)
  obtain ⟨a, b, p⟩ := x
  have hb_a : BdDV (U := UU) (.one (.sl .eRule a)) := hb _ (List.mem_cons_self)
  have hl_a : a.length ≤ 9223372036854775807 := Bd.len hb_a
  have hb_b : BdDV (U := UU) (.one (.sl .eRule b)) := hb _ (List.mem_cons_of_mem _ (List.mem_cons_self))
  have hl_b : b.length ≤ 9223372036854775807 := Bd.len hb_b
  have hp0 : ∀ j : Nat, j < a.length → j < b.length → p [qaRule (List.getD a j zRule), qaRule (List.getD b j zRule)] = some (.bool (decide (List.getD a j zRule = List.getD b j zRule))) := hp _ (List.mem_cons_self)
  clear hp hb
  rw [vc_EqualFuncRule a b p]
  dsimp only
  refine if_cond (fun h => Lf_f ?_) (fun h => ⟨?_, ?_⟩)
  · rintro rfl; simp at h
  · have h : (a.length : Int) = b.length := by simpa using h
    exact ⟨by omega, by omega, by omega, Iff.rfl⟩
  rintro ⟨i, ⟨⟩⟩ ⟨h1, h2, h3, hR⟩
  simp only at *
  refine if_cond (fun hc => ?_) (fun hc => ?_)
  · have hc : i < a.length := of_decide_eq_true hc
    have hq := hp0 i.toNat (by omega) (by omega)
    rw [drop_step a zRule h1 hc, drop_step b zRule h1 (by omega)] at hR
    rw [wrap_i64 (by omega) (by omega)]
    have e1 : boolOf (p [qaRule (List.getD a i.toNat zRule), qaRule (List.getD b i.toNat zRule)]) = decide (List.getD a i.toNat zRule = List.getD b i.toNat zRule) := by rw [hq]; rfl
    have hq2 : p [qaRule (List.getD a i.toNat zRule), qaRule (List.getD b i.toNat zRule)] = some (.bool (boolOf (p [qaRule (List.getD a i.toNat zRule), qaRule (List.getD b i.toNat zRule)]))) := by rw [e1]; exact hq
    refine ⟨by omega, by omega, by omega, by omega, hq2, if_cond (fun h => Lf_f ?_) (fun h => ⟨⟨by omega, by omega, h3, ?_⟩, ?_⟩)⟩
    · have h : (!boolOf (p [qaRule (List.getD a i.toNat zRule), qaRule (List.getD b i.toNat zRule)])) = true := h
      rw [e1] at h; rw [← hR]; simp only [Bool.not_eq_true', decide_eq_false_iff_not] at h; exact fun hh => h (List.cons.inj hh).1
    · have h : (!boolOf (p [qaRule (List.getD a i.toNat zRule), qaRule (List.getD b i.toNat zRule)])) = false := h
      rw [e1] at h; rw [← hR]; simp only [Bool.not_eq_false', decide_eq_true_eq] at h; rw [h]; simp
    · simp only [μ_EqualFuncRule_4]; omega
  · have hc : a.length ≤ i := by have := of_decide_eq_false hc; omega
    rw [drop_end a hc, drop_end b (by omega)] at hR
    exact Lf_t (hR.1 rfl)
def qaItem (x : DItem) : DA UU := ⟨true, [.lit (.int .i64 x.Id), .lit (.string x.F.Kind), .sl .eVal x.F.Fields]⟩
def con_EqualFuncItem : Con UU where
  α := (List DItem) × (List DItem) × (List (DA UU) → Option Value)
  md := [.ro, .ro, .ro]
  of := fun | [.one (.sl .eItem a0), .one (.sl .eItem a1), .fn a2] => some (a0, a1, a2) | _ => none
  ds := fun (a, b, p) => [.one (.sl .eItem a), .one (.sl .eItem b), .fn p]
  pre := fun (a, b, p) => [∀ j : Nat, j < a.length → j < b.length → p [qaItem (List.getD a j zItem), qaItem (List.getD b j zItem)] = some (.bool (decide (List.getD a j zItem = List.getD b j zItem)))]
  res := fun (a, b, p) => ⟨[.one (.lit (.bool (decide (a = b))))], true, []⟩
  law := by intro l x h; (try simp only at h); split at h <;> cases h; rfl
def I_EqualFuncItem_4 (a : (List DItem)) (b : (List DItem)) (p : (List (DA UU) → Option Value)) : Int × Unit → Prop := fun (i, _) => 0 ≤ i ∧ i ≤ a.length ∧ a.length = b.length ∧ (a.drop i.toNat = b.drop i.toNat ↔ a = b)
def μ_EqualFuncItem_4 (a : (List DItem)) (b : (List DItem)) (p : (List (DA UU) → Option Value)) : Int × Unit → Nat := fun (i, _) => a.length - i.toNat
def ann_EqualFuncItem : con_EqualFuncItem.α → Nat → Option (Ann UU) := fun (a, b, p) => annL [(4, annOf [.slot 17 (17, 1024) (.lit (.int .i64))] (fun _ => I_EqualFuncItem_4 a b p) (μ_EqualFuncItem_4 a b p))]
def use_EqualFuncItem : List (FuncId × Con UU) := []
theorem vc_EqualFuncItem (a : (List DItem)) (b : (List DItem)) (p : (List (DA UU) → Option Value)) : goal EE use_EqualFuncItem Go.Proofs.Tryz.f33 con_EqualFuncItem ann_EqualFuncItem (a, b, p) = (bif (↑(List.length a) : Int) != (↑(List.length b) : Int) then Lf [DV.one (Cell.lit (Value.bool false))] [DV.one (Cell.lit (Value.bool (decide (a = b))))]
else
  I_EqualFuncItem_4 a b p ((0 : Int), PUnit.unit) ∧
    ∀ (y : Int × PUnit),
      let x0 : Bool := boolOf (p [{ agg := true, cs := [Cell.lit (Value.int IntKind.i64 (List.getD a (Int.toNat y.1) zItem).Id), Cell.lit (Value.string (List.getD a (Int.toNat y.1) zItem).F.Kind), Cell.sl Cd.eVal (List.getD a (Int.toNat y.1) zItem).F.Fields] : DA UU }, { agg := true, cs := [Cell.lit (Value.int IntKind.i64 (List.getD b (Int.toNat y.1) zItem).Id), Cell.lit (Value.string (List.getD b (Int.toNat y.1) zItem).F.Kind), Cell.sl Cd.eVal (List.getD b (Int.toNat y.1) zItem).F.Fields] : DA UU }]);
      I_EqualFuncItem_4 a b p y → bif decide (y.1 < (↑(List.length a) : Int)) then (0 : Int) ≤ y.1 ∧ Int.toNat y.1 < List.length a ∧ (0 : Int) ≤ y.1 ∧ Int.toNat y.1 < List.length b ∧ p [{ agg := true, cs := [Cell.lit (Value.int IntKind.i64 (List.getD a (Int.toNat y.1) zItem).Id), Cell.lit (Value.string (List.getD a (Int.toNat y.1) zItem).F.Kind), Cell.sl Cd.eVal (List.getD a (Int.toNat y.1) zItem).F.Fields] : DA UU }, { agg := true, cs := [Cell.lit (Value.int IntKind.i64 (List.getD b (Int.toNat y.1) zItem).Id), Cell.lit (Value.string (List.getD b (Int.toNat y.1) zItem).F.Kind), Cell.sl Cd.eVal (List.getD b (Int.toNat y.1) zItem).F.Fields] : DA UU }] = some (Value.bool x0) ∧ bif !x0 then Lf [DV.one (Cell.lit (Value.bool false))] [DV.one (Cell.lit (Value.bool (decide (a = b))))] else I_EqualFuncItem_4 a b p (IntKind.wrap IntKind.i64 (y.1 + (1 : Int)), PUnit.unit) ∧ μ_EqualFuncItem_4 a b p (IntKind.wrap IntKind.i64 (y.1 + (1 : Int)), PUnit.unit) < μ_EqualFuncItem_4 a b p y else Lf [DV.one (Cell.lit (Value.bool true))] [DV.one (Cell.lit (Value.bool (decide (a = b))))]) := by kernel_rfl
theorem ok_EqualFuncItem : Holds EE (33, con_EqualFuncItem) := by
  refine holds_of EE_ok Go.Proofs.Tryz.func33 con_EqualFuncItem (by kernel_rfl) use_EqualFuncItem all_nil ann_EqualFuncItem (fun x hp hb => ?_)
  obtain ⟨a, b, p⟩ := x
  have hb_a : BdDV (U := UU) (.one (.sl .eItem a)) := hb _ (List.mem_cons_self)
  have hl_a : a.length ≤ 9223372036854775807 := Bd.len hb_a
  have hb_b : BdDV (U := UU) (.one (.sl .eItem b)) := hb _ (List.mem_cons_of_mem _ (List.mem_cons_self))
  have hl_b : b.length ≤ 9223372036854775807 := Bd.len hb_b
  have hp0 : ∀ j : Nat, j < a.length → j < b.length → p [qaItem (List.getD a j zItem), qaItem (List.getD b j zItem)] = some (.bool (decide (List.getD a j zItem = List.getD b j zItem))) := hp _ (List.mem_cons_self)
  clear hp hb
  rw [vc_EqualFuncItem a b p]
  dsimp only
  refine if_cond (fun h => Lf_f ?_) (fun h => ⟨?_, ?_⟩)
  · rintro rfl; simp at h
  · have h : (a.length : Int) = b.length := by simpa using h
    exact ⟨by omega, by omega, by omega, Iff.rfl⟩
  rintro ⟨i, ⟨⟩⟩ ⟨h1, h2, h3, hR⟩
  simp only at *
  refine if_cond (fun hc => ?_) (fun hc => ?_)
  · have hc : i < a.length := of_decide_eq_true hc
    have hq := hp0 i.toNat (by omega) (by omega)
    rw [drop_step a zItem h1 hc, drop_step b zItem h1 (by omega)] at hR
    rw [wrap_i64 (by omega) (by omega)]
    have e1 : boolOf (p [qaItem (List.getD a i.toNat zItem), qaItem (List.getD b i.toNat zItem)]) = decide (List.getD a i.toNat zItem = List.getD b i.toNat zItem) := by rw [hq]; rfl
    have hq2 : p [qaItem (List.getD a i.toNat zItem), qaItem (List.getD b i.toNat zItem)] = some (.bool (boolOf (p [qaItem (List.getD a i.toNat zItem), qaItem (List.getD b i.toNat zItem)]))) := by rw [e1]; exact hq
    refine ⟨by omega, by omega, by omega, by omega, hq2, if_cond (fun h => Lf_f ?_) (fun h => ⟨⟨by omega, by omega, h3, ?_⟩, ?_⟩)⟩
    · have h : (!boolOf (p [qaItem (List.getD a i.toNat zItem), qaItem (List.getD b i.toNat zItem)])) = true := h
      rw [e1] at h; rw [← hR]; simp only [Bool.not_eq_true', decide_eq_false_iff_not] at h; exact fun hh => h (List.cons.inj hh).1
    · have h : (!boolOf (p [qaItem (List.getD a i.toNat zItem), qaItem (List.getD b i.toNat zItem)])) = false := h
      rw [e1] at h; rw [← hR]; simp only [Bool.not_eq_false', decide_eq_true_eq] at h; rw [h]; simp
    · simp only [μ_EqualFuncItem_4]; omega
  · have hc : a.length ≤ i := by have := of_decide_eq_false hc; omega
    rw [drop_end a hc, drop_end b (by omega)] at hR
    exact Lf_t (hR.1 rfl)
def qaTimer (x : DTimer) : DA UU := ⟨true, [.lit (.int .i64 x.At), .lit (.string x.F.Kind), .sl .eVal x.F.Fields]⟩
def con_EqualFuncTimer : Con UU where
  α := (List DTimer) × (List DTimer) × (List (DA UU) → Option Value)
  md := [.ro, .ro, .ro]
  of := fun | [.one (.sl .eTimer a0), .one (.sl .eTimer a1), .fn a2] => some (a0, a1, a2) | _ => none
  ds := fun (a, b, p) => [.one (.sl .eTimer a), .one (.sl .eTimer b), .fn p]
  pre := fun (a, b, p) => [∀ j : Nat, j < a.length → j < b.length → p [qaTimer (List.getD a j zTimer), qaTimer (List.getD b j zTimer)] = some (.bool (decide (List.getD a j zTimer = List.getD b j zTimer)))]
  res := fun (a, b, p) => ⟨[.one (.lit (.bool (decide (a = b))))], true, []⟩
  law := by intro l x h; (try simp only at h); split at h <;> cases h; rfl
def I_EqualFuncTimer_4 (a : (List DTimer)) (b : (List DTimer)) (p : (List (DA UU) → Option Value)) : Int × Unit → Prop := fun (i, _) => 0 ≤ i ∧ i ≤ a.length ∧ a.length = b.length ∧ (a.drop i.toNat = b.drop i.toNat ↔ a = b)
def μ_EqualFuncTimer_4 (a : (List DTimer)) (b : (List DTimer)) (p : (List (DA UU) → Option Value)) : Int × Unit → Nat := fun (i, _) => a.length - i.toNat
def ann_EqualFuncTimer : con_EqualFuncTimer.α → Nat → Option (Ann UU) := fun (a, b, p) => annL [(4, annOf [.slot 17 (17, 1024) (.lit (.int .i64))] (fun _ => I_EqualFuncTimer_4 a b p) (μ_EqualFuncTimer_4 a b p))]
def use_EqualFuncTimer : List (FuncId × Con UU) := []
theorem vc_EqualFuncTimer (a : (List DTimer)) (b : (List DTimer)) (p : (List (DA UU) → Option Value)) : goal EE use_EqualFuncTimer Go.Proofs.Tryz.f35 con_EqualFuncTimer ann_EqualFuncTimer (a, b, p) = (bif (↑(List.length a) : Int) != (↑(List.length b) : Int) then Lf [DV.one (Cell.lit (Value.bool false))] [DV.one (Cell.lit (Value.bool (decide (a = b))))]
else
  I_EqualFuncTimer_4 a b p ((0 : Int), PUnit.unit) ∧
    ∀ (y : Int × PUnit),
      let x0 : Bool := boolOf (p [{ agg := true, cs := [Cell.lit (Value.int IntKind.i64 (List.getD a (Int.toNat y.1) zTimer).At), Cell.lit (Value.string (List.getD a (Int.toNat y.1) zTimer).F.Kind), Cell.sl Cd.eVal (List.getD a (Int.toNat y.1) zTimer).F.Fields] : DA UU }, { agg := true, cs := [Cell.lit (Value.int IntKind.i64 (List.getD b (Int.toNat y.1) zTimer).At), Cell.lit (Value.string (List.getD b (Int.toNat y.1) zTimer).F.Kind), Cell.sl Cd.eVal (List.getD b (Int.toNat y.1) zTimer).F.Fields] : DA UU }]);
      I_EqualFuncTimer_4 a b p y → bif decide (y.1 < (↑(List.length a) : Int)) then (0 : Int) ≤ y.1 ∧ Int.toNat y.1 < List.length a ∧ (0 : Int) ≤ y.1 ∧ Int.toNat y.1 < List.length b ∧ p [{ agg := true, cs := [Cell.lit (Value.int IntKind.i64 (List.getD a (Int.toNat y.1) zTimer).At), Cell.lit (Value.string (List.getD a (Int.toNat y.1) zTimer).F.Kind), Cell.sl Cd.eVal (List.getD a (Int.toNat y.1) zTimer).F.Fields] : DA UU }, { agg := true, cs := [Cell.lit (Value.int IntKind.i64 (List.getD b (Int.toNat y.1) zTimer).At), Cell.lit (Value.string (List.getD b (Int.toNat y.1) zTimer).F.Kind), Cell.sl Cd.eVal (List.getD b (Int.toNat y.1) zTimer).F.Fields] : DA UU }] = some (Value.bool x0) ∧ bif !x0 then Lf [DV.one (Cell.lit (Value.bool false))] [DV.one (Cell.lit (Value.bool (decide (a = b))))] else I_EqualFuncTimer_4 a b p (IntKind.wrap IntKind.i64 (y.1 + (1 : Int)), PUnit.unit) ∧ μ_EqualFuncTimer_4 a b p (IntKind.wrap IntKind.i64 (y.1 + (1 : Int)), PUnit.unit) < μ_EqualFuncTimer_4 a b p y else Lf [DV.one (Cell.lit (Value.bool true))] [DV.one (Cell.lit (Value.bool (decide (a = b))))]) := by kernel_rfl
theorem ok_EqualFuncTimer : Holds EE (35, con_EqualFuncTimer) := by
  refine holds_of EE_ok Go.Proofs.Tryz.func35 con_EqualFuncTimer (by kernel_rfl) use_EqualFuncTimer all_nil ann_EqualFuncTimer (fun x hp hb => ?_)
  obtain ⟨a, b, p⟩ := x
  have hb_a : BdDV (U := UU) (.one (.sl .eTimer a)) := hb _ (List.mem_cons_self)
  have hl_a : a.length ≤ 9223372036854775807 := Bd.len hb_a
  have hb_b : BdDV (U := UU) (.one (.sl .eTimer b)) := hb _ (List.mem_cons_of_mem _ (List.mem_cons_self))
  have hl_b : b.length ≤ 9223372036854775807 := Bd.len hb_b
  have hp0 : ∀ j : Nat, j < a.length → j < b.length → p [qaTimer (List.getD a j zTimer), qaTimer (List.getD b j zTimer)] = some (.bool (decide (List.getD a j zTimer = List.getD b j zTimer))) := hp _ (List.mem_cons_self)
  clear hp hb
  rw [vc_EqualFuncTimer a b p]
  dsimp only
  refine if_cond (fun h => Lf_f ?_) (fun h => ⟨?_, ?_⟩)
  · rintro rfl; simp at h
  · have h : (a.length : Int) = b.length := by simpa using h
    exact ⟨by omega, by omega, by omega, Iff.rfl⟩
  rintro ⟨i, ⟨⟩⟩ ⟨h1, h2, h3, hR⟩
  simp only at *
  refine if_cond (fun hc => ?_) (fun hc => ?_)
  · have hc : i < a.length := of_decide_eq_true hc
    have hq := hp0 i.toNat (by omega) (by omega)
    rw [drop_step a zTimer h1 hc, drop_step b zTimer h1 (by omega)] at hR
    rw [wrap_i64 (by omega) (by omega)]
    have e1 : boolOf (p [qaTimer (List.getD a i.toNat zTimer), qaTimer (List.getD b i.toNat zTimer)]) = decide (List.getD a i.toNat zTimer = List.getD b i.toNat zTimer) := by rw [hq]; rfl
    have hq2 : p [qaTimer (List.getD a i.toNat zTimer), qaTimer (List.getD b i.toNat zTimer)] = some (.bool (boolOf (p [qaTimer (List.getD a i.toNat zTimer), qaTimer (List.getD b i.toNat zTimer)]))) := by rw [e1]; exact hq
    refine ⟨by omega, by omega, by omega, by omega, hq2, if_cond (fun h => Lf_f ?_) (fun h => ⟨⟨by omega, by omega, h3, ?_⟩, ?_⟩)⟩
    · have h : (!boolOf (p [qaTimer (List.getD a i.toNat zTimer), qaTimer (List.getD b i.toNat zTimer)])) = true := h
      rw [e1] at h; rw [← hR]; simp only [Bool.not_eq_true', decide_eq_false_iff_not] at h; exact fun hh => h (List.cons.inj hh).1
    · have h : (!boolOf (p [qaTimer (List.getD a i.toNat zTimer), qaTimer (List.getD b i.toNat zTimer)])) = false := h
      rw [e1] at h; rw [← hR]; simp only [Bool.not_eq_false', decide_eq_true_eq] at h; rw [h]; simp
    · simp only [μ_EqualFuncTimer_4]; omega
  · have hc : a.length ≤ i := by have := of_decide_eq_false hc; omega
    rw [drop_end a hc, drop_end b (by omega)] at hR
    exact Lf_t (hR.1 rfl)
def qaUndo (x : DUndo) : DA UU := ⟨true, [.lit (.string x.Key), .lit (.string x.F.Kind), .sl .eVal x.F.Fields]⟩
def con_EqualFuncUndo : Con UU where
  α := (List DUndo) × (List DUndo) × (List (DA UU) → Option Value)
  md := [.ro, .ro, .ro]
  of := fun | [.one (.sl .eUndo a0), .one (.sl .eUndo a1), .fn a2] => some (a0, a1, a2) | _ => none
  ds := fun (a, b, p) => [.one (.sl .eUndo a), .one (.sl .eUndo b), .fn p]
  pre := fun (a, b, p) => [∀ j : Nat, j < a.length → j < b.length → p [qaUndo (List.getD a j zUndo), qaUndo (List.getD b j zUndo)] = some (.bool (decide (List.getD a j zUndo = List.getD b j zUndo)))]
  res := fun (a, b, p) => ⟨[.one (.lit (.bool (decide (a = b))))], true, []⟩
  law := by intro l x h; (try simp only at h); split at h <;> cases h; rfl
def I_EqualFuncUndo_4 (a : (List DUndo)) (b : (List DUndo)) (p : (List (DA UU) → Option Value)) : Int × Unit → Prop := fun (i, _) => 0 ≤ i ∧ i ≤ a.length ∧ a.length = b.length ∧ (a.drop i.toNat = b.drop i.toNat ↔ a = b)
def μ_EqualFuncUndo_4 (a : (List DUndo)) (b : (List DUndo)) (p : (List (DA UU) → Option Value)) : Int × Unit → Nat := fun (i, _) => a.length - i.toNat
def ann_EqualFuncUndo : con_EqualFuncUndo.α → Nat → Option (Ann UU) := fun (a, b, p) => annL [(4, annOf [.slot 17 (17, 1024) (.lit (.int .i64))] (fun _ => I_EqualFuncUndo_4 a b p) (μ_EqualFuncUndo_4 a b p))]
def use_EqualFuncUndo : List (FuncId × Con UU) := []
theorem vc_EqualFuncUndo (a : (List DUndo)) (b : (List DUndo)) (p : (List (DA UU) → Option Value)) : goal EE use_EqualFuncUndo Go.Proofs.Tryz.f38 con_EqualFuncUndo ann_EqualFuncUndo (a, b, p) = (bif (↑(List.length a) : Int) != (↑(List.length b) : Int) then Lf [DV.one (Cell.lit (Value.bool false))] [DV.one (Cell.lit (Value.bool (decide (a = b))))]
else
  I_EqualFuncUndo_4 a b p ((0 : Int), PUnit.unit) ∧
    ∀ (y : Int × PUnit),
      let x0 : Bool := boolOf (p [{ agg := true, cs := [Cell.lit (Value.string (List.getD a (Int.toNat y.1) zUndo).Key), Cell.lit (Value.string (List.getD a (Int.toNat y.1) zUndo).F.Kind), Cell.sl Cd.eVal (List.getD a (Int.toNat y.1) zUndo).F.Fields] : DA UU }, { agg := true, cs := [Cell.lit (Value.string (List.getD b (Int.toNat y.1) zUndo).Key), Cell.lit (Value.string (List.getD b (Int.toNat y.1) zUndo).F.Kind), Cell.sl Cd.eVal (List.getD b (Int.toNat y.1) zUndo).F.Fields] : DA UU }]);
      I_EqualFuncUndo_4 a b p y → bif decide (y.1 < (↑(List.length a) : Int)) then (0 : Int) ≤ y.1 ∧ Int.toNat y.1 < List.length a ∧ (0 : Int) ≤ y.1 ∧ Int.toNat y.1 < List.length b ∧ p [{ agg := true, cs := [Cell.lit (Value.string (List.getD a (Int.toNat y.1) zUndo).Key), Cell.lit (Value.string (List.getD a (Int.toNat y.1) zUndo).F.Kind), Cell.sl Cd.eVal (List.getD a (Int.toNat y.1) zUndo).F.Fields] : DA UU }, { agg := true, cs := [Cell.lit (Value.string (List.getD b (Int.toNat y.1) zUndo).Key), Cell.lit (Value.string (List.getD b (Int.toNat y.1) zUndo).F.Kind), Cell.sl Cd.eVal (List.getD b (Int.toNat y.1) zUndo).F.Fields] : DA UU }] = some (Value.bool x0) ∧ bif !x0 then Lf [DV.one (Cell.lit (Value.bool false))] [DV.one (Cell.lit (Value.bool (decide (a = b))))] else I_EqualFuncUndo_4 a b p (IntKind.wrap IntKind.i64 (y.1 + (1 : Int)), PUnit.unit) ∧ μ_EqualFuncUndo_4 a b p (IntKind.wrap IntKind.i64 (y.1 + (1 : Int)), PUnit.unit) < μ_EqualFuncUndo_4 a b p y else Lf [DV.one (Cell.lit (Value.bool true))] [DV.one (Cell.lit (Value.bool (decide (a = b))))]) := by kernel_rfl
theorem ok_EqualFuncUndo : Holds EE (38, con_EqualFuncUndo) := by
  refine holds_of EE_ok Go.Proofs.Tryz.func38 con_EqualFuncUndo (by kernel_rfl) use_EqualFuncUndo all_nil ann_EqualFuncUndo (fun x hp hb => ?_)
  obtain ⟨a, b, p⟩ := x
  have hb_a : BdDV (U := UU) (.one (.sl .eUndo a)) := hb _ (List.mem_cons_self)
  have hl_a : a.length ≤ 9223372036854775807 := Bd.len hb_a
  have hb_b : BdDV (U := UU) (.one (.sl .eUndo b)) := hb _ (List.mem_cons_of_mem _ (List.mem_cons_self))
  have hl_b : b.length ≤ 9223372036854775807 := Bd.len hb_b
  have hp0 : ∀ j : Nat, j < a.length → j < b.length → p [qaUndo (List.getD a j zUndo), qaUndo (List.getD b j zUndo)] = some (.bool (decide (List.getD a j zUndo = List.getD b j zUndo))) := hp _ (List.mem_cons_self)
  clear hp hb
  rw [vc_EqualFuncUndo a b p]
  dsimp only
  refine if_cond (fun h => Lf_f ?_) (fun h => ⟨?_, ?_⟩)
  · rintro rfl; simp at h
  · have h : (a.length : Int) = b.length := by simpa using h
    exact ⟨by omega, by omega, by omega, Iff.rfl⟩
  rintro ⟨i, ⟨⟩⟩ ⟨h1, h2, h3, hR⟩
  simp only at *
  refine if_cond (fun hc => ?_) (fun hc => ?_)
  · have hc : i < a.length := of_decide_eq_true hc
    have hq := hp0 i.toNat (by omega) (by omega)
    rw [drop_step a zUndo h1 hc, drop_step b zUndo h1 (by omega)] at hR
    rw [wrap_i64 (by omega) (by omega)]
    have e1 : boolOf (p [qaUndo (List.getD a i.toNat zUndo), qaUndo (List.getD b i.toNat zUndo)]) = decide (List.getD a i.toNat zUndo = List.getD b i.toNat zUndo) := by rw [hq]; rfl
    have hq2 : p [qaUndo (List.getD a i.toNat zUndo), qaUndo (List.getD b i.toNat zUndo)] = some (.bool (boolOf (p [qaUndo (List.getD a i.toNat zUndo), qaUndo (List.getD b i.toNat zUndo)]))) := by rw [e1]; exact hq
    refine ⟨by omega, by omega, by omega, by omega, hq2, if_cond (fun h => Lf_f ?_) (fun h => ⟨⟨by omega, by omega, h3, ?_⟩, ?_⟩)⟩
    · have h : (!boolOf (p [qaUndo (List.getD a i.toNat zUndo), qaUndo (List.getD b i.toNat zUndo)])) = true := h
      rw [e1] at h; rw [← hR]; simp only [Bool.not_eq_true', decide_eq_false_iff_not] at h; exact fun hh => h (List.cons.inj hh).1
    · have h : (!boolOf (p [qaUndo (List.getD a i.toNat zUndo), qaUndo (List.getD b i.toNat zUndo)])) = false := h
      rw [e1] at h; rw [← hR]; simp only [Bool.not_eq_false', decide_eq_true_eq] at h; rw [h]; simp
    · simp only [μ_EqualFuncUndo_4]; omega
  · have hc : a.length ≤ i := by have := of_decide_eq_false hc; omega
    rw [drop_end a hc, drop_end b (by omega)] at hR
    exact Lf_t (hR.1 rfl)
def qaTask (x : DTask) : DA UU := ⟨true, [.lit (.string x.F.Kind), .sl .eVal x.F.Fields, .lit (.string x.Undo), .lit (.int .i64 x.State), .lit (.int .i64 x.Tries), .lit (.int .i64 x.Due), .lit (.int .i64 x.V.K), .lit (.int .i64 x.V.N), .lit (.string x.V.S)]⟩
def con_EqualFuncTask : Con UU where
  α := (List DTask) × (List DTask) × (List (DA UU) → Option Value)
  md := [.ro, .ro, .ro]
  of := fun | [.one (.sl .eTask a0), .one (.sl .eTask a1), .fn a2] => some (a0, a1, a2) | _ => none
  ds := fun (a, b, p) => [.one (.sl .eTask a), .one (.sl .eTask b), .fn p]
  pre := fun (a, b, p) => [∀ j : Nat, j < a.length → j < b.length → p [qaTask (List.getD a j zTask), qaTask (List.getD b j zTask)] = some (.bool (decide (List.getD a j zTask = List.getD b j zTask)))]
  res := fun (a, b, p) => ⟨[.one (.lit (.bool (decide (a = b))))], true, []⟩
  law := by intro l x h; (try simp only at h); split at h <;> cases h; rfl
def I_EqualFuncTask_4 (a : (List DTask)) (b : (List DTask)) (p : (List (DA UU) → Option Value)) : Int × Unit → Prop := fun (i, _) => 0 ≤ i ∧ i ≤ a.length ∧ a.length = b.length ∧ (a.drop i.toNat = b.drop i.toNat ↔ a = b)
def μ_EqualFuncTask_4 (a : (List DTask)) (b : (List DTask)) (p : (List (DA UU) → Option Value)) : Int × Unit → Nat := fun (i, _) => a.length - i.toNat
def ann_EqualFuncTask : con_EqualFuncTask.α → Nat → Option (Ann UU) := fun (a, b, p) => annL [(4, annOf [.slot 17 (17, 1024) (.lit (.int .i64))] (fun _ => I_EqualFuncTask_4 a b p) (μ_EqualFuncTask_4 a b p))]
def use_EqualFuncTask : List (FuncId × Con UU) := []
theorem vc_EqualFuncTask (a : (List DTask)) (b : (List DTask)) (p : (List (DA UU) → Option Value)) : goal EE use_EqualFuncTask Go.Proofs.Tryz.f41 con_EqualFuncTask ann_EqualFuncTask (a, b, p) = (bif (↑(List.length a) : Int) != (↑(List.length b) : Int) then Lf [DV.one (Cell.lit (Value.bool false))] [DV.one (Cell.lit (Value.bool (decide (a = b))))]
else
  I_EqualFuncTask_4 a b p ((0 : Int), PUnit.unit) ∧
    ∀ (y : Int × PUnit),
      let x0 : Bool := boolOf (p [{ agg := true, cs := [Cell.lit (Value.string (List.getD a (Int.toNat y.1) zTask).F.Kind), Cell.sl Cd.eVal (List.getD a (Int.toNat y.1) zTask).F.Fields, Cell.lit (Value.string (List.getD a (Int.toNat y.1) zTask).Undo), Cell.lit (Value.int IntKind.i64 (List.getD a (Int.toNat y.1) zTask).State), Cell.lit (Value.int IntKind.i64 (List.getD a (Int.toNat y.1) zTask).Tries), Cell.lit (Value.int IntKind.i64 (List.getD a (Int.toNat y.1) zTask).Due), Cell.lit (Value.int IntKind.i64 (List.getD a (Int.toNat y.1) zTask).V.K), Cell.lit (Value.int IntKind.i64 (List.getD a (Int.toNat y.1) zTask).V.N), Cell.lit (Value.string (List.getD a (Int.toNat y.1) zTask).V.S)] : DA UU }, { agg := true, cs := [Cell.lit (Value.string (List.getD b (Int.toNat y.1) zTask).F.Kind), Cell.sl Cd.eVal (List.getD b (Int.toNat y.1) zTask).F.Fields, Cell.lit (Value.string (List.getD b (Int.toNat y.1) zTask).Undo), Cell.lit (Value.int IntKind.i64 (List.getD b (Int.toNat y.1) zTask).State), Cell.lit (Value.int IntKind.i64 (List.getD b (Int.toNat y.1) zTask).Tries), Cell.lit (Value.int IntKind.i64 (List.getD b (Int.toNat y.1) zTask).Due), Cell.lit (Value.int IntKind.i64 (List.getD b (Int.toNat y.1) zTask).V.K), Cell.lit (Value.int IntKind.i64 (List.getD b (Int.toNat y.1) zTask).V.N), Cell.lit (Value.string (List.getD b (Int.toNat y.1) zTask).V.S)] : DA UU }]);
      let x1 : DTask := List.getD a (Int.toNat y.1) zTask;
      let x2 : DTask := List.getD b (Int.toNat y.1) zTask;
      I_EqualFuncTask_4 a b p y → bif decide (y.1 < (↑(List.length a) : Int)) then (0 : Int) ≤ y.1 ∧ Int.toNat y.1 < List.length a ∧ (0 : Int) ≤ y.1 ∧ Int.toNat y.1 < List.length b ∧ p [{ agg := true, cs := [Cell.lit (Value.string x1.F.Kind), Cell.sl Cd.eVal x1.F.Fields, Cell.lit (Value.string x1.Undo), Cell.lit (Value.int IntKind.i64 x1.State), Cell.lit (Value.int IntKind.i64 x1.Tries), Cell.lit (Value.int IntKind.i64 x1.Due), Cell.lit (Value.int IntKind.i64 x1.V.K), Cell.lit (Value.int IntKind.i64 x1.V.N), Cell.lit (Value.string x1.V.S)] : DA UU }, { agg := true, cs := [Cell.lit (Value.string x2.F.Kind), Cell.sl Cd.eVal x2.F.Fields, Cell.lit (Value.string x2.Undo), Cell.lit (Value.int IntKind.i64 x2.State), Cell.lit (Value.int IntKind.i64 x2.Tries), Cell.lit (Value.int IntKind.i64 x2.Due), Cell.lit (Value.int IntKind.i64 x2.V.K), Cell.lit (Value.int IntKind.i64 x2.V.N), Cell.lit (Value.string x2.V.S)] : DA UU }] = some (Value.bool x0) ∧ bif !x0 then Lf [DV.one (Cell.lit (Value.bool false))] [DV.one (Cell.lit (Value.bool (decide (a = b))))] else I_EqualFuncTask_4 a b p (IntKind.wrap IntKind.i64 (y.1 + (1 : Int)), PUnit.unit) ∧ μ_EqualFuncTask_4 a b p (IntKind.wrap IntKind.i64 (y.1 + (1 : Int)), PUnit.unit) < μ_EqualFuncTask_4 a b p y else Lf [DV.one (Cell.lit (Value.bool true))] [DV.one (Cell.lit (Value.bool (decide (a = b))))]) := by kernel_rfl
theorem ok_EqualFuncTask : Holds EE (41, con_EqualFuncTask) := by
  refine holds_of EE_ok Go.Proofs.Tryz.func41 con_EqualFuncTask (by kernel_rfl) use_EqualFuncTask all_nil ann_EqualFuncTask (fun x hp hb => ?_)
  obtain ⟨a, b, p⟩ := x
  have hb_a : BdDV (U := UU) (.one (.sl .eTask a)) := hb _ (List.mem_cons_self)
  have hl_a : a.length ≤ 9223372036854775807 := Bd.len hb_a
  have hb_b : BdDV (U := UU) (.one (.sl .eTask b)) := hb _ (List.mem_cons_of_mem _ (List.mem_cons_self))
  have hl_b : b.length ≤ 9223372036854775807 := Bd.len hb_b
  have hp0 : ∀ j : Nat, j < a.length → j < b.length → p [qaTask (List.getD a j zTask), qaTask (List.getD b j zTask)] = some (.bool (decide (List.getD a j zTask = List.getD b j zTask))) := hp _ (List.mem_cons_self)
  clear hp hb
  rw [vc_EqualFuncTask a b p]
  dsimp only
  refine if_cond (fun h => Lf_f ?_) (fun h => ⟨?_, ?_⟩)
  · rintro rfl; simp at h
  · have h : (a.length : Int) = b.length := by simpa using h
    exact ⟨by omega, by omega, by omega, Iff.rfl⟩
  rintro ⟨i, ⟨⟩⟩ ⟨h1, h2, h3, hR⟩
  simp only at *
  refine if_cond (fun hc => ?_) (fun hc => ?_)
  · have hc : i < a.length := of_decide_eq_true hc
    have hq := hp0 i.toNat (by omega) (by omega)
    rw [drop_step a zTask h1 hc, drop_step b zTask h1 (by omega)] at hR
    rw [wrap_i64 (by omega) (by omega)]
    have e1 : boolOf (p [qaTask (List.getD a i.toNat zTask), qaTask (List.getD b i.toNat zTask)]) = decide (List.getD a i.toNat zTask = List.getD b i.toNat zTask) := by rw [hq]; rfl
    have hq2 : p [qaTask (List.getD a i.toNat zTask), qaTask (List.getD b i.toNat zTask)] = some (.bool (boolOf (p [qaTask (List.getD a i.toNat zTask), qaTask (List.getD b i.toNat zTask)]))) := by rw [e1]; exact hq
    refine ⟨by omega, by omega, by omega, by omega, hq2, if_cond (fun h => Lf_f ?_) (fun h => ⟨⟨by omega, by omega, h3, ?_⟩, ?_⟩)⟩
    · have h : (!boolOf (p [qaTask (List.getD a i.toNat zTask), qaTask (List.getD b i.toNat zTask)])) = true := h
      rw [e1] at h; rw [← hR]; simp only [Bool.not_eq_true', decide_eq_false_iff_not] at h; exact fun hh => h (List.cons.inj hh).1
    · have h : (!boolOf (p [qaTask (List.getD a i.toNat zTask), qaTask (List.getD b i.toNat zTask)])) = false := h
      rw [e1] at h; rw [← hR]; simp only [Bool.not_eq_false', decide_eq_true_eq] at h; rw [h]; simp
    · simp only [μ_EqualFuncTask_4]; omega
  · have hc : a.length ≤ i := by have := of_decide_eq_false hc; omega
    rw [drop_end a hc, drop_end b (by omega)] at hR
    exact Lf_t (hR.1 rfl)
def qaMatch (x : DMatch) : DA UU := ⟨true, [.lit (.int .i64 x.Rule), .sl .int x.Ids, .sl .eBind x.Binds]⟩
def con_EqualFuncMatch : Con UU where
  α := (List DMatch) × (List DMatch) × (List (DA UU) → Option Value)
  md := [.ro, .ro, .ro]
  of := fun | [.one (.sl .eMatch a0), .one (.sl .eMatch a1), .fn a2] => some (a0, a1, a2) | _ => none
  ds := fun (a, b, p) => [.one (.sl .eMatch a), .one (.sl .eMatch b), .fn p]
  pre := fun (a, b, p) => [∀ j : Nat, j < a.length → j < b.length → p [qaMatch (List.getD a j zMatch), qaMatch (List.getD b j zMatch)] = some (.bool (decide (List.getD a j zMatch = List.getD b j zMatch)))]
  res := fun (a, b, p) => ⟨[.one (.lit (.bool (decide (a = b))))], true, []⟩
  law := by intro l x h; (try simp only at h); split at h <;> cases h; rfl
def I_EqualFuncMatch_4 (a : (List DMatch)) (b : (List DMatch)) (p : (List (DA UU) → Option Value)) : Int × Unit → Prop := fun (i, _) => 0 ≤ i ∧ i ≤ a.length ∧ a.length = b.length ∧ (a.drop i.toNat = b.drop i.toNat ↔ a = b)
def μ_EqualFuncMatch_4 (a : (List DMatch)) (b : (List DMatch)) (p : (List (DA UU) → Option Value)) : Int × Unit → Nat := fun (i, _) => a.length - i.toNat
def ann_EqualFuncMatch : con_EqualFuncMatch.α → Nat → Option (Ann UU) := fun (a, b, p) => annL [(4, annOf [.slot 17 (17, 1024) (.lit (.int .i64))] (fun _ => I_EqualFuncMatch_4 a b p) (μ_EqualFuncMatch_4 a b p))]
def use_EqualFuncMatch : List (FuncId × Con UU) := []
theorem vc_EqualFuncMatch (a : (List DMatch)) (b : (List DMatch)) (p : (List (DA UU) → Option Value)) : goal EE use_EqualFuncMatch Go.Proofs.Tryz.f59 con_EqualFuncMatch ann_EqualFuncMatch (a, b, p) = (bif (↑(List.length a) : Int) != (↑(List.length b) : Int) then Lf [DV.one (Cell.lit (Value.bool false))] [DV.one (Cell.lit (Value.bool (decide (a = b))))]
else
  I_EqualFuncMatch_4 a b p ((0 : Int), PUnit.unit) ∧
    ∀ (y : Int × PUnit),
      let x0 : Bool := boolOf (p [{ agg := true, cs := [Cell.lit (Value.int IntKind.i64 (List.getD a (Int.toNat y.1) zMatch).Rule), Cell.sl Cd.int (List.getD a (Int.toNat y.1) zMatch).Ids, Cell.sl Cd.eBind (List.getD a (Int.toNat y.1) zMatch).Binds] : DA UU }, { agg := true, cs := [Cell.lit (Value.int IntKind.i64 (List.getD b (Int.toNat y.1) zMatch).Rule), Cell.sl Cd.int (List.getD b (Int.toNat y.1) zMatch).Ids, Cell.sl Cd.eBind (List.getD b (Int.toNat y.1) zMatch).Binds] : DA UU }]);
      let x1 : DMatch := List.getD a (Int.toNat y.1) zMatch;
      let x2 : DMatch := List.getD b (Int.toNat y.1) zMatch;
      I_EqualFuncMatch_4 a b p y → bif decide (y.1 < (↑(List.length a) : Int)) then (0 : Int) ≤ y.1 ∧ Int.toNat y.1 < List.length a ∧ (0 : Int) ≤ y.1 ∧ Int.toNat y.1 < List.length b ∧ p [{ agg := true, cs := [Cell.lit (Value.int IntKind.i64 x1.Rule), Cell.sl Cd.int x1.Ids, Cell.sl Cd.eBind x1.Binds] : DA UU }, { agg := true, cs := [Cell.lit (Value.int IntKind.i64 x2.Rule), Cell.sl Cd.int x2.Ids, Cell.sl Cd.eBind x2.Binds] : DA UU }] = some (Value.bool x0) ∧ bif !x0 then Lf [DV.one (Cell.lit (Value.bool false))] [DV.one (Cell.lit (Value.bool (decide (a = b))))] else I_EqualFuncMatch_4 a b p (IntKind.wrap IntKind.i64 (y.1 + (1 : Int)), PUnit.unit) ∧ μ_EqualFuncMatch_4 a b p (IntKind.wrap IntKind.i64 (y.1 + (1 : Int)), PUnit.unit) < μ_EqualFuncMatch_4 a b p y else Lf [DV.one (Cell.lit (Value.bool true))] [DV.one (Cell.lit (Value.bool (decide (a = b))))]) := by kernel_rfl
theorem ok_EqualFuncMatch : Holds EE (59, con_EqualFuncMatch) := by
  refine holds_of EE_ok Go.Proofs.Tryz.func59 con_EqualFuncMatch (by kernel_rfl) use_EqualFuncMatch all_nil ann_EqualFuncMatch (fun x hp hb => ?_)
  obtain ⟨a, b, p⟩ := x
  have hb_a : BdDV (U := UU) (.one (.sl .eMatch a)) := hb _ (List.mem_cons_self)
  have hl_a : a.length ≤ 9223372036854775807 := Bd.len hb_a
  have hb_b : BdDV (U := UU) (.one (.sl .eMatch b)) := hb _ (List.mem_cons_of_mem _ (List.mem_cons_self))
  have hl_b : b.length ≤ 9223372036854775807 := Bd.len hb_b
  have hp0 : ∀ j : Nat, j < a.length → j < b.length → p [qaMatch (List.getD a j zMatch), qaMatch (List.getD b j zMatch)] = some (.bool (decide (List.getD a j zMatch = List.getD b j zMatch))) := hp _ (List.mem_cons_self)
  clear hp hb
  rw [vc_EqualFuncMatch a b p]
  dsimp only
  refine if_cond (fun h => Lf_f ?_) (fun h => ⟨?_, ?_⟩)
  · rintro rfl; simp at h
  · have h : (a.length : Int) = b.length := by simpa using h
    exact ⟨by omega, by omega, by omega, Iff.rfl⟩
  rintro ⟨i, ⟨⟩⟩ ⟨h1, h2, h3, hR⟩
  simp only at *
  refine if_cond (fun hc => ?_) (fun hc => ?_)
  · have hc : i < a.length := of_decide_eq_true hc
    have hq := hp0 i.toNat (by omega) (by omega)
    rw [drop_step a zMatch h1 hc, drop_step b zMatch h1 (by omega)] at hR
    rw [wrap_i64 (by omega) (by omega)]
    have e1 : boolOf (p [qaMatch (List.getD a i.toNat zMatch), qaMatch (List.getD b i.toNat zMatch)]) = decide (List.getD a i.toNat zMatch = List.getD b i.toNat zMatch) := by rw [hq]; rfl
    have hq2 : p [qaMatch (List.getD a i.toNat zMatch), qaMatch (List.getD b i.toNat zMatch)] = some (.bool (boolOf (p [qaMatch (List.getD a i.toNat zMatch), qaMatch (List.getD b i.toNat zMatch)]))) := by rw [e1]; exact hq
    refine ⟨by omega, by omega, by omega, by omega, hq2, if_cond (fun h => Lf_f ?_) (fun h => ⟨⟨by omega, by omega, h3, ?_⟩, ?_⟩)⟩
    · have h : (!boolOf (p [qaMatch (List.getD a i.toNat zMatch), qaMatch (List.getD b i.toNat zMatch)])) = true := h
      rw [e1] at h; rw [← hR]; simp only [Bool.not_eq_true', decide_eq_false_iff_not] at h; exact fun hh => h (List.cons.inj hh).1
    · have h : (!boolOf (p [qaMatch (List.getD a i.toNat zMatch), qaMatch (List.getD b i.toNat zMatch)])) = false := h
      rw [e1] at h; rw [← hR]; simp only [Bool.not_eq_false', decide_eq_true_eq] at h; rw [h]; simp
    · simp only [μ_EqualFuncMatch_4]; omega
  · have hc : a.length ≤ i := by have := of_decide_eq_false hc; omega
    rw [drop_end a hc, drop_end b (by omega)] at hR
    exact Lf_t (hR.1 rfl)
def qaDef (x : DDef) : DA UU := ⟨true, [.lit (.string x.Name), .sl .eRule x.Rules]⟩
def con_EqualFuncDef : Con UU where
  α := (List DDef) × (List DDef) × (List (DA UU) → Option Value)
  md := [.ro, .ro, .ro]
  of := fun | [.one (.sl .eDef a0), .one (.sl .eDef a1), .fn a2] => some (a0, a1, a2) | _ => none
  ds := fun (a, b, p) => [.one (.sl .eDef a), .one (.sl .eDef b), .fn p]
  pre := fun (a, b, p) => [∀ j : Nat, j < a.length → j < b.length → p [qaDef (List.getD a j zDef), qaDef (List.getD b j zDef)] = some (.bool (decide (List.getD a j zDef = List.getD b j zDef)))]
  res := fun (a, b, p) => ⟨[.one (.lit (.bool (decide (a = b))))], true, []⟩
  law := by intro l x h; (try simp only at h); split at h <;> cases h; rfl
def I_EqualFuncDef_4 (a : (List DDef)) (b : (List DDef)) (p : (List (DA UU) → Option Value)) : Int × Unit → Prop := fun (i, _) => 0 ≤ i ∧ i ≤ a.length ∧ a.length = b.length ∧ (a.drop i.toNat = b.drop i.toNat ↔ a = b)
def μ_EqualFuncDef_4 (a : (List DDef)) (b : (List DDef)) (p : (List (DA UU) → Option Value)) : Int × Unit → Nat := fun (i, _) => a.length - i.toNat
def ann_EqualFuncDef : con_EqualFuncDef.α → Nat → Option (Ann UU) := fun (a, b, p) => annL [(4, annOf [.slot 17 (17, 1024) (.lit (.int .i64))] (fun _ => I_EqualFuncDef_4 a b p) (μ_EqualFuncDef_4 a b p))]
def use_EqualFuncDef : List (FuncId × Con UU) := []
theorem vc_EqualFuncDef (a : (List DDef)) (b : (List DDef)) (p : (List (DA UU) → Option Value)) : goal EE use_EqualFuncDef Go.Proofs.Tryz.f15 con_EqualFuncDef ann_EqualFuncDef (a, b, p) = (bif (↑(List.length a) : Int) != (↑(List.length b) : Int) then Lf [DV.one (Cell.lit (Value.bool false))] [DV.one (Cell.lit (Value.bool (decide (a = b))))]
else
  I_EqualFuncDef_4 a b p ((0 : Int), PUnit.unit) ∧
    ∀ (y : Int × PUnit),
      let x0 : Bool := boolOf (p [{ agg := true, cs := [Cell.lit (Value.string (List.getD a (Int.toNat y.1) zDef).Name), Cell.sl Cd.eRule (List.getD a (Int.toNat y.1) zDef).Rules] : DA UU }, { agg := true, cs := [Cell.lit (Value.string (List.getD b (Int.toNat y.1) zDef).Name), Cell.sl Cd.eRule (List.getD b (Int.toNat y.1) zDef).Rules] : DA UU }]);
      I_EqualFuncDef_4 a b p y → bif decide (y.1 < (↑(List.length a) : Int)) then (0 : Int) ≤ y.1 ∧ Int.toNat y.1 < List.length a ∧ (0 : Int) ≤ y.1 ∧ Int.toNat y.1 < List.length b ∧ p [{ agg := true, cs := [Cell.lit (Value.string (List.getD a (Int.toNat y.1) zDef).Name), Cell.sl Cd.eRule (List.getD a (Int.toNat y.1) zDef).Rules] : DA UU }, { agg := true, cs := [Cell.lit (Value.string (List.getD b (Int.toNat y.1) zDef).Name), Cell.sl Cd.eRule (List.getD b (Int.toNat y.1) zDef).Rules] : DA UU }] = some (Value.bool x0) ∧ bif !x0 then Lf [DV.one (Cell.lit (Value.bool false))] [DV.one (Cell.lit (Value.bool (decide (a = b))))] else I_EqualFuncDef_4 a b p (IntKind.wrap IntKind.i64 (y.1 + (1 : Int)), PUnit.unit) ∧ μ_EqualFuncDef_4 a b p (IntKind.wrap IntKind.i64 (y.1 + (1 : Int)), PUnit.unit) < μ_EqualFuncDef_4 a b p y else Lf [DV.one (Cell.lit (Value.bool true))] [DV.one (Cell.lit (Value.bool (decide (a = b))))]) := by kernel_rfl
theorem ok_EqualFuncDef : Holds EE (15, con_EqualFuncDef) := by
  refine holds_of EE_ok Go.Proofs.Tryz.func15 con_EqualFuncDef (by kernel_rfl) use_EqualFuncDef all_nil ann_EqualFuncDef (fun x hp hb => ?_)
  obtain ⟨a, b, p⟩ := x
  have hb_a : BdDV (U := UU) (.one (.sl .eDef a)) := hb _ (List.mem_cons_self)
  have hl_a : a.length ≤ 9223372036854775807 := Bd.len hb_a
  have hb_b : BdDV (U := UU) (.one (.sl .eDef b)) := hb _ (List.mem_cons_of_mem _ (List.mem_cons_self))
  have hl_b : b.length ≤ 9223372036854775807 := Bd.len hb_b
  have hp0 : ∀ j : Nat, j < a.length → j < b.length → p [qaDef (List.getD a j zDef), qaDef (List.getD b j zDef)] = some (.bool (decide (List.getD a j zDef = List.getD b j zDef))) := hp _ (List.mem_cons_self)
  clear hp hb
  rw [vc_EqualFuncDef a b p]
  dsimp only
  refine if_cond (fun h => Lf_f ?_) (fun h => ⟨?_, ?_⟩)
  · rintro rfl; simp at h
  · have h : (a.length : Int) = b.length := by simpa using h
    exact ⟨by omega, by omega, by omega, Iff.rfl⟩
  rintro ⟨i, ⟨⟩⟩ ⟨h1, h2, h3, hR⟩
  simp only at *
  refine if_cond (fun hc => ?_) (fun hc => ?_)
  · have hc : i < a.length := of_decide_eq_true hc
    have hq := hp0 i.toNat (by omega) (by omega)
    rw [drop_step a zDef h1 hc, drop_step b zDef h1 (by omega)] at hR
    rw [wrap_i64 (by omega) (by omega)]
    have e1 : boolOf (p [qaDef (List.getD a i.toNat zDef), qaDef (List.getD b i.toNat zDef)]) = decide (List.getD a i.toNat zDef = List.getD b i.toNat zDef) := by rw [hq]; rfl
    have hq2 : p [qaDef (List.getD a i.toNat zDef), qaDef (List.getD b i.toNat zDef)] = some (.bool (boolOf (p [qaDef (List.getD a i.toNat zDef), qaDef (List.getD b i.toNat zDef)]))) := by rw [e1]; exact hq
    refine ⟨by omega, by omega, by omega, by omega, hq2, if_cond (fun h => Lf_f ?_) (fun h => ⟨⟨by omega, by omega, h3, ?_⟩, ?_⟩)⟩
    · have h : (!boolOf (p [qaDef (List.getD a i.toNat zDef), qaDef (List.getD b i.toNat zDef)])) = true := h
      rw [e1] at h; rw [← hR]; simp only [Bool.not_eq_true', decide_eq_false_iff_not] at h; exact fun hh => h (List.cons.inj hh).1
    · have h : (!boolOf (p [qaDef (List.getD a i.toNat zDef), qaDef (List.getD b i.toNat zDef)])) = false := h
      rw [e1] at h; rw [← hR]; simp only [Bool.not_eq_false', decide_eq_true_eq] at h; rw [h]; simp
    · simp only [μ_EqualFuncDef_4]; omega
  · have hc : a.length ≤ i := by have := of_decide_eq_false hc; omega
    rw [drop_end a hc, drop_end b (by omega)] at hR
    exact Lf_t (hR.1 rfl)
def qaWork (x : DWork) : DA UU := ⟨true, [.lit (.string x.Name), .lit (.string x.Def), .sl .eItem x.X.S.Items, .lit (.int .i64 x.X.S.Next), .sl .eMatch x.X.Fired, .sl .eTask x.X.Tasks, .sl .eTimer x.X.Timers, .sl .eUndo x.X.Undos, .lit (.int .i64 x.X.State), .lit (.int .i64 x.X.Now)]⟩
def con_EqualFuncWork : Con UU where
  α := (List DWork) × (List DWork) × (List (DA UU) → Option Value)
  md := [.ro, .ro, .ro]
  of := fun | [.one (.sl .eWork a0), .one (.sl .eWork a1), .fn a2] => some (a0, a1, a2) | _ => none
  ds := fun (a, b, p) => [.one (.sl .eWork a), .one (.sl .eWork b), .fn p]
  pre := fun (a, b, p) => [∀ j : Nat, j < a.length → j < b.length → p [qaWork (List.getD a j zWork), qaWork (List.getD b j zWork)] = some (.bool (decide (List.getD a j zWork = List.getD b j zWork)))]
  res := fun (a, b, p) => ⟨[.one (.lit (.bool (decide (a = b))))], true, []⟩
  law := by intro l x h; (try simp only at h); split at h <;> cases h; rfl
def I_EqualFuncWork_4 (a : (List DWork)) (b : (List DWork)) (p : (List (DA UU) → Option Value)) : Int × Unit → Prop := fun (i, _) => 0 ≤ i ∧ i ≤ a.length ∧ a.length = b.length ∧ (a.drop i.toNat = b.drop i.toNat ↔ a = b)
def μ_EqualFuncWork_4 (a : (List DWork)) (b : (List DWork)) (p : (List (DA UU) → Option Value)) : Int × Unit → Nat := fun (i, _) => a.length - i.toNat
def ann_EqualFuncWork : con_EqualFuncWork.α → Nat → Option (Ann UU) := fun (a, b, p) => annL [(4, annOf [.slot 17 (17, 1024) (.lit (.int .i64))] (fun _ => I_EqualFuncWork_4 a b p) (μ_EqualFuncWork_4 a b p))]
def use_EqualFuncWork : List (FuncId × Con UU) := []
theorem vc_EqualFuncWork (a : (List DWork)) (b : (List DWork)) (p : (List (DA UU) → Option Value)) : goal EE use_EqualFuncWork Go.Proofs.Tryz.f17 con_EqualFuncWork ann_EqualFuncWork (a, b, p) = (bif (↑(List.length a) : Int) != (↑(List.length b) : Int) then Lf [DV.one (Cell.lit (Value.bool false))] [DV.one (Cell.lit (Value.bool (decide (a = b))))]
else
  I_EqualFuncWork_4 a b p ((0 : Int), PUnit.unit) ∧
    ∀ (y : Int × PUnit),
      let x0 : Bool := boolOf (p [{ agg := true, cs := [Cell.lit (Value.string (List.getD a (Int.toNat y.1) zWork).Name), Cell.lit (Value.string (List.getD a (Int.toNat y.1) zWork).Def), Cell.sl Cd.eItem (List.getD a (Int.toNat y.1) zWork).X.S.Items, Cell.lit (Value.int IntKind.i64 (List.getD a (Int.toNat y.1) zWork).X.S.Next), Cell.sl Cd.eMatch (List.getD a (Int.toNat y.1) zWork).X.Fired, Cell.sl Cd.eTask (List.getD a (Int.toNat y.1) zWork).X.Tasks, Cell.sl Cd.eTimer (List.getD a (Int.toNat y.1) zWork).X.Timers, Cell.sl Cd.eUndo (List.getD a (Int.toNat y.1) zWork).X.Undos, Cell.lit (Value.int IntKind.i64 (List.getD a (Int.toNat y.1) zWork).X.State), Cell.lit (Value.int IntKind.i64 (List.getD a (Int.toNat y.1) zWork).X.Now)] : DA UU }, { agg := true, cs := [Cell.lit (Value.string (List.getD b (Int.toNat y.1) zWork).Name), Cell.lit (Value.string (List.getD b (Int.toNat y.1) zWork).Def), Cell.sl Cd.eItem (List.getD b (Int.toNat y.1) zWork).X.S.Items, Cell.lit (Value.int IntKind.i64 (List.getD b (Int.toNat y.1) zWork).X.S.Next), Cell.sl Cd.eMatch (List.getD b (Int.toNat y.1) zWork).X.Fired, Cell.sl Cd.eTask (List.getD b (Int.toNat y.1) zWork).X.Tasks, Cell.sl Cd.eTimer (List.getD b (Int.toNat y.1) zWork).X.Timers, Cell.sl Cd.eUndo (List.getD b (Int.toNat y.1) zWork).X.Undos, Cell.lit (Value.int IntKind.i64 (List.getD b (Int.toNat y.1) zWork).X.State), Cell.lit (Value.int IntKind.i64 (List.getD b (Int.toNat y.1) zWork).X.Now)] : DA UU }]);
      let x1 : DInst := (List.getD b (Int.toNat y.1) zWork).X;
      let x2 : DInst := (List.getD a (Int.toNat y.1) zWork).X;
      I_EqualFuncWork_4 a b p y → bif decide (y.1 < (↑(List.length a) : Int)) then (0 : Int) ≤ y.1 ∧ Int.toNat y.1 < List.length a ∧ (0 : Int) ≤ y.1 ∧ Int.toNat y.1 < List.length b ∧ p [{ agg := true, cs := [Cell.lit (Value.string (List.getD a (Int.toNat y.1) zWork).Name), Cell.lit (Value.string (List.getD a (Int.toNat y.1) zWork).Def), Cell.sl Cd.eItem x2.S.Items, Cell.lit (Value.int IntKind.i64 x2.S.Next), Cell.sl Cd.eMatch x2.Fired, Cell.sl Cd.eTask x2.Tasks, Cell.sl Cd.eTimer x2.Timers, Cell.sl Cd.eUndo x2.Undos, Cell.lit (Value.int IntKind.i64 x2.State), Cell.lit (Value.int IntKind.i64 x2.Now)] : DA UU }, { agg := true, cs := [Cell.lit (Value.string (List.getD b (Int.toNat y.1) zWork).Name), Cell.lit (Value.string (List.getD b (Int.toNat y.1) zWork).Def), Cell.sl Cd.eItem x1.S.Items, Cell.lit (Value.int IntKind.i64 x1.S.Next), Cell.sl Cd.eMatch x1.Fired, Cell.sl Cd.eTask x1.Tasks, Cell.sl Cd.eTimer x1.Timers, Cell.sl Cd.eUndo x1.Undos, Cell.lit (Value.int IntKind.i64 x1.State), Cell.lit (Value.int IntKind.i64 x1.Now)] : DA UU }] = some (Value.bool x0) ∧ bif !x0 then Lf [DV.one (Cell.lit (Value.bool false))] [DV.one (Cell.lit (Value.bool (decide (a = b))))] else I_EqualFuncWork_4 a b p (IntKind.wrap IntKind.i64 (y.1 + (1 : Int)), PUnit.unit) ∧ μ_EqualFuncWork_4 a b p (IntKind.wrap IntKind.i64 (y.1 + (1 : Int)), PUnit.unit) < μ_EqualFuncWork_4 a b p y else Lf [DV.one (Cell.lit (Value.bool true))] [DV.one (Cell.lit (Value.bool (decide (a = b))))]) := by kernel_rfl
theorem ok_EqualFuncWork : Holds EE (17, con_EqualFuncWork) := by
  refine holds_of EE_ok Go.Proofs.Tryz.func17 con_EqualFuncWork (by kernel_rfl) use_EqualFuncWork all_nil ann_EqualFuncWork (fun x hp hb => ?_)
  obtain ⟨a, b, p⟩ := x
  have hb_a : BdDV (U := UU) (.one (.sl .eWork a)) := hb _ (List.mem_cons_self)
  have hl_a : a.length ≤ 9223372036854775807 := Bd.len hb_a
  have hb_b : BdDV (U := UU) (.one (.sl .eWork b)) := hb _ (List.mem_cons_of_mem _ (List.mem_cons_self))
  have hl_b : b.length ≤ 9223372036854775807 := Bd.len hb_b
  have hp0 : ∀ j : Nat, j < a.length → j < b.length → p [qaWork (List.getD a j zWork), qaWork (List.getD b j zWork)] = some (.bool (decide (List.getD a j zWork = List.getD b j zWork))) := hp _ (List.mem_cons_self)
  clear hp hb
  rw [vc_EqualFuncWork a b p]
  dsimp only
  refine if_cond (fun h => Lf_f ?_) (fun h => ⟨?_, ?_⟩)
  · rintro rfl; simp at h
  · have h : (a.length : Int) = b.length := by simpa using h
    exact ⟨by omega, by omega, by omega, Iff.rfl⟩
  rintro ⟨i, ⟨⟩⟩ ⟨h1, h2, h3, hR⟩
  simp only at *
  refine if_cond (fun hc => ?_) (fun hc => ?_)
  · have hc : i < a.length := of_decide_eq_true hc
    have hq := hp0 i.toNat (by omega) (by omega)
    rw [drop_step a zWork h1 hc, drop_step b zWork h1 (by omega)] at hR
    rw [wrap_i64 (by omega) (by omega)]
    have e1 : boolOf (p [qaWork (List.getD a i.toNat zWork), qaWork (List.getD b i.toNat zWork)]) = decide (List.getD a i.toNat zWork = List.getD b i.toNat zWork) := by rw [hq]; rfl
    have hq2 : p [qaWork (List.getD a i.toNat zWork), qaWork (List.getD b i.toNat zWork)] = some (.bool (boolOf (p [qaWork (List.getD a i.toNat zWork), qaWork (List.getD b i.toNat zWork)]))) := by rw [e1]; exact hq
    refine ⟨by omega, by omega, by omega, by omega, hq2, if_cond (fun h => Lf_f ?_) (fun h => ⟨⟨by omega, by omega, h3, ?_⟩, ?_⟩)⟩
    · have h : (!boolOf (p [qaWork (List.getD a i.toNat zWork), qaWork (List.getD b i.toNat zWork)])) = true := h
      rw [e1] at h; rw [← hR]; simp only [Bool.not_eq_true', decide_eq_false_iff_not] at h; exact fun hh => h (List.cons.inj hh).1
    · have h : (!boolOf (p [qaWork (List.getD a i.toNat zWork), qaWork (List.getD b i.toNat zWork)])) = false := h
      rw [e1] at h; rw [← hR]; simp only [Bool.not_eq_false', decide_eq_true_eq] at h; rw [h]; simp
    · simp only [μ_EqualFuncWork_4]; omega
  · have hc : a.length ≤ i := by have := of_decide_eq_false hc; omega
    rw [drop_end a hc, drop_end b (by omega)] at hR
    exact Lf_t (hR.1 rfl)
def con_impl_samePat : Con UU where
  α := DPat × DPat
  md := [.ro, .ro]
  of := fun | [.agg [.lit (.string a0), .sl .eArg a1, .lit (.bool a2)], .agg [.lit (.string a3), .sl .eArg a4, .lit (.bool a5)]] => some (⟨a0, a1, a2⟩, ⟨a3, a4, a5⟩) | _ => none
  ds := fun (a, b) => [.agg [.lit (.string a.Kind), .sl .eArg a.Args, .lit (.bool a.Not)], .agg [.lit (.string b.Kind), .sl .eArg b.Args, .lit (.bool b.Not)]]
  pre := fun (a, b) => []
  res := fun (a, b) => ⟨[.one (.lit (.bool (decide (a = b))))], true, []⟩
  law := by intro l x h; (try simp only at h); split at h <;> cases h; rfl
def ann_impl_samePat : con_impl_samePat.α → Nat → Option (Ann UU) := fun (a, b) => annL []
def use_impl_samePat : List (FuncId × Con UU) := [(78, con_EqualArg)]
theorem vc_impl_samePat (a : DPat) (b : DPat) : goal EE use_impl_samePat Go.Proofs.Tryz.f55 con_impl_samePat ann_impl_samePat (a, b) = (bif ByteArray.toList a.Kind == ByteArray.toList b.Kind then bif a.Not == b.Not then Lf [DV.one (Cell.lit (Value.bool (decide (a.Args = b.Args))))] [DV.one (Cell.lit (Value.bool (decide (a = b))))] else Lf [DV.one (Cell.lit (Value.bool false))] [DV.one (Cell.lit (Value.bool (decide (a = b))))] else Lf [DV.one (Cell.lit (Value.bool false))] [DV.one (Cell.lit (Value.bool (decide (a = b))))]) := by kernel_rfl
theorem ok_impl_samePat : Holds EE (55, con_impl_samePat) := by
  refine holds_of EE_ok Go.Proofs.Tryz.func55 con_impl_samePat (by kernel_rfl) use_impl_samePat (all_cons ok_EqualArg all_nil) ann_impl_samePat (fun x hp hb => ?_)
  obtain ⟨a, b⟩ := x
  have hb_a : BdDV (U := UU) (.agg [.lit (.string a.Kind), .sl .eArg a.Args, .lit (.bool a.Not)]) := hb _ (List.mem_cons_self)
  have hl_a_Kind : a.Kind.size ≤ 9223372036854775807 := Bd.str (hb_a _ (by simp))
  have hl_a_Args : a.Args.length ≤ 9223372036854775807 := Bd.len (U := UU) (τ := .eArg) (xs := a.Args) (hb_a _ (by simp))
  have hb_b : BdDV (U := UU) (.agg [.lit (.string b.Kind), .sl .eArg b.Args, .lit (.bool b.Not)]) := hb _ (List.mem_cons_of_mem _ (List.mem_cons_self))
  have hl_b_Kind : b.Kind.size ≤ 9223372036854775807 := Bd.str (hb_b _ (by simp))
  have hl_b_Args : b.Args.length ≤ 9223372036854775807 := Bd.len (U := UU) (τ := .eArg) (xs := b.Args) (hb_b _ (by simp))
  clear hp hb
  rw [vc_impl_samePat a b]
  obtain ⟨a1, a2, a3⟩ := a
  obtain ⟨b1, b2, b3⟩ := b
  simp only [toList_beq, val_beq] at *
  repeat' (refine if_cond (fun h => ?_) (fun h => ?_))
  all_goals (refine Lf_b ?_; simp only [DPat.mk.injEq] at *; grind)
def con_impl_sameAct : Con UU where
  α := DAct × DAct
  md := [.ro, .ro]
  of := fun | [.agg [.lit (.int .i64 a0), .lit (.string a1), .sl .eExpr a2, .lit (.int .i64 a3), .lit (.string a4)], .agg [.lit (.int .i64 a5), .lit (.string a6), .sl .eExpr a7, .lit (.int .i64 a8), .lit (.string a9)]] => some (⟨a0, a1, a2, a3, a4⟩, ⟨a5, a6, a7, a8, a9⟩) | _ => none
  ds := fun (a, b) => [.agg [.lit (.int .i64 a.Kind), .lit (.string a.Name), .sl .eExpr a.Args, .lit (.int .i64 a.N), .lit (.string a.Undo)], .agg [.lit (.int .i64 b.Kind), .lit (.string b.Name), .sl .eExpr b.Args, .lit (.int .i64 b.N), .lit (.string b.Undo)]]
  pre := fun (a, b) => []
  res := fun (a, b) => ⟨[.one (.lit (.bool (decide (a = b))))], true, []⟩
  law := by intro l x h; (try simp only at h); split at h <;> cases h; rfl
def ann_impl_sameAct : con_impl_sameAct.α → Nat → Option (Ann UU) := fun (a, b) => annL []
def use_impl_sameAct : List (FuncId × Con UU) := [(79, con_EqualExpr)]
theorem vc_impl_sameAct (a : DAct) (b : DAct) : goal EE use_impl_sameAct Go.Proofs.Tryz.f57 con_impl_sameAct ann_impl_sameAct (a, b) = (bif a.Kind == b.Kind then bif ByteArray.toList a.Name == ByteArray.toList b.Name then bif a.N == b.N then bif ByteArray.toList a.Undo == ByteArray.toList b.Undo then Lf [DV.one (Cell.lit (Value.bool (decide (a.Args = b.Args))))] [DV.one (Cell.lit (Value.bool (decide (a = b))))] else Lf [DV.one (Cell.lit (Value.bool false))] [DV.one (Cell.lit (Value.bool (decide (a = b))))] else Lf [DV.one (Cell.lit (Value.bool false))] [DV.one (Cell.lit (Value.bool (decide (a = b))))] else Lf [DV.one (Cell.lit (Value.bool false))] [DV.one (Cell.lit (Value.bool (decide (a = b))))] else Lf [DV.one (Cell.lit (Value.bool false))] [DV.one (Cell.lit (Value.bool (decide (a = b))))]) := by kernel_rfl
theorem ok_impl_sameAct : Holds EE (57, con_impl_sameAct) := by
  refine holds_of EE_ok Go.Proofs.Tryz.func57 con_impl_sameAct (by kernel_rfl) use_impl_sameAct (all_cons ok_EqualExpr all_nil) ann_impl_sameAct (fun x hp hb => ?_)
  obtain ⟨a, b⟩ := x
  have hb_a : BdDV (U := UU) (.agg [.lit (.int .i64 a.Kind), .lit (.string a.Name), .sl .eExpr a.Args, .lit (.int .i64 a.N), .lit (.string a.Undo)]) := hb _ (List.mem_cons_self)
  have hl_a_Name : a.Name.size ≤ 9223372036854775807 := Bd.str (hb_a _ (by simp))
  have hl_a_Args : a.Args.length ≤ 9223372036854775807 := Bd.len (U := UU) (τ := .eExpr) (xs := a.Args) (hb_a _ (by simp))
  have hl_a_Undo : a.Undo.size ≤ 9223372036854775807 := Bd.str (hb_a _ (by simp))
  have hb_b : BdDV (U := UU) (.agg [.lit (.int .i64 b.Kind), .lit (.string b.Name), .sl .eExpr b.Args, .lit (.int .i64 b.N), .lit (.string b.Undo)]) := hb _ (List.mem_cons_of_mem _ (List.mem_cons_self))
  have hl_b_Name : b.Name.size ≤ 9223372036854775807 := Bd.str (hb_b _ (by simp))
  have hl_b_Args : b.Args.length ≤ 9223372036854775807 := Bd.len (U := UU) (τ := .eExpr) (xs := b.Args) (hb_b _ (by simp))
  have hl_b_Undo : b.Undo.size ≤ 9223372036854775807 := Bd.str (hb_b _ (by simp))
  clear hp hb
  rw [vc_impl_sameAct a b]
  obtain ⟨a1, a2, a3, a4, a5⟩ := a
  obtain ⟨b1, b2, b3, b4, b5⟩ := b
  simp only [toList_beq, val_beq] at *
  repeat' (refine if_cond (fun h => ?_) (fun h => ?_))
  all_goals (refine Lf_b ?_; simp only [DAct.mk.injEq] at *; grind)
def con_impl_sameItem : Con UU where
  α := DItem × DItem
  md := [.ro, .ro]
  of := fun | [.agg [.lit (.int .i64 a0), .lit (.string a1), .sl .eVal a2], .agg [.lit (.int .i64 a3), .lit (.string a4), .sl .eVal a5]] => some (⟨a0, ⟨a1, a2⟩⟩, ⟨a3, ⟨a4, a5⟩⟩) | _ => none
  ds := fun (a, b) => [.agg [.lit (.int .i64 a.Id), .lit (.string a.F.Kind), .sl .eVal a.F.Fields], .agg [.lit (.int .i64 b.Id), .lit (.string b.F.Kind), .sl .eVal b.F.Fields]]
  pre := fun (a, b) => []
  res := fun (a, b) => ⟨[.one (.lit (.bool (decide (a = b))))], true, []⟩
  law := by intro l x h; (try simp only at h); split at h <;> cases h; rfl
def ann_impl_sameItem : con_impl_sameItem.α → Nat → Option (Ann UU) := fun (a, b) => annL []
def use_impl_sameItem : List (FuncId × Con UU) := [(37, con_impl_SameFact)]
theorem vc_impl_sameItem (a : DItem) (b : DItem) : goal EE use_impl_sameItem Go.Proofs.Tryz.f34 con_impl_sameItem ann_impl_sameItem (a, b) = (bif a.Id == b.Id then Lf [DV.one (Cell.lit (Value.bool (decide (a.F = b.F))))] [DV.one (Cell.lit (Value.bool (decide (a = b))))] else Lf [DV.one (Cell.lit (Value.bool false))] [DV.one (Cell.lit (Value.bool (decide (a = b))))]) := by kernel_rfl
theorem ok_impl_sameItem : Holds EE (34, con_impl_sameItem) := by
  refine holds_of EE_ok Go.Proofs.Tryz.func34 con_impl_sameItem (by kernel_rfl) use_impl_sameItem (all_cons ok_impl_SameFact all_nil) ann_impl_sameItem (fun x hp hb => ?_)
  obtain ⟨a, b⟩ := x
  have hb_a : BdDV (U := UU) (.agg [.lit (.int .i64 a.Id), .lit (.string a.F.Kind), .sl .eVal a.F.Fields]) := hb _ (List.mem_cons_self)
  have hl_a_F_Kind : a.F.Kind.size ≤ 9223372036854775807 := Bd.str (hb_a _ (by simp))
  have hl_a_F_Fields : a.F.Fields.length ≤ 9223372036854775807 := Bd.len (U := UU) (τ := .eVal) (xs := a.F.Fields) (hb_a _ (by simp))
  have hb_b : BdDV (U := UU) (.agg [.lit (.int .i64 b.Id), .lit (.string b.F.Kind), .sl .eVal b.F.Fields]) := hb _ (List.mem_cons_of_mem _ (List.mem_cons_self))
  have hl_b_F_Kind : b.F.Kind.size ≤ 9223372036854775807 := Bd.str (hb_b _ (by simp))
  have hl_b_F_Fields : b.F.Fields.length ≤ 9223372036854775807 := Bd.len (U := UU) (τ := .eVal) (xs := b.F.Fields) (hb_b _ (by simp))
  clear hp hb
  rw [vc_impl_sameItem a b]
  obtain ⟨a1, a2⟩ := a
  obtain ⟨b1, b2⟩ := b
  simp only [toList_beq, val_beq] at *
  repeat' (refine if_cond (fun h => ?_) (fun h => ?_))
  all_goals (refine Lf_b ?_; simp only [DItem.mk.injEq] at *; grind)
end
end AM
