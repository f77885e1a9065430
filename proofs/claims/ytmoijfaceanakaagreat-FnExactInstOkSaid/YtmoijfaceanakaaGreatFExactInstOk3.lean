/- Functions of the program with their contracts: put together by gen/link.py for FnExactInstOk. -/
import Derived.Test.YtmoijfaceanakaaGreatAmLib
import Derived.Test.YtmoijfaceanakaaGreatFExactInstOk2
namespace AM
open Go
set_option linter.unusedVariables false
set_option linter.unusedSimpArgs false
set_option maxRecDepth 100000
noncomputable section
def Zk154 : Con UU where
 α := (List DCond) × Int
 md := [.ro, .ro]
 of := oC (oL .lCond) (o1 oI)
 ds := fun x => [dL .lCond x.1, dI x.2]
 pre := fun (a, left) => [0 ≤ left]
 res := fun (a, left) => ⟨[.one (.lit (.int .i64 (szr left (sizeCondS a))))], true, []⟩
 law := lC (lL .lCond) (l1 lI)
def Zi154_5 (a : (List DCond)) (left : Int) : Int × Int × Unit → Prop := fun (lf, i, _) => 0 ≤ lf ∧ 0 ≤ i ∧ i ≤ a.length ∧ szr lf ((a.drop i.toNat).map sizeCond).sum = szr left (sizeCondS a)
def Zm154_5 (a : (List DCond)) (left : Int) : Int × Int × Unit → Nat := fun (lf, i, _) => a.length - i.toNat
def Za154 : Zk154.α → Nat → Option (Ann UU) := fun (a, left) => annL [(5, annOf [.slot 1 (1, 1024) (.lit (.int .i64)), .slot 5 (5, 1024) (.lit (.int .i64))] (fun _ => Zi154_5 a left) (Zm154_5 a left))]
def Zu154 := us [Zh202]
theorem Zv154 (a : (List DCond)) (left : Int) : goal EE Zu154 Go.Proofs.Tryz.f154 Zk154 Za154 (a, left) = (let x0 : Int := IntKind.wrap IntKind.i64 (left - (a.length : Int));
bif decide (x0 < (0 : Int)) then Lf [DV.one (Cell.lit (Value.int IntKind.i64 (-1 : Int)))] [DV.one (Cell.lit (Value.int IntKind.i64 (szr left (sizeCondS a))))]
else
 Zi154_5 a left (x0, (0 : Int), PUnit.unit) ∧
  ∀ (y : Int × Int × PUnit),
   let x1 : Int := szr y.1 (sizeCond (List.getD a (Int.toNat y.2.1) zCond));
   Zi154_5 a left y → bif decide (y.2.1 < (↑(List.length a) : Int)) then (0 : Int) ≤ y.2.1 ∧ Int.toNat y.2.1 < List.length a ∧ (0 : Int) ≤ y.1 ∧ bif decide (x1 < (0 : Int)) then Lf [DV.one (Cell.lit (Value.int IntKind.i64 (-1 : Int)))] [DV.one (Cell.lit (Value.int IntKind.i64 (szr left (sizeCondS a))))] else Zi154_5 a left (x1, IntKind.wrap IntKind.i64 (y.2.1 + (1 : Int)), PUnit.unit) ∧ Zm154_5 a left (x1, IntKind.wrap IntKind.i64 (y.2.1 + (1 : Int)), PUnit.unit) < Zm154_5 a left y else Lf [DV.one (Cell.lit (Value.int IntKind.i64 y.1))] [DV.one (Cell.lit (Value.int IntKind.i64 (szr left (sizeCondS a))))]) := by kernel_rfl
theorem Zo154 : Holds EE (154, Zk154) := by
 refine holds_of EE_ok Go.Proofs.Tryz.func154 Zk154 (by kernel_rfl) Zu154 (us_ok _) Za154 (fun x hp hb => ?_)
 obtain ⟨a, left⟩ := x
 have hl_a : a.length ≤ 9223372036854775807 := bdL (hb _ m0)
 have hl_left := bdI (n := left) (hb _ m1)
 have hp0 : 0 ≤ left := hp _ m0
 clear hp hb
 rw [Zv154 a left]
 dsimp only
 rw [wrap_i64 (by omega) (by omega)]
 refine if_cond (fun h => Lf_i ?_) (fun h => ⟨?_, ?_⟩)
 ·simp [szr, sizeCondS] at *; omega
 ·simp only [Zi154_5, sizeCondS]; simp at h; have h' : 0 ≤ left - a.length := by omega
  exact ⟨h', by omega, by omega, szr_sub h'⟩
 rintro ⟨lf, i, ⟨⟩⟩ ⟨h0, h1, h2, hR⟩
 refine if_cond (fun hc => ?_) (fun hc => ?_)
 ·have hc : i < a.length := by simpa using hc
  rw [drop_step a zCond h1 hc, List.map_cons, List.sum_cons] at hR
  simp only at *
  rw [wrap_i64 (by omega) (by omega)]
  generalize List.getD a i.toNat zCond = x at *
  refine ⟨by omega, by omega, by omega, if_cond (fun h => Lf_i ?_) (fun h => ⟨⟨?_, by omega, by omega, ?_⟩, ?_⟩)⟩
  ·rw [← hR]; exact (szr_bad (of_decide_eq_true h)).symm
  ·simp at h; omega
  ·rw [← hR]; simp at h; exact szr_szr h
  ·simp only [Zm154_5]; omega
 ·have hc : a.length ≤ i := by simpa using hc
  rw [drop_end a hc] at hR
  apply Lf_i; rw [← hR]; simp [szr, h0]
def Zh154 : HH := ⟨_, Zo154⟩
def Zk169 : Con UU where
 α := (List DCond)
 md := [.ro]
 of := o1 (oL .lCond)
 ds := fun x => [dL .lCond x]
 pre := fun a => [sizeCondS a ≤ 4294967296]
 res := fun a => ⟨[.one (.sl .eCond a)], true, []⟩
 law := l1 (lL .lCond)
def Zi169_3 (a : (List DCond)) : List DCond × Int × Unit → Prop := fun (out, i, _) => 0 ≤ i ∧ i ≤ a.length ∧ out = a.take i.toNat ++ List.replicate (a.length - i.toNat) zCond
def Zm169_3 (a : (List DCond)) : List DCond × Int × Unit → Nat := fun (out, i, _) => a.length - i.toNat
def Za169 : Zk169.α → Nat → Option (Ann UU) := fun a => annL [(3, annOf [.slot 3 (3, 1024) (.own .eCond true), .slot 4 (4, 1024) (.lit (.int .i64))] (fun _ => Zi169_3 a) (Zm169_3 a))]
def Zu169 := us [Zh213]
theorem Zv169 (a : (List DCond)) : goal EE Zu169 Go.Proofs.Tryz.f169 Zk169 Za169 a = (let x0 : Int := (a.length : Int);
(0 : Int) ≤ x0 ∧
 x0 = x0 ∧
  x0 ≤ (4294967296 : Int) ∧
   Zi169_3 a (List.replicate (Int.toNat x0) zCond, (0 : Int), PUnit.unit) ∧
    ∀ (y : List DCond × Int × PUnit),
     let x1 : Nat := Int.toNat y.2.1;
     Zi169_3 a y → bif decide (y.2.1 < x0) then (0 : Int) ≤ y.2.1 ∧ x1 < List.length a ∧ sizeCond (List.getD a x1 zCond) ≤ (4294967296 : Nat) ∧ (0 : Int) ≤ y.2.1 ∧ x1 < List.length y.1 ∧ x1 < List.length y.1 ∧ Zi169_3 a (List.set y.1 x1 (List.getD a x1 zCond), IntKind.wrap IntKind.i64 (y.2.1 + (1 : Int)), PUnit.unit) ∧ Zm169_3 a (List.set y.1 x1 (List.getD a x1 zCond), IntKind.wrap IntKind.i64 (y.2.1 + (1 : Int)), PUnit.unit) < Zm169_3 a y else Lf [DV.one (Cell.sl Cd.eCond y.1)] [DV.one (Cell.sl Cd.eCond a)]) := by kernel_rfl
theorem Zo169 : Holds EE (169, Zk169) := by
 refine holds_of EE_ok Go.Proofs.Tryz.func169 Zk169 (by kernel_rfl) Zu169 (us_ok _) Za169 (fun (a : (List DCond)) hp hb => ?_)
 have hl_a : a.length ≤ 9223372036854775807 := bdL (hb _ m0)
 have hp0 : sizeCondS a ≤ 4294967296 := hp _ m0
 clear hp hb
 rw [Zv169 a]
 dsimp only
 have hlen : a.length ≤ 4294967296 := by simp only [sizeCondS] at hp0; omega
 refine ⟨by omega, rfl, by omega, ?_, ?_⟩
 ·simp [Zi169_3]
 rintro ⟨out, i, ⟨⟩⟩ ⟨h1, h2, rfl⟩
 simp only at *
 refine if_cond (fun hc => ?_) (fun hc => ?_)
 ·have hc : i < a.length := by simpa using hc
  rw [wrap_i64 (by omega) (by omega), set_fill a zCond h1 hc]
  exact ⟨h1, by omega, by exact Nat.le_trans (sum_getD_le sizeCond a zCond h1 hc) (by simp only [sizeCondS] at hp0; omega), h1, by simp; omega, by simp; omega, ⟨by omega, by omega, rfl⟩, by simp only [Zm169_3]; omega⟩
 ·have hc : a.length ≤ i := by simpa using hc
  have e : i.toNat = a.length := by omega
  rw [e]; simp; exact Lf_rfl _
def Zh169 : HH := ⟨_, Zo169⟩
def Zk190 : Con UU where
 α := (List DCond) × (List DCond)
 md := [.ro, .ro]
 of := oC (oL .eCond) (o1 (oL .eCond))
 ds := fun x => [dL .eCond x.1, dL .eCond x.2]
 pre := fun _ => []
 res := fun (a, b) => ⟨[.one (.lit (.bool (decide (a = b))))], true, []⟩
 law := lC (lL .eCond) (l1 (lL .eCond))
def Zi190_4 (a : (List DCond)) (b : (List DCond)) : Int × Unit → Prop := fun (i, _) => 0 ≤ i ∧ i ≤ a.length ∧ a.length = b.length ∧ (a.drop i.toNat = b.drop i.toNat ↔ a = b)
def Zm190_4 (a : (List DCond)) (b : (List DCond)) : Int × Unit → Nat := fun (i, _) => a.length - i.toNat
def Za190 : Zk190.α → Nat → Option (Ann UU) := fun (a, b) => annL [(4, annOf [.slot 5 (5, 1024) (.lit (.int .i64))] (fun _ => Zi190_4 a b) (Zm190_4 a b))]
def Zu190 := us [Zh224]
theorem Zv190 (a : (List DCond)) (b : (List DCond)) : goal EE Zu190 Go.Proofs.Tryz.f190 Zk190 Za190 (a, b) = (bif (a.length : Int) != (b.length : Int) then Lb false (decide (a = b)) else Zi190_4 a b ((0 : Int), ()) ∧ ∀ (y : Int × PUnit), Zi190_4 a b y → bif decide (y.1 < (a.length : Int)) then (0 : Int) ≤ y.1 ∧ y.1.toNat < a.length ∧ (0 : Int) ≤ y.1 ∧ y.1.toNat < b.length ∧ bif !decide (List.getD a y.1.toNat zCond = List.getD b y.1.toNat zCond) then Lb false (decide (a = b)) else Zi190_4 a b (IntKind.wrap IntKind.i64 (y.1 + (1 : Int)), ()) ∧ Zm190_4 a b (IntKind.wrap IntKind.i64 (y.1 + (1 : Int)), ()) < Zm190_4 a b y else Lb true (decide (a = b))) := by kernel_rfl
theorem Zo190 : Holds EE (190, Zk190) := by
 refine holds_of EE_ok Go.Proofs.Tryz.func190 Zk190 (by kernel_rfl) Zu190 (us_ok _) Za190 (fun x hp hb => ?_)
 obtain ⟨a, b⟩ := x
 have hl_a : a.length ≤ 9223372036854775807 := bdL (hb _ m0)
 have hl_b : b.length ≤ 9223372036854775807 := bdL (hb _ m1)
 clear hp hb
 rw [Zv190 a b]
 refine if_cond (fun h => Lf_f ?_) (fun h => ⟨?_, ?_⟩)
 ·rintro rfl; simp at h
 ·simp [Zi190_4] at *; omega
 rintro ⟨i, ⟨⟩⟩ ⟨h1, h2, h3, hR⟩
 simp only at *
 refine if_cond (fun hc => ?_) (fun hc => ?_)
 ·have hc : i < a.length := by simpa using hc
  rw [drop_step a zCond h1 hc, drop_step b zCond h1 (by omega)] at hR
  rw [wrap_i64 (by omega) (by omega)]
  refine ⟨by omega, by omega, by omega, by omega, if_cond (fun h => Lf_f ?_) (fun h => ⟨⟨by omega, by omega, h3, ?_⟩, ?_⟩)⟩
  ·rw [← hR]; simp at h; simp [h]
  ·rw [← hR]; simp at h; simp [h]
  ·simp only [Zm190_4]; omega
 ·have hc : a.length ≤ i := by simpa using hc
  rw [drop_end a hc, drop_end b (by omega)] at hR
  exact Lf_t (hR.1 rfl)
def Zh190 : HH := ⟨_, Zo190⟩
def Zk250 : Con UU where
 α := DExpr × Int
 md := [.ro, .ro]
 of := oC (oA .lExpr) (o1 oI)
 ds := fun x => [dA .lExpr x.1, dI x.2]
 pre := fun (a, left) => [0 ≤ left]
 res := fun (a, left) => ⟨[.one (.lit (.int .i64 (szr left (sizeExpr a))))], true, []⟩
 law := lC (lA .lExpr) (l1 lI)
def Za250 : Zk250.α → Nat → Option (Ann UU) := fun (a, left) => annL []
def Zu250 := us [Zh232]
theorem Zv250 (a : DExpr) (left : Int) : goal EE Zu250 Go.Proofs.Tryz.f250 Zk250 Za250 (a, left) = (let x0 : Int := szr (IntKind.wrap IntKind.i64 (left - (↑(ByteArray.size a.Op) : Int))) (sizeArg a.L);
let x1 : Int := IntKind.wrap IntKind.i64 (left - (↑(ByteArray.size a.Op) : Int));
bif decide (x1 < (0 : Int)) then Lf [DV.one (Cell.lit (Value.int IntKind.i64 (-1 : Int)))] [DV.one (Cell.lit (Value.int IntKind.i64 (szr left (sizeExpr a))))] else (0 : Int) ≤ x1 ∧ bif decide (x0 < (0 : Int)) then Lf [DV.one (Cell.lit (Value.int IntKind.i64 (-1 : Int)))] [DV.one (Cell.lit (Value.int IntKind.i64 (szr left (sizeExpr a))))] else (0 : Int) ≤ x0 ∧ bif decide (szr x0 (sizeArg a.R) < (0 : Int)) then Lf [DV.one (Cell.lit (Value.int IntKind.i64 (-1 : Int)))] [DV.one (Cell.lit (Value.int IntKind.i64 (szr left (sizeExpr a))))] else Lf [DV.one (Cell.lit (Value.int IntKind.i64 (szr x0 (sizeArg a.R))))] [DV.one (Cell.lit (Value.int IntKind.i64 (szr left (sizeExpr a))))]) := by kernel_rfl
theorem Zo250 : Holds EE (250, Zk250) := by
 refine holds_of EE_ok Go.Proofs.Tryz.func250 Zk250 (by kernel_rfl) Zu250 (us_ok _) Za250 (fun x hp hb => ?_)
 obtain ⟨a, left⟩ := x
 have hz0 := bd_lExpr (x := a) (hb _ m0)
 have hl_a_Op := hz0.1
 have hl_a_L_S := hz0.2.1
 have hl_a_L_V_S := hz0.2.2.1
 have hl_a_R_S := hz0.2.2.2.1
 have hl_a_R_V_S := hz0.2.2.2.2
 have hl_left := bdI (n := left) (hb _ m1)
 have hp0 : 0 ≤ left := hp _ m0
 clear hp hb
 rw [Zv250 a left]
 dsimp only
 rw [wrap_i64 (by omega) (by omega)]
 refine if_cond (fun h => Lf_i (szr_bad' ?_)) (fun h => ?_)
 ·have h := of_decide_eq_true h; simp only [sizeExpr]; omega
 have h0 := of_decide_eq_false h
 refine ⟨by omega, if_cond (fun h => Lf_i (szr_bad' ?_)) (fun h => ?_)⟩
 ·have h := szr_neg h; simp only [sizeExpr]; omega
 obtain ⟨e1, h1⟩ := szr_pos h
 rw [e1]
 refine ⟨by omega, if_cond (fun h => Lf_i (szr_bad' ?_)) (fun h => ?_)⟩
 ·have h := szr_neg h; simp only [sizeExpr]; omega
 obtain ⟨e2, h2⟩ := szr_pos h
 rw [e2]
 exact Lf_i (by rw [← szr_ok' (by simp only [sizeExpr]; omega)]; simp only [sizeExpr]; try omega)
def Zh250 : HH := ⟨_, Zo250⟩
def Zk253 : Con UU where
 α := DExpr
 md := [.ro]
 of := o1 (oA .lExpr)
 ds := fun x => [dA .lExpr x]
 pre := fun a => [sizeExpr a ≤ 4294967296]
 res := fun a => ⟨[.agg [.lit (.string a.Op), .lit (.int .i64 a.L.K), .lit (.string a.L.S), .lit (.int .i64 a.L.V.K), .lit (.int .i64 a.L.V.N), .lit (.string a.L.V.S), .lit (.int .i64 a.R.K), .lit (.string a.R.S), .lit (.int .i64 a.R.V.K), .lit (.int .i64 a.R.V.N), .lit (.string a.R.V.S)]], true, []⟩
 law := l1 (lA .lExpr)
def Za253 : Zk253.α → Nat → Option (Ann UU) := fun a => annL []
def Zu253 := us [Zh237]
theorem Zv253 (a : DExpr) : goal EE Zu253 Go.Proofs.Tryz.f253 Zk253 Za253 a = (sizeArg a.L ≤ (4294967296 : Nat) ∧ sizeArg a.R ≤ (4294967296 : Nat) ∧ Lf [DV.agg [Cell.lit (Value.string a.Op), Cell.lit (Value.int IntKind.i64 a.L.K), Cell.lit (Value.string a.L.S), Cell.lit (Value.int IntKind.i64 a.L.V.K), Cell.lit (Value.int IntKind.i64 a.L.V.N), Cell.lit (Value.string a.L.V.S), Cell.lit (Value.int IntKind.i64 a.R.K), Cell.lit (Value.string a.R.S), Cell.lit (Value.int IntKind.i64 a.R.V.K), Cell.lit (Value.int IntKind.i64 a.R.V.N), Cell.lit (Value.string a.R.V.S)]] [DV.agg [Cell.lit (Value.string a.Op), Cell.lit (Value.int IntKind.i64 a.L.K), Cell.lit (Value.string a.L.S), Cell.lit (Value.int IntKind.i64 a.L.V.K), Cell.lit (Value.int IntKind.i64 a.L.V.N), Cell.lit (Value.string a.L.V.S), Cell.lit (Value.int IntKind.i64 a.R.K), Cell.lit (Value.string a.R.S), Cell.lit (Value.int IntKind.i64 a.R.V.K), Cell.lit (Value.int IntKind.i64 a.R.V.N), Cell.lit (Value.string a.R.V.S)]]) := by kernel_rfl
theorem Zo253 : Holds EE (253, Zk253) := by
 refine holds_of EE_ok Go.Proofs.Tryz.func253 Zk253 (by kernel_rfl) Zu253 (us_ok _) Za253 (fun (a : DExpr) hp hb => ?_)
 have hz0 := bd_lExpr (x := a) (hb _ m0)
 have hl_a_Op := hz0.1
 have hl_a_L_S := hz0.2.1
 have hl_a_L_V_S := hz0.2.2.1
 have hl_a_R_S := hz0.2.2.2.1
 have hl_a_R_V_S := hz0.2.2.2.2
 have hp0 : sizeExpr a ≤ 4294967296 := hp _ m0
 clear hp hb
 rw [Zv253 a]
 simp only [sizeExpr] at hp0
 repeat' (first | exact Lf_rfl _ | (refine And.intro (by omega) ?_))
def Zh253 : HH := ⟨_, Zo253⟩
def Zk255 : Con UU where
 α := DExpr × DExpr
 md := [.ro, .ro]
 of := oC (oA .eExpr) (o1 (oA .eExpr))
 ds := fun x => [dA .eExpr x.1, dA .eExpr x.2]
 pre := fun _ => []
 res := fun (a, b) => ⟨[.one (.lit (.bool (decide (a = b))))], true, []⟩
 law := lC (lA .eExpr) (l1 (lA .eExpr))
def Za255 : Zk255.α → Nat → Option (Ann UU) := fun (a, b) => annL []
def Zu255 := us [Zh243]
theorem Zv255 (a : DExpr) (b : DExpr) : goal EE Zu255 Go.Proofs.Tryz.f255 Zk255 Za255 (a, b) = (bif !ByteArray.toList a.Op == ByteArray.toList b.Op then Lb false (decide (a = b)) else bif !decide (a.L = b.L) then Lb false (decide (a = b)) else bif !decide (a.R = b.R) then Lb false (decide (a = b)) else Lb true (decide (a = b))) := by kernel_rfl
theorem Zo255 : Holds EE (255, Zk255) := by
 refine holds_of EE_ok Go.Proofs.Tryz.func255 Zk255 (by kernel_rfl) Zu255 (us_ok _) Za255 (fun x hp hb => ?_)
 obtain ⟨a, b⟩ := x
 have hz0 := bd_eExpr (x := a) (hb _ m0)
 have hl_a_Op := hz0.1
 have hl_a_L_S := hz0.2.1
 have hl_a_L_V_S := hz0.2.2.1
 have hl_a_R_S := hz0.2.2.2.1
 have hl_a_R_V_S := hz0.2.2.2.2
 have hz1 := bd_eExpr (x := b) (hb _ m1)
 have hl_b_Op := hz1.1
 have hl_b_L_S := hz1.2.1
 have hl_b_L_V_S := hz1.2.2.1
 have hl_b_R_S := hz1.2.2.2.1
 have hl_b_R_V_S := hz1.2.2.2.2
 clear hp hb
 rw [Zv255 a b]
 obtain ⟨aOp, aL, aR⟩ := a
 obtain ⟨bOp, bL, bR⟩ := b
 repeat' (apply if_cond <;> intro _)
 all_goals (first | apply Lf_t | apply Lf_f) <;> simp_all
def Zh255 : HH := ⟨_, Zo255⟩
def Zk233 : Con UU where
 α := (List DExpr) × Int
 md := [.ro, .ro]
 of := oC (oL .lExpr) (o1 oI)
 ds := fun x => [dL .lExpr x.1, dI x.2]
 pre := fun (a, left) => [0 ≤ left]
 res := fun (a, left) => ⟨[.one (.lit (.int .i64 (szr left (sizeExprS a))))], true, []⟩
 law := lC (lL .lExpr) (l1 lI)
def Zi233_5 (a : (List DExpr)) (left : Int) : Int × Int × Unit → Prop := fun (lf, i, _) => 0 ≤ lf ∧ 0 ≤ i ∧ i ≤ a.length ∧ szr lf ((a.drop i.toNat).map sizeExpr).sum = szr left (sizeExprS a)
def Zm233_5 (a : (List DExpr)) (left : Int) : Int × Int × Unit → Nat := fun (lf, i, _) => a.length - i.toNat
def Za233 : Zk233.α → Nat → Option (Ann UU) := fun (a, left) => annL [(5, annOf [.slot 1 (1, 1024) (.lit (.int .i64)), .slot 5 (5, 1024) (.lit (.int .i64))] (fun _ => Zi233_5 a left) (Zm233_5 a left))]
def Zu233 := us [Zh250]
theorem Zv233 (a : (List DExpr)) (left : Int) : goal EE Zu233 Go.Proofs.Tryz.f233 Zk233 Za233 (a, left) = (let x0 : Int := IntKind.wrap IntKind.i64 (left - (a.length : Int));
bif decide (x0 < (0 : Int)) then Lf [DV.one (Cell.lit (Value.int IntKind.i64 (-1 : Int)))] [DV.one (Cell.lit (Value.int IntKind.i64 (szr left (sizeExprS a))))]
else
 Zi233_5 a left (x0, (0 : Int), PUnit.unit) ∧
  ∀ (y : Int × Int × PUnit),
   let x1 : Int := szr y.1 (sizeExpr (List.getD a (Int.toNat y.2.1) zExpr));
   Zi233_5 a left y → bif decide (y.2.1 < (↑(List.length a) : Int)) then (0 : Int) ≤ y.2.1 ∧ Int.toNat y.2.1 < List.length a ∧ (0 : Int) ≤ y.1 ∧ bif decide (x1 < (0 : Int)) then Lf [DV.one (Cell.lit (Value.int IntKind.i64 (-1 : Int)))] [DV.one (Cell.lit (Value.int IntKind.i64 (szr left (sizeExprS a))))] else Zi233_5 a left (x1, IntKind.wrap IntKind.i64 (y.2.1 + (1 : Int)), PUnit.unit) ∧ Zm233_5 a left (x1, IntKind.wrap IntKind.i64 (y.2.1 + (1 : Int)), PUnit.unit) < Zm233_5 a left y else Lf [DV.one (Cell.lit (Value.int IntKind.i64 y.1))] [DV.one (Cell.lit (Value.int IntKind.i64 (szr left (sizeExprS a))))]) := by kernel_rfl
theorem Zo233 : Holds EE (233, Zk233) := by
 refine holds_of EE_ok Go.Proofs.Tryz.func233 Zk233 (by kernel_rfl) Zu233 (us_ok _) Za233 (fun x hp hb => ?_)
 obtain ⟨a, left⟩ := x
 have hl_a : a.length ≤ 9223372036854775807 := bdL (hb _ m0)
 have hl_left := bdI (n := left) (hb _ m1)
 have hp0 : 0 ≤ left := hp _ m0
 clear hp hb
 rw [Zv233 a left]
 dsimp only
 rw [wrap_i64 (by omega) (by omega)]
 refine if_cond (fun h => Lf_i ?_) (fun h => ⟨?_, ?_⟩)
 ·simp [szr, sizeExprS] at *; omega
 ·simp only [Zi233_5, sizeExprS]; simp at h; have h' : 0 ≤ left - a.length := by omega
  exact ⟨h', by omega, by omega, szr_sub h'⟩
 rintro ⟨lf, i, ⟨⟩⟩ ⟨h0, h1, h2, hR⟩
 refine if_cond (fun hc => ?_) (fun hc => ?_)
 ·have hc : i < a.length := by simpa using hc
  rw [drop_step a zExpr h1 hc, List.map_cons, List.sum_cons] at hR
  simp only at *
  rw [wrap_i64 (by omega) (by omega)]
  generalize List.getD a i.toNat zExpr = x at *
  refine ⟨by omega, by omega, by omega, if_cond (fun h => Lf_i ?_) (fun h => ⟨⟨?_, by omega, by omega, ?_⟩, ?_⟩)⟩
  ·rw [← hR]; exact (szr_bad (of_decide_eq_true h)).symm
  ·simp at h; omega
  ·rw [← hR]; simp at h; exact szr_szr h
  ·simp only [Zm233_5]; omega
 ·have hc : a.length ≤ i := by simpa using hc
  rw [drop_end a hc] at hR
  apply Lf_i; rw [← hR]; simp [szr, h0]
def Zh233 : HH := ⟨_, Zo233⟩
def Zk238 : Con UU where
 α := (List DExpr)
 md := [.ro]
 of := o1 (oL .lExpr)
 ds := fun x => [dL .lExpr x]
 pre := fun a => [sizeExprS a ≤ 4294967296]
 res := fun a => ⟨[.one (.sl .eExpr a)], true, []⟩
 law := l1 (lL .lExpr)
def Zi238_3 (a : (List DExpr)) : List DExpr × Int × Unit → Prop := fun (out, i, _) => 0 ≤ i ∧ i ≤ a.length ∧ out = a.take i.toNat ++ List.replicate (a.length - i.toNat) zExpr
def Zm238_3 (a : (List DExpr)) : List DExpr × Int × Unit → Nat := fun (out, i, _) => a.length - i.toNat
def Za238 : Zk238.α → Nat → Option (Ann UU) := fun a => annL [(3, annOf [.slot 3 (3, 1024) (.own .eExpr true), .slot 4 (4, 1024) (.lit (.int .i64))] (fun _ => Zi238_3 a) (Zm238_3 a))]
def Zu238 := us [Zh253]
theorem Zv238 (a : (List DExpr)) : goal EE Zu238 Go.Proofs.Tryz.f238 Zk238 Za238 a = (let x0 : Int := (a.length : Int);
(0 : Int) ≤ x0 ∧
 x0 = x0 ∧
  x0 ≤ (4294967296 : Int) ∧
   Zi238_3 a (List.replicate (Int.toNat x0) zExpr, (0 : Int), PUnit.unit) ∧
    ∀ (y : List DExpr × Int × PUnit),
     let x1 : Nat := Int.toNat y.2.1;
     Zi238_3 a y → bif decide (y.2.1 < x0) then (0 : Int) ≤ y.2.1 ∧ x1 < List.length a ∧ sizeExpr (List.getD a x1 zExpr) ≤ (4294967296 : Nat) ∧ (0 : Int) ≤ y.2.1 ∧ x1 < List.length y.1 ∧ x1 < List.length y.1 ∧ Zi238_3 a (List.set y.1 x1 (List.getD a x1 zExpr), IntKind.wrap IntKind.i64 (y.2.1 + (1 : Int)), PUnit.unit) ∧ Zm238_3 a (List.set y.1 x1 (List.getD a x1 zExpr), IntKind.wrap IntKind.i64 (y.2.1 + (1 : Int)), PUnit.unit) < Zm238_3 a y else Lf [DV.one (Cell.sl Cd.eExpr y.1)] [DV.one (Cell.sl Cd.eExpr a)]) := by kernel_rfl
theorem Zo238 : Holds EE (238, Zk238) := by
 refine holds_of EE_ok Go.Proofs.Tryz.func238 Zk238 (by kernel_rfl) Zu238 (us_ok _) Za238 (fun (a : (List DExpr)) hp hb => ?_)
 have hl_a : a.length ≤ 9223372036854775807 := bdL (hb _ m0)
 have hp0 : sizeExprS a ≤ 4294967296 := hp _ m0
 clear hp hb
 rw [Zv238 a]
 dsimp only
 have hlen : a.length ≤ 4294967296 := by simp only [sizeExprS] at hp0; omega
 refine ⟨by omega, rfl, by omega, ?_, ?_⟩
 ·simp [Zi238_3]
 rintro ⟨out, i, ⟨⟩⟩ ⟨h1, h2, rfl⟩
 simp only at *
 refine if_cond (fun hc => ?_) (fun hc => ?_)
 ·have hc : i < a.length := by simpa using hc
  rw [wrap_i64 (by omega) (by omega), set_fill a zExpr h1 hc]
  exact ⟨h1, by omega, by exact Nat.le_trans (sum_getD_le sizeExpr a zExpr h1 hc) (by simp only [sizeExprS] at hp0; omega), h1, by simp; omega, by simp; omega, ⟨by omega, by omega, rfl⟩, by simp only [Zm238_3]; omega⟩
 ·have hc : a.length ≤ i := by simpa using hc
  have e : i.toNat = a.length := by omega
  rw [e]; simp; exact Lf_rfl _
def Zh238 : HH := ⟨_, Zo238⟩
def Zk244 : Con UU where
 α := (List DExpr) × (List DExpr)
 md := [.ro, .ro]
 of := oC (oL .eExpr) (o1 (oL .eExpr))
 ds := fun x => [dL .eExpr x.1, dL .eExpr x.2]
 pre := fun _ => []
 res := fun (a, b) => ⟨[.one (.lit (.bool (decide (a = b))))], true, []⟩
 law := lC (lL .eExpr) (l1 (lL .eExpr))
def Zi244_4 (a : (List DExpr)) (b : (List DExpr)) : Int × Unit → Prop := fun (i, _) => 0 ≤ i ∧ i ≤ a.length ∧ a.length = b.length ∧ (a.drop i.toNat = b.drop i.toNat ↔ a = b)
def Zm244_4 (a : (List DExpr)) (b : (List DExpr)) : Int × Unit → Nat := fun (i, _) => a.length - i.toNat
def Za244 : Zk244.α → Nat → Option (Ann UU) := fun (a, b) => annL [(4, annOf [.slot 5 (5, 1024) (.lit (.int .i64))] (fun _ => Zi244_4 a b) (Zm244_4 a b))]
def Zu244 := us [Zh255]
theorem Zv244 (a : (List DExpr)) (b : (List DExpr)) : goal EE Zu244 Go.Proofs.Tryz.f244 Zk244 Za244 (a, b) = (bif (a.length : Int) != (b.length : Int) then Lb false (decide (a = b)) else Zi244_4 a b ((0 : Int), ()) ∧ ∀ (y : Int × PUnit), Zi244_4 a b y → bif decide (y.1 < (a.length : Int)) then (0 : Int) ≤ y.1 ∧ y.1.toNat < a.length ∧ (0 : Int) ≤ y.1 ∧ y.1.toNat < b.length ∧ bif !decide (List.getD a y.1.toNat zExpr = List.getD b y.1.toNat zExpr) then Lb false (decide (a = b)) else Zi244_4 a b (IntKind.wrap IntKind.i64 (y.1 + (1 : Int)), ()) ∧ Zm244_4 a b (IntKind.wrap IntKind.i64 (y.1 + (1 : Int)), ()) < Zm244_4 a b y else Lb true (decide (a = b))) := by kernel_rfl
theorem Zo244 : Holds EE (244, Zk244) := by
 refine holds_of EE_ok Go.Proofs.Tryz.func244 Zk244 (by kernel_rfl) Zu244 (us_ok _) Za244 (fun x hp hb => ?_)
 obtain ⟨a, b⟩ := x
 have hl_a : a.length ≤ 9223372036854775807 := bdL (hb _ m0)
 have hl_b : b.length ≤ 9223372036854775807 := bdL (hb _ m1)
 clear hp hb
 rw [Zv244 a b]
 refine if_cond (fun h => Lf_f ?_) (fun h => ⟨?_, ?_⟩)
 ·rintro rfl; simp at h
 ·simp [Zi244_4] at *; omega
 rintro ⟨i, ⟨⟩⟩ ⟨h1, h2, h3, hR⟩
 simp only at *
 refine if_cond (fun hc => ?_) (fun hc => ?_)
 ·have hc : i < a.length := by simpa using hc
  rw [drop_step a zExpr h1 hc, drop_step b zExpr h1 (by omega)] at hR
  rw [wrap_i64 (by omega) (by omega)]
  refine ⟨by omega, by omega, by omega, by omega, if_cond (fun h => Lf_f ?_) (fun h => ⟨⟨by omega, by omega, h3, ?_⟩, ?_⟩)⟩
  ·rw [← hR]; simp at h; simp [h]
  ·rw [← hR]; simp at h; simp [h]
  ·simp only [Zm244_4]; omega
 ·have hc : a.length ≤ i := by simpa using hc
  rw [drop_end a hc, drop_end b (by omega)] at hR
  exact Lf_t (hR.1 rfl)
def Zh244 : HH := ⟨_, Zo244⟩
def Zk203 : Con UU where
 α := DAct × Int
 md := [.ro, .ro]
 of := oC (oA .lAct) (o1 oI)
 ds := fun x => [dA .lAct x.1, dI x.2]
 pre := fun (a, left) => [0 ≤ left]
 res := fun (a, left) => ⟨[.one (.lit (.int .i64 (szr left (sizeAct a))))], true, []⟩
 law := lC (lA .lAct) (l1 lI)
def Za203 : Zk203.α → Nat → Option (Ann UU) := fun (a, left) => annL []
def Zu203 := us [Zh233]
theorem Zv203 (a : DAct) (left : Int) : goal EE Zu203 Go.Proofs.Tryz.f203 Zk203 Za203 (a, left) = (let x0 : Int := IntKind.wrap IntKind.i64 (szr (IntKind.wrap IntKind.i64 (left - (↑(ByteArray.size a.Name) : Int))) (sizeExprS a.Args) - (↑(ByteArray.size a.Undo) : Int));
let x1 : Int := IntKind.wrap IntKind.i64 (left - (↑(ByteArray.size a.Name) : Int));
bif decide (x1 < (0 : Int)) then Lf [DV.one (Cell.lit (Value.int IntKind.i64 (-1 : Int)))] [DV.one (Cell.lit (Value.int IntKind.i64 (szr left (sizeAct a))))] else (0 : Int) ≤ x1 ∧ bif decide (szr x1 (sizeExprS a.Args) < (0 : Int)) then Lf [DV.one (Cell.lit (Value.int IntKind.i64 (-1 : Int)))] [DV.one (Cell.lit (Value.int IntKind.i64 (szr left (sizeAct a))))] else bif decide (x0 < (0 : Int)) then Lf [DV.one (Cell.lit (Value.int IntKind.i64 (-1 : Int)))] [DV.one (Cell.lit (Value.int IntKind.i64 (szr left (sizeAct a))))] else Lf [DV.one (Cell.lit (Value.int IntKind.i64 x0))] [DV.one (Cell.lit (Value.int IntKind.i64 (szr left (sizeAct a))))]) := by kernel_rfl
theorem Zo203 : Holds EE (203, Zk203) := by
 refine holds_of EE_ok Go.Proofs.Tryz.func203 Zk203 (by kernel_rfl) Zu203 (us_ok _) Za203 (fun x hp hb => ?_)
 obtain ⟨a, left⟩ := x
 have hz0 := bd_lAct (x := a) (hb _ m0)
 have hl_a_Name := hz0.1
 have hl_a_Args := hz0.2.1
 have hl_a_Undo := hz0.2.2
 have hl_left := bdI (n := left) (hb _ m1)
 have hp0 : 0 ≤ left := hp _ m0
 clear hp hb
 rw [Zv203 a left]
 dsimp only
 rw [wrap_i64 (by omega) (by omega)]
 refine if_cond (fun h => Lf_i (szr_bad' ?_)) (fun h => ?_)
 ·have h := of_decide_eq_true h; simp only [sizeAct]; omega
 have h0 := of_decide_eq_false h
 refine ⟨by omega, if_cond (fun h => Lf_i (szr_bad' ?_)) (fun h => ?_)⟩
 ·have h := szr_neg h; simp only [sizeAct]; omega
 obtain ⟨e1, h1⟩ := szr_pos h
 rw [e1]
 rw [wrap_i64 (by omega) (by omega)]
 refine if_cond (fun h => Lf_i (szr_bad' ?_)) (fun h => ?_)
 ·have h := of_decide_eq_true h; simp only [sizeAct]; omega
 have h2 := of_decide_eq_false h
 exact Lf_i (by rw [← szr_ok' (by simp only [sizeAct]; omega)]; simp only [sizeAct]; try omega)
def Zh203 : HH := ⟨_, Zo203⟩
def Zk214 : Con UU where
 α := DAct
 md := [.ro]
 of := o1 (oA .lAct)
 ds := fun x => [dA .lAct x]
 pre := fun a => [sizeAct a ≤ 4294967296]
 res := fun a => ⟨[.agg [.lit (.int .i64 a.Kind), .lit (.string a.Name), .sl .eExpr a.Args, .lit (.int .i64 a.N), .lit (.string a.Undo)]], true, []⟩
 law := l1 (lA .lAct)
def Za214 : Zk214.α → Nat → Option (Ann UU) := fun a => annL []
def Zu214 := us [Zh238]
theorem Zv214 (a : DAct) : goal EE Zu214 Go.Proofs.Tryz.f214 Zk214 Za214 a = (sizeExprS a.Args ≤ (4294967296 : Nat) ∧ Lf [DV.agg [Cell.lit (Value.int IntKind.i64 a.Kind), Cell.lit (Value.string a.Name), Cell.sl Cd.eExpr a.Args, Cell.lit (Value.int IntKind.i64 a.N), Cell.lit (Value.string a.Undo)]] [DV.agg [Cell.lit (Value.int IntKind.i64 a.Kind), Cell.lit (Value.string a.Name), Cell.sl Cd.eExpr a.Args, Cell.lit (Value.int IntKind.i64 a.N), Cell.lit (Value.string a.Undo)]]) := by kernel_rfl
theorem Zo214 : Holds EE (214, Zk214) := by
 refine holds_of EE_ok Go.Proofs.Tryz.func214 Zk214 (by kernel_rfl) Zu214 (us_ok _) Za214 (fun (a : DAct) hp hb => ?_)
 have hz0 := bd_lAct (x := a) (hb _ m0)
 have hl_a_Name := hz0.1
 have hl_a_Args := hz0.2.1
 have hl_a_Undo := hz0.2.2
 have hp0 : sizeAct a ≤ 4294967296 := hp _ m0
 clear hp hb
 rw [Zv214 a]
 simp only [sizeAct] at hp0
 repeat' (first | exact Lf_rfl _ | (refine And.intro (by omega) ?_))
def Zh214 : HH := ⟨_, Zo214⟩
def Zk225 : Con UU where
 α := DAct × DAct
 md := [.ro, .ro]
 of := oC (oA .eAct) (o1 (oA .eAct))
 ds := fun x => [dA .eAct x.1, dA .eAct x.2]
 pre := fun _ => []
 res := fun (a, b) => ⟨[.one (.lit (.bool (decide (a = b))))], true, []⟩
 law := lC (lA .eAct) (l1 (lA .eAct))
def Za225 : Zk225.α → Nat → Option (Ann UU) := fun (a, b) => annL []
def Zu225 := us [Zh244]
theorem Zv225 (a : DAct) (b : DAct) : goal EE Zu225 Go.Proofs.Tryz.f225 Zk225 Za225 (a, b) = (bif a.Kind != b.Kind then Lb false (decide (a = b)) else bif !ByteArray.toList a.Name == ByteArray.toList b.Name then Lb false (decide (a = b)) else bif !decide (a.Args = b.Args) then Lb false (decide (a = b)) else bif a.N != b.N then Lb false (decide (a = b)) else bif !ByteArray.toList a.Undo == ByteArray.toList b.Undo then Lb false (decide (a = b)) else Lb true (decide (a = b))) := by kernel_rfl
theorem Zo225 : Holds EE (225, Zk225) := by
 refine holds_of EE_ok Go.Proofs.Tryz.func225 Zk225 (by kernel_rfl) Zu225 (us_ok _) Za225 (fun x hp hb => ?_)
 obtain ⟨a, b⟩ := x
 have hz0 := bd_eAct (x := a) (hb _ m0)
 have hl_a_Name := hz0.1
 have hl_a_Args := hz0.2.1
 have hl_a_Undo := hz0.2.2
 have hz1 := bd_eAct (x := b) (hb _ m1)
 have hl_b_Name := hz1.1
 have hl_b_Args := hz1.2.1
 have hl_b_Undo := hz1.2.2
 clear hp hb
 rw [Zv225 a b]
 obtain ⟨aKind, aName, aArgs, aN, aUndo⟩ := a
 obtain ⟨bKind, bName, bArgs, bN, bUndo⟩ := b
 repeat' (apply if_cond <;> intro _)
 all_goals (first | apply Lf_t | apply Lf_f) <;> simp_all
def Zh225 : HH := ⟨_, Zo225⟩
def Zk155 : Con UU where
 α := (List DAct) × Int
 md := [.ro, .ro]
 of := oC (oL .lAct) (o1 oI)
 ds := fun x => [dL .lAct x.1, dI x.2]
 pre := fun (a, left) => [0 ≤ left]
 res := fun (a, left) => ⟨[.one (.lit (.int .i64 (szr left (sizeActS a))))], true, []⟩
 law := lC (lL .lAct) (l1 lI)
def Zi155_5 (a : (List DAct)) (left : Int) : Int × Int × Unit → Prop := fun (lf, i, _) => 0 ≤ lf ∧ 0 ≤ i ∧ i ≤ a.length ∧ szr lf ((a.drop i.toNat).map sizeAct).sum = szr left (sizeActS a)
def Zm155_5 (a : (List DAct)) (left : Int) : Int × Int × Unit → Nat := fun (lf, i, _) => a.length - i.toNat
def Za155 : Zk155.α → Nat → Option (Ann UU) := fun (a, left) => annL [(5, annOf [.slot 1 (1, 1024) (.lit (.int .i64)), .slot 5 (5, 1024) (.lit (.int .i64))] (fun _ => Zi155_5 a left) (Zm155_5 a left))]
def Zu155 := us [Zh203]
theorem Zv155 (a : (List DAct)) (left : Int) : goal EE Zu155 Go.Proofs.Tryz.f155 Zk155 Za155 (a, left) = (let x0 : Int := IntKind.wrap IntKind.i64 (left - (a.length : Int));
bif decide (x0 < (0 : Int)) then Lf [DV.one (Cell.lit (Value.int IntKind.i64 (-1 : Int)))] [DV.one (Cell.lit (Value.int IntKind.i64 (szr left (sizeActS a))))]
else
 Zi155_5 a left (x0, (0 : Int), PUnit.unit) ∧
  ∀ (y : Int × Int × PUnit),
   let x1 : Int := szr y.1 (sizeAct (List.getD a (Int.toNat y.2.1) zAct));
   Zi155_5 a left y → bif decide (y.2.1 < (↑(List.length a) : Int)) then (0 : Int) ≤ y.2.1 ∧ Int.toNat y.2.1 < List.length a ∧ (0 : Int) ≤ y.1 ∧ bif decide (x1 < (0 : Int)) then Lf [DV.one (Cell.lit (Value.int IntKind.i64 (-1 : Int)))] [DV.one (Cell.lit (Value.int IntKind.i64 (szr left (sizeActS a))))] else Zi155_5 a left (x1, IntKind.wrap IntKind.i64 (y.2.1 + (1 : Int)), PUnit.unit) ∧ Zm155_5 a left (x1, IntKind.wrap IntKind.i64 (y.2.1 + (1 : Int)), PUnit.unit) < Zm155_5 a left y else Lf [DV.one (Cell.lit (Value.int IntKind.i64 y.1))] [DV.one (Cell.lit (Value.int IntKind.i64 (szr left (sizeActS a))))]) := by kernel_rfl
theorem Zo155 : Holds EE (155, Zk155) := by
 refine holds_of EE_ok Go.Proofs.Tryz.func155 Zk155 (by kernel_rfl) Zu155 (us_ok _) Za155 (fun x hp hb => ?_)
 obtain ⟨a, left⟩ := x
 have hl_a : a.length ≤ 9223372036854775807 := bdL (hb _ m0)
 have hl_left := bdI (n := left) (hb _ m1)
 have hp0 : 0 ≤ left := hp _ m0
 clear hp hb
 rw [Zv155 a left]
 dsimp only
 rw [wrap_i64 (by omega) (by omega)]
 refine if_cond (fun h => Lf_i ?_) (fun h => ⟨?_, ?_⟩)
 ·simp [szr, sizeActS] at *; omega
 ·simp only [Zi155_5, sizeActS]; simp at h; have h' : 0 ≤ left - a.length := by omega
  exact ⟨h', by omega, by omega, szr_sub h'⟩
 rintro ⟨lf, i, ⟨⟩⟩ ⟨h0, h1, h2, hR⟩
 refine if_cond (fun hc => ?_) (fun hc => ?_)
 ·have hc : i < a.length := by simpa using hc
  rw [drop_step a zAct h1 hc, List.map_cons, List.sum_cons] at hR
  simp only at *
  rw [wrap_i64 (by omega) (by omega)]
  generalize List.getD a i.toNat zAct = x at *
  refine ⟨by omega, by omega, by omega, if_cond (fun h => Lf_i ?_) (fun h => ⟨⟨?_, by omega, by omega, ?_⟩, ?_⟩)⟩
  ·rw [← hR]; exact (szr_bad (of_decide_eq_true h)).symm
  ·simp at h; omega
  ·rw [← hR]; simp at h; exact szr_szr h
  ·simp only [Zm155_5]; omega
 ·have hc : a.length ≤ i := by simpa using hc
  rw [drop_end a hc] at hR
  apply Lf_i; rw [← hR]; simp [szr, h0]
def Zh155 : HH := ⟨_, Zo155⟩
def Zk170 : Con UU where
 α := (List DAct)
 md := [.ro]
 of := o1 (oL .lAct)
 ds := fun x => [dL .lAct x]
 pre := fun a => [sizeActS a ≤ 4294967296]
 res := fun a => ⟨[.one (.sl .eAct a)], true, []⟩
 law := l1 (lL .lAct)
def Zi170_3 (a : (List DAct)) : List DAct × Int × Unit → Prop := fun (out, i, _) => 0 ≤ i ∧ i ≤ a.length ∧ out = a.take i.toNat ++ List.replicate (a.length - i.toNat) zAct
def Zm170_3 (a : (List DAct)) : List DAct × Int × Unit → Nat := fun (out, i, _) => a.length - i.toNat
def Za170 : Zk170.α → Nat → Option (Ann UU) := fun a => annL [(3, annOf [.slot 3 (3, 1024) (.own .eAct true), .slot 4 (4, 1024) (.lit (.int .i64))] (fun _ => Zi170_3 a) (Zm170_3 a))]
def Zu170 := us [Zh214]
theorem Zv170 (a : (List DAct)) : goal EE Zu170 Go.Proofs.Tryz.f170 Zk170 Za170 a = (let x0 : Int := (a.length : Int);
(0 : Int) ≤ x0 ∧
 x0 = x0 ∧
  x0 ≤ (4294967296 : Int) ∧
   Zi170_3 a (List.replicate (Int.toNat x0) zAct, (0 : Int), PUnit.unit) ∧
    ∀ (y : List DAct × Int × PUnit),
     let x1 : Nat := Int.toNat y.2.1;
     Zi170_3 a y → bif decide (y.2.1 < x0) then (0 : Int) ≤ y.2.1 ∧ x1 < List.length a ∧ sizeAct (List.getD a x1 zAct) ≤ (4294967296 : Nat) ∧ (0 : Int) ≤ y.2.1 ∧ x1 < List.length y.1 ∧ x1 < List.length y.1 ∧ Zi170_3 a (List.set y.1 x1 (List.getD a x1 zAct), IntKind.wrap IntKind.i64 (y.2.1 + (1 : Int)), PUnit.unit) ∧ Zm170_3 a (List.set y.1 x1 (List.getD a x1 zAct), IntKind.wrap IntKind.i64 (y.2.1 + (1 : Int)), PUnit.unit) < Zm170_3 a y else Lf [DV.one (Cell.sl Cd.eAct y.1)] [DV.one (Cell.sl Cd.eAct a)]) := by kernel_rfl
theorem Zo170 : Holds EE (170, Zk170) := by
 refine holds_of EE_ok Go.Proofs.Tryz.func170 Zk170 (by kernel_rfl) Zu170 (us_ok _) Za170 (fun (a : (List DAct)) hp hb => ?_)
 have hl_a : a.length ≤ 9223372036854775807 := bdL (hb _ m0)
 have hp0 : sizeActS a ≤ 4294967296 := hp _ m0
 clear hp hb
 rw [Zv170 a]
 dsimp only
 have hlen : a.length ≤ 4294967296 := by simp only [sizeActS] at hp0; omega
 refine ⟨by omega, rfl, by omega, ?_, ?_⟩
 ·simp [Zi170_3]
 rintro ⟨out, i, ⟨⟩⟩ ⟨h1, h2, rfl⟩
 simp only at *
 refine if_cond (fun hc => ?_) (fun hc => ?_)
 ·have hc : i < a.length := by simpa using hc
  rw [wrap_i64 (by omega) (by omega), set_fill a zAct h1 hc]
  exact ⟨h1, by omega, by exact Nat.le_trans (sum_getD_le sizeAct a zAct h1 hc) (by simp only [sizeActS] at hp0; omega), h1, by simp; omega, by simp; omega, ⟨by omega, by omega, rfl⟩, by simp only [Zm170_3]; omega⟩
 ·have hc : a.length ≤ i := by simpa using hc
  have e : i.toNat = a.length := by omega
  rw [e]; simp; exact Lf_rfl _
def Zh170 : HH := ⟨_, Zo170⟩
def Zk191 : Con UU where
 α := (List DAct) × (List DAct)
 md := [.ro, .ro]
 of := oC (oL .eAct) (o1 (oL .eAct))
 ds := fun x => [dL .eAct x.1, dL .eAct x.2]
 pre := fun _ => []
 res := fun (a, b) => ⟨[.one (.lit (.bool (decide (a = b))))], true, []⟩
 law := lC (lL .eAct) (l1 (lL .eAct))
def Zi191_4 (a : (List DAct)) (b : (List DAct)) : Int × Unit → Prop := fun (i, _) => 0 ≤ i ∧ i ≤ a.length ∧ a.length = b.length ∧ (a.drop i.toNat = b.drop i.toNat ↔ a = b)
def Zm191_4 (a : (List DAct)) (b : (List DAct)) : Int × Unit → Nat := fun (i, _) => a.length - i.toNat
def Za191 : Zk191.α → Nat → Option (Ann UU) := fun (a, b) => annL [(4, annOf [.slot 5 (5, 1024) (.lit (.int .i64))] (fun _ => Zi191_4 a b) (Zm191_4 a b))]
def Zu191 := us [Zh225]
theorem Zv191 (a : (List DAct)) (b : (List DAct)) : goal EE Zu191 Go.Proofs.Tryz.f191 Zk191 Za191 (a, b) = (bif (a.length : Int) != (b.length : Int) then Lb false (decide (a = b)) else Zi191_4 a b ((0 : Int), ()) ∧ ∀ (y : Int × PUnit), Zi191_4 a b y → bif decide (y.1 < (a.length : Int)) then (0 : Int) ≤ y.1 ∧ y.1.toNat < a.length ∧ (0 : Int) ≤ y.1 ∧ y.1.toNat < b.length ∧ bif !decide (List.getD a y.1.toNat zAct = List.getD b y.1.toNat zAct) then Lb false (decide (a = b)) else Zi191_4 a b (IntKind.wrap IntKind.i64 (y.1 + (1 : Int)), ()) ∧ Zm191_4 a b (IntKind.wrap IntKind.i64 (y.1 + (1 : Int)), ()) < Zm191_4 a b y else Lb true (decide (a = b))) := by kernel_rfl
theorem Zo191 : Holds EE (191, Zk191) := by
 refine holds_of EE_ok Go.Proofs.Tryz.func191 Zk191 (by kernel_rfl) Zu191 (us_ok _) Za191 (fun x hp hb => ?_)
 obtain ⟨a, b⟩ := x
 have hl_a : a.length ≤ 9223372036854775807 := bdL (hb _ m0)
 have hl_b : b.length ≤ 9223372036854775807 := bdL (hb _ m1)
 clear hp hb
 rw [Zv191 a b]
 refine if_cond (fun h => Lf_f ?_) (fun h => ⟨?_, ?_⟩)
 ·rintro rfl; simp at h
 ·simp [Zi191_4] at *; omega
 rintro ⟨i, ⟨⟩⟩ ⟨h1, h2, h3, hR⟩
 simp only at *
 refine if_cond (fun hc => ?_) (fun hc => ?_)
 ·have hc : i < a.length := by simpa using hc
  rw [drop_step a zAct h1 hc, drop_step b zAct h1 (by omega)] at hR
  rw [wrap_i64 (by omega) (by omega)]
  refine ⟨by omega, by omega, by omega, by omega, if_cond (fun h => Lf_f ?_) (fun h => ⟨⟨by omega, by omega, h3, ?_⟩, ?_⟩)⟩
  ·rw [← hR]; simp at h; simp [h]
  ·rw [← hR]; simp at h; simp [h]
  ·simp only [Zm191_4]; omega
 ·have hc : a.length ≤ i := by simpa using hc
  rw [drop_end a hc, drop_end b (by omega)] at hR
  exact Lf_t (hR.1 rfl)
def Zh191 : HH := ⟨_, Zo191⟩
def Zk97 : Con UU where
 α := DRule × Int
 md := [.ro, .ro]
 of := oC (oA .lRule) (o1 oI)
 ds := fun x => [dA .lRule x.1, dI x.2]
 pre := fun (a, left) => [0 ≤ left]
 res := fun (a, left) => ⟨[.one (.lit (.int .i64 (szr left (sizeRule a))))], true, []⟩
 law := lC (lA .lRule) (l1 lI)
def Za97 : Zk97.α → Nat → Option (Ann UU) := fun (a, left) => annL []
def Zu97 := us [Zh153, Zh154, Zh155]
theorem Zv97 (a : DRule) (left : Int) : goal EE Zu97 Go.Proofs.Tryz.f97 Zk97 Za97 (a, left) = (let x0 : Int := szr (szr (IntKind.wrap IntKind.i64 (left - (↑(ByteArray.size a.Name) : Int))) (sizePatS a.Pats)) (sizeCondS a.Conds);
let x1 : Int := IntKind.wrap IntKind.i64 (left - (↑(ByteArray.size a.Name) : Int));
bif decide (x1 < (0 : Int)) then Lf [DV.one (Cell.lit (Value.int IntKind.i64 (-1 : Int)))] [DV.one (Cell.lit (Value.int IntKind.i64 (szr left (sizeRule a))))] else (0 : Int) ≤ x1 ∧ bif decide (szr x1 (sizePatS a.Pats) < (0 : Int)) then Lf [DV.one (Cell.lit (Value.int IntKind.i64 (-1 : Int)))] [DV.one (Cell.lit (Value.int IntKind.i64 (szr left (sizeRule a))))] else (0 : Int) ≤ szr x1 (sizePatS a.Pats) ∧ bif decide (x0 < (0 : Int)) then Lf [DV.one (Cell.lit (Value.int IntKind.i64 (-1 : Int)))] [DV.one (Cell.lit (Value.int IntKind.i64 (szr left (sizeRule a))))] else (0 : Int) ≤ x0 ∧ bif decide (szr x0 (sizeActS a.Acts) < (0 : Int)) then Lf [DV.one (Cell.lit (Value.int IntKind.i64 (-1 : Int)))] [DV.one (Cell.lit (Value.int IntKind.i64 (szr left (sizeRule a))))] else Lf [DV.one (Cell.lit (Value.int IntKind.i64 (szr x0 (sizeActS a.Acts))))] [DV.one (Cell.lit (Value.int IntKind.i64 (szr left (sizeRule a))))]) := by kernel_rfl
theorem Zo97 : Holds EE (97, Zk97) := by
 refine holds_of EE_ok Go.Proofs.Tryz.func97 Zk97 (by kernel_rfl) Zu97 (us_ok _) Za97 (fun x hp hb => ?_)
 obtain ⟨a, left⟩ := x
 have hz0 := bd_lRule (x := a) (hb _ m0)
 have hl_a_Name := hz0.1
 have hl_a_Pats := hz0.2.1
 have hl_a_Conds := hz0.2.2.1
 have hl_a_Acts := hz0.2.2.2
 have hl_left := bdI (n := left) (hb _ m1)
 have hp0 : 0 ≤ left := hp _ m0
 clear hp hb
 rw [Zv97 a left]
 dsimp only
 rw [wrap_i64 (by omega) (by omega)]
 refine if_cond (fun h => Lf_i (szr_bad' ?_)) (fun h => ?_)
 ·have h := of_decide_eq_true h; simp only [sizeRule]; omega
 have h0 := of_decide_eq_false h
 refine ⟨by omega, if_cond (fun h => Lf_i (szr_bad' ?_)) (fun h => ?_)⟩
 ·have h := szr_neg h; simp only [sizeRule]; omega
 obtain ⟨e1, h1⟩ := szr_pos h
 rw [e1]
 refine ⟨by omega, if_cond (fun h => Lf_i (szr_bad' ?_)) (fun h => ?_)⟩
 ·have h := szr_neg h; simp only [sizeRule]; omega
 obtain ⟨e2, h2⟩ := szr_pos h
 rw [e2]
 refine ⟨by omega, if_cond (fun h => Lf_i (szr_bad' ?_)) (fun h => ?_)⟩
 ·have h := szr_neg h; simp only [sizeRule]; omega
 obtain ⟨e3, h3⟩ := szr_pos h
 rw [e3]
 exact Lf_i (by rw [← szr_ok' (by simp only [sizeRule]; omega)]; simp only [sizeRule]; try omega)
def Zh97 : HH := ⟨_, Zo97⟩
def Zk110 : Con UU where
 α := DRule
 md := [.ro]
 of := o1 (oA .lRule)
 ds := fun x => [dA .lRule x]
 pre := fun a => [sizeRule a ≤ 4294967296]
 res := fun a => ⟨[.agg [.lit (.string a.Name), .lit (.int .i64 a.Sal), .sl .ePat a.Pats, .sl .eCond a.Conds, .sl .eAct a.Acts]], true, []⟩
 law := l1 (lA .lRule)
def Za110 : Zk110.α → Nat → Option (Ann UU) := fun a => annL []
def Zu110 := us [Zh168, Zh169, Zh170]
theorem Zv110 (a : DRule) : goal EE Zu110 Go.Proofs.Tryz.f110 Zk110 Za110 a = (sizePatS a.Pats ≤ (4294967296 : Nat) ∧ sizeCondS a.Conds ≤ (4294967296 : Nat) ∧ sizeActS a.Acts ≤ (4294967296 : Nat) ∧ Lf [DV.agg [Cell.lit (Value.string a.Name), Cell.lit (Value.int IntKind.i64 a.Sal), Cell.sl Cd.ePat a.Pats, Cell.sl Cd.eCond a.Conds, Cell.sl Cd.eAct a.Acts]] [DV.agg [Cell.lit (Value.string a.Name), Cell.lit (Value.int IntKind.i64 a.Sal), Cell.sl Cd.ePat a.Pats, Cell.sl Cd.eCond a.Conds, Cell.sl Cd.eAct a.Acts]]) := by kernel_rfl
theorem Zo110 : Holds EE (110, Zk110) := by
 refine holds_of EE_ok Go.Proofs.Tryz.func110 Zk110 (by kernel_rfl) Zu110 (us_ok _) Za110 (fun (a : DRule) hp hb => ?_)
 have hz0 := bd_lRule (x := a) (hb _ m0)
 have hl_a_Name := hz0.1
 have hl_a_Pats := hz0.2.1
 have hl_a_Conds := hz0.2.2.1
 have hl_a_Acts := hz0.2.2.2
 have hp0 : sizeRule a ≤ 4294967296 := hp _ m0
 clear hp hb
 rw [Zv110 a]
 simp only [sizeRule] at hp0
 repeat' (first | exact Lf_rfl _ | (refine And.intro (by omega) ?_))
def Zh110 : HH := ⟨_, Zo110⟩
def Zk128 : Con UU where
 α := DRule × DRule
 md := [.ro, .ro]
 of := oC (oA .eRule) (o1 (oA .eRule))
 ds := fun x => [dA .eRule x.1, dA .eRule x.2]
 pre := fun _ => []
 res := fun (a, b) => ⟨[.one (.lit (.bool (decide (a = b))))], true, []⟩
 law := lC (lA .eRule) (l1 (lA .eRule))
def Za128 : Zk128.α → Nat → Option (Ann UU) := fun (a, b) => annL []
def Zu128 := us [Zh189, Zh190, Zh191]
theorem Zv128 (a : DRule) (b : DRule) : goal EE Zu128 Go.Proofs.Tryz.f128 Zk128 Za128 (a, b) = (bif !ByteArray.toList a.Name == ByteArray.toList b.Name then Lb false (decide (a = b)) else bif a.Sal != b.Sal then Lb false (decide (a = b)) else bif !decide (a.Pats = b.Pats) then Lb false (decide (a = b)) else bif !decide (a.Conds = b.Conds) then Lb false (decide (a = b)) else bif !decide (a.Acts = b.Acts) then Lb false (decide (a = b)) else Lb true (decide (a = b))) := by kernel_rfl
theorem Zo128 : Holds EE (128, Zk128) := by
 refine holds_of EE_ok Go.Proofs.Tryz.func128 Zk128 (by kernel_rfl) Zu128 (us_ok _) Za128 (fun x hp hb => ?_)
 obtain ⟨a, b⟩ := x
 have hz0 := bd_eRule (x := a) (hb _ m0)
 have hl_a_Name := hz0.1
 have hl_a_Pats := hz0.2.1
 have hl_a_Conds := hz0.2.2.1
 have hl_a_Acts := hz0.2.2.2
 have hz1 := bd_eRule (x := b) (hb _ m1)
 have hl_b_Name := hz1.1
 have hl_b_Pats := hz1.2.1
 have hl_b_Conds := hz1.2.2.1
 have hl_b_Acts := hz1.2.2.2
 clear hp hb
 rw [Zv128 a b]
 obtain ⟨aName, aSal, aPats, aConds, aActs⟩ := a
 obtain ⟨bName, bSal, bPats, bConds, bActs⟩ := b
 repeat' (apply if_cond <;> intro _)
 all_goals (first | apply Lf_t | apply Lf_f) <;> simp_all
def Zh128 : HH := ⟨_, Zo128⟩
def Zk29 : Con UU where
 α := (List DRule) × Int
 md := [.ro, .ro]
 of := oC (oL .lRule) (o1 oI)
 ds := fun x => [dL .lRule x.1, dI x.2]
 pre := fun (a, left) => [0 ≤ left]
 res := fun (a, left) => ⟨[.one (.lit (.int .i64 (szr left (sizeRuleS a))))], true, []⟩
 law := lC (lL .lRule) (l1 lI)
def Zi29_5 (a : (List DRule)) (left : Int) : Int × Int × Unit → Prop := fun (lf, i, _) => 0 ≤ lf ∧ 0 ≤ i ∧ i ≤ a.length ∧ szr lf ((a.drop i.toNat).map sizeRule).sum = szr left (sizeRuleS a)
def Zm29_5 (a : (List DRule)) (left : Int) : Int × Int × Unit → Nat := fun (lf, i, _) => a.length - i.toNat
def Za29 : Zk29.α → Nat → Option (Ann UU) := fun (a, left) => annL [(5, annOf [.slot 1 (1, 1024) (.lit (.int .i64)), .slot 5 (5, 1024) (.lit (.int .i64))] (fun _ => Zi29_5 a left) (Zm29_5 a left))]
def Zu29 := us [Zh97]
theorem Zv29 (a : (List DRule)) (left : Int) : goal EE Zu29 Go.Proofs.Tryz.f29 Zk29 Za29 (a, left) = (let x0 : Int := IntKind.wrap IntKind.i64 (left - (a.length : Int));
bif decide (x0 < (0 : Int)) then Lf [DV.one (Cell.lit (Value.int IntKind.i64 (-1 : Int)))] [DV.one (Cell.lit (Value.int IntKind.i64 (szr left (sizeRuleS a))))]
else
 Zi29_5 a left (x0, (0 : Int), PUnit.unit) ∧
  ∀ (y : Int × Int × PUnit),
   let x1 : Int := szr y.1 (sizeRule (List.getD a (Int.toNat y.2.1) zRule));
   Zi29_5 a left y → bif decide (y.2.1 < (↑(List.length a) : Int)) then (0 : Int) ≤ y.2.1 ∧ Int.toNat y.2.1 < List.length a ∧ (0 : Int) ≤ y.1 ∧ bif decide (x1 < (0 : Int)) then Lf [DV.one (Cell.lit (Value.int IntKind.i64 (-1 : Int)))] [DV.one (Cell.lit (Value.int IntKind.i64 (szr left (sizeRuleS a))))] else Zi29_5 a left (x1, IntKind.wrap IntKind.i64 (y.2.1 + (1 : Int)), PUnit.unit) ∧ Zm29_5 a left (x1, IntKind.wrap IntKind.i64 (y.2.1 + (1 : Int)), PUnit.unit) < Zm29_5 a left y else Lf [DV.one (Cell.lit (Value.int IntKind.i64 y.1))] [DV.one (Cell.lit (Value.int IntKind.i64 (szr left (sizeRuleS a))))]) := by kernel_rfl
theorem Zo29 : Holds EE (29, Zk29) := by
 refine holds_of EE_ok Go.Proofs.Tryz.func29 Zk29 (by kernel_rfl) Zu29 (us_ok _) Za29 (fun x hp hb => ?_)
 obtain ⟨a, left⟩ := x
 have hl_a : a.length ≤ 9223372036854775807 := bdL (hb _ m0)
 have hl_left := bdI (n := left) (hb _ m1)
 have hp0 : 0 ≤ left := hp _ m0
 clear hp hb
 rw [Zv29 a left]
 dsimp only
 rw [wrap_i64 (by omega) (by omega)]
 refine if_cond (fun h => Lf_i ?_) (fun h => ⟨?_, ?_⟩)
 ·simp [szr, sizeRuleS] at *; omega
 ·simp only [Zi29_5, sizeRuleS]; simp at h; have h' : 0 ≤ left - a.length := by omega
  exact ⟨h', by omega, by omega, szr_sub h'⟩
 rintro ⟨lf, i, ⟨⟩⟩ ⟨h0, h1, h2, hR⟩
 refine if_cond (fun hc => ?_) (fun hc => ?_)
 ·have hc : i < a.length := by simpa using hc
  rw [drop_step a zRule h1 hc, List.map_cons, List.sum_cons] at hR
  simp only at *
  rw [wrap_i64 (by omega) (by omega)]
  generalize List.getD a i.toNat zRule = x at *
  refine ⟨by omega, by omega, by omega, if_cond (fun h => Lf_i ?_) (fun h => ⟨⟨?_, by omega, by omega, ?_⟩, ?_⟩)⟩
  ·rw [← hR]; exact (szr_bad (of_decide_eq_true h)).symm
  ·simp at h; omega
  ·rw [← hR]; simp at h; exact szr_szr h
  ·simp only [Zm29_5]; omega
 ·have hc : a.length ≤ i := by simpa using hc
  rw [drop_end a hc] at hR
  apply Lf_i; rw [← hR]; simp [szr, h0]
def Zh29 : HH := ⟨_, Zo29⟩
def Zk45 : Con UU where
 α := (List DRule)
 md := [.ro]
 of := o1 (oL .lRule)
 ds := fun x => [dL .lRule x]
 pre := fun a => [sizeRuleS a ≤ 4294967296]
 res := fun a => ⟨[.one (.sl .eRule a)], true, []⟩
 law := l1 (lL .lRule)
def Zi45_3 (a : (List DRule)) : List DRule × Int × Unit → Prop := fun (out, i, _) => 0 ≤ i ∧ i ≤ a.length ∧ out = a.take i.toNat ++ List.replicate (a.length - i.toNat) zRule
def Zm45_3 (a : (List DRule)) : List DRule × Int × Unit → Nat := fun (out, i, _) => a.length - i.toNat
def Za45 : Zk45.α → Nat → Option (Ann UU) := fun a => annL [(3, annOf [.slot 3 (3, 1024) (.own .eRule true), .slot 4 (4, 1024) (.lit (.int .i64))] (fun _ => Zi45_3 a) (Zm45_3 a))]
def Zu45 := us [Zh110]
theorem Zv45 (a : (List DRule)) : goal EE Zu45 Go.Proofs.Tryz.f45 Zk45 Za45 a = (let x0 : Int := (a.length : Int);
(0 : Int) ≤ x0 ∧
 x0 = x0 ∧
  x0 ≤ (4294967296 : Int) ∧
   Zi45_3 a (List.replicate (Int.toNat x0) zRule, (0 : Int), PUnit.unit) ∧
    ∀ (y : List DRule × Int × PUnit),
     let x1 : Nat := Int.toNat y.2.1;
     Zi45_3 a y → bif decide (y.2.1 < x0) then (0 : Int) ≤ y.2.1 ∧ x1 < List.length a ∧ sizeRule (List.getD a x1 zRule) ≤ (4294967296 : Nat) ∧ (0 : Int) ≤ y.2.1 ∧ x1 < List.length y.1 ∧ x1 < List.length y.1 ∧ Zi45_3 a (List.set y.1 x1 (List.getD a x1 zRule), IntKind.wrap IntKind.i64 (y.2.1 + (1 : Int)), PUnit.unit) ∧ Zm45_3 a (List.set y.1 x1 (List.getD a x1 zRule), IntKind.wrap IntKind.i64 (y.2.1 + (1 : Int)), PUnit.unit) < Zm45_3 a y else Lf [DV.one (Cell.sl Cd.eRule y.1)] [DV.one (Cell.sl Cd.eRule a)]) := by kernel_rfl
theorem Zo45 : Holds EE (45, Zk45) := by
 refine holds_of EE_ok Go.Proofs.Tryz.func45 Zk45 (by kernel_rfl) Zu45 (us_ok _) Za45 (fun (a : (List DRule)) hp hb => ?_)
 have hl_a : a.length ≤ 9223372036854775807 := bdL (hb _ m0)
 have hp0 : sizeRuleS a ≤ 4294967296 := hp _ m0
 clear hp hb
 rw [Zv45 a]
 dsimp only
 have hlen : a.length ≤ 4294967296 := by simp only [sizeRuleS] at hp0; omega
 refine ⟨by omega, rfl, by omega, ?_, ?_⟩
 ·simp [Zi45_3]
 rintro ⟨out, i, ⟨⟩⟩ ⟨h1, h2, rfl⟩
 simp only at *
 refine if_cond (fun hc => ?_) (fun hc => ?_)
 ·have hc : i < a.length := by simpa using hc
  rw [wrap_i64 (by omega) (by omega), set_fill a zRule h1 hc]
  exact ⟨h1, by omega, by exact Nat.le_trans (sum_getD_le sizeRule a zRule h1 hc) (by simp only [sizeRuleS] at hp0; omega), h1, by simp; omega, by simp; omega, ⟨by omega, by omega, rfl⟩, by simp only [Zm45_3]; omega⟩
 ·have hc : a.length ≤ i := by simpa using hc
  have e : i.toNat = a.length := by omega
  rw [e]; simp; exact Lf_rfl _
def Zh45 : HH := ⟨_, Zo45⟩
def Zk62 : Con UU where
 α := (List DRule) × (List DRule)
 md := [.ro, .ro]
 of := oC (oL .eRule) (o1 (oL .eRule))
 ds := fun x => [dL .eRule x.1, dL .eRule x.2]
 pre := fun _ => []
 res := fun (a, b) => ⟨[.one (.lit (.bool (decide (a = b))))], true, []⟩
 law := lC (lL .eRule) (l1 (lL .eRule))
def Zi62_4 (a : (List DRule)) (b : (List DRule)) : Int × Unit → Prop := fun (i, _) => 0 ≤ i ∧ i ≤ a.length ∧ a.length = b.length ∧ (a.drop i.toNat = b.drop i.toNat ↔ a = b)
def Zm62_4 (a : (List DRule)) (b : (List DRule)) : Int × Unit → Nat := fun (i, _) => a.length - i.toNat
def Za62 : Zk62.α → Nat → Option (Ann UU) := fun (a, b) => annL [(4, annOf [.slot 5 (5, 1024) (.lit (.int .i64))] (fun _ => Zi62_4 a b) (Zm62_4 a b))]
def Zu62 := us [Zh128]
theorem Zv62 (a : (List DRule)) (b : (List DRule)) : goal EE Zu62 Go.Proofs.Tryz.f62 Zk62 Za62 (a, b) = (bif (a.length : Int) != (b.length : Int) then Lb false (decide (a = b)) else Zi62_4 a b ((0 : Int), ()) ∧ ∀ (y : Int × PUnit), Zi62_4 a b y → bif decide (y.1 < (a.length : Int)) then (0 : Int) ≤ y.1 ∧ y.1.toNat < a.length ∧ (0 : Int) ≤ y.1 ∧ y.1.toNat < b.length ∧ bif !decide (List.getD a y.1.toNat zRule = List.getD b y.1.toNat zRule) then Lb false (decide (a = b)) else Zi62_4 a b (IntKind.wrap IntKind.i64 (y.1 + (1 : Int)), ()) ∧ Zm62_4 a b (IntKind.wrap IntKind.i64 (y.1 + (1 : Int)), ()) < Zm62_4 a b y else Lb true (decide (a = b))) := by kernel_rfl
theorem Zo62 : Holds EE (62, Zk62) := by
 refine holds_of EE_ok Go.Proofs.Tryz.func62 Zk62 (by kernel_rfl) Zu62 (us_ok _) Za62 (fun x hp hb => ?_)
 obtain ⟨a, b⟩ := x
 have hl_a : a.length ≤ 9223372036854775807 := bdL (hb _ m0)
 have hl_b : b.length ≤ 9223372036854775807 := bdL (hb _ m1)
 clear hp hb
 rw [Zv62 a b]
 refine if_cond (fun h => Lf_f ?_) (fun h => ⟨?_, ?_⟩)
 ·rintro rfl; simp at h
 ·simp [Zi62_4] at *; omega
 rintro ⟨i, ⟨⟩⟩ ⟨h1, h2, h3, hR⟩
 simp only at *
 refine if_cond (fun hc => ?_) (fun hc => ?_)
 ·have hc : i < a.length := by simpa using hc
  rw [drop_step a zRule h1 hc, drop_step b zRule h1 (by omega)] at hR
  rw [wrap_i64 (by omega) (by omega)]
  refine ⟨by omega, by omega, by omega, by omega, if_cond (fun h => Lf_f ?_) (fun h => ⟨⟨by omega, by omega, h3, ?_⟩, ?_⟩)⟩
  ·rw [← hR]; simp at h; simp [h]
  ·rw [← hR]; simp at h; simp [h]
  ·simp only [Zm62_4]; omega
 ·have hc : a.length ≤ i := by simpa using hc
  rw [drop_end a hc, drop_end b (by omega)] at hR
  exact Lf_t (hR.1 rfl)
def Zh62 : HH := ⟨_, Zo62⟩
def Zk6 : Con UU where
 α := DDef × Int
 md := [.ro, .ro]
 of := oC (oA .lDef) (o1 oI)
 ds := fun x => [dA .lDef x.1, dI x.2]
 pre := fun (a, left) => [0 ≤ left]
 res := fun (a, left) => ⟨[.one (.lit (.int .i64 (szr left (sizeDef a))))], true, []⟩
 law := lC (lA .lDef) (l1 lI)
def Za6 : Zk6.α → Nat → Option (Ann UU) := fun (a, left) => annL []
def Zu6 := us [Zh29]
theorem Zv6 (a : DDef) (left : Int) : goal EE Zu6 Go.Proofs.Tryz.f6 Zk6 Za6 (a, left) = (let x0 : Int := IntKind.wrap IntKind.i64 (left - (↑(ByteArray.size a.Name) : Int));
bif decide (x0 < (0 : Int)) then Lf [DV.one (Cell.lit (Value.int IntKind.i64 (-1 : Int)))] [DV.one (Cell.lit (Value.int IntKind.i64 (szr left (sizeDef a))))] else (0 : Int) ≤ x0 ∧ bif decide (szr x0 (sizeRuleS a.Rules) < (0 : Int)) then Lf [DV.one (Cell.lit (Value.int IntKind.i64 (-1 : Int)))] [DV.one (Cell.lit (Value.int IntKind.i64 (szr left (sizeDef a))))] else Lf [DV.one (Cell.lit (Value.int IntKind.i64 (szr x0 (sizeRuleS a.Rules))))] [DV.one (Cell.lit (Value.int IntKind.i64 (szr left (sizeDef a))))]) := by kernel_rfl
theorem Zo6 : Holds EE (6, Zk6) := by
 refine holds_of EE_ok Go.Proofs.Tryz.func6 Zk6 (by kernel_rfl) Zu6 (us_ok _) Za6 (fun x hp hb => ?_)
 obtain ⟨a, left⟩ := x
 have hz0 := bd_lDef (x := a) (hb _ m0)
 have hl_a_Name := hz0.1
 have hl_a_Rules := hz0.2
 have hl_left := bdI (n := left) (hb _ m1)
 have hp0 : 0 ≤ left := hp _ m0
 clear hp hb
 rw [Zv6 a left]
 dsimp only
 rw [wrap_i64 (by omega) (by omega)]
 refine if_cond (fun h => Lf_i (szr_bad' ?_)) (fun h => ?_)
 ·have h := of_decide_eq_true h; simp only [sizeDef]; omega
 have h0 := of_decide_eq_false h
 refine ⟨by omega, if_cond (fun h => Lf_i (szr_bad' ?_)) (fun h => ?_)⟩
 ·have h := szr_neg h; simp only [sizeDef]; omega
 obtain ⟨e1, h1⟩ := szr_pos h
 rw [e1]
 exact Lf_i (by rw [← szr_ok' (by simp only [sizeDef]; omega)]; simp only [sizeDef]; try omega)
def Zh6 : HH := ⟨_, Zo6⟩
def Zk9 : Con UU where
 α := DDef
 md := [.ro]
 of := o1 (oA .lDef)
 ds := fun x => [dA .lDef x]
 pre := fun a => [sizeDef a ≤ 4294967296]
 res := fun a => ⟨[.agg [.lit (.string a.Name), .sl .eRule a.Rules]], true, []⟩
 law := l1 (lA .lDef)
def Za9 : Zk9.α → Nat → Option (Ann UU) := fun a => annL []
def Zu9 := us [Zh45]
theorem Zv9 (a : DDef) : goal EE Zu9 Go.Proofs.Tryz.f9 Zk9 Za9 a = (sizeRuleS a.Rules ≤ (4294967296 : Nat) ∧ Lf [DV.agg [Cell.lit (Value.string a.Name), Cell.sl Cd.eRule a.Rules]] [DV.agg [Cell.lit (Value.string a.Name), Cell.sl Cd.eRule a.Rules]]) := by kernel_rfl
theorem Zo9 : Holds EE (9, Zk9) := by
 refine holds_of EE_ok Go.Proofs.Tryz.func9 Zk9 (by kernel_rfl) Zu9 (us_ok _) Za9 (fun (a : DDef) hp hb => ?_)
 have hz0 := bd_lDef (x := a) (hb _ m0)
 have hl_a_Name := hz0.1
 have hl_a_Rules := hz0.2
 have hp0 : sizeDef a ≤ 4294967296 := hp _ m0
 clear hp hb
 rw [Zv9 a]
 simp only [sizeDef] at hp0
 repeat' (first | exact Lf_rfl _ | (refine And.intro (by omega) ?_))
def Zh9 : HH := ⟨_, Zo9⟩
def Zk12 : Con UU where
 α := DDef × DDef
 md := [.ro, .ro]
 of := oC (oA .eDef) (o1 (oA .eDef))
 ds := fun x => [dA .eDef x.1, dA .eDef x.2]
 pre := fun _ => []
 res := fun (a, b) => ⟨[.one (.lit (.bool (decide (a = b))))], true, []⟩
 law := lC (lA .eDef) (l1 (lA .eDef))
def Za12 : Zk12.α → Nat → Option (Ann UU) := fun (a, b) => annL []
def Zu12 := us [Zh62]
theorem Zv12 (a : DDef) (b : DDef) : goal EE Zu12 Go.Proofs.Tryz.f12 Zk12 Za12 (a, b) = (bif !ByteArray.toList a.Name == ByteArray.toList b.Name then Lb false (decide (a = b)) else bif !decide (a.Rules = b.Rules) then Lb false (decide (a = b)) else Lb true (decide (a = b))) := by kernel_rfl
theorem Zo12 : Holds EE (12, Zk12) := by
 refine holds_of EE_ok Go.Proofs.Tryz.func12 Zk12 (by kernel_rfl) Zu12 (us_ok _) Za12 (fun x hp hb => ?_)
 obtain ⟨a, b⟩ := x
 have hz0 := bd_eDef (x := a) (hb _ m0)
 have hl_a_Name := hz0.1
 have hl_a_Rules := hz0.2
 have hz1 := bd_eDef (x := b) (hb _ m1)
 have hl_b_Name := hz1.1
 have hl_b_Rules := hz1.2
 clear hp hb
 rw [Zv12 a b]
 obtain ⟨aName, aRules⟩ := a
 obtain ⟨bName, bRules⟩ := b
 repeat' (apply if_cond <;> intro _)
 all_goals (first | apply Lf_t | apply Lf_f) <;> simp_all
def Zh12 : HH := ⟨_, Zo12⟩
def Zk19 : Con UU where
 α := DMatch × Int
 md := [.ro, .ro]
 of := oC (oA .lMatch) (o1 oI)
 ds := fun x => [dA .lMatch x.1, dI x.2]
 pre := fun (a, left) => [0 ≤ left]
 res := fun (a, left) => ⟨[.one (.lit (.int .i64 (szr left (sizeMatch a))))], true, []⟩
 law := lC (lA .lMatch) (l1 lI)
def Za19 : Zk19.α → Nat → Option (Ann UU) := fun (a, left) => annL []
def Zu19 := us [Zh80, Zh81]
theorem Zv19 (a : DMatch) (left : Int) : goal EE Zu19 Go.Proofs.Tryz.f19 Zk19 Za19 (a, left) = (let x0 : Int := szr (szr left (sizeIntS a.Ids)) (sizeBindS a.Binds);
(0 : Int) ≤ left ∧ bif decide (szr left (sizeIntS a.Ids) < (0 : Int)) then Lf [DV.one (Cell.lit (Value.int IntKind.i64 (-1 : Int)))] [DV.one (Cell.lit (Value.int IntKind.i64 (szr left (sizeMatch a))))] else (0 : Int) ≤ szr left (sizeIntS a.Ids) ∧ bif decide (x0 < (0 : Int)) then Lf [DV.one (Cell.lit (Value.int IntKind.i64 (-1 : Int)))] [DV.one (Cell.lit (Value.int IntKind.i64 (szr left (sizeMatch a))))] else Lf [DV.one (Cell.lit (Value.int IntKind.i64 x0))] [DV.one (Cell.lit (Value.int IntKind.i64 (szr left (sizeMatch a))))]) := by kernel_rfl
theorem Zo19 : Holds EE (19, Zk19) := by
 refine holds_of EE_ok Go.Proofs.Tryz.func19 Zk19 (by kernel_rfl) Zu19 (us_ok _) Za19 (fun x hp hb => ?_)
 obtain ⟨a, left⟩ := x
 have hz0 := bd_lMatch (x := a) (hb _ m0)
 have hl_a_Ids := hz0.1
 have hl_a_Binds := hz0.2
 have hl_left := bdI (n := left) (hb _ m1)
 have hp0 : 0 ≤ left := hp _ m0
 clear hp hb
 rw [Zv19 a left]
 dsimp only
 refine ⟨by omega, if_cond (fun h => Lf_i (szr_bad' ?_)) (fun h => ?_)⟩
 ·have h := szr_neg h; simp only [sizeMatch]; omega
 obtain ⟨e0, h0⟩ := szr_pos h
 rw [e0]
 refine ⟨by omega, if_cond (fun h => Lf_i (szr_bad' ?_)) (fun h => ?_)⟩
 ·have h := szr_neg h; simp only [sizeMatch]; omega
 obtain ⟨e1, h1⟩ := szr_pos h
 rw [e1]
 exact Lf_i (by rw [← szr_ok' (by simp only [sizeMatch]; omega)]; simp only [sizeMatch]; try omega)
def Zh19 : HH := ⟨_, Zo19⟩
def Zk21 : Con UU where
 α := DMatch
 md := [.ro]
 of := o1 (oA .lMatch)
 ds := fun x => [dA .lMatch x]
 pre := fun a => [sizeMatch a ≤ 4294967296]
 res := fun a => ⟨[.agg [.lit (.int .i64 a.Rule), .sl .int a.Ids, .sl .eBind a.Binds]], true, []⟩
 law := l1 (lA .lMatch)
def Za21 : Zk21.α → Nat → Option (Ann UU) := fun a => annL []
def Zu21 := us [Zh85, Zh86]
theorem Zv21 (a : DMatch) : goal EE Zu21 Go.Proofs.Tryz.f21 Zk21 Za21 a = (sizeIntS a.Ids ≤ (4294967296 : Nat) ∧ sizeBindS a.Binds ≤ (4294967296 : Nat) ∧ Lf [DV.agg [Cell.lit (Value.int IntKind.i64 a.Rule), Cell.sl Cd.int a.Ids, Cell.sl Cd.eBind a.Binds]] [DV.agg [Cell.lit (Value.int IntKind.i64 a.Rule), Cell.sl Cd.int a.Ids, Cell.sl Cd.eBind a.Binds]]) := by kernel_rfl
theorem Zo21 : Holds EE (21, Zk21) := by
 refine holds_of EE_ok Go.Proofs.Tryz.func21 Zk21 (by kernel_rfl) Zu21 (us_ok _) Za21 (fun (a : DMatch) hp hb => ?_)
 have hz0 := bd_lMatch (x := a) (hb _ m0)
 have hl_a_Ids := hz0.1
 have hl_a_Binds := hz0.2
 have hp0 : sizeMatch a ≤ 4294967296 := hp _ m0
 clear hp hb
 rw [Zv21 a]
 simp only [sizeMatch] at hp0
 repeat' (first | exact Lf_rfl _ | (refine And.intro (by omega) ?_))
def Zh21 : HH := ⟨_, Zo21⟩
def Zk24 : Con UU where
 α := DMatch × DMatch
 md := [.ro, .ro]
 of := oC (oA .eMatch) (o1 (oA .eMatch))
 ds := fun x => [dA .eMatch x.1, dA .eMatch x.2]
 pre := fun _ => []
 res := fun (a, b) => ⟨[.one (.lit (.bool (decide (a = b))))], true, []⟩
 law := lC (lA .eMatch) (l1 (lA .eMatch))
def Za24 : Zk24.α → Nat → Option (Ann UU) := fun (a, b) => annL []
def Zu24 := us [Zh89, Zh90]
theorem Zv24 (a : DMatch) (b : DMatch) : goal EE Zu24 Go.Proofs.Tryz.f24 Zk24 Za24 (a, b) = (bif a.Rule != b.Rule then Lb false (decide (a = b)) else bif !decide (a.Ids = b.Ids) then Lb false (decide (a = b)) else bif !decide (a.Binds = b.Binds) then Lb false (decide (a = b)) else Lb true (decide (a = b))) := by kernel_rfl
theorem Zo24 : Holds EE (24, Zk24) := by
 refine holds_of EE_ok Go.Proofs.Tryz.func24 Zk24 (by kernel_rfl) Zu24 (us_ok _) Za24 (fun x hp hb => ?_)
 obtain ⟨a, b⟩ := x
 have hz0 := bd_eMatch (x := a) (hb _ m0)
 have hl_a_Ids := hz0.1
 have hl_a_Binds := hz0.2
 have hz1 := bd_eMatch (x := b) (hb _ m1)
 have hl_b_Ids := hz1.1
 have hl_b_Binds := hz1.2
 clear hp hb
 rw [Zv24 a b]
 obtain ⟨aRule, aIds, aBinds⟩ := a
 obtain ⟨bRule, bIds, bBinds⟩ := b
 repeat' (apply if_cond <;> intro _)
 all_goals (first | apply Lf_t | apply Lf_f) <;> simp_all
def Zh24 : HH := ⟨_, Zo24⟩
def Zk31 : Con UU where
 α := (List DMatch) × Int
 md := [.ro, .ro]
 of := oC (oL .lMatch) (o1 oI)
 ds := fun x => [dL .lMatch x.1, dI x.2]
 pre := fun (a, left) => [0 ≤ left]
 res := fun (a, left) => ⟨[.one (.lit (.int .i64 (szr left (sizeMatchS a))))], true, []⟩
 law := lC (lL .lMatch) (l1 lI)
def Zi31_5 (a : (List DMatch)) (left : Int) : Int × Int × Unit → Prop := fun (lf, i, _) => 0 ≤ lf ∧ 0 ≤ i ∧ i ≤ a.length ∧ szr lf ((a.drop i.toNat).map sizeMatch).sum = szr left (sizeMatchS a)
def Zm31_5 (a : (List DMatch)) (left : Int) : Int × Int × Unit → Nat := fun (lf, i, _) => a.length - i.toNat
def Za31 : Zk31.α → Nat → Option (Ann UU) := fun (a, left) => annL [(5, annOf [.slot 1 (1, 1024) (.lit (.int .i64)), .slot 5 (5, 1024) (.lit (.int .i64))] (fun _ => Zi31_5 a left) (Zm31_5 a left))]
def Zu31 := us [Zh19]
theorem Zv31 (a : (List DMatch)) (left : Int) : goal EE Zu31 Go.Proofs.Tryz.f31 Zk31 Za31 (a, left) = (let x0 : Int := IntKind.wrap IntKind.i64 (left - (a.length : Int));
bif decide (x0 < (0 : Int)) then Lf [DV.one (Cell.lit (Value.int IntKind.i64 (-1 : Int)))] [DV.one (Cell.lit (Value.int IntKind.i64 (szr left (sizeMatchS a))))]
else
 Zi31_5 a left (x0, (0 : Int), PUnit.unit) ∧
  ∀ (y : Int × Int × PUnit),
   let x1 : Int := szr y.1 (sizeMatch (List.getD a (Int.toNat y.2.1) zMatch));
   Zi31_5 a left y → bif decide (y.2.1 < (↑(List.length a) : Int)) then (0 : Int) ≤ y.2.1 ∧ Int.toNat y.2.1 < List.length a ∧ (0 : Int) ≤ y.1 ∧ bif decide (x1 < (0 : Int)) then Lf [DV.one (Cell.lit (Value.int IntKind.i64 (-1 : Int)))] [DV.one (Cell.lit (Value.int IntKind.i64 (szr left (sizeMatchS a))))] else Zi31_5 a left (x1, IntKind.wrap IntKind.i64 (y.2.1 + (1 : Int)), PUnit.unit) ∧ Zm31_5 a left (x1, IntKind.wrap IntKind.i64 (y.2.1 + (1 : Int)), PUnit.unit) < Zm31_5 a left y else Lf [DV.one (Cell.lit (Value.int IntKind.i64 y.1))] [DV.one (Cell.lit (Value.int IntKind.i64 (szr left (sizeMatchS a))))]) := by kernel_rfl
theorem Zo31 : Holds EE (31, Zk31) := by
 refine holds_of EE_ok Go.Proofs.Tryz.func31 Zk31 (by kernel_rfl) Zu31 (us_ok _) Za31 (fun x hp hb => ?_)
 obtain ⟨a, left⟩ := x
 have hl_a : a.length ≤ 9223372036854775807 := bdL (hb _ m0)
 have hl_left := bdI (n := left) (hb _ m1)
 have hp0 : 0 ≤ left := hp _ m0
 clear hp hb
 rw [Zv31 a left]
 dsimp only
 rw [wrap_i64 (by omega) (by omega)]
 refine if_cond (fun h => Lf_i ?_) (fun h => ⟨?_, ?_⟩)
 ·simp [szr, sizeMatchS] at *; omega
 ·simp only [Zi31_5, sizeMatchS]; simp at h; have h' : 0 ≤ left - a.length := by omega
  exact ⟨h', by omega, by omega, szr_sub h'⟩
 rintro ⟨lf, i, ⟨⟩⟩ ⟨h0, h1, h2, hR⟩
 refine if_cond (fun hc => ?_) (fun hc => ?_)
 ·have hc : i < a.length := by simpa using hc
  rw [drop_step a zMatch h1 hc, List.map_cons, List.sum_cons] at hR
  simp only at *
  rw [wrap_i64 (by omega) (by omega)]
  generalize List.getD a i.toNat zMatch = x at *
  refine ⟨by omega, by omega, by omega, if_cond (fun h => Lf_i ?_) (fun h => ⟨⟨?_, by omega, by omega, ?_⟩, ?_⟩)⟩
  ·rw [← hR]; exact (szr_bad (of_decide_eq_true h)).symm
  ·simp at h; omega
  ·rw [← hR]; simp at h; exact szr_szr h
  ·simp only [Zm31_5]; omega
 ·have hc : a.length ≤ i := by simpa using hc
  rw [drop_end a hc] at hR
  apply Lf_i; rw [← hR]; simp [szr, h0]
def Zh31 : HH := ⟨_, Zo31⟩
def Zk47 : Con UU where
 α := (List DMatch)
 md := [.ro]
 of := o1 (oL .lMatch)
 ds := fun x => [dL .lMatch x]
 pre := fun a => [sizeMatchS a ≤ 4294967296]
 res := fun a => ⟨[.one (.sl .eMatch a)], true, []⟩
 law := l1 (lL .lMatch)
def Zi47_3 (a : (List DMatch)) : List DMatch × Int × Unit → Prop := fun (out, i, _) => 0 ≤ i ∧ i ≤ a.length ∧ out = a.take i.toNat ++ List.replicate (a.length - i.toNat) zMatch
def Zm47_3 (a : (List DMatch)) : List DMatch × Int × Unit → Nat := fun (out, i, _) => a.length - i.toNat
def Za47 : Zk47.α → Nat → Option (Ann UU) := fun a => annL [(3, annOf [.slot 3 (3, 1024) (.own .eMatch true), .slot 4 (4, 1024) (.lit (.int .i64))] (fun _ => Zi47_3 a) (Zm47_3 a))]
def Zu47 := us [Zh21]
theorem Zv47 (a : (List DMatch)) : goal EE Zu47 Go.Proofs.Tryz.f47 Zk47 Za47 a = (let x0 : Int := (a.length : Int);
(0 : Int) ≤ x0 ∧
 x0 = x0 ∧
  x0 ≤ (4294967296 : Int) ∧
   Zi47_3 a (List.replicate (Int.toNat x0) zMatch, (0 : Int), PUnit.unit) ∧
    ∀ (y : List DMatch × Int × PUnit),
     let x1 : Nat := Int.toNat y.2.1;
     Zi47_3 a y → bif decide (y.2.1 < x0) then (0 : Int) ≤ y.2.1 ∧ x1 < List.length a ∧ sizeMatch (List.getD a x1 zMatch) ≤ (4294967296 : Nat) ∧ (0 : Int) ≤ y.2.1 ∧ x1 < List.length y.1 ∧ x1 < List.length y.1 ∧ Zi47_3 a (List.set y.1 x1 (List.getD a x1 zMatch), IntKind.wrap IntKind.i64 (y.2.1 + (1 : Int)), PUnit.unit) ∧ Zm47_3 a (List.set y.1 x1 (List.getD a x1 zMatch), IntKind.wrap IntKind.i64 (y.2.1 + (1 : Int)), PUnit.unit) < Zm47_3 a y else Lf [DV.one (Cell.sl Cd.eMatch y.1)] [DV.one (Cell.sl Cd.eMatch a)]) := by kernel_rfl
theorem Zo47 : Holds EE (47, Zk47) := by
 refine holds_of EE_ok Go.Proofs.Tryz.func47 Zk47 (by kernel_rfl) Zu47 (us_ok _) Za47 (fun (a : (List DMatch)) hp hb => ?_)
 have hl_a : a.length ≤ 9223372036854775807 := bdL (hb _ m0)
 have hp0 : sizeMatchS a ≤ 4294967296 := hp _ m0
 clear hp hb
 rw [Zv47 a]
 dsimp only
 have hlen : a.length ≤ 4294967296 := by simp only [sizeMatchS] at hp0; omega
 refine ⟨by omega, rfl, by omega, ?_, ?_⟩
 ·simp [Zi47_3]
 rintro ⟨out, i, ⟨⟩⟩ ⟨h1, h2, rfl⟩
 simp only at *
 refine if_cond (fun hc => ?_) (fun hc => ?_)
 ·have hc : i < a.length := by simpa using hc
  rw [wrap_i64 (by omega) (by omega), set_fill a zMatch h1 hc]
  exact ⟨h1, by omega, by exact Nat.le_trans (sum_getD_le sizeMatch a zMatch h1 hc) (by simp only [sizeMatchS] at hp0; omega), h1, by simp; omega, by simp; omega, ⟨by omega, by omega, rfl⟩, by simp only [Zm47_3]; omega⟩
 ·have hc : a.length ≤ i := by simpa using hc
  have e : i.toNat = a.length := by omega
  rw [e]; simp; exact Lf_rfl _
def Zh47 : HH := ⟨_, Zo47⟩
def Zk64 : Con UU where
 α := (List DMatch) × (List DMatch)
 md := [.ro, .ro]
 of := oC (oL .eMatch) (o1 (oL .eMatch))
 ds := fun x => [dL .eMatch x.1, dL .eMatch x.2]
 pre := fun _ => []
 res := fun (a, b) => ⟨[.one (.lit (.bool (decide (a = b))))], true, []⟩
 law := lC (lL .eMatch) (l1 (lL .eMatch))
def Zi64_4 (a : (List DMatch)) (b : (List DMatch)) : Int × Unit → Prop := fun (i, _) => 0 ≤ i ∧ i ≤ a.length ∧ a.length = b.length ∧ (a.drop i.toNat = b.drop i.toNat ↔ a = b)
def Zm64_4 (a : (List DMatch)) (b : (List DMatch)) : Int × Unit → Nat := fun (i, _) => a.length - i.toNat
def Za64 : Zk64.α → Nat → Option (Ann UU) := fun (a, b) => annL [(4, annOf [.slot 5 (5, 1024) (.lit (.int .i64))] (fun _ => Zi64_4 a b) (Zm64_4 a b))]
def Zu64 := us [Zh24]
theorem Zv64 (a : (List DMatch)) (b : (List DMatch)) : goal EE Zu64 Go.Proofs.Tryz.f64 Zk64 Za64 (a, b) = (bif (a.length : Int) != (b.length : Int) then Lb false (decide (a = b)) else Zi64_4 a b ((0 : Int), ()) ∧ ∀ (y : Int × PUnit), Zi64_4 a b y → bif decide (y.1 < (a.length : Int)) then (0 : Int) ≤ y.1 ∧ y.1.toNat < a.length ∧ (0 : Int) ≤ y.1 ∧ y.1.toNat < b.length ∧ bif !decide (List.getD a y.1.toNat zMatch = List.getD b y.1.toNat zMatch) then Lb false (decide (a = b)) else Zi64_4 a b (IntKind.wrap IntKind.i64 (y.1 + (1 : Int)), ()) ∧ Zm64_4 a b (IntKind.wrap IntKind.i64 (y.1 + (1 : Int)), ()) < Zm64_4 a b y else Lb true (decide (a = b))) := by kernel_rfl
theorem Zo64 : Holds EE (64, Zk64) := by
 refine holds_of EE_ok Go.Proofs.Tryz.func64 Zk64 (by kernel_rfl) Zu64 (us_ok _) Za64 (fun x hp hb => ?_)
 obtain ⟨a, b⟩ := x
 have hl_a : a.length ≤ 9223372036854775807 := bdL (hb _ m0)
 have hl_b : b.length ≤ 9223372036854775807 := bdL (hb _ m1)
 clear hp hb
 rw [Zv64 a b]
 refine if_cond (fun h => Lf_f ?_) (fun h => ⟨?_, ?_⟩)
 ·rintro rfl; simp at h
 ·simp [Zi64_4] at *; omega
 rintro ⟨i, ⟨⟩⟩ ⟨h1, h2, h3, hR⟩
 simp only at *
 refine if_cond (fun hc => ?_) (fun hc => ?_)
 ·have hc : i < a.length := by simpa using hc
  rw [drop_step a zMatch h1 hc, drop_step b zMatch h1 (by omega)] at hR
  rw [wrap_i64 (by omega) (by omega)]
  refine ⟨by omega, by omega, by omega, by omega, if_cond (fun h => Lf_f ?_) (fun h => ⟨⟨by omega, by omega, h3, ?_⟩, ?_⟩)⟩
  ·rw [← hR]; simp at h; simp [h]
  ·rw [← hR]; simp at h; simp [h]
  ·simp only [Zm64_4]; omega
 ·have hc : a.length ≤ i := by simpa using hc
  rw [drop_end a hc, drop_end b (by omega)] at hR
  exact Lf_t (hR.1 rfl)
def Zh64 : HH := ⟨_, Zo64⟩
def Zk7 : Con UU where
 α := DInst × Int
 md := [.ro, .ro]
 of := oC (oA .lInst) (o1 oI)
 ds := fun x => [dA .lInst x.1, dI x.2]
 pre := fun (a, left) => [0 ≤ left]
 res := fun (a, left) => ⟨[.one (.lit (.int .i64 (szr left (sizeInst a))))], true, []⟩
 law := lC (lA .lInst) (l1 lI)
def Za7 : Zk7.α → Nat → Option (Ann UU) := fun (a, left) => annL []
def Zu7 := us [Zh30, Zh31, Zh32, Zh33, Zh34]
theorem Zv7 (a : DInst) (left : Int) : goal EE Zu7 Go.Proofs.Tryz.f7 Zk7 Za7 (a, left) = (let x0 : Int := szr (szr (szr (szr left (sizeStore a.S)) (sizeMatchS a.Fired)) (sizeTaskS a.Tasks)) (sizeTimerS a.Timers);
let x1 : Int := szr (szr left (sizeStore a.S)) (sizeMatchS a.Fired);
(0 : Int) ≤ left ∧ bif decide (szr left (sizeStore a.S) < (0 : Int)) then Lf [DV.one (Cell.lit (Value.int IntKind.i64 (-1 : Int)))] [DV.one (Cell.lit (Value.int IntKind.i64 (szr left (sizeInst a))))] else (0 : Int) ≤ szr left (sizeStore a.S) ∧ bif decide (x1 < (0 : Int)) then Lf [DV.one (Cell.lit (Value.int IntKind.i64 (-1 : Int)))] [DV.one (Cell.lit (Value.int IntKind.i64 (szr left (sizeInst a))))] else (0 : Int) ≤ x1 ∧ bif decide (szr x1 (sizeTaskS a.Tasks) < (0 : Int)) then Lf [DV.one (Cell.lit (Value.int IntKind.i64 (-1 : Int)))] [DV.one (Cell.lit (Value.int IntKind.i64 (szr left (sizeInst a))))] else (0 : Int) ≤ szr x1 (sizeTaskS a.Tasks) ∧ bif decide (x0 < (0 : Int)) then Lf [DV.one (Cell.lit (Value.int IntKind.i64 (-1 : Int)))] [DV.one (Cell.lit (Value.int IntKind.i64 (szr left (sizeInst a))))] else (0 : Int) ≤ x0 ∧ bif decide (szr x0 (sizeUndoS a.Undos) < (0 : Int)) then Lf [DV.one (Cell.lit (Value.int IntKind.i64 (-1 : Int)))] [DV.one (Cell.lit (Value.int IntKind.i64 (szr left (sizeInst a))))] else Lf [DV.one (Cell.lit (Value.int IntKind.i64 (szr x0 (sizeUndoS a.Undos))))] [DV.one (Cell.lit (Value.int IntKind.i64 (szr left (sizeInst a))))]) := by kernel_rfl
theorem Zo7 : Holds EE (7, Zk7) := by
 refine holds_of EE_ok Go.Proofs.Tryz.func7 Zk7 (by kernel_rfl) Zu7 (us_ok _) Za7 (fun x hp hb => ?_)
 obtain ⟨a, left⟩ := x
 have hz0 := bd_lInst (x := a) (hb _ m0)
 have hl_a_S_Items := hz0.1
 have hl_a_Fired := hz0.2.1
 have hl_a_Tasks := hz0.2.2.1
 have hl_a_Timers := hz0.2.2.2.1
 have hl_a_Undos := hz0.2.2.2.2
 have hl_left := bdI (n := left) (hb _ m1)
 have hp0 : 0 ≤ left := hp _ m0
 clear hp hb
 rw [Zv7 a left]
 dsimp only
 refine ⟨by omega, if_cond (fun h => Lf_i (szr_bad' ?_)) (fun h => ?_)⟩
 ·have h := szr_neg h; simp only [sizeInst]; omega
 obtain ⟨e0, h0⟩ := szr_pos h
 rw [e0]
 refine ⟨by omega, if_cond (fun h => Lf_i (szr_bad' ?_)) (fun h => ?_)⟩
 ·have h := szr_neg h; simp only [sizeInst]; omega
 obtain ⟨e1, h1⟩ := szr_pos h
 rw [e1]
 refine ⟨by omega, if_cond (fun h => Lf_i (szr_bad' ?_)) (fun h => ?_)⟩
 ·have h := szr_neg h; simp only [sizeInst]; omega
 obtain ⟨e2, h2⟩ := szr_pos h
 rw [e2]
 refine ⟨by omega, if_cond (fun h => Lf_i (szr_bad' ?_)) (fun h => ?_)⟩
 ·have h := szr_neg h; simp only [sizeInst]; omega
 obtain ⟨e3, h3⟩ := szr_pos h
 rw [e3]
 refine ⟨by omega, if_cond (fun h => Lf_i (szr_bad' ?_)) (fun h => ?_)⟩
 ·have h := szr_neg h; simp only [sizeInst]; omega
 obtain ⟨e4, h4⟩ := szr_pos h
 rw [e4]
 exact Lf_i (by rw [← szr_ok' (by simp only [sizeInst]; omega)]; simp only [sizeInst]; try omega)
def Zh7 : HH := ⟨_, Zo7⟩
def Zk10 : Con UU where
 α := DInst
 md := [.ro]
 of := o1 (oA .lInst)
 ds := fun x => [dA .lInst x]
 pre := fun a => [sizeInst a ≤ 4294967296]
 res := fun a => ⟨[.agg [.sl .eItem a.S.Items, .lit (.int .i64 a.S.Next), .sl .eMatch a.Fired, .sl .eTask a.Tasks, .sl .eTimer a.Timers, .sl .eUndo a.Undos, .lit (.int .i64 a.State), .lit (.int .i64 a.Now)]], true, []⟩
 law := l1 (lA .lInst)
def Za10 : Zk10.α → Nat → Option (Ann UU) := fun a => annL []
def Zu10 := us [Zh46, Zh47, Zh48, Zh49, Zh50]
theorem Zv10 (a : DInst) : goal EE Zu10 Go.Proofs.Tryz.f10 Zk10 Za10 a = (sizeStore a.S ≤ (4294967296 : Nat) ∧ sizeMatchS a.Fired ≤ (4294967296 : Nat) ∧ sizeTaskS a.Tasks ≤ (4294967296 : Nat) ∧ sizeTimerS a.Timers ≤ (4294967296 : Nat) ∧ sizeUndoS a.Undos ≤ (4294967296 : Nat) ∧ Lf [DV.agg [Cell.sl Cd.eItem a.S.Items, Cell.lit (Value.int IntKind.i64 a.S.Next), Cell.sl Cd.eMatch a.Fired, Cell.sl Cd.eTask a.Tasks, Cell.sl Cd.eTimer a.Timers, Cell.sl Cd.eUndo a.Undos, Cell.lit (Value.int IntKind.i64 a.State), Cell.lit (Value.int IntKind.i64 a.Now)]] [DV.agg [Cell.sl Cd.eItem a.S.Items, Cell.lit (Value.int IntKind.i64 a.S.Next), Cell.sl Cd.eMatch a.Fired, Cell.sl Cd.eTask a.Tasks, Cell.sl Cd.eTimer a.Timers, Cell.sl Cd.eUndo a.Undos, Cell.lit (Value.int IntKind.i64 a.State), Cell.lit (Value.int IntKind.i64 a.Now)]]) := by kernel_rfl
theorem Zo10 : Holds EE (10, Zk10) := by
 refine holds_of EE_ok Go.Proofs.Tryz.func10 Zk10 (by kernel_rfl) Zu10 (us_ok _) Za10 (fun (a : DInst) hp hb => ?_)
 have hz0 := bd_lInst (x := a) (hb _ m0)
 have hl_a_S_Items := hz0.1
 have hl_a_Fired := hz0.2.1
 have hl_a_Tasks := hz0.2.2.1
 have hl_a_Timers := hz0.2.2.2.1
 have hl_a_Undos := hz0.2.2.2.2
 have hp0 : sizeInst a ≤ 4294967296 := hp _ m0
 clear hp hb
 rw [Zv10 a]
 simp only [sizeInst] at hp0
 repeat' (first | exact Lf_rfl _ | (refine And.intro (by omega) ?_))
def Zh10 : HH := ⟨_, Zo10⟩
def Zk13 : Con UU where
 α := DInst × DInst
 md := [.ro, .ro]
 of := oC (oA .eInst) (o1 (oA .eInst))
 ds := fun x => [dA .eInst x.1, dA .eInst x.2]
 pre := fun _ => []
 res := fun (a, b) => ⟨[.one (.lit (.bool (decide (a = b))))], true, []⟩
 law := lC (lA .eInst) (l1 (lA .eInst))
def Za13 : Zk13.α → Nat → Option (Ann UU) := fun (a, b) => annL []
def Zu13 := us [Zh63, Zh64, Zh65, Zh66, Zh67]
theorem Zv13 (a : DInst) (b : DInst) : goal EE Zu13 Go.Proofs.Tryz.f13 Zk13 Za13 (a, b) = (bif !decide (a.S = b.S) then Lb false (decide (a = b)) else bif !decide (a.Fired = b.Fired) then Lb false (decide (a = b)) else bif !decide (a.Tasks = b.Tasks) then Lb false (decide (a = b)) else bif !decide (a.Timers = b.Timers) then Lb false (decide (a = b)) else bif !decide (a.Undos = b.Undos) then Lb false (decide (a = b)) else bif a.State != b.State then Lb false (decide (a = b)) else bif a.Now != b.Now then Lb false (decide (a = b)) else Lb true (decide (a = b))) := by kernel_rfl
theorem Zo13 : Holds EE (13, Zk13) := by
 refine holds_of EE_ok Go.Proofs.Tryz.func13 Zk13 (by kernel_rfl) Zu13 (us_ok _) Za13 (fun x hp hb => ?_)
 obtain ⟨a, b⟩ := x
 have hz0 := bd_eInst (x := a) (hb _ m0)
 have hl_a_S_Items := hz0.1
 have hl_a_Fired := hz0.2.1
 have hl_a_Tasks := hz0.2.2.1
 have hl_a_Timers := hz0.2.2.2.1
 have hl_a_Undos := hz0.2.2.2.2
 have hz1 := bd_eInst (x := b) (hb _ m1)
 have hl_b_S_Items := hz1.1
 have hl_b_Fired := hz1.2.1
 have hl_b_Tasks := hz1.2.2.1
 have hl_b_Timers := hz1.2.2.2.1
 have hl_b_Undos := hz1.2.2.2.2
 clear hp hb
 rw [Zv13 a b]
 obtain ⟨aS, aFired, aTasks, aTimers, aUndos, aState, aNow⟩ := a
 obtain ⟨bS, bFired, bTasks, bTimers, bUndos, bState, bNow⟩ := b
 repeat' (apply if_cond <;> intro _)
 all_goals (first | apply Lf_t | apply Lf_f) <;> simp_all
def Zh13 : HH := ⟨_, Zo13⟩
theorem firedM_ids {d : DDef} {s : List DItem} {m : DMatch} (h1 : hasR d m = true) (h2 : m.Binds.length = 0) (h3 : m.Ids.length = posN (List.getD d.Rules m.Rule.toNat zRule).Pats) : firedM d s m = m.Ids.all (hasId s) := by
 simp only [firedM, h1, decide_eq_true h2, decide_eq_true h3, Bool.true_and]
theorem ctInst_items (x : DInst) : sizeItemS x.S.Items ≤ sizeInst x := by
 simp only [sizeInst, sizeStore]; omega
theorem hasR_iff {d : DDef} {m : DMatch} (h : hasR d m = true) : 0 ≤ m.Rule ∧ m.Rule < (d.Rules.length : Int) := by
 simpa [hasR] using h
theorem posN_size {d : DDef} {m : DMatch} (h : hasR d m = true) : posN (List.getD d.Rules m.Rule.toNat zRule).Pats ≤ sizeDef d := by
 obtain ⟨h1, h2⟩ := hasR_iff h
 have hs := sum_getD_le sizeRule d.Rules zRule h1 h2
 have hle : posN (List.getD d.Rules m.Rule.toNat zRule).Pats ≤ (List.getD d.Rules m.Rule.toNat zRule).Pats.length := List.length_filter_le _ _
 simp only [sizeRule, sizePatS] at hs
 simp only [sizeDef, sizeRuleS, sizeRule, sizePatS]; omega
def Zk82 : Con UU where
 α := DDef × DMatch
 md := [.ro, .ro]
 of := oC (oA .eDef) (o1 (oA .eMatch))
 ds := fun x => [dA .eDef x.1, dA .eMatch x.2]
 pre := fun _ => []
 res := fun (d, m) => ⟨[.one (.lit (.bool (hasR d m)))], true, []⟩
 law := lC (lA .eDef) (l1 (lA .eMatch))
def Za82 : Zk82.α → Nat → Option (Ann UU) := fun (d, m) => annL []
def Zu82 : List (FuncId × Con UU) := []
theorem Zv82 (d : DDef) (m : DMatch) : goal EE Zu82 Go.Proofs.Tryz.f82 Zk82 Za82 (d, m) = (bif decide (m.Rule ≥ (0 : Int)) then Lb (decide (m.Rule < (d.Rules.length : Int))) (hasR d m) else Lb false (hasR d m)) := by kernel_rfl
theorem Zo82 : Holds EE (82, Zk82) := by
 refine holds_of EE_ok Go.Proofs.Tryz.func82 Zk82 (by kernel_rfl) Zu82 all_nil Za82 (fun x hp hb => ?_)
 obtain ⟨d, m⟩ := x
 have hz0 := bd_eDef (x := d) (hb _ m0)
 have hl_d_Name := hz0.1
 have hl_d_Rules := hz0.2
 have hz1 := bd_eMatch (x := m) (hb _ m1)
 have hl_m_Ids := hz1.1
 have hl_m_Binds := hz1.2
 clear hp hb
 rw [Zv82 d m]
 simp only [hasR]
 refine if_dec (fun h => Lf_b ?_) (fun h => Lf_b ?_)
 ·rw [decide_eq_true (show 0 ≤ m.Rule from h), Bool.true_and]
 ·rw [decide_eq_false (show ¬ 0 ≤ m.Rule from h), Bool.false_and]
def Zh82 : HH := ⟨_, Zo82⟩
def Zk124 : Con UU where
 α := DDef × DMatch
 md := [.ro, .ro]
 of := oC (oA .eDef) (o1 (oA .eMatch))
 ds := fun x => [dA .eDef x.1, dA .eMatch x.2]
 pre := fun _ => []
 res := fun (d, m) => ⟨[.one (.lit (.bool (hasR d m)))], true, []⟩
 law := lC (lA .eDef) (l1 (lA .eMatch))
def Za124 : Zk124.α → Nat → Option (Ann UU) := fun (d, m) => annL []
def Zu124 : List (FuncId × Con UU) := []
theorem Zv124 (d : DDef) (m : DMatch) : goal EE Zu124 Go.Proofs.Tryz.f124 Zk124 Za124 (d, m) = (bif decide (m.Rule ≥ (0 : Int)) then Lb (decide (m.Rule < (d.Rules.length : Int))) (hasR d m) else Lb false (hasR d m)) := by kernel_rfl
theorem Zo124 : Holds EE (124, Zk124) := by
 refine holds_of EE_ok Go.Proofs.Tryz.func124 Zk124 (by kernel_rfl) Zu124 all_nil Za124 (fun x hp hb => ?_)
 obtain ⟨d, m⟩ := x
 have hz0 := bd_eDef (x := d) (hb _ m0)
 have hl_d_Name := hz0.1
 have hl_d_Rules := hz0.2
 have hz1 := bd_eMatch (x := m) (hb _ m1)
 have hl_m_Ids := hz1.1
 have hl_m_Binds := hz1.2
 clear hp hb
 rw [Zv124 d m]
 simp only [hasR]
 refine if_dec (fun h => Lf_b ?_) (fun h => Lf_b ?_)
 ·rw [decide_eq_true (show 0 ≤ m.Rule from h), Bool.true_and]
 ·rw [decide_eq_false (show ¬ 0 ≤ m.Rule from h), Bool.false_and]
def Zh124 : HH := ⟨_, Zo124⟩
def Zk41 : Con UU where
 α := DDef × DInst
 md := [.ro, .ro]
 of := oC (oA .eDef) (o1 (oA .eInst))
 ds := fun x => [dA .eDef x.1, dA .eInst x.2]
 pre := fun (d, x) => [sizeDef d ≤ 4294967295, sizeItemS x.S.Items ≤ 4294967296]
 res := fun (d, x) => ⟨[.one (.lit (.bool (firedOk d x)))], true, []⟩
 law := lC (lA .eDef) (l1 (lA .eInst))
def Zi41_2 (d : DDef) (x : DInst) : Int × (ByteArray × List DRule × Unit) × (List DItem × Int × List DMatch × List DTask × List DTimer × List DUndo × Int × Int × Unit) × Unit → Prop := fun (i, b, g, _) => b = (d.Name, d.Rules, ()) ∧ g = (x.S.Items, x.S.Next, x.Fired, x.Tasks, x.Timers, x.Undos, x.State, x.Now, ()) ∧ 0 ≤ i ∧ i ≤ x.Fired.length ∧ (x.Fired.drop i.toNat).all (firedM d x.S.Items) = x.Fired.all (firedM d x.S.Items)
def Zm41_2 (d : DDef) (x : DInst) : Int × (ByteArray × List DRule × Unit) × (List DItem × Int × List DMatch × List DTask × List DTimer × List DUndo × Int × Int × Unit) × Unit → Nat := fun (i, b, g, _) => x.Fired.length - i.toNat
def Zi41_8 (d : DDef) (x : DInst) : Int × Int × (ByteArray × List DRule × Unit) × (List DItem × Int × List DMatch × List DTask × List DTimer × List DUndo × Int × Int × Unit) × (Int × List Int × List DBind × Unit) × Unit → Int × Int × (ByteArray × List DRule × Unit) × (List DItem × Int × List DMatch × List DTask × List DTimer × List DUndo × Int × Int × Unit) × (Int × List Int × List DBind × Unit) × Unit → Prop := fun (i0, k0, b0, g0, m0, _) (i, k, b, g, m, _) => i = i0 ∧ b = b0 ∧ g = g0 ∧ m = m0 ∧ 0 ≤ k ∧ k ≤ (List.getD x.Fired i.toNat zMatch).Ids.length ∧ ((List.getD x.Fired i.toNat zMatch).Ids.drop k.toNat).all (hasId x.S.Items) = (List.getD x.Fired i.toNat zMatch).Ids.all (hasId x.S.Items)
def Zm41_8 (d : DDef) (x : DInst) : Int × Int × (ByteArray × List DRule × Unit) × (List DItem × Int × List DMatch × List DTask × List DTimer × List DUndo × Int × Int × Unit) × (Int × List Int × List DBind × Unit) × Unit → Nat := fun (i, k, b, g, m, _) => (List.getD x.Fired i.toNat zMatch).Ids.length - k.toNat
def Za41 : Zk41.α → Nat → Option (Ann UU) := fun (d, x) => annL [(2, annOf [.slot 5 (5, 1024) (.lit (.int .i64)), .box 2 (2, 1024) [.lit .str, .shr .eRule], .box 3 (3, 1024) [.shr .eItem, .lit (.int .i64), .shr .eMatch, .shr .eTask, .shr .eTimer, .shr .eUndo, .lit (.int .i64), .lit (.int .i64)]] (fun _ => Zi41_2 d x) (Zm41_2 d x)), (8, annOf [.slot 5 (5, 1024) (.lit (.int .i64)), .slot 7 (7, 1024) (.lit (.int .i64)), .box 2 (2, 1024) [.lit .str, .shr .eRule], .box 3 (3, 1024) [.shr .eItem, .lit (.int .i64), .shr .eMatch, .shr .eTask, .shr .eTimer, .shr .eUndo, .lit (.int .i64), .lit (.int .i64)], .box 6 (6, 1024) [.lit (.int .i64), .shr .int, .shr .eBind]] (Zi41_8 d x) (Zm41_8 d x))]
def Zu41 := us [Zh82, Zh83, Zh109]
theorem Zv41 (d : DDef) (x : DInst) : goal EE Zu41 Go.Proofs.Tryz.f41 Zk41 Za41 (d, x) = (Zi41_2 d x ((0 : Int), (d.Name, d.Rules, ()), (x.S.Items, x.S.Next, x.Fired, x.Tasks, x.Timers, x.Undos, x.State, x.Now, ()), ()) ∧
 ∀ (y : Int × (ByteArray × List DRule × PUnit) × (List DItem × Int × List DMatch × List DTask × List DTimer × List DUndo × Int × Int × PUnit) × PUnit),
  let x0 : DMatch := List.getD y.2.2.1.2.2.1 (Int.toNat y.1) zMatch;
  let x1 : Int := (↑(List.length y.2.2.1.2.2.1) : Int);
  Zi41_2 d x y →
   bif decide (y.1 < x1) then
    (0 : Int) ≤ y.1 ∧
     Int.toNat y.1 < List.length y.2.2.1.2.2.1 ∧
      bif !hasR { Name := y.2.1.1, Rules := y.2.1.2.1 : DDef } x0 then Lf [DV.one (Cell.lit (Value.bool false))] [DV.one (Cell.lit (Value.bool (firedOk d x)))]
      else
       bif (↑(List.length x0.Binds) : Int) != (0 : Int) then Lf [DV.one (Cell.lit (Value.bool false))] [DV.one (Cell.lit (Value.bool (firedOk d x)))]
       else
        (0 : Int) ≤ x0.Rule ∧
         Int.toNat x0.Rule < List.length y.2.1.2.1 ∧
          bif (↑(List.length x0.Ids) : Int) != (↑(posN (List.getD y.2.1.2.1 (Int.toNat x0.Rule) zRule).Pats) : Int) then Lf [DV.one (Cell.lit (Value.bool false))] [DV.one (Cell.lit (Value.bool (firedOk d x)))]
          else
           Zi41_8 d x (y.1, (0 : Int), (y.2.1.1, y.2.1.2.1, PUnit.unit), (y.2.2.1.1, y.2.2.1.2.1, y.2.2.1.2.2.1, y.2.2.1.2.2.2.1, y.2.2.1.2.2.2.2.1, y.2.2.1.2.2.2.2.2.1, y.2.2.1.2.2.2.2.2.2.1, y.2.2.1.2.2.2.2.2.2.2.1, PUnit.unit), (x0.Rule, x0.Ids, x0.Binds, PUnit.unit), PUnit.unit) (y.1, (0 : Int), (y.2.1.1, y.2.1.2.1, PUnit.unit), (y.2.2.1.1, y.2.2.1.2.1, y.2.2.1.2.2.1, y.2.2.1.2.2.2.1, y.2.2.1.2.2.2.2.1, y.2.2.1.2.2.2.2.2.1, y.2.2.1.2.2.2.2.2.2.1, y.2.2.1.2.2.2.2.2.2.2.1, PUnit.unit), (x0.Rule, x0.Ids, x0.Binds, PUnit.unit), PUnit.unit) ∧
            ∀ (y_1 : Int × Int × (ByteArray × List DRule × PUnit) × (List DItem × Int × List DMatch × List DTask × List DTimer × List DUndo × Int × Int × PUnit) × (Int × List Int × List DBind × PUnit) × PUnit),
             let x2 : Int := (↑(List.length y_1.2.2.2.2.1.2.1) : Int);
             let x3 : Nat := Int.toNat y_1.2.1;
             Zi41_8 d x (y.1, (0 : Int), (y.2.1.1, y.2.1.2.1, PUnit.unit), (y.2.2.1.1, y.2.2.1.2.1, y.2.2.1.2.2.1, y.2.2.1.2.2.2.1, y.2.2.1.2.2.2.2.1, y.2.2.1.2.2.2.2.2.1, y.2.2.1.2.2.2.2.2.2.1, y.2.2.1.2.2.2.2.2.2.2.1, PUnit.unit), (x0.Rule, x0.Ids, x0.Binds, PUnit.unit), PUnit.unit) y_1 → bif decide (y_1.2.1 < x2) then (0 : Int) ≤ y_1.2.1 ∧ x3 < List.length y_1.2.2.2.2.1.2.1 ∧ sizeItemS y_1.2.2.2.1.1 ≤ (4294967296 : Nat) ∧ bif !hasId y_1.2.2.2.1.1 (List.getD y_1.2.2.2.2.1.2.1 x3 (0 : Int)) then Lf [DV.one (Cell.lit (Value.bool false))] [DV.one (Cell.lit (Value.bool (firedOk d x)))] else Zi41_8 d x (y.1, (0 : Int), (y.2.1.1, y.2.1.2.1, PUnit.unit), (y.2.2.1.1, y.2.2.1.2.1, y.2.2.1.2.2.1, y.2.2.1.2.2.2.1, y.2.2.1.2.2.2.2.1, y.2.2.1.2.2.2.2.2.1, y.2.2.1.2.2.2.2.2.2.1, y.2.2.1.2.2.2.2.2.2.2.1, PUnit.unit), (x0.Rule, x0.Ids, x0.Binds, PUnit.unit), PUnit.unit) (y_1.1, IntKind.wrap IntKind.i64 (y_1.2.1 + (1 : Int)), (y_1.2.2.1.1, y_1.2.2.1.2.1, PUnit.unit), (y_1.2.2.2.1.1, y_1.2.2.2.1.2.1, y_1.2.2.2.1.2.2.1, y_1.2.2.2.1.2.2.2.1, y_1.2.2.2.1.2.2.2.2.1, y_1.2.2.2.1.2.2.2.2.2.1, y_1.2.2.2.1.2.2.2.2.2.2.1, y_1.2.2.2.1.2.2.2.2.2.2.2.1, PUnit.unit), (y_1.2.2.2.2.1.1, y_1.2.2.2.2.1.2.1, y_1.2.2.2.2.1.2.2.1, PUnit.unit), PUnit.unit) ∧ Zm41_8 d x (y_1.1, IntKind.wrap IntKind.i64 (y_1.2.1 + (1 : Int)), (y_1.2.2.1.1, y_1.2.2.1.2.1, PUnit.unit), (y_1.2.2.2.1.1, y_1.2.2.2.1.2.1, y_1.2.2.2.1.2.2.1, y_1.2.2.2.1.2.2.2.1, y_1.2.2.2.1.2.2.2.2.1, y_1.2.2.2.1.2.2.2.2.2.1, y_1.2.2.2.1.2.2.2.2.2.2.1, y_1.2.2.2.1.2.2.2.2.2.2.2.1, PUnit.unit), (y_1.2.2.2.2.1.1, y_1.2.2.2.2.1.2.1, y_1.2.2.2.2.1.2.2.1, PUnit.unit), PUnit.unit) < Zm41_8 d x y_1 else Zi41_2 d x (IntKind.wrap IntKind.i64 (y_1.1 + (1 : Int)), (y_1.2.2.1.1, y_1.2.2.1.2.1, PUnit.unit), (y_1.2.2.2.1.1, y_1.2.2.2.1.2.1, y_1.2.2.2.1.2.2.1, y_1.2.2.2.1.2.2.2.1, y_1.2.2.2.1.2.2.2.2.1, y_1.2.2.2.1.2.2.2.2.2.1, y_1.2.2.2.1.2.2.2.2.2.2.1, y_1.2.2.2.1.2.2.2.2.2.2.2.1, PUnit.unit), PUnit.unit) ∧ Zm41_2 d x (IntKind.wrap IntKind.i64 (y_1.1 + (1 : Int)), (y_1.2.2.1.1, y_1.2.2.1.2.1, PUnit.unit), (y_1.2.2.2.1.1, y_1.2.2.2.1.2.1, y_1.2.2.2.1.2.2.1, y_1.2.2.2.1.2.2.2.1, y_1.2.2.2.1.2.2.2.2.1, y_1.2.2.2.1.2.2.2.2.2.1, y_1.2.2.2.1.2.2.2.2.2.2.1, y_1.2.2.2.1.2.2.2.2.2.2.2.1, PUnit.unit), PUnit.unit) < Zm41_2 d x y
   else Lf [DV.one (Cell.lit (Value.bool (decide (x1 ≤ (1000 : Int)))))] [DV.one (Cell.lit (Value.bool (firedOk d x)))]) := by kernel_rfl
theorem Zo41 : Holds EE (41, Zk41) := by
 refine holds_of EE_ok Go.Proofs.Tryz.func41 Zk41 (by kernel_rfl) Zu41 (us_ok _) Za41 (fun x hp hb => ?_)
 obtain ⟨d, x⟩ := x
 have hz0 := bd_eDef (x := d) (hb _ m0)
 have hl_d_Name := hz0.1
 have hl_d_Rules := hz0.2
 have hz1 := bd_eInst (x := x) (hb _ m1)
 have hl_x_S_Items := hz1.1
 have hl_x_Fired := hz1.2.1
 have hl_x_Tasks := hz1.2.2.1
 have hl_x_Timers := hz1.2.2.2.1
 have hl_x_Undos := hz1.2.2.2.2
 have hp0 : sizeDef d ≤ 4294967295 := hp _ m0
 have hp1 : sizeItemS x.S.Items ≤ 4294967296 := hp _ m1
 clear hp hb
 rw [Zv41 d x]
 dsimp only
 refine ⟨⟨rfl, rfl, by omega, by omega, rfl⟩, ?_⟩
 rintro ⟨i, ⟨b1, b2, ⟨⟩⟩, ⟨g1, g2, g3, g4, g5, g6, g7, g8, ⟨⟩⟩, ⟨⟩⟩ ⟨hb, hg, h1, h2, hR⟩
 cases hb
 cases hg
 simp only
 refine if_dec (fun hc => ?_) (fun hc => ?_)
 ·rw [all_step _ _ zMatch h1 hc] at hR
  have hN : firedM d x.S.Items (List.getD x.Fired i.toNat zMatch) = false → firedOk d x = false := fun h => by simp only [firedOk, ← hR, h, Bool.false_and, Bool.and_false]
  refine ⟨by omega, by omega, if_not (fun a => Lf_ff (hN ?_)) (fun a => if_not (fun b => Lf_ff (hN ?_)) (fun b => ?_))⟩
  ·have a : hasR d (List.getD x.Fired i.toNat zMatch) = false := a
   simp only [firedM, a, Bool.false_and]
  ·have b : ¬ (List.getD x.Fired i.toNat zMatch).Binds.length = 0 := by simpa using b
   simp only [firedM, decide_eq_false b, Bool.false_and, Bool.and_false]
  have a : hasR d (List.getD x.Fired i.toNat zMatch) = true := a
  have b : (List.getD x.Fired i.toNat zMatch).Binds.length = 0 := by simpa using b
  obtain ⟨r1, r2⟩ := hasR_iff a
  have hz := posN_size a
  refine ⟨r1, by omega, if_not (fun c => Lf_ff (hN ?_)) (fun c => ⟨⟨rfl, rfl, rfl, rfl, by omega, by omega, rfl⟩, ?_⟩)⟩
  ·have c : ¬ (List.getD x.Fired i.toNat zMatch).Ids.length = posN (List.getD d.Rules (List.getD x.Fired i.toNat zMatch).Rule.toNat zRule).Pats := fun e => by rw [e] at c; simp at c
   simp only [firedM, decide_eq_false c, Bool.false_and, Bool.and_false]
  have c : (List.getD x.Fired i.toNat zMatch).Ids.length = posN (List.getD d.Rules (List.getD x.Fired i.toNat zMatch).Rule.toNat zRule).Pats := by
   have c := eq_of_beq c
   omega
  have hM := firedM_ids (s := x.S.Items) a b c
  rintro ⟨i', k, ⟨b1, b2, ⟨⟩⟩, ⟨g1, g2, g3, g4, g5, g6, g7, g8, ⟨⟩⟩, ⟨m1, m2, m3, ⟨⟩⟩, ⟨⟩⟩ ⟨rfl, hb, hg, hm, k1, k2, kR⟩
  cases hb
  cases hg
  cases hm
  simp only
  refine if_dec (fun hk => ?_) (fun hk => ?_)
  ·rw [all_step _ _ 0 k1 hk] at kR
   rw [wrap_i64 (n := k + 1) (by omega) (by omega)]
   exact ⟨by omega, by omega, hp1, if_not (fun e => Lf_ff (hN (by rw [hM, ← kR, e, Bool.false_and]))) (fun e => ⟨⟨rfl, rfl, rfl, rfl, by omega, by omega, by rw [← kR, e, Bool.true_and]⟩, by simp only [Zm41_8]; omega⟩)⟩
  ·rw [drop_end _ (by omega)] at kR
   rw [wrap_i64 (n := i' + 1) (by omega) (by omega)]
   exact ⟨⟨rfl, rfl, by omega, by omega, by rw [← hR, hM, ← kR]; rfl⟩, by simp only [Zm41_2]; omega⟩
 ·rw [drop_end _ (by omega)] at hR
  refine Lf_b ?_
  simp only [firedOk, ← hR, List.all_nil, Bool.and_true]; exact decide_eq_decide.2 (by omega)
def Zh41 : HH := ⟨_, Zo41⟩
def Zk58 : Con UU where
 α := DDef × DInst
 md := [.ro, .ro]
 of := oC (oA .eDef) (o1 (oA .eInst))
 ds := fun x => [dA .eDef x.1, dA .eInst x.2]
 pre := fun (d, x) => [sizeDef d ≤ 4294967295, sizeItemS x.S.Items ≤ 4294967296]
 res := fun (d, x) => ⟨[.one (.lit (.bool (firedOk d x)))], true, []⟩
 law := lC (lA .eDef) (l1 (lA .eInst))
def Zi58_4 (d : DDef) (x : DInst) : Int × (ByteArray × List DRule × Unit) × (List DItem × Int × List DMatch × List DTask × List DTimer × List DUndo × Int × Int × Unit) × Unit → Prop := fun (i, b, g, _) => b = (d.Name, d.Rules, ()) ∧ g = (x.S.Items, x.S.Next, x.Fired, x.Tasks, x.Timers, x.Undos, x.State, x.Now, ()) ∧ x.Fired.length ≤ 1000 ∧ 0 ≤ i ∧ i ≤ x.Fired.length ∧ (x.Fired.drop i.toNat).all (firedM d x.S.Items) = x.Fired.all (firedM d x.S.Items)
def Zm58_4 (d : DDef) (x : DInst) : Int × (ByteArray × List DRule × Unit) × (List DItem × Int × List DMatch × List DTask × List DTimer × List DUndo × Int × Int × Unit) × Unit → Nat := fun (i, b, g, _) => x.Fired.length - i.toNat
def Zi58_9 (d : DDef) (x : DInst) : Int × Int × (ByteArray × List DRule × Unit) × (List DItem × Int × List DMatch × List DTask × List DTimer × List DUndo × Int × Int × Unit) × Unit → Int × Int × (ByteArray × List DRule × Unit) × (List DItem × Int × List DMatch × List DTask × List DTimer × List DUndo × Int × Int × Unit) × Unit → Prop := fun (i0, k0, b0, g0, _) (i, k, b, g, _) => i = i0 ∧ b = b0 ∧ g = g0 ∧ 0 ≤ k ∧ k ≤ (List.getD x.Fired i.toNat zMatch).Ids.length ∧ ((List.getD x.Fired i.toNat zMatch).Ids.drop k.toNat).all (hasId x.S.Items) = (List.getD x.Fired i.toNat zMatch).Ids.all (hasId x.S.Items)
def Zm58_9 (d : DDef) (x : DInst) : Int × Int × (ByteArray × List DRule × Unit) × (List DItem × Int × List DMatch × List DTask × List DTimer × List DUndo × Int × Int × Unit) × Unit → Nat := fun (i, k, b, g, _) => (List.getD x.Fired i.toNat zMatch).Ids.length - k.toNat
def Za58 : Zk58.α → Nat → Option (Ann UU) := fun (d, x) => annL [(4, annOf [.slot 18 (18, 1024) (.lit (.int .i64)), .box 2 (2, 1024) [.lit .str, .shr .eRule], .box 3 (3, 1024) [.shr .eItem, .lit (.int .i64), .shr .eMatch, .shr .eTask, .shr .eTimer, .shr .eUndo, .lit (.int .i64), .lit (.int .i64)]] (fun _ => Zi58_4 d x) (Zm58_4 d x)), (9, annOf [.slot 18 (18, 1024) (.lit (.int .i64)), .slot 48 (48, 1024) (.lit (.int .i64)), .box 2 (2, 1024) [.lit .str, .shr .eRule], .box 3 (3, 1024) [.shr .eItem, .lit (.int .i64), .shr .eMatch, .shr .eTask, .shr .eTimer, .shr .eUndo, .lit (.int .i64), .lit (.int .i64)]] (Zi58_9 d x) (Zm58_9 d x))]
def Zu58 := us [Zh124, Zh125, Zh126]
theorem Zv58 (d : DDef) (x : DInst) : goal EE Zu58 Go.Proofs.Tryz.f58 Zk58 Za58 (d, x) = (let x0 : Int := (x.Fired.length : Int);
bif decide (x0 > (1000 : Int)) then Lf [DV.one (Cell.lit (Value.bool false))] [DV.one (Cell.lit (Value.bool (firedOk d x)))]
else
 Zi58_4 d x ((0 : Int), (d.Name, d.Rules, PUnit.unit), (x.S.Items, x.S.Next, x.Fired, x.Tasks, x.Timers, x.Undos, x.State, x.Now, PUnit.unit), PUnit.unit) ∧
  ∀ (y : Int × (ByteArray × List DRule × PUnit) × (List DItem × Int × List DMatch × List DTask × List DTimer × List DUndo × Int × Int × PUnit) × PUnit),
   let x1 : Int := (↑(List.length (List.getD x.Fired (Int.toNat y.1) zMatch).Ids) : Int);
   let x2 : DMatch := List.getD x.Fired (Int.toNat y.1) zMatch;
   Zi58_4 d x y →
    bif decide (y.1 < x0) then
     (0 : Int) ≤ y.1 ∧
      Int.toNat y.1 < List.length x.Fired ∧
       bif !hasR { Name := y.2.1.1, Rules := y.2.1.2.1 : DDef } x2 then Lf [DV.one (Cell.lit (Value.bool false))] [DV.one (Cell.lit (Value.bool (firedOk d x)))]
       else
        bif (↑(List.length x2.Binds) : Int) != (0 : Int) then Lf [DV.one (Cell.lit (Value.bool false))] [DV.one (Cell.lit (Value.bool (firedOk d x)))]
        else
         (0 : Int) ≤ x2.Rule ∧
          Int.toNat x2.Rule < List.length y.2.1.2.1 ∧
           bif x1 != (↑(posN (List.getD y.2.1.2.1 (Int.toNat x2.Rule) zRule).Pats) : Int) then Lf [DV.one (Cell.lit (Value.bool false))] [DV.one (Cell.lit (Value.bool (firedOk d x)))]
           else
            Zi58_9 d x (y.1, (0 : Int), (y.2.1.1, y.2.1.2.1, PUnit.unit), (y.2.2.1.1, y.2.2.1.2.1, y.2.2.1.2.2.1, y.2.2.1.2.2.2.1, y.2.2.1.2.2.2.2.1, y.2.2.1.2.2.2.2.2.1, y.2.2.1.2.2.2.2.2.2.1, y.2.2.1.2.2.2.2.2.2.2.1, PUnit.unit), PUnit.unit) (y.1, (0 : Int), (y.2.1.1, y.2.1.2.1, PUnit.unit), (y.2.2.1.1, y.2.2.1.2.1, y.2.2.1.2.2.1, y.2.2.1.2.2.2.1, y.2.2.1.2.2.2.2.1, y.2.2.1.2.2.2.2.2.1, y.2.2.1.2.2.2.2.2.2.1, y.2.2.1.2.2.2.2.2.2.2.1, PUnit.unit), PUnit.unit) ∧
             ∀ (y_1 : Int × Int × (ByteArray × List DRule × PUnit) × (List DItem × Int × List DMatch × List DTask × List DTimer × List DUndo × Int × Int × PUnit) × PUnit),
              let x3 : Nat := Int.toNat y_1.2.1;
              Zi58_9 d x (y.1, (0 : Int), (y.2.1.1, y.2.1.2.1, PUnit.unit), (y.2.2.1.1, y.2.2.1.2.1, y.2.2.1.2.2.1, y.2.2.1.2.2.2.1, y.2.2.1.2.2.2.2.1, y.2.2.1.2.2.2.2.2.1, y.2.2.1.2.2.2.2.2.2.1, y.2.2.1.2.2.2.2.2.2.2.1, PUnit.unit), PUnit.unit) y_1 → bif decide (y_1.2.1 < x1) then (0 : Int) ≤ y_1.2.1 ∧ x3 < List.length x2.Ids ∧ sizeItemS y_1.2.2.2.1.1 ≤ (4294967296 : Nat) ∧ bif !hasId y_1.2.2.2.1.1 (List.getD x2.Ids x3 (0 : Int)) then Lf [DV.one (Cell.lit (Value.bool false))] [DV.one (Cell.lit (Value.bool (firedOk d x)))] else Zi58_9 d x (y.1, (0 : Int), (y.2.1.1, y.2.1.2.1, PUnit.unit), (y.2.2.1.1, y.2.2.1.2.1, y.2.2.1.2.2.1, y.2.2.1.2.2.2.1, y.2.2.1.2.2.2.2.1, y.2.2.1.2.2.2.2.2.1, y.2.2.1.2.2.2.2.2.2.1, y.2.2.1.2.2.2.2.2.2.2.1, PUnit.unit), PUnit.unit) (y_1.1, IntKind.wrap IntKind.i64 (y_1.2.1 + (1 : Int)), (y_1.2.2.1.1, y_1.2.2.1.2.1, PUnit.unit), (y_1.2.2.2.1.1, y_1.2.2.2.1.2.1, y_1.2.2.2.1.2.2.1, y_1.2.2.2.1.2.2.2.1, y_1.2.2.2.1.2.2.2.2.1, y_1.2.2.2.1.2.2.2.2.2.1, y_1.2.2.2.1.2.2.2.2.2.2.1, y_1.2.2.2.1.2.2.2.2.2.2.2.1, PUnit.unit), PUnit.unit) ∧ Zm58_9 d x (y_1.1, IntKind.wrap IntKind.i64 (y_1.2.1 + (1 : Int)), (y_1.2.2.1.1, y_1.2.2.1.2.1, PUnit.unit), (y_1.2.2.2.1.1, y_1.2.2.2.1.2.1, y_1.2.2.2.1.2.2.1, y_1.2.2.2.1.2.2.2.1, y_1.2.2.2.1.2.2.2.2.1, y_1.2.2.2.1.2.2.2.2.2.1, y_1.2.2.2.1.2.2.2.2.2.2.1, y_1.2.2.2.1.2.2.2.2.2.2.2.1, PUnit.unit), PUnit.unit) < Zm58_9 d x y_1 else Zi58_4 d x (IntKind.wrap IntKind.i64 (y_1.1 + (1 : Int)), (y_1.2.2.1.1, y_1.2.2.1.2.1, PUnit.unit), (y_1.2.2.2.1.1, y_1.2.2.2.1.2.1, y_1.2.2.2.1.2.2.1, y_1.2.2.2.1.2.2.2.1, y_1.2.2.2.1.2.2.2.2.1, y_1.2.2.2.1.2.2.2.2.2.1, y_1.2.2.2.1.2.2.2.2.2.2.1, y_1.2.2.2.1.2.2.2.2.2.2.2.1, PUnit.unit), PUnit.unit) ∧ Zm58_4 d x (IntKind.wrap IntKind.i64 (y_1.1 + (1 : Int)), (y_1.2.2.1.1, y_1.2.2.1.2.1, PUnit.unit), (y_1.2.2.2.1.1, y_1.2.2.2.1.2.1, y_1.2.2.2.1.2.2.1, y_1.2.2.2.1.2.2.2.1, y_1.2.2.2.1.2.2.2.2.1, y_1.2.2.2.1.2.2.2.2.2.1, y_1.2.2.2.1.2.2.2.2.2.2.1, y_1.2.2.2.1.2.2.2.2.2.2.2.1, PUnit.unit), PUnit.unit) < Zm58_4 d x y
    else Lf [DV.one (Cell.lit (Value.bool true))] [DV.one (Cell.lit (Value.bool (firedOk d x)))]) := by kernel_rfl
theorem Zo58 : Holds EE (58, Zk58) := by
 refine holds_of EE_ok Go.Proofs.Tryz.func58 Zk58 (by kernel_rfl) Zu58 (us_ok _) Za58 (fun x hp hb => ?_)
 obtain ⟨d, x⟩ := x
 have hz0 := bd_eDef (x := d) (hb _ m0)
 have hl_d_Name := hz0.1
 have hl_d_Rules := hz0.2
 have hz1 := bd_eInst (x := x) (hb _ m1)
 have hl_x_S_Items := hz1.1
 have hl_x_Fired := hz1.2.1
 have hl_x_Tasks := hz1.2.2.1
 have hl_x_Timers := hz1.2.2.2.1
 have hl_x_Undos := hz1.2.2.2.2
 have hp0 : sizeDef d ≤ 4294967295 := hp _ m0
 have hp1 : sizeItemS x.S.Items ≤ 4294967296 := hp _ m1
 clear hp hb
 rw [Zv58 d x]
 dsimp only
 refine if_dec (fun a => Lf_ff ?_) (fun a => ⟨⟨rfl, rfl, by omega, by omega, by omega, rfl⟩, ?_⟩)
 ·simp only [firedOk]; rw [decide_eq_false (p := x.Fired.length ≤ 1000) (by omega), Bool.false_and]
 rintro ⟨i, ⟨b1, b2, ⟨⟩⟩, ⟨g1, g2, g3, g4, g5, g6, g7, g8, ⟨⟩⟩, ⟨⟩⟩ ⟨hb, hg, a0, h1, h2, hR⟩
 cases hb
 cases hg
 simp only
 refine if_dec (fun hc => ?_) (fun hc => ?_)
 ·rw [all_step _ _ zMatch h1 hc] at hR
  have hN : firedM d x.S.Items (List.getD x.Fired i.toNat zMatch) = false → firedOk d x = false := fun h => by simp only [firedOk, ← hR, h, Bool.false_and, Bool.and_false]
  refine ⟨by omega, by omega, if_not (fun a => Lf_ff (hN ?_)) (fun a => if_not (fun b => Lf_ff (hN ?_)) (fun b => ?_))⟩
  ·have a : hasR d (List.getD x.Fired i.toNat zMatch) = false := a
   simp only [firedM, a, Bool.false_and]
  ·have b : ¬ (List.getD x.Fired i.toNat zMatch).Binds.length = 0 := by simpa using b
   simp only [firedM, decide_eq_false b, Bool.false_and, Bool.and_false]
  have a : hasR d (List.getD x.Fired i.toNat zMatch) = true := a
  have b : (List.getD x.Fired i.toNat zMatch).Binds.length = 0 := by simpa using b
  obtain ⟨r1, r2⟩ := hasR_iff a
  have hz := posN_size a
  refine ⟨r1, by omega, if_not (fun c => Lf_ff (hN ?_)) (fun c => ⟨⟨rfl, rfl, rfl, by omega, by omega, rfl⟩, ?_⟩)⟩
  ·have c : ¬ (List.getD x.Fired i.toNat zMatch).Ids.length = posN (List.getD d.Rules (List.getD x.Fired i.toNat zMatch).Rule.toNat zRule).Pats := fun e => by rw [e] at c; simp at c
   simp only [firedM, decide_eq_false c, Bool.false_and, Bool.and_false]
  have c : (List.getD x.Fired i.toNat zMatch).Ids.length = posN (List.getD d.Rules (List.getD x.Fired i.toNat zMatch).Rule.toNat zRule).Pats := by
   have c := eq_of_beq c
   omega
  have hM := firedM_ids (s := x.S.Items) a b c
  rintro ⟨i', k, ⟨b1, b2, ⟨⟩⟩, ⟨g1, g2, g3, g4, g5, g6, g7, g8, ⟨⟩⟩, ⟨⟩⟩ ⟨rfl, hb, hg, k1, k2, kR⟩
  cases hb
  cases hg
  simp only
  refine if_dec (fun hk => ?_) (fun hk => ?_)
  ·rw [all_step _ _ 0 k1 hk] at kR
   rw [wrap_i64 (n := k + 1) (by omega) (by omega)]
   exact ⟨by omega, by omega, hp1, if_not (fun e => Lf_ff (hN (by rw [hM, ← kR, e, Bool.false_and]))) (fun e => ⟨⟨rfl, rfl, rfl, by omega, by omega, by rw [← kR, e, Bool.true_and]⟩, by simp only [Zm58_9]; omega⟩)⟩
  ·rw [drop_end _ (by omega)] at kR
   rw [wrap_i64 (n := i' + 1) (by omega) (by omega)]
   exact ⟨⟨rfl, rfl, a0, by omega, by omega, by rw [← hR, hM, ← kR]; rfl⟩, by simp only [Zm58_4]; omega⟩
 ·rw [drop_end _ (by omega)] at hR
  refine Lf_tt ?_
  simp only [firedOk, ← hR, decide_eq_true a0]; rfl
def Zh58 : HH := ⟨_, Zo58⟩
def Zk60 : Con UU where
 α := (List DTask) × (List (DA UU) → Option Value)
 md := [.ro, .ro]
 of := oC (oL .eTask) (o1 oF)
 ds := fun x => [dL .eTask x.1, dF x.2]
 pre := fun (l, p) => [∀ j : Nat, j < l.length → p [daTask (List.getD l j zTask)] = some (.bool (boolOf (p [daTask (List.getD l j zTask)])))]
 res := fun (l, p) => ⟨[.one (.lit (.bool (anyI l.length (fun j => boolOf (p [daTask (List.getD l j zTask)])))))], true, []⟩
 law := lC (lL .eTask) (l1 lF)
def Za60 : Zk60.α → Nat → Option (Ann UU) := fun (l, p) => annL []
def Zu60 := us [Zh127]
theorem Zv60 (l : (List DTask)) (p : (List (DA UU) → Option Value)) : goal EE Zu60 Go.Proofs.Tryz.f60 Zk60 Za60 (l, p) = (let x0 : Int := idxI (l.length) fun (j : Nat) => boolOf (p [daTask (List.getD l j zTask)]);
(∀ (j : Nat), j < List.length l → p [daTask (List.getD l j zTask)] = some (Value.bool (boolOf (p [daTask (List.getD l j zTask)])))) ∧ Lf [DV.one (Cell.lit (Value.bool (decide (x0 ≥ (0 : Int)))))] [DV.one (Cell.lit (Value.bool (anyI (List.length l) fun (j : Nat) => boolOf (p [daTask (List.getD l j zTask)]))))]) := by kernel_rfl
theorem Zo60 : Holds EE (60, Zk60) := by
 refine holds_of EE_ok Go.Proofs.Tryz.func60 Zk60 (by kernel_rfl) Zu60 (us_ok _) Za60 (fun x hp hb => ?_)
 obtain ⟨l, p⟩ := x
 have hl_l : l.length ≤ 9223372036854775807 := bdL (hb _ m0)
 have hp0 : ∀ j : Nat, j < l.length → p [daTask (List.getD l j zTask)] = some (.bool (boolOf (p [daTask (List.getD l j zTask)]))) := hp _ m0
 clear hp hb
 rw [Zv60 l p]
 dsimp only
 exact ⟨hp0, Lf_b (by rw [← idxI_ge])⟩
def Zh60 : HH := ⟨_, Zo60⟩
def Zk43 : Con UU where
 α := (List DTask)
 md := [.ro]
 of := o1 (oL .eTask)
 ds := fun x => [dL .eTask x]
 pre := fun _ => []
 res := fun l => ⟨[.one (.lit (.bool (liveT l)))], true, []⟩
 law := l1 (lL .eTask)
def Zi43_2 (l : (List DTask)) : Int × Unit → Prop := fun (i, _) => 0 ≤ i ∧ i ≤ l.length ∧ ∀ j : Nat, (j : Int) < i → isOpen (List.getD l j zTask) = false
def Zm43_2 (l : (List DTask)) : Int × Unit → Nat := fun (i, _) => l.length - i.toNat
def Za43 : Zk43.α → Nat → Option (Ann UU) := fun l => annL [(2, annOf [.slot 3 (3, 1024) (.lit (.int .i64))] (fun _ => Zi43_2 l) (Zm43_2 l))]
def Zu43 : List (FuncId × Con UU) := []
theorem Zv43 (l : (List DTask)) : goal EE Zu43 Go.Proofs.Tryz.f43 Zk43 Za43 l = (Zi43_2 l ((0 : Int), ()) ∧ ∀ (y : Int × PUnit), Zi43_2 l y → bif decide (y.1 < (l.length : Int)) then (0 : Int) ≤ y.1 ∧ y.1.toNat < l.length ∧ bif (List.getD l y.1.toNat zTask).State == (1 : Int) then Lb true (liveT l) else (0 : Int) ≤ y.1 ∧ y.1.toNat < l.length ∧ bif (List.getD l y.1.toNat zTask).State == (2 : Int) then Lb true (liveT l) else Zi43_2 l (IntKind.wrap IntKind.i64 (y.1 + (1 : Int)), ()) ∧ Zm43_2 l (IntKind.wrap IntKind.i64 (y.1 + (1 : Int)), ()) < Zm43_2 l y else Lb false (liveT l)) := by kernel_rfl
theorem Zo43 : Holds EE (43, Zk43) := by
 refine holds_of EE_ok Go.Proofs.Tryz.func43 Zk43 (by kernel_rfl) Zu43 all_nil Za43 (fun (l : (List DTask)) hp hb => ?_)
 have hl_l : l.length ≤ 9223372036854775807 := bdL (hb _ m0)
 clear hp hb
 rw [Zv43 l]
 refine ⟨⟨by omega, by omega, by intro j hj; omega⟩, ?_⟩
 rintro ⟨i, ⟨⟩⟩ ⟨h1, h2, hR⟩
 simp only
 refine if_dec (fun hc => ?_) (fun hc => ?_)
 ·rw [wrap_i64 (by omega) (by omega)]
  have hY : isOpen (List.getD l i.toNat zTask) = true → liveT l = true := fun h => anyI_true (j := i.toNat) (by omega) h
  refine ⟨by omega, by omega, if_num (fun h => Lf_tt (hY (by simp only [isOpen]; grind))) (fun h => ⟨by omega, by omega, if_num (fun g => Lf_tt (hY (by simp only [isOpen]; grind))) (fun g => ⟨⟨by omega, by omega, upto_no (p := fun j => isOpen (List.getD l j zTask)) h1 hR (by simp only [isOpen]; grind)⟩, by simp only [Zm43_2]; omega⟩)⟩)⟩
 ·exact Lf_ff (anyI_false fun j hj => hR j (by omega))
def Zh43 : HH := ⟨_, Zo43⟩
def Zk44 : Con UU where
 α := DInst
 md := [.ro]
 of := o1 (oA .eInst)
 ds := fun x => [dA .eInst x]
 pre := fun _ => []
 res := fun x => ⟨[.one (.lit (.bool (undoingX x)))], true, []⟩
 law := l1 (lA .eInst)
def Za44 : Zk44.α → Nat → Option (Ann UU) := fun x => annL []
def Zu44 : List (FuncId × Con UU) := []
theorem Zv44 (x : DInst) : goal EE Zu44 Go.Proofs.Tryz.f44 Zk44 Za44 x = (bif x.State == (3 : Int) then Lb true (undoingX x) else Lb (x.State == (5 : Int)) (undoingX x)) := by kernel_rfl
theorem Zo44 : Holds EE (44, Zk44) := by
 refine holds_of EE_ok Go.Proofs.Tryz.func44 Zk44 (by kernel_rfl) Zu44 all_nil Za44 (fun (x : DInst) hp hb => ?_)
 have hz0 := bd_eInst (x := x) (hb _ m0)
 have hl_x_S_Items := hz0.1
 have hl_x_Fired := hz0.2.1
 have hl_x_Tasks := hz0.2.2.1
 have hl_x_Timers := hz0.2.2.2.1
 have hl_x_Undos := hz0.2.2.2.2
 clear hp hb
 rw [Zv44 x]
 simp only [undoingX]
 refine if_num (fun h => Lf_b ?_) (fun h => Lf_b ?_)
 ·rw [decide_eq_true h, Bool.true_or]
 ·rw [decide_eq_false h, Bool.false_or]
  rw [Bool.eq_iff_iff]; simp
def Zh44 : HH := ⟨_, Zo44⟩
def Zk8 : Con UU where
 α := DDef × DInst
 md := [.ro, .ro]
 of := oC (oA .eDef) (o1 (oA .eInst))
 ds := fun x => [dA .eDef x.1, dA .eInst x.2]
 pre := fun (d, x) => [sizeDef d ≤ 4294967295, sizeItemS x.S.Items ≤ 4294967296]
 res := fun (d, x) => ⟨[.one (.lit (.bool (instOk d x)))], true, []⟩
 law := lC (lA .eDef) (l1 (lA .eInst))
def Za8 : Zk8.α → Nat → Option (Ann UU) := fun (d, x) => annL []
def Zu8 := us [Zh35, Zh36, Zh37, Zh38, Zh39, Zh40, Zh41, Zh42, Zh43, Zh44]
theorem Zv8 (d : DDef) (x : DInst) : goal EE Zu8 Go.Proofs.Tryz.f8 Zk8 Za8 (d, x) = (sizeDef d ≤ (4294967295 : Nat) ∧ bif !defOk d then Lb false (instOk d x) else bif !storeOk x.S then Lb false (instOk d x) else bif !tasksOk x.Tasks then Lb false (instOk d x) else bif !timersOk x.Timers then Lb false (instOk d x) else bif !undosOk x.Undos then Lb false (instOk d x) else bif !decide ((1 : Int) ≤ x.State ∧ x.State ≤ (6 : Int)) then Lb false (instOk d x) else bif !decide ((0 : Int) ≤ x.Now ∧ x.Now ≤ (1000000000 : Int)) then Lb false (instOk d x) else sizeDef d ≤ (4294967295 : Nat) ∧ sizeItemS x.S.Items ≤ (4294967296 : Nat) ∧ bif !firedOk d x then Lb false (instOk d x) else bif decide (x.State = (2 : Int) ∨ x.State = (4 : Int) ∨ x.State = (6 : Int)) then bif liveT x.Tasks then Lb false (instOk d x) else bif decide ((x.Timers.length : Int) > (0 : Int)) then Lb false (instOk d x) else bif !undoingX x then Lb true (instOk d x) else Lb (decide ((x.Undos.length : Int) > (0 : Int))) (instOk d x) else bif !undoingX x then Lb true (instOk d x) else Lb (decide ((x.Undos.length : Int) > (0 : Int))) (instOk d x)) := by kernel_rfl
theorem Zo8 : Holds EE (8, Zk8) := by
 refine holds_of EE_ok Go.Proofs.Tryz.func8 Zk8 (by kernel_rfl) Zu8 (us_ok _) Za8 (fun x hp hb => ?_)
 obtain ⟨d, x⟩ := x
 have hz0 := bd_eDef (x := d) (hb _ m0)
 have hl_d_Name := hz0.1
 have hl_d_Rules := hz0.2
 have hz1 := bd_eInst (x := x) (hb _ m1)
 have hl_x_S_Items := hz1.1
 have hl_x_Fired := hz1.2.1
 have hl_x_Tasks := hz1.2.2.1
 have hl_x_Timers := hz1.2.2.2.1
 have hl_x_Undos := hz1.2.2.2.2
 have hp0 : sizeDef d ≤ 4294967295 := hp _ m0
 have hp1 : sizeItemS x.S.Items ≤ 4294967296 := hp _ m1
 clear hp hb
 rw [Zv8 d x]
 refine ⟨hp0, ?_⟩
 have ht : decide ((x.Timers.length : Int) > 0) = decide (0 < x.Timers.length) := decide_eq_decide.2 (by omega)
 have hu : decide ((x.Undos.length : Int) > 0) = decide (0 < x.Undos.length) := decide_eq_decide.2 (by omega)
 simp only [instOk, endedX, ht, hu]
 repeat' (first | refine And.intro hp1 ?_ | refine And.intro hp0 (And.intro hp1 ?_) | refine if_cond (fun h => ?_) (fun h => ?_))
 all_goals (refine Lf_b ?_; grind)
def Zh8 : HH := ⟨_, Zo8⟩
def Zk11 : Con UU where
 α := DDef × DInst
 md := [.ro, .ro]
 of := oC (oA .eDef) (o1 (oA .eInst))
 ds := fun x => [dA .eDef x.1, dA .eInst x.2]
 pre := fun (d, x) => [sizeDef d ≤ 4294967295, sizeItemS x.S.Items ≤ 4294967296]
 res := fun (d, x) => ⟨[.one (.lit (.bool (instOk d x)))], true, []⟩
 law := lC (lA .eDef) (l1 (lA .eInst))
def Za11 : Zk11.α → Nat → Option (Ann UU) := fun (d, x) => annL []
def Zu11 := us [Zh51, Zh52, Zh53, Zh54, Zh55, Zh56, Zh57, Zh58, Zh59, Zh60, Zh61]
theorem Zv11 (d : DDef) (x : DInst) : goal EE Zu11 Go.Proofs.Tryz.f11 Zk11 Za11 (d, x) = (bif !defOk d then Lb false (instOk d x) else bif !storeOk x.S then Lb false (instOk d x) else bif !tasksOk x.Tasks then Lb false (instOk d x) else bif !timersOk x.Timers then Lb false (instOk d x) else bif !undosOk x.Undos then Lb false (instOk d x) else bif !decide ((1 : Int) ≤ x.State ∧ x.State ≤ (6 : Int)) then Lb false (instOk d x) else bif !decide ((0 : Int) ≤ x.Now ∧ x.Now ≤ (1000000000 : Int)) then Lb false (instOk d x) else sizeDef d ≤ (4294967295 : Nat) ∧ sizeItemS x.S.Items ≤ (4294967296 : Nat) ∧ bif !firedOk d x then Lb false (instOk d x) else bif x.State == (3 : Int) then Lb (decide ((x.Undos.length : Int) > (0 : Int))) (instOk d x) else bif x.State == (5 : Int) then Lb (decide ((x.Undos.length : Int) > (0 : Int))) (instOk d x) else bif !decide (x.State = (2 : Int) ∨ x.State = (4 : Int) ∨ x.State = (6 : Int)) then Lb true (instOk d x) else bif (x.Timers.length : Int) == (0 : Int) then (∀ (j : Nat), j < x.Tasks.length → closP Zk61 [] [daTask (List.getD x.Tasks j zTask)] = some (Value.bool (boolOf (closP Zk61 [] [daTask (List.getD x.Tasks j zTask)])))) ∧ Lb (!anyI (x.Tasks.length) fun (j : Nat) => boolOf (closP Zk61 [] [daTask (List.getD x.Tasks j zTask)])) (instOk d x) else Lb false (instOk d x)) := by kernel_rfl
theorem Zo11 : Holds EE (11, Zk11) := by
 refine holds_of EE_ok Go.Proofs.Tryz.func11 Zk11 (by kernel_rfl) Zu11 (us_ok _) Za11 (fun x hp hb => ?_)
 obtain ⟨d, x⟩ := x
 have hb_d : BdDV (U := UU) (.agg [.lit (.string d.Name), .sl .eRule d.Rules]) := hb _ m0
 have hz0 := bd_eDef (x := d) (hb _ m0)
 have hl_d_Name := hz0.1
 have hl_d_Rules := hz0.2
 have hb_x : BdDV (U := UU) (.agg [.sl .eItem x.S.Items, .lit (.int .i64 x.S.Next), .sl .eMatch x.Fired, .sl .eTask x.Tasks, .sl .eTimer x.Timers, .sl .eUndo x.Undos, .lit (.int .i64 x.State), .lit (.int .i64 x.Now)]) := hb _ m1
 have hz1 := bd_eInst (x := x) (hb _ m1)
 have hl_x_S_Items := hz1.1
 have hl_x_Fired := hz1.2.1
 have hl_x_Tasks := hz1.2.2.1
 have hl_x_Timers := hz1.2.2.2.1
 have hl_x_Undos := hz1.2.2.2.2
 have hp0 : sizeDef d ≤ 4294967295 := hp _ m0
 have hp1 : sizeItemS x.S.Items ≤ 4294967296 := hp _ m1
 clear hp hb
 rw [Zv11 d x]
 have hc : ∀ t : DTask, closP Zk61 [] [daTask t] = some (.bool (isOpen t)) := fun t => closP_of (x := t) rfl rfl rfl rfl (by simp [Zk61])
 have hl : (anyI x.Tasks.length fun j => boolOf (closP Zk61 [] [daTask (List.getD x.Tasks j zTask)])) = liveT x.Tasks := anyI_congr fun j hj => by rw [hc]; rfl
 have hcl : ∀ j : Nat, j < x.Tasks.length → closP Zk61 [] [daTask (List.getD x.Tasks j zTask)] = some (.bool (boolOf (closP Zk61 [] [daTask (List.getD x.Tasks j zTask)]))) := fun j hj => by rw [hc]; rfl
 have ht : ((x.Timers.length : Int) == 0) = !decide (0 < x.Timers.length) := by rw [Bool.eq_iff_iff]; simp
 have hu : decide ((x.Undos.length : Int) > 0) = decide (0 < x.Undos.length) := decide_eq_decide.2 (by omega)
 have h3 : (x.State == 3) = decide (x.State = 3) := by rw [Bool.eq_iff_iff]; simp
 have h5 : (x.State == 5) = decide (x.State = 5) := by rw [Bool.eq_iff_iff]; simp
 simp only [instOk, endedX, undoingX, ht, hu, h3, h5, hl]
 repeat' (first | refine And.intro hcl ?_ | refine And.intro hp0 (And.intro hp1 ?_) | refine And.intro hp1 ?_ | refine if_cond (fun h => ?_) (fun h => ?_))
 all_goals (refine Lf_b ?_; clear hcl hc hl ht hu h3 h5 hb_d hb_x; grind)
def Zh11 : HH := ⟨_, Zo11⟩
def con_laws_FnExactInstOk : Con UU where
 α := DDef × DInst
 md := [.ro, .ro]
 of := oC (oA .lDef) (o1 (oA .lInst))
 ds := fun x => [dA .lDef x.1, dA .lInst x.2]
 pre := fun _ => []
 res := fun (aD, aX) => ⟨[.one (.lit (.bool true))], true, []⟩
 law := lC (lA .lDef) (l1 (lA .lInst))
def ann_laws_FnExactInstOk : con_laws_FnExactInstOk.α → Nat → Option (Ann UU) := fun (aD, aX) => annL []
def use_laws_FnExactInstOk := us [Zh6, Zh7, Zh9, Zh10, Zh8, Zh11, Zh12, Zh13]
theorem vc_laws_FnExactInstOk (aD : DDef) (aX : DInst) : goal EE use_laws_FnExactInstOk Go.Proofs.Tryz.f3 con_laws_FnExactInstOk ann_laws_FnExactInstOk (aD, aX) = (let x0 : Int := szr (1048576 : Int) (sizeDef aD);
(0 : Int) ≤ (1048576 : Int) ∧ bif decide (x0 < (0 : Int)) then Lf [DV.one (Cell.lit (Value.bool true))] [DV.one (Cell.lit (Value.bool true))] else (0 : Int) ≤ x0 ∧ bif decide (szr x0 (sizeInst aX) < (0 : Int)) then Lf [DV.one (Cell.lit (Value.bool true))] [DV.one (Cell.lit (Value.bool true))] else sizeDef aD ≤ (4294967296 : Nat) ∧ sizeInst aX ≤ (4294967296 : Nat) ∧ sizeDef aD ≤ (4294967295 : Nat) ∧ sizeItemS aX.S.Items ≤ (4294967296 : Nat) ∧ sizeDef aD ≤ (4294967296 : Nat) ∧ sizeInst aX ≤ (4294967296 : Nat) ∧ sizeDef aD ≤ (4294967295 : Nat) ∧ sizeItemS aX.S.Items ≤ (4294967296 : Nat) ∧ bif !instOk aD aX == instOk aD aX then Lf [DV.one (Cell.lit (Value.bool false))] [DV.one (Cell.lit (Value.bool true))] else sizeDef aD ≤ (4294967296 : Nat) ∧ bif !decide (aD = aD) then Lf [DV.one (Cell.lit (Value.bool false))] [DV.one (Cell.lit (Value.bool true))] else sizeInst aX ≤ (4294967296 : Nat) ∧ bif !decide (aX = aX) then Lf [DV.one (Cell.lit (Value.bool false))] [DV.one (Cell.lit (Value.bool true))] else Lf [DV.one (Cell.lit (Value.bool true))] [DV.one (Cell.lit (Value.bool true))]) := by kernel_rfl
theorem ok_laws_FnExactInstOk : Holds EE (3, con_laws_FnExactInstOk) := by
 refine holds_of EE_ok Go.Proofs.Tryz.func3 con_laws_FnExactInstOk (by kernel_rfl) use_laws_FnExactInstOk (us_ok _) ann_laws_FnExactInstOk (fun x hp hb => ?_)
 obtain ⟨aD, aX⟩ := x
 have hz0 := bd_lDef (x := aD) (hb _ m0)
 have hl_aD_Name := hz0.1
 have hl_aD_Rules := hz0.2
 have hz1 := bd_lInst (x := aX) (hb _ m1)
 have hl_aX_S_Items := hz1.1
 have hl_aX_Fired := hz1.2.1
 have hl_aX_Tasks := hz1.2.2.1
 have hl_aX_Timers := hz1.2.2.2.1
 have hl_aX_Undos := hz1.2.2.2.2
 clear hp hb
 rw [vc_laws_FnExactInstOk aD aX]
 dsimp only
 have hi := ctInst_items aX
 refine ⟨by omega, if_cond (fun h => Lf_rfl _) (fun h => ?_)⟩
 obtain ⟨e0, h0⟩ := szr_pos h
 refine ⟨by omega, if_cond (fun h => Lf_rfl _) (fun h => ?_)⟩
 obtain ⟨e1, h1⟩ := szr_pos h
 repeat' (first | exact Lf_rfl _ | refine And.intro (by omega) ?_ | refine if_cond (fun h => absurd h (by first | (simp; done) | (simp; omega))) (fun h => ?_) | fail)
def h_laws_FnExactInstOk : HH := ⟨_, ok_laws_FnExactInstOk⟩
end
end AM
