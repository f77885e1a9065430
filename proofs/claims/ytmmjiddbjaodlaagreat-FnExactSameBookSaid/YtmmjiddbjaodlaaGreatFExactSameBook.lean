/- Functions of the program with their contracts: put together by gen/link.py for FnExactSameBook. -/
import Derived.Test.YtmmjiddbjaodlaaGreatAmLib
import Derived.Test.YtmmjiddbjaodlaaGreatAmModels
namespace AM
open Go
set_option linter.unusedVariables false
set_option linter.unusedSimpArgs false
set_option maxRecDepth 100000
noncomputable section
def smallB (b : Int) : Bool := decide (97 ≤ b ∧ b ≤ 122)
def wordB (b : Int) : Bool := smallB b || decide (48 ≤ b ∧ b ≤ 57) || decide (b = 95)
def wordS (s : ByteArray) : Bool := (bs s).all (byteP wordB)
def nameOk (s : ByteArray) : Bool := decide (1 ≤ s.size ∧ s.size ≤ 12) && smallB (List.getD (bs s) 0 0).toNat && wordS s
def valOk (v : DVal) : Bool := bif decide (v.K = 1) then decide (-1000000000 ≤ v.N ∧ v.N ≤ 1000000000) && decide (v.S = noBytes) else bif decide (v.K = 2) then decide (v.N = 0) && decide (v.S.size ≤ 20) && wordS v.S else false
def factOk (f : DFact) : Bool := nameOk f.Kind && decide (f.Fields.length ≤ 5) && f.Fields.all valOk
def con_laws_szIntS : Con UU where
  α := (List Int) × Int
  md := [.ro, .ro]
  of := fun | [.one (.sl .int a0), .one (.lit (.int .i64 a1))] => some (a0, a1) | _ => none
  ds := fun (a, left) => [.one (.sl .int a), .one (.lit (.int .i64 left))]
  pre := fun (a, left) => [0 ≤ left]
  res := fun (a, left) => ⟨[.one (.lit (.int .i64 (szr left (sizeIntS a))))], true, []⟩
  law := by intro l x h; (try simp only at h); split at h <;> cases h; rfl
def ann_laws_szIntS : con_laws_szIntS.α → Nat → Option (Ann UU) := fun (a, left) => annL []
def use_laws_szIntS : List (FuncId × Con UU) := []
theorem vc_laws_szIntS (a : (List Int)) (left : Int) : goal EE use_laws_szIntS Go.Proofs.Tryz.f115 con_laws_szIntS ann_laws_szIntS (a, left) = (let x0 : Int := IntKind.wrap IntKind.i64 (left - (↑(List.length a) : Int));
bif decide (x0 < (0 : Int)) then Lf [DV.one (Cell.lit (Value.int IntKind.i64 (-1 : Int)))] [DV.one (Cell.lit (Value.int IntKind.i64 (szr left (sizeIntS a))))] else Lf [DV.one (Cell.lit (Value.int IntKind.i64 x0))] [DV.one (Cell.lit (Value.int IntKind.i64 (szr left (sizeIntS a))))]) := by kernel_rfl
theorem ok_laws_szIntS : Holds EE (115, con_laws_szIntS) := by
  refine holds_of EE_ok Go.Proofs.Tryz.func115 con_laws_szIntS (by kernel_rfl) use_laws_szIntS all_nil ann_laws_szIntS (fun x hp hb => ?_)
  obtain ⟨a, left⟩ := x
  have hb_a : BdDV (U := UU) (.one (.sl .int a)) := hb _ (List.mem_cons_self)
  have hl_a : a.length ≤ 9223372036854775807 := Bd.len hb_a
  have hb_left : BdDV (U := UU) (.one (.lit (.int .i64 left))) := hb _ (List.mem_cons_of_mem _ (List.mem_cons_self))
  have hl_left := Bd.i64 hb_left
  have hp0 : 0 ≤ left := hp _ (List.mem_cons_self)
  clear hp hb
  rw [vc_laws_szIntS a left]
  dsimp only
  rw [wrap_i64 (by omega) (by omega)]
  refine if_cond (fun h => Lf_i (szr_bad' ?_)) (fun h => ?_)
  · have h := of_decide_eq_true h; simp only [sizeIntS]; omega
  have h := of_decide_eq_false h
  exact Lf_i (by rw [← szr_ok' (by simp only [sizeIntS]; omega)]; simp only [sizeIntS])
def con_laws_toIntS : Con UU where
  α := (List Int)
  md := [.ro]
  of := fun | [.one (.sl .int a0)] => some a0 | _ => none
  ds := fun a => [.one (.sl .int a)]
  pre := fun a => [sizeIntS a ≤ 4294967296]
  res := fun a => ⟨[.one (.sl .int a)], true, []⟩
  law := by intro l x h; (try simp only at h); split at h <;> cases h; rfl
def I_laws_toIntS_3 (a : (List Int)) : List Int × Int × Unit → Prop := fun (out, i, _) => 0 ≤ i ∧ i ≤ a.length ∧ out = a.take i.toNat ++ List.replicate (a.length - i.toNat) (0 : Int)
def μ_laws_toIntS_3 (a : (List Int)) : List Int × Int × Unit → Nat := fun (out, i, _) => a.length - i.toNat
def ann_laws_toIntS : con_laws_toIntS.α → Nat → Option (Ann UU) := fun a => annL [(3, annOf [.slot 3 (3, 1024) (.own .int true), .slot 4 (4, 1024) (.lit (.int .i64))] (fun _ => I_laws_toIntS_3 a) (μ_laws_toIntS_3 a))]
def use_laws_toIntS : List (FuncId × Con UU) := []
theorem vc_laws_toIntS (a : (List Int)) : goal EE use_laws_toIntS Go.Proofs.Tryz.f123 con_laws_toIntS ann_laws_toIntS a = (let x0 : Int := (↑(List.length a) : Int);
(0 : Int) ≤ x0 ∧
  x0 = x0 ∧
    x0 ≤ (4294967296 : Int) ∧
      I_laws_toIntS_3 a (List.replicate (Int.toNat x0) (0 : Int), (0 : Int), PUnit.unit) ∧
        ∀ (y : List Int × Int × PUnit),
          let x1 : Nat := Int.toNat y.2.1;
          I_laws_toIntS_3 a y → bif decide (y.2.1 < x0) then (0 : Int) ≤ y.2.1 ∧ x1 < List.length a ∧ (0 : Int) ≤ y.2.1 ∧ x1 < List.length y.1 ∧ x1 < List.length y.1 ∧ I_laws_toIntS_3 a (List.set y.1 x1 (List.getD a x1 (0 : Int)), IntKind.wrap IntKind.i64 (y.2.1 + (1 : Int)), PUnit.unit) ∧ μ_laws_toIntS_3 a (List.set y.1 x1 (List.getD a x1 (0 : Int)), IntKind.wrap IntKind.i64 (y.2.1 + (1 : Int)), PUnit.unit) < μ_laws_toIntS_3 a y else Lf [DV.one (Cell.sl Cd.int y.1)] [DV.one (Cell.sl Cd.int a)]) := by kernel_rfl
theorem ok_laws_toIntS : Holds EE (123, con_laws_toIntS) := by
  refine holds_of EE_ok Go.Proofs.Tryz.func123 con_laws_toIntS (by kernel_rfl) use_laws_toIntS all_nil ann_laws_toIntS (fun (a : (List Int)) hp hb => ?_)
  have hb_a : BdDV (U := UU) (.one (.sl .int a)) := hb _ (List.mem_cons_self)
  have hl_a : a.length ≤ 9223372036854775807 := Bd.len hb_a
  have hp0 : sizeIntS a ≤ 4294967296 := hp _ (List.mem_cons_self)
  clear hp hb
  rw [vc_laws_toIntS a]
  dsimp only
  have hlen : a.length ≤ 4294967296 := by simp only [sizeIntS] at hp0; omega
  refine ⟨by omega, rfl, by omega, ?_, ?_⟩
  · simp [I_laws_toIntS_3]
  rintro ⟨out, i, ⟨⟩⟩ ⟨h1, h2, rfl⟩
  simp only at *
  refine if_cond (fun hc => ?_) (fun hc => ?_)
  · have hc : i < a.length := by simpa using hc
    rw [wrap_i64 (by omega) (by omega), set_fill a (0 : Int) h1 hc]
    exact ⟨h1, by omega, h1, by simp; omega, by simp; omega, ⟨by omega, by omega, rfl⟩, by simp only [μ_laws_toIntS_3]; omega⟩
  · have hc : a.length ≤ i := by simpa using hc
    have e : i.toNat = a.length := by omega
    rw [e]; simp; exact Lf_rfl _
def con_laws_eqIntS : Con UU where
  α := (List Int) × (List Int)
  md := [.ro, .ro]
  of := fun | [.one (.sl .int a0), .one (.sl .int a1)] => some (a0, a1) | _ => none
  ds := fun (a, b) => [.one (.sl .int a), .one (.sl .int b)]
  pre := fun (a, b) => []
  res := fun (a, b) => ⟨[.one (.lit (.bool (decide (a = b))))], true, []⟩
  law := by intro l x h; (try simp only at h); split at h <;> cases h; rfl
def I_laws_eqIntS_4 (a : (List Int)) (b : (List Int)) : Int × Unit → Prop := fun (i, _) => 0 ≤ i ∧ i ≤ a.length ∧ a.length = b.length ∧ (a.drop i.toNat = b.drop i.toNat ↔ a = b)
def μ_laws_eqIntS_4 (a : (List Int)) (b : (List Int)) : Int × Unit → Nat := fun (i, _) => a.length - i.toNat
def ann_laws_eqIntS : con_laws_eqIntS.α → Nat → Option (Ann UU) := fun (a, b) => annL [(4, annOf [.slot 5 (5, 1024) (.lit (.int .i64))] (fun _ => I_laws_eqIntS_4 a b) (μ_laws_eqIntS_4 a b))]
def use_laws_eqIntS : List (FuncId × Con UU) := []
theorem vc_laws_eqIntS (a : (List Int)) (b : (List Int)) : goal EE use_laws_eqIntS Go.Proofs.Tryz.f131 con_laws_eqIntS ann_laws_eqIntS (a, b) = (bif (↑(List.length a) : Int) != (↑(List.length b) : Int) then Lf [DV.one (Cell.lit (Value.bool false))] [DV.one (Cell.lit (Value.bool (decide (a = b))))] else I_laws_eqIntS_4 a b ((0 : Int), PUnit.unit) ∧ ∀ (y : Int × PUnit), I_laws_eqIntS_4 a b y → bif decide (y.1 < (↑(List.length a) : Int)) then (0 : Int) ≤ y.1 ∧ Int.toNat y.1 < List.length a ∧ (0 : Int) ≤ y.1 ∧ Int.toNat y.1 < List.length b ∧ bif List.getD a (Int.toNat y.1) (0 : Int) != List.getD b (Int.toNat y.1) (0 : Int) then Lf [DV.one (Cell.lit (Value.bool false))] [DV.one (Cell.lit (Value.bool (decide (a = b))))] else I_laws_eqIntS_4 a b (IntKind.wrap IntKind.i64 (y.1 + (1 : Int)), PUnit.unit) ∧ μ_laws_eqIntS_4 a b (IntKind.wrap IntKind.i64 (y.1 + (1 : Int)), PUnit.unit) < μ_laws_eqIntS_4 a b y else Lf [DV.one (Cell.lit (Value.bool true))] [DV.one (Cell.lit (Value.bool (decide (a = b))))]) := by kernel_rfl
theorem ok_laws_eqIntS : Holds EE (131, con_laws_eqIntS) := by
  refine holds_of EE_ok Go.Proofs.Tryz.func131 con_laws_eqIntS (by kernel_rfl) use_laws_eqIntS all_nil ann_laws_eqIntS (fun x hp hb => ?_)
  obtain ⟨a, b⟩ := x
  have hb_a : BdDV (U := UU) (.one (.sl .int a)) := hb _ (List.mem_cons_self)
  have hl_a : a.length ≤ 9223372036854775807 := Bd.len hb_a
  have hb_b : BdDV (U := UU) (.one (.sl .int b)) := hb _ (List.mem_cons_of_mem _ (List.mem_cons_self))
  have hl_b : b.length ≤ 9223372036854775807 := Bd.len hb_b
  clear hp hb
  rw [vc_laws_eqIntS a b]
  refine if_cond (fun h => Lf_f ?_) (fun h => ⟨?_, ?_⟩)
  · rintro rfl; simp at h
  · simp [I_laws_eqIntS_4] at *; omega
  rintro ⟨i, ⟨⟩⟩ ⟨h1, h2, h3, hR⟩
  simp only at *
  refine if_cond (fun hc => ?_) (fun hc => ?_)
  · have hc : i < a.length := by simpa using hc
    rw [drop_step a (0 : Int) h1 hc, drop_step b (0 : Int) h1 (by omega)] at hR
    rw [wrap_i64 (by omega) (by omega)]
    refine ⟨by omega, by omega, by omega, by omega, if_cond (fun h => Lf_f ?_) (fun h => ⟨⟨by omega, by omega, h3, ?_⟩, ?_⟩)⟩
    · rw [← hR]; simp at h; simp [h]
    · rw [← hR]; simp at h; simp [h]
    · simp only [μ_laws_eqIntS_4]; omega
  · have hc : a.length ≤ i := by simpa using hc
    rw [drop_end a hc, drop_end b (by omega)] at hR
    exact Lf_t (hR.1 rfl)
def con_laws_szVal : Con UU where
  α := DVal × Int
  md := [.ro, .ro]
  of := fun | [.agg [.lit (.int .i64 a0), .lit (.int .i64 a1), .lit (.string a2)], .one (.lit (.int .i64 a3))] => some (⟨a0, a1, a2⟩, a3) | _ => none
  ds := fun (a, left) => [.agg [.lit (.int .i64 a.K), .lit (.int .i64 a.N), .lit (.string a.S)], .one (.lit (.int .i64 left))]
  pre := fun (a, left) => [0 ≤ left]
  res := fun (a, left) => ⟨[.one (.lit (.int .i64 (szr left (sizeVal a))))], true, []⟩
  law := by intro l x h; (try simp only at h); split at h <;> cases h; rfl
def ann_laws_szVal : con_laws_szVal.α → Nat → Option (Ann UU) := fun (a, left) => annL []
def use_laws_szVal : List (FuncId × Con UU) := []
theorem vc_laws_szVal (a : DVal) (left : Int) : goal EE use_laws_szVal Go.Proofs.Tryz.f118 con_laws_szVal ann_laws_szVal (a, left) = (let x0 : Int := IntKind.wrap IntKind.i64 (left - (↑(ByteArray.size a.S) : Int));
bif decide (x0 < (0 : Int)) then Lf [DV.one (Cell.lit (Value.int IntKind.i64 (-1 : Int)))] [DV.one (Cell.lit (Value.int IntKind.i64 (szr left (sizeVal a))))] else Lf [DV.one (Cell.lit (Value.int IntKind.i64 x0))] [DV.one (Cell.lit (Value.int IntKind.i64 (szr left (sizeVal a))))]) := by kernel_rfl
theorem ok_laws_szVal : Holds EE (118, con_laws_szVal) := by
  refine holds_of EE_ok Go.Proofs.Tryz.func118 con_laws_szVal (by kernel_rfl) use_laws_szVal all_nil ann_laws_szVal (fun x hp hb => ?_)
  obtain ⟨a, left⟩ := x
  have hb_a : BdDV (U := UU) (.agg [.lit (.int .i64 a.K), .lit (.int .i64 a.N), .lit (.string a.S)]) := hb _ (List.mem_cons_self)
  have hl_a_S : a.S.size ≤ 9223372036854775807 := Bd.str (hb_a _ (by simp))
  have hb_left : BdDV (U := UU) (.one (.lit (.int .i64 left))) := hb _ (List.mem_cons_of_mem _ (List.mem_cons_self))
  have hl_left := Bd.i64 hb_left
  have hp0 : 0 ≤ left := hp _ (List.mem_cons_self)
  clear hp hb
  rw [vc_laws_szVal a left]
  dsimp only
  rw [wrap_i64 (by omega) (by omega)]
  refine if_cond (fun h => Lf_i (szr_bad' ?_)) (fun h => ?_)
  · have h := of_decide_eq_true h; simp only [sizeVal]; omega
  have h0 := of_decide_eq_false h
  exact Lf_i (by rw [← szr_ok' (by simp only [sizeVal]; omega)]; simp only [sizeVal]; try omega)
def con_laws_toVal : Con UU where
  α := DVal
  md := [.ro]
  of := fun | [.agg [.lit (.int .i64 a0), .lit (.int .i64 a1), .lit (.string a2)]] => some ⟨a0, a1, a2⟩ | _ => none
  ds := fun a => [.agg [.lit (.int .i64 a.K), .lit (.int .i64 a.N), .lit (.string a.S)]]
  pre := fun a => [sizeVal a ≤ 4294967296]
  res := fun a => ⟨[.agg [.lit (.int .i64 a.K), .lit (.int .i64 a.N), .lit (.string a.S)]], true, []⟩
  law := by intro l x h; (try simp only at h); split at h <;> cases h; rfl
def ann_laws_toVal : con_laws_toVal.α → Nat → Option (Ann UU) := fun a => annL []
def use_laws_toVal : List (FuncId × Con UU) := []
theorem vc_laws_toVal (a : DVal) : goal EE use_laws_toVal Go.Proofs.Tryz.f126 con_laws_toVal ann_laws_toVal a = (Lf [DV.agg [Cell.lit (Value.int IntKind.i64 a.K), Cell.lit (Value.int IntKind.i64 a.N), Cell.lit (Value.string a.S)]] [DV.agg [Cell.lit (Value.int IntKind.i64 a.K), Cell.lit (Value.int IntKind.i64 a.N), Cell.lit (Value.string a.S)]]) := by kernel_rfl
theorem ok_laws_toVal : Holds EE (126, con_laws_toVal) := by
  refine holds_of EE_ok Go.Proofs.Tryz.func126 con_laws_toVal (by kernel_rfl) use_laws_toVal all_nil ann_laws_toVal (fun (a : DVal) hp hb => ?_)
  have hb_a : BdDV (U := UU) (.agg [.lit (.int .i64 a.K), .lit (.int .i64 a.N), .lit (.string a.S)]) := hb _ (List.mem_cons_self)
  have hl_a_S : a.S.size ≤ 9223372036854775807 := Bd.str (hb_a _ (by simp))
  have hp0 : sizeVal a ≤ 4294967296 := hp _ (List.mem_cons_self)
  clear hp hb
  rw [vc_laws_toVal a]
  simp only [sizeVal] at hp0
  repeat' (first | exact Lf_rfl _ | (refine And.intro (by omega) ?_))
def con_laws_eqVal : Con UU where
  α := DVal × DVal
  md := [.ro, .ro]
  of := fun | [.agg [.lit (.int .i64 a0), .lit (.int .i64 a1), .lit (.string a2)], .agg [.lit (.int .i64 a3), .lit (.int .i64 a4), .lit (.string a5)]] => some (⟨a0, a1, a2⟩, ⟨a3, a4, a5⟩) | _ => none
  ds := fun (a, b) => [.agg [.lit (.int .i64 a.K), .lit (.int .i64 a.N), .lit (.string a.S)], .agg [.lit (.int .i64 b.K), .lit (.int .i64 b.N), .lit (.string b.S)]]
  pre := fun (a, b) => []
  res := fun (a, b) => ⟨[.one (.lit (.bool (decide (a = b))))], true, []⟩
  law := by intro l x h; (try simp only at h); split at h <;> cases h; rfl
def ann_laws_eqVal : con_laws_eqVal.α → Nat → Option (Ann UU) := fun (a, b) => annL []
def use_laws_eqVal : List (FuncId × Con UU) := []
theorem vc_laws_eqVal (a : DVal) (b : DVal) : goal EE use_laws_eqVal Go.Proofs.Tryz.f134 con_laws_eqVal ann_laws_eqVal (a, b) = (bif a.K != b.K then Lf [DV.one (Cell.lit (Value.bool false))] [DV.one (Cell.lit (Value.bool (decide (a = b))))] else bif a.N != b.N then Lf [DV.one (Cell.lit (Value.bool false))] [DV.one (Cell.lit (Value.bool (decide (a = b))))] else bif !ByteArray.toList a.S == ByteArray.toList b.S then Lf [DV.one (Cell.lit (Value.bool false))] [DV.one (Cell.lit (Value.bool (decide (a = b))))] else Lf [DV.one (Cell.lit (Value.bool true))] [DV.one (Cell.lit (Value.bool (decide (a = b))))]) := by kernel_rfl
theorem ok_laws_eqVal : Holds EE (134, con_laws_eqVal) := by
  refine holds_of EE_ok Go.Proofs.Tryz.func134 con_laws_eqVal (by kernel_rfl) use_laws_eqVal all_nil ann_laws_eqVal (fun x hp hb => ?_)
  obtain ⟨a, b⟩ := x
  have hb_a : BdDV (U := UU) (.agg [.lit (.int .i64 a.K), .lit (.int .i64 a.N), .lit (.string a.S)]) := hb _ (List.mem_cons_self)
  have hl_a_S : a.S.size ≤ 9223372036854775807 := Bd.str (hb_a _ (by simp))
  have hb_b : BdDV (U := UU) (.agg [.lit (.int .i64 b.K), .lit (.int .i64 b.N), .lit (.string b.S)]) := hb _ (List.mem_cons_of_mem _ (List.mem_cons_self))
  have hl_b_S : b.S.size ≤ 9223372036854775807 := Bd.str (hb_b _ (by simp))
  clear hp hb
  rw [vc_laws_eqVal a b]
  obtain ⟨aK, aN, aS⟩ := a
  obtain ⟨bK, bN, bS⟩ := b
  repeat' (apply if_cond <;> intro _)
  all_goals (first | apply Lf_t | apply Lf_f) <;> simp_all
def con_laws_szValS : Con UU where
  α := (List DVal) × Int
  md := [.ro, .ro]
  of := fun | [.one (.sl .lVal a0), .one (.lit (.int .i64 a1))] => some (a0, a1) | _ => none
  ds := fun (a, left) => [.one (.sl .lVal a), .one (.lit (.int .i64 left))]
  pre := fun (a, left) => [0 ≤ left]
  res := fun (a, left) => ⟨[.one (.lit (.int .i64 (szr left (sizeValS a))))], true, []⟩
  law := by intro l x h; (try simp only at h); split at h <;> cases h; rfl
def I_laws_szValS_5 (a : (List DVal)) (left : Int) : Int × Int × Unit → Prop := fun (lf, i, _) => 0 ≤ lf ∧ 0 ≤ i ∧ i ≤ a.length ∧ szr lf ((a.drop i.toNat).map sizeVal).sum = szr left (sizeValS a)
def μ_laws_szValS_5 (a : (List DVal)) (left : Int) : Int × Int × Unit → Nat := fun (lf, i, _) => a.length - i.toNat
def ann_laws_szValS : con_laws_szValS.α → Nat → Option (Ann UU) := fun (a, left) => annL [(5, annOf [.slot 1 (1, 1024) (.lit (.int .i64)), .slot 5 (5, 1024) (.lit (.int .i64))] (fun _ => I_laws_szValS_5 a left) (μ_laws_szValS_5 a left))]
def use_laws_szValS : List (FuncId × Con UU) := [(118, con_laws_szVal)]
theorem vc_laws_szValS (a : (List DVal)) (left : Int) : goal EE use_laws_szValS Go.Proofs.Tryz.f139 con_laws_szValS ann_laws_szValS (a, left) = (let x0 : Int := IntKind.wrap IntKind.i64 (left - (↑(List.length a) : Int));
bif decide (x0 < (0 : Int)) then Lf [DV.one (Cell.lit (Value.int IntKind.i64 (-1 : Int)))] [DV.one (Cell.lit (Value.int IntKind.i64 (szr left (sizeValS a))))]
else
  I_laws_szValS_5 a left (x0, (0 : Int), PUnit.unit) ∧
    ∀ (y : Int × Int × PUnit),
      let x1 : Int := szr y.1 (sizeVal (List.getD a (Int.toNat y.2.1) zVal));
      I_laws_szValS_5 a left y → bif decide (y.2.1 < (↑(List.length a) : Int)) then (0 : Int) ≤ y.2.1 ∧ Int.toNat y.2.1 < List.length a ∧ (0 : Int) ≤ y.1 ∧ bif decide (x1 < (0 : Int)) then Lf [DV.one (Cell.lit (Value.int IntKind.i64 (-1 : Int)))] [DV.one (Cell.lit (Value.int IntKind.i64 (szr left (sizeValS a))))] else I_laws_szValS_5 a left (x1, IntKind.wrap IntKind.i64 (y.2.1 + (1 : Int)), PUnit.unit) ∧ μ_laws_szValS_5 a left (x1, IntKind.wrap IntKind.i64 (y.2.1 + (1 : Int)), PUnit.unit) < μ_laws_szValS_5 a left y else Lf [DV.one (Cell.lit (Value.int IntKind.i64 y.1))] [DV.one (Cell.lit (Value.int IntKind.i64 (szr left (sizeValS a))))]) := by kernel_rfl
theorem ok_laws_szValS : Holds EE (139, con_laws_szValS) := by
  refine holds_of EE_ok Go.Proofs.Tryz.func139 con_laws_szValS (by kernel_rfl) use_laws_szValS (all_cons ok_laws_szVal all_nil) ann_laws_szValS (fun x hp hb => ?_)
  obtain ⟨a, left⟩ := x
  have hb_a : BdDV (U := UU) (.one (.sl .lVal a)) := hb _ (List.mem_cons_self)
  have hl_a : a.length ≤ 9223372036854775807 := Bd.len hb_a
  have hb_left : BdDV (U := UU) (.one (.lit (.int .i64 left))) := hb _ (List.mem_cons_of_mem _ (List.mem_cons_self))
  have hl_left := Bd.i64 hb_left
  have hp0 : 0 ≤ left := hp _ (List.mem_cons_self)
  clear hp hb
  rw [vc_laws_szValS a left]
  dsimp only
  rw [wrap_i64 (by omega) (by omega)]
  refine if_cond (fun h => Lf_i ?_) (fun h => ⟨?_, ?_⟩)
  · simp [szr, sizeValS] at *; omega
  · simp only [I_laws_szValS_5, sizeValS]; simp at h; have h' : 0 ≤ left - a.length := by omega
    exact ⟨h', by omega, by omega, szr_sub h'⟩
  rintro ⟨lf, i, ⟨⟩⟩ ⟨h0, h1, h2, hR⟩
  refine if_cond (fun hc => ?_) (fun hc => ?_)
  · have hc : i < a.length := by simpa using hc
    rw [drop_step a zVal h1 hc, List.map_cons, List.sum_cons] at hR
    simp only at *
    rw [wrap_i64 (by omega) (by omega)]
    generalize List.getD a i.toNat zVal = x at *
    refine ⟨by omega, by omega, by omega, if_cond (fun h => Lf_i ?_) (fun h => ⟨⟨?_, by omega, by omega, ?_⟩, ?_⟩)⟩
    · rw [← hR]; exact (szr_bad (of_decide_eq_true h)).symm
    · simp at h; omega
    · rw [← hR]; simp at h; exact szr_szr h
    · simp only [μ_laws_szValS_5]; omega
  · have hc : a.length ≤ i := by simpa using hc
    rw [drop_end a hc] at hR
    apply Lf_i; rw [← hR]; simp [szr, h0]
def con_laws_toValS : Con UU where
  α := (List DVal)
  md := [.ro]
  of := fun | [.one (.sl .lVal a0)] => some a0 | _ => none
  ds := fun a => [.one (.sl .lVal a)]
  pre := fun a => [sizeValS a ≤ 4294967296]
  res := fun a => ⟨[.one (.sl .eVal a)], true, []⟩
  law := by intro l x h; (try simp only at h); split at h <;> cases h; rfl
def I_laws_toValS_3 (a : (List DVal)) : List DVal × Int × Unit → Prop := fun (out, i, _) => 0 ≤ i ∧ i ≤ a.length ∧ out = a.take i.toNat ++ List.replicate (a.length - i.toNat) zVal
def μ_laws_toValS_3 (a : (List DVal)) : List DVal × Int × Unit → Nat := fun (out, i, _) => a.length - i.toNat
def ann_laws_toValS : con_laws_toValS.α → Nat → Option (Ann UU) := fun a => annL [(3, annOf [.slot 3 (3, 1024) (.own .eVal true), .slot 4 (4, 1024) (.lit (.int .i64))] (fun _ => I_laws_toValS_3 a) (μ_laws_toValS_3 a))]
def use_laws_toValS : List (FuncId × Con UU) := [(126, con_laws_toVal)]
theorem vc_laws_toValS (a : (List DVal)) : goal EE use_laws_toValS Go.Proofs.Tryz.f144 con_laws_toValS ann_laws_toValS a = (let x0 : Int := (↑(List.length a) : Int);
(0 : Int) ≤ x0 ∧
  x0 = x0 ∧
    x0 ≤ (4294967296 : Int) ∧
      I_laws_toValS_3 a (List.replicate (Int.toNat x0) zVal, (0 : Int), PUnit.unit) ∧
        ∀ (y : List DVal × Int × PUnit),
          let x1 : Nat := Int.toNat y.2.1;
          I_laws_toValS_3 a y → bif decide (y.2.1 < x0) then (0 : Int) ≤ y.2.1 ∧ x1 < List.length a ∧ sizeVal (List.getD a x1 zVal) ≤ (4294967296 : Nat) ∧ (0 : Int) ≤ y.2.1 ∧ x1 < List.length y.1 ∧ x1 < List.length y.1 ∧ I_laws_toValS_3 a (List.set y.1 x1 (List.getD a x1 zVal), IntKind.wrap IntKind.i64 (y.2.1 + (1 : Int)), PUnit.unit) ∧ μ_laws_toValS_3 a (List.set y.1 x1 (List.getD a x1 zVal), IntKind.wrap IntKind.i64 (y.2.1 + (1 : Int)), PUnit.unit) < μ_laws_toValS_3 a y else Lf [DV.one (Cell.sl Cd.eVal y.1)] [DV.one (Cell.sl Cd.eVal a)]) := by kernel_rfl
theorem ok_laws_toValS : Holds EE (144, con_laws_toValS) := by
  refine holds_of EE_ok Go.Proofs.Tryz.func144 con_laws_toValS (by kernel_rfl) use_laws_toValS (all_cons ok_laws_toVal all_nil) ann_laws_toValS (fun (a : (List DVal)) hp hb => ?_)
  have hb_a : BdDV (U := UU) (.one (.sl .lVal a)) := hb _ (List.mem_cons_self)
  have hl_a : a.length ≤ 9223372036854775807 := Bd.len hb_a
  have hp0 : sizeValS a ≤ 4294967296 := hp _ (List.mem_cons_self)
  clear hp hb
  rw [vc_laws_toValS a]
  dsimp only
  have hlen : a.length ≤ 4294967296 := by simp only [sizeValS] at hp0; omega
  refine ⟨by omega, rfl, by omega, ?_, ?_⟩
  · simp [I_laws_toValS_3]
  rintro ⟨out, i, ⟨⟩⟩ ⟨h1, h2, rfl⟩
  simp only at *
  refine if_cond (fun hc => ?_) (fun hc => ?_)
  · have hc : i < a.length := by simpa using hc
    rw [wrap_i64 (by omega) (by omega), set_fill a zVal h1 hc]
    exact ⟨h1, by omega, by exact Nat.le_trans (sum_getD_le sizeVal a zVal h1 hc) (by simp only [sizeValS] at hp0; omega), h1, by simp; omega, by simp; omega, ⟨by omega, by omega, rfl⟩, by simp only [μ_laws_toValS_3]; omega⟩
  · have hc : a.length ≤ i := by simpa using hc
    have e : i.toNat = a.length := by omega
    rw [e]; simp; exact Lf_rfl _
def con_laws_eqValS : Con UU where
  α := (List DVal) × (List DVal)
  md := [.ro, .ro]
  of := fun | [.one (.sl .eVal a0), .one (.sl .eVal a1)] => some (a0, a1) | _ => none
  ds := fun (a, b) => [.one (.sl .eVal a), .one (.sl .eVal b)]
  pre := fun (a, b) => []
  res := fun (a, b) => ⟨[.one (.lit (.bool (decide (a = b))))], true, []⟩
  law := by intro l x h; (try simp only at h); split at h <;> cases h; rfl
def I_laws_eqValS_4 (a : (List DVal)) (b : (List DVal)) : Int × Unit → Prop := fun (i, _) => 0 ≤ i ∧ i ≤ a.length ∧ a.length = b.length ∧ (a.drop i.toNat = b.drop i.toNat ↔ a = b)
def μ_laws_eqValS_4 (a : (List DVal)) (b : (List DVal)) : Int × Unit → Nat := fun (i, _) => a.length - i.toNat
def ann_laws_eqValS : con_laws_eqValS.α → Nat → Option (Ann UU) := fun (a, b) => annL [(4, annOf [.slot 5 (5, 1024) (.lit (.int .i64))] (fun _ => I_laws_eqValS_4 a b) (μ_laws_eqValS_4 a b))]
def use_laws_eqValS : List (FuncId × Con UU) := [(134, con_laws_eqVal)]
theorem vc_laws_eqValS (a : (List DVal)) (b : (List DVal)) : goal EE use_laws_eqValS Go.Proofs.Tryz.f149 con_laws_eqValS ann_laws_eqValS (a, b) = (bif (↑(List.length a) : Int) != (↑(List.length b) : Int) then Lf [DV.one (Cell.lit (Value.bool false))] [DV.one (Cell.lit (Value.bool (decide (a = b))))] else I_laws_eqValS_4 a b ((0 : Int), PUnit.unit) ∧ ∀ (y : Int × PUnit), I_laws_eqValS_4 a b y → bif decide (y.1 < (↑(List.length a) : Int)) then (0 : Int) ≤ y.1 ∧ Int.toNat y.1 < List.length a ∧ (0 : Int) ≤ y.1 ∧ Int.toNat y.1 < List.length b ∧ bif !decide (List.getD a (Int.toNat y.1) zVal = List.getD b (Int.toNat y.1) zVal) then Lf [DV.one (Cell.lit (Value.bool false))] [DV.one (Cell.lit (Value.bool (decide (a = b))))] else I_laws_eqValS_4 a b (IntKind.wrap IntKind.i64 (y.1 + (1 : Int)), PUnit.unit) ∧ μ_laws_eqValS_4 a b (IntKind.wrap IntKind.i64 (y.1 + (1 : Int)), PUnit.unit) < μ_laws_eqValS_4 a b y else Lf [DV.one (Cell.lit (Value.bool true))] [DV.one (Cell.lit (Value.bool (decide (a = b))))]) := by kernel_rfl
theorem ok_laws_eqValS : Holds EE (149, con_laws_eqValS) := by
  refine holds_of EE_ok Go.Proofs.Tryz.func149 con_laws_eqValS (by kernel_rfl) use_laws_eqValS (all_cons ok_laws_eqVal all_nil) ann_laws_eqValS (fun x hp hb => ?_)
  obtain ⟨a, b⟩ := x
  have hb_a : BdDV (U := UU) (.one (.sl .eVal a)) := hb _ (List.mem_cons_self)
  have hl_a : a.length ≤ 9223372036854775807 := Bd.len hb_a
  have hb_b : BdDV (U := UU) (.one (.sl .eVal b)) := hb _ (List.mem_cons_of_mem _ (List.mem_cons_self))
  have hl_b : b.length ≤ 9223372036854775807 := Bd.len hb_b
  clear hp hb
  rw [vc_laws_eqValS a b]
  refine if_cond (fun h => Lf_f ?_) (fun h => ⟨?_, ?_⟩)
  · rintro rfl; simp at h
  · simp [I_laws_eqValS_4] at *; omega
  rintro ⟨i, ⟨⟩⟩ ⟨h1, h2, h3, hR⟩
  simp only at *
  refine if_cond (fun hc => ?_) (fun hc => ?_)
  · have hc : i < a.length := by simpa using hc
    rw [drop_step a zVal h1 hc, drop_step b zVal h1 (by omega)] at hR
    rw [wrap_i64 (by omega) (by omega)]
    refine ⟨by omega, by omega, by omega, by omega, if_cond (fun h => Lf_f ?_) (fun h => ⟨⟨by omega, by omega, h3, ?_⟩, ?_⟩)⟩
    · rw [← hR]; simp at h; simp [h]
    · rw [← hR]; simp at h; simp [h]
    · simp only [μ_laws_eqValS_4]; omega
  · have hc : a.length ≤ i := by simpa using hc
    rw [drop_end a hc, drop_end b (by omega)] at hR
    exact Lf_t (hR.1 rfl)
def con_laws_szFact : Con UU where
  α := DFact × Int
  md := [.ro, .ro]
  of := fun | [.agg [.lit (.string a0), .sl .lVal a1], .one (.lit (.int .i64 a2))] => some (⟨a0, a1⟩, a2) | _ => none
  ds := fun (a, left) => [.agg [.lit (.string a.Kind), .sl .lVal a.Fields], .one (.lit (.int .i64 left))]
  pre := fun (a, left) => [0 ≤ left]
  res := fun (a, left) => ⟨[.one (.lit (.int .i64 (szr left (sizeFact a))))], true, []⟩
  law := by intro l x h; (try simp only at h); split at h <;> cases h; rfl
def ann_laws_szFact : con_laws_szFact.α → Nat → Option (Ann UU) := fun (a, left) => annL []
def use_laws_szFact : List (FuncId × Con UU) := [(139, con_laws_szValS)]
theorem vc_laws_szFact (a : DFact) (left : Int) : goal EE use_laws_szFact Go.Proofs.Tryz.f117 con_laws_szFact ann_laws_szFact (a, left) = (let x0 : Int := IntKind.wrap IntKind.i64 (left - (↑(ByteArray.size a.Kind) : Int));
bif decide (x0 < (0 : Int)) then Lf [DV.one (Cell.lit (Value.int IntKind.i64 (-1 : Int)))] [DV.one (Cell.lit (Value.int IntKind.i64 (szr left (sizeFact a))))] else (0 : Int) ≤ x0 ∧ bif decide (szr x0 (sizeValS a.Fields) < (0 : Int)) then Lf [DV.one (Cell.lit (Value.int IntKind.i64 (-1 : Int)))] [DV.one (Cell.lit (Value.int IntKind.i64 (szr left (sizeFact a))))] else Lf [DV.one (Cell.lit (Value.int IntKind.i64 (szr x0 (sizeValS a.Fields))))] [DV.one (Cell.lit (Value.int IntKind.i64 (szr left (sizeFact a))))]) := by kernel_rfl
theorem ok_laws_szFact : Holds EE (117, con_laws_szFact) := by
  refine holds_of EE_ok Go.Proofs.Tryz.func117 con_laws_szFact (by kernel_rfl) use_laws_szFact (all_cons ok_laws_szValS all_nil) ann_laws_szFact (fun x hp hb => ?_)
  obtain ⟨a, left⟩ := x
  have hb_a : BdDV (U := UU) (.agg [.lit (.string a.Kind), .sl .lVal a.Fields]) := hb _ (List.mem_cons_self)
  have hl_a_Kind : a.Kind.size ≤ 9223372036854775807 := Bd.str (hb_a _ (by simp))
  have hl_a_Fields : a.Fields.length ≤ 9223372036854775807 := Bd.len (U := UU) (τ := .lVal) (xs := a.Fields) (hb_a _ (by simp))
  have hb_left : BdDV (U := UU) (.one (.lit (.int .i64 left))) := hb _ (List.mem_cons_of_mem _ (List.mem_cons_self))
  have hl_left := Bd.i64 hb_left
  have hp0 : 0 ≤ left := hp _ (List.mem_cons_self)
  clear hp hb
  rw [vc_laws_szFact a left]
  dsimp only
  rw [wrap_i64 (by omega) (by omega)]
  refine if_cond (fun h => Lf_i (szr_bad' ?_)) (fun h => ?_)
  · have h := of_decide_eq_true h; simp only [sizeFact]; omega
  have h0 := of_decide_eq_false h
  refine ⟨by omega, if_cond (fun h => Lf_i (szr_bad' ?_)) (fun h => ?_)⟩
  · have h := szr_neg h; simp only [sizeFact]; omega
  obtain ⟨e1, h1⟩ := szr_pos h
  rw [e1]
  exact Lf_i (by rw [← szr_ok' (by simp only [sizeFact]; omega)]; simp only [sizeFact]; try omega)
def con_laws_toFact : Con UU where
  α := DFact
  md := [.ro]
  of := fun | [.agg [.lit (.string a0), .sl .lVal a1]] => some ⟨a0, a1⟩ | _ => none
  ds := fun a => [.agg [.lit (.string a.Kind), .sl .lVal a.Fields]]
  pre := fun a => [sizeFact a ≤ 4294967296]
  res := fun a => ⟨[.agg [.lit (.string a.Kind), .sl .eVal a.Fields]], true, []⟩
  law := by intro l x h; (try simp only at h); split at h <;> cases h; rfl
def ann_laws_toFact : con_laws_toFact.α → Nat → Option (Ann UU) := fun a => annL []
def use_laws_toFact : List (FuncId × Con UU) := [(144, con_laws_toValS)]
theorem vc_laws_toFact (a : DFact) : goal EE use_laws_toFact Go.Proofs.Tryz.f125 con_laws_toFact ann_laws_toFact a = (sizeValS a.Fields ≤ (4294967296 : Nat) ∧ Lf [DV.agg [Cell.lit (Value.string a.Kind), Cell.sl Cd.eVal a.Fields]] [DV.agg [Cell.lit (Value.string a.Kind), Cell.sl Cd.eVal a.Fields]]) := by kernel_rfl
theorem ok_laws_toFact : Holds EE (125, con_laws_toFact) := by
  refine holds_of EE_ok Go.Proofs.Tryz.func125 con_laws_toFact (by kernel_rfl) use_laws_toFact (all_cons ok_laws_toValS all_nil) ann_laws_toFact (fun (a : DFact) hp hb => ?_)
  have hb_a : BdDV (U := UU) (.agg [.lit (.string a.Kind), .sl .lVal a.Fields]) := hb _ (List.mem_cons_self)
  have hl_a_Kind : a.Kind.size ≤ 9223372036854775807 := Bd.str (hb_a _ (by simp))
  have hl_a_Fields : a.Fields.length ≤ 9223372036854775807 := Bd.len (U := UU) (τ := .lVal) (xs := a.Fields) (hb_a _ (by simp))
  have hp0 : sizeFact a ≤ 4294967296 := hp _ (List.mem_cons_self)
  clear hp hb
  rw [vc_laws_toFact a]
  simp only [sizeFact] at hp0
  repeat' (first | exact Lf_rfl _ | (refine And.intro (by omega) ?_))
def con_laws_eqFact : Con UU where
  α := DFact × DFact
  md := [.ro, .ro]
  of := fun | [.agg [.lit (.string a0), .sl .eVal a1], .agg [.lit (.string a2), .sl .eVal a3]] => some (⟨a0, a1⟩, ⟨a2, a3⟩) | _ => none
  ds := fun (a, b) => [.agg [.lit (.string a.Kind), .sl .eVal a.Fields], .agg [.lit (.string b.Kind), .sl .eVal b.Fields]]
  pre := fun (a, b) => []
  res := fun (a, b) => ⟨[.one (.lit (.bool (decide (a = b))))], true, []⟩
  law := by intro l x h; (try simp only at h); split at h <;> cases h; rfl
def ann_laws_eqFact : con_laws_eqFact.α → Nat → Option (Ann UU) := fun (a, b) => annL []
def use_laws_eqFact : List (FuncId × Con UU) := [(149, con_laws_eqValS)]
theorem vc_laws_eqFact (a : DFact) (b : DFact) : goal EE use_laws_eqFact Go.Proofs.Tryz.f133 con_laws_eqFact ann_laws_eqFact (a, b) = (bif !ByteArray.toList a.Kind == ByteArray.toList b.Kind then Lf [DV.one (Cell.lit (Value.bool false))] [DV.one (Cell.lit (Value.bool (decide (a = b))))] else bif !decide (a.Fields = b.Fields) then Lf [DV.one (Cell.lit (Value.bool false))] [DV.one (Cell.lit (Value.bool (decide (a = b))))] else Lf [DV.one (Cell.lit (Value.bool true))] [DV.one (Cell.lit (Value.bool (decide (a = b))))]) := by kernel_rfl
theorem ok_laws_eqFact : Holds EE (133, con_laws_eqFact) := by
  refine holds_of EE_ok Go.Proofs.Tryz.func133 con_laws_eqFact (by kernel_rfl) use_laws_eqFact (all_cons ok_laws_eqValS all_nil) ann_laws_eqFact (fun x hp hb => ?_)
  obtain ⟨a, b⟩ := x
  have hb_a : BdDV (U := UU) (.agg [.lit (.string a.Kind), .sl .eVal a.Fields]) := hb _ (List.mem_cons_self)
  have hl_a_Kind : a.Kind.size ≤ 9223372036854775807 := Bd.str (hb_a _ (by simp))
  have hl_a_Fields : a.Fields.length ≤ 9223372036854775807 := Bd.len (U := UU) (τ := .eVal) (xs := a.Fields) (hb_a _ (by simp))
  have hb_b : BdDV (U := UU) (.agg [.lit (.string b.Kind), .sl .eVal b.Fields]) := hb _ (List.mem_cons_of_mem _ (List.mem_cons_self))
  have hl_b_Kind : b.Kind.size ≤ 9223372036854775807 := Bd.str (hb_b _ (by simp))
  have hl_b_Fields : b.Fields.length ≤ 9223372036854775807 := Bd.len (U := UU) (τ := .eVal) (xs := b.Fields) (hb_b _ (by simp))
  clear hp hb
  rw [vc_laws_eqFact a b]
  obtain ⟨aKind, aFields⟩ := a
  obtain ⟨bKind, bFields⟩ := b
  repeat' (apply if_cond <;> intro _)
  all_goals (first | apply Lf_t | apply Lf_f) <;> simp_all
def con_laws_szTimer : Con UU where
  α := DTimer × Int
  md := [.ro, .ro]
  of := fun | [.agg [.lit (.int .i64 a0), .lit (.string a1), .sl .lVal a2], .one (.lit (.int .i64 a3))] => some (⟨a0, ⟨a1, a2⟩⟩, a3) | _ => none
  ds := fun (a, left) => [.agg [.lit (.int .i64 a.At), .lit (.string a.F.Kind), .sl .lVal a.F.Fields], .one (.lit (.int .i64 left))]
  pre := fun (a, left) => [0 ≤ left]
  res := fun (a, left) => ⟨[.one (.lit (.int .i64 (szr left (sizeTimer a))))], true, []⟩
  law := by intro l x h; (try simp only at h); split at h <;> cases h; rfl
def ann_laws_szTimer : con_laws_szTimer.α → Nat → Option (Ann UU) := fun (a, left) => annL []
def use_laws_szTimer : List (FuncId × Con UU) := [(117, con_laws_szFact)]
theorem vc_laws_szTimer (a : DTimer) (left : Int) : goal EE use_laws_szTimer Go.Proofs.Tryz.f93 con_laws_szTimer ann_laws_szTimer (a, left) = ((0 : Int) ≤ left ∧ bif decide (szr left (sizeFact a.F) < (0 : Int)) then Lf [DV.one (Cell.lit (Value.int IntKind.i64 (-1 : Int)))] [DV.one (Cell.lit (Value.int IntKind.i64 (szr left (sizeTimer a))))] else Lf [DV.one (Cell.lit (Value.int IntKind.i64 (szr left (sizeFact a.F))))] [DV.one (Cell.lit (Value.int IntKind.i64 (szr left (sizeTimer a))))]) := by kernel_rfl
theorem ok_laws_szTimer : Holds EE (93, con_laws_szTimer) := by
  refine holds_of EE_ok Go.Proofs.Tryz.func93 con_laws_szTimer (by kernel_rfl) use_laws_szTimer (all_cons ok_laws_szFact all_nil) ann_laws_szTimer (fun x hp hb => ?_)
  obtain ⟨a, left⟩ := x
  have hb_a : BdDV (U := UU) (.agg [.lit (.int .i64 a.At), .lit (.string a.F.Kind), .sl .lVal a.F.Fields]) := hb _ (List.mem_cons_self)
  have hl_a_F_Kind : a.F.Kind.size ≤ 9223372036854775807 := Bd.str (hb_a _ (by simp))
  have hl_a_F_Fields : a.F.Fields.length ≤ 9223372036854775807 := Bd.len (U := UU) (τ := .lVal) (xs := a.F.Fields) (hb_a _ (by simp))
  have hb_left : BdDV (U := UU) (.one (.lit (.int .i64 left))) := hb _ (List.mem_cons_of_mem _ (List.mem_cons_self))
  have hl_left := Bd.i64 hb_left
  have hp0 : 0 ≤ left := hp _ (List.mem_cons_self)
  clear hp hb
  rw [vc_laws_szTimer a left]
  refine ⟨by omega, if_cond (fun h => Lf_i (szr_bad' ?_)) (fun h => ?_)⟩
  · have h := szr_neg h; simp only [sizeTimer]; omega
  obtain ⟨e0, h0⟩ := szr_pos h
  rw [e0]
  exact Lf_i (by rw [← szr_ok' (by simp only [sizeTimer]; omega)]; simp only [sizeTimer]; try omega)
def con_laws_toTimer : Con UU where
  α := DTimer
  md := [.ro]
  of := fun | [.agg [.lit (.int .i64 a0), .lit (.string a1), .sl .lVal a2]] => some ⟨a0, ⟨a1, a2⟩⟩ | _ => none
  ds := fun a => [.agg [.lit (.int .i64 a.At), .lit (.string a.F.Kind), .sl .lVal a.F.Fields]]
  pre := fun a => [sizeTimer a ≤ 4294967296]
  res := fun a => ⟨[.agg [.lit (.int .i64 a.At), .lit (.string a.F.Kind), .sl .eVal a.F.Fields]], true, []⟩
  law := by intro l x h; (try simp only at h); split at h <;> cases h; rfl
def ann_laws_toTimer : con_laws_toTimer.α → Nat → Option (Ann UU) := fun a => annL []
def use_laws_toTimer : List (FuncId × Con UU) := [(125, con_laws_toFact)]
theorem vc_laws_toTimer (a : DTimer) : goal EE use_laws_toTimer Go.Proofs.Tryz.f101 con_laws_toTimer ann_laws_toTimer a = (sizeFact a.F ≤ (4294967296 : Nat) ∧ Lf [DV.agg [Cell.lit (Value.int IntKind.i64 a.At), Cell.lit (Value.string a.F.Kind), Cell.sl Cd.eVal a.F.Fields]] [DV.agg [Cell.lit (Value.int IntKind.i64 a.At), Cell.lit (Value.string a.F.Kind), Cell.sl Cd.eVal a.F.Fields]]) := by kernel_rfl
theorem ok_laws_toTimer : Holds EE (101, con_laws_toTimer) := by
  refine holds_of EE_ok Go.Proofs.Tryz.func101 con_laws_toTimer (by kernel_rfl) use_laws_toTimer (all_cons ok_laws_toFact all_nil) ann_laws_toTimer (fun (a : DTimer) hp hb => ?_)
  have hb_a : BdDV (U := UU) (.agg [.lit (.int .i64 a.At), .lit (.string a.F.Kind), .sl .lVal a.F.Fields]) := hb _ (List.mem_cons_self)
  have hl_a_F_Kind : a.F.Kind.size ≤ 9223372036854775807 := Bd.str (hb_a _ (by simp))
  have hl_a_F_Fields : a.F.Fields.length ≤ 9223372036854775807 := Bd.len (U := UU) (τ := .lVal) (xs := a.F.Fields) (hb_a _ (by simp))
  have hp0 : sizeTimer a ≤ 4294967296 := hp _ (List.mem_cons_self)
  clear hp hb
  rw [vc_laws_toTimer a]
  simp only [sizeTimer] at hp0
  repeat' (first | exact Lf_rfl _ | (refine And.intro (by omega) ?_))
def con_laws_eqTimer : Con UU where
  α := DTimer × DTimer
  md := [.ro, .ro]
  of := fun | [.agg [.lit (.int .i64 a0), .lit (.string a1), .sl .eVal a2], .agg [.lit (.int .i64 a3), .lit (.string a4), .sl .eVal a5]] => some (⟨a0, ⟨a1, a2⟩⟩, ⟨a3, ⟨a4, a5⟩⟩) | _ => none
  ds := fun (a, b) => [.agg [.lit (.int .i64 a.At), .lit (.string a.F.Kind), .sl .eVal a.F.Fields], .agg [.lit (.int .i64 b.At), .lit (.string b.F.Kind), .sl .eVal b.F.Fields]]
  pre := fun (a, b) => []
  res := fun (a, b) => ⟨[.one (.lit (.bool (decide (a = b))))], true, []⟩
  law := by intro l x h; (try simp only at h); split at h <;> cases h; rfl
def ann_laws_eqTimer : con_laws_eqTimer.α → Nat → Option (Ann UU) := fun (a, b) => annL []
def use_laws_eqTimer : List (FuncId × Con UU) := [(133, con_laws_eqFact)]
theorem vc_laws_eqTimer (a : DTimer) (b : DTimer) : goal EE use_laws_eqTimer Go.Proofs.Tryz.f109 con_laws_eqTimer ann_laws_eqTimer (a, b) = (bif a.At != b.At then Lf [DV.one (Cell.lit (Value.bool false))] [DV.one (Cell.lit (Value.bool (decide (a = b))))] else bif !decide (a.F = b.F) then Lf [DV.one (Cell.lit (Value.bool false))] [DV.one (Cell.lit (Value.bool (decide (a = b))))] else Lf [DV.one (Cell.lit (Value.bool true))] [DV.one (Cell.lit (Value.bool (decide (a = b))))]) := by kernel_rfl
theorem ok_laws_eqTimer : Holds EE (109, con_laws_eqTimer) := by
  refine holds_of EE_ok Go.Proofs.Tryz.func109 con_laws_eqTimer (by kernel_rfl) use_laws_eqTimer (all_cons ok_laws_eqFact all_nil) ann_laws_eqTimer (fun x hp hb => ?_)
  obtain ⟨a, b⟩ := x
  have hb_a : BdDV (U := UU) (.agg [.lit (.int .i64 a.At), .lit (.string a.F.Kind), .sl .eVal a.F.Fields]) := hb _ (List.mem_cons_self)
  have hl_a_F_Kind : a.F.Kind.size ≤ 9223372036854775807 := Bd.str (hb_a _ (by simp))
  have hl_a_F_Fields : a.F.Fields.length ≤ 9223372036854775807 := Bd.len (U := UU) (τ := .eVal) (xs := a.F.Fields) (hb_a _ (by simp))
  have hb_b : BdDV (U := UU) (.agg [.lit (.int .i64 b.At), .lit (.string b.F.Kind), .sl .eVal b.F.Fields]) := hb _ (List.mem_cons_of_mem _ (List.mem_cons_self))
  have hl_b_F_Kind : b.F.Kind.size ≤ 9223372036854775807 := Bd.str (hb_b _ (by simp))
  have hl_b_F_Fields : b.F.Fields.length ≤ 9223372036854775807 := Bd.len (U := UU) (τ := .eVal) (xs := b.F.Fields) (hb_b _ (by simp))
  clear hp hb
  rw [vc_laws_eqTimer a b]
  obtain ⟨aAt, aF⟩ := a
  obtain ⟨bAt, bF⟩ := b
  repeat' (apply if_cond <;> intro _)
  all_goals (first | apply Lf_t | apply Lf_f) <;> simp_all
def con_laws_szTimerS : Con UU where
  α := (List DTimer) × Int
  md := [.ro, .ro]
  of := fun | [.one (.sl .lTimer a0), .one (.lit (.int .i64 a1))] => some (a0, a1) | _ => none
  ds := fun (a, left) => [.one (.sl .lTimer a), .one (.lit (.int .i64 left))]
  pre := fun (a, left) => [0 ≤ left]
  res := fun (a, left) => ⟨[.one (.lit (.int .i64 (szr left (sizeTimerS a))))], true, []⟩
  law := by intro l x h; (try simp only at h); split at h <;> cases h; rfl
def I_laws_szTimerS_5 (a : (List DTimer)) (left : Int) : Int × Int × Unit → Prop := fun (lf, i, _) => 0 ≤ lf ∧ 0 ≤ i ∧ i ≤ a.length ∧ szr lf ((a.drop i.toNat).map sizeTimer).sum = szr left (sizeTimerS a)
def μ_laws_szTimerS_5 (a : (List DTimer)) (left : Int) : Int × Int × Unit → Nat := fun (lf, i, _) => a.length - i.toNat
def ann_laws_szTimerS : con_laws_szTimerS.α → Nat → Option (Ann UU) := fun (a, left) => annL [(5, annOf [.slot 1 (1, 1024) (.lit (.int .i64)), .slot 5 (5, 1024) (.lit (.int .i64))] (fun _ => I_laws_szTimerS_5 a left) (μ_laws_szTimerS_5 a left))]
def use_laws_szTimerS : List (FuncId × Con UU) := [(93, con_laws_szTimer)]
theorem vc_laws_szTimerS (a : (List DTimer)) (left : Int) : goal EE use_laws_szTimerS Go.Proofs.Tryz.f69 con_laws_szTimerS ann_laws_szTimerS (a, left) = (let x0 : Int := IntKind.wrap IntKind.i64 (left - (↑(List.length a) : Int));
bif decide (x0 < (0 : Int)) then Lf [DV.one (Cell.lit (Value.int IntKind.i64 (-1 : Int)))] [DV.one (Cell.lit (Value.int IntKind.i64 (szr left (sizeTimerS a))))]
else
  I_laws_szTimerS_5 a left (x0, (0 : Int), PUnit.unit) ∧
    ∀ (y : Int × Int × PUnit),
      let x1 : Int := szr y.1 (sizeTimer (List.getD a (Int.toNat y.2.1) zTimer));
      I_laws_szTimerS_5 a left y → bif decide (y.2.1 < (↑(List.length a) : Int)) then (0 : Int) ≤ y.2.1 ∧ Int.toNat y.2.1 < List.length a ∧ (0 : Int) ≤ y.1 ∧ bif decide (x1 < (0 : Int)) then Lf [DV.one (Cell.lit (Value.int IntKind.i64 (-1 : Int)))] [DV.one (Cell.lit (Value.int IntKind.i64 (szr left (sizeTimerS a))))] else I_laws_szTimerS_5 a left (x1, IntKind.wrap IntKind.i64 (y.2.1 + (1 : Int)), PUnit.unit) ∧ μ_laws_szTimerS_5 a left (x1, IntKind.wrap IntKind.i64 (y.2.1 + (1 : Int)), PUnit.unit) < μ_laws_szTimerS_5 a left y else Lf [DV.one (Cell.lit (Value.int IntKind.i64 y.1))] [DV.one (Cell.lit (Value.int IntKind.i64 (szr left (sizeTimerS a))))]) := by kernel_rfl
theorem ok_laws_szTimerS : Holds EE (69, con_laws_szTimerS) := by
  refine holds_of EE_ok Go.Proofs.Tryz.func69 con_laws_szTimerS (by kernel_rfl) use_laws_szTimerS (all_cons ok_laws_szTimer all_nil) ann_laws_szTimerS (fun x hp hb => ?_)
  obtain ⟨a, left⟩ := x
  have hb_a : BdDV (U := UU) (.one (.sl .lTimer a)) := hb _ (List.mem_cons_self)
  have hl_a : a.length ≤ 9223372036854775807 := Bd.len hb_a
  have hb_left : BdDV (U := UU) (.one (.lit (.int .i64 left))) := hb _ (List.mem_cons_of_mem _ (List.mem_cons_self))
  have hl_left := Bd.i64 hb_left
  have hp0 : 0 ≤ left := hp _ (List.mem_cons_self)
  clear hp hb
  rw [vc_laws_szTimerS a left]
  dsimp only
  rw [wrap_i64 (by omega) (by omega)]
  refine if_cond (fun h => Lf_i ?_) (fun h => ⟨?_, ?_⟩)
  · simp [szr, sizeTimerS] at *; omega
  · simp only [I_laws_szTimerS_5, sizeTimerS]; simp at h; have h' : 0 ≤ left - a.length := by omega
    exact ⟨h', by omega, by omega, szr_sub h'⟩
  rintro ⟨lf, i, ⟨⟩⟩ ⟨h0, h1, h2, hR⟩
  refine if_cond (fun hc => ?_) (fun hc => ?_)
  · have hc : i < a.length := by simpa using hc
    rw [drop_step a zTimer h1 hc, List.map_cons, List.sum_cons] at hR
    simp only at *
    rw [wrap_i64 (by omega) (by omega)]
    generalize List.getD a i.toNat zTimer = x at *
    refine ⟨by omega, by omega, by omega, if_cond (fun h => Lf_i ?_) (fun h => ⟨⟨?_, by omega, by omega, ?_⟩, ?_⟩)⟩
    · rw [← hR]; exact (szr_bad (of_decide_eq_true h)).symm
    · simp at h; omega
    · rw [← hR]; simp at h; exact szr_szr h
    · simp only [μ_laws_szTimerS_5]; omega
  · have hc : a.length ≤ i := by simpa using hc
    rw [drop_end a hc] at hR
    apply Lf_i; rw [← hR]; simp [szr, h0]
def con_laws_toTimerS : Con UU where
  α := (List DTimer)
  md := [.ro]
  of := fun | [.one (.sl .lTimer a0)] => some a0 | _ => none
  ds := fun a => [.one (.sl .lTimer a)]
  pre := fun a => [sizeTimerS a ≤ 4294967296]
  res := fun a => ⟨[.one (.sl .eTimer a)], true, []⟩
  law := by intro l x h; (try simp only at h); split at h <;> cases h; rfl
def I_laws_toTimerS_3 (a : (List DTimer)) : List DTimer × Int × Unit → Prop := fun (out, i, _) => 0 ≤ i ∧ i ≤ a.length ∧ out = a.take i.toNat ++ List.replicate (a.length - i.toNat) zTimer
def μ_laws_toTimerS_3 (a : (List DTimer)) : List DTimer × Int × Unit → Nat := fun (out, i, _) => a.length - i.toNat
def ann_laws_toTimerS : con_laws_toTimerS.α → Nat → Option (Ann UU) := fun a => annL [(3, annOf [.slot 3 (3, 1024) (.own .eTimer true), .slot 4 (4, 1024) (.lit (.int .i64))] (fun _ => I_laws_toTimerS_3 a) (μ_laws_toTimerS_3 a))]
def use_laws_toTimerS : List (FuncId × Con UU) := [(101, con_laws_toTimer)]
theorem vc_laws_toTimerS (a : (List DTimer)) : goal EE use_laws_toTimerS Go.Proofs.Tryz.f76 con_laws_toTimerS ann_laws_toTimerS a = (let x0 : Int := (↑(List.length a) : Int);
(0 : Int) ≤ x0 ∧
  x0 = x0 ∧
    x0 ≤ (4294967296 : Int) ∧
      I_laws_toTimerS_3 a (List.replicate (Int.toNat x0) zTimer, (0 : Int), PUnit.unit) ∧
        ∀ (y : List DTimer × Int × PUnit),
          let x1 : Nat := Int.toNat y.2.1;
          I_laws_toTimerS_3 a y → bif decide (y.2.1 < x0) then (0 : Int) ≤ y.2.1 ∧ x1 < List.length a ∧ sizeTimer (List.getD a x1 zTimer) ≤ (4294967296 : Nat) ∧ (0 : Int) ≤ y.2.1 ∧ x1 < List.length y.1 ∧ x1 < List.length y.1 ∧ I_laws_toTimerS_3 a (List.set y.1 x1 (List.getD a x1 zTimer), IntKind.wrap IntKind.i64 (y.2.1 + (1 : Int)), PUnit.unit) ∧ μ_laws_toTimerS_3 a (List.set y.1 x1 (List.getD a x1 zTimer), IntKind.wrap IntKind.i64 (y.2.1 + (1 : Int)), PUnit.unit) < μ_laws_toTimerS_3 a y else Lf [DV.one (Cell.sl Cd.eTimer y.1)] [DV.one (Cell.sl Cd.eTimer a)]) := by kernel_rfl
theorem ok_laws_toTimerS : Holds EE (76, con_laws_toTimerS) := by
  refine holds_of EE_ok Go.Proofs.Tryz.func76 con_laws_toTimerS (by kernel_rfl) use_laws_toTimerS (all_cons ok_laws_toTimer all_nil) ann_laws_toTimerS (fun (a : (List DTimer)) hp hb => ?_)
  have hb_a : BdDV (U := UU) (.one (.sl .lTimer a)) := hb _ (List.mem_cons_self)
  have hl_a : a.length ≤ 9223372036854775807 := Bd.len hb_a
  have hp0 : sizeTimerS a ≤ 4294967296 := hp _ (List.mem_cons_self)
  clear hp hb
  rw [vc_laws_toTimerS a]
  dsimp only
  have hlen : a.length ≤ 4294967296 := by simp only [sizeTimerS] at hp0; omega
  refine ⟨by omega, rfl, by omega, ?_, ?_⟩
  · simp [I_laws_toTimerS_3]
  rintro ⟨out, i, ⟨⟩⟩ ⟨h1, h2, rfl⟩
  simp only at *
  refine if_cond (fun hc => ?_) (fun hc => ?_)
  · have hc : i < a.length := by simpa using hc
    rw [wrap_i64 (by omega) (by omega), set_fill a zTimer h1 hc]
    exact ⟨h1, by omega, by exact Nat.le_trans (sum_getD_le sizeTimer a zTimer h1 hc) (by simp only [sizeTimerS] at hp0; omega), h1, by simp; omega, by simp; omega, ⟨by omega, by omega, rfl⟩, by simp only [μ_laws_toTimerS_3]; omega⟩
  · have hc : a.length ≤ i := by simpa using hc
    have e : i.toNat = a.length := by omega
    rw [e]; simp; exact Lf_rfl _
def con_laws_eqTimerS : Con UU where
  α := (List DTimer) × (List DTimer)
  md := [.ro, .ro]
  of := fun | [.one (.sl .eTimer a0), .one (.sl .eTimer a1)] => some (a0, a1) | _ => none
  ds := fun (a, b) => [.one (.sl .eTimer a), .one (.sl .eTimer b)]
  pre := fun (a, b) => []
  res := fun (a, b) => ⟨[.one (.lit (.bool (decide (a = b))))], true, []⟩
  law := by intro l x h; (try simp only at h); split at h <;> cases h; rfl
def I_laws_eqTimerS_4 (a : (List DTimer)) (b : (List DTimer)) : Int × Unit → Prop := fun (i, _) => 0 ≤ i ∧ i ≤ a.length ∧ a.length = b.length ∧ (a.drop i.toNat = b.drop i.toNat ↔ a = b)
def μ_laws_eqTimerS_4 (a : (List DTimer)) (b : (List DTimer)) : Int × Unit → Nat := fun (i, _) => a.length - i.toNat
def ann_laws_eqTimerS : con_laws_eqTimerS.α → Nat → Option (Ann UU) := fun (a, b) => annL [(4, annOf [.slot 5 (5, 1024) (.lit (.int .i64))] (fun _ => I_laws_eqTimerS_4 a b) (μ_laws_eqTimerS_4 a b))]
def use_laws_eqTimerS : List (FuncId × Con UU) := [(109, con_laws_eqTimer)]
theorem vc_laws_eqTimerS (a : (List DTimer)) (b : (List DTimer)) : goal EE use_laws_eqTimerS Go.Proofs.Tryz.f85 con_laws_eqTimerS ann_laws_eqTimerS (a, b) = (bif (↑(List.length a) : Int) != (↑(List.length b) : Int) then Lf [DV.one (Cell.lit (Value.bool false))] [DV.one (Cell.lit (Value.bool (decide (a = b))))] else I_laws_eqTimerS_4 a b ((0 : Int), PUnit.unit) ∧ ∀ (y : Int × PUnit), I_laws_eqTimerS_4 a b y → bif decide (y.1 < (↑(List.length a) : Int)) then (0 : Int) ≤ y.1 ∧ Int.toNat y.1 < List.length a ∧ (0 : Int) ≤ y.1 ∧ Int.toNat y.1 < List.length b ∧ bif !decide (List.getD a (Int.toNat y.1) zTimer = List.getD b (Int.toNat y.1) zTimer) then Lf [DV.one (Cell.lit (Value.bool false))] [DV.one (Cell.lit (Value.bool (decide (a = b))))] else I_laws_eqTimerS_4 a b (IntKind.wrap IntKind.i64 (y.1 + (1 : Int)), PUnit.unit) ∧ μ_laws_eqTimerS_4 a b (IntKind.wrap IntKind.i64 (y.1 + (1 : Int)), PUnit.unit) < μ_laws_eqTimerS_4 a b y else Lf [DV.one (Cell.lit (Value.bool true))] [DV.one (Cell.lit (Value.bool (decide (a = b))))]) := by kernel_rfl
theorem ok_laws_eqTimerS : Holds EE (85, con_laws_eqTimerS) := by
  refine holds_of EE_ok Go.Proofs.Tryz.func85 con_laws_eqTimerS (by kernel_rfl) use_laws_eqTimerS (all_cons ok_laws_eqTimer all_nil) ann_laws_eqTimerS (fun x hp hb => ?_)
  obtain ⟨a, b⟩ := x
  have hb_a : BdDV (U := UU) (.one (.sl .eTimer a)) := hb _ (List.mem_cons_self)
  have hl_a : a.length ≤ 9223372036854775807 := Bd.len hb_a
  have hb_b : BdDV (U := UU) (.one (.sl .eTimer b)) := hb _ (List.mem_cons_of_mem _ (List.mem_cons_self))
  have hl_b : b.length ≤ 9223372036854775807 := Bd.len hb_b
  clear hp hb
  rw [vc_laws_eqTimerS a b]
  refine if_cond (fun h => Lf_f ?_) (fun h => ⟨?_, ?_⟩)
  · rintro rfl; simp at h
  · simp [I_laws_eqTimerS_4] at *; omega
  rintro ⟨i, ⟨⟩⟩ ⟨h1, h2, h3, hR⟩
  simp only at *
  refine if_cond (fun hc => ?_) (fun hc => ?_)
  · have hc : i < a.length := by simpa using hc
    rw [drop_step a zTimer h1 hc, drop_step b zTimer h1 (by omega)] at hR
    rw [wrap_i64 (by omega) (by omega)]
    refine ⟨by omega, by omega, by omega, by omega, if_cond (fun h => Lf_f ?_) (fun h => ⟨⟨by omega, by omega, h3, ?_⟩, ?_⟩)⟩
    · rw [← hR]; simp at h; simp [h]
    · rw [← hR]; simp at h; simp [h]
    · simp only [μ_laws_eqTimerS_4]; omega
  · have hc : a.length ≤ i := by simpa using hc
    rw [drop_end a hc, drop_end b (by omega)] at hR
    exact Lf_t (hR.1 rfl)
def con_laws_szTask : Con UU where
  α := DTask × Int
  md := [.ro, .ro]
  of := fun | [.agg [.lit (.string a0), .sl .lVal a1, .lit (.string a2), .lit (.int .i64 a3), .lit (.int .i64 a4), .lit (.int .i64 a5), .lit (.int .i64 a6), .lit (.int .i64 a7), .lit (.string a8)], .one (.lit (.int .i64 a9))] => some (⟨⟨a0, a1⟩, a2, a3, a4, a5, ⟨a6, a7, a8⟩⟩, a9) | _ => none
  ds := fun (a, left) => [.agg [.lit (.string a.F.Kind), .sl .lVal a.F.Fields, .lit (.string a.Undo), .lit (.int .i64 a.State), .lit (.int .i64 a.Tries), .lit (.int .i64 a.Due), .lit (.int .i64 a.V.K), .lit (.int .i64 a.V.N), .lit (.string a.V.S)], .one (.lit (.int .i64 left))]
  pre := fun (a, left) => [0 ≤ left]
  res := fun (a, left) => ⟨[.one (.lit (.int .i64 (szr left (sizeTask a))))], true, []⟩
  law := by intro l x h; (try simp only at h); split at h <;> cases h; rfl
def ann_laws_szTask : con_laws_szTask.α → Nat → Option (Ann UU) := fun (a, left) => annL []
def use_laws_szTask : List (FuncId × Con UU) := [(117, con_laws_szFact), (118, con_laws_szVal)]
theorem vc_laws_szTask (a : DTask) (left : Int) : goal EE use_laws_szTask Go.Proofs.Tryz.f92 con_laws_szTask ann_laws_szTask (a, left) = (let x0 : Int := IntKind.wrap IntKind.i64 (szr left (sizeFact a.F) - (↑(ByteArray.size a.Undo) : Int));
(0 : Int) ≤ left ∧ bif decide (szr left (sizeFact a.F) < (0 : Int)) then Lf [DV.one (Cell.lit (Value.int IntKind.i64 (-1 : Int)))] [DV.one (Cell.lit (Value.int IntKind.i64 (szr left (sizeTask a))))] else bif decide (x0 < (0 : Int)) then Lf [DV.one (Cell.lit (Value.int IntKind.i64 (-1 : Int)))] [DV.one (Cell.lit (Value.int IntKind.i64 (szr left (sizeTask a))))] else (0 : Int) ≤ x0 ∧ bif decide (szr x0 (sizeVal a.V) < (0 : Int)) then Lf [DV.one (Cell.lit (Value.int IntKind.i64 (-1 : Int)))] [DV.one (Cell.lit (Value.int IntKind.i64 (szr left (sizeTask a))))] else Lf [DV.one (Cell.lit (Value.int IntKind.i64 (szr x0 (sizeVal a.V))))] [DV.one (Cell.lit (Value.int IntKind.i64 (szr left (sizeTask a))))]) := by kernel_rfl
theorem ok_laws_szTask : Holds EE (92, con_laws_szTask) := by
  refine holds_of EE_ok Go.Proofs.Tryz.func92 con_laws_szTask (by kernel_rfl) use_laws_szTask (all_cons ok_laws_szFact (all_cons ok_laws_szVal all_nil)) ann_laws_szTask (fun x hp hb => ?_)
  obtain ⟨a, left⟩ := x
  have hb_a : BdDV (U := UU) (.agg [.lit (.string a.F.Kind), .sl .lVal a.F.Fields, .lit (.string a.Undo), .lit (.int .i64 a.State), .lit (.int .i64 a.Tries), .lit (.int .i64 a.Due), .lit (.int .i64 a.V.K), .lit (.int .i64 a.V.N), .lit (.string a.V.S)]) := hb _ (List.mem_cons_self)
  have hl_a_F_Kind : a.F.Kind.size ≤ 9223372036854775807 := Bd.str (hb_a _ (by simp))
  have hl_a_F_Fields : a.F.Fields.length ≤ 9223372036854775807 := Bd.len (U := UU) (τ := .lVal) (xs := a.F.Fields) (hb_a _ (by simp))
  have hl_a_Undo : a.Undo.size ≤ 9223372036854775807 := Bd.str (hb_a _ (by simp))
  have hl_a_V_S : a.V.S.size ≤ 9223372036854775807 := Bd.str (hb_a _ (by simp))
  have hb_left : BdDV (U := UU) (.one (.lit (.int .i64 left))) := hb _ (List.mem_cons_of_mem _ (List.mem_cons_self))
  have hl_left := Bd.i64 hb_left
  have hp0 : 0 ≤ left := hp _ (List.mem_cons_self)
  clear hp hb
  rw [vc_laws_szTask a left]
  dsimp only
  refine ⟨by omega, if_cond (fun h => Lf_i (szr_bad' ?_)) (fun h => ?_)⟩
  · have h := szr_neg h; simp only [sizeTask]; omega
  obtain ⟨e0, h0⟩ := szr_pos h
  rw [e0]
  rw [wrap_i64 (by omega) (by omega)]
  refine if_cond (fun h => Lf_i (szr_bad' ?_)) (fun h => ?_)
  · have h := of_decide_eq_true h; simp only [sizeTask]; omega
  have h1 := of_decide_eq_false h
  refine ⟨by omega, if_cond (fun h => Lf_i (szr_bad' ?_)) (fun h => ?_)⟩
  · have h := szr_neg h; simp only [sizeTask]; omega
  obtain ⟨e2, h2⟩ := szr_pos h
  rw [e2]
  exact Lf_i (by rw [← szr_ok' (by simp only [sizeTask]; omega)]; simp only [sizeTask]; try omega)
def con_laws_toTask : Con UU where
  α := DTask
  md := [.ro]
  of := fun | [.agg [.lit (.string a0), .sl .lVal a1, .lit (.string a2), .lit (.int .i64 a3), .lit (.int .i64 a4), .lit (.int .i64 a5), .lit (.int .i64 a6), .lit (.int .i64 a7), .lit (.string a8)]] => some ⟨⟨a0, a1⟩, a2, a3, a4, a5, ⟨a6, a7, a8⟩⟩ | _ => none
  ds := fun a => [.agg [.lit (.string a.F.Kind), .sl .lVal a.F.Fields, .lit (.string a.Undo), .lit (.int .i64 a.State), .lit (.int .i64 a.Tries), .lit (.int .i64 a.Due), .lit (.int .i64 a.V.K), .lit (.int .i64 a.V.N), .lit (.string a.V.S)]]
  pre := fun a => [sizeTask a ≤ 4294967296]
  res := fun a => ⟨[.agg [.lit (.string a.F.Kind), .sl .eVal a.F.Fields, .lit (.string a.Undo), .lit (.int .i64 a.State), .lit (.int .i64 a.Tries), .lit (.int .i64 a.Due), .lit (.int .i64 a.V.K), .lit (.int .i64 a.V.N), .lit (.string a.V.S)]], true, []⟩
  law := by intro l x h; (try simp only at h); split at h <;> cases h; rfl
def ann_laws_toTask : con_laws_toTask.α → Nat → Option (Ann UU) := fun a => annL []
def use_laws_toTask : List (FuncId × Con UU) := [(125, con_laws_toFact), (126, con_laws_toVal)]
theorem vc_laws_toTask (a : DTask) : goal EE use_laws_toTask Go.Proofs.Tryz.f100 con_laws_toTask ann_laws_toTask a = (sizeFact a.F ≤ (4294967296 : Nat) ∧ sizeVal a.V ≤ (4294967296 : Nat) ∧ Lf [DV.agg [Cell.lit (Value.string a.F.Kind), Cell.sl Cd.eVal a.F.Fields, Cell.lit (Value.string a.Undo), Cell.lit (Value.int IntKind.i64 a.State), Cell.lit (Value.int IntKind.i64 a.Tries), Cell.lit (Value.int IntKind.i64 a.Due), Cell.lit (Value.int IntKind.i64 a.V.K), Cell.lit (Value.int IntKind.i64 a.V.N), Cell.lit (Value.string a.V.S)]] [DV.agg [Cell.lit (Value.string a.F.Kind), Cell.sl Cd.eVal a.F.Fields, Cell.lit (Value.string a.Undo), Cell.lit (Value.int IntKind.i64 a.State), Cell.lit (Value.int IntKind.i64 a.Tries), Cell.lit (Value.int IntKind.i64 a.Due), Cell.lit (Value.int IntKind.i64 a.V.K), Cell.lit (Value.int IntKind.i64 a.V.N), Cell.lit (Value.string a.V.S)]]) := by kernel_rfl
theorem ok_laws_toTask : Holds EE (100, con_laws_toTask) := by
  refine holds_of EE_ok Go.Proofs.Tryz.func100 con_laws_toTask (by kernel_rfl) use_laws_toTask (all_cons ok_laws_toFact (all_cons ok_laws_toVal all_nil)) ann_laws_toTask (fun (a : DTask) hp hb => ?_)
  have hb_a : BdDV (U := UU) (.agg [.lit (.string a.F.Kind), .sl .lVal a.F.Fields, .lit (.string a.Undo), .lit (.int .i64 a.State), .lit (.int .i64 a.Tries), .lit (.int .i64 a.Due), .lit (.int .i64 a.V.K), .lit (.int .i64 a.V.N), .lit (.string a.V.S)]) := hb _ (List.mem_cons_self)
  have hl_a_F_Kind : a.F.Kind.size ≤ 9223372036854775807 := Bd.str (hb_a _ (by simp))
  have hl_a_F_Fields : a.F.Fields.length ≤ 9223372036854775807 := Bd.len (U := UU) (τ := .lVal) (xs := a.F.Fields) (hb_a _ (by simp))
  have hl_a_Undo : a.Undo.size ≤ 9223372036854775807 := Bd.str (hb_a _ (by simp))
  have hl_a_V_S : a.V.S.size ≤ 9223372036854775807 := Bd.str (hb_a _ (by simp))
  have hp0 : sizeTask a ≤ 4294967296 := hp _ (List.mem_cons_self)
  clear hp hb
  rw [vc_laws_toTask a]
  simp only [sizeTask] at hp0
  repeat' (first | exact Lf_rfl _ | (refine And.intro (by omega) ?_))
def con_laws_eqTask : Con UU where
  α := DTask × DTask
  md := [.ro, .ro]
  of := fun | [.agg [.lit (.string a0), .sl .eVal a1, .lit (.string a2), .lit (.int .i64 a3), .lit (.int .i64 a4), .lit (.int .i64 a5), .lit (.int .i64 a6), .lit (.int .i64 a7), .lit (.string a8)], .agg [.lit (.string a9), .sl .eVal a10, .lit (.string a11), .lit (.int .i64 a12), .lit (.int .i64 a13), .lit (.int .i64 a14), .lit (.int .i64 a15), .lit (.int .i64 a16), .lit (.string a17)]] => some (⟨⟨a0, a1⟩, a2, a3, a4, a5, ⟨a6, a7, a8⟩⟩, ⟨⟨a9, a10⟩, a11, a12, a13, a14, ⟨a15, a16, a17⟩⟩) | _ => none
  ds := fun (a, b) => [.agg [.lit (.string a.F.Kind), .sl .eVal a.F.Fields, .lit (.string a.Undo), .lit (.int .i64 a.State), .lit (.int .i64 a.Tries), .lit (.int .i64 a.Due), .lit (.int .i64 a.V.K), .lit (.int .i64 a.V.N), .lit (.string a.V.S)], .agg [.lit (.string b.F.Kind), .sl .eVal b.F.Fields, .lit (.string b.Undo), .lit (.int .i64 b.State), .lit (.int .i64 b.Tries), .lit (.int .i64 b.Due), .lit (.int .i64 b.V.K), .lit (.int .i64 b.V.N), .lit (.string b.V.S)]]
  pre := fun (a, b) => []
  res := fun (a, b) => ⟨[.one (.lit (.bool (decide (a = b))))], true, []⟩
  law := by intro l x h; (try simp only at h); split at h <;> cases h; rfl
def ann_laws_eqTask : con_laws_eqTask.α → Nat → Option (Ann UU) := fun (a, b) => annL []
def use_laws_eqTask : List (FuncId × Con UU) := [(133, con_laws_eqFact), (134, con_laws_eqVal)]
theorem vc_laws_eqTask (a : DTask) (b : DTask) : goal EE use_laws_eqTask Go.Proofs.Tryz.f108 con_laws_eqTask ann_laws_eqTask (a, b) = (bif !decide (a.F = b.F) then Lf [DV.one (Cell.lit (Value.bool false))] [DV.one (Cell.lit (Value.bool (decide (a = b))))] else bif !ByteArray.toList a.Undo == ByteArray.toList b.Undo then Lf [DV.one (Cell.lit (Value.bool false))] [DV.one (Cell.lit (Value.bool (decide (a = b))))] else bif a.State != b.State then Lf [DV.one (Cell.lit (Value.bool false))] [DV.one (Cell.lit (Value.bool (decide (a = b))))] else bif a.Tries != b.Tries then Lf [DV.one (Cell.lit (Value.bool false))] [DV.one (Cell.lit (Value.bool (decide (a = b))))] else bif a.Due != b.Due then Lf [DV.one (Cell.lit (Value.bool false))] [DV.one (Cell.lit (Value.bool (decide (a = b))))] else bif !decide (a.V = b.V) then Lf [DV.one (Cell.lit (Value.bool false))] [DV.one (Cell.lit (Value.bool (decide (a = b))))] else Lf [DV.one (Cell.lit (Value.bool true))] [DV.one (Cell.lit (Value.bool (decide (a = b))))]) := by kernel_rfl
theorem ok_laws_eqTask : Holds EE (108, con_laws_eqTask) := by
  refine holds_of EE_ok Go.Proofs.Tryz.func108 con_laws_eqTask (by kernel_rfl) use_laws_eqTask (all_cons ok_laws_eqFact (all_cons ok_laws_eqVal all_nil)) ann_laws_eqTask (fun x hp hb => ?_)
  obtain ⟨a, b⟩ := x
  have hb_a : BdDV (U := UU) (.agg [.lit (.string a.F.Kind), .sl .eVal a.F.Fields, .lit (.string a.Undo), .lit (.int .i64 a.State), .lit (.int .i64 a.Tries), .lit (.int .i64 a.Due), .lit (.int .i64 a.V.K), .lit (.int .i64 a.V.N), .lit (.string a.V.S)]) := hb _ (List.mem_cons_self)
  have hl_a_F_Kind : a.F.Kind.size ≤ 9223372036854775807 := Bd.str (hb_a _ (by simp))
  have hl_a_F_Fields : a.F.Fields.length ≤ 9223372036854775807 := Bd.len (U := UU) (τ := .eVal) (xs := a.F.Fields) (hb_a _ (by simp))
  have hl_a_Undo : a.Undo.size ≤ 9223372036854775807 := Bd.str (hb_a _ (by simp))
  have hl_a_V_S : a.V.S.size ≤ 9223372036854775807 := Bd.str (hb_a _ (by simp))
  have hb_b : BdDV (U := UU) (.agg [.lit (.string b.F.Kind), .sl .eVal b.F.Fields, .lit (.string b.Undo), .lit (.int .i64 b.State), .lit (.int .i64 b.Tries), .lit (.int .i64 b.Due), .lit (.int .i64 b.V.K), .lit (.int .i64 b.V.N), .lit (.string b.V.S)]) := hb _ (List.mem_cons_of_mem _ (List.mem_cons_self))
  have hl_b_F_Kind : b.F.Kind.size ≤ 9223372036854775807 := Bd.str (hb_b _ (by simp))
  have hl_b_F_Fields : b.F.Fields.length ≤ 9223372036854775807 := Bd.len (U := UU) (τ := .eVal) (xs := b.F.Fields) (hb_b _ (by simp))
  have hl_b_Undo : b.Undo.size ≤ 9223372036854775807 := Bd.str (hb_b _ (by simp))
  have hl_b_V_S : b.V.S.size ≤ 9223372036854775807 := Bd.str (hb_b _ (by simp))
  clear hp hb
  rw [vc_laws_eqTask a b]
  obtain ⟨aF, aUndo, aState, aTries, aDue, aV⟩ := a
  obtain ⟨bF, bUndo, bState, bTries, bDue, bV⟩ := b
  repeat' (apply if_cond <;> intro _)
  all_goals (first | apply Lf_t | apply Lf_f) <;> simp_all
def con_laws_szTaskS : Con UU where
  α := (List DTask) × Int
  md := [.ro, .ro]
  of := fun | [.one (.sl .lTask a0), .one (.lit (.int .i64 a1))] => some (a0, a1) | _ => none
  ds := fun (a, left) => [.one (.sl .lTask a), .one (.lit (.int .i64 left))]
  pre := fun (a, left) => [0 ≤ left]
  res := fun (a, left) => ⟨[.one (.lit (.int .i64 (szr left (sizeTaskS a))))], true, []⟩
  law := by intro l x h; (try simp only at h); split at h <;> cases h; rfl
def I_laws_szTaskS_5 (a : (List DTask)) (left : Int) : Int × Int × Unit → Prop := fun (lf, i, _) => 0 ≤ lf ∧ 0 ≤ i ∧ i ≤ a.length ∧ szr lf ((a.drop i.toNat).map sizeTask).sum = szr left (sizeTaskS a)
def μ_laws_szTaskS_5 (a : (List DTask)) (left : Int) : Int × Int × Unit → Nat := fun (lf, i, _) => a.length - i.toNat
def ann_laws_szTaskS : con_laws_szTaskS.α → Nat → Option (Ann UU) := fun (a, left) => annL [(5, annOf [.slot 1 (1, 1024) (.lit (.int .i64)), .slot 5 (5, 1024) (.lit (.int .i64))] (fun _ => I_laws_szTaskS_5 a left) (μ_laws_szTaskS_5 a left))]
def use_laws_szTaskS : List (FuncId × Con UU) := [(92, con_laws_szTask)]
theorem vc_laws_szTaskS (a : (List DTask)) (left : Int) : goal EE use_laws_szTaskS Go.Proofs.Tryz.f68 con_laws_szTaskS ann_laws_szTaskS (a, left) = (let x0 : Int := IntKind.wrap IntKind.i64 (left - (↑(List.length a) : Int));
bif decide (x0 < (0 : Int)) then Lf [DV.one (Cell.lit (Value.int IntKind.i64 (-1 : Int)))] [DV.one (Cell.lit (Value.int IntKind.i64 (szr left (sizeTaskS a))))]
else
  I_laws_szTaskS_5 a left (x0, (0 : Int), PUnit.unit) ∧
    ∀ (y : Int × Int × PUnit),
      let x1 : Int := szr y.1 (sizeTask (List.getD a (Int.toNat y.2.1) zTask));
      I_laws_szTaskS_5 a left y → bif decide (y.2.1 < (↑(List.length a) : Int)) then (0 : Int) ≤ y.2.1 ∧ Int.toNat y.2.1 < List.length a ∧ (0 : Int) ≤ y.1 ∧ bif decide (x1 < (0 : Int)) then Lf [DV.one (Cell.lit (Value.int IntKind.i64 (-1 : Int)))] [DV.one (Cell.lit (Value.int IntKind.i64 (szr left (sizeTaskS a))))] else I_laws_szTaskS_5 a left (x1, IntKind.wrap IntKind.i64 (y.2.1 + (1 : Int)), PUnit.unit) ∧ μ_laws_szTaskS_5 a left (x1, IntKind.wrap IntKind.i64 (y.2.1 + (1 : Int)), PUnit.unit) < μ_laws_szTaskS_5 a left y else Lf [DV.one (Cell.lit (Value.int IntKind.i64 y.1))] [DV.one (Cell.lit (Value.int IntKind.i64 (szr left (sizeTaskS a))))]) := by kernel_rfl
theorem ok_laws_szTaskS : Holds EE (68, con_laws_szTaskS) := by
  refine holds_of EE_ok Go.Proofs.Tryz.func68 con_laws_szTaskS (by kernel_rfl) use_laws_szTaskS (all_cons ok_laws_szTask all_nil) ann_laws_szTaskS (fun x hp hb => ?_)
  obtain ⟨a, left⟩ := x
  have hb_a : BdDV (U := UU) (.one (.sl .lTask a)) := hb _ (List.mem_cons_self)
  have hl_a : a.length ≤ 9223372036854775807 := Bd.len hb_a
  have hb_left : BdDV (U := UU) (.one (.lit (.int .i64 left))) := hb _ (List.mem_cons_of_mem _ (List.mem_cons_self))
  have hl_left := Bd.i64 hb_left
  have hp0 : 0 ≤ left := hp _ (List.mem_cons_self)
  clear hp hb
  rw [vc_laws_szTaskS a left]
  dsimp only
  rw [wrap_i64 (by omega) (by omega)]
  refine if_cond (fun h => Lf_i ?_) (fun h => ⟨?_, ?_⟩)
  · simp [szr, sizeTaskS] at *; omega
  · simp only [I_laws_szTaskS_5, sizeTaskS]; simp at h; have h' : 0 ≤ left - a.length := by omega
    exact ⟨h', by omega, by omega, szr_sub h'⟩
  rintro ⟨lf, i, ⟨⟩⟩ ⟨h0, h1, h2, hR⟩
  refine if_cond (fun hc => ?_) (fun hc => ?_)
  · have hc : i < a.length := by simpa using hc
    rw [drop_step a zTask h1 hc, List.map_cons, List.sum_cons] at hR
    simp only at *
    rw [wrap_i64 (by omega) (by omega)]
    generalize List.getD a i.toNat zTask = x at *
    refine ⟨by omega, by omega, by omega, if_cond (fun h => Lf_i ?_) (fun h => ⟨⟨?_, by omega, by omega, ?_⟩, ?_⟩)⟩
    · rw [← hR]; exact (szr_bad (of_decide_eq_true h)).symm
    · simp at h; omega
    · rw [← hR]; simp at h; exact szr_szr h
    · simp only [μ_laws_szTaskS_5]; omega
  · have hc : a.length ≤ i := by simpa using hc
    rw [drop_end a hc] at hR
    apply Lf_i; rw [← hR]; simp [szr, h0]
def con_laws_toTaskS : Con UU where
  α := (List DTask)
  md := [.ro]
  of := fun | [.one (.sl .lTask a0)] => some a0 | _ => none
  ds := fun a => [.one (.sl .lTask a)]
  pre := fun a => [sizeTaskS a ≤ 4294967296]
  res := fun a => ⟨[.one (.sl .eTask a)], true, []⟩
  law := by intro l x h; (try simp only at h); split at h <;> cases h; rfl
def I_laws_toTaskS_3 (a : (List DTask)) : List DTask × Int × Unit → Prop := fun (out, i, _) => 0 ≤ i ∧ i ≤ a.length ∧ out = a.take i.toNat ++ List.replicate (a.length - i.toNat) zTask
def μ_laws_toTaskS_3 (a : (List DTask)) : List DTask × Int × Unit → Nat := fun (out, i, _) => a.length - i.toNat
def ann_laws_toTaskS : con_laws_toTaskS.α → Nat → Option (Ann UU) := fun a => annL [(3, annOf [.slot 3 (3, 1024) (.own .eTask true), .slot 4 (4, 1024) (.lit (.int .i64))] (fun _ => I_laws_toTaskS_3 a) (μ_laws_toTaskS_3 a))]
def use_laws_toTaskS : List (FuncId × Con UU) := [(100, con_laws_toTask)]
theorem vc_laws_toTaskS (a : (List DTask)) : goal EE use_laws_toTaskS Go.Proofs.Tryz.f75 con_laws_toTaskS ann_laws_toTaskS a = (let x0 : Int := (↑(List.length a) : Int);
(0 : Int) ≤ x0 ∧
  x0 = x0 ∧
    x0 ≤ (4294967296 : Int) ∧
      I_laws_toTaskS_3 a (List.replicate (Int.toNat x0) zTask, (0 : Int), PUnit.unit) ∧
        ∀ (y : List DTask × Int × PUnit),
          let x1 : Nat := Int.toNat y.2.1;
          I_laws_toTaskS_3 a y → bif decide (y.2.1 < x0) then (0 : Int) ≤ y.2.1 ∧ x1 < List.length a ∧ sizeTask (List.getD a x1 zTask) ≤ (4294967296 : Nat) ∧ (0 : Int) ≤ y.2.1 ∧ x1 < List.length y.1 ∧ x1 < List.length y.1 ∧ I_laws_toTaskS_3 a (List.set y.1 x1 (List.getD a x1 zTask), IntKind.wrap IntKind.i64 (y.2.1 + (1 : Int)), PUnit.unit) ∧ μ_laws_toTaskS_3 a (List.set y.1 x1 (List.getD a x1 zTask), IntKind.wrap IntKind.i64 (y.2.1 + (1 : Int)), PUnit.unit) < μ_laws_toTaskS_3 a y else Lf [DV.one (Cell.sl Cd.eTask y.1)] [DV.one (Cell.sl Cd.eTask a)]) := by kernel_rfl
theorem ok_laws_toTaskS : Holds EE (75, con_laws_toTaskS) := by
  refine holds_of EE_ok Go.Proofs.Tryz.func75 con_laws_toTaskS (by kernel_rfl) use_laws_toTaskS (all_cons ok_laws_toTask all_nil) ann_laws_toTaskS (fun (a : (List DTask)) hp hb => ?_)
  have hb_a : BdDV (U := UU) (.one (.sl .lTask a)) := hb _ (List.mem_cons_self)
  have hl_a : a.length ≤ 9223372036854775807 := Bd.len hb_a
  have hp0 : sizeTaskS a ≤ 4294967296 := hp _ (List.mem_cons_self)
  clear hp hb
  rw [vc_laws_toTaskS a]
  dsimp only
  have hlen : a.length ≤ 4294967296 := by simp only [sizeTaskS] at hp0; omega
  refine ⟨by omega, rfl, by omega, ?_, ?_⟩
  · simp [I_laws_toTaskS_3]
  rintro ⟨out, i, ⟨⟩⟩ ⟨h1, h2, rfl⟩
  simp only at *
  refine if_cond (fun hc => ?_) (fun hc => ?_)
  · have hc : i < a.length := by simpa using hc
    rw [wrap_i64 (by omega) (by omega), set_fill a zTask h1 hc]
    exact ⟨h1, by omega, by exact Nat.le_trans (sum_getD_le sizeTask a zTask h1 hc) (by simp only [sizeTaskS] at hp0; omega), h1, by simp; omega, by simp; omega, ⟨by omega, by omega, rfl⟩, by simp only [μ_laws_toTaskS_3]; omega⟩
  · have hc : a.length ≤ i := by simpa using hc
    have e : i.toNat = a.length := by omega
    rw [e]; simp; exact Lf_rfl _
def con_laws_eqTaskS : Con UU where
  α := (List DTask) × (List DTask)
  md := [.ro, .ro]
  of := fun | [.one (.sl .eTask a0), .one (.sl .eTask a1)] => some (a0, a1) | _ => none
  ds := fun (a, b) => [.one (.sl .eTask a), .one (.sl .eTask b)]
  pre := fun (a, b) => []
  res := fun (a, b) => ⟨[.one (.lit (.bool (decide (a = b))))], true, []⟩
  law := by intro l x h; (try simp only at h); split at h <;> cases h; rfl
def I_laws_eqTaskS_4 (a : (List DTask)) (b : (List DTask)) : Int × Unit → Prop := fun (i, _) => 0 ≤ i ∧ i ≤ a.length ∧ a.length = b.length ∧ (a.drop i.toNat = b.drop i.toNat ↔ a = b)
def μ_laws_eqTaskS_4 (a : (List DTask)) (b : (List DTask)) : Int × Unit → Nat := fun (i, _) => a.length - i.toNat
def ann_laws_eqTaskS : con_laws_eqTaskS.α → Nat → Option (Ann UU) := fun (a, b) => annL [(4, annOf [.slot 5 (5, 1024) (.lit (.int .i64))] (fun _ => I_laws_eqTaskS_4 a b) (μ_laws_eqTaskS_4 a b))]
def use_laws_eqTaskS : List (FuncId × Con UU) := [(108, con_laws_eqTask)]
theorem vc_laws_eqTaskS (a : (List DTask)) (b : (List DTask)) : goal EE use_laws_eqTaskS Go.Proofs.Tryz.f84 con_laws_eqTaskS ann_laws_eqTaskS (a, b) = (bif (↑(List.length a) : Int) != (↑(List.length b) : Int) then Lf [DV.one (Cell.lit (Value.bool false))] [DV.one (Cell.lit (Value.bool (decide (a = b))))] else I_laws_eqTaskS_4 a b ((0 : Int), PUnit.unit) ∧ ∀ (y : Int × PUnit), I_laws_eqTaskS_4 a b y → bif decide (y.1 < (↑(List.length a) : Int)) then (0 : Int) ≤ y.1 ∧ Int.toNat y.1 < List.length a ∧ (0 : Int) ≤ y.1 ∧ Int.toNat y.1 < List.length b ∧ bif !decide (List.getD a (Int.toNat y.1) zTask = List.getD b (Int.toNat y.1) zTask) then Lf [DV.one (Cell.lit (Value.bool false))] [DV.one (Cell.lit (Value.bool (decide (a = b))))] else I_laws_eqTaskS_4 a b (IntKind.wrap IntKind.i64 (y.1 + (1 : Int)), PUnit.unit) ∧ μ_laws_eqTaskS_4 a b (IntKind.wrap IntKind.i64 (y.1 + (1 : Int)), PUnit.unit) < μ_laws_eqTaskS_4 a b y else Lf [DV.one (Cell.lit (Value.bool true))] [DV.one (Cell.lit (Value.bool (decide (a = b))))]) := by kernel_rfl
theorem ok_laws_eqTaskS : Holds EE (84, con_laws_eqTaskS) := by
  refine holds_of EE_ok Go.Proofs.Tryz.func84 con_laws_eqTaskS (by kernel_rfl) use_laws_eqTaskS (all_cons ok_laws_eqTask all_nil) ann_laws_eqTaskS (fun x hp hb => ?_)
  obtain ⟨a, b⟩ := x
  have hb_a : BdDV (U := UU) (.one (.sl .eTask a)) := hb _ (List.mem_cons_self)
  have hl_a : a.length ≤ 9223372036854775807 := Bd.len hb_a
  have hb_b : BdDV (U := UU) (.one (.sl .eTask b)) := hb _ (List.mem_cons_of_mem _ (List.mem_cons_self))
  have hl_b : b.length ≤ 9223372036854775807 := Bd.len hb_b
  clear hp hb
  rw [vc_laws_eqTaskS a b]
  refine if_cond (fun h => Lf_f ?_) (fun h => ⟨?_, ?_⟩)
  · rintro rfl; simp at h
  · simp [I_laws_eqTaskS_4] at *; omega
  rintro ⟨i, ⟨⟩⟩ ⟨h1, h2, h3, hR⟩
  simp only at *
  refine if_cond (fun hc => ?_) (fun hc => ?_)
  · have hc : i < a.length := by simpa using hc
    rw [drop_step a zTask h1 hc, drop_step b zTask h1 (by omega)] at hR
    rw [wrap_i64 (by omega) (by omega)]
    refine ⟨by omega, by omega, by omega, by omega, if_cond (fun h => Lf_f ?_) (fun h => ⟨⟨by omega, by omega, h3, ?_⟩, ?_⟩)⟩
    · rw [← hR]; simp at h; simp [h]
    · rw [← hR]; simp at h; simp [h]
    · simp only [μ_laws_eqTaskS_4]; omega
  · have hc : a.length ≤ i := by simpa using hc
    rw [drop_end a hc, drop_end b (by omega)] at hR
    exact Lf_t (hR.1 rfl)
def con_laws_szUndo : Con UU where
  α := DUndo × Int
  md := [.ro, .ro]
  of := fun | [.agg [.lit (.string a0), .lit (.string a1), .sl .lVal a2], .one (.lit (.int .i64 a3))] => some (⟨a0, ⟨a1, a2⟩⟩, a3) | _ => none
  ds := fun (a, left) => [.agg [.lit (.string a.Key), .lit (.string a.F.Kind), .sl .lVal a.F.Fields], .one (.lit (.int .i64 left))]
  pre := fun (a, left) => [0 ≤ left]
  res := fun (a, left) => ⟨[.one (.lit (.int .i64 (szr left (sizeUndo a))))], true, []⟩
  law := by intro l x h; (try simp only at h); split at h <;> cases h; rfl
def ann_laws_szUndo : con_laws_szUndo.α → Nat → Option (Ann UU) := fun (a, left) => annL []
def use_laws_szUndo : List (FuncId × Con UU) := [(117, con_laws_szFact)]
theorem vc_laws_szUndo (a : DUndo) (left : Int) : goal EE use_laws_szUndo Go.Proofs.Tryz.f94 con_laws_szUndo ann_laws_szUndo (a, left) = (let x0 : Int := IntKind.wrap IntKind.i64 (left - (↑(ByteArray.size a.Key) : Int));
bif decide (x0 < (0 : Int)) then Lf [DV.one (Cell.lit (Value.int IntKind.i64 (-1 : Int)))] [DV.one (Cell.lit (Value.int IntKind.i64 (szr left (sizeUndo a))))] else (0 : Int) ≤ x0 ∧ bif decide (szr x0 (sizeFact a.F) < (0 : Int)) then Lf [DV.one (Cell.lit (Value.int IntKind.i64 (-1 : Int)))] [DV.one (Cell.lit (Value.int IntKind.i64 (szr left (sizeUndo a))))] else Lf [DV.one (Cell.lit (Value.int IntKind.i64 (szr x0 (sizeFact a.F))))] [DV.one (Cell.lit (Value.int IntKind.i64 (szr left (sizeUndo a))))]) := by kernel_rfl
theorem ok_laws_szUndo : Holds EE (94, con_laws_szUndo) := by
  refine holds_of EE_ok Go.Proofs.Tryz.func94 con_laws_szUndo (by kernel_rfl) use_laws_szUndo (all_cons ok_laws_szFact all_nil) ann_laws_szUndo (fun x hp hb => ?_)
  obtain ⟨a, left⟩ := x
  have hb_a : BdDV (U := UU) (.agg [.lit (.string a.Key), .lit (.string a.F.Kind), .sl .lVal a.F.Fields]) := hb _ (List.mem_cons_self)
  have hl_a_Key : a.Key.size ≤ 9223372036854775807 := Bd.str (hb_a _ (by simp))
  have hl_a_F_Kind : a.F.Kind.size ≤ 9223372036854775807 := Bd.str (hb_a _ (by simp))
  have hl_a_F_Fields : a.F.Fields.length ≤ 9223372036854775807 := Bd.len (U := UU) (τ := .lVal) (xs := a.F.Fields) (hb_a _ (by simp))
  have hb_left : BdDV (U := UU) (.one (.lit (.int .i64 left))) := hb _ (List.mem_cons_of_mem _ (List.mem_cons_self))
  have hl_left := Bd.i64 hb_left
  have hp0 : 0 ≤ left := hp _ (List.mem_cons_self)
  clear hp hb
  rw [vc_laws_szUndo a left]
  dsimp only
  rw [wrap_i64 (by omega) (by omega)]
  refine if_cond (fun h => Lf_i (szr_bad' ?_)) (fun h => ?_)
  · have h := of_decide_eq_true h; simp only [sizeUndo]; omega
  have h0 := of_decide_eq_false h
  refine ⟨by omega, if_cond (fun h => Lf_i (szr_bad' ?_)) (fun h => ?_)⟩
  · have h := szr_neg h; simp only [sizeUndo]; omega
  obtain ⟨e1, h1⟩ := szr_pos h
  rw [e1]
  exact Lf_i (by rw [← szr_ok' (by simp only [sizeUndo]; omega)]; simp only [sizeUndo]; try omega)
def con_laws_toUndo : Con UU where
  α := DUndo
  md := [.ro]
  of := fun | [.agg [.lit (.string a0), .lit (.string a1), .sl .lVal a2]] => some ⟨a0, ⟨a1, a2⟩⟩ | _ => none
  ds := fun a => [.agg [.lit (.string a.Key), .lit (.string a.F.Kind), .sl .lVal a.F.Fields]]
  pre := fun a => [sizeUndo a ≤ 4294967296]
  res := fun a => ⟨[.agg [.lit (.string a.Key), .lit (.string a.F.Kind), .sl .eVal a.F.Fields]], true, []⟩
  law := by intro l x h; (try simp only at h); split at h <;> cases h; rfl
def ann_laws_toUndo : con_laws_toUndo.α → Nat → Option (Ann UU) := fun a => annL []
def use_laws_toUndo : List (FuncId × Con UU) := [(125, con_laws_toFact)]
theorem vc_laws_toUndo (a : DUndo) : goal EE use_laws_toUndo Go.Proofs.Tryz.f102 con_laws_toUndo ann_laws_toUndo a = (sizeFact a.F ≤ (4294967296 : Nat) ∧ Lf [DV.agg [Cell.lit (Value.string a.Key), Cell.lit (Value.string a.F.Kind), Cell.sl Cd.eVal a.F.Fields]] [DV.agg [Cell.lit (Value.string a.Key), Cell.lit (Value.string a.F.Kind), Cell.sl Cd.eVal a.F.Fields]]) := by kernel_rfl
theorem ok_laws_toUndo : Holds EE (102, con_laws_toUndo) := by
  refine holds_of EE_ok Go.Proofs.Tryz.func102 con_laws_toUndo (by kernel_rfl) use_laws_toUndo (all_cons ok_laws_toFact all_nil) ann_laws_toUndo (fun (a : DUndo) hp hb => ?_)
  have hb_a : BdDV (U := UU) (.agg [.lit (.string a.Key), .lit (.string a.F.Kind), .sl .lVal a.F.Fields]) := hb _ (List.mem_cons_self)
  have hl_a_Key : a.Key.size ≤ 9223372036854775807 := Bd.str (hb_a _ (by simp))
  have hl_a_F_Kind : a.F.Kind.size ≤ 9223372036854775807 := Bd.str (hb_a _ (by simp))
  have hl_a_F_Fields : a.F.Fields.length ≤ 9223372036854775807 := Bd.len (U := UU) (τ := .lVal) (xs := a.F.Fields) (hb_a _ (by simp))
  have hp0 : sizeUndo a ≤ 4294967296 := hp _ (List.mem_cons_self)
  clear hp hb
  rw [vc_laws_toUndo a]
  simp only [sizeUndo] at hp0
  repeat' (first | exact Lf_rfl _ | (refine And.intro (by omega) ?_))
def con_laws_eqUndo : Con UU where
  α := DUndo × DUndo
  md := [.ro, .ro]
  of := fun | [.agg [.lit (.string a0), .lit (.string a1), .sl .eVal a2], .agg [.lit (.string a3), .lit (.string a4), .sl .eVal a5]] => some (⟨a0, ⟨a1, a2⟩⟩, ⟨a3, ⟨a4, a5⟩⟩) | _ => none
  ds := fun (a, b) => [.agg [.lit (.string a.Key), .lit (.string a.F.Kind), .sl .eVal a.F.Fields], .agg [.lit (.string b.Key), .lit (.string b.F.Kind), .sl .eVal b.F.Fields]]
  pre := fun (a, b) => []
  res := fun (a, b) => ⟨[.one (.lit (.bool (decide (a = b))))], true, []⟩
  law := by intro l x h; (try simp only at h); split at h <;> cases h; rfl
def ann_laws_eqUndo : con_laws_eqUndo.α → Nat → Option (Ann UU) := fun (a, b) => annL []
def use_laws_eqUndo : List (FuncId × Con UU) := [(133, con_laws_eqFact)]
theorem vc_laws_eqUndo (a : DUndo) (b : DUndo) : goal EE use_laws_eqUndo Go.Proofs.Tryz.f110 con_laws_eqUndo ann_laws_eqUndo (a, b) = (bif !ByteArray.toList a.Key == ByteArray.toList b.Key then Lf [DV.one (Cell.lit (Value.bool false))] [DV.one (Cell.lit (Value.bool (decide (a = b))))] else bif !decide (a.F = b.F) then Lf [DV.one (Cell.lit (Value.bool false))] [DV.one (Cell.lit (Value.bool (decide (a = b))))] else Lf [DV.one (Cell.lit (Value.bool true))] [DV.one (Cell.lit (Value.bool (decide (a = b))))]) := by kernel_rfl
theorem ok_laws_eqUndo : Holds EE (110, con_laws_eqUndo) := by
  refine holds_of EE_ok Go.Proofs.Tryz.func110 con_laws_eqUndo (by kernel_rfl) use_laws_eqUndo (all_cons ok_laws_eqFact all_nil) ann_laws_eqUndo (fun x hp hb => ?_)
  obtain ⟨a, b⟩ := x
  have hb_a : BdDV (U := UU) (.agg [.lit (.string a.Key), .lit (.string a.F.Kind), .sl .eVal a.F.Fields]) := hb _ (List.mem_cons_self)
  have hl_a_Key : a.Key.size ≤ 9223372036854775807 := Bd.str (hb_a _ (by simp))
  have hl_a_F_Kind : a.F.Kind.size ≤ 9223372036854775807 := Bd.str (hb_a _ (by simp))
  have hl_a_F_Fields : a.F.Fields.length ≤ 9223372036854775807 := Bd.len (U := UU) (τ := .eVal) (xs := a.F.Fields) (hb_a _ (by simp))
  have hb_b : BdDV (U := UU) (.agg [.lit (.string b.Key), .lit (.string b.F.Kind), .sl .eVal b.F.Fields]) := hb _ (List.mem_cons_of_mem _ (List.mem_cons_self))
  have hl_b_Key : b.Key.size ≤ 9223372036854775807 := Bd.str (hb_b _ (by simp))
  have hl_b_F_Kind : b.F.Kind.size ≤ 9223372036854775807 := Bd.str (hb_b _ (by simp))
  have hl_b_F_Fields : b.F.Fields.length ≤ 9223372036854775807 := Bd.len (U := UU) (τ := .eVal) (xs := b.F.Fields) (hb_b _ (by simp))
  clear hp hb
  rw [vc_laws_eqUndo a b]
  obtain ⟨aKey, aF⟩ := a
  obtain ⟨bKey, bF⟩ := b
  repeat' (apply if_cond <;> intro _)
  all_goals (first | apply Lf_t | apply Lf_f) <;> simp_all
def con_laws_szUndoS : Con UU where
  α := (List DUndo) × Int
  md := [.ro, .ro]
  of := fun | [.one (.sl .lUndo a0), .one (.lit (.int .i64 a1))] => some (a0, a1) | _ => none
  ds := fun (a, left) => [.one (.sl .lUndo a), .one (.lit (.int .i64 left))]
  pre := fun (a, left) => [0 ≤ left]
  res := fun (a, left) => ⟨[.one (.lit (.int .i64 (szr left (sizeUndoS a))))], true, []⟩
  law := by intro l x h; (try simp only at h); split at h <;> cases h; rfl
def I_laws_szUndoS_5 (a : (List DUndo)) (left : Int) : Int × Int × Unit → Prop := fun (lf, i, _) => 0 ≤ lf ∧ 0 ≤ i ∧ i ≤ a.length ∧ szr lf ((a.drop i.toNat).map sizeUndo).sum = szr left (sizeUndoS a)
def μ_laws_szUndoS_5 (a : (List DUndo)) (left : Int) : Int × Int × Unit → Nat := fun (lf, i, _) => a.length - i.toNat
def ann_laws_szUndoS : con_laws_szUndoS.α → Nat → Option (Ann UU) := fun (a, left) => annL [(5, annOf [.slot 1 (1, 1024) (.lit (.int .i64)), .slot 5 (5, 1024) (.lit (.int .i64))] (fun _ => I_laws_szUndoS_5 a left) (μ_laws_szUndoS_5 a left))]
def use_laws_szUndoS : List (FuncId × Con UU) := [(94, con_laws_szUndo)]
theorem vc_laws_szUndoS (a : (List DUndo)) (left : Int) : goal EE use_laws_szUndoS Go.Proofs.Tryz.f70 con_laws_szUndoS ann_laws_szUndoS (a, left) = (let x0 : Int := IntKind.wrap IntKind.i64 (left - (↑(List.length a) : Int));
bif decide (x0 < (0 : Int)) then Lf [DV.one (Cell.lit (Value.int IntKind.i64 (-1 : Int)))] [DV.one (Cell.lit (Value.int IntKind.i64 (szr left (sizeUndoS a))))]
else
  I_laws_szUndoS_5 a left (x0, (0 : Int), PUnit.unit) ∧
    ∀ (y : Int × Int × PUnit),
      let x1 : Int := szr y.1 (sizeUndo (List.getD a (Int.toNat y.2.1) zUndo));
      I_laws_szUndoS_5 a left y → bif decide (y.2.1 < (↑(List.length a) : Int)) then (0 : Int) ≤ y.2.1 ∧ Int.toNat y.2.1 < List.length a ∧ (0 : Int) ≤ y.1 ∧ bif decide (x1 < (0 : Int)) then Lf [DV.one (Cell.lit (Value.int IntKind.i64 (-1 : Int)))] [DV.one (Cell.lit (Value.int IntKind.i64 (szr left (sizeUndoS a))))] else I_laws_szUndoS_5 a left (x1, IntKind.wrap IntKind.i64 (y.2.1 + (1 : Int)), PUnit.unit) ∧ μ_laws_szUndoS_5 a left (x1, IntKind.wrap IntKind.i64 (y.2.1 + (1 : Int)), PUnit.unit) < μ_laws_szUndoS_5 a left y else Lf [DV.one (Cell.lit (Value.int IntKind.i64 y.1))] [DV.one (Cell.lit (Value.int IntKind.i64 (szr left (sizeUndoS a))))]) := by kernel_rfl
theorem ok_laws_szUndoS : Holds EE (70, con_laws_szUndoS) := by
  refine holds_of EE_ok Go.Proofs.Tryz.func70 con_laws_szUndoS (by kernel_rfl) use_laws_szUndoS (all_cons ok_laws_szUndo all_nil) ann_laws_szUndoS (fun x hp hb => ?_)
  obtain ⟨a, left⟩ := x
  have hb_a : BdDV (U := UU) (.one (.sl .lUndo a)) := hb _ (List.mem_cons_self)
  have hl_a : a.length ≤ 9223372036854775807 := Bd.len hb_a
  have hb_left : BdDV (U := UU) (.one (.lit (.int .i64 left))) := hb _ (List.mem_cons_of_mem _ (List.mem_cons_self))
  have hl_left := Bd.i64 hb_left
  have hp0 : 0 ≤ left := hp _ (List.mem_cons_self)
  clear hp hb
  rw [vc_laws_szUndoS a left]
  dsimp only
  rw [wrap_i64 (by omega) (by omega)]
  refine if_cond (fun h => Lf_i ?_) (fun h => ⟨?_, ?_⟩)
  · simp [szr, sizeUndoS] at *; omega
  · simp only [I_laws_szUndoS_5, sizeUndoS]; simp at h; have h' : 0 ≤ left - a.length := by omega
    exact ⟨h', by omega, by omega, szr_sub h'⟩
  rintro ⟨lf, i, ⟨⟩⟩ ⟨h0, h1, h2, hR⟩
  refine if_cond (fun hc => ?_) (fun hc => ?_)
  · have hc : i < a.length := by simpa using hc
    rw [drop_step a zUndo h1 hc, List.map_cons, List.sum_cons] at hR
    simp only at *
    rw [wrap_i64 (by omega) (by omega)]
    generalize List.getD a i.toNat zUndo = x at *
    refine ⟨by omega, by omega, by omega, if_cond (fun h => Lf_i ?_) (fun h => ⟨⟨?_, by omega, by omega, ?_⟩, ?_⟩)⟩
    · rw [← hR]; exact (szr_bad (of_decide_eq_true h)).symm
    · simp at h; omega
    · rw [← hR]; simp at h; exact szr_szr h
    · simp only [μ_laws_szUndoS_5]; omega
  · have hc : a.length ≤ i := by simpa using hc
    rw [drop_end a hc] at hR
    apply Lf_i; rw [← hR]; simp [szr, h0]
def con_laws_toUndoS : Con UU where
  α := (List DUndo)
  md := [.ro]
  of := fun | [.one (.sl .lUndo a0)] => some a0 | _ => none
  ds := fun a => [.one (.sl .lUndo a)]
  pre := fun a => [sizeUndoS a ≤ 4294967296]
  res := fun a => ⟨[.one (.sl .eUndo a)], true, []⟩
  law := by intro l x h; (try simp only at h); split at h <;> cases h; rfl
def I_laws_toUndoS_3 (a : (List DUndo)) : List DUndo × Int × Unit → Prop := fun (out, i, _) => 0 ≤ i ∧ i ≤ a.length ∧ out = a.take i.toNat ++ List.replicate (a.length - i.toNat) zUndo
def μ_laws_toUndoS_3 (a : (List DUndo)) : List DUndo × Int × Unit → Nat := fun (out, i, _) => a.length - i.toNat
def ann_laws_toUndoS : con_laws_toUndoS.α → Nat → Option (Ann UU) := fun a => annL [(3, annOf [.slot 3 (3, 1024) (.own .eUndo true), .slot 4 (4, 1024) (.lit (.int .i64))] (fun _ => I_laws_toUndoS_3 a) (μ_laws_toUndoS_3 a))]
def use_laws_toUndoS : List (FuncId × Con UU) := [(102, con_laws_toUndo)]
theorem vc_laws_toUndoS (a : (List DUndo)) : goal EE use_laws_toUndoS Go.Proofs.Tryz.f77 con_laws_toUndoS ann_laws_toUndoS a = (let x0 : Int := (↑(List.length a) : Int);
(0 : Int) ≤ x0 ∧
  x0 = x0 ∧
    x0 ≤ (4294967296 : Int) ∧
      I_laws_toUndoS_3 a (List.replicate (Int.toNat x0) zUndo, (0 : Int), PUnit.unit) ∧
        ∀ (y : List DUndo × Int × PUnit),
          let x1 : Nat := Int.toNat y.2.1;
          I_laws_toUndoS_3 a y → bif decide (y.2.1 < x0) then (0 : Int) ≤ y.2.1 ∧ x1 < List.length a ∧ sizeUndo (List.getD a x1 zUndo) ≤ (4294967296 : Nat) ∧ (0 : Int) ≤ y.2.1 ∧ x1 < List.length y.1 ∧ x1 < List.length y.1 ∧ I_laws_toUndoS_3 a (List.set y.1 x1 (List.getD a x1 zUndo), IntKind.wrap IntKind.i64 (y.2.1 + (1 : Int)), PUnit.unit) ∧ μ_laws_toUndoS_3 a (List.set y.1 x1 (List.getD a x1 zUndo), IntKind.wrap IntKind.i64 (y.2.1 + (1 : Int)), PUnit.unit) < μ_laws_toUndoS_3 a y else Lf [DV.one (Cell.sl Cd.eUndo y.1)] [DV.one (Cell.sl Cd.eUndo a)]) := by kernel_rfl
theorem ok_laws_toUndoS : Holds EE (77, con_laws_toUndoS) := by
  refine holds_of EE_ok Go.Proofs.Tryz.func77 con_laws_toUndoS (by kernel_rfl) use_laws_toUndoS (all_cons ok_laws_toUndo all_nil) ann_laws_toUndoS (fun (a : (List DUndo)) hp hb => ?_)
  have hb_a : BdDV (U := UU) (.one (.sl .lUndo a)) := hb _ (List.mem_cons_self)
  have hl_a : a.length ≤ 9223372036854775807 := Bd.len hb_a
  have hp0 : sizeUndoS a ≤ 4294967296 := hp _ (List.mem_cons_self)
  clear hp hb
  rw [vc_laws_toUndoS a]
  dsimp only
  have hlen : a.length ≤ 4294967296 := by simp only [sizeUndoS] at hp0; omega
  refine ⟨by omega, rfl, by omega, ?_, ?_⟩
  · simp [I_laws_toUndoS_3]
  rintro ⟨out, i, ⟨⟩⟩ ⟨h1, h2, rfl⟩
  simp only at *
  refine if_cond (fun hc => ?_) (fun hc => ?_)
  · have hc : i < a.length := by simpa using hc
    rw [wrap_i64 (by omega) (by omega), set_fill a zUndo h1 hc]
    exact ⟨h1, by omega, by exact Nat.le_trans (sum_getD_le sizeUndo a zUndo h1 hc) (by simp only [sizeUndoS] at hp0; omega), h1, by simp; omega, by simp; omega, ⟨by omega, by omega, rfl⟩, by simp only [μ_laws_toUndoS_3]; omega⟩
  · have hc : a.length ≤ i := by simpa using hc
    have e : i.toNat = a.length := by omega
    rw [e]; simp; exact Lf_rfl _
def con_laws_eqUndoS : Con UU where
  α := (List DUndo) × (List DUndo)
  md := [.ro, .ro]
  of := fun | [.one (.sl .eUndo a0), .one (.sl .eUndo a1)] => some (a0, a1) | _ => none
  ds := fun (a, b) => [.one (.sl .eUndo a), .one (.sl .eUndo b)]
  pre := fun (a, b) => []
  res := fun (a, b) => ⟨[.one (.lit (.bool (decide (a = b))))], true, []⟩
  law := by intro l x h; (try simp only at h); split at h <;> cases h; rfl
def I_laws_eqUndoS_4 (a : (List DUndo)) (b : (List DUndo)) : Int × Unit → Prop := fun (i, _) => 0 ≤ i ∧ i ≤ a.length ∧ a.length = b.length ∧ (a.drop i.toNat = b.drop i.toNat ↔ a = b)
def μ_laws_eqUndoS_4 (a : (List DUndo)) (b : (List DUndo)) : Int × Unit → Nat := fun (i, _) => a.length - i.toNat
def ann_laws_eqUndoS : con_laws_eqUndoS.α → Nat → Option (Ann UU) := fun (a, b) => annL [(4, annOf [.slot 5 (5, 1024) (.lit (.int .i64))] (fun _ => I_laws_eqUndoS_4 a b) (μ_laws_eqUndoS_4 a b))]
def use_laws_eqUndoS : List (FuncId × Con UU) := [(110, con_laws_eqUndo)]
theorem vc_laws_eqUndoS (a : (List DUndo)) (b : (List DUndo)) : goal EE use_laws_eqUndoS Go.Proofs.Tryz.f86 con_laws_eqUndoS ann_laws_eqUndoS (a, b) = (bif (↑(List.length a) : Int) != (↑(List.length b) : Int) then Lf [DV.one (Cell.lit (Value.bool false))] [DV.one (Cell.lit (Value.bool (decide (a = b))))] else I_laws_eqUndoS_4 a b ((0 : Int), PUnit.unit) ∧ ∀ (y : Int × PUnit), I_laws_eqUndoS_4 a b y → bif decide (y.1 < (↑(List.length a) : Int)) then (0 : Int) ≤ y.1 ∧ Int.toNat y.1 < List.length a ∧ (0 : Int) ≤ y.1 ∧ Int.toNat y.1 < List.length b ∧ bif !decide (List.getD a (Int.toNat y.1) zUndo = List.getD b (Int.toNat y.1) zUndo) then Lf [DV.one (Cell.lit (Value.bool false))] [DV.one (Cell.lit (Value.bool (decide (a = b))))] else I_laws_eqUndoS_4 a b (IntKind.wrap IntKind.i64 (y.1 + (1 : Int)), PUnit.unit) ∧ μ_laws_eqUndoS_4 a b (IntKind.wrap IntKind.i64 (y.1 + (1 : Int)), PUnit.unit) < μ_laws_eqUndoS_4 a b y else Lf [DV.one (Cell.lit (Value.bool true))] [DV.one (Cell.lit (Value.bool (decide (a = b))))]) := by kernel_rfl
theorem ok_laws_eqUndoS : Holds EE (86, con_laws_eqUndoS) := by
  refine holds_of EE_ok Go.Proofs.Tryz.func86 con_laws_eqUndoS (by kernel_rfl) use_laws_eqUndoS (all_cons ok_laws_eqUndo all_nil) ann_laws_eqUndoS (fun x hp hb => ?_)
  obtain ⟨a, b⟩ := x
  have hb_a : BdDV (U := UU) (.one (.sl .eUndo a)) := hb _ (List.mem_cons_self)
  have hl_a : a.length ≤ 9223372036854775807 := Bd.len hb_a
  have hb_b : BdDV (U := UU) (.one (.sl .eUndo b)) := hb _ (List.mem_cons_of_mem _ (List.mem_cons_self))
  have hl_b : b.length ≤ 9223372036854775807 := Bd.len hb_b
  clear hp hb
  rw [vc_laws_eqUndoS a b]
  refine if_cond (fun h => Lf_f ?_) (fun h => ⟨?_, ?_⟩)
  · rintro rfl; simp at h
  · simp [I_laws_eqUndoS_4] at *; omega
  rintro ⟨i, ⟨⟩⟩ ⟨h1, h2, h3, hR⟩
  simp only at *
  refine if_cond (fun hc => ?_) (fun hc => ?_)
  · have hc : i < a.length := by simpa using hc
    rw [drop_step a zUndo h1 hc, drop_step b zUndo h1 (by omega)] at hR
    rw [wrap_i64 (by omega) (by omega)]
    refine ⟨by omega, by omega, by omega, by omega, if_cond (fun h => Lf_f ?_) (fun h => ⟨⟨by omega, by omega, h3, ?_⟩, ?_⟩)⟩
    · rw [← hR]; simp at h; simp [h]
    · rw [← hR]; simp at h; simp [h]
    · simp only [μ_laws_eqUndoS_4]; omega
  · have hc : a.length ≤ i := by simpa using hc
    rw [drop_end a hc, drop_end b (by omega)] at hR
    exact Lf_t (hR.1 rfl)
def allI (n : Nat) (p : Nat → Bool) : Bool := (List.range n).all p
theorem allI_true {n : Nat} {p : Nat → Bool} (h : ∀ j, j < n → p j = true) : allI n p = true := by simpa [allI] using h
theorem allI_false {n : Nat} {p : Nat → Bool} {j : Nat} (h : j < n) (hj : p j = false) : allI n p = false := by
  simp only [allI, List.all_eq_false, List.mem_range]
  exact ⟨j, h, by simp [hj]⟩
theorem upto_step {i : Int} {p : Nat → Bool} (h0 : 0 ≤ i) (h : ∀ j : Nat, (j : Int) < i → p j = true) (hi : p i.toNat = true) : ∀ j : Nat, (j : Int) < i + 1 → p j = true := by
  intro j hj
  by_cases hji : (j : Int) < i
  · exact h j hji
  · have : j = i.toNat := by omega
    subst this; exact hi
def timerOk (x : DTimer) : Bool := decide (0 ≤ x.At ∧ x.At ≤ 1000000000) && factOk x.F
def timerAt (l : List DTimer) (i : Nat) : Bool := timerOk (List.getD l i zTimer) && (decide (i = 0) || decide ((List.getD l (i - 1) zTimer).At ≤ (List.getD l i zTimer).At))
def timersOk (l : List DTimer) : Bool := decide (l.length ≤ 30) && allI l.length (timerAt l)
/-- The first place where p holds; -1. -/
def idxI (n : Nat) (p : Nat → Bool) : Int := match (List.range n).find? p with | some i => i | none => -1
def anyI (n : Nat) (p : Nat → Bool) : Bool := (List.range n).any p
theorem idxI_found {n i : Nat} {p : Nat → Bool} (h : i < n) (hp : p i = true) (hj : ∀ j, j < i → p j = false) : idxI n p = i := by
  have : (List.range n).find? p = some i := by
    rw [List.find?_range_eq_some]
    exact ⟨hp, List.mem_range.2 h, fun j hj' => by simp [hj j hj']⟩
  simp [idxI, this]
theorem idxI_none {n : Nat} {p : Nat → Bool} (hj : ∀ j, j < n → p j = false) : idxI n p = -1 := by
  have : (List.range n).find? p = none := by
    rw [List.find?_eq_none]
    intro j hj'
    simp [hj j (List.mem_range.1 hj')]
  simp [idxI, this]
theorem idxI_cases (n : Nat) (p : Nat → Bool) : (idxI n p = -1 ∧ ∀ j, j < n → p j = false) ∨ ∃ i, i < n ∧ idxI n p = (i : Int) ∧ p i = true ∧ ∀ j, j < i → p j = false := by
  cases h : (List.range n).find? p with
  | none =>
    refine .inl ⟨by simp [idxI, h], fun j hj => ?_⟩
    have := List.find?_eq_none.1 h j (List.mem_range.2 hj)
    simpa using this
  | some i =>
    rw [List.find?_range_eq_some] at h
    obtain ⟨h1, h2, h3⟩ := h
    exact .inr ⟨i, List.mem_range.1 h2, idxI_found (List.mem_range.1 h2) h1 (fun j hj => by simpa using h3 j hj), h1, fun j hj => by simpa using h3 j hj⟩
theorem idxI_congr {n : Nat} {p q : Nat → Bool} (h : ∀ j, j < n → p j = q j) : idxI n p = idxI n q := by
  rcases idxI_cases n q with ⟨h1, h2⟩ | ⟨i, h1, h2, h3, h4⟩
  · rw [h1, idxI_none (fun j hj => by rw [h j hj, h2 j hj])]
  · rw [h2, idxI_found h1 (by rw [h i h1, h3]) (fun j hj => by rw [h j (by omega), h4 j hj])]
theorem anyI_true {n j : Nat} {p : Nat → Bool} (h : j < n) (hp : p j = true) : anyI n p = true := by
  simp only [anyI, List.any_eq_true, List.mem_range]
  exact ⟨j, h, hp⟩
theorem anyI_false {n : Nat} {p : Nat → Bool} (h : ∀ j, j < n → p j = false) : anyI n p = false := by
  simp only [anyI, List.any_eq_false, List.mem_range]
  exact fun j hj => by simp [h j hj]
theorem anyI_iff {n : Nat} {p : Nat → Bool} : anyI n p = true ↔ ∃ j, j < n ∧ p j = true := by
  simp only [anyI, List.any_eq_true, List.mem_range]
theorem anyI_not {n : Nat} {p : Nat → Bool} : anyI n p = false ↔ ∀ j, j < n → p j = false := by
  simp only [anyI, List.any_eq_false, List.mem_range, Bool.not_eq_true]
theorem allI_iff {n : Nat} {p : Nat → Bool} : allI n p = true ↔ ∀ j, j < n → p j = true := by
  simp only [allI, List.all_eq_true, List.mem_range]
theorem allI_not {n : Nat} {p : Nat → Bool} : allI n p = false ↔ ∃ j, j < n ∧ p j = false := by
  simp only [allI, List.all_eq_false, List.mem_range, Bool.not_eq_true]
theorem anyI_congr {n : Nat} {p q : Nat → Bool} (h : ∀ j, j < n → p j = q j) : anyI n p = anyI n q := by
  rw [Bool.eq_iff_iff, anyI_iff, anyI_iff]
  exact ⟨fun ⟨j, h1, h2⟩ => ⟨j, h1, by rw [← h j h1]; exact h2⟩, fun ⟨j, h1, h2⟩ => ⟨j, h1, by rw [h j h1]; exact h2⟩⟩
theorem allI_congr {n : Nat} {p q : Nat → Bool} (h : ∀ j, j < n → p j = q j) : allI n p = allI n q := by
  rw [Bool.eq_iff_iff, allI_iff, allI_iff]
  exact ⟨fun g j hj => by rw [← h j hj]; exact g j hj, fun g j hj => by rw [h j hj]; exact g j hj⟩
theorem idxI_ge {n : Nat} {p : Nat → Bool} : decide (0 ≤ idxI n p) = anyI n p := by
  rcases idxI_cases n p with ⟨h1, h2⟩ | ⟨i, h1, h2, h3, h4⟩
  · rw [h1, anyI_false h2]; rfl
  · rw [h2, anyI_true h1 h3]; simp
theorem getD_take {α : Type} (l : List α) (z : α) {i j : Nat} (h : j < i) : List.getD (l.take i) j z = List.getD l j z := by
  rw [List.getD_eq_getElem?_getD, List.getD_eq_getElem?_getD, List.getElem?_take, if_pos h]
/-- What a closure answers. -/
theorem closP_of {k : Con UU} {caps : List (DV UU)} {ds : List (DA UU)} {x : k.α} {v : Value} (h : k.of (ds.map DA.dv ++ caps) = some x) (hv : (k.res x).val = [.one (.lit v)]) (hm : (k.res x).muts = [])
    (hl : k.md.length = ds.length + caps.length) (hp : ∀ p ∈ k.pre x, p) : closP k caps ds = some v := by
  unfold closP
  simp only [h, hv, hm]
  rw [if_pos ⟨hl, hp⟩]
theorem val_beq (a b : DVal) : (a.K == b.K && (a.N == b.N && (ByteArray.toList a.S == ByteArray.toList b.S && true))) = decide (a = b) := by
  obtain ⟨K, N, S⟩ := a
  obtain ⟨K', N', S'⟩ := b
  simp only [toList_beq, Bool.and_true]
  rw [Bool.eq_iff_iff]
  simp only [Bool.and_eq_true, beq_iff_eq, decide_eq_true_eq, DVal.mk.injEq]
/-- The end of a search. -/
theorem upto_no {i : Int} {p : Nat → Bool} (h0 : 0 ≤ i) (h : ∀ j : Nat, (j : Int) < i → p j = false) (hi : p i.toNat = false) : ∀ j : Nat, (j : Int) < i + 1 → p j = false := by
  intro j hj
  by_cases hji : (j : Int) < i
  · exact h j hji
  · have : j = i.toNat := by omega
    subst this; exact hi
def daUndo (x : DUndo) : DA UU := ⟨true, [.lit (.string x.Key), .lit (.string x.F.Kind), .sl .eVal x.F.Fields]⟩
def undoAt (l : List DUndo) (i : Nat) : Bool := decide (1 ≤ (List.getD l i zUndo).Key.size ∧ (List.getD l i zUndo).Key.size ≤ 200) && factOk (List.getD l i zUndo).F && !(anyI i fun k => decide ((List.getD l k zUndo).Key = (List.getD l i zUndo).Key))
def undosOk (l : List DUndo) : Bool := decide (l.length ≤ 30) && allI l.length (undoAt l)
def hasKey (l : List DUndo) (key : ByteArray) : Bool := anyI l.length fun k => decide ((List.getD l k zUndo).Key = key)
def con_laws_szItem : Con UU where
  α := DItem × Int
  md := [.ro, .ro]
  of := fun | [.agg [.lit (.int .i64 a0), .lit (.string a1), .sl .lVal a2], .one (.lit (.int .i64 a3))] => some (⟨a0, ⟨a1, a2⟩⟩, a3) | _ => none
  ds := fun (a, left) => [.agg [.lit (.int .i64 a.Id), .lit (.string a.F.Kind), .sl .lVal a.F.Fields], .one (.lit (.int .i64 left))]
  pre := fun (a, left) => [0 ≤ left]
  res := fun (a, left) => ⟨[.one (.lit (.int .i64 (szr left (sizeItem a))))], true, []⟩
  law := by intro l x h; (try simp only at h); split at h <;> cases h; rfl
def ann_laws_szItem : con_laws_szItem.α → Nat → Option (Ann UU) := fun (a, left) => annL []
def use_laws_szItem : List (FuncId × Con UU) := [(117, con_laws_szFact)]
theorem vc_laws_szItem (a : DItem) (left : Int) : goal EE use_laws_szItem Go.Proofs.Tryz.f114 con_laws_szItem ann_laws_szItem (a, left) = ((0 : Int) ≤ left ∧ bif decide (szr left (sizeFact a.F) < (0 : Int)) then Lf [DV.one (Cell.lit (Value.int IntKind.i64 (-1 : Int)))] [DV.one (Cell.lit (Value.int IntKind.i64 (szr left (sizeItem a))))] else Lf [DV.one (Cell.lit (Value.int IntKind.i64 (szr left (sizeFact a.F))))] [DV.one (Cell.lit (Value.int IntKind.i64 (szr left (sizeItem a))))]) := by kernel_rfl
theorem ok_laws_szItem : Holds EE (114, con_laws_szItem) := by
  refine holds_of EE_ok Go.Proofs.Tryz.func114 con_laws_szItem (by kernel_rfl) use_laws_szItem (all_cons ok_laws_szFact all_nil) ann_laws_szItem (fun x hp hb => ?_)
  obtain ⟨a, left⟩ := x
  have hb_a : BdDV (U := UU) (.agg [.lit (.int .i64 a.Id), .lit (.string a.F.Kind), .sl .lVal a.F.Fields]) := hb _ (List.mem_cons_self)
  have hl_a_F_Kind : a.F.Kind.size ≤ 9223372036854775807 := Bd.str (hb_a _ (by simp))
  have hl_a_F_Fields : a.F.Fields.length ≤ 9223372036854775807 := Bd.len (U := UU) (τ := .lVal) (xs := a.F.Fields) (hb_a _ (by simp))
  have hb_left : BdDV (U := UU) (.one (.lit (.int .i64 left))) := hb _ (List.mem_cons_of_mem _ (List.mem_cons_self))
  have hl_left := Bd.i64 hb_left
  have hp0 : 0 ≤ left := hp _ (List.mem_cons_self)
  clear hp hb
  rw [vc_laws_szItem a left]
  refine ⟨by omega, if_cond (fun h => Lf_i (szr_bad' ?_)) (fun h => ?_)⟩
  · have h := szr_neg h; simp only [sizeItem]; omega
  obtain ⟨e0, h0⟩ := szr_pos h
  rw [e0]
  exact Lf_i (by rw [← szr_ok' (by simp only [sizeItem]; omega)]; simp only [sizeItem]; try omega)
def con_laws_toItem : Con UU where
  α := DItem
  md := [.ro]
  of := fun | [.agg [.lit (.int .i64 a0), .lit (.string a1), .sl .lVal a2]] => some ⟨a0, ⟨a1, a2⟩⟩ | _ => none
  ds := fun a => [.agg [.lit (.int .i64 a.Id), .lit (.string a.F.Kind), .sl .lVal a.F.Fields]]
  pre := fun a => [sizeItem a ≤ 4294967296]
  res := fun a => ⟨[.agg [.lit (.int .i64 a.Id), .lit (.string a.F.Kind), .sl .eVal a.F.Fields]], true, []⟩
  law := by intro l x h; (try simp only at h); split at h <;> cases h; rfl
def ann_laws_toItem : con_laws_toItem.α → Nat → Option (Ann UU) := fun a => annL []
def use_laws_toItem : List (FuncId × Con UU) := [(125, con_laws_toFact)]
theorem vc_laws_toItem (a : DItem) : goal EE use_laws_toItem Go.Proofs.Tryz.f122 con_laws_toItem ann_laws_toItem a = (sizeFact a.F ≤ (4294967296 : Nat) ∧ Lf [DV.agg [Cell.lit (Value.int IntKind.i64 a.Id), Cell.lit (Value.string a.F.Kind), Cell.sl Cd.eVal a.F.Fields]] [DV.agg [Cell.lit (Value.int IntKind.i64 a.Id), Cell.lit (Value.string a.F.Kind), Cell.sl Cd.eVal a.F.Fields]]) := by kernel_rfl
theorem ok_laws_toItem : Holds EE (122, con_laws_toItem) := by
  refine holds_of EE_ok Go.Proofs.Tryz.func122 con_laws_toItem (by kernel_rfl) use_laws_toItem (all_cons ok_laws_toFact all_nil) ann_laws_toItem (fun (a : DItem) hp hb => ?_)
  have hb_a : BdDV (U := UU) (.agg [.lit (.int .i64 a.Id), .lit (.string a.F.Kind), .sl .lVal a.F.Fields]) := hb _ (List.mem_cons_self)
  have hl_a_F_Kind : a.F.Kind.size ≤ 9223372036854775807 := Bd.str (hb_a _ (by simp))
  have hl_a_F_Fields : a.F.Fields.length ≤ 9223372036854775807 := Bd.len (U := UU) (τ := .lVal) (xs := a.F.Fields) (hb_a _ (by simp))
  have hp0 : sizeItem a ≤ 4294967296 := hp _ (List.mem_cons_self)
  clear hp hb
  rw [vc_laws_toItem a]
  simp only [sizeItem] at hp0
  repeat' (first | exact Lf_rfl _ | (refine And.intro (by omega) ?_))
def con_laws_eqItem : Con UU where
  α := DItem × DItem
  md := [.ro, .ro]
  of := fun | [.agg [.lit (.int .i64 a0), .lit (.string a1), .sl .eVal a2], .agg [.lit (.int .i64 a3), .lit (.string a4), .sl .eVal a5]] => some (⟨a0, ⟨a1, a2⟩⟩, ⟨a3, ⟨a4, a5⟩⟩) | _ => none
  ds := fun (a, b) => [.agg [.lit (.int .i64 a.Id), .lit (.string a.F.Kind), .sl .eVal a.F.Fields], .agg [.lit (.int .i64 b.Id), .lit (.string b.F.Kind), .sl .eVal b.F.Fields]]
  pre := fun (a, b) => []
  res := fun (a, b) => ⟨[.one (.lit (.bool (decide (a = b))))], true, []⟩
  law := by intro l x h; (try simp only at h); split at h <;> cases h; rfl
def ann_laws_eqItem : con_laws_eqItem.α → Nat → Option (Ann UU) := fun (a, b) => annL []
def use_laws_eqItem : List (FuncId × Con UU) := [(133, con_laws_eqFact)]
theorem vc_laws_eqItem (a : DItem) (b : DItem) : goal EE use_laws_eqItem Go.Proofs.Tryz.f130 con_laws_eqItem ann_laws_eqItem (a, b) = (bif a.Id != b.Id then Lf [DV.one (Cell.lit (Value.bool false))] [DV.one (Cell.lit (Value.bool (decide (a = b))))] else bif !decide (a.F = b.F) then Lf [DV.one (Cell.lit (Value.bool false))] [DV.one (Cell.lit (Value.bool (decide (a = b))))] else Lf [DV.one (Cell.lit (Value.bool true))] [DV.one (Cell.lit (Value.bool (decide (a = b))))]) := by kernel_rfl
theorem ok_laws_eqItem : Holds EE (130, con_laws_eqItem) := by
  refine holds_of EE_ok Go.Proofs.Tryz.func130 con_laws_eqItem (by kernel_rfl) use_laws_eqItem (all_cons ok_laws_eqFact all_nil) ann_laws_eqItem (fun x hp hb => ?_)
  obtain ⟨a, b⟩ := x
  have hb_a : BdDV (U := UU) (.agg [.lit (.int .i64 a.Id), .lit (.string a.F.Kind), .sl .eVal a.F.Fields]) := hb _ (List.mem_cons_self)
  have hl_a_F_Kind : a.F.Kind.size ≤ 9223372036854775807 := Bd.str (hb_a _ (by simp))
  have hl_a_F_Fields : a.F.Fields.length ≤ 9223372036854775807 := Bd.len (U := UU) (τ := .eVal) (xs := a.F.Fields) (hb_a _ (by simp))
  have hb_b : BdDV (U := UU) (.agg [.lit (.int .i64 b.Id), .lit (.string b.F.Kind), .sl .eVal b.F.Fields]) := hb _ (List.mem_cons_of_mem _ (List.mem_cons_self))
  have hl_b_F_Kind : b.F.Kind.size ≤ 9223372036854775807 := Bd.str (hb_b _ (by simp))
  have hl_b_F_Fields : b.F.Fields.length ≤ 9223372036854775807 := Bd.len (U := UU) (τ := .eVal) (xs := b.F.Fields) (hb_b _ (by simp))
  clear hp hb
  rw [vc_laws_eqItem a b]
  obtain ⟨aId, aF⟩ := a
  obtain ⟨bId, bF⟩ := b
  repeat' (apply if_cond <;> intro _)
  all_goals (first | apply Lf_t | apply Lf_f) <;> simp_all
def con_laws_szItemS : Con UU where
  α := (List DItem) × Int
  md := [.ro, .ro]
  of := fun | [.one (.sl .lItem a0), .one (.lit (.int .i64 a1))] => some (a0, a1) | _ => none
  ds := fun (a, left) => [.one (.sl .lItem a), .one (.lit (.int .i64 left))]
  pre := fun (a, left) => [0 ≤ left]
  res := fun (a, left) => ⟨[.one (.lit (.int .i64 (szr left (sizeItemS a))))], true, []⟩
  law := by intro l x h; (try simp only at h); split at h <;> cases h; rfl
def I_laws_szItemS_5 (a : (List DItem)) (left : Int) : Int × Int × Unit → Prop := fun (lf, i, _) => 0 ≤ lf ∧ 0 ≤ i ∧ i ≤ a.length ∧ szr lf ((a.drop i.toNat).map sizeItem).sum = szr left (sizeItemS a)
def μ_laws_szItemS_5 (a : (List DItem)) (left : Int) : Int × Int × Unit → Nat := fun (lf, i, _) => a.length - i.toNat
def ann_laws_szItemS : con_laws_szItemS.α → Nat → Option (Ann UU) := fun (a, left) => annL [(5, annOf [.slot 1 (1, 1024) (.lit (.int .i64)), .slot 5 (5, 1024) (.lit (.int .i64))] (fun _ => I_laws_szItemS_5 a left) (μ_laws_szItemS_5 a left))]
def use_laws_szItemS : List (FuncId × Con UU) := [(114, con_laws_szItem)]
theorem vc_laws_szItemS (a : (List DItem)) (left : Int) : goal EE use_laws_szItemS Go.Proofs.Tryz.f90 con_laws_szItemS ann_laws_szItemS (a, left) = (let x0 : Int := IntKind.wrap IntKind.i64 (left - (↑(List.length a) : Int));
bif decide (x0 < (0 : Int)) then Lf [DV.one (Cell.lit (Value.int IntKind.i64 (-1 : Int)))] [DV.one (Cell.lit (Value.int IntKind.i64 (szr left (sizeItemS a))))]
else
  I_laws_szItemS_5 a left (x0, (0 : Int), PUnit.unit) ∧
    ∀ (y : Int × Int × PUnit),
      let x1 : Int := szr y.1 (sizeItem (List.getD a (Int.toNat y.2.1) zItem));
      I_laws_szItemS_5 a left y → bif decide (y.2.1 < (↑(List.length a) : Int)) then (0 : Int) ≤ y.2.1 ∧ Int.toNat y.2.1 < List.length a ∧ (0 : Int) ≤ y.1 ∧ bif decide (x1 < (0 : Int)) then Lf [DV.one (Cell.lit (Value.int IntKind.i64 (-1 : Int)))] [DV.one (Cell.lit (Value.int IntKind.i64 (szr left (sizeItemS a))))] else I_laws_szItemS_5 a left (x1, IntKind.wrap IntKind.i64 (y.2.1 + (1 : Int)), PUnit.unit) ∧ μ_laws_szItemS_5 a left (x1, IntKind.wrap IntKind.i64 (y.2.1 + (1 : Int)), PUnit.unit) < μ_laws_szItemS_5 a left y else Lf [DV.one (Cell.lit (Value.int IntKind.i64 y.1))] [DV.one (Cell.lit (Value.int IntKind.i64 (szr left (sizeItemS a))))]) := by kernel_rfl
theorem ok_laws_szItemS : Holds EE (90, con_laws_szItemS) := by
  refine holds_of EE_ok Go.Proofs.Tryz.func90 con_laws_szItemS (by kernel_rfl) use_laws_szItemS (all_cons ok_laws_szItem all_nil) ann_laws_szItemS (fun x hp hb => ?_)
  obtain ⟨a, left⟩ := x
  have hb_a : BdDV (U := UU) (.one (.sl .lItem a)) := hb _ (List.mem_cons_self)
  have hl_a : a.length ≤ 9223372036854775807 := Bd.len hb_a
  have hb_left : BdDV (U := UU) (.one (.lit (.int .i64 left))) := hb _ (List.mem_cons_of_mem _ (List.mem_cons_self))
  have hl_left := Bd.i64 hb_left
  have hp0 : 0 ≤ left := hp _ (List.mem_cons_self)
  clear hp hb
  rw [vc_laws_szItemS a left]
  dsimp only
  rw [wrap_i64 (by omega) (by omega)]
  refine if_cond (fun h => Lf_i ?_) (fun h => ⟨?_, ?_⟩)
  · simp [szr, sizeItemS] at *; omega
  · simp only [I_laws_szItemS_5, sizeItemS]; simp at h; have h' : 0 ≤ left - a.length := by omega
    exact ⟨h', by omega, by omega, szr_sub h'⟩
  rintro ⟨lf, i, ⟨⟩⟩ ⟨h0, h1, h2, hR⟩
  refine if_cond (fun hc => ?_) (fun hc => ?_)
  · have hc : i < a.length := by simpa using hc
    rw [drop_step a zItem h1 hc, List.map_cons, List.sum_cons] at hR
    simp only at *
    rw [wrap_i64 (by omega) (by omega)]
    generalize List.getD a i.toNat zItem = x at *
    refine ⟨by omega, by omega, by omega, if_cond (fun h => Lf_i ?_) (fun h => ⟨⟨?_, by omega, by omega, ?_⟩, ?_⟩)⟩
    · rw [← hR]; exact (szr_bad (of_decide_eq_true h)).symm
    · simp at h; omega
    · rw [← hR]; simp at h; exact szr_szr h
    · simp only [μ_laws_szItemS_5]; omega
  · have hc : a.length ≤ i := by simpa using hc
    rw [drop_end a hc] at hR
    apply Lf_i; rw [← hR]; simp [szr, h0]
def con_laws_toItemS : Con UU where
  α := (List DItem)
  md := [.ro]
  of := fun | [.one (.sl .lItem a0)] => some a0 | _ => none
  ds := fun a => [.one (.sl .lItem a)]
  pre := fun a => [sizeItemS a ≤ 4294967296]
  res := fun a => ⟨[.one (.sl .eItem a)], true, []⟩
  law := by intro l x h; (try simp only at h); split at h <;> cases h; rfl
def I_laws_toItemS_3 (a : (List DItem)) : List DItem × Int × Unit → Prop := fun (out, i, _) => 0 ≤ i ∧ i ≤ a.length ∧ out = a.take i.toNat ++ List.replicate (a.length - i.toNat) zItem
def μ_laws_toItemS_3 (a : (List DItem)) : List DItem × Int × Unit → Nat := fun (out, i, _) => a.length - i.toNat
def ann_laws_toItemS : con_laws_toItemS.α → Nat → Option (Ann UU) := fun a => annL [(3, annOf [.slot 3 (3, 1024) (.own .eItem true), .slot 4 (4, 1024) (.lit (.int .i64))] (fun _ => I_laws_toItemS_3 a) (μ_laws_toItemS_3 a))]
def use_laws_toItemS : List (FuncId × Con UU) := [(122, con_laws_toItem)]
theorem vc_laws_toItemS (a : (List DItem)) : goal EE use_laws_toItemS Go.Proofs.Tryz.f98 con_laws_toItemS ann_laws_toItemS a = (let x0 : Int := (↑(List.length a) : Int);
(0 : Int) ≤ x0 ∧
  x0 = x0 ∧
    x0 ≤ (4294967296 : Int) ∧
      I_laws_toItemS_3 a (List.replicate (Int.toNat x0) zItem, (0 : Int), PUnit.unit) ∧
        ∀ (y : List DItem × Int × PUnit),
          let x1 : Nat := Int.toNat y.2.1;
          I_laws_toItemS_3 a y → bif decide (y.2.1 < x0) then (0 : Int) ≤ y.2.1 ∧ x1 < List.length a ∧ sizeItem (List.getD a x1 zItem) ≤ (4294967296 : Nat) ∧ (0 : Int) ≤ y.2.1 ∧ x1 < List.length y.1 ∧ x1 < List.length y.1 ∧ I_laws_toItemS_3 a (List.set y.1 x1 (List.getD a x1 zItem), IntKind.wrap IntKind.i64 (y.2.1 + (1 : Int)), PUnit.unit) ∧ μ_laws_toItemS_3 a (List.set y.1 x1 (List.getD a x1 zItem), IntKind.wrap IntKind.i64 (y.2.1 + (1 : Int)), PUnit.unit) < μ_laws_toItemS_3 a y else Lf [DV.one (Cell.sl Cd.eItem y.1)] [DV.one (Cell.sl Cd.eItem a)]) := by kernel_rfl
theorem ok_laws_toItemS : Holds EE (98, con_laws_toItemS) := by
  refine holds_of EE_ok Go.Proofs.Tryz.func98 con_laws_toItemS (by kernel_rfl) use_laws_toItemS (all_cons ok_laws_toItem all_nil) ann_laws_toItemS (fun (a : (List DItem)) hp hb => ?_)
  have hb_a : BdDV (U := UU) (.one (.sl .lItem a)) := hb _ (List.mem_cons_self)
  have hl_a : a.length ≤ 9223372036854775807 := Bd.len hb_a
  have hp0 : sizeItemS a ≤ 4294967296 := hp _ (List.mem_cons_self)
  clear hp hb
  rw [vc_laws_toItemS a]
  dsimp only
  have hlen : a.length ≤ 4294967296 := by simp only [sizeItemS] at hp0; omega
  refine ⟨by omega, rfl, by omega, ?_, ?_⟩
  · simp [I_laws_toItemS_3]
  rintro ⟨out, i, ⟨⟩⟩ ⟨h1, h2, rfl⟩
  simp only at *
  refine if_cond (fun hc => ?_) (fun hc => ?_)
  · have hc : i < a.length := by simpa using hc
    rw [wrap_i64 (by omega) (by omega), set_fill a zItem h1 hc]
    exact ⟨h1, by omega, by exact Nat.le_trans (sum_getD_le sizeItem a zItem h1 hc) (by simp only [sizeItemS] at hp0; omega), h1, by simp; omega, by simp; omega, ⟨by omega, by omega, rfl⟩, by simp only [μ_laws_toItemS_3]; omega⟩
  · have hc : a.length ≤ i := by simpa using hc
    have e : i.toNat = a.length := by omega
    rw [e]; simp; exact Lf_rfl _
def con_laws_eqItemS : Con UU where
  α := (List DItem) × (List DItem)
  md := [.ro, .ro]
  of := fun | [.one (.sl .eItem a0), .one (.sl .eItem a1)] => some (a0, a1) | _ => none
  ds := fun (a, b) => [.one (.sl .eItem a), .one (.sl .eItem b)]
  pre := fun (a, b) => []
  res := fun (a, b) => ⟨[.one (.lit (.bool (decide (a = b))))], true, []⟩
  law := by intro l x h; (try simp only at h); split at h <;> cases h; rfl
def I_laws_eqItemS_4 (a : (List DItem)) (b : (List DItem)) : Int × Unit → Prop := fun (i, _) => 0 ≤ i ∧ i ≤ a.length ∧ a.length = b.length ∧ (a.drop i.toNat = b.drop i.toNat ↔ a = b)
def μ_laws_eqItemS_4 (a : (List DItem)) (b : (List DItem)) : Int × Unit → Nat := fun (i, _) => a.length - i.toNat
def ann_laws_eqItemS : con_laws_eqItemS.α → Nat → Option (Ann UU) := fun (a, b) => annL [(4, annOf [.slot 5 (5, 1024) (.lit (.int .i64))] (fun _ => I_laws_eqItemS_4 a b) (μ_laws_eqItemS_4 a b))]
def use_laws_eqItemS : List (FuncId × Con UU) := [(130, con_laws_eqItem)]
theorem vc_laws_eqItemS (a : (List DItem)) (b : (List DItem)) : goal EE use_laws_eqItemS Go.Proofs.Tryz.f106 con_laws_eqItemS ann_laws_eqItemS (a, b) = (bif (↑(List.length a) : Int) != (↑(List.length b) : Int) then Lf [DV.one (Cell.lit (Value.bool false))] [DV.one (Cell.lit (Value.bool (decide (a = b))))] else I_laws_eqItemS_4 a b ((0 : Int), PUnit.unit) ∧ ∀ (y : Int × PUnit), I_laws_eqItemS_4 a b y → bif decide (y.1 < (↑(List.length a) : Int)) then (0 : Int) ≤ y.1 ∧ Int.toNat y.1 < List.length a ∧ (0 : Int) ≤ y.1 ∧ Int.toNat y.1 < List.length b ∧ bif !decide (List.getD a (Int.toNat y.1) zItem = List.getD b (Int.toNat y.1) zItem) then Lf [DV.one (Cell.lit (Value.bool false))] [DV.one (Cell.lit (Value.bool (decide (a = b))))] else I_laws_eqItemS_4 a b (IntKind.wrap IntKind.i64 (y.1 + (1 : Int)), PUnit.unit) ∧ μ_laws_eqItemS_4 a b (IntKind.wrap IntKind.i64 (y.1 + (1 : Int)), PUnit.unit) < μ_laws_eqItemS_4 a b y else Lf [DV.one (Cell.lit (Value.bool true))] [DV.one (Cell.lit (Value.bool (decide (a = b))))]) := by kernel_rfl
theorem ok_laws_eqItemS : Holds EE (106, con_laws_eqItemS) := by
  refine holds_of EE_ok Go.Proofs.Tryz.func106 con_laws_eqItemS (by kernel_rfl) use_laws_eqItemS (all_cons ok_laws_eqItem all_nil) ann_laws_eqItemS (fun x hp hb => ?_)
  obtain ⟨a, b⟩ := x
  have hb_a : BdDV (U := UU) (.one (.sl .eItem a)) := hb _ (List.mem_cons_self)
  have hl_a : a.length ≤ 9223372036854775807 := Bd.len hb_a
  have hb_b : BdDV (U := UU) (.one (.sl .eItem b)) := hb _ (List.mem_cons_of_mem _ (List.mem_cons_self))
  have hl_b : b.length ≤ 9223372036854775807 := Bd.len hb_b
  clear hp hb
  rw [vc_laws_eqItemS a b]
  refine if_cond (fun h => Lf_f ?_) (fun h => ⟨?_, ?_⟩)
  · rintro rfl; simp at h
  · simp [I_laws_eqItemS_4] at *; omega
  rintro ⟨i, ⟨⟩⟩ ⟨h1, h2, h3, hR⟩
  simp only at *
  refine if_cond (fun hc => ?_) (fun hc => ?_)
  · have hc : i < a.length := by simpa using hc
    rw [drop_step a zItem h1 hc, drop_step b zItem h1 (by omega)] at hR
    rw [wrap_i64 (by omega) (by omega)]
    refine ⟨by omega, by omega, by omega, by omega, if_cond (fun h => Lf_f ?_) (fun h => ⟨⟨by omega, by omega, h3, ?_⟩, ?_⟩)⟩
    · rw [← hR]; simp at h; simp [h]
    · rw [← hR]; simp at h; simp [h]
    · simp only [μ_laws_eqItemS_4]; omega
  · have hc : a.length ≤ i := by simpa using hc
    rw [drop_end a hc, drop_end b (by omega)] at hR
    exact Lf_t (hR.1 rfl)
def con_laws_szStore : Con UU where
  α := DStore × Int
  md := [.ro, .ro]
  of := fun | [.agg [.sl .lItem a0, .lit (.int .i64 a1)], .one (.lit (.int .i64 a2))] => some (⟨a0, a1⟩, a2) | _ => none
  ds := fun (a, left) => [.agg [.sl .lItem a.Items, .lit (.int .i64 a.Next)], .one (.lit (.int .i64 left))]
  pre := fun (a, left) => [0 ≤ left]
  res := fun (a, left) => ⟨[.one (.lit (.int .i64 (szr left (sizeStore a))))], true, []⟩
  law := by intro l x h; (try simp only at h); split at h <;> cases h; rfl
def ann_laws_szStore : con_laws_szStore.α → Nat → Option (Ann UU) := fun (a, left) => annL []
def use_laws_szStore : List (FuncId × Con UU) := [(90, con_laws_szItemS)]
theorem vc_laws_szStore (a : DStore) (left : Int) : goal EE use_laws_szStore Go.Proofs.Tryz.f66 con_laws_szStore ann_laws_szStore (a, left) = ((0 : Int) ≤ left ∧ bif decide (szr left (sizeItemS a.Items) < (0 : Int)) then Lf [DV.one (Cell.lit (Value.int IntKind.i64 (-1 : Int)))] [DV.one (Cell.lit (Value.int IntKind.i64 (szr left (sizeStore a))))] else Lf [DV.one (Cell.lit (Value.int IntKind.i64 (szr left (sizeItemS a.Items))))] [DV.one (Cell.lit (Value.int IntKind.i64 (szr left (sizeStore a))))]) := by kernel_rfl
theorem ok_laws_szStore : Holds EE (66, con_laws_szStore) := by
  refine holds_of EE_ok Go.Proofs.Tryz.func66 con_laws_szStore (by kernel_rfl) use_laws_szStore (all_cons ok_laws_szItemS all_nil) ann_laws_szStore (fun x hp hb => ?_)
  obtain ⟨a, left⟩ := x
  have hb_a : BdDV (U := UU) (.agg [.sl .lItem a.Items, .lit (.int .i64 a.Next)]) := hb _ (List.mem_cons_self)
  have hl_a_Items : a.Items.length ≤ 9223372036854775807 := Bd.len (U := UU) (τ := .lItem) (xs := a.Items) (hb_a _ (by simp))
  have hb_left : BdDV (U := UU) (.one (.lit (.int .i64 left))) := hb _ (List.mem_cons_of_mem _ (List.mem_cons_self))
  have hl_left := Bd.i64 hb_left
  have hp0 : 0 ≤ left := hp _ (List.mem_cons_self)
  clear hp hb
  rw [vc_laws_szStore a left]
  refine ⟨by omega, if_cond (fun h => Lf_i (szr_bad' ?_)) (fun h => ?_)⟩
  · have h := szr_neg h; simp only [sizeStore]; omega
  obtain ⟨e0, h0⟩ := szr_pos h
  rw [e0]
  exact Lf_i (by rw [← szr_ok' (by simp only [sizeStore]; omega)]; simp only [sizeStore]; try omega)
def con_laws_toStore : Con UU where
  α := DStore
  md := [.ro]
  of := fun | [.agg [.sl .lItem a0, .lit (.int .i64 a1)]] => some ⟨a0, a1⟩ | _ => none
  ds := fun a => [.agg [.sl .lItem a.Items, .lit (.int .i64 a.Next)]]
  pre := fun a => [sizeStore a ≤ 4294967296]
  res := fun a => ⟨[.agg [.sl .eItem a.Items, .lit (.int .i64 a.Next)]], true, []⟩
  law := by intro l x h; (try simp only at h); split at h <;> cases h; rfl
def ann_laws_toStore : con_laws_toStore.α → Nat → Option (Ann UU) := fun a => annL []
def use_laws_toStore : List (FuncId × Con UU) := [(98, con_laws_toItemS)]
theorem vc_laws_toStore (a : DStore) : goal EE use_laws_toStore Go.Proofs.Tryz.f73 con_laws_toStore ann_laws_toStore a = (sizeItemS a.Items ≤ (4294967296 : Nat) ∧ Lf [DV.agg [Cell.sl Cd.eItem a.Items, Cell.lit (Value.int IntKind.i64 a.Next)]] [DV.agg [Cell.sl Cd.eItem a.Items, Cell.lit (Value.int IntKind.i64 a.Next)]]) := by kernel_rfl
theorem ok_laws_toStore : Holds EE (73, con_laws_toStore) := by
  refine holds_of EE_ok Go.Proofs.Tryz.func73 con_laws_toStore (by kernel_rfl) use_laws_toStore (all_cons ok_laws_toItemS all_nil) ann_laws_toStore (fun (a : DStore) hp hb => ?_)
  have hb_a : BdDV (U := UU) (.agg [.sl .lItem a.Items, .lit (.int .i64 a.Next)]) := hb _ (List.mem_cons_self)
  have hl_a_Items : a.Items.length ≤ 9223372036854775807 := Bd.len (U := UU) (τ := .lItem) (xs := a.Items) (hb_a _ (by simp))
  have hp0 : sizeStore a ≤ 4294967296 := hp _ (List.mem_cons_self)
  clear hp hb
  rw [vc_laws_toStore a]
  simp only [sizeStore] at hp0
  repeat' (first | exact Lf_rfl _ | (refine And.intro (by omega) ?_))
def con_laws_eqStore : Con UU where
  α := DStore × DStore
  md := [.ro, .ro]
  of := fun | [.agg [.sl .eItem a0, .lit (.int .i64 a1)], .agg [.sl .eItem a2, .lit (.int .i64 a3)]] => some (⟨a0, a1⟩, ⟨a2, a3⟩) | _ => none
  ds := fun (a, b) => [.agg [.sl .eItem a.Items, .lit (.int .i64 a.Next)], .agg [.sl .eItem b.Items, .lit (.int .i64 b.Next)]]
  pre := fun (a, b) => []
  res := fun (a, b) => ⟨[.one (.lit (.bool (decide (a = b))))], true, []⟩
  law := by intro l x h; (try simp only at h); split at h <;> cases h; rfl
def ann_laws_eqStore : con_laws_eqStore.α → Nat → Option (Ann UU) := fun (a, b) => annL []
def use_laws_eqStore : List (FuncId × Con UU) := [(106, con_laws_eqItemS)]
theorem vc_laws_eqStore (a : DStore) (b : DStore) : goal EE use_laws_eqStore Go.Proofs.Tryz.f82 con_laws_eqStore ann_laws_eqStore (a, b) = (bif !decide (a.Items = b.Items) then Lf [DV.one (Cell.lit (Value.bool false))] [DV.one (Cell.lit (Value.bool (decide (a = b))))] else bif a.Next != b.Next then Lf [DV.one (Cell.lit (Value.bool false))] [DV.one (Cell.lit (Value.bool (decide (a = b))))] else Lf [DV.one (Cell.lit (Value.bool true))] [DV.one (Cell.lit (Value.bool (decide (a = b))))]) := by kernel_rfl
theorem ok_laws_eqStore : Holds EE (82, con_laws_eqStore) := by
  refine holds_of EE_ok Go.Proofs.Tryz.func82 con_laws_eqStore (by kernel_rfl) use_laws_eqStore (all_cons ok_laws_eqItemS all_nil) ann_laws_eqStore (fun x hp hb => ?_)
  obtain ⟨a, b⟩ := x
  have hb_a : BdDV (U := UU) (.agg [.sl .eItem a.Items, .lit (.int .i64 a.Next)]) := hb _ (List.mem_cons_self)
  have hl_a_Items : a.Items.length ≤ 9223372036854775807 := Bd.len (U := UU) (τ := .eItem) (xs := a.Items) (hb_a _ (by simp))
  have hb_b : BdDV (U := UU) (.agg [.sl .eItem b.Items, .lit (.int .i64 b.Next)]) := hb _ (List.mem_cons_of_mem _ (List.mem_cons_self))
  have hl_b_Items : b.Items.length ≤ 9223372036854775807 := Bd.len (U := UU) (τ := .eItem) (xs := b.Items) (hb_b _ (by simp))
  clear hp hb
  rw [vc_laws_eqStore a b]
  obtain ⟨aItems, aNext⟩ := a
  obtain ⟨bItems, bNext⟩ := b
  repeat' (apply if_cond <;> intro _)
  all_goals (first | apply Lf_t | apply Lf_f) <;> simp_all
def con_laws_szArg : Con UU where
  α := DArg × Int
  md := [.ro, .ro]
  of := fun | [.agg [.lit (.int .i64 a0), .lit (.string a1), .lit (.int .i64 a2), .lit (.int .i64 a3), .lit (.string a4)], .one (.lit (.int .i64 a5))] => some (⟨a0, a1, ⟨a2, a3, a4⟩⟩, a5) | _ => none
  ds := fun (a, left) => [.agg [.lit (.int .i64 a.K), .lit (.string a.S), .lit (.int .i64 a.V.K), .lit (.int .i64 a.V.N), .lit (.string a.V.S)], .one (.lit (.int .i64 left))]
  pre := fun (a, left) => [0 ≤ left]
  res := fun (a, left) => ⟨[.one (.lit (.int .i64 (szr left (sizeArg a))))], true, []⟩
  law := by intro l x h; (try simp only at h); split at h <;> cases h; rfl
def ann_laws_szArg : con_laws_szArg.α → Nat → Option (Ann UU) := fun (a, left) => annL []
def use_laws_szArg : List (FuncId × Con UU) := [(118, con_laws_szVal)]
theorem vc_laws_szArg (a : DArg) (left : Int) : goal EE use_laws_szArg Go.Proofs.Tryz.f136 con_laws_szArg ann_laws_szArg (a, left) = (let x0 : Int := IntKind.wrap IntKind.i64 (left - (↑(ByteArray.size a.S) : Int));
bif decide (x0 < (0 : Int)) then Lf [DV.one (Cell.lit (Value.int IntKind.i64 (-1 : Int)))] [DV.one (Cell.lit (Value.int IntKind.i64 (szr left (sizeArg a))))] else (0 : Int) ≤ x0 ∧ bif decide (szr x0 (sizeVal a.V) < (0 : Int)) then Lf [DV.one (Cell.lit (Value.int IntKind.i64 (-1 : Int)))] [DV.one (Cell.lit (Value.int IntKind.i64 (szr left (sizeArg a))))] else Lf [DV.one (Cell.lit (Value.int IntKind.i64 (szr x0 (sizeVal a.V))))] [DV.one (Cell.lit (Value.int IntKind.i64 (szr left (sizeArg a))))]) := by kernel_rfl
theorem ok_laws_szArg : Holds EE (136, con_laws_szArg) := by
  refine holds_of EE_ok Go.Proofs.Tryz.func136 con_laws_szArg (by kernel_rfl) use_laws_szArg (all_cons ok_laws_szVal all_nil) ann_laws_szArg (fun x hp hb => ?_)
  obtain ⟨a, left⟩ := x
  have hb_a : BdDV (U := UU) (.agg [.lit (.int .i64 a.K), .lit (.string a.S), .lit (.int .i64 a.V.K), .lit (.int .i64 a.V.N), .lit (.string a.V.S)]) := hb _ (List.mem_cons_self)
  have hl_a_S : a.S.size ≤ 9223372036854775807 := Bd.str (hb_a _ (by simp))
  have hl_a_V_S : a.V.S.size ≤ 9223372036854775807 := Bd.str (hb_a _ (by simp))
  have hb_left : BdDV (U := UU) (.one (.lit (.int .i64 left))) := hb _ (List.mem_cons_of_mem _ (List.mem_cons_self))
  have hl_left := Bd.i64 hb_left
  have hp0 : 0 ≤ left := hp _ (List.mem_cons_self)
  clear hp hb
  rw [vc_laws_szArg a left]
  dsimp only
  rw [wrap_i64 (by omega) (by omega)]
  refine if_cond (fun h => Lf_i (szr_bad' ?_)) (fun h => ?_)
  · have h := of_decide_eq_true h; simp only [sizeArg]; omega
  have h0 := of_decide_eq_false h
  refine ⟨by omega, if_cond (fun h => Lf_i (szr_bad' ?_)) (fun h => ?_)⟩
  · have h := szr_neg h; simp only [sizeArg]; omega
  obtain ⟨e1, h1⟩ := szr_pos h
  rw [e1]
  exact Lf_i (by rw [← szr_ok' (by simp only [sizeArg]; omega)]; simp only [sizeArg]; try omega)
def con_laws_toArg : Con UU where
  α := DArg
  md := [.ro]
  of := fun | [.agg [.lit (.int .i64 a0), .lit (.string a1), .lit (.int .i64 a2), .lit (.int .i64 a3), .lit (.string a4)]] => some ⟨a0, a1, ⟨a2, a3, a4⟩⟩ | _ => none
  ds := fun a => [.agg [.lit (.int .i64 a.K), .lit (.string a.S), .lit (.int .i64 a.V.K), .lit (.int .i64 a.V.N), .lit (.string a.V.S)]]
  pre := fun a => [sizeArg a ≤ 4294967296]
  res := fun a => ⟨[.agg [.lit (.int .i64 a.K), .lit (.string a.S), .lit (.int .i64 a.V.K), .lit (.int .i64 a.V.N), .lit (.string a.V.S)]], true, []⟩
  law := by intro l x h; (try simp only at h); split at h <;> cases h; rfl
def ann_laws_toArg : con_laws_toArg.α → Nat → Option (Ann UU) := fun a => annL []
def use_laws_toArg : List (FuncId × Con UU) := [(126, con_laws_toVal)]
theorem vc_laws_toArg (a : DArg) : goal EE use_laws_toArg Go.Proofs.Tryz.f141 con_laws_toArg ann_laws_toArg a = (sizeVal a.V ≤ (4294967296 : Nat) ∧ Lf [DV.agg [Cell.lit (Value.int IntKind.i64 a.K), Cell.lit (Value.string a.S), Cell.lit (Value.int IntKind.i64 a.V.K), Cell.lit (Value.int IntKind.i64 a.V.N), Cell.lit (Value.string a.V.S)]] [DV.agg [Cell.lit (Value.int IntKind.i64 a.K), Cell.lit (Value.string a.S), Cell.lit (Value.int IntKind.i64 a.V.K), Cell.lit (Value.int IntKind.i64 a.V.N), Cell.lit (Value.string a.V.S)]]) := by kernel_rfl
theorem ok_laws_toArg : Holds EE (141, con_laws_toArg) := by
  refine holds_of EE_ok Go.Proofs.Tryz.func141 con_laws_toArg (by kernel_rfl) use_laws_toArg (all_cons ok_laws_toVal all_nil) ann_laws_toArg (fun (a : DArg) hp hb => ?_)
  have hb_a : BdDV (U := UU) (.agg [.lit (.int .i64 a.K), .lit (.string a.S), .lit (.int .i64 a.V.K), .lit (.int .i64 a.V.N), .lit (.string a.V.S)]) := hb _ (List.mem_cons_self)
  have hl_a_S : a.S.size ≤ 9223372036854775807 := Bd.str (hb_a _ (by simp))
  have hl_a_V_S : a.V.S.size ≤ 9223372036854775807 := Bd.str (hb_a _ (by simp))
  have hp0 : sizeArg a ≤ 4294967296 := hp _ (List.mem_cons_self)
  clear hp hb
  rw [vc_laws_toArg a]
  simp only [sizeArg] at hp0
  repeat' (first | exact Lf_rfl _ | (refine And.intro (by omega) ?_))
def con_laws_eqArg : Con UU where
  α := DArg × DArg
  md := [.ro, .ro]
  of := fun | [.agg [.lit (.int .i64 a0), .lit (.string a1), .lit (.int .i64 a2), .lit (.int .i64 a3), .lit (.string a4)], .agg [.lit (.int .i64 a5), .lit (.string a6), .lit (.int .i64 a7), .lit (.int .i64 a8), .lit (.string a9)]] => some (⟨a0, a1, ⟨a2, a3, a4⟩⟩, ⟨a5, a6, ⟨a7, a8, a9⟩⟩) | _ => none
  ds := fun (a, b) => [.agg [.lit (.int .i64 a.K), .lit (.string a.S), .lit (.int .i64 a.V.K), .lit (.int .i64 a.V.N), .lit (.string a.V.S)], .agg [.lit (.int .i64 b.K), .lit (.string b.S), .lit (.int .i64 b.V.K), .lit (.int .i64 b.V.N), .lit (.string b.V.S)]]
  pre := fun (a, b) => []
  res := fun (a, b) => ⟨[.one (.lit (.bool (decide (a = b))))], true, []⟩
  law := by intro l x h; (try simp only at h); split at h <;> cases h; rfl
def ann_laws_eqArg : con_laws_eqArg.α → Nat → Option (Ann UU) := fun (a, b) => annL []
def use_laws_eqArg : List (FuncId × Con UU) := [(134, con_laws_eqVal)]
theorem vc_laws_eqArg (a : DArg) (b : DArg) : goal EE use_laws_eqArg Go.Proofs.Tryz.f146 con_laws_eqArg ann_laws_eqArg (a, b) = (bif a.K != b.K then Lf [DV.one (Cell.lit (Value.bool false))] [DV.one (Cell.lit (Value.bool (decide (a = b))))] else bif !ByteArray.toList a.S == ByteArray.toList b.S then Lf [DV.one (Cell.lit (Value.bool false))] [DV.one (Cell.lit (Value.bool (decide (a = b))))] else bif !decide (a.V = b.V) then Lf [DV.one (Cell.lit (Value.bool false))] [DV.one (Cell.lit (Value.bool (decide (a = b))))] else Lf [DV.one (Cell.lit (Value.bool true))] [DV.one (Cell.lit (Value.bool (decide (a = b))))]) := by kernel_rfl
theorem ok_laws_eqArg : Holds EE (146, con_laws_eqArg) := by
  refine holds_of EE_ok Go.Proofs.Tryz.func146 con_laws_eqArg (by kernel_rfl) use_laws_eqArg (all_cons ok_laws_eqVal all_nil) ann_laws_eqArg (fun x hp hb => ?_)
  obtain ⟨a, b⟩ := x
  have hb_a : BdDV (U := UU) (.agg [.lit (.int .i64 a.K), .lit (.string a.S), .lit (.int .i64 a.V.K), .lit (.int .i64 a.V.N), .lit (.string a.V.S)]) := hb _ (List.mem_cons_self)
  have hl_a_S : a.S.size ≤ 9223372036854775807 := Bd.str (hb_a _ (by simp))
  have hl_a_V_S : a.V.S.size ≤ 9223372036854775807 := Bd.str (hb_a _ (by simp))
  have hb_b : BdDV (U := UU) (.agg [.lit (.int .i64 b.K), .lit (.string b.S), .lit (.int .i64 b.V.K), .lit (.int .i64 b.V.N), .lit (.string b.V.S)]) := hb _ (List.mem_cons_of_mem _ (List.mem_cons_self))
  have hl_b_S : b.S.size ≤ 9223372036854775807 := Bd.str (hb_b _ (by simp))
  have hl_b_V_S : b.V.S.size ≤ 9223372036854775807 := Bd.str (hb_b _ (by simp))
  clear hp hb
  rw [vc_laws_eqArg a b]
  obtain ⟨aK, aS, aV⟩ := a
  obtain ⟨bK, bS, bV⟩ := b
  repeat' (apply if_cond <;> intro _)
  all_goals (first | apply Lf_t | apply Lf_f) <;> simp_all
def con_laws_szArgS : Con UU where
  α := (List DArg) × Int
  md := [.ro, .ro]
  of := fun | [.one (.sl .lArg a0), .one (.lit (.int .i64 a1))] => some (a0, a1) | _ => none
  ds := fun (a, left) => [.one (.sl .lArg a), .one (.lit (.int .i64 left))]
  pre := fun (a, left) => [0 ≤ left]
  res := fun (a, left) => ⟨[.one (.lit (.int .i64 (szr left (sizeArgS a))))], true, []⟩
  law := by intro l x h; (try simp only at h); split at h <;> cases h; rfl
def I_laws_szArgS_5 (a : (List DArg)) (left : Int) : Int × Int × Unit → Prop := fun (lf, i, _) => 0 ≤ lf ∧ 0 ≤ i ∧ i ≤ a.length ∧ szr lf ((a.drop i.toNat).map sizeArg).sum = szr left (sizeArgS a)
def μ_laws_szArgS_5 (a : (List DArg)) (left : Int) : Int × Int × Unit → Nat := fun (lf, i, _) => a.length - i.toNat
def ann_laws_szArgS : con_laws_szArgS.α → Nat → Option (Ann UU) := fun (a, left) => annL [(5, annOf [.slot 1 (1, 1024) (.lit (.int .i64)), .slot 5 (5, 1024) (.lit (.int .i64))] (fun _ => I_laws_szArgS_5 a left) (μ_laws_szArgS_5 a left))]
def use_laws_szArgS : List (FuncId × Con UU) := [(136, con_laws_szArg)]
theorem vc_laws_szArgS (a : (List DArg)) (left : Int) : goal EE use_laws_szArgS Go.Proofs.Tryz.f135 con_laws_szArgS ann_laws_szArgS (a, left) = (let x0 : Int := IntKind.wrap IntKind.i64 (left - (↑(List.length a) : Int));
bif decide (x0 < (0 : Int)) then Lf [DV.one (Cell.lit (Value.int IntKind.i64 (-1 : Int)))] [DV.one (Cell.lit (Value.int IntKind.i64 (szr left (sizeArgS a))))]
else
  I_laws_szArgS_5 a left (x0, (0 : Int), PUnit.unit) ∧
    ∀ (y : Int × Int × PUnit),
      let x1 : Int := szr y.1 (sizeArg (List.getD a (Int.toNat y.2.1) zArg));
      I_laws_szArgS_5 a left y → bif decide (y.2.1 < (↑(List.length a) : Int)) then (0 : Int) ≤ y.2.1 ∧ Int.toNat y.2.1 < List.length a ∧ (0 : Int) ≤ y.1 ∧ bif decide (x1 < (0 : Int)) then Lf [DV.one (Cell.lit (Value.int IntKind.i64 (-1 : Int)))] [DV.one (Cell.lit (Value.int IntKind.i64 (szr left (sizeArgS a))))] else I_laws_szArgS_5 a left (x1, IntKind.wrap IntKind.i64 (y.2.1 + (1 : Int)), PUnit.unit) ∧ μ_laws_szArgS_5 a left (x1, IntKind.wrap IntKind.i64 (y.2.1 + (1 : Int)), PUnit.unit) < μ_laws_szArgS_5 a left y else Lf [DV.one (Cell.lit (Value.int IntKind.i64 y.1))] [DV.one (Cell.lit (Value.int IntKind.i64 (szr left (sizeArgS a))))]) := by kernel_rfl
theorem ok_laws_szArgS : Holds EE (135, con_laws_szArgS) := by
  refine holds_of EE_ok Go.Proofs.Tryz.func135 con_laws_szArgS (by kernel_rfl) use_laws_szArgS (all_cons ok_laws_szArg all_nil) ann_laws_szArgS (fun x hp hb => ?_)
  obtain ⟨a, left⟩ := x
  have hb_a : BdDV (U := UU) (.one (.sl .lArg a)) := hb _ (List.mem_cons_self)
  have hl_a : a.length ≤ 9223372036854775807 := Bd.len hb_a
  have hb_left : BdDV (U := UU) (.one (.lit (.int .i64 left))) := hb _ (List.mem_cons_of_mem _ (List.mem_cons_self))
  have hl_left := Bd.i64 hb_left
  have hp0 : 0 ≤ left := hp _ (List.mem_cons_self)
  clear hp hb
  rw [vc_laws_szArgS a left]
  dsimp only
  rw [wrap_i64 (by omega) (by omega)]
  refine if_cond (fun h => Lf_i ?_) (fun h => ⟨?_, ?_⟩)
  · simp [szr, sizeArgS] at *; omega
  · simp only [I_laws_szArgS_5, sizeArgS]; simp at h; have h' : 0 ≤ left - a.length := by omega
    exact ⟨h', by omega, by omega, szr_sub h'⟩
  rintro ⟨lf, i, ⟨⟩⟩ ⟨h0, h1, h2, hR⟩
  refine if_cond (fun hc => ?_) (fun hc => ?_)
  · have hc : i < a.length := by simpa using hc
    rw [drop_step a zArg h1 hc, List.map_cons, List.sum_cons] at hR
    simp only at *
    rw [wrap_i64 (by omega) (by omega)]
    generalize List.getD a i.toNat zArg = x at *
    refine ⟨by omega, by omega, by omega, if_cond (fun h => Lf_i ?_) (fun h => ⟨⟨?_, by omega, by omega, ?_⟩, ?_⟩)⟩
    · rw [← hR]; exact (szr_bad (of_decide_eq_true h)).symm
    · simp at h; omega
    · rw [← hR]; simp at h; exact szr_szr h
    · simp only [μ_laws_szArgS_5]; omega
  · have hc : a.length ≤ i := by simpa using hc
    rw [drop_end a hc] at hR
    apply Lf_i; rw [← hR]; simp [szr, h0]
def con_laws_toArgS : Con UU where
  α := (List DArg)
  md := [.ro]
  of := fun | [.one (.sl .lArg a0)] => some a0 | _ => none
  ds := fun a => [.one (.sl .lArg a)]
  pre := fun a => [sizeArgS a ≤ 4294967296]
  res := fun a => ⟨[.one (.sl .eArg a)], true, []⟩
  law := by intro l x h; (try simp only at h); split at h <;> cases h; rfl
def I_laws_toArgS_3 (a : (List DArg)) : List DArg × Int × Unit → Prop := fun (out, i, _) => 0 ≤ i ∧ i ≤ a.length ∧ out = a.take i.toNat ++ List.replicate (a.length - i.toNat) zArg
def μ_laws_toArgS_3 (a : (List DArg)) : List DArg × Int × Unit → Nat := fun (out, i, _) => a.length - i.toNat
def ann_laws_toArgS : con_laws_toArgS.α → Nat → Option (Ann UU) := fun a => annL [(3, annOf [.slot 3 (3, 1024) (.own .eArg true), .slot 4 (4, 1024) (.lit (.int .i64))] (fun _ => I_laws_toArgS_3 a) (μ_laws_toArgS_3 a))]
def use_laws_toArgS : List (FuncId × Con UU) := [(141, con_laws_toArg)]
theorem vc_laws_toArgS (a : (List DArg)) : goal EE use_laws_toArgS Go.Proofs.Tryz.f140 con_laws_toArgS ann_laws_toArgS a = (let x0 : Int := (↑(List.length a) : Int);
(0 : Int) ≤ x0 ∧
  x0 = x0 ∧
    x0 ≤ (4294967296 : Int) ∧
      I_laws_toArgS_3 a (List.replicate (Int.toNat x0) zArg, (0 : Int), PUnit.unit) ∧
        ∀ (y : List DArg × Int × PUnit),
          let x1 : Nat := Int.toNat y.2.1;
          I_laws_toArgS_3 a y → bif decide (y.2.1 < x0) then (0 : Int) ≤ y.2.1 ∧ x1 < List.length a ∧ sizeArg (List.getD a x1 zArg) ≤ (4294967296 : Nat) ∧ (0 : Int) ≤ y.2.1 ∧ x1 < List.length y.1 ∧ x1 < List.length y.1 ∧ I_laws_toArgS_3 a (List.set y.1 x1 (List.getD a x1 zArg), IntKind.wrap IntKind.i64 (y.2.1 + (1 : Int)), PUnit.unit) ∧ μ_laws_toArgS_3 a (List.set y.1 x1 (List.getD a x1 zArg), IntKind.wrap IntKind.i64 (y.2.1 + (1 : Int)), PUnit.unit) < μ_laws_toArgS_3 a y else Lf [DV.one (Cell.sl Cd.eArg y.1)] [DV.one (Cell.sl Cd.eArg a)]) := by kernel_rfl
theorem ok_laws_toArgS : Holds EE (140, con_laws_toArgS) := by
  refine holds_of EE_ok Go.Proofs.Tryz.func140 con_laws_toArgS (by kernel_rfl) use_laws_toArgS (all_cons ok_laws_toArg all_nil) ann_laws_toArgS (fun (a : (List DArg)) hp hb => ?_)
  have hb_a : BdDV (U := UU) (.one (.sl .lArg a)) := hb _ (List.mem_cons_self)
  have hl_a : a.length ≤ 9223372036854775807 := Bd.len hb_a
  have hp0 : sizeArgS a ≤ 4294967296 := hp _ (List.mem_cons_self)
  clear hp hb
  rw [vc_laws_toArgS a]
  dsimp only
  have hlen : a.length ≤ 4294967296 := by simp only [sizeArgS] at hp0; omega
  refine ⟨by omega, rfl, by omega, ?_, ?_⟩
  · simp [I_laws_toArgS_3]
  rintro ⟨out, i, ⟨⟩⟩ ⟨h1, h2, rfl⟩
  simp only at *
  refine if_cond (fun hc => ?_) (fun hc => ?_)
  · have hc : i < a.length := by simpa using hc
    rw [wrap_i64 (by omega) (by omega), set_fill a zArg h1 hc]
    exact ⟨h1, by omega, by exact Nat.le_trans (sum_getD_le sizeArg a zArg h1 hc) (by simp only [sizeArgS] at hp0; omega), h1, by simp; omega, by simp; omega, ⟨by omega, by omega, rfl⟩, by simp only [μ_laws_toArgS_3]; omega⟩
  · have hc : a.length ≤ i := by simpa using hc
    have e : i.toNat = a.length := by omega
    rw [e]; simp; exact Lf_rfl _
def con_laws_eqArgS : Con UU where
  α := (List DArg) × (List DArg)
  md := [.ro, .ro]
  of := fun | [.one (.sl .eArg a0), .one (.sl .eArg a1)] => some (a0, a1) | _ => none
  ds := fun (a, b) => [.one (.sl .eArg a), .one (.sl .eArg b)]
  pre := fun (a, b) => []
  res := fun (a, b) => ⟨[.one (.lit (.bool (decide (a = b))))], true, []⟩
  law := by intro l x h; (try simp only at h); split at h <;> cases h; rfl
def I_laws_eqArgS_4 (a : (List DArg)) (b : (List DArg)) : Int × Unit → Prop := fun (i, _) => 0 ≤ i ∧ i ≤ a.length ∧ a.length = b.length ∧ (a.drop i.toNat = b.drop i.toNat ↔ a = b)
def μ_laws_eqArgS_4 (a : (List DArg)) (b : (List DArg)) : Int × Unit → Nat := fun (i, _) => a.length - i.toNat
def ann_laws_eqArgS : con_laws_eqArgS.α → Nat → Option (Ann UU) := fun (a, b) => annL [(4, annOf [.slot 5 (5, 1024) (.lit (.int .i64))] (fun _ => I_laws_eqArgS_4 a b) (μ_laws_eqArgS_4 a b))]
def use_laws_eqArgS : List (FuncId × Con UU) := [(146, con_laws_eqArg)]
theorem vc_laws_eqArgS (a : (List DArg)) (b : (List DArg)) : goal EE use_laws_eqArgS Go.Proofs.Tryz.f145 con_laws_eqArgS ann_laws_eqArgS (a, b) = (bif (↑(List.length a) : Int) != (↑(List.length b) : Int) then Lf [DV.one (Cell.lit (Value.bool false))] [DV.one (Cell.lit (Value.bool (decide (a = b))))] else I_laws_eqArgS_4 a b ((0 : Int), PUnit.unit) ∧ ∀ (y : Int × PUnit), I_laws_eqArgS_4 a b y → bif decide (y.1 < (↑(List.length a) : Int)) then (0 : Int) ≤ y.1 ∧ Int.toNat y.1 < List.length a ∧ (0 : Int) ≤ y.1 ∧ Int.toNat y.1 < List.length b ∧ bif !decide (List.getD a (Int.toNat y.1) zArg = List.getD b (Int.toNat y.1) zArg) then Lf [DV.one (Cell.lit (Value.bool false))] [DV.one (Cell.lit (Value.bool (decide (a = b))))] else I_laws_eqArgS_4 a b (IntKind.wrap IntKind.i64 (y.1 + (1 : Int)), PUnit.unit) ∧ μ_laws_eqArgS_4 a b (IntKind.wrap IntKind.i64 (y.1 + (1 : Int)), PUnit.unit) < μ_laws_eqArgS_4 a b y else Lf [DV.one (Cell.lit (Value.bool true))] [DV.one (Cell.lit (Value.bool (decide (a = b))))]) := by kernel_rfl
theorem ok_laws_eqArgS : Holds EE (145, con_laws_eqArgS) := by
  refine holds_of EE_ok Go.Proofs.Tryz.func145 con_laws_eqArgS (by kernel_rfl) use_laws_eqArgS (all_cons ok_laws_eqArg all_nil) ann_laws_eqArgS (fun x hp hb => ?_)
  obtain ⟨a, b⟩ := x
  have hb_a : BdDV (U := UU) (.one (.sl .eArg a)) := hb _ (List.mem_cons_self)
  have hl_a : a.length ≤ 9223372036854775807 := Bd.len hb_a
  have hb_b : BdDV (U := UU) (.one (.sl .eArg b)) := hb _ (List.mem_cons_of_mem _ (List.mem_cons_self))
  have hl_b : b.length ≤ 9223372036854775807 := Bd.len hb_b
  clear hp hb
  rw [vc_laws_eqArgS a b]
  refine if_cond (fun h => Lf_f ?_) (fun h => ⟨?_, ?_⟩)
  · rintro rfl; simp at h
  · simp [I_laws_eqArgS_4] at *; omega
  rintro ⟨i, ⟨⟩⟩ ⟨h1, h2, h3, hR⟩
  simp only at *
  refine if_cond (fun hc => ?_) (fun hc => ?_)
  · have hc : i < a.length := by simpa using hc
    rw [drop_step a zArg h1 hc, drop_step b zArg h1 (by omega)] at hR
    rw [wrap_i64 (by omega) (by omega)]
    refine ⟨by omega, by omega, by omega, by omega, if_cond (fun h => Lf_f ?_) (fun h => ⟨⟨by omega, by omega, h3, ?_⟩, ?_⟩)⟩
    · rw [← hR]; simp at h; simp [h]
    · rw [← hR]; simp at h; simp [h]
    · simp only [μ_laws_eqArgS_4]; omega
  · have hc : a.length ≤ i := by simpa using hc
    rw [drop_end a hc, drop_end b (by omega)] at hR
    exact Lf_t (hR.1 rfl)
def con_laws_szPat : Con UU where
  α := DPat × Int
  md := [.ro, .ro]
  of := fun | [.agg [.lit (.string a0), .sl .lArg a1, .lit (.bool a2)], .one (.lit (.int .i64 a3))] => some (⟨a0, a1, a2⟩, a3) | _ => none
  ds := fun (a, left) => [.agg [.lit (.string a.Kind), .sl .lArg a.Args, .lit (.bool a.Not)], .one (.lit (.int .i64 left))]
  pre := fun (a, left) => [0 ≤ left]
  res := fun (a, left) => ⟨[.one (.lit (.int .i64 (szr left (sizePat a))))], true, []⟩
  law := by intro l x h; (try simp only at h); split at h <;> cases h; rfl
def ann_laws_szPat : con_laws_szPat.α → Nat → Option (Ann UU) := fun (a, left) => annL []
def use_laws_szPat : List (FuncId × Con UU) := [(135, con_laws_szArgS)]
theorem vc_laws_szPat (a : DPat) (left : Int) : goal EE use_laws_szPat Go.Proofs.Tryz.f111 con_laws_szPat ann_laws_szPat (a, left) = (let x0 : Int := IntKind.wrap IntKind.i64 (left - (↑(ByteArray.size a.Kind) : Int));
bif decide (x0 < (0 : Int)) then Lf [DV.one (Cell.lit (Value.int IntKind.i64 (-1 : Int)))] [DV.one (Cell.lit (Value.int IntKind.i64 (szr left (sizePat a))))] else (0 : Int) ≤ x0 ∧ bif decide (szr x0 (sizeArgS a.Args) < (0 : Int)) then Lf [DV.one (Cell.lit (Value.int IntKind.i64 (-1 : Int)))] [DV.one (Cell.lit (Value.int IntKind.i64 (szr left (sizePat a))))] else Lf [DV.one (Cell.lit (Value.int IntKind.i64 (szr x0 (sizeArgS a.Args))))] [DV.one (Cell.lit (Value.int IntKind.i64 (szr left (sizePat a))))]) := by kernel_rfl
theorem ok_laws_szPat : Holds EE (111, con_laws_szPat) := by
  refine holds_of EE_ok Go.Proofs.Tryz.func111 con_laws_szPat (by kernel_rfl) use_laws_szPat (all_cons ok_laws_szArgS all_nil) ann_laws_szPat (fun x hp hb => ?_)
  obtain ⟨a, left⟩ := x
  have hb_a : BdDV (U := UU) (.agg [.lit (.string a.Kind), .sl .lArg a.Args, .lit (.bool a.Not)]) := hb _ (List.mem_cons_self)
  have hl_a_Kind : a.Kind.size ≤ 9223372036854775807 := Bd.str (hb_a _ (by simp))
  have hl_a_Args : a.Args.length ≤ 9223372036854775807 := Bd.len (U := UU) (τ := .lArg) (xs := a.Args) (hb_a _ (by simp))
  have hb_left : BdDV (U := UU) (.one (.lit (.int .i64 left))) := hb _ (List.mem_cons_of_mem _ (List.mem_cons_self))
  have hl_left := Bd.i64 hb_left
  have hp0 : 0 ≤ left := hp _ (List.mem_cons_self)
  clear hp hb
  rw [vc_laws_szPat a left]
  dsimp only
  rw [wrap_i64 (by omega) (by omega)]
  refine if_cond (fun h => Lf_i (szr_bad' ?_)) (fun h => ?_)
  · have h := of_decide_eq_true h; simp only [sizePat]; omega
  have h0 := of_decide_eq_false h
  refine ⟨by omega, if_cond (fun h => Lf_i (szr_bad' ?_)) (fun h => ?_)⟩
  · have h := szr_neg h; simp only [sizePat]; omega
  obtain ⟨e1, h1⟩ := szr_pos h
  rw [e1]
  exact Lf_i (by rw [← szr_ok' (by simp only [sizePat]; omega)]; simp only [sizePat]; try omega)
def con_laws_toPat : Con UU where
  α := DPat
  md := [.ro]
  of := fun | [.agg [.lit (.string a0), .sl .lArg a1, .lit (.bool a2)]] => some ⟨a0, a1, a2⟩ | _ => none
  ds := fun a => [.agg [.lit (.string a.Kind), .sl .lArg a.Args, .lit (.bool a.Not)]]
  pre := fun a => [sizePat a ≤ 4294967296]
  res := fun a => ⟨[.agg [.lit (.string a.Kind), .sl .eArg a.Args, .lit (.bool a.Not)]], true, []⟩
  law := by intro l x h; (try simp only at h); split at h <;> cases h; rfl
def ann_laws_toPat : con_laws_toPat.α → Nat → Option (Ann UU) := fun a => annL []
def use_laws_toPat : List (FuncId × Con UU) := [(140, con_laws_toArgS)]
theorem vc_laws_toPat (a : DPat) : goal EE use_laws_toPat Go.Proofs.Tryz.f119 con_laws_toPat ann_laws_toPat a = (sizeArgS a.Args ≤ (4294967296 : Nat) ∧ Lf [DV.agg [Cell.lit (Value.string a.Kind), Cell.sl Cd.eArg a.Args, Cell.lit (Value.bool a.Not)]] [DV.agg [Cell.lit (Value.string a.Kind), Cell.sl Cd.eArg a.Args, Cell.lit (Value.bool a.Not)]]) := by kernel_rfl
theorem ok_laws_toPat : Holds EE (119, con_laws_toPat) := by
  refine holds_of EE_ok Go.Proofs.Tryz.func119 con_laws_toPat (by kernel_rfl) use_laws_toPat (all_cons ok_laws_toArgS all_nil) ann_laws_toPat (fun (a : DPat) hp hb => ?_)
  have hb_a : BdDV (U := UU) (.agg [.lit (.string a.Kind), .sl .lArg a.Args, .lit (.bool a.Not)]) := hb _ (List.mem_cons_self)
  have hl_a_Kind : a.Kind.size ≤ 9223372036854775807 := Bd.str (hb_a _ (by simp))
  have hl_a_Args : a.Args.length ≤ 9223372036854775807 := Bd.len (U := UU) (τ := .lArg) (xs := a.Args) (hb_a _ (by simp))
  have hp0 : sizePat a ≤ 4294967296 := hp _ (List.mem_cons_self)
  clear hp hb
  rw [vc_laws_toPat a]
  simp only [sizePat] at hp0
  repeat' (first | exact Lf_rfl _ | (refine And.intro (by omega) ?_))
def con_laws_eqPat : Con UU where
  α := DPat × DPat
  md := [.ro, .ro]
  of := fun | [.agg [.lit (.string a0), .sl .eArg a1, .lit (.bool a2)], .agg [.lit (.string a3), .sl .eArg a4, .lit (.bool a5)]] => some (⟨a0, a1, a2⟩, ⟨a3, a4, a5⟩) | _ => none
  ds := fun (a, b) => [.agg [.lit (.string a.Kind), .sl .eArg a.Args, .lit (.bool a.Not)], .agg [.lit (.string b.Kind), .sl .eArg b.Args, .lit (.bool b.Not)]]
  pre := fun (a, b) => []
  res := fun (a, b) => ⟨[.one (.lit (.bool (decide (a = b))))], true, []⟩
  law := by intro l x h; (try simp only at h); split at h <;> cases h; rfl
def ann_laws_eqPat : con_laws_eqPat.α → Nat → Option (Ann UU) := fun (a, b) => annL []
def use_laws_eqPat : List (FuncId × Con UU) := [(145, con_laws_eqArgS)]
theorem vc_laws_eqPat (a : DPat) (b : DPat) : goal EE use_laws_eqPat Go.Proofs.Tryz.f127 con_laws_eqPat ann_laws_eqPat (a, b) = (bif !ByteArray.toList a.Kind == ByteArray.toList b.Kind then Lf [DV.one (Cell.lit (Value.bool false))] [DV.one (Cell.lit (Value.bool (decide (a = b))))] else bif !decide (a.Args = b.Args) then Lf [DV.one (Cell.lit (Value.bool false))] [DV.one (Cell.lit (Value.bool (decide (a = b))))] else bif !a.Not == b.Not then Lf [DV.one (Cell.lit (Value.bool false))] [DV.one (Cell.lit (Value.bool (decide (a = b))))] else Lf [DV.one (Cell.lit (Value.bool true))] [DV.one (Cell.lit (Value.bool (decide (a = b))))]) := by kernel_rfl
theorem ok_laws_eqPat : Holds EE (127, con_laws_eqPat) := by
  refine holds_of EE_ok Go.Proofs.Tryz.func127 con_laws_eqPat (by kernel_rfl) use_laws_eqPat (all_cons ok_laws_eqArgS all_nil) ann_laws_eqPat (fun x hp hb => ?_)
  obtain ⟨a, b⟩ := x
  have hb_a : BdDV (U := UU) (.agg [.lit (.string a.Kind), .sl .eArg a.Args, .lit (.bool a.Not)]) := hb _ (List.mem_cons_self)
  have hl_a_Kind : a.Kind.size ≤ 9223372036854775807 := Bd.str (hb_a _ (by simp))
  have hl_a_Args : a.Args.length ≤ 9223372036854775807 := Bd.len (U := UU) (τ := .eArg) (xs := a.Args) (hb_a _ (by simp))
  have hb_b : BdDV (U := UU) (.agg [.lit (.string b.Kind), .sl .eArg b.Args, .lit (.bool b.Not)]) := hb _ (List.mem_cons_of_mem _ (List.mem_cons_self))
  have hl_b_Kind : b.Kind.size ≤ 9223372036854775807 := Bd.str (hb_b _ (by simp))
  have hl_b_Args : b.Args.length ≤ 9223372036854775807 := Bd.len (U := UU) (τ := .eArg) (xs := b.Args) (hb_b _ (by simp))
  clear hp hb
  rw [vc_laws_eqPat a b]
  obtain ⟨aKind, aArgs, aNot⟩ := a
  obtain ⟨bKind, bArgs, bNot⟩ := b
  repeat' (apply if_cond <;> intro _)
  all_goals (first | apply Lf_t | apply Lf_f) <;> simp_all
def con_laws_szPatS : Con UU where
  α := (List DPat) × Int
  md := [.ro, .ro]
  of := fun | [.one (.sl .lPat a0), .one (.lit (.int .i64 a1))] => some (a0, a1) | _ => none
  ds := fun (a, left) => [.one (.sl .lPat a), .one (.lit (.int .i64 left))]
  pre := fun (a, left) => [0 ≤ left]
  res := fun (a, left) => ⟨[.one (.lit (.int .i64 (szr left (sizePatS a))))], true, []⟩
  law := by intro l x h; (try simp only at h); split at h <;> cases h; rfl
def I_laws_szPatS_5 (a : (List DPat)) (left : Int) : Int × Int × Unit → Prop := fun (lf, i, _) => 0 ≤ lf ∧ 0 ≤ i ∧ i ≤ a.length ∧ szr lf ((a.drop i.toNat).map sizePat).sum = szr left (sizePatS a)
def μ_laws_szPatS_5 (a : (List DPat)) (left : Int) : Int × Int × Unit → Nat := fun (lf, i, _) => a.length - i.toNat
def ann_laws_szPatS : con_laws_szPatS.α → Nat → Option (Ann UU) := fun (a, left) => annL [(5, annOf [.slot 1 (1, 1024) (.lit (.int .i64)), .slot 5 (5, 1024) (.lit (.int .i64))] (fun _ => I_laws_szPatS_5 a left) (μ_laws_szPatS_5 a left))]
def use_laws_szPatS : List (FuncId × Con UU) := [(111, con_laws_szPat)]
theorem vc_laws_szPatS (a : (List DPat)) (left : Int) : goal EE use_laws_szPatS Go.Proofs.Tryz.f87 con_laws_szPatS ann_laws_szPatS (a, left) = (let x0 : Int := IntKind.wrap IntKind.i64 (left - (↑(List.length a) : Int));
bif decide (x0 < (0 : Int)) then Lf [DV.one (Cell.lit (Value.int IntKind.i64 (-1 : Int)))] [DV.one (Cell.lit (Value.int IntKind.i64 (szr left (sizePatS a))))]
else
  I_laws_szPatS_5 a left (x0, (0 : Int), PUnit.unit) ∧
    ∀ (y : Int × Int × PUnit),
      let x1 : Int := szr y.1 (sizePat (List.getD a (Int.toNat y.2.1) zPat));
      I_laws_szPatS_5 a left y → bif decide (y.2.1 < (↑(List.length a) : Int)) then (0 : Int) ≤ y.2.1 ∧ Int.toNat y.2.1 < List.length a ∧ (0 : Int) ≤ y.1 ∧ bif decide (x1 < (0 : Int)) then Lf [DV.one (Cell.lit (Value.int IntKind.i64 (-1 : Int)))] [DV.one (Cell.lit (Value.int IntKind.i64 (szr left (sizePatS a))))] else I_laws_szPatS_5 a left (x1, IntKind.wrap IntKind.i64 (y.2.1 + (1 : Int)), PUnit.unit) ∧ μ_laws_szPatS_5 a left (x1, IntKind.wrap IntKind.i64 (y.2.1 + (1 : Int)), PUnit.unit) < μ_laws_szPatS_5 a left y else Lf [DV.one (Cell.lit (Value.int IntKind.i64 y.1))] [DV.one (Cell.lit (Value.int IntKind.i64 (szr left (sizePatS a))))]) := by kernel_rfl
theorem ok_laws_szPatS : Holds EE (87, con_laws_szPatS) := by
  refine holds_of EE_ok Go.Proofs.Tryz.func87 con_laws_szPatS (by kernel_rfl) use_laws_szPatS (all_cons ok_laws_szPat all_nil) ann_laws_szPatS (fun x hp hb => ?_)
  obtain ⟨a, left⟩ := x
  have hb_a : BdDV (U := UU) (.one (.sl .lPat a)) := hb _ (List.mem_cons_self)
  have hl_a : a.length ≤ 9223372036854775807 := Bd.len hb_a
  have hb_left : BdDV (U := UU) (.one (.lit (.int .i64 left))) := hb _ (List.mem_cons_of_mem _ (List.mem_cons_self))
  have hl_left := Bd.i64 hb_left
  have hp0 : 0 ≤ left := hp _ (List.mem_cons_self)
  clear hp hb
  rw [vc_laws_szPatS a left]
  dsimp only
  rw [wrap_i64 (by omega) (by omega)]
  refine if_cond (fun h => Lf_i ?_) (fun h => ⟨?_, ?_⟩)
  · simp [szr, sizePatS] at *; omega
  · simp only [I_laws_szPatS_5, sizePatS]; simp at h; have h' : 0 ≤ left - a.length := by omega
    exact ⟨h', by omega, by omega, szr_sub h'⟩
  rintro ⟨lf, i, ⟨⟩⟩ ⟨h0, h1, h2, hR⟩
  refine if_cond (fun hc => ?_) (fun hc => ?_)
  · have hc : i < a.length := by simpa using hc
    rw [drop_step a zPat h1 hc, List.map_cons, List.sum_cons] at hR
    simp only at *
    rw [wrap_i64 (by omega) (by omega)]
    generalize List.getD a i.toNat zPat = x at *
    refine ⟨by omega, by omega, by omega, if_cond (fun h => Lf_i ?_) (fun h => ⟨⟨?_, by omega, by omega, ?_⟩, ?_⟩)⟩
    · rw [← hR]; exact (szr_bad (of_decide_eq_true h)).symm
    · simp at h; omega
    · rw [← hR]; simp at h; exact szr_szr h
    · simp only [μ_laws_szPatS_5]; omega
  · have hc : a.length ≤ i := by simpa using hc
    rw [drop_end a hc] at hR
    apply Lf_i; rw [← hR]; simp [szr, h0]
def con_laws_toPatS : Con UU where
  α := (List DPat)
  md := [.ro]
  of := fun | [.one (.sl .lPat a0)] => some a0 | _ => none
  ds := fun a => [.one (.sl .lPat a)]
  pre := fun a => [sizePatS a ≤ 4294967296]
  res := fun a => ⟨[.one (.sl .ePat a)], true, []⟩
  law := by intro l x h; (try simp only at h); split at h <;> cases h; rfl
def I_laws_toPatS_3 (a : (List DPat)) : List DPat × Int × Unit → Prop := fun (out, i, _) => 0 ≤ i ∧ i ≤ a.length ∧ out = a.take i.toNat ++ List.replicate (a.length - i.toNat) zPat
def μ_laws_toPatS_3 (a : (List DPat)) : List DPat × Int × Unit → Nat := fun (out, i, _) => a.length - i.toNat
def ann_laws_toPatS : con_laws_toPatS.α → Nat → Option (Ann UU) := fun a => annL [(3, annOf [.slot 3 (3, 1024) (.own .ePat true), .slot 4 (4, 1024) (.lit (.int .i64))] (fun _ => I_laws_toPatS_3 a) (μ_laws_toPatS_3 a))]
def use_laws_toPatS : List (FuncId × Con UU) := [(119, con_laws_toPat)]
theorem vc_laws_toPatS (a : (List DPat)) : goal EE use_laws_toPatS Go.Proofs.Tryz.f95 con_laws_toPatS ann_laws_toPatS a = (let x0 : Int := (↑(List.length a) : Int);
(0 : Int) ≤ x0 ∧
  x0 = x0 ∧
    x0 ≤ (4294967296 : Int) ∧
      I_laws_toPatS_3 a (List.replicate (Int.toNat x0) zPat, (0 : Int), PUnit.unit) ∧
        ∀ (y : List DPat × Int × PUnit),
          let x1 : Nat := Int.toNat y.2.1;
          I_laws_toPatS_3 a y → bif decide (y.2.1 < x0) then (0 : Int) ≤ y.2.1 ∧ x1 < List.length a ∧ sizePat (List.getD a x1 zPat) ≤ (4294967296 : Nat) ∧ (0 : Int) ≤ y.2.1 ∧ x1 < List.length y.1 ∧ x1 < List.length y.1 ∧ I_laws_toPatS_3 a (List.set y.1 x1 (List.getD a x1 zPat), IntKind.wrap IntKind.i64 (y.2.1 + (1 : Int)), PUnit.unit) ∧ μ_laws_toPatS_3 a (List.set y.1 x1 (List.getD a x1 zPat), IntKind.wrap IntKind.i64 (y.2.1 + (1 : Int)), PUnit.unit) < μ_laws_toPatS_3 a y else Lf [DV.one (Cell.sl Cd.ePat y.1)] [DV.one (Cell.sl Cd.ePat a)]) := by kernel_rfl
theorem ok_laws_toPatS : Holds EE (95, con_laws_toPatS) := by
  refine holds_of EE_ok Go.Proofs.Tryz.func95 con_laws_toPatS (by kernel_rfl) use_laws_toPatS (all_cons ok_laws_toPat all_nil) ann_laws_toPatS (fun (a : (List DPat)) hp hb => ?_)
  have hb_a : BdDV (U := UU) (.one (.sl .lPat a)) := hb _ (List.mem_cons_self)
  have hl_a : a.length ≤ 9223372036854775807 := Bd.len hb_a
  have hp0 : sizePatS a ≤ 4294967296 := hp _ (List.mem_cons_self)
  clear hp hb
  rw [vc_laws_toPatS a]
  dsimp only
  have hlen : a.length ≤ 4294967296 := by simp only [sizePatS] at hp0; omega
  refine ⟨by omega, rfl, by omega, ?_, ?_⟩
  · simp [I_laws_toPatS_3]
  rintro ⟨out, i, ⟨⟩⟩ ⟨h1, h2, rfl⟩
  simp only at *
  refine if_cond (fun hc => ?_) (fun hc => ?_)
  · have hc : i < a.length := by simpa using hc
    rw [wrap_i64 (by omega) (by omega), set_fill a zPat h1 hc]
    exact ⟨h1, by omega, by exact Nat.le_trans (sum_getD_le sizePat a zPat h1 hc) (by simp only [sizePatS] at hp0; omega), h1, by simp; omega, by simp; omega, ⟨by omega, by omega, rfl⟩, by simp only [μ_laws_toPatS_3]; omega⟩
  · have hc : a.length ≤ i := by simpa using hc
    have e : i.toNat = a.length := by omega
    rw [e]; simp; exact Lf_rfl _
def con_laws_eqPatS : Con UU where
  α := (List DPat) × (List DPat)
  md := [.ro, .ro]
  of := fun | [.one (.sl .ePat a0), .one (.sl .ePat a1)] => some (a0, a1) | _ => none
  ds := fun (a, b) => [.one (.sl .ePat a), .one (.sl .ePat b)]
  pre := fun (a, b) => []
  res := fun (a, b) => ⟨[.one (.lit (.bool (decide (a = b))))], true, []⟩
  law := by intro l x h; (try simp only at h); split at h <;> cases h; rfl
def I_laws_eqPatS_4 (a : (List DPat)) (b : (List DPat)) : Int × Unit → Prop := fun (i, _) => 0 ≤ i ∧ i ≤ a.length ∧ a.length = b.length ∧ (a.drop i.toNat = b.drop i.toNat ↔ a = b)
def μ_laws_eqPatS_4 (a : (List DPat)) (b : (List DPat)) : Int × Unit → Nat := fun (i, _) => a.length - i.toNat
def ann_laws_eqPatS : con_laws_eqPatS.α → Nat → Option (Ann UU) := fun (a, b) => annL [(4, annOf [.slot 5 (5, 1024) (.lit (.int .i64))] (fun _ => I_laws_eqPatS_4 a b) (μ_laws_eqPatS_4 a b))]
def use_laws_eqPatS : List (FuncId × Con UU) := [(127, con_laws_eqPat)]
theorem vc_laws_eqPatS (a : (List DPat)) (b : (List DPat)) : goal EE use_laws_eqPatS Go.Proofs.Tryz.f103 con_laws_eqPatS ann_laws_eqPatS (a, b) = (bif (↑(List.length a) : Int) != (↑(List.length b) : Int) then Lf [DV.one (Cell.lit (Value.bool false))] [DV.one (Cell.lit (Value.bool (decide (a = b))))] else I_laws_eqPatS_4 a b ((0 : Int), PUnit.unit) ∧ ∀ (y : Int × PUnit), I_laws_eqPatS_4 a b y → bif decide (y.1 < (↑(List.length a) : Int)) then (0 : Int) ≤ y.1 ∧ Int.toNat y.1 < List.length a ∧ (0 : Int) ≤ y.1 ∧ Int.toNat y.1 < List.length b ∧ bif !decide (List.getD a (Int.toNat y.1) zPat = List.getD b (Int.toNat y.1) zPat) then Lf [DV.one (Cell.lit (Value.bool false))] [DV.one (Cell.lit (Value.bool (decide (a = b))))] else I_laws_eqPatS_4 a b (IntKind.wrap IntKind.i64 (y.1 + (1 : Int)), PUnit.unit) ∧ μ_laws_eqPatS_4 a b (IntKind.wrap IntKind.i64 (y.1 + (1 : Int)), PUnit.unit) < μ_laws_eqPatS_4 a b y else Lf [DV.one (Cell.lit (Value.bool true))] [DV.one (Cell.lit (Value.bool (decide (a = b))))]) := by kernel_rfl
theorem ok_laws_eqPatS : Holds EE (103, con_laws_eqPatS) := by
  refine holds_of EE_ok Go.Proofs.Tryz.func103 con_laws_eqPatS (by kernel_rfl) use_laws_eqPatS (all_cons ok_laws_eqPat all_nil) ann_laws_eqPatS (fun x hp hb => ?_)
  obtain ⟨a, b⟩ := x
  have hb_a : BdDV (U := UU) (.one (.sl .ePat a)) := hb _ (List.mem_cons_self)
  have hl_a : a.length ≤ 9223372036854775807 := Bd.len hb_a
  have hb_b : BdDV (U := UU) (.one (.sl .ePat b)) := hb _ (List.mem_cons_of_mem _ (List.mem_cons_self))
  have hl_b : b.length ≤ 9223372036854775807 := Bd.len hb_b
  clear hp hb
  rw [vc_laws_eqPatS a b]
  refine if_cond (fun h => Lf_f ?_) (fun h => ⟨?_, ?_⟩)
  · rintro rfl; simp at h
  · simp [I_laws_eqPatS_4] at *; omega
  rintro ⟨i, ⟨⟩⟩ ⟨h1, h2, h3, hR⟩
  simp only at *
  refine if_cond (fun hc => ?_) (fun hc => ?_)
  · have hc : i < a.length := by simpa using hc
    rw [drop_step a zPat h1 hc, drop_step b zPat h1 (by omega)] at hR
    rw [wrap_i64 (by omega) (by omega)]
    refine ⟨by omega, by omega, by omega, by omega, if_cond (fun h => Lf_f ?_) (fun h => ⟨⟨by omega, by omega, h3, ?_⟩, ?_⟩)⟩
    · rw [← hR]; simp at h; simp [h]
    · rw [← hR]; simp at h; simp [h]
    · simp only [μ_laws_eqPatS_4]; omega
  · have hc : a.length ≤ i := by simpa using hc
    rw [drop_end a hc, drop_end b (by omega)] at hR
    exact Lf_t (hR.1 rfl)
def con_laws_szBind : Con UU where
  α := DBind × Int
  md := [.ro, .ro]
  of := fun | [.agg [.lit (.string a0), .lit (.int .i64 a1), .lit (.int .i64 a2), .lit (.string a3)], .one (.lit (.int .i64 a4))] => some (⟨a0, ⟨a1, a2, a3⟩⟩, a4) | _ => none
  ds := fun (a, left) => [.agg [.lit (.string a.Name), .lit (.int .i64 a.V.K), .lit (.int .i64 a.V.N), .lit (.string a.V.S)], .one (.lit (.int .i64 left))]
  pre := fun (a, left) => [0 ≤ left]
  res := fun (a, left) => ⟨[.one (.lit (.int .i64 (szr left (sizeBind a))))], true, []⟩
  law := by intro l x h; (try simp only at h); split at h <;> cases h; rfl
def ann_laws_szBind : con_laws_szBind.α → Nat → Option (Ann UU) := fun (a, left) => annL []
def use_laws_szBind : List (FuncId × Con UU) := [(118, con_laws_szVal)]
theorem vc_laws_szBind (a : DBind) (left : Int) : goal EE use_laws_szBind Go.Proofs.Tryz.f138 con_laws_szBind ann_laws_szBind (a, left) = (let x0 : Int := IntKind.wrap IntKind.i64 (left - (↑(ByteArray.size a.Name) : Int));
bif decide (x0 < (0 : Int)) then Lf [DV.one (Cell.lit (Value.int IntKind.i64 (-1 : Int)))] [DV.one (Cell.lit (Value.int IntKind.i64 (szr left (sizeBind a))))] else (0 : Int) ≤ x0 ∧ bif decide (szr x0 (sizeVal a.V) < (0 : Int)) then Lf [DV.one (Cell.lit (Value.int IntKind.i64 (-1 : Int)))] [DV.one (Cell.lit (Value.int IntKind.i64 (szr left (sizeBind a))))] else Lf [DV.one (Cell.lit (Value.int IntKind.i64 (szr x0 (sizeVal a.V))))] [DV.one (Cell.lit (Value.int IntKind.i64 (szr left (sizeBind a))))]) := by kernel_rfl
theorem ok_laws_szBind : Holds EE (138, con_laws_szBind) := by
  refine holds_of EE_ok Go.Proofs.Tryz.func138 con_laws_szBind (by kernel_rfl) use_laws_szBind (all_cons ok_laws_szVal all_nil) ann_laws_szBind (fun x hp hb => ?_)
  obtain ⟨a, left⟩ := x
  have hb_a : BdDV (U := UU) (.agg [.lit (.string a.Name), .lit (.int .i64 a.V.K), .lit (.int .i64 a.V.N), .lit (.string a.V.S)]) := hb _ (List.mem_cons_self)
  have hl_a_Name : a.Name.size ≤ 9223372036854775807 := Bd.str (hb_a _ (by simp))
  have hl_a_V_S : a.V.S.size ≤ 9223372036854775807 := Bd.str (hb_a _ (by simp))
  have hb_left : BdDV (U := UU) (.one (.lit (.int .i64 left))) := hb _ (List.mem_cons_of_mem _ (List.mem_cons_self))
  have hl_left := Bd.i64 hb_left
  have hp0 : 0 ≤ left := hp _ (List.mem_cons_self)
  clear hp hb
  rw [vc_laws_szBind a left]
  dsimp only
  rw [wrap_i64 (by omega) (by omega)]
  refine if_cond (fun h => Lf_i (szr_bad' ?_)) (fun h => ?_)
  · have h := of_decide_eq_true h; simp only [sizeBind]; omega
  have h0 := of_decide_eq_false h
  refine ⟨by omega, if_cond (fun h => Lf_i (szr_bad' ?_)) (fun h => ?_)⟩
  · have h := szr_neg h; simp only [sizeBind]; omega
  obtain ⟨e1, h1⟩ := szr_pos h
  rw [e1]
  exact Lf_i (by rw [← szr_ok' (by simp only [sizeBind]; omega)]; simp only [sizeBind]; try omega)
def con_laws_toBind : Con UU where
  α := DBind
  md := [.ro]
  of := fun | [.agg [.lit (.string a0), .lit (.int .i64 a1), .lit (.int .i64 a2), .lit (.string a3)]] => some ⟨a0, ⟨a1, a2, a3⟩⟩ | _ => none
  ds := fun a => [.agg [.lit (.string a.Name), .lit (.int .i64 a.V.K), .lit (.int .i64 a.V.N), .lit (.string a.V.S)]]
  pre := fun a => [sizeBind a ≤ 4294967296]
  res := fun a => ⟨[.agg [.lit (.string a.Name), .lit (.int .i64 a.V.K), .lit (.int .i64 a.V.N), .lit (.string a.V.S)]], true, []⟩
  law := by intro l x h; (try simp only at h); split at h <;> cases h; rfl
def ann_laws_toBind : con_laws_toBind.α → Nat → Option (Ann UU) := fun a => annL []
def use_laws_toBind : List (FuncId × Con UU) := [(126, con_laws_toVal)]
theorem vc_laws_toBind (a : DBind) : goal EE use_laws_toBind Go.Proofs.Tryz.f143 con_laws_toBind ann_laws_toBind a = (sizeVal a.V ≤ (4294967296 : Nat) ∧ Lf [DV.agg [Cell.lit (Value.string a.Name), Cell.lit (Value.int IntKind.i64 a.V.K), Cell.lit (Value.int IntKind.i64 a.V.N), Cell.lit (Value.string a.V.S)]] [DV.agg [Cell.lit (Value.string a.Name), Cell.lit (Value.int IntKind.i64 a.V.K), Cell.lit (Value.int IntKind.i64 a.V.N), Cell.lit (Value.string a.V.S)]]) := by kernel_rfl
theorem ok_laws_toBind : Holds EE (143, con_laws_toBind) := by
  refine holds_of EE_ok Go.Proofs.Tryz.func143 con_laws_toBind (by kernel_rfl) use_laws_toBind (all_cons ok_laws_toVal all_nil) ann_laws_toBind (fun (a : DBind) hp hb => ?_)
  have hb_a : BdDV (U := UU) (.agg [.lit (.string a.Name), .lit (.int .i64 a.V.K), .lit (.int .i64 a.V.N), .lit (.string a.V.S)]) := hb _ (List.mem_cons_self)
  have hl_a_Name : a.Name.size ≤ 9223372036854775807 := Bd.str (hb_a _ (by simp))
  have hl_a_V_S : a.V.S.size ≤ 9223372036854775807 := Bd.str (hb_a _ (by simp))
  have hp0 : sizeBind a ≤ 4294967296 := hp _ (List.mem_cons_self)
  clear hp hb
  rw [vc_laws_toBind a]
  simp only [sizeBind] at hp0
  repeat' (first | exact Lf_rfl _ | (refine And.intro (by omega) ?_))
def con_laws_eqBind : Con UU where
  α := DBind × DBind
  md := [.ro, .ro]
  of := fun | [.agg [.lit (.string a0), .lit (.int .i64 a1), .lit (.int .i64 a2), .lit (.string a3)], .agg [.lit (.string a4), .lit (.int .i64 a5), .lit (.int .i64 a6), .lit (.string a7)]] => some (⟨a0, ⟨a1, a2, a3⟩⟩, ⟨a4, ⟨a5, a6, a7⟩⟩) | _ => none
  ds := fun (a, b) => [.agg [.lit (.string a.Name), .lit (.int .i64 a.V.K), .lit (.int .i64 a.V.N), .lit (.string a.V.S)], .agg [.lit (.string b.Name), .lit (.int .i64 b.V.K), .lit (.int .i64 b.V.N), .lit (.string b.V.S)]]
  pre := fun (a, b) => []
  res := fun (a, b) => ⟨[.one (.lit (.bool (decide (a = b))))], true, []⟩
  law := by intro l x h; (try simp only at h); split at h <;> cases h; rfl
def ann_laws_eqBind : con_laws_eqBind.α → Nat → Option (Ann UU) := fun (a, b) => annL []
def use_laws_eqBind : List (FuncId × Con UU) := [(134, con_laws_eqVal)]
theorem vc_laws_eqBind (a : DBind) (b : DBind) : goal EE use_laws_eqBind Go.Proofs.Tryz.f148 con_laws_eqBind ann_laws_eqBind (a, b) = (bif !ByteArray.toList a.Name == ByteArray.toList b.Name then Lf [DV.one (Cell.lit (Value.bool false))] [DV.one (Cell.lit (Value.bool (decide (a = b))))] else bif !decide (a.V = b.V) then Lf [DV.one (Cell.lit (Value.bool false))] [DV.one (Cell.lit (Value.bool (decide (a = b))))] else Lf [DV.one (Cell.lit (Value.bool true))] [DV.one (Cell.lit (Value.bool (decide (a = b))))]) := by kernel_rfl
theorem ok_laws_eqBind : Holds EE (148, con_laws_eqBind) := by
  refine holds_of EE_ok Go.Proofs.Tryz.func148 con_laws_eqBind (by kernel_rfl) use_laws_eqBind (all_cons ok_laws_eqVal all_nil) ann_laws_eqBind (fun x hp hb => ?_)
  obtain ⟨a, b⟩ := x
  have hb_a : BdDV (U := UU) (.agg [.lit (.string a.Name), .lit (.int .i64 a.V.K), .lit (.int .i64 a.V.N), .lit (.string a.V.S)]) := hb _ (List.mem_cons_self)
  have hl_a_Name : a.Name.size ≤ 9223372036854775807 := Bd.str (hb_a _ (by simp))
  have hl_a_V_S : a.V.S.size ≤ 9223372036854775807 := Bd.str (hb_a _ (by simp))
  have hb_b : BdDV (U := UU) (.agg [.lit (.string b.Name), .lit (.int .i64 b.V.K), .lit (.int .i64 b.V.N), .lit (.string b.V.S)]) := hb _ (List.mem_cons_of_mem _ (List.mem_cons_self))
  have hl_b_Name : b.Name.size ≤ 9223372036854775807 := Bd.str (hb_b _ (by simp))
  have hl_b_V_S : b.V.S.size ≤ 9223372036854775807 := Bd.str (hb_b _ (by simp))
  clear hp hb
  rw [vc_laws_eqBind a b]
  obtain ⟨aName, aV⟩ := a
  obtain ⟨bName, bV⟩ := b
  repeat' (apply if_cond <;> intro _)
  all_goals (first | apply Lf_t | apply Lf_f) <;> simp_all
def con_laws_szBindS : Con UU where
  α := (List DBind) × Int
  md := [.ro, .ro]
  of := fun | [.one (.sl .lBind a0), .one (.lit (.int .i64 a1))] => some (a0, a1) | _ => none
  ds := fun (a, left) => [.one (.sl .lBind a), .one (.lit (.int .i64 left))]
  pre := fun (a, left) => [0 ≤ left]
  res := fun (a, left) => ⟨[.one (.lit (.int .i64 (szr left (sizeBindS a))))], true, []⟩
  law := by intro l x h; (try simp only at h); split at h <;> cases h; rfl
def I_laws_szBindS_5 (a : (List DBind)) (left : Int) : Int × Int × Unit → Prop := fun (lf, i, _) => 0 ≤ lf ∧ 0 ≤ i ∧ i ≤ a.length ∧ szr lf ((a.drop i.toNat).map sizeBind).sum = szr left (sizeBindS a)
def μ_laws_szBindS_5 (a : (List DBind)) (left : Int) : Int × Int × Unit → Nat := fun (lf, i, _) => a.length - i.toNat
def ann_laws_szBindS : con_laws_szBindS.α → Nat → Option (Ann UU) := fun (a, left) => annL [(5, annOf [.slot 1 (1, 1024) (.lit (.int .i64)), .slot 5 (5, 1024) (.lit (.int .i64))] (fun _ => I_laws_szBindS_5 a left) (μ_laws_szBindS_5 a left))]
def use_laws_szBindS : List (FuncId × Con UU) := [(138, con_laws_szBind)]
theorem vc_laws_szBindS (a : (List DBind)) (left : Int) : goal EE use_laws_szBindS Go.Proofs.Tryz.f116 con_laws_szBindS ann_laws_szBindS (a, left) = (let x0 : Int := IntKind.wrap IntKind.i64 (left - (↑(List.length a) : Int));
bif decide (x0 < (0 : Int)) then Lf [DV.one (Cell.lit (Value.int IntKind.i64 (-1 : Int)))] [DV.one (Cell.lit (Value.int IntKind.i64 (szr left (sizeBindS a))))]
else
  I_laws_szBindS_5 a left (x0, (0 : Int), PUnit.unit) ∧
    ∀ (y : Int × Int × PUnit),
      let x1 : Int := szr y.1 (sizeBind (List.getD a (Int.toNat y.2.1) zBind));
      I_laws_szBindS_5 a left y → bif decide (y.2.1 < (↑(List.length a) : Int)) then (0 : Int) ≤ y.2.1 ∧ Int.toNat y.2.1 < List.length a ∧ (0 : Int) ≤ y.1 ∧ bif decide (x1 < (0 : Int)) then Lf [DV.one (Cell.lit (Value.int IntKind.i64 (-1 : Int)))] [DV.one (Cell.lit (Value.int IntKind.i64 (szr left (sizeBindS a))))] else I_laws_szBindS_5 a left (x1, IntKind.wrap IntKind.i64 (y.2.1 + (1 : Int)), PUnit.unit) ∧ μ_laws_szBindS_5 a left (x1, IntKind.wrap IntKind.i64 (y.2.1 + (1 : Int)), PUnit.unit) < μ_laws_szBindS_5 a left y else Lf [DV.one (Cell.lit (Value.int IntKind.i64 y.1))] [DV.one (Cell.lit (Value.int IntKind.i64 (szr left (sizeBindS a))))]) := by kernel_rfl
theorem ok_laws_szBindS : Holds EE (116, con_laws_szBindS) := by
  refine holds_of EE_ok Go.Proofs.Tryz.func116 con_laws_szBindS (by kernel_rfl) use_laws_szBindS (all_cons ok_laws_szBind all_nil) ann_laws_szBindS (fun x hp hb => ?_)
  obtain ⟨a, left⟩ := x
  have hb_a : BdDV (U := UU) (.one (.sl .lBind a)) := hb _ (List.mem_cons_self)
  have hl_a : a.length ≤ 9223372036854775807 := Bd.len hb_a
  have hb_left : BdDV (U := UU) (.one (.lit (.int .i64 left))) := hb _ (List.mem_cons_of_mem _ (List.mem_cons_self))
  have hl_left := Bd.i64 hb_left
  have hp0 : 0 ≤ left := hp _ (List.mem_cons_self)
  clear hp hb
  rw [vc_laws_szBindS a left]
  dsimp only
  rw [wrap_i64 (by omega) (by omega)]
  refine if_cond (fun h => Lf_i ?_) (fun h => ⟨?_, ?_⟩)
  · simp [szr, sizeBindS] at *; omega
  · simp only [I_laws_szBindS_5, sizeBindS]; simp at h; have h' : 0 ≤ left - a.length := by omega
    exact ⟨h', by omega, by omega, szr_sub h'⟩
  rintro ⟨lf, i, ⟨⟩⟩ ⟨h0, h1, h2, hR⟩
  refine if_cond (fun hc => ?_) (fun hc => ?_)
  · have hc : i < a.length := by simpa using hc
    rw [drop_step a zBind h1 hc, List.map_cons, List.sum_cons] at hR
    simp only at *
    rw [wrap_i64 (by omega) (by omega)]
    generalize List.getD a i.toNat zBind = x at *
    refine ⟨by omega, by omega, by omega, if_cond (fun h => Lf_i ?_) (fun h => ⟨⟨?_, by omega, by omega, ?_⟩, ?_⟩)⟩
    · rw [← hR]; exact (szr_bad (of_decide_eq_true h)).symm
    · simp at h; omega
    · rw [← hR]; simp at h; exact szr_szr h
    · simp only [μ_laws_szBindS_5]; omega
  · have hc : a.length ≤ i := by simpa using hc
    rw [drop_end a hc] at hR
    apply Lf_i; rw [← hR]; simp [szr, h0]
def con_laws_toBindS : Con UU where
  α := (List DBind)
  md := [.ro]
  of := fun | [.one (.sl .lBind a0)] => some a0 | _ => none
  ds := fun a => [.one (.sl .lBind a)]
  pre := fun a => [sizeBindS a ≤ 4294967296]
  res := fun a => ⟨[.one (.sl .eBind a)], true, []⟩
  law := by intro l x h; (try simp only at h); split at h <;> cases h; rfl
def I_laws_toBindS_3 (a : (List DBind)) : List DBind × Int × Unit → Prop := fun (out, i, _) => 0 ≤ i ∧ i ≤ a.length ∧ out = a.take i.toNat ++ List.replicate (a.length - i.toNat) zBind
def μ_laws_toBindS_3 (a : (List DBind)) : List DBind × Int × Unit → Nat := fun (out, i, _) => a.length - i.toNat
def ann_laws_toBindS : con_laws_toBindS.α → Nat → Option (Ann UU) := fun a => annL [(3, annOf [.slot 3 (3, 1024) (.own .eBind true), .slot 4 (4, 1024) (.lit (.int .i64))] (fun _ => I_laws_toBindS_3 a) (μ_laws_toBindS_3 a))]
def use_laws_toBindS : List (FuncId × Con UU) := [(143, con_laws_toBind)]
theorem vc_laws_toBindS (a : (List DBind)) : goal EE use_laws_toBindS Go.Proofs.Tryz.f124 con_laws_toBindS ann_laws_toBindS a = (let x0 : Int := (↑(List.length a) : Int);
(0 : Int) ≤ x0 ∧
  x0 = x0 ∧
    x0 ≤ (4294967296 : Int) ∧
      I_laws_toBindS_3 a (List.replicate (Int.toNat x0) zBind, (0 : Int), PUnit.unit) ∧
        ∀ (y : List DBind × Int × PUnit),
          let x1 : Nat := Int.toNat y.2.1;
          I_laws_toBindS_3 a y → bif decide (y.2.1 < x0) then (0 : Int) ≤ y.2.1 ∧ x1 < List.length a ∧ sizeBind (List.getD a x1 zBind) ≤ (4294967296 : Nat) ∧ (0 : Int) ≤ y.2.1 ∧ x1 < List.length y.1 ∧ x1 < List.length y.1 ∧ I_laws_toBindS_3 a (List.set y.1 x1 (List.getD a x1 zBind), IntKind.wrap IntKind.i64 (y.2.1 + (1 : Int)), PUnit.unit) ∧ μ_laws_toBindS_3 a (List.set y.1 x1 (List.getD a x1 zBind), IntKind.wrap IntKind.i64 (y.2.1 + (1 : Int)), PUnit.unit) < μ_laws_toBindS_3 a y else Lf [DV.one (Cell.sl Cd.eBind y.1)] [DV.one (Cell.sl Cd.eBind a)]) := by kernel_rfl
theorem ok_laws_toBindS : Holds EE (124, con_laws_toBindS) := by
  refine holds_of EE_ok Go.Proofs.Tryz.func124 con_laws_toBindS (by kernel_rfl) use_laws_toBindS (all_cons ok_laws_toBind all_nil) ann_laws_toBindS (fun (a : (List DBind)) hp hb => ?_)
  have hb_a : BdDV (U := UU) (.one (.sl .lBind a)) := hb _ (List.mem_cons_self)
  have hl_a : a.length ≤ 9223372036854775807 := Bd.len hb_a
  have hp0 : sizeBindS a ≤ 4294967296 := hp _ (List.mem_cons_self)
  clear hp hb
  rw [vc_laws_toBindS a]
  dsimp only
  have hlen : a.length ≤ 4294967296 := by simp only [sizeBindS] at hp0; omega
  refine ⟨by omega, rfl, by omega, ?_, ?_⟩
  · simp [I_laws_toBindS_3]
  rintro ⟨out, i, ⟨⟩⟩ ⟨h1, h2, rfl⟩
  simp only at *
  refine if_cond (fun hc => ?_) (fun hc => ?_)
  · have hc : i < a.length := by simpa using hc
    rw [wrap_i64 (by omega) (by omega), set_fill a zBind h1 hc]
    exact ⟨h1, by omega, by exact Nat.le_trans (sum_getD_le sizeBind a zBind h1 hc) (by simp only [sizeBindS] at hp0; omega), h1, by simp; omega, by simp; omega, ⟨by omega, by omega, rfl⟩, by simp only [μ_laws_toBindS_3]; omega⟩
  · have hc : a.length ≤ i := by simpa using hc
    have e : i.toNat = a.length := by omega
    rw [e]; simp; exact Lf_rfl _
def con_laws_eqBindS : Con UU where
  α := (List DBind) × (List DBind)
  md := [.ro, .ro]
  of := fun | [.one (.sl .eBind a0), .one (.sl .eBind a1)] => some (a0, a1) | _ => none
  ds := fun (a, b) => [.one (.sl .eBind a), .one (.sl .eBind b)]
  pre := fun (a, b) => []
  res := fun (a, b) => ⟨[.one (.lit (.bool (decide (a = b))))], true, []⟩
  law := by intro l x h; (try simp only at h); split at h <;> cases h; rfl
def I_laws_eqBindS_4 (a : (List DBind)) (b : (List DBind)) : Int × Unit → Prop := fun (i, _) => 0 ≤ i ∧ i ≤ a.length ∧ a.length = b.length ∧ (a.drop i.toNat = b.drop i.toNat ↔ a = b)
def μ_laws_eqBindS_4 (a : (List DBind)) (b : (List DBind)) : Int × Unit → Nat := fun (i, _) => a.length - i.toNat
def ann_laws_eqBindS : con_laws_eqBindS.α → Nat → Option (Ann UU) := fun (a, b) => annL [(4, annOf [.slot 5 (5, 1024) (.lit (.int .i64))] (fun _ => I_laws_eqBindS_4 a b) (μ_laws_eqBindS_4 a b))]
def use_laws_eqBindS : List (FuncId × Con UU) := [(148, con_laws_eqBind)]
theorem vc_laws_eqBindS (a : (List DBind)) (b : (List DBind)) : goal EE use_laws_eqBindS Go.Proofs.Tryz.f132 con_laws_eqBindS ann_laws_eqBindS (a, b) = (bif (↑(List.length a) : Int) != (↑(List.length b) : Int) then Lf [DV.one (Cell.lit (Value.bool false))] [DV.one (Cell.lit (Value.bool (decide (a = b))))] else I_laws_eqBindS_4 a b ((0 : Int), PUnit.unit) ∧ ∀ (y : Int × PUnit), I_laws_eqBindS_4 a b y → bif decide (y.1 < (↑(List.length a) : Int)) then (0 : Int) ≤ y.1 ∧ Int.toNat y.1 < List.length a ∧ (0 : Int) ≤ y.1 ∧ Int.toNat y.1 < List.length b ∧ bif !decide (List.getD a (Int.toNat y.1) zBind = List.getD b (Int.toNat y.1) zBind) then Lf [DV.one (Cell.lit (Value.bool false))] [DV.one (Cell.lit (Value.bool (decide (a = b))))] else I_laws_eqBindS_4 a b (IntKind.wrap IntKind.i64 (y.1 + (1 : Int)), PUnit.unit) ∧ μ_laws_eqBindS_4 a b (IntKind.wrap IntKind.i64 (y.1 + (1 : Int)), PUnit.unit) < μ_laws_eqBindS_4 a b y else Lf [DV.one (Cell.lit (Value.bool true))] [DV.one (Cell.lit (Value.bool (decide (a = b))))]) := by kernel_rfl
theorem ok_laws_eqBindS : Holds EE (132, con_laws_eqBindS) := by
  refine holds_of EE_ok Go.Proofs.Tryz.func132 con_laws_eqBindS (by kernel_rfl) use_laws_eqBindS (all_cons ok_laws_eqBind all_nil) ann_laws_eqBindS (fun x hp hb => ?_)
  obtain ⟨a, b⟩ := x
  have hb_a : BdDV (U := UU) (.one (.sl .eBind a)) := hb _ (List.mem_cons_self)
  have hl_a : a.length ≤ 9223372036854775807 := Bd.len hb_a
  have hb_b : BdDV (U := UU) (.one (.sl .eBind b)) := hb _ (List.mem_cons_of_mem _ (List.mem_cons_self))
  have hl_b : b.length ≤ 9223372036854775807 := Bd.len hb_b
  clear hp hb
  rw [vc_laws_eqBindS a b]
  refine if_cond (fun h => Lf_f ?_) (fun h => ⟨?_, ?_⟩)
  · rintro rfl; simp at h
  · simp [I_laws_eqBindS_4] at *; omega
  rintro ⟨i, ⟨⟩⟩ ⟨h1, h2, h3, hR⟩
  simp only at *
  refine if_cond (fun hc => ?_) (fun hc => ?_)
  · have hc : i < a.length := by simpa using hc
    rw [drop_step a zBind h1 hc, drop_step b zBind h1 (by omega)] at hR
    rw [wrap_i64 (by omega) (by omega)]
    refine ⟨by omega, by omega, by omega, by omega, if_cond (fun h => Lf_f ?_) (fun h => ⟨⟨by omega, by omega, h3, ?_⟩, ?_⟩)⟩
    · rw [← hR]; simp at h; simp [h]
    · rw [← hR]; simp at h; simp [h]
    · simp only [μ_laws_eqBindS_4]; omega
  · have hc : a.length ≤ i := by simpa using hc
    rw [drop_end a hc, drop_end b (by omega)] at hR
    exact Lf_t (hR.1 rfl)
def con_laws_szCond : Con UU where
  α := DCond × Int
  md := [.ro, .ro]
  of := fun | [.agg [.lit (.int .i64 a0), .lit (.int .i64 a1), .lit (.string a2), .lit (.int .i64 a3), .lit (.int .i64 a4), .lit (.string a5), .lit (.int .i64 a6), .lit (.string a7), .lit (.int .i64 a8), .lit (.int .i64 a9), .lit (.string a10)], .one (.lit (.int .i64 a11))] => some (⟨a0, ⟨a1, a2, ⟨a3, a4, a5⟩⟩, ⟨a6, a7, ⟨a8, a9, a10⟩⟩⟩, a11) | _ => none
  ds := fun (a, left) => [.agg [.lit (.int .i64 a.Op), .lit (.int .i64 a.L.K), .lit (.string a.L.S), .lit (.int .i64 a.L.V.K), .lit (.int .i64 a.L.V.N), .lit (.string a.L.V.S), .lit (.int .i64 a.R.K), .lit (.string a.R.S), .lit (.int .i64 a.R.V.K), .lit (.int .i64 a.R.V.N), .lit (.string a.R.V.S)], .one (.lit (.int .i64 left))]
  pre := fun (a, left) => [0 ≤ left]
  res := fun (a, left) => ⟨[.one (.lit (.int .i64 (szr left (sizeCond a))))], true, []⟩
  law := by intro l x h; (try simp only at h); split at h <;> cases h; rfl
def ann_laws_szCond : con_laws_szCond.α → Nat → Option (Ann UU) := fun (a, left) => annL []
def use_laws_szCond : List (FuncId × Con UU) := [(136, con_laws_szArg)]
theorem vc_laws_szCond (a : DCond) (left : Int) : goal EE use_laws_szCond Go.Proofs.Tryz.f112 con_laws_szCond ann_laws_szCond (a, left) = (let x0 : Int := szr (szr left (sizeArg a.L)) (sizeArg a.R);
(0 : Int) ≤ left ∧ bif decide (szr left (sizeArg a.L) < (0 : Int)) then Lf [DV.one (Cell.lit (Value.int IntKind.i64 (-1 : Int)))] [DV.one (Cell.lit (Value.int IntKind.i64 (szr left (sizeCond a))))] else (0 : Int) ≤ szr left (sizeArg a.L) ∧ bif decide (x0 < (0 : Int)) then Lf [DV.one (Cell.lit (Value.int IntKind.i64 (-1 : Int)))] [DV.one (Cell.lit (Value.int IntKind.i64 (szr left (sizeCond a))))] else Lf [DV.one (Cell.lit (Value.int IntKind.i64 x0))] [DV.one (Cell.lit (Value.int IntKind.i64 (szr left (sizeCond a))))]) := by kernel_rfl
theorem ok_laws_szCond : Holds EE (112, con_laws_szCond) := by
  refine holds_of EE_ok Go.Proofs.Tryz.func112 con_laws_szCond (by kernel_rfl) use_laws_szCond (all_cons ok_laws_szArg all_nil) ann_laws_szCond (fun x hp hb => ?_)
  obtain ⟨a, left⟩ := x
  have hb_a : BdDV (U := UU) (.agg [.lit (.int .i64 a.Op), .lit (.int .i64 a.L.K), .lit (.string a.L.S), .lit (.int .i64 a.L.V.K), .lit (.int .i64 a.L.V.N), .lit (.string a.L.V.S), .lit (.int .i64 a.R.K), .lit (.string a.R.S), .lit (.int .i64 a.R.V.K), .lit (.int .i64 a.R.V.N), .lit (.string a.R.V.S)]) := hb _ (List.mem_cons_self)
  have hl_a_L_S : a.L.S.size ≤ 9223372036854775807 := Bd.str (hb_a _ (by simp))
  have hl_a_L_V_S : a.L.V.S.size ≤ 9223372036854775807 := Bd.str (hb_a _ (by simp))
  have hl_a_R_S : a.R.S.size ≤ 9223372036854775807 := Bd.str (hb_a _ (by simp))
  have hl_a_R_V_S : a.R.V.S.size ≤ 9223372036854775807 := Bd.str (hb_a _ (by simp))
  have hb_left : BdDV (U := UU) (.one (.lit (.int .i64 left))) := hb _ (List.mem_cons_of_mem _ (List.mem_cons_self))
  have hl_left := Bd.i64 hb_left
  have hp0 : 0 ≤ left := hp _ (List.mem_cons_self)
  clear hp hb
  rw [vc_laws_szCond a left]
  dsimp only
  refine ⟨by omega, if_cond (fun h => Lf_i (szr_bad' ?_)) (fun h => ?_)⟩
  · have h := szr_neg h; simp only [sizeCond]; omega
  obtain ⟨e0, h0⟩ := szr_pos h
  rw [e0]
  refine ⟨by omega, if_cond (fun h => Lf_i (szr_bad' ?_)) (fun h => ?_)⟩
  · have h := szr_neg h; simp only [sizeCond]; omega
  obtain ⟨e1, h1⟩ := szr_pos h
  rw [e1]
  exact Lf_i (by rw [← szr_ok' (by simp only [sizeCond]; omega)]; simp only [sizeCond]; try omega)
def con_laws_toCond : Con UU where
  α := DCond
  md := [.ro]
  of := fun | [.agg [.lit (.int .i64 a0), .lit (.int .i64 a1), .lit (.string a2), .lit (.int .i64 a3), .lit (.int .i64 a4), .lit (.string a5), .lit (.int .i64 a6), .lit (.string a7), .lit (.int .i64 a8), .lit (.int .i64 a9), .lit (.string a10)]] => some ⟨a0, ⟨a1, a2, ⟨a3, a4, a5⟩⟩, ⟨a6, a7, ⟨a8, a9, a10⟩⟩⟩ | _ => none
  ds := fun a => [.agg [.lit (.int .i64 a.Op), .lit (.int .i64 a.L.K), .lit (.string a.L.S), .lit (.int .i64 a.L.V.K), .lit (.int .i64 a.L.V.N), .lit (.string a.L.V.S), .lit (.int .i64 a.R.K), .lit (.string a.R.S), .lit (.int .i64 a.R.V.K), .lit (.int .i64 a.R.V.N), .lit (.string a.R.V.S)]]
  pre := fun a => [sizeCond a ≤ 4294967296]
  res := fun a => ⟨[.agg [.lit (.int .i64 a.Op), .lit (.int .i64 a.L.K), .lit (.string a.L.S), .lit (.int .i64 a.L.V.K), .lit (.int .i64 a.L.V.N), .lit (.string a.L.V.S), .lit (.int .i64 a.R.K), .lit (.string a.R.S), .lit (.int .i64 a.R.V.K), .lit (.int .i64 a.R.V.N), .lit (.string a.R.V.S)]], true, []⟩
  law := by intro l x h; (try simp only at h); split at h <;> cases h; rfl
def ann_laws_toCond : con_laws_toCond.α → Nat → Option (Ann UU) := fun a => annL []
def use_laws_toCond : List (FuncId × Con UU) := [(141, con_laws_toArg)]
theorem vc_laws_toCond (a : DCond) : goal EE use_laws_toCond Go.Proofs.Tryz.f120 con_laws_toCond ann_laws_toCond a = (sizeArg a.L ≤ (4294967296 : Nat) ∧ sizeArg a.R ≤ (4294967296 : Nat) ∧ Lf [DV.agg [Cell.lit (Value.int IntKind.i64 a.Op), Cell.lit (Value.int IntKind.i64 a.L.K), Cell.lit (Value.string a.L.S), Cell.lit (Value.int IntKind.i64 a.L.V.K), Cell.lit (Value.int IntKind.i64 a.L.V.N), Cell.lit (Value.string a.L.V.S), Cell.lit (Value.int IntKind.i64 a.R.K), Cell.lit (Value.string a.R.S), Cell.lit (Value.int IntKind.i64 a.R.V.K), Cell.lit (Value.int IntKind.i64 a.R.V.N), Cell.lit (Value.string a.R.V.S)]] [DV.agg [Cell.lit (Value.int IntKind.i64 a.Op), Cell.lit (Value.int IntKind.i64 a.L.K), Cell.lit (Value.string a.L.S), Cell.lit (Value.int IntKind.i64 a.L.V.K), Cell.lit (Value.int IntKind.i64 a.L.V.N), Cell.lit (Value.string a.L.V.S), Cell.lit (Value.int IntKind.i64 a.R.K), Cell.lit (Value.string a.R.S), Cell.lit (Value.int IntKind.i64 a.R.V.K), Cell.lit (Value.int IntKind.i64 a.R.V.N), Cell.lit (Value.string a.R.V.S)]]) := by kernel_rfl
theorem ok_laws_toCond : Holds EE (120, con_laws_toCond) := by
  refine holds_of EE_ok Go.Proofs.Tryz.func120 con_laws_toCond (by kernel_rfl) use_laws_toCond (all_cons ok_laws_toArg all_nil) ann_laws_toCond (fun (a : DCond) hp hb => ?_)
  have hb_a : BdDV (U := UU) (.agg [.lit (.int .i64 a.Op), .lit (.int .i64 a.L.K), .lit (.string a.L.S), .lit (.int .i64 a.L.V.K), .lit (.int .i64 a.L.V.N), .lit (.string a.L.V.S), .lit (.int .i64 a.R.K), .lit (.string a.R.S), .lit (.int .i64 a.R.V.K), .lit (.int .i64 a.R.V.N), .lit (.string a.R.V.S)]) := hb _ (List.mem_cons_self)
  have hl_a_L_S : a.L.S.size ≤ 9223372036854775807 := Bd.str (hb_a _ (by simp))
  have hl_a_L_V_S : a.L.V.S.size ≤ 9223372036854775807 := Bd.str (hb_a _ (by simp))
  have hl_a_R_S : a.R.S.size ≤ 9223372036854775807 := Bd.str (hb_a _ (by simp))
  have hl_a_R_V_S : a.R.V.S.size ≤ 9223372036854775807 := Bd.str (hb_a _ (by simp))
  have hp0 : sizeCond a ≤ 4294967296 := hp _ (List.mem_cons_self)
  clear hp hb
  rw [vc_laws_toCond a]
  simp only [sizeCond] at hp0
  repeat' (first | exact Lf_rfl _ | (refine And.intro (by omega) ?_))
def con_laws_eqCond : Con UU where
  α := DCond × DCond
  md := [.ro, .ro]
  of := fun | [.agg [.lit (.int .i64 a0), .lit (.int .i64 a1), .lit (.string a2), .lit (.int .i64 a3), .lit (.int .i64 a4), .lit (.string a5), .lit (.int .i64 a6), .lit (.string a7), .lit (.int .i64 a8), .lit (.int .i64 a9), .lit (.string a10)], .agg [.lit (.int .i64 a11), .lit (.int .i64 a12), .lit (.string a13), .lit (.int .i64 a14), .lit (.int .i64 a15), .lit (.string a16), .lit (.int .i64 a17), .lit (.string a18), .lit (.int .i64 a19), .lit (.int .i64 a20), .lit (.string a21)]] => some (⟨a0, ⟨a1, a2, ⟨a3, a4, a5⟩⟩, ⟨a6, a7, ⟨a8, a9, a10⟩⟩⟩, ⟨a11, ⟨a12, a13, ⟨a14, a15, a16⟩⟩, ⟨a17, a18, ⟨a19, a20, a21⟩⟩⟩) | _ => none
  ds := fun (a, b) => [.agg [.lit (.int .i64 a.Op), .lit (.int .i64 a.L.K), .lit (.string a.L.S), .lit (.int .i64 a.L.V.K), .lit (.int .i64 a.L.V.N), .lit (.string a.L.V.S), .lit (.int .i64 a.R.K), .lit (.string a.R.S), .lit (.int .i64 a.R.V.K), .lit (.int .i64 a.R.V.N), .lit (.string a.R.V.S)], .agg [.lit (.int .i64 b.Op), .lit (.int .i64 b.L.K), .lit (.string b.L.S), .lit (.int .i64 b.L.V.K), .lit (.int .i64 b.L.V.N), .lit (.string b.L.V.S), .lit (.int .i64 b.R.K), .lit (.string b.R.S), .lit (.int .i64 b.R.V.K), .lit (.int .i64 b.R.V.N), .lit (.string b.R.V.S)]]
  pre := fun (a, b) => []
  res := fun (a, b) => ⟨[.one (.lit (.bool (decide (a = b))))], true, []⟩
  law := by intro l x h; (try simp only at h); split at h <;> cases h; rfl
def ann_laws_eqCond : con_laws_eqCond.α → Nat → Option (Ann UU) := fun (a, b) => annL []
def use_laws_eqCond : List (FuncId × Con UU) := [(146, con_laws_eqArg)]
theorem vc_laws_eqCond (a : DCond) (b : DCond) : goal EE use_laws_eqCond Go.Proofs.Tryz.f128 con_laws_eqCond ann_laws_eqCond (a, b) = (bif a.Op != b.Op then Lf [DV.one (Cell.lit (Value.bool false))] [DV.one (Cell.lit (Value.bool (decide (a = b))))] else bif !decide (a.L = b.L) then Lf [DV.one (Cell.lit (Value.bool false))] [DV.one (Cell.lit (Value.bool (decide (a = b))))] else bif !decide (a.R = b.R) then Lf [DV.one (Cell.lit (Value.bool false))] [DV.one (Cell.lit (Value.bool (decide (a = b))))] else Lf [DV.one (Cell.lit (Value.bool true))] [DV.one (Cell.lit (Value.bool (decide (a = b))))]) := by kernel_rfl
theorem ok_laws_eqCond : Holds EE (128, con_laws_eqCond) := by
  refine holds_of EE_ok Go.Proofs.Tryz.func128 con_laws_eqCond (by kernel_rfl) use_laws_eqCond (all_cons ok_laws_eqArg all_nil) ann_laws_eqCond (fun x hp hb => ?_)
  obtain ⟨a, b⟩ := x
  have hb_a : BdDV (U := UU) (.agg [.lit (.int .i64 a.Op), .lit (.int .i64 a.L.K), .lit (.string a.L.S), .lit (.int .i64 a.L.V.K), .lit (.int .i64 a.L.V.N), .lit (.string a.L.V.S), .lit (.int .i64 a.R.K), .lit (.string a.R.S), .lit (.int .i64 a.R.V.K), .lit (.int .i64 a.R.V.N), .lit (.string a.R.V.S)]) := hb _ (List.mem_cons_self)
  have hl_a_L_S : a.L.S.size ≤ 9223372036854775807 := Bd.str (hb_a _ (by simp))
  have hl_a_L_V_S : a.L.V.S.size ≤ 9223372036854775807 := Bd.str (hb_a _ (by simp))
  have hl_a_R_S : a.R.S.size ≤ 9223372036854775807 := Bd.str (hb_a _ (by simp))
  have hl_a_R_V_S : a.R.V.S.size ≤ 9223372036854775807 := Bd.str (hb_a _ (by simp))
  have hb_b : BdDV (U := UU) (.agg [.lit (.int .i64 b.Op), .lit (.int .i64 b.L.K), .lit (.string b.L.S), .lit (.int .i64 b.L.V.K), .lit (.int .i64 b.L.V.N), .lit (.string b.L.V.S), .lit (.int .i64 b.R.K), .lit (.string b.R.S), .lit (.int .i64 b.R.V.K), .lit (.int .i64 b.R.V.N), .lit (.string b.R.V.S)]) := hb _ (List.mem_cons_of_mem _ (List.mem_cons_self))
  have hl_b_L_S : b.L.S.size ≤ 9223372036854775807 := Bd.str (hb_b _ (by simp))
  have hl_b_L_V_S : b.L.V.S.size ≤ 9223372036854775807 := Bd.str (hb_b _ (by simp))
  have hl_b_R_S : b.R.S.size ≤ 9223372036854775807 := Bd.str (hb_b _ (by simp))
  have hl_b_R_V_S : b.R.V.S.size ≤ 9223372036854775807 := Bd.str (hb_b _ (by simp))
  clear hp hb
  rw [vc_laws_eqCond a b]
  obtain ⟨aOp, aL, aR⟩ := a
  obtain ⟨bOp, bL, bR⟩ := b
  repeat' (apply if_cond <;> intro _)
  all_goals (first | apply Lf_t | apply Lf_f) <;> simp_all
def con_laws_szCondS : Con UU where
  α := (List DCond) × Int
  md := [.ro, .ro]
  of := fun | [.one (.sl .lCond a0), .one (.lit (.int .i64 a1))] => some (a0, a1) | _ => none
  ds := fun (a, left) => [.one (.sl .lCond a), .one (.lit (.int .i64 left))]
  pre := fun (a, left) => [0 ≤ left]
  res := fun (a, left) => ⟨[.one (.lit (.int .i64 (szr left (sizeCondS a))))], true, []⟩
  law := by intro l x h; (try simp only at h); split at h <;> cases h; rfl
def I_laws_szCondS_5 (a : (List DCond)) (left : Int) : Int × Int × Unit → Prop := fun (lf, i, _) => 0 ≤ lf ∧ 0 ≤ i ∧ i ≤ a.length ∧ szr lf ((a.drop i.toNat).map sizeCond).sum = szr left (sizeCondS a)
def μ_laws_szCondS_5 (a : (List DCond)) (left : Int) : Int × Int × Unit → Nat := fun (lf, i, _) => a.length - i.toNat
def ann_laws_szCondS : con_laws_szCondS.α → Nat → Option (Ann UU) := fun (a, left) => annL [(5, annOf [.slot 1 (1, 1024) (.lit (.int .i64)), .slot 5 (5, 1024) (.lit (.int .i64))] (fun _ => I_laws_szCondS_5 a left) (μ_laws_szCondS_5 a left))]
def use_laws_szCondS : List (FuncId × Con UU) := [(112, con_laws_szCond)]
theorem vc_laws_szCondS (a : (List DCond)) (left : Int) : goal EE use_laws_szCondS Go.Proofs.Tryz.f88 con_laws_szCondS ann_laws_szCondS (a, left) = (let x0 : Int := IntKind.wrap IntKind.i64 (left - (↑(List.length a) : Int));
bif decide (x0 < (0 : Int)) then Lf [DV.one (Cell.lit (Value.int IntKind.i64 (-1 : Int)))] [DV.one (Cell.lit (Value.int IntKind.i64 (szr left (sizeCondS a))))]
else
  I_laws_szCondS_5 a left (x0, (0 : Int), PUnit.unit) ∧
    ∀ (y : Int × Int × PUnit),
      let x1 : Int := szr y.1 (sizeCond (List.getD a (Int.toNat y.2.1) zCond));
      I_laws_szCondS_5 a left y → bif decide (y.2.1 < (↑(List.length a) : Int)) then (0 : Int) ≤ y.2.1 ∧ Int.toNat y.2.1 < List.length a ∧ (0 : Int) ≤ y.1 ∧ bif decide (x1 < (0 : Int)) then Lf [DV.one (Cell.lit (Value.int IntKind.i64 (-1 : Int)))] [DV.one (Cell.lit (Value.int IntKind.i64 (szr left (sizeCondS a))))] else I_laws_szCondS_5 a left (x1, IntKind.wrap IntKind.i64 (y.2.1 + (1 : Int)), PUnit.unit) ∧ μ_laws_szCondS_5 a left (x1, IntKind.wrap IntKind.i64 (y.2.1 + (1 : Int)), PUnit.unit) < μ_laws_szCondS_5 a left y else Lf [DV.one (Cell.lit (Value.int IntKind.i64 y.1))] [DV.one (Cell.lit (Value.int IntKind.i64 (szr left (sizeCondS a))))]) := by kernel_rfl
theorem ok_laws_szCondS : Holds EE (88, con_laws_szCondS) := by
  refine holds_of EE_ok Go.Proofs.Tryz.func88 con_laws_szCondS (by kernel_rfl) use_laws_szCondS (all_cons ok_laws_szCond all_nil) ann_laws_szCondS (fun x hp hb => ?_)
  obtain ⟨a, left⟩ := x
  have hb_a : BdDV (U := UU) (.one (.sl .lCond a)) := hb _ (List.mem_cons_self)
  have hl_a : a.length ≤ 9223372036854775807 := Bd.len hb_a
  have hb_left : BdDV (U := UU) (.one (.lit (.int .i64 left))) := hb _ (List.mem_cons_of_mem _ (List.mem_cons_self))
  have hl_left := Bd.i64 hb_left
  have hp0 : 0 ≤ left := hp _ (List.mem_cons_self)
  clear hp hb
  rw [vc_laws_szCondS a left]
  dsimp only
  rw [wrap_i64 (by omega) (by omega)]
  refine if_cond (fun h => Lf_i ?_) (fun h => ⟨?_, ?_⟩)
  · simp [szr, sizeCondS] at *; omega
  · simp only [I_laws_szCondS_5, sizeCondS]; simp at h; have h' : 0 ≤ left - a.length := by omega
    exact ⟨h', by omega, by omega, szr_sub h'⟩
  rintro ⟨lf, i, ⟨⟩⟩ ⟨h0, h1, h2, hR⟩
  refine if_cond (fun hc => ?_) (fun hc => ?_)
  · have hc : i < a.length := by simpa using hc
    rw [drop_step a zCond h1 hc, List.map_cons, List.sum_cons] at hR
    simp only at *
    rw [wrap_i64 (by omega) (by omega)]
    generalize List.getD a i.toNat zCond = x at *
    refine ⟨by omega, by omega, by omega, if_cond (fun h => Lf_i ?_) (fun h => ⟨⟨?_, by omega, by omega, ?_⟩, ?_⟩)⟩
    · rw [← hR]; exact (szr_bad (of_decide_eq_true h)).symm
    · simp at h; omega
    · rw [← hR]; simp at h; exact szr_szr h
    · simp only [μ_laws_szCondS_5]; omega
  · have hc : a.length ≤ i := by simpa using hc
    rw [drop_end a hc] at hR
    apply Lf_i; rw [← hR]; simp [szr, h0]
def con_laws_toCondS : Con UU where
  α := (List DCond)
  md := [.ro]
  of := fun | [.one (.sl .lCond a0)] => some a0 | _ => none
  ds := fun a => [.one (.sl .lCond a)]
  pre := fun a => [sizeCondS a ≤ 4294967296]
  res := fun a => ⟨[.one (.sl .eCond a)], true, []⟩
  law := by intro l x h; (try simp only at h); split at h <;> cases h; rfl
def I_laws_toCondS_3 (a : (List DCond)) : List DCond × Int × Unit → Prop := fun (out, i, _) => 0 ≤ i ∧ i ≤ a.length ∧ out = a.take i.toNat ++ List.replicate (a.length - i.toNat) zCond
def μ_laws_toCondS_3 (a : (List DCond)) : List DCond × Int × Unit → Nat := fun (out, i, _) => a.length - i.toNat
def ann_laws_toCondS : con_laws_toCondS.α → Nat → Option (Ann UU) := fun a => annL [(3, annOf [.slot 3 (3, 1024) (.own .eCond true), .slot 4 (4, 1024) (.lit (.int .i64))] (fun _ => I_laws_toCondS_3 a) (μ_laws_toCondS_3 a))]
def use_laws_toCondS : List (FuncId × Con UU) := [(120, con_laws_toCond)]
theorem vc_laws_toCondS (a : (List DCond)) : goal EE use_laws_toCondS Go.Proofs.Tryz.f96 con_laws_toCondS ann_laws_toCondS a = (let x0 : Int := (↑(List.length a) : Int);
(0 : Int) ≤ x0 ∧
  x0 = x0 ∧
    x0 ≤ (4294967296 : Int) ∧
      I_laws_toCondS_3 a (List.replicate (Int.toNat x0) zCond, (0 : Int), PUnit.unit) ∧
        ∀ (y : List DCond × Int × PUnit),
          let x1 : Nat := Int.toNat y.2.1;
          I_laws_toCondS_3 a y → bif decide (y.2.1 < x0) then (0 : Int) ≤ y.2.1 ∧ x1 < List.length a ∧ sizeCond (List.getD a x1 zCond) ≤ (4294967296 : Nat) ∧ (0 : Int) ≤ y.2.1 ∧ x1 < List.length y.1 ∧ x1 < List.length y.1 ∧ I_laws_toCondS_3 a (List.set y.1 x1 (List.getD a x1 zCond), IntKind.wrap IntKind.i64 (y.2.1 + (1 : Int)), PUnit.unit) ∧ μ_laws_toCondS_3 a (List.set y.1 x1 (List.getD a x1 zCond), IntKind.wrap IntKind.i64 (y.2.1 + (1 : Int)), PUnit.unit) < μ_laws_toCondS_3 a y else Lf [DV.one (Cell.sl Cd.eCond y.1)] [DV.one (Cell.sl Cd.eCond a)]) := by kernel_rfl
theorem ok_laws_toCondS : Holds EE (96, con_laws_toCondS) := by
  refine holds_of EE_ok Go.Proofs.Tryz.func96 con_laws_toCondS (by kernel_rfl) use_laws_toCondS (all_cons ok_laws_toCond all_nil) ann_laws_toCondS (fun (a : (List DCond)) hp hb => ?_)
  have hb_a : BdDV (U := UU) (.one (.sl .lCond a)) := hb _ (List.mem_cons_self)
  have hl_a : a.length ≤ 9223372036854775807 := Bd.len hb_a
  have hp0 : sizeCondS a ≤ 4294967296 := hp _ (List.mem_cons_self)
  clear hp hb
  rw [vc_laws_toCondS a]
  dsimp only
  have hlen : a.length ≤ 4294967296 := by simp only [sizeCondS] at hp0; omega
  refine ⟨by omega, rfl, by omega, ?_, ?_⟩
  · simp [I_laws_toCondS_3]
  rintro ⟨out, i, ⟨⟩⟩ ⟨h1, h2, rfl⟩
  simp only at *
  refine if_cond (fun hc => ?_) (fun hc => ?_)
  · have hc : i < a.length := by simpa using hc
    rw [wrap_i64 (by omega) (by omega), set_fill a zCond h1 hc]
    exact ⟨h1, by omega, by exact Nat.le_trans (sum_getD_le sizeCond a zCond h1 hc) (by simp only [sizeCondS] at hp0; omega), h1, by simp; omega, by simp; omega, ⟨by omega, by omega, rfl⟩, by simp only [μ_laws_toCondS_3]; omega⟩
  · have hc : a.length ≤ i := by simpa using hc
    have e : i.toNat = a.length := by omega
    rw [e]; simp; exact Lf_rfl _
def con_laws_eqCondS : Con UU where
  α := (List DCond) × (List DCond)
  md := [.ro, .ro]
  of := fun | [.one (.sl .eCond a0), .one (.sl .eCond a1)] => some (a0, a1) | _ => none
  ds := fun (a, b) => [.one (.sl .eCond a), .one (.sl .eCond b)]
  pre := fun (a, b) => []
  res := fun (a, b) => ⟨[.one (.lit (.bool (decide (a = b))))], true, []⟩
  law := by intro l x h; (try simp only at h); split at h <;> cases h; rfl
def I_laws_eqCondS_4 (a : (List DCond)) (b : (List DCond)) : Int × Unit → Prop := fun (i, _) => 0 ≤ i ∧ i ≤ a.length ∧ a.length = b.length ∧ (a.drop i.toNat = b.drop i.toNat ↔ a = b)
def μ_laws_eqCondS_4 (a : (List DCond)) (b : (List DCond)) : Int × Unit → Nat := fun (i, _) => a.length - i.toNat
def ann_laws_eqCondS : con_laws_eqCondS.α → Nat → Option (Ann UU) := fun (a, b) => annL [(4, annOf [.slot 5 (5, 1024) (.lit (.int .i64))] (fun _ => I_laws_eqCondS_4 a b) (μ_laws_eqCondS_4 a b))]
def use_laws_eqCondS : List (FuncId × Con UU) := [(128, con_laws_eqCond)]
theorem vc_laws_eqCondS (a : (List DCond)) (b : (List DCond)) : goal EE use_laws_eqCondS Go.Proofs.Tryz.f104 con_laws_eqCondS ann_laws_eqCondS (a, b) = (bif (↑(List.length a) : Int) != (↑(List.length b) : Int) then Lf [DV.one (Cell.lit (Value.bool false))] [DV.one (Cell.lit (Value.bool (decide (a = b))))] else I_laws_eqCondS_4 a b ((0 : Int), PUnit.unit) ∧ ∀ (y : Int × PUnit), I_laws_eqCondS_4 a b y → bif decide (y.1 < (↑(List.length a) : Int)) then (0 : Int) ≤ y.1 ∧ Int.toNat y.1 < List.length a ∧ (0 : Int) ≤ y.1 ∧ Int.toNat y.1 < List.length b ∧ bif !decide (List.getD a (Int.toNat y.1) zCond = List.getD b (Int.toNat y.1) zCond) then Lf [DV.one (Cell.lit (Value.bool false))] [DV.one (Cell.lit (Value.bool (decide (a = b))))] else I_laws_eqCondS_4 a b (IntKind.wrap IntKind.i64 (y.1 + (1 : Int)), PUnit.unit) ∧ μ_laws_eqCondS_4 a b (IntKind.wrap IntKind.i64 (y.1 + (1 : Int)), PUnit.unit) < μ_laws_eqCondS_4 a b y else Lf [DV.one (Cell.lit (Value.bool true))] [DV.one (Cell.lit (Value.bool (decide (a = b))))]) := by kernel_rfl
theorem ok_laws_eqCondS : Holds EE (104, con_laws_eqCondS) := by
  refine holds_of EE_ok Go.Proofs.Tryz.func104 con_laws_eqCondS (by kernel_rfl) use_laws_eqCondS (all_cons ok_laws_eqCond all_nil) ann_laws_eqCondS (fun x hp hb => ?_)
  obtain ⟨a, b⟩ := x
  have hb_a : BdDV (U := UU) (.one (.sl .eCond a)) := hb _ (List.mem_cons_self)
  have hl_a : a.length ≤ 9223372036854775807 := Bd.len hb_a
  have hb_b : BdDV (U := UU) (.one (.sl .eCond b)) := hb _ (List.mem_cons_of_mem _ (List.mem_cons_self))
  have hl_b : b.length ≤ 9223372036854775807 := Bd.len hb_b
  clear hp hb
  rw [vc_laws_eqCondS a b]
  refine if_cond (fun h => Lf_f ?_) (fun h => ⟨?_, ?_⟩)
  · rintro rfl; simp at h
  · simp [I_laws_eqCondS_4] at *; omega
  rintro ⟨i, ⟨⟩⟩ ⟨h1, h2, h3, hR⟩
  simp only at *
  refine if_cond (fun hc => ?_) (fun hc => ?_)
  · have hc : i < a.length := by simpa using hc
    rw [drop_step a zCond h1 hc, drop_step b zCond h1 (by omega)] at hR
    rw [wrap_i64 (by omega) (by omega)]
    refine ⟨by omega, by omega, by omega, by omega, if_cond (fun h => Lf_f ?_) (fun h => ⟨⟨by omega, by omega, h3, ?_⟩, ?_⟩)⟩
    · rw [← hR]; simp at h; simp [h]
    · rw [← hR]; simp at h; simp [h]
    · simp only [μ_laws_eqCondS_4]; omega
  · have hc : a.length ≤ i := by simpa using hc
    rw [drop_end a hc, drop_end b (by omega)] at hR
    exact Lf_t (hR.1 rfl)
def con_laws_szExpr : Con UU where
  α := DExpr × Int
  md := [.ro, .ro]
  of := fun | [.agg [.lit (.string a0), .lit (.int .i64 a1), .lit (.string a2), .lit (.int .i64 a3), .lit (.int .i64 a4), .lit (.string a5), .lit (.int .i64 a6), .lit (.string a7), .lit (.int .i64 a8), .lit (.int .i64 a9), .lit (.string a10)], .one (.lit (.int .i64 a11))] => some (⟨a0, ⟨a1, a2, ⟨a3, a4, a5⟩⟩, ⟨a6, a7, ⟨a8, a9, a10⟩⟩⟩, a11) | _ => none
  ds := fun (a, left) => [.agg [.lit (.string a.Op), .lit (.int .i64 a.L.K), .lit (.string a.L.S), .lit (.int .i64 a.L.V.K), .lit (.int .i64 a.L.V.N), .lit (.string a.L.V.S), .lit (.int .i64 a.R.K), .lit (.string a.R.S), .lit (.int .i64 a.R.V.K), .lit (.int .i64 a.R.V.N), .lit (.string a.R.V.S)], .one (.lit (.int .i64 left))]
  pre := fun (a, left) => [0 ≤ left]
  res := fun (a, left) => ⟨[.one (.lit (.int .i64 (szr left (sizeExpr a))))], true, []⟩
  law := by intro l x h; (try simp only at h); split at h <;> cases h; rfl
def ann_laws_szExpr : con_laws_szExpr.α → Nat → Option (Ann UU) := fun (a, left) => annL []
def use_laws_szExpr : List (FuncId × Con UU) := [(136, con_laws_szArg)]
theorem vc_laws_szExpr (a : DExpr) (left : Int) : goal EE use_laws_szExpr Go.Proofs.Tryz.f150 con_laws_szExpr ann_laws_szExpr (a, left) = (let x0 : Int := szr (IntKind.wrap IntKind.i64 (left - (↑(ByteArray.size a.Op) : Int))) (sizeArg a.L);
let x1 : Int := IntKind.wrap IntKind.i64 (left - (↑(ByteArray.size a.Op) : Int));
bif decide (x1 < (0 : Int)) then Lf [DV.one (Cell.lit (Value.int IntKind.i64 (-1 : Int)))] [DV.one (Cell.lit (Value.int IntKind.i64 (szr left (sizeExpr a))))] else (0 : Int) ≤ x1 ∧ bif decide (x0 < (0 : Int)) then Lf [DV.one (Cell.lit (Value.int IntKind.i64 (-1 : Int)))] [DV.one (Cell.lit (Value.int IntKind.i64 (szr left (sizeExpr a))))] else (0 : Int) ≤ x0 ∧ bif decide (szr x0 (sizeArg a.R) < (0 : Int)) then Lf [DV.one (Cell.lit (Value.int IntKind.i64 (-1 : Int)))] [DV.one (Cell.lit (Value.int IntKind.i64 (szr left (sizeExpr a))))] else Lf [DV.one (Cell.lit (Value.int IntKind.i64 (szr x0 (sizeArg a.R))))] [DV.one (Cell.lit (Value.int IntKind.i64 (szr left (sizeExpr a))))]) := by kernel_rfl
theorem ok_laws_szExpr : Holds EE (150, con_laws_szExpr) := by
  refine holds_of EE_ok Go.Proofs.Tryz.func150 con_laws_szExpr (by kernel_rfl) use_laws_szExpr (all_cons ok_laws_szArg all_nil) ann_laws_szExpr (fun x hp hb => ?_)
  obtain ⟨a, left⟩ := x
  have hb_a : BdDV (U := UU) (.agg [.lit (.string a.Op), .lit (.int .i64 a.L.K), .lit (.string a.L.S), .lit (.int .i64 a.L.V.K), .lit (.int .i64 a.L.V.N), .lit (.string a.L.V.S), .lit (.int .i64 a.R.K), .lit (.string a.R.S), .lit (.int .i64 a.R.V.K), .lit (.int .i64 a.R.V.N), .lit (.string a.R.V.S)]) := hb _ (List.mem_cons_self)
  have hl_a_Op : a.Op.size ≤ 9223372036854775807 := Bd.str (hb_a _ (by simp))
  have hl_a_L_S : a.L.S.size ≤ 9223372036854775807 := Bd.str (hb_a _ (by simp))
  have hl_a_L_V_S : a.L.V.S.size ≤ 9223372036854775807 := Bd.str (hb_a _ (by simp))
  have hl_a_R_S : a.R.S.size ≤ 9223372036854775807 := Bd.str (hb_a _ (by simp))
  have hl_a_R_V_S : a.R.V.S.size ≤ 9223372036854775807 := Bd.str (hb_a _ (by simp))
  have hb_left : BdDV (U := UU) (.one (.lit (.int .i64 left))) := hb _ (List.mem_cons_of_mem _ (List.mem_cons_self))
  have hl_left := Bd.i64 hb_left
  have hp0 : 0 ≤ left := hp _ (List.mem_cons_self)
  clear hp hb
  rw [vc_laws_szExpr a left]
  dsimp only
  rw [wrap_i64 (by omega) (by omega)]
  refine if_cond (fun h => Lf_i (szr_bad' ?_)) (fun h => ?_)
  · have h := of_decide_eq_true h; simp only [sizeExpr]; omega
  have h0 := of_decide_eq_false h
  refine ⟨by omega, if_cond (fun h => Lf_i (szr_bad' ?_)) (fun h => ?_)⟩
  · have h := szr_neg h; simp only [sizeExpr]; omega
  obtain ⟨e1, h1⟩ := szr_pos h
  rw [e1]
  refine ⟨by omega, if_cond (fun h => Lf_i (szr_bad' ?_)) (fun h => ?_)⟩
  · have h := szr_neg h; simp only [sizeExpr]; omega
  obtain ⟨e2, h2⟩ := szr_pos h
  rw [e2]
  exact Lf_i (by rw [← szr_ok' (by simp only [sizeExpr]; omega)]; simp only [sizeExpr]; try omega)
def con_laws_toExpr : Con UU where
  α := DExpr
  md := [.ro]
  of := fun | [.agg [.lit (.string a0), .lit (.int .i64 a1), .lit (.string a2), .lit (.int .i64 a3), .lit (.int .i64 a4), .lit (.string a5), .lit (.int .i64 a6), .lit (.string a7), .lit (.int .i64 a8), .lit (.int .i64 a9), .lit (.string a10)]] => some ⟨a0, ⟨a1, a2, ⟨a3, a4, a5⟩⟩, ⟨a6, a7, ⟨a8, a9, a10⟩⟩⟩ | _ => none
  ds := fun a => [.agg [.lit (.string a.Op), .lit (.int .i64 a.L.K), .lit (.string a.L.S), .lit (.int .i64 a.L.V.K), .lit (.int .i64 a.L.V.N), .lit (.string a.L.V.S), .lit (.int .i64 a.R.K), .lit (.string a.R.S), .lit (.int .i64 a.R.V.K), .lit (.int .i64 a.R.V.N), .lit (.string a.R.V.S)]]
  pre := fun a => [sizeExpr a ≤ 4294967296]
  res := fun a => ⟨[.agg [.lit (.string a.Op), .lit (.int .i64 a.L.K), .lit (.string a.L.S), .lit (.int .i64 a.L.V.K), .lit (.int .i64 a.L.V.N), .lit (.string a.L.V.S), .lit (.int .i64 a.R.K), .lit (.string a.R.S), .lit (.int .i64 a.R.V.K), .lit (.int .i64 a.R.V.N), .lit (.string a.R.V.S)]], true, []⟩
  law := by intro l x h; (try simp only at h); split at h <;> cases h; rfl
def ann_laws_toExpr : con_laws_toExpr.α → Nat → Option (Ann UU) := fun a => annL []
def use_laws_toExpr : List (FuncId × Con UU) := [(141, con_laws_toArg)]
theorem vc_laws_toExpr (a : DExpr) : goal EE use_laws_toExpr Go.Proofs.Tryz.f151 con_laws_toExpr ann_laws_toExpr a = (sizeArg a.L ≤ (4294967296 : Nat) ∧ sizeArg a.R ≤ (4294967296 : Nat) ∧ Lf [DV.agg [Cell.lit (Value.string a.Op), Cell.lit (Value.int IntKind.i64 a.L.K), Cell.lit (Value.string a.L.S), Cell.lit (Value.int IntKind.i64 a.L.V.K), Cell.lit (Value.int IntKind.i64 a.L.V.N), Cell.lit (Value.string a.L.V.S), Cell.lit (Value.int IntKind.i64 a.R.K), Cell.lit (Value.string a.R.S), Cell.lit (Value.int IntKind.i64 a.R.V.K), Cell.lit (Value.int IntKind.i64 a.R.V.N), Cell.lit (Value.string a.R.V.S)]] [DV.agg [Cell.lit (Value.string a.Op), Cell.lit (Value.int IntKind.i64 a.L.K), Cell.lit (Value.string a.L.S), Cell.lit (Value.int IntKind.i64 a.L.V.K), Cell.lit (Value.int IntKind.i64 a.L.V.N), Cell.lit (Value.string a.L.V.S), Cell.lit (Value.int IntKind.i64 a.R.K), Cell.lit (Value.string a.R.S), Cell.lit (Value.int IntKind.i64 a.R.V.K), Cell.lit (Value.int IntKind.i64 a.R.V.N), Cell.lit (Value.string a.R.V.S)]]) := by kernel_rfl
theorem ok_laws_toExpr : Holds EE (151, con_laws_toExpr) := by
  refine holds_of EE_ok Go.Proofs.Tryz.func151 con_laws_toExpr (by kernel_rfl) use_laws_toExpr (all_cons ok_laws_toArg all_nil) ann_laws_toExpr (fun (a : DExpr) hp hb => ?_)
  have hb_a : BdDV (U := UU) (.agg [.lit (.string a.Op), .lit (.int .i64 a.L.K), .lit (.string a.L.S), .lit (.int .i64 a.L.V.K), .lit (.int .i64 a.L.V.N), .lit (.string a.L.V.S), .lit (.int .i64 a.R.K), .lit (.string a.R.S), .lit (.int .i64 a.R.V.K), .lit (.int .i64 a.R.V.N), .lit (.string a.R.V.S)]) := hb _ (List.mem_cons_self)
  have hl_a_Op : a.Op.size ≤ 9223372036854775807 := Bd.str (hb_a _ (by simp))
  have hl_a_L_S : a.L.S.size ≤ 9223372036854775807 := Bd.str (hb_a _ (by simp))
  have hl_a_L_V_S : a.L.V.S.size ≤ 9223372036854775807 := Bd.str (hb_a _ (by simp))
  have hl_a_R_S : a.R.S.size ≤ 9223372036854775807 := Bd.str (hb_a _ (by simp))
  have hl_a_R_V_S : a.R.V.S.size ≤ 9223372036854775807 := Bd.str (hb_a _ (by simp))
  have hp0 : sizeExpr a ≤ 4294967296 := hp _ (List.mem_cons_self)
  clear hp hb
  rw [vc_laws_toExpr a]
  simp only [sizeExpr] at hp0
  repeat' (first | exact Lf_rfl _ | (refine And.intro (by omega) ?_))
def con_laws_eqExpr : Con UU where
  α := DExpr × DExpr
  md := [.ro, .ro]
  of := fun | [.agg [.lit (.string a0), .lit (.int .i64 a1), .lit (.string a2), .lit (.int .i64 a3), .lit (.int .i64 a4), .lit (.string a5), .lit (.int .i64 a6), .lit (.string a7), .lit (.int .i64 a8), .lit (.int .i64 a9), .lit (.string a10)], .agg [.lit (.string a11), .lit (.int .i64 a12), .lit (.string a13), .lit (.int .i64 a14), .lit (.int .i64 a15), .lit (.string a16), .lit (.int .i64 a17), .lit (.string a18), .lit (.int .i64 a19), .lit (.int .i64 a20), .lit (.string a21)]] => some (⟨a0, ⟨a1, a2, ⟨a3, a4, a5⟩⟩, ⟨a6, a7, ⟨a8, a9, a10⟩⟩⟩, ⟨a11, ⟨a12, a13, ⟨a14, a15, a16⟩⟩, ⟨a17, a18, ⟨a19, a20, a21⟩⟩⟩) | _ => none
  ds := fun (a, b) => [.agg [.lit (.string a.Op), .lit (.int .i64 a.L.K), .lit (.string a.L.S), .lit (.int .i64 a.L.V.K), .lit (.int .i64 a.L.V.N), .lit (.string a.L.V.S), .lit (.int .i64 a.R.K), .lit (.string a.R.S), .lit (.int .i64 a.R.V.K), .lit (.int .i64 a.R.V.N), .lit (.string a.R.V.S)], .agg [.lit (.string b.Op), .lit (.int .i64 b.L.K), .lit (.string b.L.S), .lit (.int .i64 b.L.V.K), .lit (.int .i64 b.L.V.N), .lit (.string b.L.V.S), .lit (.int .i64 b.R.K), .lit (.string b.R.S), .lit (.int .i64 b.R.V.K), .lit (.int .i64 b.R.V.N), .lit (.string b.R.V.S)]]
  pre := fun (a, b) => []
  res := fun (a, b) => ⟨[.one (.lit (.bool (decide (a = b))))], true, []⟩
  law := by intro l x h; (try simp only at h); split at h <;> cases h; rfl
def ann_laws_eqExpr : con_laws_eqExpr.α → Nat → Option (Ann UU) := fun (a, b) => annL []
def use_laws_eqExpr : List (FuncId × Con UU) := [(146, con_laws_eqArg)]
theorem vc_laws_eqExpr (a : DExpr) (b : DExpr) : goal EE use_laws_eqExpr Go.Proofs.Tryz.f152 con_laws_eqExpr ann_laws_eqExpr (a, b) = (bif !ByteArray.toList a.Op == ByteArray.toList b.Op then Lf [DV.one (Cell.lit (Value.bool false))] [DV.one (Cell.lit (Value.bool (decide (a = b))))] else bif !decide (a.L = b.L) then Lf [DV.one (Cell.lit (Value.bool false))] [DV.one (Cell.lit (Value.bool (decide (a = b))))] else bif !decide (a.R = b.R) then Lf [DV.one (Cell.lit (Value.bool false))] [DV.one (Cell.lit (Value.bool (decide (a = b))))] else Lf [DV.one (Cell.lit (Value.bool true))] [DV.one (Cell.lit (Value.bool (decide (a = b))))]) := by kernel_rfl
theorem ok_laws_eqExpr : Holds EE (152, con_laws_eqExpr) := by
  refine holds_of EE_ok Go.Proofs.Tryz.func152 con_laws_eqExpr (by kernel_rfl) use_laws_eqExpr (all_cons ok_laws_eqArg all_nil) ann_laws_eqExpr (fun x hp hb => ?_)
  obtain ⟨a, b⟩ := x
  have hb_a : BdDV (U := UU) (.agg [.lit (.string a.Op), .lit (.int .i64 a.L.K), .lit (.string a.L.S), .lit (.int .i64 a.L.V.K), .lit (.int .i64 a.L.V.N), .lit (.string a.L.V.S), .lit (.int .i64 a.R.K), .lit (.string a.R.S), .lit (.int .i64 a.R.V.K), .lit (.int .i64 a.R.V.N), .lit (.string a.R.V.S)]) := hb _ (List.mem_cons_self)
  have hl_a_Op : a.Op.size ≤ 9223372036854775807 := Bd.str (hb_a _ (by simp))
  have hl_a_L_S : a.L.S.size ≤ 9223372036854775807 := Bd.str (hb_a _ (by simp))
  have hl_a_L_V_S : a.L.V.S.size ≤ 9223372036854775807 := Bd.str (hb_a _ (by simp))
  have hl_a_R_S : a.R.S.size ≤ 9223372036854775807 := Bd.str (hb_a _ (by simp))
  have hl_a_R_V_S : a.R.V.S.size ≤ 9223372036854775807 := Bd.str (hb_a _ (by simp))
  have hb_b : BdDV (U := UU) (.agg [.lit (.string b.Op), .lit (.int .i64 b.L.K), .lit (.string b.L.S), .lit (.int .i64 b.L.V.K), .lit (.int .i64 b.L.V.N), .lit (.string b.L.V.S), .lit (.int .i64 b.R.K), .lit (.string b.R.S), .lit (.int .i64 b.R.V.K), .lit (.int .i64 b.R.V.N), .lit (.string b.R.V.S)]) := hb _ (List.mem_cons_of_mem _ (List.mem_cons_self))
  have hl_b_Op : b.Op.size ≤ 9223372036854775807 := Bd.str (hb_b _ (by simp))
  have hl_b_L_S : b.L.S.size ≤ 9223372036854775807 := Bd.str (hb_b _ (by simp))
  have hl_b_L_V_S : b.L.V.S.size ≤ 9223372036854775807 := Bd.str (hb_b _ (by simp))
  have hl_b_R_S : b.R.S.size ≤ 9223372036854775807 := Bd.str (hb_b _ (by simp))
  have hl_b_R_V_S : b.R.V.S.size ≤ 9223372036854775807 := Bd.str (hb_b _ (by simp))
  clear hp hb
  rw [vc_laws_eqExpr a b]
  obtain ⟨aOp, aL, aR⟩ := a
  obtain ⟨bOp, bL, bR⟩ := b
  repeat' (apply if_cond <;> intro _)
  all_goals (first | apply Lf_t | apply Lf_f) <;> simp_all
def con_laws_szExprS : Con UU where
  α := (List DExpr) × Int
  md := [.ro, .ro]
  of := fun | [.one (.sl .lExpr a0), .one (.lit (.int .i64 a1))] => some (a0, a1) | _ => none
  ds := fun (a, left) => [.one (.sl .lExpr a), .one (.lit (.int .i64 left))]
  pre := fun (a, left) => [0 ≤ left]
  res := fun (a, left) => ⟨[.one (.lit (.int .i64 (szr left (sizeExprS a))))], true, []⟩
  law := by intro l x h; (try simp only at h); split at h <;> cases h; rfl
def I_laws_szExprS_5 (a : (List DExpr)) (left : Int) : Int × Int × Unit → Prop := fun (lf, i, _) => 0 ≤ lf ∧ 0 ≤ i ∧ i ≤ a.length ∧ szr lf ((a.drop i.toNat).map sizeExpr).sum = szr left (sizeExprS a)
def μ_laws_szExprS_5 (a : (List DExpr)) (left : Int) : Int × Int × Unit → Nat := fun (lf, i, _) => a.length - i.toNat
def ann_laws_szExprS : con_laws_szExprS.α → Nat → Option (Ann UU) := fun (a, left) => annL [(5, annOf [.slot 1 (1, 1024) (.lit (.int .i64)), .slot 5 (5, 1024) (.lit (.int .i64))] (fun _ => I_laws_szExprS_5 a left) (μ_laws_szExprS_5 a left))]
def use_laws_szExprS : List (FuncId × Con UU) := [(150, con_laws_szExpr)]
theorem vc_laws_szExprS (a : (List DExpr)) (left : Int) : goal EE use_laws_szExprS Go.Proofs.Tryz.f137 con_laws_szExprS ann_laws_szExprS (a, left) = (let x0 : Int := IntKind.wrap IntKind.i64 (left - (↑(List.length a) : Int));
bif decide (x0 < (0 : Int)) then Lf [DV.one (Cell.lit (Value.int IntKind.i64 (-1 : Int)))] [DV.one (Cell.lit (Value.int IntKind.i64 (szr left (sizeExprS a))))]
else
  I_laws_szExprS_5 a left (x0, (0 : Int), PUnit.unit) ∧
    ∀ (y : Int × Int × PUnit),
      let x1 : Int := szr y.1 (sizeExpr (List.getD a (Int.toNat y.2.1) zExpr));
      I_laws_szExprS_5 a left y → bif decide (y.2.1 < (↑(List.length a) : Int)) then (0 : Int) ≤ y.2.1 ∧ Int.toNat y.2.1 < List.length a ∧ (0 : Int) ≤ y.1 ∧ bif decide (x1 < (0 : Int)) then Lf [DV.one (Cell.lit (Value.int IntKind.i64 (-1 : Int)))] [DV.one (Cell.lit (Value.int IntKind.i64 (szr left (sizeExprS a))))] else I_laws_szExprS_5 a left (x1, IntKind.wrap IntKind.i64 (y.2.1 + (1 : Int)), PUnit.unit) ∧ μ_laws_szExprS_5 a left (x1, IntKind.wrap IntKind.i64 (y.2.1 + (1 : Int)), PUnit.unit) < μ_laws_szExprS_5 a left y else Lf [DV.one (Cell.lit (Value.int IntKind.i64 y.1))] [DV.one (Cell.lit (Value.int IntKind.i64 (szr left (sizeExprS a))))]) := by kernel_rfl
theorem ok_laws_szExprS : Holds EE (137, con_laws_szExprS) := by
  refine holds_of EE_ok Go.Proofs.Tryz.func137 con_laws_szExprS (by kernel_rfl) use_laws_szExprS (all_cons ok_laws_szExpr all_nil) ann_laws_szExprS (fun x hp hb => ?_)
  obtain ⟨a, left⟩ := x
  have hb_a : BdDV (U := UU) (.one (.sl .lExpr a)) := hb _ (List.mem_cons_self)
  have hl_a : a.length ≤ 9223372036854775807 := Bd.len hb_a
  have hb_left : BdDV (U := UU) (.one (.lit (.int .i64 left))) := hb _ (List.mem_cons_of_mem _ (List.mem_cons_self))
  have hl_left := Bd.i64 hb_left
  have hp0 : 0 ≤ left := hp _ (List.mem_cons_self)
  clear hp hb
  rw [vc_laws_szExprS a left]
  dsimp only
  rw [wrap_i64 (by omega) (by omega)]
  refine if_cond (fun h => Lf_i ?_) (fun h => ⟨?_, ?_⟩)
  · simp [szr, sizeExprS] at *; omega
  · simp only [I_laws_szExprS_5, sizeExprS]; simp at h; have h' : 0 ≤ left - a.length := by omega
    exact ⟨h', by omega, by omega, szr_sub h'⟩
  rintro ⟨lf, i, ⟨⟩⟩ ⟨h0, h1, h2, hR⟩
  refine if_cond (fun hc => ?_) (fun hc => ?_)
  · have hc : i < a.length := by simpa using hc
    rw [drop_step a zExpr h1 hc, List.map_cons, List.sum_cons] at hR
    simp only at *
    rw [wrap_i64 (by omega) (by omega)]
    generalize List.getD a i.toNat zExpr = x at *
    refine ⟨by omega, by omega, by omega, if_cond (fun h => Lf_i ?_) (fun h => ⟨⟨?_, by omega, by omega, ?_⟩, ?_⟩)⟩
    · rw [← hR]; exact (szr_bad (of_decide_eq_true h)).symm
    · simp at h; omega
    · rw [← hR]; simp at h; exact szr_szr h
    · simp only [μ_laws_szExprS_5]; omega
  · have hc : a.length ≤ i := by simpa using hc
    rw [drop_end a hc] at hR
    apply Lf_i; rw [← hR]; simp [szr, h0]
def con_laws_toExprS : Con UU where
  α := (List DExpr)
  md := [.ro]
  of := fun | [.one (.sl .lExpr a0)] => some a0 | _ => none
  ds := fun a => [.one (.sl .lExpr a)]
  pre := fun a => [sizeExprS a ≤ 4294967296]
  res := fun a => ⟨[.one (.sl .eExpr a)], true, []⟩
  law := by intro l x h; (try simp only at h); split at h <;> cases h; rfl
def I_laws_toExprS_3 (a : (List DExpr)) : List DExpr × Int × Unit → Prop := fun (out, i, _) => 0 ≤ i ∧ i ≤ a.length ∧ out = a.take i.toNat ++ List.replicate (a.length - i.toNat) zExpr
def μ_laws_toExprS_3 (a : (List DExpr)) : List DExpr × Int × Unit → Nat := fun (out, i, _) => a.length - i.toNat
def ann_laws_toExprS : con_laws_toExprS.α → Nat → Option (Ann UU) := fun a => annL [(3, annOf [.slot 3 (3, 1024) (.own .eExpr true), .slot 4 (4, 1024) (.lit (.int .i64))] (fun _ => I_laws_toExprS_3 a) (μ_laws_toExprS_3 a))]
def use_laws_toExprS : List (FuncId × Con UU) := [(151, con_laws_toExpr)]
theorem vc_laws_toExprS (a : (List DExpr)) : goal EE use_laws_toExprS Go.Proofs.Tryz.f142 con_laws_toExprS ann_laws_toExprS a = (let x0 : Int := (↑(List.length a) : Int);
(0 : Int) ≤ x0 ∧
  x0 = x0 ∧
    x0 ≤ (4294967296 : Int) ∧
      I_laws_toExprS_3 a (List.replicate (Int.toNat x0) zExpr, (0 : Int), PUnit.unit) ∧
        ∀ (y : List DExpr × Int × PUnit),
          let x1 : Nat := Int.toNat y.2.1;
          I_laws_toExprS_3 a y → bif decide (y.2.1 < x0) then (0 : Int) ≤ y.2.1 ∧ x1 < List.length a ∧ sizeExpr (List.getD a x1 zExpr) ≤ (4294967296 : Nat) ∧ (0 : Int) ≤ y.2.1 ∧ x1 < List.length y.1 ∧ x1 < List.length y.1 ∧ I_laws_toExprS_3 a (List.set y.1 x1 (List.getD a x1 zExpr), IntKind.wrap IntKind.i64 (y.2.1 + (1 : Int)), PUnit.unit) ∧ μ_laws_toExprS_3 a (List.set y.1 x1 (List.getD a x1 zExpr), IntKind.wrap IntKind.i64 (y.2.1 + (1 : Int)), PUnit.unit) < μ_laws_toExprS_3 a y else Lf [DV.one (Cell.sl Cd.eExpr y.1)] [DV.one (Cell.sl Cd.eExpr a)]) := by kernel_rfl
theorem ok_laws_toExprS : Holds EE (142, con_laws_toExprS) := by
  refine holds_of EE_ok Go.Proofs.Tryz.func142 con_laws_toExprS (by kernel_rfl) use_laws_toExprS (all_cons ok_laws_toExpr all_nil) ann_laws_toExprS (fun (a : (List DExpr)) hp hb => ?_)
  have hb_a : BdDV (U := UU) (.one (.sl .lExpr a)) := hb _ (List.mem_cons_self)
  have hl_a : a.length ≤ 9223372036854775807 := Bd.len hb_a
  have hp0 : sizeExprS a ≤ 4294967296 := hp _ (List.mem_cons_self)
  clear hp hb
  rw [vc_laws_toExprS a]
  dsimp only
  have hlen : a.length ≤ 4294967296 := by simp only [sizeExprS] at hp0; omega
  refine ⟨by omega, rfl, by omega, ?_, ?_⟩
  · simp [I_laws_toExprS_3]
  rintro ⟨out, i, ⟨⟩⟩ ⟨h1, h2, rfl⟩
  simp only at *
  refine if_cond (fun hc => ?_) (fun hc => ?_)
  · have hc : i < a.length := by simpa using hc
    rw [wrap_i64 (by omega) (by omega), set_fill a zExpr h1 hc]
    exact ⟨h1, by omega, by exact Nat.le_trans (sum_getD_le sizeExpr a zExpr h1 hc) (by simp only [sizeExprS] at hp0; omega), h1, by simp; omega, by simp; omega, ⟨by omega, by omega, rfl⟩, by simp only [μ_laws_toExprS_3]; omega⟩
  · have hc : a.length ≤ i := by simpa using hc
    have e : i.toNat = a.length := by omega
    rw [e]; simp; exact Lf_rfl _
def con_laws_eqExprS : Con UU where
  α := (List DExpr) × (List DExpr)
  md := [.ro, .ro]
  of := fun | [.one (.sl .eExpr a0), .one (.sl .eExpr a1)] => some (a0, a1) | _ => none
  ds := fun (a, b) => [.one (.sl .eExpr a), .one (.sl .eExpr b)]
  pre := fun (a, b) => []
  res := fun (a, b) => ⟨[.one (.lit (.bool (decide (a = b))))], true, []⟩
  law := by intro l x h; (try simp only at h); split at h <;> cases h; rfl
def I_laws_eqExprS_4 (a : (List DExpr)) (b : (List DExpr)) : Int × Unit → Prop := fun (i, _) => 0 ≤ i ∧ i ≤ a.length ∧ a.length = b.length ∧ (a.drop i.toNat = b.drop i.toNat ↔ a = b)
def μ_laws_eqExprS_4 (a : (List DExpr)) (b : (List DExpr)) : Int × Unit → Nat := fun (i, _) => a.length - i.toNat
def ann_laws_eqExprS : con_laws_eqExprS.α → Nat → Option (Ann UU) := fun (a, b) => annL [(4, annOf [.slot 5 (5, 1024) (.lit (.int .i64))] (fun _ => I_laws_eqExprS_4 a b) (μ_laws_eqExprS_4 a b))]
def use_laws_eqExprS : List (FuncId × Con UU) := [(152, con_laws_eqExpr)]
theorem vc_laws_eqExprS (a : (List DExpr)) (b : (List DExpr)) : goal EE use_laws_eqExprS Go.Proofs.Tryz.f147 con_laws_eqExprS ann_laws_eqExprS (a, b) = (bif (↑(List.length a) : Int) != (↑(List.length b) : Int) then Lf [DV.one (Cell.lit (Value.bool false))] [DV.one (Cell.lit (Value.bool (decide (a = b))))] else I_laws_eqExprS_4 a b ((0 : Int), PUnit.unit) ∧ ∀ (y : Int × PUnit), I_laws_eqExprS_4 a b y → bif decide (y.1 < (↑(List.length a) : Int)) then (0 : Int) ≤ y.1 ∧ Int.toNat y.1 < List.length a ∧ (0 : Int) ≤ y.1 ∧ Int.toNat y.1 < List.length b ∧ bif !decide (List.getD a (Int.toNat y.1) zExpr = List.getD b (Int.toNat y.1) zExpr) then Lf [DV.one (Cell.lit (Value.bool false))] [DV.one (Cell.lit (Value.bool (decide (a = b))))] else I_laws_eqExprS_4 a b (IntKind.wrap IntKind.i64 (y.1 + (1 : Int)), PUnit.unit) ∧ μ_laws_eqExprS_4 a b (IntKind.wrap IntKind.i64 (y.1 + (1 : Int)), PUnit.unit) < μ_laws_eqExprS_4 a b y else Lf [DV.one (Cell.lit (Value.bool true))] [DV.one (Cell.lit (Value.bool (decide (a = b))))]) := by kernel_rfl
theorem ok_laws_eqExprS : Holds EE (147, con_laws_eqExprS) := by
  refine holds_of EE_ok Go.Proofs.Tryz.func147 con_laws_eqExprS (by kernel_rfl) use_laws_eqExprS (all_cons ok_laws_eqExpr all_nil) ann_laws_eqExprS (fun x hp hb => ?_)
  obtain ⟨a, b⟩ := x
  have hb_a : BdDV (U := UU) (.one (.sl .eExpr a)) := hb _ (List.mem_cons_self)
  have hl_a : a.length ≤ 9223372036854775807 := Bd.len hb_a
  have hb_b : BdDV (U := UU) (.one (.sl .eExpr b)) := hb _ (List.mem_cons_of_mem _ (List.mem_cons_self))
  have hl_b : b.length ≤ 9223372036854775807 := Bd.len hb_b
  clear hp hb
  rw [vc_laws_eqExprS a b]
  refine if_cond (fun h => Lf_f ?_) (fun h => ⟨?_, ?_⟩)
  · rintro rfl; simp at h
  · simp [I_laws_eqExprS_4] at *; omega
  rintro ⟨i, ⟨⟩⟩ ⟨h1, h2, h3, hR⟩
  simp only at *
  refine if_cond (fun hc => ?_) (fun hc => ?_)
  · have hc : i < a.length := by simpa using hc
    rw [drop_step a zExpr h1 hc, drop_step b zExpr h1 (by omega)] at hR
    rw [wrap_i64 (by omega) (by omega)]
    refine ⟨by omega, by omega, by omega, by omega, if_cond (fun h => Lf_f ?_) (fun h => ⟨⟨by omega, by omega, h3, ?_⟩, ?_⟩)⟩
    · rw [← hR]; simp at h; simp [h]
    · rw [← hR]; simp at h; simp [h]
    · simp only [μ_laws_eqExprS_4]; omega
  · have hc : a.length ≤ i := by simpa using hc
    rw [drop_end a hc, drop_end b (by omega)] at hR
    exact Lf_t (hR.1 rfl)
def con_laws_szAct : Con UU where
  α := DAct × Int
  md := [.ro, .ro]
  of := fun | [.agg [.lit (.int .i64 a0), .lit (.string a1), .sl .lExpr a2, .lit (.int .i64 a3), .lit (.string a4)], .one (.lit (.int .i64 a5))] => some (⟨a0, a1, a2, a3, a4⟩, a5) | _ => none
  ds := fun (a, left) => [.agg [.lit (.int .i64 a.Kind), .lit (.string a.Name), .sl .lExpr a.Args, .lit (.int .i64 a.N), .lit (.string a.Undo)], .one (.lit (.int .i64 left))]
  pre := fun (a, left) => [0 ≤ left]
  res := fun (a, left) => ⟨[.one (.lit (.int .i64 (szr left (sizeAct a))))], true, []⟩
  law := by intro l x h; (try simp only at h); split at h <;> cases h; rfl
def ann_laws_szAct : con_laws_szAct.α → Nat → Option (Ann UU) := fun (a, left) => annL []
def use_laws_szAct : List (FuncId × Con UU) := [(137, con_laws_szExprS)]
theorem vc_laws_szAct (a : DAct) (left : Int) : goal EE use_laws_szAct Go.Proofs.Tryz.f113 con_laws_szAct ann_laws_szAct (a, left) = (let x0 : Int := IntKind.wrap IntKind.i64 (szr (IntKind.wrap IntKind.i64 (left - (↑(ByteArray.size a.Name) : Int))) (sizeExprS a.Args) - (↑(ByteArray.size a.Undo) : Int));
let x1 : Int := IntKind.wrap IntKind.i64 (left - (↑(ByteArray.size a.Name) : Int));
bif decide (x1 < (0 : Int)) then Lf [DV.one (Cell.lit (Value.int IntKind.i64 (-1 : Int)))] [DV.one (Cell.lit (Value.int IntKind.i64 (szr left (sizeAct a))))] else (0 : Int) ≤ x1 ∧ bif decide (szr x1 (sizeExprS a.Args) < (0 : Int)) then Lf [DV.one (Cell.lit (Value.int IntKind.i64 (-1 : Int)))] [DV.one (Cell.lit (Value.int IntKind.i64 (szr left (sizeAct a))))] else bif decide (x0 < (0 : Int)) then Lf [DV.one (Cell.lit (Value.int IntKind.i64 (-1 : Int)))] [DV.one (Cell.lit (Value.int IntKind.i64 (szr left (sizeAct a))))] else Lf [DV.one (Cell.lit (Value.int IntKind.i64 x0))] [DV.one (Cell.lit (Value.int IntKind.i64 (szr left (sizeAct a))))]) := by kernel_rfl
theorem ok_laws_szAct : Holds EE (113, con_laws_szAct) := by
  refine holds_of EE_ok Go.Proofs.Tryz.func113 con_laws_szAct (by kernel_rfl) use_laws_szAct (all_cons ok_laws_szExprS all_nil) ann_laws_szAct (fun x hp hb => ?_)
  obtain ⟨a, left⟩ := x
  have hb_a : BdDV (U := UU) (.agg [.lit (.int .i64 a.Kind), .lit (.string a.Name), .sl .lExpr a.Args, .lit (.int .i64 a.N), .lit (.string a.Undo)]) := hb _ (List.mem_cons_self)
  have hl_a_Name : a.Name.size ≤ 9223372036854775807 := Bd.str (hb_a _ (by simp))
  have hl_a_Args : a.Args.length ≤ 9223372036854775807 := Bd.len (U := UU) (τ := .lExpr) (xs := a.Args) (hb_a _ (by simp))
  have hl_a_Undo : a.Undo.size ≤ 9223372036854775807 := Bd.str (hb_a _ (by simp))
  have hb_left : BdDV (U := UU) (.one (.lit (.int .i64 left))) := hb _ (List.mem_cons_of_mem _ (List.mem_cons_self))
  have hl_left := Bd.i64 hb_left
  have hp0 : 0 ≤ left := hp _ (List.mem_cons_self)
  clear hp hb
  rw [vc_laws_szAct a left]
  dsimp only
  rw [wrap_i64 (by omega) (by omega)]
  refine if_cond (fun h => Lf_i (szr_bad' ?_)) (fun h => ?_)
  · have h := of_decide_eq_true h; simp only [sizeAct]; omega
  have h0 := of_decide_eq_false h
  refine ⟨by omega, if_cond (fun h => Lf_i (szr_bad' ?_)) (fun h => ?_)⟩
  · have h := szr_neg h; simp only [sizeAct]; omega
  obtain ⟨e1, h1⟩ := szr_pos h
  rw [e1]
  rw [wrap_i64 (by omega) (by omega)]
  refine if_cond (fun h => Lf_i (szr_bad' ?_)) (fun h => ?_)
  · have h := of_decide_eq_true h; simp only [sizeAct]; omega
  have h2 := of_decide_eq_false h
  exact Lf_i (by rw [← szr_ok' (by simp only [sizeAct]; omega)]; simp only [sizeAct]; try omega)
def con_laws_toAct : Con UU where
  α := DAct
  md := [.ro]
  of := fun | [.agg [.lit (.int .i64 a0), .lit (.string a1), .sl .lExpr a2, .lit (.int .i64 a3), .lit (.string a4)]] => some ⟨a0, a1, a2, a3, a4⟩ | _ => none
  ds := fun a => [.agg [.lit (.int .i64 a.Kind), .lit (.string a.Name), .sl .lExpr a.Args, .lit (.int .i64 a.N), .lit (.string a.Undo)]]
  pre := fun a => [sizeAct a ≤ 4294967296]
  res := fun a => ⟨[.agg [.lit (.int .i64 a.Kind), .lit (.string a.Name), .sl .eExpr a.Args, .lit (.int .i64 a.N), .lit (.string a.Undo)]], true, []⟩
  law := by intro l x h; (try simp only at h); split at h <;> cases h; rfl
def ann_laws_toAct : con_laws_toAct.α → Nat → Option (Ann UU) := fun a => annL []
def use_laws_toAct : List (FuncId × Con UU) := [(142, con_laws_toExprS)]
theorem vc_laws_toAct (a : DAct) : goal EE use_laws_toAct Go.Proofs.Tryz.f121 con_laws_toAct ann_laws_toAct a = (sizeExprS a.Args ≤ (4294967296 : Nat) ∧ Lf [DV.agg [Cell.lit (Value.int IntKind.i64 a.Kind), Cell.lit (Value.string a.Name), Cell.sl Cd.eExpr a.Args, Cell.lit (Value.int IntKind.i64 a.N), Cell.lit (Value.string a.Undo)]] [DV.agg [Cell.lit (Value.int IntKind.i64 a.Kind), Cell.lit (Value.string a.Name), Cell.sl Cd.eExpr a.Args, Cell.lit (Value.int IntKind.i64 a.N), Cell.lit (Value.string a.Undo)]]) := by kernel_rfl
theorem ok_laws_toAct : Holds EE (121, con_laws_toAct) := by
  refine holds_of EE_ok Go.Proofs.Tryz.func121 con_laws_toAct (by kernel_rfl) use_laws_toAct (all_cons ok_laws_toExprS all_nil) ann_laws_toAct (fun (a : DAct) hp hb => ?_)
  have hb_a : BdDV (U := UU) (.agg [.lit (.int .i64 a.Kind), .lit (.string a.Name), .sl .lExpr a.Args, .lit (.int .i64 a.N), .lit (.string a.Undo)]) := hb _ (List.mem_cons_self)
  have hl_a_Name : a.Name.size ≤ 9223372036854775807 := Bd.str (hb_a _ (by simp))
  have hl_a_Args : a.Args.length ≤ 9223372036854775807 := Bd.len (U := UU) (τ := .lExpr) (xs := a.Args) (hb_a _ (by simp))
  have hl_a_Undo : a.Undo.size ≤ 9223372036854775807 := Bd.str (hb_a _ (by simp))
  have hp0 : sizeAct a ≤ 4294967296 := hp _ (List.mem_cons_self)
  clear hp hb
  rw [vc_laws_toAct a]
  simp only [sizeAct] at hp0
  repeat' (first | exact Lf_rfl _ | (refine And.intro (by omega) ?_))
def con_laws_eqAct : Con UU where
  α := DAct × DAct
  md := [.ro, .ro]
  of := fun | [.agg [.lit (.int .i64 a0), .lit (.string a1), .sl .eExpr a2, .lit (.int .i64 a3), .lit (.string a4)], .agg [.lit (.int .i64 a5), .lit (.string a6), .sl .eExpr a7, .lit (.int .i64 a8), .lit (.string a9)]] => some (⟨a0, a1, a2, a3, a4⟩, ⟨a5, a6, a7, a8, a9⟩) | _ => none
  ds := fun (a, b) => [.agg [.lit (.int .i64 a.Kind), .lit (.string a.Name), .sl .eExpr a.Args, .lit (.int .i64 a.N), .lit (.string a.Undo)], .agg [.lit (.int .i64 b.Kind), .lit (.string b.Name), .sl .eExpr b.Args, .lit (.int .i64 b.N), .lit (.string b.Undo)]]
  pre := fun (a, b) => []
  res := fun (a, b) => ⟨[.one (.lit (.bool (decide (a = b))))], true, []⟩
  law := by intro l x h; (try simp only at h); split at h <;> cases h; rfl
def ann_laws_eqAct : con_laws_eqAct.α → Nat → Option (Ann UU) := fun (a, b) => annL []
def use_laws_eqAct : List (FuncId × Con UU) := [(147, con_laws_eqExprS)]
theorem vc_laws_eqAct (a : DAct) (b : DAct) : goal EE use_laws_eqAct Go.Proofs.Tryz.f129 con_laws_eqAct ann_laws_eqAct (a, b) = (bif a.Kind != b.Kind then Lf [DV.one (Cell.lit (Value.bool false))] [DV.one (Cell.lit (Value.bool (decide (a = b))))] else bif !ByteArray.toList a.Name == ByteArray.toList b.Name then Lf [DV.one (Cell.lit (Value.bool false))] [DV.one (Cell.lit (Value.bool (decide (a = b))))] else bif !decide (a.Args = b.Args) then Lf [DV.one (Cell.lit (Value.bool false))] [DV.one (Cell.lit (Value.bool (decide (a = b))))] else bif a.N != b.N then Lf [DV.one (Cell.lit (Value.bool false))] [DV.one (Cell.lit (Value.bool (decide (a = b))))] else bif !ByteArray.toList a.Undo == ByteArray.toList b.Undo then Lf [DV.one (Cell.lit (Value.bool false))] [DV.one (Cell.lit (Value.bool (decide (a = b))))] else Lf [DV.one (Cell.lit (Value.bool true))] [DV.one (Cell.lit (Value.bool (decide (a = b))))]) := by kernel_rfl
theorem ok_laws_eqAct : Holds EE (129, con_laws_eqAct) := by
  refine holds_of EE_ok Go.Proofs.Tryz.func129 con_laws_eqAct (by kernel_rfl) use_laws_eqAct (all_cons ok_laws_eqExprS all_nil) ann_laws_eqAct (fun x hp hb => ?_)
  obtain ⟨a, b⟩ := x
  have hb_a : BdDV (U := UU) (.agg [.lit (.int .i64 a.Kind), .lit (.string a.Name), .sl .eExpr a.Args, .lit (.int .i64 a.N), .lit (.string a.Undo)]) := hb _ (List.mem_cons_self)
  have hl_a_Name : a.Name.size ≤ 9223372036854775807 := Bd.str (hb_a _ (by simp))
  have hl_a_Args : a.Args.length ≤ 9223372036854775807 := Bd.len (U := UU) (τ := .eExpr) (xs := a.Args) (hb_a _ (by simp))
  have hl_a_Undo : a.Undo.size ≤ 9223372036854775807 := Bd.str (hb_a _ (by simp))
  have hb_b : BdDV (U := UU) (.agg [.lit (.int .i64 b.Kind), .lit (.string b.Name), .sl .eExpr b.Args, .lit (.int .i64 b.N), .lit (.string b.Undo)]) := hb _ (List.mem_cons_of_mem _ (List.mem_cons_self))
  have hl_b_Name : b.Name.size ≤ 9223372036854775807 := Bd.str (hb_b _ (by simp))
  have hl_b_Args : b.Args.length ≤ 9223372036854775807 := Bd.len (U := UU) (τ := .eExpr) (xs := b.Args) (hb_b _ (by simp))
  have hl_b_Undo : b.Undo.size ≤ 9223372036854775807 := Bd.str (hb_b _ (by simp))
  clear hp hb
  rw [vc_laws_eqAct a b]
  obtain ⟨aKind, aName, aArgs, aN, aUndo⟩ := a
  obtain ⟨bKind, bName, bArgs, bN, bUndo⟩ := b
  repeat' (apply if_cond <;> intro _)
  all_goals (first | apply Lf_t | apply Lf_f) <;> simp_all
end
end AM
