/- Functions of the program with their contracts: put together by gen/link.py for FnExactEnded. -/
import Derived.Test.YtdpgbnahacdkeaaAmLib
import Derived.Test.YtdpgbnahacdkeaaAmModels
namespace AM
open Go
set_option linter.unusedVariables false
set_option linter.unusedSimpArgs false
set_option maxRecDepth 100000
noncomputable section
def smallB (b : Int) : Bool := decide (97 ≤ b ∧ b ≤ 122)
def wordB (b : Int) : Bool := smallB b || decide (48 ≤ b ∧ b ≤ 57) || decide (b = 95)
def wordS (s : ByteArray) : Bool := (bs s).all (byteP wordB)
def nameOk (s : ByteArray) : Bool := decide (1 ≤ s.size ∧ s.size ≤ 12) && smallB (List.getD (bs s) 0 0).toNat && wordS s
def valOk (v : DVal) : Bool := bif decide (v.K = 1) then decide (-1000000000 ≤ v.N ∧ v.N ≤ 1000000000) && decide (v.S = noBytes) else bif decide (v.K = 2) then decide (v.N = 0) && decide (v.S.size ≤ 20) && wordS v.S else false
def factOk (f : DFact) : Bool := nameOk f.Kind && decide (f.Fields.length ≤ 5) && f.Fields.all valOk
def con_laws_szIntS : Con UU where
  α := (List Int) × Int
  md := [.ro, .ro]
  of := fun | [.one (.sl .int a0), .one (.lit (.int .i64 a1))] => some (a0, a1) | _ => none
  ds := fun (a, left) => [.one (.sl .int a), .one (.lit (.int .i64 left))]
  pre := fun (a, left) => [0 ≤ left]
  res := fun (a, left) => ⟨[.one (.lit (.int .i64 (szr left (sizeIntS a))))], true, []⟩
  law := by intro l x h; (try simp only at h); split at h <;> cases h; rfl
def ann_laws_szIntS : con_laws_szIntS.α → Nat → Option (Ann UU) := fun (a, left) => annL []
def use_laws_szIntS : List (FuncId × Con UU) := []
theorem vc_laws_szIntS (a : (List Int)) (left : Int) : goal EE use_laws_szIntS Go.Proofs.Try.f187 con_laws_szIntS ann_laws_szIntS (a, left) = (let x0 : Int := IntKind.wrap IntKind.i64 (left - (↑(List.length a) : Int));
bif decide (x0 < (0 : Int)) then Lf [DV.one (Cell.lit (Value.int IntKind.i64 (-1 : Int)))] [DV.one (Cell.lit (Value.int IntKind.i64 (szr left (sizeIntS a))))] else Lf [DV.one (Cell.lit (Value.int IntKind.i64 x0))] [DV.one (Cell.lit (Value.int IntKind.i64 (szr left (sizeIntS a))))]) := by kernel_rfl
theorem ok_laws_szIntS : Holds EE (187, con_laws_szIntS) := by
  refine holds_of EE_ok Go.Proofs.Try.func187 con_laws_szIntS (by kernel_rfl) rfl use_laws_szIntS all_nil ann_laws_szIntS (fun x hp hb => ?_)
  obtain ⟨a, left⟩ := x
  have hb_a : BdDV (U := UU) (.one (.sl .int a)) := hb _ (List.mem_cons_self)
  have hl_a : a.length ≤ 9223372036854775807 := Bd.len hb_a
  have hb_left : BdDV (U := UU) (.one (.lit (.int .i64 left))) := hb _ (List.mem_cons_of_mem _ (List.mem_cons_self))
  have hl_left := Bd.i64 hb_left
  have hp0 : 0 ≤ left := hp _ (List.mem_cons_self)
  clear hp hb
  rw [vc_laws_szIntS a left]
  dsimp only
  rw [wrap_i64 (by omega) (by omega)]
  refine if_cond (fun h => Lf_i (szr_bad' ?_)) (fun h => ?_)
  · have h := of_decide_eq_true h; simp only [sizeIntS]; omega
  have h := of_decide_eq_false h
  exact Lf_i (by rw [← szr_ok' (by simp only [sizeIntS]; omega)]; simp only [sizeIntS])
def con_laws_toIntS : Con UU where
  α := (List Int)
  md := [.ro]
  of := fun | [.one (.sl .int a0)] => some a0 | _ => none
  ds := fun a => [.one (.sl .int a)]
  pre := fun a => [sizeIntS a ≤ 4294967296]
  res := fun a => ⟨[.one (.sl .int a)], true, []⟩
  law := by intro l x h; (try simp only at h); split at h <;> cases h; rfl
def I_laws_toIntS_3 (a : (List Int)) : List Int × Int × Unit → Prop := fun (out, i, _) => 0 ≤ i ∧ i ≤ a.length ∧ out = a.take i.toNat ++ List.replicate (a.length - i.toNat) (0 : Int)
def μ_laws_toIntS_3 (a : (List Int)) : List Int × Int × Unit → Nat := fun (out, i, _) => a.length - i.toNat
def ann_laws_toIntS : con_laws_toIntS.α → Nat → Option (Ann UU) := fun a => annL [(3, annOf [.slot 3 (3, 1024) (.own .int true), .slot 4 (4, 1024) (.lit (.int .i64))] (fun _ => I_laws_toIntS_3 a) (μ_laws_toIntS_3 a))]
def use_laws_toIntS : List (FuncId × Con UU) := []
theorem vc_laws_toIntS (a : (List Int)) : goal EE use_laws_toIntS Go.Proofs.Try.f190 con_laws_toIntS ann_laws_toIntS a = (let x0 : Int := (↑(List.length a) : Int);
(0 : Int) ≤ x0 ∧
  x0 = x0 ∧
    x0 ≤ (4294967296 : Int) ∧
      I_laws_toIntS_3 a (List.replicate (Int.toNat x0) (0 : Int), (0 : Int), PUnit.unit) ∧
        ∀ (y : List Int × Int × PUnit),
          let x1 : Nat := Int.toNat y.2.1;
          I_laws_toIntS_3 a y → bif decide (y.2.1 < x0) then (0 : Int) ≤ y.2.1 ∧ x1 < List.length a ∧ (0 : Int) ≤ y.2.1 ∧ x1 < List.length y.1 ∧ x1 < List.length y.1 ∧ I_laws_toIntS_3 a (List.set y.1 x1 (List.getD a x1 (0 : Int)), IntKind.wrap IntKind.i64 (y.2.1 + (1 : Int)), PUnit.unit) ∧ μ_laws_toIntS_3 a (List.set y.1 x1 (List.getD a x1 (0 : Int)), IntKind.wrap IntKind.i64 (y.2.1 + (1 : Int)), PUnit.unit) < μ_laws_toIntS_3 a y else Lf [DV.one (Cell.sl Cd.int y.1)] [DV.one (Cell.sl Cd.int a)]) := by kernel_rfl
theorem ok_laws_toIntS : Holds EE (190, con_laws_toIntS) := by
  refine holds_of EE_ok Go.Proofs.Try.func190 con_laws_toIntS (by kernel_rfl) rfl use_laws_toIntS all_nil ann_laws_toIntS (fun (a : (List Int)) hp hb => ?_)
  have hb_a : BdDV (U := UU) (.one (.sl .int a)) := hb _ (List.mem_cons_self)
  have hl_a : a.length ≤ 9223372036854775807 := Bd.len hb_a
  have hp0 : sizeIntS a ≤ 4294967296 := hp _ (List.mem_cons_self)
  clear hp hb
  rw [vc_laws_toIntS a]
  dsimp only
  have hlen : a.length ≤ 4294967296 := by simp only [sizeIntS] at hp0; omega
  refine ⟨by omega, rfl, by omega, ?_, ?_⟩
  · simp [I_laws_toIntS_3]
  rintro ⟨out, i, ⟨⟩⟩ ⟨h1, h2, rfl⟩
  simp only at *
  refine if_cond (fun hc => ?_) (fun hc => ?_)
  · have hc : i < a.length := by simpa using hc
    rw [wrap_i64 (by omega) (by omega), set_fill a (0 : Int) h1 hc]
    exact ⟨h1, by omega, h1, by simp; omega, by simp; omega, ⟨by omega, by omega, rfl⟩, by simp only [μ_laws_toIntS_3]; omega⟩
  · have hc : a.length ≤ i := by simpa using hc
    have e : i.toNat = a.length := by omega
    rw [e]; simp; exact Lf_rfl _
def con_laws_eqIntS : Con UU where
  α := (List Int) × (List Int)
  md := [.ro, .ro]
  of := fun | [.one (.sl .int a0), .one (.sl .int a1)] => some (a0, a1) | _ => none
  ds := fun (a, b) => [.one (.sl .int a), .one (.sl .int b)]
  pre := fun (a, b) => []
  res := fun (a, b) => ⟨[.one (.lit (.bool (decide (a = b))))], true, []⟩
  law := by intro l x h; (try simp only at h); split at h <;> cases h; rfl
def I_laws_eqIntS_4 (a : (List Int)) (b : (List Int)) : Int × Unit → Prop := fun (i, _) => 0 ≤ i ∧ i ≤ a.length ∧ a.length = b.length ∧ (a.drop i.toNat = b.drop i.toNat ↔ a = b)
def μ_laws_eqIntS_4 (a : (List Int)) (b : (List Int)) : Int × Unit → Nat := fun (i, _) => a.length - i.toNat
def ann_laws_eqIntS : con_laws_eqIntS.α → Nat → Option (Ann UU) := fun (a, b) => annL [(4, annOf [.slot 5 (5, 1024) (.lit (.int .i64))] (fun _ => I_laws_eqIntS_4 a b) (μ_laws_eqIntS_4 a b))]
def use_laws_eqIntS : List (FuncId × Con UU) := []
theorem vc_laws_eqIntS (a : (List Int)) (b : (List Int)) : goal EE use_laws_eqIntS Go.Proofs.Try.f184 con_laws_eqIntS ann_laws_eqIntS (a, b) = (bif (↑(List.length a) : Int) != (↑(List.length b) : Int) then Lf [DV.one (Cell.lit (Value.bool false))] [DV.one (Cell.lit (Value.bool (decide (a = b))))] else I_laws_eqIntS_4 a b ((0 : Int), PUnit.unit) ∧ ∀ (y : Int × PUnit), I_laws_eqIntS_4 a b y → bif decide (y.1 < (↑(List.length a) : Int)) then (0 : Int) ≤ y.1 ∧ Int.toNat y.1 < List.length a ∧ (0 : Int) ≤ y.1 ∧ Int.toNat y.1 < List.length b ∧ bif List.getD a (Int.toNat y.1) (0 : Int) != List.getD b (Int.toNat y.1) (0 : Int) then Lf [DV.one (Cell.lit (Value.bool false))] [DV.one (Cell.lit (Value.bool (decide (a = b))))] else I_laws_eqIntS_4 a b (IntKind.wrap IntKind.i64 (y.1 + (1 : Int)), PUnit.unit) ∧ μ_laws_eqIntS_4 a b (IntKind.wrap IntKind.i64 (y.1 + (1 : Int)), PUnit.unit) < μ_laws_eqIntS_4 a b y else Lf [DV.one (Cell.lit (Value.bool true))] [DV.one (Cell.lit (Value.bool (decide (a = b))))]) := by kernel_rfl
theorem ok_laws_eqIntS : Holds EE (184, con_laws_eqIntS) := by
  refine holds_of EE_ok Go.Proofs.Try.func184 con_laws_eqIntS (by kernel_rfl) rfl use_laws_eqIntS all_nil ann_laws_eqIntS (fun x hp hb => ?_)
  obtain ⟨a, b⟩ := x
  have hb_a : BdDV (U := UU) (.one (.sl .int a)) := hb _ (List.mem_cons_self)
  have hl_a : a.length ≤ 9223372036854775807 := Bd.len hb_a
  have hb_b : BdDV (U := UU) (.one (.sl .int b)) := hb _ (List.mem_cons_of_mem _ (List.mem_cons_self))
  have hl_b : b.length ≤ 9223372036854775807 := Bd.len hb_b
  clear hp hb
  rw [vc_laws_eqIntS a b]
  refine if_cond (fun h => Lf_f ?_) (fun h => ⟨?_, ?_⟩)
  · rintro rfl; simp at h
  · simp [I_laws_eqIntS_4] at *; omega
  rintro ⟨i, ⟨⟩⟩ ⟨h1, h2, h3, hR⟩
  simp only at *
  refine if_cond (fun hc => ?_) (fun hc => ?_)
  · have hc : i < a.length := by simpa using hc
    rw [drop_step a (0 : Int) h1 hc, drop_step b (0 : Int) h1 (by omega)] at hR
    rw [wrap_i64 (by omega) (by omega)]
    refine ⟨by omega, by omega, by omega, by omega, if_cond (fun h => Lf_f ?_) (fun h => ⟨⟨by omega, by omega, h3, ?_⟩, ?_⟩)⟩
    · rw [← hR]; simp at h; simp [h]
    · rw [← hR]; simp at h; simp [h]
    · simp only [μ_laws_eqIntS_4]; omega
  · have hc : a.length ≤ i := by simpa using hc
    rw [drop_end a hc, drop_end b (by omega)] at hR
    exact Lf_t (hR.1 rfl)
def con_laws_szVal : Con UU where
  α := DVal × Int
  md := [.ro, .ro]
  of := fun | [.agg [.lit (.int .i64 a0), .lit (.int .i64 a1), .lit (.string a2)], .one (.lit (.int .i64 a3))] => some (⟨a0, a1, a2⟩, a3) | _ => none
  ds := fun (a, left) => [.agg [.lit (.int .i64 a.K), .lit (.int .i64 a.N), .lit (.string a.S)], .one (.lit (.int .i64 left))]
  pre := fun (a, left) => [0 ≤ left]
  res := fun (a, left) => ⟨[.one (.lit (.int .i64 (szr left (sizeVal a))))], true, []⟩
  law := by intro l x h; (try simp only at h); split at h <;> cases h; rfl
def ann_laws_szVal : con_laws_szVal.α → Nat → Option (Ann UU) := fun (a, left) => annL []
def use_laws_szVal : List (FuncId × Con UU) := []
theorem vc_laws_szVal (a : DVal) (left : Int) : goal EE use_laws_szVal Go.Proofs.Try.f76 con_laws_szVal ann_laws_szVal (a, left) = (let x0 : Int := IntKind.wrap IntKind.i64 (left - (↑(ByteArray.size a.S) : Int));
bif decide (x0 < (0 : Int)) then Lf [DV.one (Cell.lit (Value.int IntKind.i64 (-1 : Int)))] [DV.one (Cell.lit (Value.int IntKind.i64 (szr left (sizeVal a))))] else Lf [DV.one (Cell.lit (Value.int IntKind.i64 x0))] [DV.one (Cell.lit (Value.int IntKind.i64 (szr left (sizeVal a))))]) := by kernel_rfl
theorem ok_laws_szVal : Holds EE (76, con_laws_szVal) := by
  refine holds_of EE_ok Go.Proofs.Try.func76 con_laws_szVal (by kernel_rfl) rfl use_laws_szVal all_nil ann_laws_szVal (fun x hp hb => ?_)
  obtain ⟨a, left⟩ := x
  have hb_a : BdDV (U := UU) (.agg [.lit (.int .i64 a.K), .lit (.int .i64 a.N), .lit (.string a.S)]) := hb _ (List.mem_cons_self)
  have hl_a_S : a.S.size ≤ 9223372036854775807 := Bd.str (hb_a _ (by simp))
  have hb_left : BdDV (U := UU) (.one (.lit (.int .i64 left))) := hb _ (List.mem_cons_of_mem _ (List.mem_cons_self))
  have hl_left := Bd.i64 hb_left
  have hp0 : 0 ≤ left := hp _ (List.mem_cons_self)
  clear hp hb
  rw [vc_laws_szVal a left]
  dsimp only
  rw [wrap_i64 (by omega) (by omega)]
  refine if_cond (fun h => Lf_i (szr_bad' ?_)) (fun h => ?_)
  · have h := of_decide_eq_true h; simp only [sizeVal]; omega
  have h0 := of_decide_eq_false h
  exact Lf_i (by rw [← szr_ok' (by simp only [sizeVal]; omega)]; simp only [sizeVal]; try omega)
def con_laws_toVal : Con UU where
  α := DVal
  md := [.ro]
  of := fun | [.agg [.lit (.int .i64 a0), .lit (.int .i64 a1), .lit (.string a2)]] => some ⟨a0, a1, a2⟩ | _ => none
  ds := fun a => [.agg [.lit (.int .i64 a.K), .lit (.int .i64 a.N), .lit (.string a.S)]]
  pre := fun a => [sizeVal a ≤ 4294967296]
  res := fun a => ⟨[.agg [.lit (.int .i64 a.K), .lit (.int .i64 a.N), .lit (.string a.S)]], true, []⟩
  law := by intro l x h; (try simp only at h); split at h <;> cases h; rfl
def ann_laws_toVal : con_laws_toVal.α → Nat → Option (Ann UU) := fun a => annL []
def use_laws_toVal : List (FuncId × Con UU) := []
theorem vc_laws_toVal (a : DVal) : goal EE use_laws_toVal Go.Proofs.Try.f80 con_laws_toVal ann_laws_toVal a = (Lf [DV.agg [Cell.lit (Value.int IntKind.i64 a.K), Cell.lit (Value.int IntKind.i64 a.N), Cell.lit (Value.string a.S)]] [DV.agg [Cell.lit (Value.int IntKind.i64 a.K), Cell.lit (Value.int IntKind.i64 a.N), Cell.lit (Value.string a.S)]]) := by kernel_rfl
theorem ok_laws_toVal : Holds EE (80, con_laws_toVal) := by
  refine holds_of EE_ok Go.Proofs.Try.func80 con_laws_toVal (by kernel_rfl) rfl use_laws_toVal all_nil ann_laws_toVal (fun (a : DVal) hp hb => ?_)
  have hb_a : BdDV (U := UU) (.agg [.lit (.int .i64 a.K), .lit (.int .i64 a.N), .lit (.string a.S)]) := hb _ (List.mem_cons_self)
  have hl_a_S : a.S.size ≤ 9223372036854775807 := Bd.str (hb_a _ (by simp))
  have hp0 : sizeVal a ≤ 4294967296 := hp _ (List.mem_cons_self)
  clear hp hb
  rw [vc_laws_toVal a]
  simp only [sizeVal] at hp0
  repeat' (first | exact Lf_rfl _ | (refine And.intro (by omega) ?_))
def con_laws_eqVal : Con UU where
  α := DVal × DVal
  md := [.ro, .ro]
  of := fun | [.agg [.lit (.int .i64 a0), .lit (.int .i64 a1), .lit (.string a2)], .agg [.lit (.int .i64 a3), .lit (.int .i64 a4), .lit (.string a5)]] => some (⟨a0, a1, a2⟩, ⟨a3, a4, a5⟩) | _ => none
  ds := fun (a, b) => [.agg [.lit (.int .i64 a.K), .lit (.int .i64 a.N), .lit (.string a.S)], .agg [.lit (.int .i64 b.K), .lit (.int .i64 b.N), .lit (.string b.S)]]
  pre := fun (a, b) => []
  res := fun (a, b) => ⟨[.one (.lit (.bool (decide (a = b))))], true, []⟩
  law := by intro l x h; (try simp only at h); split at h <;> cases h; rfl
def ann_laws_eqVal : con_laws_eqVal.α → Nat → Option (Ann UU) := fun (a, b) => annL []
def use_laws_eqVal : List (FuncId × Con UU) := []
theorem vc_laws_eqVal (a : DVal) (b : DVal) : goal EE use_laws_eqVal Go.Proofs.Try.f82 con_laws_eqVal ann_laws_eqVal (a, b) = (bif a.K != b.K then Lf [DV.one (Cell.lit (Value.bool false))] [DV.one (Cell.lit (Value.bool (decide (a = b))))] else bif a.N != b.N then Lf [DV.one (Cell.lit (Value.bool false))] [DV.one (Cell.lit (Value.bool (decide (a = b))))] else bif !ByteArray.toList a.S == ByteArray.toList b.S then Lf [DV.one (Cell.lit (Value.bool false))] [DV.one (Cell.lit (Value.bool (decide (a = b))))] else Lf [DV.one (Cell.lit (Value.bool true))] [DV.one (Cell.lit (Value.bool (decide (a = b))))]) := by kernel_rfl
theorem ok_laws_eqVal : Holds EE (82, con_laws_eqVal) := by
  refine holds_of EE_ok Go.Proofs.Try.func82 con_laws_eqVal (by kernel_rfl) rfl use_laws_eqVal all_nil ann_laws_eqVal (fun x hp hb => ?_)
  obtain ⟨a, b⟩ := x
  have hb_a : BdDV (U := UU) (.agg [.lit (.int .i64 a.K), .lit (.int .i64 a.N), .lit (.string a.S)]) := hb _ (List.mem_cons_self)
  have hl_a_S : a.S.size ≤ 9223372036854775807 := Bd.str (hb_a _ (by simp))
  have hb_b : BdDV (U := UU) (.agg [.lit (.int .i64 b.K), .lit (.int .i64 b.N), .lit (.string b.S)]) := hb _ (List.mem_cons_of_mem _ (List.mem_cons_self))
  have hl_b_S : b.S.size ≤ 9223372036854775807 := Bd.str (hb_b _ (by simp))
  clear hp hb
  rw [vc_laws_eqVal a b]
  obtain ⟨aK, aN, aS⟩ := a
  obtain ⟨bK, bN, bS⟩ := b
  repeat' (apply if_cond <;> intro _)
  all_goals (first | apply Lf_t | apply Lf_f) <;> simp_all
def con_laws_szValS : Con UU where
  α := (List DVal) × Int
  md := [.ro, .ro]
  of := fun | [.one (.sl .lVal a0), .one (.lit (.int .i64 a1))] => some (a0, a1) | _ => none
  ds := fun (a, left) => [.one (.sl .lVal a), .one (.lit (.int .i64 left))]
  pre := fun (a, left) => [0 ≤ left]
  res := fun (a, left) => ⟨[.one (.lit (.int .i64 (szr left (sizeValS a))))], true, []⟩
  law := by intro l x h; (try simp only at h); split at h <;> cases h; rfl
def I_laws_szValS_5 (a : (List DVal)) (left : Int) : Int × Int × Unit → Prop := fun (lf, i, _) => 0 ≤ lf ∧ 0 ≤ i ∧ i ≤ a.length ∧ szr lf ((a.drop i.toNat).map sizeVal).sum = szr left (sizeValS a)
def μ_laws_szValS_5 (a : (List DVal)) (left : Int) : Int × Int × Unit → Nat := fun (lf, i, _) => a.length - i.toNat
def ann_laws_szValS : con_laws_szValS.α → Nat → Option (Ann UU) := fun (a, left) => annL [(5, annOf [.slot 1 (1, 1024) (.lit (.int .i64)), .slot 5 (5, 1024) (.lit (.int .i64))] (fun _ => I_laws_szValS_5 a left) (μ_laws_szValS_5 a left))]
def use_laws_szValS : List (FuncId × Con UU) := [(76, con_laws_szVal)]
theorem vc_laws_szValS (a : (List DVal)) (left : Int) : goal EE use_laws_szValS Go.Proofs.Try.f114 con_laws_szValS ann_laws_szValS (a, left) = (let x0 : Int := IntKind.wrap IntKind.i64 (left - (↑(List.length a) : Int));
bif decide (x0 < (0 : Int)) then Lf [DV.one (Cell.lit (Value.int IntKind.i64 (-1 : Int)))] [DV.one (Cell.lit (Value.int IntKind.i64 (szr left (sizeValS a))))]
else
  I_laws_szValS_5 a left (x0, (0 : Int), PUnit.unit) ∧
    ∀ (y : Int × Int × PUnit),
      let x1 : Int := szr y.1 (sizeVal (List.getD a (Int.toNat y.2.1) zVal));
      I_laws_szValS_5 a left y → bif decide (y.2.1 < (↑(List.length a) : Int)) then (0 : Int) ≤ y.2.1 ∧ Int.toNat y.2.1 < List.length a ∧ (0 : Int) ≤ y.1 ∧ bif decide (x1 < (0 : Int)) then Lf [DV.one (Cell.lit (Value.int IntKind.i64 (-1 : Int)))] [DV.one (Cell.lit (Value.int IntKind.i64 (szr left (sizeValS a))))] else I_laws_szValS_5 a left (x1, IntKind.wrap IntKind.i64 (y.2.1 + (1 : Int)), PUnit.unit) ∧ μ_laws_szValS_5 a left (x1, IntKind.wrap IntKind.i64 (y.2.1 + (1 : Int)), PUnit.unit) < μ_laws_szValS_5 a left y else Lf [DV.one (Cell.lit (Value.int IntKind.i64 y.1))] [DV.one (Cell.lit (Value.int IntKind.i64 (szr left (sizeValS a))))]) := by kernel_rfl
theorem ok_laws_szValS : Holds EE (114, con_laws_szValS) := by
  refine holds_of EE_ok Go.Proofs.Try.func114 con_laws_szValS (by kernel_rfl) rfl use_laws_szValS (all_cons ok_laws_szVal all_nil) ann_laws_szValS (fun x hp hb => ?_)
  obtain ⟨a, left⟩ := x
  have hb_a : BdDV (U := UU) (.one (.sl .lVal a)) := hb _ (List.mem_cons_self)
  have hl_a : a.length ≤ 9223372036854775807 := Bd.len hb_a
  have hb_left : BdDV (U := UU) (.one (.lit (.int .i64 left))) := hb _ (List.mem_cons_of_mem _ (List.mem_cons_self))
  have hl_left := Bd.i64 hb_left
  have hp0 : 0 ≤ left := hp _ (List.mem_cons_self)
  clear hp hb
  rw [vc_laws_szValS a left]
  dsimp only
  rw [wrap_i64 (by omega) (by omega)]
  refine if_cond (fun h => Lf_i ?_) (fun h => ⟨?_, ?_⟩)
  · simp [szr, sizeValS] at *; omega
  · simp only [I_laws_szValS_5, sizeValS]; simp at h; have h' : 0 ≤ left - a.length := by omega
    exact ⟨h', by omega, by omega, szr_sub h'⟩
  rintro ⟨lf, i, ⟨⟩⟩ ⟨h0, h1, h2, hR⟩
  refine if_cond (fun hc => ?_) (fun hc => ?_)
  · have hc : i < a.length := by simpa using hc
    rw [drop_step a zVal h1 hc, List.map_cons, List.sum_cons] at hR
    simp only at *
    rw [wrap_i64 (by omega) (by omega)]
    generalize List.getD a i.toNat zVal = x at *
    refine ⟨by omega, by omega, by omega, if_cond (fun h => Lf_i ?_) (fun h => ⟨⟨?_, by omega, by omega, ?_⟩, ?_⟩)⟩
    · rw [← hR]; exact (szr_bad (of_decide_eq_true h)).symm
    · simp at h; omega
    · rw [← hR]; simp at h; exact szr_szr h
    · simp only [μ_laws_szValS_5]; omega
  · have hc : a.length ≤ i := by simpa using hc
    rw [drop_end a hc] at hR
    apply Lf_i; rw [← hR]; simp [szr, h0]
def con_laws_toValS : Con UU where
  α := (List DVal)
  md := [.ro]
  of := fun | [.one (.sl .lVal a0)] => some a0 | _ => none
  ds := fun a => [.one (.sl .lVal a)]
  pre := fun a => [sizeValS a ≤ 4294967296]
  res := fun a => ⟨[.one (.sl .eVal a)], true, []⟩
  law := by intro l x h; (try simp only at h); split at h <;> cases h; rfl
def I_laws_toValS_3 (a : (List DVal)) : List DVal × Int × Unit → Prop := fun (out, i, _) => 0 ≤ i ∧ i ≤ a.length ∧ out = a.take i.toNat ++ List.replicate (a.length - i.toNat) zVal
def μ_laws_toValS_3 (a : (List DVal)) : List DVal × Int × Unit → Nat := fun (out, i, _) => a.length - i.toNat
def ann_laws_toValS : con_laws_toValS.α → Nat → Option (Ann UU) := fun a => annL [(3, annOf [.slot 3 (3, 1024) (.own .eVal true), .slot 4 (4, 1024) (.lit (.int .i64))] (fun _ => I_laws_toValS_3 a) (μ_laws_toValS_3 a))]
def use_laws_toValS : List (FuncId × Con UU) := [(80, con_laws_toVal)]
theorem vc_laws_toValS (a : (List DVal)) : goal EE use_laws_toValS Go.Proofs.Try.f117 con_laws_toValS ann_laws_toValS a = (let x0 : Int := (↑(List.length a) : Int);
(0 : Int) ≤ x0 ∧
  x0 = x0 ∧
    x0 ≤ (4294967296 : Int) ∧
      I_laws_toValS_3 a (List.replicate (Int.toNat x0) zVal, (0 : Int), PUnit.unit) ∧
        ∀ (y : List DVal × Int × PUnit),
          let x1 : Nat := Int.toNat y.2.1;
          I_laws_toValS_3 a y → bif decide (y.2.1 < x0) then (0 : Int) ≤ y.2.1 ∧ x1 < List.length a ∧ sizeVal (List.getD a x1 zVal) ≤ (4294967296 : Nat) ∧ (0 : Int) ≤ y.2.1 ∧ x1 < List.length y.1 ∧ x1 < List.length y.1 ∧ I_laws_toValS_3 a (List.set y.1 x1 (List.getD a x1 zVal), IntKind.wrap IntKind.i64 (y.2.1 + (1 : Int)), PUnit.unit) ∧ μ_laws_toValS_3 a (List.set y.1 x1 (List.getD a x1 zVal), IntKind.wrap IntKind.i64 (y.2.1 + (1 : Int)), PUnit.unit) < μ_laws_toValS_3 a y else Lf [DV.one (Cell.sl Cd.eVal y.1)] [DV.one (Cell.sl Cd.eVal a)]) := by kernel_rfl
theorem ok_laws_toValS : Holds EE (117, con_laws_toValS) := by
  refine holds_of EE_ok Go.Proofs.Try.func117 con_laws_toValS (by kernel_rfl) rfl use_laws_toValS (all_cons ok_laws_toVal all_nil) ann_laws_toValS (fun (a : (List DVal)) hp hb => ?_)
  have hb_a : BdDV (U := UU) (.one (.sl .lVal a)) := hb _ (List.mem_cons_self)
  have hl_a : a.length ≤ 9223372036854775807 := Bd.len hb_a
  have hp0 : sizeValS a ≤ 4294967296 := hp _ (List.mem_cons_self)
  clear hp hb
  rw [vc_laws_toValS a]
  dsimp only
  have hlen : a.length ≤ 4294967296 := by simp only [sizeValS] at hp0; omega
  refine ⟨by omega, rfl, by omega, ?_, ?_⟩
  · simp [I_laws_toValS_3]
  rintro ⟨out, i, ⟨⟩⟩ ⟨h1, h2, rfl⟩
  simp only at *
  refine if_cond (fun hc => ?_) (fun hc => ?_)
  · have hc : i < a.length := by simpa using hc
    rw [wrap_i64 (by omega) (by omega), set_fill a zVal h1 hc]
    exact ⟨h1, by omega, by exact Nat.le_trans (sum_getD_le sizeVal a zVal h1 hc) (by simp only [sizeValS] at hp0; omega), h1, by simp; omega, by simp; omega, ⟨by omega, by omega, rfl⟩, by simp only [μ_laws_toValS_3]; omega⟩
  · have hc : a.length ≤ i := by simpa using hc
    have e : i.toNat = a.length := by omega
    rw [e]; simp; exact Lf_rfl _
def con_laws_eqValS : Con UU where
  α := (List DVal) × (List DVal)
  md := [.ro, .ro]
  of := fun | [.one (.sl .eVal a0), .one (.sl .eVal a1)] => some (a0, a1) | _ => none
  ds := fun (a, b) => [.one (.sl .eVal a), .one (.sl .eVal b)]
  pre := fun (a, b) => []
  res := fun (a, b) => ⟨[.one (.lit (.bool (decide (a = b))))], true, []⟩
  law := by intro l x h; (try simp only at h); split at h <;> cases h; rfl
def I_laws_eqValS_4 (a : (List DVal)) (b : (List DVal)) : Int × Unit → Prop := fun (i, _) => 0 ≤ i ∧ i ≤ a.length ∧ a.length = b.length ∧ (a.drop i.toNat = b.drop i.toNat ↔ a = b)
def μ_laws_eqValS_4 (a : (List DVal)) (b : (List DVal)) : Int × Unit → Nat := fun (i, _) => a.length - i.toNat
def ann_laws_eqValS : con_laws_eqValS.α → Nat → Option (Ann UU) := fun (a, b) => annL [(4, annOf [.slot 5 (5, 1024) (.lit (.int .i64))] (fun _ => I_laws_eqValS_4 a b) (μ_laws_eqValS_4 a b))]
def use_laws_eqValS : List (FuncId × Con UU) := [(82, con_laws_eqVal)]
theorem vc_laws_eqValS (a : (List DVal)) (b : (List DVal)) : goal EE use_laws_eqValS Go.Proofs.Try.f120 con_laws_eqValS ann_laws_eqValS (a, b) = (bif (↑(List.length a) : Int) != (↑(List.length b) : Int) then Lf [DV.one (Cell.lit (Value.bool false))] [DV.one (Cell.lit (Value.bool (decide (a = b))))] else I_laws_eqValS_4 a b ((0 : Int), PUnit.unit) ∧ ∀ (y : Int × PUnit), I_laws_eqValS_4 a b y → bif decide (y.1 < (↑(List.length a) : Int)) then (0 : Int) ≤ y.1 ∧ Int.toNat y.1 < List.length a ∧ (0 : Int) ≤ y.1 ∧ Int.toNat y.1 < List.length b ∧ bif !decide (List.getD a (Int.toNat y.1) zVal = List.getD b (Int.toNat y.1) zVal) then Lf [DV.one (Cell.lit (Value.bool false))] [DV.one (Cell.lit (Value.bool (decide (a = b))))] else I_laws_eqValS_4 a b (IntKind.wrap IntKind.i64 (y.1 + (1 : Int)), PUnit.unit) ∧ μ_laws_eqValS_4 a b (IntKind.wrap IntKind.i64 (y.1 + (1 : Int)), PUnit.unit) < μ_laws_eqValS_4 a b y else Lf [DV.one (Cell.lit (Value.bool true))] [DV.one (Cell.lit (Value.bool (decide (a = b))))]) := by kernel_rfl
theorem ok_laws_eqValS : Holds EE (120, con_laws_eqValS) := by
  refine holds_of EE_ok Go.Proofs.Try.func120 con_laws_eqValS (by kernel_rfl) rfl use_laws_eqValS (all_cons ok_laws_eqVal all_nil) ann_laws_eqValS (fun x hp hb => ?_)
  obtain ⟨a, b⟩ := x
  have hb_a : BdDV (U := UU) (.one (.sl .eVal a)) := hb _ (List.mem_cons_self)
  have hl_a : a.length ≤ 9223372036854775807 := Bd.len hb_a
  have hb_b : BdDV (U := UU) (.one (.sl .eVal b)) := hb _ (List.mem_cons_of_mem _ (List.mem_cons_self))
  have hl_b : b.length ≤ 9223372036854775807 := Bd.len hb_b
  clear hp hb
  rw [vc_laws_eqValS a b]
  refine if_cond (fun h => Lf_f ?_) (fun h => ⟨?_, ?_⟩)
  · rintro rfl; simp at h
  · simp [I_laws_eqValS_4] at *; omega
  rintro ⟨i, ⟨⟩⟩ ⟨h1, h2, h3, hR⟩
  simp only at *
  refine if_cond (fun hc => ?_) (fun hc => ?_)
  · have hc : i < a.length := by simpa using hc
    rw [drop_step a zVal h1 hc, drop_step b zVal h1 (by omega)] at hR
    rw [wrap_i64 (by omega) (by omega)]
    refine ⟨by omega, by omega, by omega, by omega, if_cond (fun h => Lf_f ?_) (fun h => ⟨⟨by omega, by omega, h3, ?_⟩, ?_⟩)⟩
    · rw [← hR]; simp at h; simp [h]
    · rw [← hR]; simp at h; simp [h]
    · simp only [μ_laws_eqValS_4]; omega
  · have hc : a.length ≤ i := by simpa using hc
    rw [drop_end a hc, drop_end b (by omega)] at hR
    exact Lf_t (hR.1 rfl)
def con_laws_szFact : Con UU where
  α := DFact × Int
  md := [.ro, .ro]
  of := fun | [.agg [.lit (.string a0), .sl .lVal a1], .one (.lit (.int .i64 a2))] => some (⟨a0, a1⟩, a2) | _ => none
  ds := fun (a, left) => [.agg [.lit (.string a.Kind), .sl .lVal a.Fields], .one (.lit (.int .i64 left))]
  pre := fun (a, left) => [0 ≤ left]
  res := fun (a, left) => ⟨[.one (.lit (.int .i64 (szr left (sizeFact a))))], true, []⟩
  law := by intro l x h; (try simp only at h); split at h <;> cases h; rfl
def ann_laws_szFact : con_laws_szFact.α → Nat → Option (Ann UU) := fun (a, left) => annL []
def use_laws_szFact : List (FuncId × Con UU) := [(114, con_laws_szValS)]
theorem vc_laws_szFact (a : DFact) (left : Int) : goal EE use_laws_szFact Go.Proofs.Try.f49 con_laws_szFact ann_laws_szFact (a, left) = (let x0 : Int := IntKind.wrap IntKind.i64 (left - (↑(ByteArray.size a.Kind) : Int));
bif decide (x0 < (0 : Int)) then Lf [DV.one (Cell.lit (Value.int IntKind.i64 (-1 : Int)))] [DV.one (Cell.lit (Value.int IntKind.i64 (szr left (sizeFact a))))] else (0 : Int) ≤ x0 ∧ bif decide (szr x0 (sizeValS a.Fields) < (0 : Int)) then Lf [DV.one (Cell.lit (Value.int IntKind.i64 (-1 : Int)))] [DV.one (Cell.lit (Value.int IntKind.i64 (szr left (sizeFact a))))] else Lf [DV.one (Cell.lit (Value.int IntKind.i64 (szr x0 (sizeValS a.Fields))))] [DV.one (Cell.lit (Value.int IntKind.i64 (szr left (sizeFact a))))]) := by kernel_rfl
theorem ok_laws_szFact : Holds EE (49, con_laws_szFact) := by
  refine holds_of EE_ok Go.Proofs.Try.func49 con_laws_szFact (by kernel_rfl) rfl use_laws_szFact (all_cons ok_laws_szValS all_nil) ann_laws_szFact (fun x hp hb => ?_)
  obtain ⟨a, left⟩ := x
  have hb_a : BdDV (U := UU) (.agg [.lit (.string a.Kind), .sl .lVal a.Fields]) := hb _ (List.mem_cons_self)
  have hl_a_Kind : a.Kind.size ≤ 9223372036854775807 := Bd.str (hb_a _ (by simp))
  have hl_a_Fields : a.Fields.length ≤ 9223372036854775807 := Bd.len (U := UU) (τ := .lVal) (xs := a.Fields) (hb_a _ (by simp))
  have hb_left : BdDV (U := UU) (.one (.lit (.int .i64 left))) := hb _ (List.mem_cons_of_mem _ (List.mem_cons_self))
  have hl_left := Bd.i64 hb_left
  have hp0 : 0 ≤ left := hp _ (List.mem_cons_self)
  clear hp hb
  rw [vc_laws_szFact a left]
  dsimp only
  rw [wrap_i64 (by omega) (by omega)]
  refine if_cond (fun h => Lf_i (szr_bad' ?_)) (fun h => ?_)
  · have h := of_decide_eq_true h; simp only [sizeFact]; omega
  have h0 := of_decide_eq_false h
  refine ⟨by omega, if_cond (fun h => Lf_i (szr_bad' ?_)) (fun h => ?_)⟩
  · have h := szr_neg h; simp only [sizeFact]; omega
  obtain ⟨e1, h1⟩ := szr_pos h
  rw [e1]
  exact Lf_i (by rw [← szr_ok' (by simp only [sizeFact]; omega)]; simp only [sizeFact]; try omega)
def con_laws_toFact : Con UU where
  α := DFact
  md := [.ro]
  of := fun | [.agg [.lit (.string a0), .sl .lVal a1]] => some ⟨a0, a1⟩ | _ => none
  ds := fun a => [.agg [.lit (.string a.Kind), .sl .lVal a.Fields]]
  pre := fun a => [sizeFact a ≤ 4294967296]
  res := fun a => ⟨[.agg [.lit (.string a.Kind), .sl .eVal a.Fields]], true, []⟩
  law := by intro l x h; (try simp only at h); split at h <;> cases h; rfl
def ann_laws_toFact : con_laws_toFact.α → Nat → Option (Ann UU) := fun a => annL []
def use_laws_toFact : List (FuncId × Con UU) := [(117, con_laws_toValS)]
theorem vc_laws_toFact (a : DFact) : goal EE use_laws_toFact Go.Proofs.Try.f51 con_laws_toFact ann_laws_toFact a = (sizeValS a.Fields ≤ (4294967296 : Nat) ∧ Lf [DV.agg [Cell.lit (Value.string a.Kind), Cell.sl Cd.eVal a.Fields]] [DV.agg [Cell.lit (Value.string a.Kind), Cell.sl Cd.eVal a.Fields]]) := by kernel_rfl
theorem ok_laws_toFact : Holds EE (51, con_laws_toFact) := by
  refine holds_of EE_ok Go.Proofs.Try.func51 con_laws_toFact (by kernel_rfl) rfl use_laws_toFact (all_cons ok_laws_toValS all_nil) ann_laws_toFact (fun (a : DFact) hp hb => ?_)
  have hb_a : BdDV (U := UU) (.agg [.lit (.string a.Kind), .sl .lVal a.Fields]) := hb _ (List.mem_cons_self)
  have hl_a_Kind : a.Kind.size ≤ 9223372036854775807 := Bd.str (hb_a _ (by simp))
  have hl_a_Fields : a.Fields.length ≤ 9223372036854775807 := Bd.len (U := UU) (τ := .lVal) (xs := a.Fields) (hb_a _ (by simp))
  have hp0 : sizeFact a ≤ 4294967296 := hp _ (List.mem_cons_self)
  clear hp hb
  rw [vc_laws_toFact a]
  simp only [sizeFact] at hp0
  repeat' (first | exact Lf_rfl _ | (refine And.intro (by omega) ?_))
def con_laws_eqFact : Con UU where
  α := DFact × DFact
  md := [.ro, .ro]
  of := fun | [.agg [.lit (.string a0), .sl .eVal a1], .agg [.lit (.string a2), .sl .eVal a3]] => some (⟨a0, a1⟩, ⟨a2, a3⟩) | _ => none
  ds := fun (a, b) => [.agg [.lit (.string a.Kind), .sl .eVal a.Fields], .agg [.lit (.string b.Kind), .sl .eVal b.Fields]]
  pre := fun (a, b) => []
  res := fun (a, b) => ⟨[.one (.lit (.bool (decide (a = b))))], true, []⟩
  law := by intro l x h; (try simp only at h); split at h <;> cases h; rfl
def ann_laws_eqFact : con_laws_eqFact.α → Nat → Option (Ann UU) := fun (a, b) => annL []
def use_laws_eqFact : List (FuncId × Con UU) := [(120, con_laws_eqValS)]
theorem vc_laws_eqFact (a : DFact) (b : DFact) : goal EE use_laws_eqFact Go.Proofs.Try.f53 con_laws_eqFact ann_laws_eqFact (a, b) = (bif !ByteArray.toList a.Kind == ByteArray.toList b.Kind then Lf [DV.one (Cell.lit (Value.bool false))] [DV.one (Cell.lit (Value.bool (decide (a = b))))] else bif !decide (a.Fields = b.Fields) then Lf [DV.one (Cell.lit (Value.bool false))] [DV.one (Cell.lit (Value.bool (decide (a = b))))] else Lf [DV.one (Cell.lit (Value.bool true))] [DV.one (Cell.lit (Value.bool (decide (a = b))))]) := by kernel_rfl
theorem ok_laws_eqFact : Holds EE (53, con_laws_eqFact) := by
  refine holds_of EE_ok Go.Proofs.Try.func53 con_laws_eqFact (by kernel_rfl) rfl use_laws_eqFact (all_cons ok_laws_eqValS all_nil) ann_laws_eqFact (fun x hp hb => ?_)
  obtain ⟨a, b⟩ := x
  have hb_a : BdDV (U := UU) (.agg [.lit (.string a.Kind), .sl .eVal a.Fields]) := hb _ (List.mem_cons_self)
  have hl_a_Kind : a.Kind.size ≤ 9223372036854775807 := Bd.str (hb_a _ (by simp))
  have hl_a_Fields : a.Fields.length ≤ 9223372036854775807 := Bd.len (U := UU) (τ := .eVal) (xs := a.Fields) (hb_a _ (by simp))
  have hb_b : BdDV (U := UU) (.agg [.lit (.string b.Kind), .sl .eVal b.Fields]) := hb _ (List.mem_cons_of_mem _ (List.mem_cons_self))
  have hl_b_Kind : b.Kind.size ≤ 9223372036854775807 := Bd.str (hb_b _ (by simp))
  have hl_b_Fields : b.Fields.length ≤ 9223372036854775807 := Bd.len (U := UU) (τ := .eVal) (xs := b.Fields) (hb_b _ (by simp))
  clear hp hb
  rw [vc_laws_eqFact a b]
  obtain ⟨aKind, aFields⟩ := a
  obtain ⟨bKind, bFields⟩ := b
  repeat' (apply if_cond <;> intro _)
  all_goals (first | apply Lf_t | apply Lf_f) <;> simp_all
def con_laws_szTimer : Con UU where
  α := DTimer × Int
  md := [.ro, .ro]
  of := fun | [.agg [.lit (.int .i64 a0), .lit (.string a1), .sl .lVal a2], .one (.lit (.int .i64 a3))] => some (⟨a0, ⟨a1, a2⟩⟩, a3) | _ => none
  ds := fun (a, left) => [.agg [.lit (.int .i64 a.At), .lit (.string a.F.Kind), .sl .lVal a.F.Fields], .one (.lit (.int .i64 left))]
  pre := fun (a, left) => [0 ≤ left]
  res := fun (a, left) => ⟨[.one (.lit (.int .i64 (szr left (sizeTimer a))))], true, []⟩
  law := by intro l x h; (try simp only at h); split at h <;> cases h; rfl
def ann_laws_szTimer : con_laws_szTimer.α → Nat → Option (Ann UU) := fun (a, left) => annL []
def use_laws_szTimer : List (FuncId × Con UU) := [(49, con_laws_szFact)]
theorem vc_laws_szTimer (a : DTimer) (left : Int) : goal EE use_laws_szTimer Go.Proofs.Try.f39 con_laws_szTimer ann_laws_szTimer (a, left) = ((0 : Int) ≤ left ∧ bif decide (szr left (sizeFact a.F) < (0 : Int)) then Lf [DV.one (Cell.lit (Value.int IntKind.i64 (-1 : Int)))] [DV.one (Cell.lit (Value.int IntKind.i64 (szr left (sizeTimer a))))] else Lf [DV.one (Cell.lit (Value.int IntKind.i64 (szr left (sizeFact a.F))))] [DV.one (Cell.lit (Value.int IntKind.i64 (szr left (sizeTimer a))))]) := by kernel_rfl
theorem ok_laws_szTimer : Holds EE (39, con_laws_szTimer) := by
  refine holds_of EE_ok Go.Proofs.Try.func39 con_laws_szTimer (by kernel_rfl) rfl use_laws_szTimer (all_cons ok_laws_szFact all_nil) ann_laws_szTimer (fun x hp hb => ?_)
  obtain ⟨a, left⟩ := x
  have hb_a : BdDV (U := UU) (.agg [.lit (.int .i64 a.At), .lit (.string a.F.Kind), .sl .lVal a.F.Fields]) := hb _ (List.mem_cons_self)
  have hl_a_F_Kind : a.F.Kind.size ≤ 9223372036854775807 := Bd.str (hb_a _ (by simp))
  have hl_a_F_Fields : a.F.Fields.length ≤ 9223372036854775807 := Bd.len (U := UU) (τ := .lVal) (xs := a.F.Fields) (hb_a _ (by simp))
  have hb_left : BdDV (U := UU) (.one (.lit (.int .i64 left))) := hb _ (List.mem_cons_of_mem _ (List.mem_cons_self))
  have hl_left := Bd.i64 hb_left
  have hp0 : 0 ≤ left := hp _ (List.mem_cons_self)
  clear hp hb
  rw [vc_laws_szTimer a left]
  refine ⟨by omega, if_cond (fun h => Lf_i (szr_bad' ?_)) (fun h => ?_)⟩
  · have h := szr_neg h; simp only [sizeTimer]; omega
  obtain ⟨e0, h0⟩ := szr_pos h
  rw [e0]
  exact Lf_i (by rw [← szr_ok' (by simp only [sizeTimer]; omega)]; simp only [sizeTimer]; try omega)
def con_laws_toTimer : Con UU where
  α := DTimer
  md := [.ro]
  of := fun | [.agg [.lit (.int .i64 a0), .lit (.string a1), .sl .lVal a2]] => some ⟨a0, ⟨a1, a2⟩⟩ | _ => none
  ds := fun a => [.agg [.lit (.int .i64 a.At), .lit (.string a.F.Kind), .sl .lVal a.F.Fields]]
  pre := fun a => [sizeTimer a ≤ 4294967296]
  res := fun a => ⟨[.agg [.lit (.int .i64 a.At), .lit (.string a.F.Kind), .sl .eVal a.F.Fields]], true, []⟩
  law := by intro l x h; (try simp only at h); split at h <;> cases h; rfl
def ann_laws_toTimer : con_laws_toTimer.α → Nat → Option (Ann UU) := fun a => annL []
def use_laws_toTimer : List (FuncId × Con UU) := [(51, con_laws_toFact)]
theorem vc_laws_toTimer (a : DTimer) : goal EE use_laws_toTimer Go.Proofs.Try.f42 con_laws_toTimer ann_laws_toTimer a = (sizeFact a.F ≤ (4294967296 : Nat) ∧ Lf [DV.agg [Cell.lit (Value.int IntKind.i64 a.At), Cell.lit (Value.string a.F.Kind), Cell.sl Cd.eVal a.F.Fields]] [DV.agg [Cell.lit (Value.int IntKind.i64 a.At), Cell.lit (Value.string a.F.Kind), Cell.sl Cd.eVal a.F.Fields]]) := by kernel_rfl
theorem ok_laws_toTimer : Holds EE (42, con_laws_toTimer) := by
  refine holds_of EE_ok Go.Proofs.Try.func42 con_laws_toTimer (by kernel_rfl) rfl use_laws_toTimer (all_cons ok_laws_toFact all_nil) ann_laws_toTimer (fun (a : DTimer) hp hb => ?_)
  have hb_a : BdDV (U := UU) (.agg [.lit (.int .i64 a.At), .lit (.string a.F.Kind), .sl .lVal a.F.Fields]) := hb _ (List.mem_cons_self)
  have hl_a_F_Kind : a.F.Kind.size ≤ 9223372036854775807 := Bd.str (hb_a _ (by simp))
  have hl_a_F_Fields : a.F.Fields.length ≤ 9223372036854775807 := Bd.len (U := UU) (τ := .lVal) (xs := a.F.Fields) (hb_a _ (by simp))
  have hp0 : sizeTimer a ≤ 4294967296 := hp _ (List.mem_cons_self)
  clear hp hb
  rw [vc_laws_toTimer a]
  simp only [sizeTimer] at hp0
  repeat' (first | exact Lf_rfl _ | (refine And.intro (by omega) ?_))
def con_laws_eqTimer : Con UU where
  α := DTimer × DTimer
  md := [.ro, .ro]
  of := fun | [.agg [.lit (.int .i64 a0), .lit (.string a1), .sl .eVal a2], .agg [.lit (.int .i64 a3), .lit (.string a4), .sl .eVal a5]] => some (⟨a0, ⟨a1, a2⟩⟩, ⟨a3, ⟨a4, a5⟩⟩) | _ => none
  ds := fun (a, b) => [.agg [.lit (.int .i64 a.At), .lit (.string a.F.Kind), .sl .eVal a.F.Fields], .agg [.lit (.int .i64 b.At), .lit (.string b.F.Kind), .sl .eVal b.F.Fields]]
  pre := fun (a, b) => []
  res := fun (a, b) => ⟨[.one (.lit (.bool (decide (a = b))))], true, []⟩
  law := by intro l x h; (try simp only at h); split at h <;> cases h; rfl
def ann_laws_eqTimer : con_laws_eqTimer.α → Nat → Option (Ann UU) := fun (a, b) => annL []
def use_laws_eqTimer : List (FuncId × Con UU) := [(53, con_laws_eqFact)]
theorem vc_laws_eqTimer (a : DTimer) (b : DTimer) : goal EE use_laws_eqTimer Go.Proofs.Try.f45 con_laws_eqTimer ann_laws_eqTimer (a, b) = (bif a.At != b.At then Lf [DV.one (Cell.lit (Value.bool false))] [DV.one (Cell.lit (Value.bool (decide (a = b))))] else bif !decide (a.F = b.F) then Lf [DV.one (Cell.lit (Value.bool false))] [DV.one (Cell.lit (Value.bool (decide (a = b))))] else Lf [DV.one (Cell.lit (Value.bool true))] [DV.one (Cell.lit (Value.bool (decide (a = b))))]) := by kernel_rfl
theorem ok_laws_eqTimer : Holds EE (45, con_laws_eqTimer) := by
  refine holds_of EE_ok Go.Proofs.Try.func45 con_laws_eqTimer (by kernel_rfl) rfl use_laws_eqTimer (all_cons ok_laws_eqFact all_nil) ann_laws_eqTimer (fun x hp hb => ?_)
  obtain ⟨a, b⟩ := x
  have hb_a : BdDV (U := UU) (.agg [.lit (.int .i64 a.At), .lit (.string a.F.Kind), .sl .eVal a.F.Fields]) := hb _ (List.mem_cons_self)
  have hl_a_F_Kind : a.F.Kind.size ≤ 9223372036854775807 := Bd.str (hb_a _ (by simp))
  have hl_a_F_Fields : a.F.Fields.length ≤ 9223372036854775807 := Bd.len (U := UU) (τ := .eVal) (xs := a.F.Fields) (hb_a _ (by simp))
  have hb_b : BdDV (U := UU) (.agg [.lit (.int .i64 b.At), .lit (.string b.F.Kind), .sl .eVal b.F.Fields]) := hb _ (List.mem_cons_of_mem _ (List.mem_cons_self))
  have hl_b_F_Kind : b.F.Kind.size ≤ 9223372036854775807 := Bd.str (hb_b _ (by simp))
  have hl_b_F_Fields : b.F.Fields.length ≤ 9223372036854775807 := Bd.len (U := UU) (τ := .eVal) (xs := b.F.Fields) (hb_b _ (by simp))
  clear hp hb
  rw [vc_laws_eqTimer a b]
  obtain ⟨aAt, aF⟩ := a
  obtain ⟨bAt, bF⟩ := b
  repeat' (apply if_cond <;> intro _)
  all_goals (first | apply Lf_t | apply Lf_f) <;> simp_all
def con_laws_szTimerS : Con UU where
  α := (List DTimer) × Int
  md := [.ro, .ro]
  of := fun | [.one (.sl .lTimer a0), .one (.lit (.int .i64 a1))] => some (a0, a1) | _ => none
  ds := fun (a, left) => [.one (.sl .lTimer a), .one (.lit (.int .i64 left))]
  pre := fun (a, left) => [0 ≤ left]
  res := fun (a, left) => ⟨[.one (.lit (.int .i64 (szr left (sizeTimerS a))))], true, []⟩
  law := by intro l x h; (try simp only at h); split at h <;> cases h; rfl
def I_laws_szTimerS_5 (a : (List DTimer)) (left : Int) : Int × Int × Unit → Prop := fun (lf, i, _) => 0 ≤ lf ∧ 0 ≤ i ∧ i ≤ a.length ∧ szr lf ((a.drop i.toNat).map sizeTimer).sum = szr left (sizeTimerS a)
def μ_laws_szTimerS_5 (a : (List DTimer)) (left : Int) : Int × Int × Unit → Nat := fun (lf, i, _) => a.length - i.toNat
def ann_laws_szTimerS : con_laws_szTimerS.α → Nat → Option (Ann UU) := fun (a, left) => annL [(5, annOf [.slot 1 (1, 1024) (.lit (.int .i64)), .slot 5 (5, 1024) (.lit (.int .i64))] (fun _ => I_laws_szTimerS_5 a left) (μ_laws_szTimerS_5 a left))]
def use_laws_szTimerS : List (FuncId × Con UU) := [(39, con_laws_szTimer)]
theorem vc_laws_szTimerS (a : (List DTimer)) (left : Int) : goal EE use_laws_szTimerS Go.Proofs.Try.f38 con_laws_szTimerS ann_laws_szTimerS (a, left) = (let x0 : Int := IntKind.wrap IntKind.i64 (left - (↑(List.length a) : Int));
bif decide (x0 < (0 : Int)) then Lf [DV.one (Cell.lit (Value.int IntKind.i64 (-1 : Int)))] [DV.one (Cell.lit (Value.int IntKind.i64 (szr left (sizeTimerS a))))]
else
  I_laws_szTimerS_5 a left (x0, (0 : Int), PUnit.unit) ∧
    ∀ (y : Int × Int × PUnit),
      let x1 : Int := szr y.1 (sizeTimer (List.getD a (Int.toNat y.2.1) zTimer));
      I_laws_szTimerS_5 a left y → bif decide (y.2.1 < (↑(List.length a) : Int)) then (0 : Int) ≤ y.2.1 ∧ Int.toNat y.2.1 < List.length a ∧ (0 : Int) ≤ y.1 ∧ bif decide (x1 < (0 : Int)) then Lf [DV.one (Cell.lit (Value.int IntKind.i64 (-1 : Int)))] [DV.one (Cell.lit (Value.int IntKind.i64 (szr left (sizeTimerS a))))] else I_laws_szTimerS_5 a left (x1, IntKind.wrap IntKind.i64 (y.2.1 + (1 : Int)), PUnit.unit) ∧ μ_laws_szTimerS_5 a left (x1, IntKind.wrap IntKind.i64 (y.2.1 + (1 : Int)), PUnit.unit) < μ_laws_szTimerS_5 a left y else Lf [DV.one (Cell.lit (Value.int IntKind.i64 y.1))] [DV.one (Cell.lit (Value.int IntKind.i64 (szr left (sizeTimerS a))))]) := by kernel_rfl
theorem ok_laws_szTimerS : Holds EE (38, con_laws_szTimerS) := by
  refine holds_of EE_ok Go.Proofs.Try.func38 con_laws_szTimerS (by kernel_rfl) rfl use_laws_szTimerS (all_cons ok_laws_szTimer all_nil) ann_laws_szTimerS (fun x hp hb => ?_)
  obtain ⟨a, left⟩ := x
  have hb_a : BdDV (U := UU) (.one (.sl .lTimer a)) := hb _ (List.mem_cons_self)
  have hl_a : a.length ≤ 9223372036854775807 := Bd.len hb_a
  have hb_left : BdDV (U := UU) (.one (.lit (.int .i64 left))) := hb _ (List.mem_cons_of_mem _ (List.mem_cons_self))
  have hl_left := Bd.i64 hb_left
  have hp0 : 0 ≤ left := hp _ (List.mem_cons_self)
  clear hp hb
  rw [vc_laws_szTimerS a left]
  dsimp only
  rw [wrap_i64 (by omega) (by omega)]
  refine if_cond (fun h => Lf_i ?_) (fun h => ⟨?_, ?_⟩)
  · simp [szr, sizeTimerS] at *; omega
  · simp only [I_laws_szTimerS_5, sizeTimerS]; simp at h; have h' : 0 ≤ left - a.length := by omega
    exact ⟨h', by omega, by omega, szr_sub h'⟩
  rintro ⟨lf, i, ⟨⟩⟩ ⟨h0, h1, h2, hR⟩
  refine if_cond (fun hc => ?_) (fun hc => ?_)
  · have hc : i < a.length := by simpa using hc
    rw [drop_step a zTimer h1 hc, List.map_cons, List.sum_cons] at hR
    simp only at *
    rw [wrap_i64 (by omega) (by omega)]
    generalize List.getD a i.toNat zTimer = x at *
    refine ⟨by omega, by omega, by omega, if_cond (fun h => Lf_i ?_) (fun h => ⟨⟨?_, by omega, by omega, ?_⟩, ?_⟩)⟩
    · rw [← hR]; exact (szr_bad (of_decide_eq_true h)).symm
    · simp at h; omega
    · rw [← hR]; simp at h; exact szr_szr h
    · simp only [μ_laws_szTimerS_5]; omega
  · have hc : a.length ≤ i := by simpa using hc
    rw [drop_end a hc] at hR
    apply Lf_i; rw [← hR]; simp [szr, h0]
def con_laws_toTimerS : Con UU where
  α := (List DTimer)
  md := [.ro]
  of := fun | [.one (.sl .lTimer a0)] => some a0 | _ => none
  ds := fun a => [.one (.sl .lTimer a)]
  pre := fun a => [sizeTimerS a ≤ 4294967296]
  res := fun a => ⟨[.one (.sl .eTimer a)], true, []⟩
  law := by intro l x h; (try simp only at h); split at h <;> cases h; rfl
def I_laws_toTimerS_3 (a : (List DTimer)) : List DTimer × Int × Unit → Prop := fun (out, i, _) => 0 ≤ i ∧ i ≤ a.length ∧ out = a.take i.toNat ++ List.replicate (a.length - i.toNat) zTimer
def μ_laws_toTimerS_3 (a : (List DTimer)) : List DTimer × Int × Unit → Nat := fun (out, i, _) => a.length - i.toNat
def ann_laws_toTimerS : con_laws_toTimerS.α → Nat → Option (Ann UU) := fun a => annL [(3, annOf [.slot 3 (3, 1024) (.own .eTimer true), .slot 4 (4, 1024) (.lit (.int .i64))] (fun _ => I_laws_toTimerS_3 a) (μ_laws_toTimerS_3 a))]
def use_laws_toTimerS : List (FuncId × Con UU) := [(42, con_laws_toTimer)]
theorem vc_laws_toTimerS (a : (List DTimer)) : goal EE use_laws_toTimerS Go.Proofs.Try.f41 con_laws_toTimerS ann_laws_toTimerS a = (let x0 : Int := (↑(List.length a) : Int);
(0 : Int) ≤ x0 ∧
  x0 = x0 ∧
    x0 ≤ (4294967296 : Int) ∧
      I_laws_toTimerS_3 a (List.replicate (Int.toNat x0) zTimer, (0 : Int), PUnit.unit) ∧
        ∀ (y : List DTimer × Int × PUnit),
          let x1 : Nat := Int.toNat y.2.1;
          I_laws_toTimerS_3 a y → bif decide (y.2.1 < x0) then (0 : Int) ≤ y.2.1 ∧ x1 < List.length a ∧ sizeTimer (List.getD a x1 zTimer) ≤ (4294967296 : Nat) ∧ (0 : Int) ≤ y.2.1 ∧ x1 < List.length y.1 ∧ x1 < List.length y.1 ∧ I_laws_toTimerS_3 a (List.set y.1 x1 (List.getD a x1 zTimer), IntKind.wrap IntKind.i64 (y.2.1 + (1 : Int)), PUnit.unit) ∧ μ_laws_toTimerS_3 a (List.set y.1 x1 (List.getD a x1 zTimer), IntKind.wrap IntKind.i64 (y.2.1 + (1 : Int)), PUnit.unit) < μ_laws_toTimerS_3 a y else Lf [DV.one (Cell.sl Cd.eTimer y.1)] [DV.one (Cell.sl Cd.eTimer a)]) := by kernel_rfl
theorem ok_laws_toTimerS : Holds EE (41, con_laws_toTimerS) := by
  refine holds_of EE_ok Go.Proofs.Try.func41 con_laws_toTimerS (by kernel_rfl) rfl use_laws_toTimerS (all_cons ok_laws_toTimer all_nil) ann_laws_toTimerS (fun (a : (List DTimer)) hp hb => ?_)
  have hb_a : BdDV (U := UU) (.one (.sl .lTimer a)) := hb _ (List.mem_cons_self)
  have hl_a : a.length ≤ 9223372036854775807 := Bd.len hb_a
  have hp0 : sizeTimerS a ≤ 4294967296 := hp _ (List.mem_cons_self)
  clear hp hb
  rw [vc_laws_toTimerS a]
  dsimp only
  have hlen : a.length ≤ 4294967296 := by simp only [sizeTimerS] at hp0; omega
  refine ⟨by omega, rfl, by omega, ?_, ?_⟩
  · simp [I_laws_toTimerS_3]
  rintro ⟨out, i, ⟨⟩⟩ ⟨h1, h2, rfl⟩
  simp only at *
  refine if_cond (fun hc => ?_) (fun hc => ?_)
  · have hc : i < a.length := by simpa using hc
    rw [wrap_i64 (by omega) (by omega), set_fill a zTimer h1 hc]
    exact ⟨h1, by omega, by exact Nat.le_trans (sum_getD_le sizeTimer a zTimer h1 hc) (by simp only [sizeTimerS] at hp0; omega), h1, by simp; omega, by simp; omega, ⟨by omega, by omega, rfl⟩, by simp only [μ_laws_toTimerS_3]; omega⟩
  · have hc : a.length ≤ i := by simpa using hc
    have e : i.toNat = a.length := by omega
    rw [e]; simp; exact Lf_rfl _
def con_laws_eqTimerS : Con UU where
  α := (List DTimer) × (List DTimer)
  md := [.ro, .ro]
  of := fun | [.one (.sl .eTimer a0), .one (.sl .eTimer a1)] => some (a0, a1) | _ => none
  ds := fun (a, b) => [.one (.sl .eTimer a), .one (.sl .eTimer b)]
  pre := fun (a, b) => []
  res := fun (a, b) => ⟨[.one (.lit (.bool (decide (a = b))))], true, []⟩
  law := by intro l x h; (try simp only at h); split at h <;> cases h; rfl
def I_laws_eqTimerS_4 (a : (List DTimer)) (b : (List DTimer)) : Int × Unit → Prop := fun (i, _) => 0 ≤ i ∧ i ≤ a.length ∧ a.length = b.length ∧ (a.drop i.toNat = b.drop i.toNat ↔ a = b)
def μ_laws_eqTimerS_4 (a : (List DTimer)) (b : (List DTimer)) : Int × Unit → Nat := fun (i, _) => a.length - i.toNat
def ann_laws_eqTimerS : con_laws_eqTimerS.α → Nat → Option (Ann UU) := fun (a, b) => annL [(4, annOf [.slot 5 (5, 1024) (.lit (.int .i64))] (fun _ => I_laws_eqTimerS_4 a b) (μ_laws_eqTimerS_4 a b))]
def use_laws_eqTimerS : List (FuncId × Con UU) := [(45, con_laws_eqTimer)]
theorem vc_laws_eqTimerS (a : (List DTimer)) (b : (List DTimer)) : goal EE use_laws_eqTimerS Go.Proofs.Try.f44 con_laws_eqTimerS ann_laws_eqTimerS (a, b) = (bif (↑(List.length a) : Int) != (↑(List.length b) : Int) then Lf [DV.one (Cell.lit (Value.bool false))] [DV.one (Cell.lit (Value.bool (decide (a = b))))] else I_laws_eqTimerS_4 a b ((0 : Int), PUnit.unit) ∧ ∀ (y : Int × PUnit), I_laws_eqTimerS_4 a b y → bif decide (y.1 < (↑(List.length a) : Int)) then (0 : Int) ≤ y.1 ∧ Int.toNat y.1 < List.length a ∧ (0 : Int) ≤ y.1 ∧ Int.toNat y.1 < List.length b ∧ bif !decide (List.getD a (Int.toNat y.1) zTimer = List.getD b (Int.toNat y.1) zTimer) then Lf [DV.one (Cell.lit (Value.bool false))] [DV.one (Cell.lit (Value.bool (decide (a = b))))] else I_laws_eqTimerS_4 a b (IntKind.wrap IntKind.i64 (y.1 + (1 : Int)), PUnit.unit) ∧ μ_laws_eqTimerS_4 a b (IntKind.wrap IntKind.i64 (y.1 + (1 : Int)), PUnit.unit) < μ_laws_eqTimerS_4 a b y else Lf [DV.one (Cell.lit (Value.bool true))] [DV.one (Cell.lit (Value.bool (decide (a = b))))]) := by kernel_rfl
theorem ok_laws_eqTimerS : Holds EE (44, con_laws_eqTimerS) := by
  refine holds_of EE_ok Go.Proofs.Try.func44 con_laws_eqTimerS (by kernel_rfl) rfl use_laws_eqTimerS (all_cons ok_laws_eqTimer all_nil) ann_laws_eqTimerS (fun x hp hb => ?_)
  obtain ⟨a, b⟩ := x
  have hb_a : BdDV (U := UU) (.one (.sl .eTimer a)) := hb _ (List.mem_cons_self)
  have hl_a : a.length ≤ 9223372036854775807 := Bd.len hb_a
  have hb_b : BdDV (U := UU) (.one (.sl .eTimer b)) := hb _ (List.mem_cons_of_mem _ (List.mem_cons_self))
  have hl_b : b.length ≤ 9223372036854775807 := Bd.len hb_b
  clear hp hb
  rw [vc_laws_eqTimerS a b]
  refine if_cond (fun h => Lf_f ?_) (fun h => ⟨?_, ?_⟩)
  · rintro rfl; simp at h
  · simp [I_laws_eqTimerS_4] at *; omega
  rintro ⟨i, ⟨⟩⟩ ⟨h1, h2, h3, hR⟩
  simp only at *
  refine if_cond (fun hc => ?_) (fun hc => ?_)
  · have hc : i < a.length := by simpa using hc
    rw [drop_step a zTimer h1 hc, drop_step b zTimer h1 (by omega)] at hR
    rw [wrap_i64 (by omega) (by omega)]
    refine ⟨by omega, by omega, by omega, by omega, if_cond (fun h => Lf_f ?_) (fun h => ⟨⟨by omega, by omega, h3, ?_⟩, ?_⟩)⟩
    · rw [← hR]; simp at h; simp [h]
    · rw [← hR]; simp at h; simp [h]
    · simp only [μ_laws_eqTimerS_4]; omega
  · have hc : a.length ≤ i := by simpa using hc
    rw [drop_end a hc, drop_end b (by omega)] at hR
    exact Lf_t (hR.1 rfl)
def con_laws_szTask : Con UU where
  α := DTask × Int
  md := [.ro, .ro]
  of := fun | [.agg [.lit (.string a0), .sl .lVal a1, .lit (.string a2), .lit (.int .i64 a3), .lit (.int .i64 a4), .lit (.int .i64 a5), .lit (.int .i64 a6), .lit (.int .i64 a7), .lit (.string a8)], .one (.lit (.int .i64 a9))] => some (⟨⟨a0, a1⟩, a2, a3, a4, a5, ⟨a6, a7, a8⟩⟩, a9) | _ => none
  ds := fun (a, left) => [.agg [.lit (.string a.F.Kind), .sl .lVal a.F.Fields, .lit (.string a.Undo), .lit (.int .i64 a.State), .lit (.int .i64 a.Tries), .lit (.int .i64 a.Due), .lit (.int .i64 a.V.K), .lit (.int .i64 a.V.N), .lit (.string a.V.S)], .one (.lit (.int .i64 left))]
  pre := fun (a, left) => [0 ≤ left]
  res := fun (a, left) => ⟨[.one (.lit (.int .i64 (szr left (sizeTask a))))], true, []⟩
  law := by intro l x h; (try simp only at h); split at h <;> cases h; rfl
def ann_laws_szTask : con_laws_szTask.α → Nat → Option (Ann UU) := fun (a, left) => annL []
def use_laws_szTask : List (FuncId × Con UU) := [(49, con_laws_szFact), (76, con_laws_szVal)]
theorem vc_laws_szTask (a : DTask) (left : Int) : goal EE use_laws_szTask Go.Proofs.Try.f83 con_laws_szTask ann_laws_szTask (a, left) = (let x0 : Int := IntKind.wrap IntKind.i64 (szr left (sizeFact a.F) - (↑(ByteArray.size a.Undo) : Int));
(0 : Int) ≤ left ∧ bif decide (szr left (sizeFact a.F) < (0 : Int)) then Lf [DV.one (Cell.lit (Value.int IntKind.i64 (-1 : Int)))] [DV.one (Cell.lit (Value.int IntKind.i64 (szr left (sizeTask a))))] else bif decide (x0 < (0 : Int)) then Lf [DV.one (Cell.lit (Value.int IntKind.i64 (-1 : Int)))] [DV.one (Cell.lit (Value.int IntKind.i64 (szr left (sizeTask a))))] else (0 : Int) ≤ x0 ∧ bif decide (szr x0 (sizeVal a.V) < (0 : Int)) then Lf [DV.one (Cell.lit (Value.int IntKind.i64 (-1 : Int)))] [DV.one (Cell.lit (Value.int IntKind.i64 (szr left (sizeTask a))))] else Lf [DV.one (Cell.lit (Value.int IntKind.i64 (szr x0 (sizeVal a.V))))] [DV.one (Cell.lit (Value.int IntKind.i64 (szr left (sizeTask a))))]) := by kernel_rfl
theorem ok_laws_szTask : Holds EE (83, con_laws_szTask) := by
  refine holds_of EE_ok Go.Proofs.Try.func83 con_laws_szTask (by kernel_rfl) rfl use_laws_szTask (all_cons ok_laws_szFact (all_cons ok_laws_szVal all_nil)) ann_laws_szTask (fun x hp hb => ?_)
  obtain ⟨a, left⟩ := x
  have hb_a : BdDV (U := UU) (.agg [.lit (.string a.F.Kind), .sl .lVal a.F.Fields, .lit (.string a.Undo), .lit (.int .i64 a.State), .lit (.int .i64 a.Tries), .lit (.int .i64 a.Due), .lit (.int .i64 a.V.K), .lit (.int .i64 a.V.N), .lit (.string a.V.S)]) := hb _ (List.mem_cons_self)
  have hl_a_F_Kind : a.F.Kind.size ≤ 9223372036854775807 := Bd.str (hb_a _ (by simp))
  have hl_a_F_Fields : a.F.Fields.length ≤ 9223372036854775807 := Bd.len (U := UU) (τ := .lVal) (xs := a.F.Fields) (hb_a _ (by simp))
  have hl_a_Undo : a.Undo.size ≤ 9223372036854775807 := Bd.str (hb_a _ (by simp))
  have hl_a_V_S : a.V.S.size ≤ 9223372036854775807 := Bd.str (hb_a _ (by simp))
  have hb_left : BdDV (U := UU) (.one (.lit (.int .i64 left))) := hb _ (List.mem_cons_of_mem _ (List.mem_cons_self))
  have hl_left := Bd.i64 hb_left
  have hp0 : 0 ≤ left := hp _ (List.mem_cons_self)
  clear hp hb
  rw [vc_laws_szTask a left]
  dsimp only
  refine ⟨by omega, if_cond (fun h => Lf_i (szr_bad' ?_)) (fun h => ?_)⟩
  · have h := szr_neg h; simp only [sizeTask]; omega
  obtain ⟨e0, h0⟩ := szr_pos h
  rw [e0]
  rw [wrap_i64 (by omega) (by omega)]
  refine if_cond (fun h => Lf_i (szr_bad' ?_)) (fun h => ?_)
  · have h := of_decide_eq_true h; simp only [sizeTask]; omega
  have h1 := of_decide_eq_false h
  refine ⟨by omega, if_cond (fun h => Lf_i (szr_bad' ?_)) (fun h => ?_)⟩
  · have h := szr_neg h; simp only [sizeTask]; omega
  obtain ⟨e2, h2⟩ := szr_pos h
  rw [e2]
  exact Lf_i (by rw [← szr_ok' (by simp only [sizeTask]; omega)]; simp only [sizeTask]; try omega)
def con_laws_toTask : Con UU where
  α := DTask
  md := [.ro]
  of := fun | [.agg [.lit (.string a0), .sl .lVal a1, .lit (.string a2), .lit (.int .i64 a3), .lit (.int .i64 a4), .lit (.int .i64 a5), .lit (.int .i64 a6), .lit (.int .i64 a7), .lit (.string a8)]] => some ⟨⟨a0, a1⟩, a2, a3, a4, a5, ⟨a6, a7, a8⟩⟩ | _ => none
  ds := fun a => [.agg [.lit (.string a.F.Kind), .sl .lVal a.F.Fields, .lit (.string a.Undo), .lit (.int .i64 a.State), .lit (.int .i64 a.Tries), .lit (.int .i64 a.Due), .lit (.int .i64 a.V.K), .lit (.int .i64 a.V.N), .lit (.string a.V.S)]]
  pre := fun a => [sizeTask a ≤ 4294967296]
  res := fun a => ⟨[.agg [.lit (.string a.F.Kind), .sl .eVal a.F.Fields, .lit (.string a.Undo), .lit (.int .i64 a.State), .lit (.int .i64 a.Tries), .lit (.int .i64 a.Due), .lit (.int .i64 a.V.K), .lit (.int .i64 a.V.N), .lit (.string a.V.S)]], true, []⟩
  law := by intro l x h; (try simp only at h); split at h <;> cases h; rfl
def ann_laws_toTask : con_laws_toTask.α → Nat → Option (Ann UU) := fun a => annL []
def use_laws_toTask : List (FuncId × Con UU) := [(51, con_laws_toFact), (80, con_laws_toVal)]
theorem vc_laws_toTask (a : DTask) : goal EE use_laws_toTask Go.Proofs.Try.f85 con_laws_toTask ann_laws_toTask a = (sizeFact a.F ≤ (4294967296 : Nat) ∧ sizeVal a.V ≤ (4294967296 : Nat) ∧ Lf [DV.agg [Cell.lit (Value.string a.F.Kind), Cell.sl Cd.eVal a.F.Fields, Cell.lit (Value.string a.Undo), Cell.lit (Value.int IntKind.i64 a.State), Cell.lit (Value.int IntKind.i64 a.Tries), Cell.lit (Value.int IntKind.i64 a.Due), Cell.lit (Value.int IntKind.i64 a.V.K), Cell.lit (Value.int IntKind.i64 a.V.N), Cell.lit (Value.string a.V.S)]] [DV.agg [Cell.lit (Value.string a.F.Kind), Cell.sl Cd.eVal a.F.Fields, Cell.lit (Value.string a.Undo), Cell.lit (Value.int IntKind.i64 a.State), Cell.lit (Value.int IntKind.i64 a.Tries), Cell.lit (Value.int IntKind.i64 a.Due), Cell.lit (Value.int IntKind.i64 a.V.K), Cell.lit (Value.int IntKind.i64 a.V.N), Cell.lit (Value.string a.V.S)]]) := by kernel_rfl
theorem ok_laws_toTask : Holds EE (85, con_laws_toTask) := by
  refine holds_of EE_ok Go.Proofs.Try.func85 con_laws_toTask (by kernel_rfl) rfl use_laws_toTask (all_cons ok_laws_toFact (all_cons ok_laws_toVal all_nil)) ann_laws_toTask (fun (a : DTask) hp hb => ?_)
  have hb_a : BdDV (U := UU) (.agg [.lit (.string a.F.Kind), .sl .lVal a.F.Fields, .lit (.string a.Undo), .lit (.int .i64 a.State), .lit (.int .i64 a.Tries), .lit (.int .i64 a.Due), .lit (.int .i64 a.V.K), .lit (.int .i64 a.V.N), .lit (.string a.V.S)]) := hb _ (List.mem_cons_self)
  have hl_a_F_Kind : a.F.Kind.size ≤ 9223372036854775807 := Bd.str (hb_a _ (by simp))
  have hl_a_F_Fields : a.F.Fields.length ≤ 9223372036854775807 := Bd.len (U := UU) (τ := .lVal) (xs := a.F.Fields) (hb_a _ (by simp))
  have hl_a_Undo : a.Undo.size ≤ 9223372036854775807 := Bd.str (hb_a _ (by simp))
  have hl_a_V_S : a.V.S.size ≤ 9223372036854775807 := Bd.str (hb_a _ (by simp))
  have hp0 : sizeTask a ≤ 4294967296 := hp _ (List.mem_cons_self)
  clear hp hb
  rw [vc_laws_toTask a]
  simp only [sizeTask] at hp0
  repeat' (first | exact Lf_rfl _ | (refine And.intro (by omega) ?_))
def con_laws_eqTask : Con UU where
  α := DTask × DTask
  md := [.ro, .ro]
  of := fun | [.agg [.lit (.string a0), .sl .eVal a1, .lit (.string a2), .lit (.int .i64 a3), .lit (.int .i64 a4), .lit (.int .i64 a5), .lit (.int .i64 a6), .lit (.int .i64 a7), .lit (.string a8)], .agg [.lit (.string a9), .sl .eVal a10, .lit (.string a11), .lit (.int .i64 a12), .lit (.int .i64 a13), .lit (.int .i64 a14), .lit (.int .i64 a15), .lit (.int .i64 a16), .lit (.string a17)]] => some (⟨⟨a0, a1⟩, a2, a3, a4, a5, ⟨a6, a7, a8⟩⟩, ⟨⟨a9, a10⟩, a11, a12, a13, a14, ⟨a15, a16, a17⟩⟩) | _ => none
  ds := fun (a, b) => [.agg [.lit (.string a.F.Kind), .sl .eVal a.F.Fields, .lit (.string a.Undo), .lit (.int .i64 a.State), .lit (.int .i64 a.Tries), .lit (.int .i64 a.Due), .lit (.int .i64 a.V.K), .lit (.int .i64 a.V.N), .lit (.string a.V.S)], .agg [.lit (.string b.F.Kind), .sl .eVal b.F.Fields, .lit (.string b.Undo), .lit (.int .i64 b.State), .lit (.int .i64 b.Tries), .lit (.int .i64 b.Due), .lit (.int .i64 b.V.K), .lit (.int .i64 b.V.N), .lit (.string b.V.S)]]
  pre := fun (a, b) => []
  res := fun (a, b) => ⟨[.one (.lit (.bool (decide (a = b))))], true, []⟩
  law := by intro l x h; (try simp only at h); split at h <;> cases h; rfl
def ann_laws_eqTask : con_laws_eqTask.α → Nat → Option (Ann UU) := fun (a, b) => annL []
def use_laws_eqTask : List (FuncId × Con UU) := [(53, con_laws_eqFact), (82, con_laws_eqVal)]
theorem vc_laws_eqTask (a : DTask) (b : DTask) : goal EE use_laws_eqTask Go.Proofs.Try.f88 con_laws_eqTask ann_laws_eqTask (a, b) = (bif !decide (a.F = b.F) then Lf [DV.one (Cell.lit (Value.bool false))] [DV.one (Cell.lit (Value.bool (decide (a = b))))] else bif !ByteArray.toList a.Undo == ByteArray.toList b.Undo then Lf [DV.one (Cell.lit (Value.bool false))] [DV.one (Cell.lit (Value.bool (decide (a = b))))] else bif a.State != b.State then Lf [DV.one (Cell.lit (Value.bool false))] [DV.one (Cell.lit (Value.bool (decide (a = b))))] else bif a.Tries != b.Tries then Lf [DV.one (Cell.lit (Value.bool false))] [DV.one (Cell.lit (Value.bool (decide (a = b))))] else bif a.Due != b.Due then Lf [DV.one (Cell.lit (Value.bool false))] [DV.one (Cell.lit (Value.bool (decide (a = b))))] else bif !decide (a.V = b.V) then Lf [DV.one (Cell.lit (Value.bool false))] [DV.one (Cell.lit (Value.bool (decide (a = b))))] else Lf [DV.one (Cell.lit (Value.bool true))] [DV.one (Cell.lit (Value.bool (decide (a = b))))]) := by kernel_rfl
theorem ok_laws_eqTask : Holds EE (88, con_laws_eqTask) := by
  refine holds_of EE_ok Go.Proofs.Try.func88 con_laws_eqTask (by kernel_rfl) rfl use_laws_eqTask (all_cons ok_laws_eqFact (all_cons ok_laws_eqVal all_nil)) ann_laws_eqTask (fun x hp hb => ?_)
  obtain ⟨a, b⟩ := x
  have hb_a : BdDV (U := UU) (.agg [.lit (.string a.F.Kind), .sl .eVal a.F.Fields, .lit (.string a.Undo), .lit (.int .i64 a.State), .lit (.int .i64 a.Tries), .lit (.int .i64 a.Due), .lit (.int .i64 a.V.K), .lit (.int .i64 a.V.N), .lit (.string a.V.S)]) := hb _ (List.mem_cons_self)
  have hl_a_F_Kind : a.F.Kind.size ≤ 9223372036854775807 := Bd.str (hb_a _ (by simp))
  have hl_a_F_Fields : a.F.Fields.length ≤ 9223372036854775807 := Bd.len (U := UU) (τ := .eVal) (xs := a.F.Fields) (hb_a _ (by simp))
  have hl_a_Undo : a.Undo.size ≤ 9223372036854775807 := Bd.str (hb_a _ (by simp))
  have hl_a_V_S : a.V.S.size ≤ 9223372036854775807 := Bd.str (hb_a _ (by simp))
  have hb_b : BdDV (U := UU) (.agg [.lit (.string b.F.Kind), .sl .eVal b.F.Fields, .lit (.string b.Undo), .lit (.int .i64 b.State), .lit (.int .i64 b.Tries), .lit (.int .i64 b.Due), .lit (.int .i64 b.V.K), .lit (.int .i64 b.V.N), .lit (.string b.V.S)]) := hb _ (List.mem_cons_of_mem _ (List.mem_cons_self))
  have hl_b_F_Kind : b.F.Kind.size ≤ 9223372036854775807 := Bd.str (hb_b _ (by simp))
  have hl_b_F_Fields : b.F.Fields.length ≤ 9223372036854775807 := Bd.len (U := UU) (τ := .eVal) (xs := b.F.Fields) (hb_b _ (by simp))
  have hl_b_Undo : b.Undo.size ≤ 9223372036854775807 := Bd.str (hb_b _ (by simp))
  have hl_b_V_S : b.V.S.size ≤ 9223372036854775807 := Bd.str (hb_b _ (by simp))
  clear hp hb
  rw [vc_laws_eqTask a b]
  obtain ⟨aF, aUndo, aState, aTries, aDue, aV⟩ := a
  obtain ⟨bF, bUndo, bState, bTries, bDue, bV⟩ := b
  repeat' (apply if_cond <;> intro _)
  all_goals (first | apply Lf_t | apply Lf_f) <;> simp_all
def con_laws_szTaskS : Con UU where
  α := (List DTask) × Int
  md := [.ro, .ro]
  of := fun | [.one (.sl .lTask a0), .one (.lit (.int .i64 a1))] => some (a0, a1) | _ => none
  ds := fun (a, left) => [.one (.sl .lTask a), .one (.lit (.int .i64 left))]
  pre := fun (a, left) => [0 ≤ left]
  res := fun (a, left) => ⟨[.one (.lit (.int .i64 (szr left (sizeTaskS a))))], true, []⟩
  law := by intro l x h; (try simp only at h); split at h <;> cases h; rfl
def I_laws_szTaskS_5 (a : (List DTask)) (left : Int) : Int × Int × Unit → Prop := fun (lf, i, _) => 0 ≤ lf ∧ 0 ≤ i ∧ i ≤ a.length ∧ szr lf ((a.drop i.toNat).map sizeTask).sum = szr left (sizeTaskS a)
def μ_laws_szTaskS_5 (a : (List DTask)) (left : Int) : Int × Int × Unit → Nat := fun (lf, i, _) => a.length - i.toNat
def ann_laws_szTaskS : con_laws_szTaskS.α → Nat → Option (Ann UU) := fun (a, left) => annL [(5, annOf [.slot 1 (1, 1024) (.lit (.int .i64)), .slot 5 (5, 1024) (.lit (.int .i64))] (fun _ => I_laws_szTaskS_5 a left) (μ_laws_szTaskS_5 a left))]
def use_laws_szTaskS : List (FuncId × Con UU) := [(83, con_laws_szTask)]
theorem vc_laws_szTaskS (a : (List DTask)) (left : Int) : goal EE use_laws_szTaskS Go.Proofs.Try.f23 con_laws_szTaskS ann_laws_szTaskS (a, left) = (let x0 : Int := IntKind.wrap IntKind.i64 (left - (↑(List.length a) : Int));
bif decide (x0 < (0 : Int)) then Lf [DV.one (Cell.lit (Value.int IntKind.i64 (-1 : Int)))] [DV.one (Cell.lit (Value.int IntKind.i64 (szr left (sizeTaskS a))))]
else
  I_laws_szTaskS_5 a left (x0, (0 : Int), PUnit.unit) ∧
    ∀ (y : Int × Int × PUnit),
      let x1 : Int := szr y.1 (sizeTask (List.getD a (Int.toNat y.2.1) zTask));
      I_laws_szTaskS_5 a left y → bif decide (y.2.1 < (↑(List.length a) : Int)) then (0 : Int) ≤ y.2.1 ∧ Int.toNat y.2.1 < List.length a ∧ (0 : Int) ≤ y.1 ∧ bif decide (x1 < (0 : Int)) then Lf [DV.one (Cell.lit (Value.int IntKind.i64 (-1 : Int)))] [DV.one (Cell.lit (Value.int IntKind.i64 (szr left (sizeTaskS a))))] else I_laws_szTaskS_5 a left (x1, IntKind.wrap IntKind.i64 (y.2.1 + (1 : Int)), PUnit.unit) ∧ μ_laws_szTaskS_5 a left (x1, IntKind.wrap IntKind.i64 (y.2.1 + (1 : Int)), PUnit.unit) < μ_laws_szTaskS_5 a left y else Lf [DV.one (Cell.lit (Value.int IntKind.i64 y.1))] [DV.one (Cell.lit (Value.int IntKind.i64 (szr left (sizeTaskS a))))]) := by kernel_rfl
theorem ok_laws_szTaskS : Holds EE (23, con_laws_szTaskS) := by
  refine holds_of EE_ok Go.Proofs.Try.func23 con_laws_szTaskS (by kernel_rfl) rfl use_laws_szTaskS (all_cons ok_laws_szTask all_nil) ann_laws_szTaskS (fun x hp hb => ?_)
  obtain ⟨a, left⟩ := x
  have hb_a : BdDV (U := UU) (.one (.sl .lTask a)) := hb _ (List.mem_cons_self)
  have hl_a : a.length ≤ 9223372036854775807 := Bd.len hb_a
  have hb_left : BdDV (U := UU) (.one (.lit (.int .i64 left))) := hb _ (List.mem_cons_of_mem _ (List.mem_cons_self))
  have hl_left := Bd.i64 hb_left
  have hp0 : 0 ≤ left := hp _ (List.mem_cons_self)
  clear hp hb
  rw [vc_laws_szTaskS a left]
  dsimp only
  rw [wrap_i64 (by omega) (by omega)]
  refine if_cond (fun h => Lf_i ?_) (fun h => ⟨?_, ?_⟩)
  · simp [szr, sizeTaskS] at *; omega
  · simp only [I_laws_szTaskS_5, sizeTaskS]; simp at h; have h' : 0 ≤ left - a.length := by omega
    exact ⟨h', by omega, by omega, szr_sub h'⟩
  rintro ⟨lf, i, ⟨⟩⟩ ⟨h0, h1, h2, hR⟩
  refine if_cond (fun hc => ?_) (fun hc => ?_)
  · have hc : i < a.length := by simpa using hc
    rw [drop_step a zTask h1 hc, List.map_cons, List.sum_cons] at hR
    simp only at *
    rw [wrap_i64 (by omega) (by omega)]
    generalize List.getD a i.toNat zTask = x at *
    refine ⟨by omega, by omega, by omega, if_cond (fun h => Lf_i ?_) (fun h => ⟨⟨?_, by omega, by omega, ?_⟩, ?_⟩)⟩
    · rw [← hR]; exact (szr_bad (of_decide_eq_true h)).symm
    · simp at h; omega
    · rw [← hR]; simp at h; exact szr_szr h
    · simp only [μ_laws_szTaskS_5]; omega
  · have hc : a.length ≤ i := by simpa using hc
    rw [drop_end a hc] at hR
    apply Lf_i; rw [← hR]; simp [szr, h0]
def con_laws_toTaskS : Con UU where
  α := (List DTask)
  md := [.ro]
  of := fun | [.one (.sl .lTask a0)] => some a0 | _ => none
  ds := fun a => [.one (.sl .lTask a)]
  pre := fun a => [sizeTaskS a ≤ 4294967296]
  res := fun a => ⟨[.one (.sl .eTask a)], true, []⟩
  law := by intro l x h; (try simp only at h); split at h <;> cases h; rfl
def I_laws_toTaskS_3 (a : (List DTask)) : List DTask × Int × Unit → Prop := fun (out, i, _) => 0 ≤ i ∧ i ≤ a.length ∧ out = a.take i.toNat ++ List.replicate (a.length - i.toNat) zTask
def μ_laws_toTaskS_3 (a : (List DTask)) : List DTask × Int × Unit → Nat := fun (out, i, _) => a.length - i.toNat
def ann_laws_toTaskS : con_laws_toTaskS.α → Nat → Option (Ann UU) := fun a => annL [(3, annOf [.slot 3 (3, 1024) (.own .eTask true), .slot 4 (4, 1024) (.lit (.int .i64))] (fun _ => I_laws_toTaskS_3 a) (μ_laws_toTaskS_3 a))]
def use_laws_toTaskS : List (FuncId × Con UU) := [(85, con_laws_toTask)]
theorem vc_laws_toTaskS (a : (List DTask)) : goal EE use_laws_toTaskS Go.Proofs.Try.f25 con_laws_toTaskS ann_laws_toTaskS a = (let x0 : Int := (↑(List.length a) : Int);
(0 : Int) ≤ x0 ∧
  x0 = x0 ∧
    x0 ≤ (4294967296 : Int) ∧
      I_laws_toTaskS_3 a (List.replicate (Int.toNat x0) zTask, (0 : Int), PUnit.unit) ∧
        ∀ (y : List DTask × Int × PUnit),
          let x1 : Nat := Int.toNat y.2.1;
          I_laws_toTaskS_3 a y → bif decide (y.2.1 < x0) then (0 : Int) ≤ y.2.1 ∧ x1 < List.length a ∧ sizeTask (List.getD a x1 zTask) ≤ (4294967296 : Nat) ∧ (0 : Int) ≤ y.2.1 ∧ x1 < List.length y.1 ∧ x1 < List.length y.1 ∧ I_laws_toTaskS_3 a (List.set y.1 x1 (List.getD a x1 zTask), IntKind.wrap IntKind.i64 (y.2.1 + (1 : Int)), PUnit.unit) ∧ μ_laws_toTaskS_3 a (List.set y.1 x1 (List.getD a x1 zTask), IntKind.wrap IntKind.i64 (y.2.1 + (1 : Int)), PUnit.unit) < μ_laws_toTaskS_3 a y else Lf [DV.one (Cell.sl Cd.eTask y.1)] [DV.one (Cell.sl Cd.eTask a)]) := by kernel_rfl
theorem ok_laws_toTaskS : Holds EE (25, con_laws_toTaskS) := by
  refine holds_of EE_ok Go.Proofs.Try.func25 con_laws_toTaskS (by kernel_rfl) rfl use_laws_toTaskS (all_cons ok_laws_toTask all_nil) ann_laws_toTaskS (fun (a : (List DTask)) hp hb => ?_)
  have hb_a : BdDV (U := UU) (.one (.sl .lTask a)) := hb _ (List.mem_cons_self)
  have hl_a : a.length ≤ 9223372036854775807 := Bd.len hb_a
  have hp0 : sizeTaskS a ≤ 4294967296 := hp _ (List.mem_cons_self)
  clear hp hb
  rw [vc_laws_toTaskS a]
  dsimp only
  have hlen : a.length ≤ 4294967296 := by simp only [sizeTaskS] at hp0; omega
  refine ⟨by omega, rfl, by omega, ?_, ?_⟩
  · simp [I_laws_toTaskS_3]
  rintro ⟨out, i, ⟨⟩⟩ ⟨h1, h2, rfl⟩
  simp only at *
  refine if_cond (fun hc => ?_) (fun hc => ?_)
  · have hc : i < a.length := by simpa using hc
    rw [wrap_i64 (by omega) (by omega), set_fill a zTask h1 hc]
    exact ⟨h1, by omega, by exact Nat.le_trans (sum_getD_le sizeTask a zTask h1 hc) (by simp only [sizeTaskS] at hp0; omega), h1, by simp; omega, by simp; omega, ⟨by omega, by omega, rfl⟩, by simp only [μ_laws_toTaskS_3]; omega⟩
  · have hc : a.length ≤ i := by simpa using hc
    have e : i.toNat = a.length := by omega
    rw [e]; simp; exact Lf_rfl _
def con_laws_eqTaskS : Con UU where
  α := (List DTask) × (List DTask)
  md := [.ro, .ro]
  of := fun | [.one (.sl .eTask a0), .one (.sl .eTask a1)] => some (a0, a1) | _ => none
  ds := fun (a, b) => [.one (.sl .eTask a), .one (.sl .eTask b)]
  pre := fun (a, b) => []
  res := fun (a, b) => ⟨[.one (.lit (.bool (decide (a = b))))], true, []⟩
  law := by intro l x h; (try simp only at h); split at h <;> cases h; rfl
def I_laws_eqTaskS_4 (a : (List DTask)) (b : (List DTask)) : Int × Unit → Prop := fun (i, _) => 0 ≤ i ∧ i ≤ a.length ∧ a.length = b.length ∧ (a.drop i.toNat = b.drop i.toNat ↔ a = b)
def μ_laws_eqTaskS_4 (a : (List DTask)) (b : (List DTask)) : Int × Unit → Nat := fun (i, _) => a.length - i.toNat
def ann_laws_eqTaskS : con_laws_eqTaskS.α → Nat → Option (Ann UU) := fun (a, b) => annL [(4, annOf [.slot 5 (5, 1024) (.lit (.int .i64))] (fun _ => I_laws_eqTaskS_4 a b) (μ_laws_eqTaskS_4 a b))]
def use_laws_eqTaskS : List (FuncId × Con UU) := [(88, con_laws_eqTask)]
theorem vc_laws_eqTaskS (a : (List DTask)) (b : (List DTask)) : goal EE use_laws_eqTaskS Go.Proofs.Try.f27 con_laws_eqTaskS ann_laws_eqTaskS (a, b) = (bif (↑(List.length a) : Int) != (↑(List.length b) : Int) then Lf [DV.one (Cell.lit (Value.bool false))] [DV.one (Cell.lit (Value.bool (decide (a = b))))] else I_laws_eqTaskS_4 a b ((0 : Int), PUnit.unit) ∧ ∀ (y : Int × PUnit), I_laws_eqTaskS_4 a b y → bif decide (y.1 < (↑(List.length a) : Int)) then (0 : Int) ≤ y.1 ∧ Int.toNat y.1 < List.length a ∧ (0 : Int) ≤ y.1 ∧ Int.toNat y.1 < List.length b ∧ bif !decide (List.getD a (Int.toNat y.1) zTask = List.getD b (Int.toNat y.1) zTask) then Lf [DV.one (Cell.lit (Value.bool false))] [DV.one (Cell.lit (Value.bool (decide (a = b))))] else I_laws_eqTaskS_4 a b (IntKind.wrap IntKind.i64 (y.1 + (1 : Int)), PUnit.unit) ∧ μ_laws_eqTaskS_4 a b (IntKind.wrap IntKind.i64 (y.1 + (1 : Int)), PUnit.unit) < μ_laws_eqTaskS_4 a b y else Lf [DV.one (Cell.lit (Value.bool true))] [DV.one (Cell.lit (Value.bool (decide (a = b))))]) := by kernel_rfl
theorem ok_laws_eqTaskS : Holds EE (27, con_laws_eqTaskS) := by
  refine holds_of EE_ok Go.Proofs.Try.func27 con_laws_eqTaskS (by kernel_rfl) rfl use_laws_eqTaskS (all_cons ok_laws_eqTask all_nil) ann_laws_eqTaskS (fun x hp hb => ?_)
  obtain ⟨a, b⟩ := x
  have hb_a : BdDV (U := UU) (.one (.sl .eTask a)) := hb _ (List.mem_cons_self)
  have hl_a : a.length ≤ 9223372036854775807 := Bd.len hb_a
  have hb_b : BdDV (U := UU) (.one (.sl .eTask b)) := hb _ (List.mem_cons_of_mem _ (List.mem_cons_self))
  have hl_b : b.length ≤ 9223372036854775807 := Bd.len hb_b
  clear hp hb
  rw [vc_laws_eqTaskS a b]
  refine if_cond (fun h => Lf_f ?_) (fun h => ⟨?_, ?_⟩)
  · rintro rfl; simp at h
  · simp [I_laws_eqTaskS_4] at *; omega
  rintro ⟨i, ⟨⟩⟩ ⟨h1, h2, h3, hR⟩
  simp only at *
  refine if_cond (fun hc => ?_) (fun hc => ?_)
  · have hc : i < a.length := by simpa using hc
    rw [drop_step a zTask h1 hc, drop_step b zTask h1 (by omega)] at hR
    rw [wrap_i64 (by omega) (by omega)]
    refine ⟨by omega, by omega, by omega, by omega, if_cond (fun h => Lf_f ?_) (fun h => ⟨⟨by omega, by omega, h3, ?_⟩, ?_⟩)⟩
    · rw [← hR]; simp at h; simp [h]
    · rw [← hR]; simp at h; simp [h]
    · simp only [μ_laws_eqTaskS_4]; omega
  · have hc : a.length ≤ i := by simpa using hc
    rw [drop_end a hc, drop_end b (by omega)] at hR
    exact Lf_t (hR.1 rfl)
def con_laws_szUndo : Con UU where
  α := DUndo × Int
  md := [.ro, .ro]
  of := fun | [.agg [.lit (.string a0), .lit (.string a1), .sl .lVal a2], .one (.lit (.int .i64 a3))] => some (⟨a0, ⟨a1, a2⟩⟩, a3) | _ => none
  ds := fun (a, left) => [.agg [.lit (.string a.Key), .lit (.string a.F.Kind), .sl .lVal a.F.Fields], .one (.lit (.int .i64 left))]
  pre := fun (a, left) => [0 ≤ left]
  res := fun (a, left) => ⟨[.one (.lit (.int .i64 (szr left (sizeUndo a))))], true, []⟩
  law := by intro l x h; (try simp only at h); split at h <;> cases h; rfl
def ann_laws_szUndo : con_laws_szUndo.α → Nat → Option (Ann UU) := fun (a, left) => annL []
def use_laws_szUndo : List (FuncId × Con UU) := [(49, con_laws_szFact)]
theorem vc_laws_szUndo (a : DUndo) (left : Int) : goal EE use_laws_szUndo Go.Proofs.Try.f68 con_laws_szUndo ann_laws_szUndo (a, left) = (let x0 : Int := IntKind.wrap IntKind.i64 (left - (↑(ByteArray.size a.Key) : Int));
bif decide (x0 < (0 : Int)) then Lf [DV.one (Cell.lit (Value.int IntKind.i64 (-1 : Int)))] [DV.one (Cell.lit (Value.int IntKind.i64 (szr left (sizeUndo a))))] else (0 : Int) ≤ x0 ∧ bif decide (szr x0 (sizeFact a.F) < (0 : Int)) then Lf [DV.one (Cell.lit (Value.int IntKind.i64 (-1 : Int)))] [DV.one (Cell.lit (Value.int IntKind.i64 (szr left (sizeUndo a))))] else Lf [DV.one (Cell.lit (Value.int IntKind.i64 (szr x0 (sizeFact a.F))))] [DV.one (Cell.lit (Value.int IntKind.i64 (szr left (sizeUndo a))))]) := by kernel_rfl
theorem ok_laws_szUndo : Holds EE (68, con_laws_szUndo) := by
  refine holds_of EE_ok Go.Proofs.Try.func68 con_laws_szUndo (by kernel_rfl) rfl use_laws_szUndo (all_cons ok_laws_szFact all_nil) ann_laws_szUndo (fun x hp hb => ?_)
  obtain ⟨a, left⟩ := x
  have hb_a : BdDV (U := UU) (.agg [.lit (.string a.Key), .lit (.string a.F.Kind), .sl .lVal a.F.Fields]) := hb _ (List.mem_cons_self)
  have hl_a_Key : a.Key.size ≤ 9223372036854775807 := Bd.str (hb_a _ (by simp))
  have hl_a_F_Kind : a.F.Kind.size ≤ 9223372036854775807 := Bd.str (hb_a _ (by simp))
  have hl_a_F_Fields : a.F.Fields.length ≤ 9223372036854775807 := Bd.len (U := UU) (τ := .lVal) (xs := a.F.Fields) (hb_a _ (by simp))
  have hb_left : BdDV (U := UU) (.one (.lit (.int .i64 left))) := hb _ (List.mem_cons_of_mem _ (List.mem_cons_self))
  have hl_left := Bd.i64 hb_left
  have hp0 : 0 ≤ left := hp _ (List.mem_cons_self)
  clear hp hb
  rw [vc_laws_szUndo a left]
  dsimp only
  rw [wrap_i64 (by omega) (by omega)]
  refine if_cond (fun h => Lf_i (szr_bad' ?_)) (fun h => ?_)
  · have h := of_decide_eq_true h; simp only [sizeUndo]; omega
  have h0 := of_decide_eq_false h
  refine ⟨by omega, if_cond (fun h => Lf_i (szr_bad' ?_)) (fun h => ?_)⟩
  · have h := szr_neg h; simp only [sizeUndo]; omega
  obtain ⟨e1, h1⟩ := szr_pos h
  rw [e1]
  exact Lf_i (by rw [← szr_ok' (by simp only [sizeUndo]; omega)]; simp only [sizeUndo]; try omega)
def con_laws_toUndo : Con UU where
  α := DUndo
  md := [.ro]
  of := fun | [.agg [.lit (.string a0), .lit (.string a1), .sl .lVal a2]] => some ⟨a0, ⟨a1, a2⟩⟩ | _ => none
  ds := fun a => [.agg [.lit (.string a.Key), .lit (.string a.F.Kind), .sl .lVal a.F.Fields]]
  pre := fun a => [sizeUndo a ≤ 4294967296]
  res := fun a => ⟨[.agg [.lit (.string a.Key), .lit (.string a.F.Kind), .sl .eVal a.F.Fields]], true, []⟩
  law := by intro l x h; (try simp only at h); split at h <;> cases h; rfl
def ann_laws_toUndo : con_laws_toUndo.α → Nat → Option (Ann UU) := fun a => annL []
def use_laws_toUndo : List (FuncId × Con UU) := [(51, con_laws_toFact)]
theorem vc_laws_toUndo (a : DUndo) : goal EE use_laws_toUndo Go.Proofs.Try.f71 con_laws_toUndo ann_laws_toUndo a = (sizeFact a.F ≤ (4294967296 : Nat) ∧ Lf [DV.agg [Cell.lit (Value.string a.Key), Cell.lit (Value.string a.F.Kind), Cell.sl Cd.eVal a.F.Fields]] [DV.agg [Cell.lit (Value.string a.Key), Cell.lit (Value.string a.F.Kind), Cell.sl Cd.eVal a.F.Fields]]) := by kernel_rfl
theorem ok_laws_toUndo : Holds EE (71, con_laws_toUndo) := by
  refine holds_of EE_ok Go.Proofs.Try.func71 con_laws_toUndo (by kernel_rfl) rfl use_laws_toUndo (all_cons ok_laws_toFact all_nil) ann_laws_toUndo (fun (a : DUndo) hp hb => ?_)
  have hb_a : BdDV (U := UU) (.agg [.lit (.string a.Key), .lit (.string a.F.Kind), .sl .lVal a.F.Fields]) := hb _ (List.mem_cons_self)
  have hl_a_Key : a.Key.size ≤ 9223372036854775807 := Bd.str (hb_a _ (by simp))
  have hl_a_F_Kind : a.F.Kind.size ≤ 9223372036854775807 := Bd.str (hb_a _ (by simp))
  have hl_a_F_Fields : a.F.Fields.length ≤ 9223372036854775807 := Bd.len (U := UU) (τ := .lVal) (xs := a.F.Fields) (hb_a _ (by simp))
  have hp0 : sizeUndo a ≤ 4294967296 := hp _ (List.mem_cons_self)
  clear hp hb
  rw [vc_laws_toUndo a]
  simp only [sizeUndo] at hp0
  repeat' (first | exact Lf_rfl _ | (refine And.intro (by omega) ?_))
def con_laws_eqUndo : Con UU where
  α := DUndo × DUndo
  md := [.ro, .ro]
  of := fun | [.agg [.lit (.string a0), .lit (.string a1), .sl .eVal a2], .agg [.lit (.string a3), .lit (.string a4), .sl .eVal a5]] => some (⟨a0, ⟨a1, a2⟩⟩, ⟨a3, ⟨a4, a5⟩⟩) | _ => none
  ds := fun (a, b) => [.agg [.lit (.string a.Key), .lit (.string a.F.Kind), .sl .eVal a.F.Fields], .agg [.lit (.string b.Key), .lit (.string b.F.Kind), .sl .eVal b.F.Fields]]
  pre := fun (a, b) => []
  res := fun (a, b) => ⟨[.one (.lit (.bool (decide (a = b))))], true, []⟩
  law := by intro l x h; (try simp only at h); split at h <;> cases h; rfl
def ann_laws_eqUndo : con_laws_eqUndo.α → Nat → Option (Ann UU) := fun (a, b) => annL []
def use_laws_eqUndo : List (FuncId × Con UU) := [(53, con_laws_eqFact)]
theorem vc_laws_eqUndo (a : DUndo) (b : DUndo) : goal EE use_laws_eqUndo Go.Proofs.Try.f75 con_laws_eqUndo ann_laws_eqUndo (a, b) = (bif !ByteArray.toList a.Key == ByteArray.toList b.Key then Lf [DV.one (Cell.lit (Value.bool false))] [DV.one (Cell.lit (Value.bool (decide (a = b))))] else bif !decide (a.F = b.F) then Lf [DV.one (Cell.lit (Value.bool false))] [DV.one (Cell.lit (Value.bool (decide (a = b))))] else Lf [DV.one (Cell.lit (Value.bool true))] [DV.one (Cell.lit (Value.bool (decide (a = b))))]) := by kernel_rfl
theorem ok_laws_eqUndo : Holds EE (75, con_laws_eqUndo) := by
  refine holds_of EE_ok Go.Proofs.Try.func75 con_laws_eqUndo (by kernel_rfl) rfl use_laws_eqUndo (all_cons ok_laws_eqFact all_nil) ann_laws_eqUndo (fun x hp hb => ?_)
  obtain ⟨a, b⟩ := x
  have hb_a : BdDV (U := UU) (.agg [.lit (.string a.Key), .lit (.string a.F.Kind), .sl .eVal a.F.Fields]) := hb _ (List.mem_cons_self)
  have hl_a_Key : a.Key.size ≤ 9223372036854775807 := Bd.str (hb_a _ (by simp))
  have hl_a_F_Kind : a.F.Kind.size ≤ 9223372036854775807 := Bd.str (hb_a _ (by simp))
  have hl_a_F_Fields : a.F.Fields.length ≤ 9223372036854775807 := Bd.len (U := UU) (τ := .eVal) (xs := a.F.Fields) (hb_a _ (by simp))
  have hb_b : BdDV (U := UU) (.agg [.lit (.string b.Key), .lit (.string b.F.Kind), .sl .eVal b.F.Fields]) := hb _ (List.mem_cons_of_mem _ (List.mem_cons_self))
  have hl_b_Key : b.Key.size ≤ 9223372036854775807 := Bd.str (hb_b _ (by simp))
  have hl_b_F_Kind : b.F.Kind.size ≤ 9223372036854775807 := Bd.str (hb_b _ (by simp))
  have hl_b_F_Fields : b.F.Fields.length ≤ 9223372036854775807 := Bd.len (U := UU) (τ := .eVal) (xs := b.F.Fields) (hb_b _ (by simp))
  clear hp hb
  rw [vc_laws_eqUndo a b]
  obtain ⟨aKey, aF⟩ := a
  obtain ⟨bKey, bF⟩ := b
  repeat' (apply if_cond <;> intro _)
  all_goals (first | apply Lf_t | apply Lf_f) <;> simp_all
def con_laws_szUndoS : Con UU where
  α := (List DUndo) × Int
  md := [.ro, .ro]
  of := fun | [.one (.sl .lUndo a0), .one (.lit (.int .i64 a1))] => some (a0, a1) | _ => none
  ds := fun (a, left) => [.one (.sl .lUndo a), .one (.lit (.int .i64 left))]
  pre := fun (a, left) => [0 ≤ left]
  res := fun (a, left) => ⟨[.one (.lit (.int .i64 (szr left (sizeUndoS a))))], true, []⟩
  law := by intro l x h; (try simp only at h); split at h <;> cases h; rfl
def I_laws_szUndoS_5 (a : (List DUndo)) (left : Int) : Int × Int × Unit → Prop := fun (lf, i, _) => 0 ≤ lf ∧ 0 ≤ i ∧ i ≤ a.length ∧ szr lf ((a.drop i.toNat).map sizeUndo).sum = szr left (sizeUndoS a)
def μ_laws_szUndoS_5 (a : (List DUndo)) (left : Int) : Int × Int × Unit → Nat := fun (lf, i, _) => a.length - i.toNat
def ann_laws_szUndoS : con_laws_szUndoS.α → Nat → Option (Ann UU) := fun (a, left) => annL [(5, annOf [.slot 1 (1, 1024) (.lit (.int .i64)), .slot 5 (5, 1024) (.lit (.int .i64))] (fun _ => I_laws_szUndoS_5 a left) (μ_laws_szUndoS_5 a left))]
def use_laws_szUndoS : List (FuncId × Con UU) := [(68, con_laws_szUndo)]
theorem vc_laws_szUndoS (a : (List DUndo)) (left : Int) : goal EE use_laws_szUndoS Go.Proofs.Try.f13 con_laws_szUndoS ann_laws_szUndoS (a, left) = (let x0 : Int := IntKind.wrap IntKind.i64 (left - (↑(List.length a) : Int));
bif decide (x0 < (0 : Int)) then Lf [DV.one (Cell.lit (Value.int IntKind.i64 (-1 : Int)))] [DV.one (Cell.lit (Value.int IntKind.i64 (szr left (sizeUndoS a))))]
else
  I_laws_szUndoS_5 a left (x0, (0 : Int), PUnit.unit) ∧
    ∀ (y : Int × Int × PUnit),
      let x1 : Int := szr y.1 (sizeUndo (List.getD a (Int.toNat y.2.1) zUndo));
      I_laws_szUndoS_5 a left y → bif decide (y.2.1 < (↑(List.length a) : Int)) then (0 : Int) ≤ y.2.1 ∧ Int.toNat y.2.1 < List.length a ∧ (0 : Int) ≤ y.1 ∧ bif decide (x1 < (0 : Int)) then Lf [DV.one (Cell.lit (Value.int IntKind.i64 (-1 : Int)))] [DV.one (Cell.lit (Value.int IntKind.i64 (szr left (sizeUndoS a))))] else I_laws_szUndoS_5 a left (x1, IntKind.wrap IntKind.i64 (y.2.1 + (1 : Int)), PUnit.unit) ∧ μ_laws_szUndoS_5 a left (x1, IntKind.wrap IntKind.i64 (y.2.1 + (1 : Int)), PUnit.unit) < μ_laws_szUndoS_5 a left y else Lf [DV.one (Cell.lit (Value.int IntKind.i64 y.1))] [DV.one (Cell.lit (Value.int IntKind.i64 (szr left (sizeUndoS a))))]) := by kernel_rfl
theorem ok_laws_szUndoS : Holds EE (13, con_laws_szUndoS) := by
  refine holds_of EE_ok Go.Proofs.Try.func13 con_laws_szUndoS (by kernel_rfl) rfl use_laws_szUndoS (all_cons ok_laws_szUndo all_nil) ann_laws_szUndoS (fun x hp hb => ?_)
  obtain ⟨a, left⟩ := x
  have hb_a : BdDV (U := UU) (.one (.sl .lUndo a)) := hb _ (List.mem_cons_self)
  have hl_a : a.length ≤ 9223372036854775807 := Bd.len hb_a
  have hb_left : BdDV (U := UU) (.one (.lit (.int .i64 left))) := hb _ (List.mem_cons_of_mem _ (List.mem_cons_self))
  have hl_left := Bd.i64 hb_left
  have hp0 : 0 ≤ left := hp _ (List.mem_cons_self)
  clear hp hb
  rw [vc_laws_szUndoS a left]
  dsimp only
  rw [wrap_i64 (by omega) (by omega)]
  refine if_cond (fun h => Lf_i ?_) (fun h => ⟨?_, ?_⟩)
  · simp [szr, sizeUndoS] at *; omega
  · simp only [I_laws_szUndoS_5, sizeUndoS]; simp at h; have h' : 0 ≤ left - a.length := by omega
    exact ⟨h', by omega, by omega, szr_sub h'⟩
  rintro ⟨lf, i, ⟨⟩⟩ ⟨h0, h1, h2, hR⟩
  refine if_cond (fun hc => ?_) (fun hc => ?_)
  · have hc : i < a.length := by simpa using hc
    rw [drop_step a zUndo h1 hc, List.map_cons, List.sum_cons] at hR
    simp only at *
    rw [wrap_i64 (by omega) (by omega)]
    generalize List.getD a i.toNat zUndo = x at *
    refine ⟨by omega, by omega, by omega, if_cond (fun h => Lf_i ?_) (fun h => ⟨⟨?_, by omega, by omega, ?_⟩, ?_⟩)⟩
    · rw [← hR]; exact (szr_bad (of_decide_eq_true h)).symm
    · simp at h; omega
    · rw [← hR]; simp at h; exact szr_szr h
    · simp only [μ_laws_szUndoS_5]; omega
  · have hc : a.length ≤ i := by simpa using hc
    rw [drop_end a hc] at hR
    apply Lf_i; rw [← hR]; simp [szr, h0]
def con_laws_toUndoS : Con UU where
  α := (List DUndo)
  md := [.ro]
  of := fun | [.one (.sl .lUndo a0)] => some a0 | _ => none
  ds := fun a => [.one (.sl .lUndo a)]
  pre := fun a => [sizeUndoS a ≤ 4294967296]
  res := fun a => ⟨[.one (.sl .eUndo a)], true, []⟩
  law := by intro l x h; (try simp only at h); split at h <;> cases h; rfl
def I_laws_toUndoS_3 (a : (List DUndo)) : List DUndo × Int × Unit → Prop := fun (out, i, _) => 0 ≤ i ∧ i ≤ a.length ∧ out = a.take i.toNat ++ List.replicate (a.length - i.toNat) zUndo
def μ_laws_toUndoS_3 (a : (List DUndo)) : List DUndo × Int × Unit → Nat := fun (out, i, _) => a.length - i.toNat
def ann_laws_toUndoS : con_laws_toUndoS.α → Nat → Option (Ann UU) := fun a => annL [(3, annOf [.slot 3 (3, 1024) (.own .eUndo true), .slot 4 (4, 1024) (.lit (.int .i64))] (fun _ => I_laws_toUndoS_3 a) (μ_laws_toUndoS_3 a))]
def use_laws_toUndoS : List (FuncId × Con UU) := [(71, con_laws_toUndo)]
theorem vc_laws_toUndoS (a : (List DUndo)) : goal EE use_laws_toUndoS Go.Proofs.Try.f15 con_laws_toUndoS ann_laws_toUndoS a = (let x0 : Int := (↑(List.length a) : Int);
(0 : Int) ≤ x0 ∧
  x0 = x0 ∧
    x0 ≤ (4294967296 : Int) ∧
      I_laws_toUndoS_3 a (List.replicate (Int.toNat x0) zUndo, (0 : Int), PUnit.unit) ∧
        ∀ (y : List DUndo × Int × PUnit),
          let x1 : Nat := Int.toNat y.2.1;
          I_laws_toUndoS_3 a y → bif decide (y.2.1 < x0) then (0 : Int) ≤ y.2.1 ∧ x1 < List.length a ∧ sizeUndo (List.getD a x1 zUndo) ≤ (4294967296 : Nat) ∧ (0 : Int) ≤ y.2.1 ∧ x1 < List.length y.1 ∧ x1 < List.length y.1 ∧ I_laws_toUndoS_3 a (List.set y.1 x1 (List.getD a x1 zUndo), IntKind.wrap IntKind.i64 (y.2.1 + (1 : Int)), PUnit.unit) ∧ μ_laws_toUndoS_3 a (List.set y.1 x1 (List.getD a x1 zUndo), IntKind.wrap IntKind.i64 (y.2.1 + (1 : Int)), PUnit.unit) < μ_laws_toUndoS_3 a y else Lf [DV.one (Cell.sl Cd.eUndo y.1)] [DV.one (Cell.sl Cd.eUndo a)]) := by kernel_rfl
theorem ok_laws_toUndoS : Holds EE (15, con_laws_toUndoS) := by
  refine holds_of EE_ok Go.Proofs.Try.func15 con_laws_toUndoS (by kernel_rfl) rfl use_laws_toUndoS (all_cons ok_laws_toUndo all_nil) ann_laws_toUndoS (fun (a : (List DUndo)) hp hb => ?_)
  have hb_a : BdDV (U := UU) (.one (.sl .lUndo a)) := hb _ (List.mem_cons_self)
  have hl_a : a.length ≤ 9223372036854775807 := Bd.len hb_a
  have hp0 : sizeUndoS a ≤ 4294967296 := hp _ (List.mem_cons_self)
  clear hp hb
  rw [vc_laws_toUndoS a]
  dsimp only
  have hlen : a.length ≤ 4294967296 := by simp only [sizeUndoS] at hp0; omega
  refine ⟨by omega, rfl, by omega, ?_, ?_⟩
  · simp [I_laws_toUndoS_3]
  rintro ⟨out, i, ⟨⟩⟩ ⟨h1, h2, rfl⟩
  simp only at *
  refine if_cond (fun hc => ?_) (fun hc => ?_)
  · have hc : i < a.length := by simpa using hc
    rw [wrap_i64 (by omega) (by omega), set_fill a zUndo h1 hc]
    exact ⟨h1, by omega, by exact Nat.le_trans (sum_getD_le sizeUndo a zUndo h1 hc) (by simp only [sizeUndoS] at hp0; omega), h1, by simp; omega, by simp; omega, ⟨by omega, by omega, rfl⟩, by simp only [μ_laws_toUndoS_3]; omega⟩
  · have hc : a.length ≤ i := by simpa using hc
    have e : i.toNat = a.length := by omega
    rw [e]; simp; exact Lf_rfl _
def con_laws_eqUndoS : Con UU where
  α := (List DUndo) × (List DUndo)
  md := [.ro, .ro]
  of := fun | [.one (.sl .eUndo a0), .one (.sl .eUndo a1)] => some (a0, a1) | _ => none
  ds := fun (a, b) => [.one (.sl .eUndo a), .one (.sl .eUndo b)]
  pre := fun (a, b) => []
  res := fun (a, b) => ⟨[.one (.lit (.bool (decide (a = b))))], true, []⟩
  law := by intro l x h; (try simp only at h); split at h <;> cases h; rfl
def I_laws_eqUndoS_4 (a : (List DUndo)) (b : (List DUndo)) : Int × Unit → Prop := fun (i, _) => 0 ≤ i ∧ i ≤ a.length ∧ a.length = b.length ∧ (a.drop i.toNat = b.drop i.toNat ↔ a = b)
def μ_laws_eqUndoS_4 (a : (List DUndo)) (b : (List DUndo)) : Int × Unit → Nat := fun (i, _) => a.length - i.toNat
def ann_laws_eqUndoS : con_laws_eqUndoS.α → Nat → Option (Ann UU) := fun (a, b) => annL [(4, annOf [.slot 5 (5, 1024) (.lit (.int .i64))] (fun _ => I_laws_eqUndoS_4 a b) (μ_laws_eqUndoS_4 a b))]
def use_laws_eqUndoS : List (FuncId × Con UU) := [(75, con_laws_eqUndo)]
theorem vc_laws_eqUndoS (a : (List DUndo)) (b : (List DUndo)) : goal EE use_laws_eqUndoS Go.Proofs.Try.f17 con_laws_eqUndoS ann_laws_eqUndoS (a, b) = (bif (↑(List.length a) : Int) != (↑(List.length b) : Int) then Lf [DV.one (Cell.lit (Value.bool false))] [DV.one (Cell.lit (Value.bool (decide (a = b))))] else I_laws_eqUndoS_4 a b ((0 : Int), PUnit.unit) ∧ ∀ (y : Int × PUnit), I_laws_eqUndoS_4 a b y → bif decide (y.1 < (↑(List.length a) : Int)) then (0 : Int) ≤ y.1 ∧ Int.toNat y.1 < List.length a ∧ (0 : Int) ≤ y.1 ∧ Int.toNat y.1 < List.length b ∧ bif !decide (List.getD a (Int.toNat y.1) zUndo = List.getD b (Int.toNat y.1) zUndo) then Lf [DV.one (Cell.lit (Value.bool false))] [DV.one (Cell.lit (Value.bool (decide (a = b))))] else I_laws_eqUndoS_4 a b (IntKind.wrap IntKind.i64 (y.1 + (1 : Int)), PUnit.unit) ∧ μ_laws_eqUndoS_4 a b (IntKind.wrap IntKind.i64 (y.1 + (1 : Int)), PUnit.unit) < μ_laws_eqUndoS_4 a b y else Lf [DV.one (Cell.lit (Value.bool true))] [DV.one (Cell.lit (Value.bool (decide (a = b))))]) := by kernel_rfl
theorem ok_laws_eqUndoS : Holds EE (17, con_laws_eqUndoS) := by
  refine holds_of EE_ok Go.Proofs.Try.func17 con_laws_eqUndoS (by kernel_rfl) rfl use_laws_eqUndoS (all_cons ok_laws_eqUndo all_nil) ann_laws_eqUndoS (fun x hp hb => ?_)
  obtain ⟨a, b⟩ := x
  have hb_a : BdDV (U := UU) (.one (.sl .eUndo a)) := hb _ (List.mem_cons_self)
  have hl_a : a.length ≤ 9223372036854775807 := Bd.len hb_a
  have hb_b : BdDV (U := UU) (.one (.sl .eUndo b)) := hb _ (List.mem_cons_of_mem _ (List.mem_cons_self))
  have hl_b : b.length ≤ 9223372036854775807 := Bd.len hb_b
  clear hp hb
  rw [vc_laws_eqUndoS a b]
  refine if_cond (fun h => Lf_f ?_) (fun h => ⟨?_, ?_⟩)
  · rintro rfl; simp at h
  · simp [I_laws_eqUndoS_4] at *; omega
  rintro ⟨i, ⟨⟩⟩ ⟨h1, h2, h3, hR⟩
  simp only at *
  refine if_cond (fun hc => ?_) (fun hc => ?_)
  · have hc : i < a.length := by simpa using hc
    rw [drop_step a zUndo h1 hc, drop_step b zUndo h1 (by omega)] at hR
    rw [wrap_i64 (by omega) (by omega)]
    refine ⟨by omega, by omega, by omega, by omega, if_cond (fun h => Lf_f ?_) (fun h => ⟨⟨by omega, by omega, h3, ?_⟩, ?_⟩)⟩
    · rw [← hR]; simp at h; simp [h]
    · rw [← hR]; simp at h; simp [h]
    · simp only [μ_laws_eqUndoS_4]; omega
  · have hc : a.length ≤ i := by simpa using hc
    rw [drop_end a hc, drop_end b (by omega)] at hR
    exact Lf_t (hR.1 rfl)
def allI (n : Nat) (p : Nat → Bool) : Bool := (List.range n).all p
theorem allI_true {n : Nat} {p : Nat → Bool} (h : ∀ j, j < n → p j = true) : allI n p = true := by simpa [allI] using h
theorem allI_false {n : Nat} {p : Nat → Bool} {j : Nat} (h : j < n) (hj : p j = false) : allI n p = false := by
  simp only [allI, List.all_eq_false, List.mem_range]
  exact ⟨j, h, by simp [hj]⟩
theorem upto_step {i : Int} {p : Nat → Bool} (h0 : 0 ≤ i) (h : ∀ j : Nat, (j : Int) < i → p j = true) (hi : p i.toNat = true) : ∀ j : Nat, (j : Int) < i + 1 → p j = true := by
  intro j hj
  by_cases hji : (j : Int) < i
  · exact h j hji
  · have : j = i.toNat := by omega
    subst this; exact hi
def timerOk (x : DTimer) : Bool := decide (0 ≤ x.At ∧ x.At ≤ 1000000000) && factOk x.F
def timerAt (l : List DTimer) (i : Nat) : Bool := timerOk (List.getD l i zTimer) && (decide (i = 0) || decide ((List.getD l (i - 1) zTimer).At ≤ (List.getD l i zTimer).At))
def timersOk (l : List DTimer) : Bool := decide (l.length ≤ 30) && allI l.length (timerAt l)
/-- The first place where p holds; -1. -/
def idxI (n : Nat) (p : Nat → Bool) : Int := match (List.range n).find? p with | some i => i | none => -1
def anyI (n : Nat) (p : Nat → Bool) : Bool := (List.range n).any p
theorem idxI_found {n i : Nat} {p : Nat → Bool} (h : i < n) (hp : p i = true) (hj : ∀ j, j < i → p j = false) : idxI n p = i := by
  have : (List.range n).find? p = some i := by
    rw [List.find?_range_eq_some]
    exact ⟨hp, List.mem_range.2 h, fun j hj' => by simp [hj j hj']⟩
  simp [idxI, this]
theorem idxI_none {n : Nat} {p : Nat → Bool} (hj : ∀ j, j < n → p j = false) : idxI n p = -1 := by
  have : (List.range n).find? p = none := by
    rw [List.find?_eq_none]
    intro j hj'
    simp [hj j (List.mem_range.1 hj')]
  simp [idxI, this]
theorem idxI_cases (n : Nat) (p : Nat → Bool) : (idxI n p = -1 ∧ ∀ j, j < n → p j = false) ∨ ∃ i, i < n ∧ idxI n p = (i : Int) ∧ p i = true ∧ ∀ j, j < i → p j = false := by
  cases h : (List.range n).find? p with
  | none =>
    refine .inl ⟨by simp [idxI, h], fun j hj => ?_⟩
    have := List.find?_eq_none.1 h j (List.mem_range.2 hj)
    simpa using this
  | some i =>
    rw [List.find?_range_eq_some] at h
    obtain ⟨h1, h2, h3⟩ := h
    exact .inr ⟨i, List.mem_range.1 h2, idxI_found (List.mem_range.1 h2) h1 (fun j hj => by simpa using h3 j hj), h1, fun j hj => by simpa using h3 j hj⟩
theorem idxI_congr {n : Nat} {p q : Nat → Bool} (h : ∀ j, j < n → p j = q j) : idxI n p = idxI n q := by
  rcases idxI_cases n q with ⟨h1, h2⟩ | ⟨i, h1, h2, h3, h4⟩
  · rw [h1, idxI_none (fun j hj => by rw [h j hj, h2 j hj])]
  · rw [h2, idxI_found h1 (by rw [h i h1, h3]) (fun j hj => by rw [h j (by omega), h4 j hj])]
theorem anyI_true {n j : Nat} {p : Nat → Bool} (h : j < n) (hp : p j = true) : anyI n p = true := by
  simp only [anyI, List.any_eq_true, List.mem_range]
  exact ⟨j, h, hp⟩
theorem anyI_false {n : Nat} {p : Nat → Bool} (h : ∀ j, j < n → p j = false) : anyI n p = false := by
  simp only [anyI, List.any_eq_false, List.mem_range]
  exact fun j hj => by simp [h j hj]
theorem anyI_iff {n : Nat} {p : Nat → Bool} : anyI n p = true ↔ ∃ j, j < n ∧ p j = true := by
  simp only [anyI, List.any_eq_true, List.mem_range]
theorem anyI_not {n : Nat} {p : Nat → Bool} : anyI n p = false ↔ ∀ j, j < n → p j = false := by
  simp only [anyI, List.any_eq_false, List.mem_range, Bool.not_eq_true]
theorem allI_iff {n : Nat} {p : Nat → Bool} : allI n p = true ↔ ∀ j, j < n → p j = true := by
  simp only [allI, List.all_eq_true, List.mem_range]
theorem allI_not {n : Nat} {p : Nat → Bool} : allI n p = false ↔ ∃ j, j < n ∧ p j = false := by
  simp only [allI, List.all_eq_false, List.mem_range, Bool.not_eq_true]
theorem anyI_congr {n : Nat} {p q : Nat → Bool} (h : ∀ j, j < n → p j = q j) : anyI n p = anyI n q := by
  rw [Bool.eq_iff_iff, anyI_iff, anyI_iff]
  exact ⟨fun ⟨j, h1, h2⟩ => ⟨j, h1, by rw [← h j h1]; exact h2⟩, fun ⟨j, h1, h2⟩ => ⟨j, h1, by rw [h j h1]; exact h2⟩⟩
theorem allI_congr {n : Nat} {p q : Nat → Bool} (h : ∀ j, j < n → p j = q j) : allI n p = allI n q := by
  rw [Bool.eq_iff_iff, allI_iff, allI_iff]
  exact ⟨fun g j hj => by rw [← h j hj]; exact g j hj, fun g j hj => by rw [h j hj]; exact g j hj⟩
theorem idxI_ge {n : Nat} {p : Nat → Bool} : decide (0 ≤ idxI n p) = anyI n p := by
  rcases idxI_cases n p with ⟨h1, h2⟩ | ⟨i, h1, h2, h3, h4⟩
  · rw [h1, anyI_false h2]; rfl
  · rw [h2, anyI_true h1 h3]; simp
theorem getD_take {α : Type} (l : List α) (z : α) {i j : Nat} (h : j < i) : List.getD (l.take i) j z = List.getD l j z := by
  rw [List.getD_eq_getElem?_getD, List.getD_eq_getElem?_getD, List.getElem?_take, if_pos h]
/-- What a closure answers. -/
theorem closP_of {k : Con UU} {caps : List (DV UU)} {ds : List (DA UU)} {x : k.α} {v : Value} (h : k.of (ds.map DA.dv ++ caps) = some x) (hv : (k.res x).val = [.one (.lit v)]) (hm : (k.res x).muts = [])
    (hl : k.md.length = ds.length + caps.length) (hp : ∀ p ∈ k.pre x, p) : closP k caps ds = some v := by
  unfold closP
  simp only [h, hv, hm]
  rw [if_pos ⟨hl, hp⟩]
theorem val_beq (a b : DVal) : (a.K == b.K && (a.N == b.N && (ByteArray.toList a.S == ByteArray.toList b.S && true))) = decide (a = b) := by
  obtain ⟨K, N, S⟩ := a
  obtain ⟨K', N', S'⟩ := b
  simp only [toList_beq, Bool.and_true]
  rw [Bool.eq_iff_iff]
  simp only [Bool.and_eq_true, beq_iff_eq, decide_eq_true_eq, DVal.mk.injEq]
/-- The end of a search. -/
theorem upto_no {i : Int} {p : Nat → Bool} (h0 : 0 ≤ i) (h : ∀ j : Nat, (j : Int) < i → p j = false) (hi : p i.toNat = false) : ∀ j : Nat, (j : Int) < i + 1 → p j = false := by
  intro j hj
  by_cases hji : (j : Int) < i
  · exact h j hji
  · have : j = i.toNat := by omega
    subst this; exact hi
def daUndo (x : DUndo) : DA UU := ⟨true, [.lit (.string x.Key), .lit (.string x.F.Kind), .sl .eVal x.F.Fields]⟩
def undoAt (l : List DUndo) (i : Nat) : Bool := decide (1 ≤ (List.getD l i zUndo).Key.size ∧ (List.getD l i zUndo).Key.size ≤ 200) && factOk (List.getD l i zUndo).F && !(anyI i fun k => decide ((List.getD l k zUndo).Key = (List.getD l i zUndo).Key))
def undosOk (l : List DUndo) : Bool := decide (l.length ≤ 30) && allI l.length (undoAt l)
def hasKey (l : List DUndo) (key : ByteArray) : Bool := anyI l.length fun k => decide ((List.getD l k zUndo).Key = key)
def undoLast (l : List DUndo) : DFact := if l = [] then zFact else (List.getD l (l.length - 1) zUndo).F
theorem undoLast_ct (l : List DUndo) : ctFact (undoLast l) ≤ 20 * sizeUndoS l := by
  unfold undoLast
  split
  · exact Nat.zero_le _
  · rename_i hl
    have h0 : 0 < l.length := List.length_pos_iff.2 hl
    have h1 : (l.length - 1 : Int).toNat = l.length - 1 := by omega
    have hs := sum_getD_le sizeUndo l zUndo (i := l.length - 1) (by omega) (by omega)
    rw [h1] at hs
    have := ctFact_le (List.getD l (l.length - 1) zUndo).F
    simp only [sizeUndo] at hs
    simp only [sizeUndoS, sizeUndo]
    omega
theorem sum_take_le {α : Type} (f : α → Nat) (l : List α) (n : Nat) : ((l.take n).map f).sum ≤ (l.map f).sum := by
  have h := congrArg (fun q => (q.map f).sum) (List.take_append_drop n l)
  simp only [List.map_append, List.sum_append] at h
  omega
theorem sizeUndoS_take (l : List DUndo) (n : Nat) : sizeUndoS (l.take n) ≤ sizeUndoS l := by
  have := sum_take_le sizeUndo l n
  simp only [sizeUndoS, List.length_take]
  omega
def undoOk (s : ByteArray) : Bool := decide (s = noBytes) || nameOk s
def taskOk (t : DTask) : Bool := factOk t.F && undoOk t.Undo && decide (1 ≤ t.State ∧ t.State ≤ 4) && decide (0 ≤ t.Tries ∧ t.Tries ≤ 4) && decide (0 ≤ t.Due ∧ t.Due ≤ 1000001000) && (decide (t.V = zVal) || valOk t.V) && decide ((t.State = 1 → t.Tries = 0) ∧ (t.State = 2 → t.Tries ≠ 0))
def taskAt (l : List DTask) (i : Nat) : Bool := taskOk (List.getD l i zTask) && !(anyI i fun k => decide ((List.getD l k zTask).F = (List.getD l i zTask).F))
def tasksOk (l : List DTask) : Bool := decide (l.length ≤ 30) && allI l.length (taskAt l)
def placeOf (l : List DTask) (f : DFact) : Int := idxI l.length fun k => decide ((List.getD l k zTask).F = f)
def isOpen (t : DTask) : Bool := decide (t.State = 1 ∨ t.State = 2)
def giveUp1 (t : DTask) : DTask := if t.State = 1 ∨ t.State = 2 then ⟨t.F, t.Undo, 4, t.Tries, t.Due, t.V⟩ else t
def giveUp (l : List DTask) : List DTask := l.map giveUp1
def daTask (x : DTask) : DA UU := ⟨true, [.lit (.string x.F.Kind), .sl .eVal x.F.Fields, .lit (.string x.Undo), .lit (.int .i64 x.State), .lit (.int .i64 x.Tries), .lit (.int .i64 x.Due), .lit (.int .i64 x.V.K), .lit (.int .i64 x.V.N), .lit (.string x.V.S)]⟩
theorem fact_ext {a b : DFact} : a = b ↔ a.Kind = b.Kind ∧ a.Fields = b.Fields := by
  obtain ⟨k, f⟩ := a; obtain ⟨k', f'⟩ := b; simp
theorem map_mod {α : Type} (f : α → α) (l : List α) (z : α) {i : Int} (F : α → α) (h0 : 0 ≤ i) (h : i < l.length) (hF : F (List.getD l i.toNat z) = f (List.getD l i.toNat z)) :
    ((l.map f).take i.toNat ++ l.drop i.toNat).modify i.toNat F = (l.map f).take (i + 1).toNat ++ l.drop (i + 1).toNat := by
  have hn : i.toNat < l.length := by omega
  have e : (i + 1).toNat = i.toNat + 1 := by omega
  have ht : ((l.map f).take i.toNat).length = i.toNat := by rw [List.length_take, List.length_map]; omega
  rw [modify_set _ z, mk_getD _ l z ht h0 h, hF, drop_step l z h0 h, List.set_append_right _ _ (by rw [ht]; exact Nat.le_refl _), ht, Nat.sub_self, List.set_cons_zero, e, List.take_succ_eq_append_getElem (by simpa using hn), List.append_assoc, List.getElem_map]
  rw [List.getD_eq_getElem?_getD, List.getElem?_eq_getElem hn]
  rfl
theorem map_skip {α : Type} (f : α → α) (l : List α) (z : α) {i : Int} (h0 : 0 ≤ i) (h : i < l.length) (hF : List.getD l i.toNat z = f (List.getD l i.toNat z)) :
    (l.map f).take i.toNat ++ l.drop i.toNat = (l.map f).take (i + 1).toNat ++ l.drop (i + 1).toNat := by
  rw [← map_mod f l z (fun x => x) h0 h hF]
  have : ∀ (m : List α) (n : Nat), m.modify n (fun x => x) = m := by
    intro m n
    refine List.ext_getElem? fun j => ?_
    rw [List.getElem?_modify]
    cases m[j]? <;> simp
  rw [this]
theorem map_row {α : Type} (f : α → α) (l : List α) {i : Int} (h0 : 0 ≤ i) (h : i ≤ l.length) : ((l.map f).take i.toNat ++ l.drop i.toNat).length = l.length := by
  rw [List.length_append, List.length_take, List.length_map, List.length_drop]; omega
theorem map_tl {α : Type} (f : α → α) (l : List α) {i : Int} (h0 : 0 ≤ i) (h : i ≤ l.length) : ((l.map f).take i.toNat).length = i.toNat := by
  rw [List.length_take, List.length_map]; omega
theorem map_done {α : Type} (f : α → α) (l : List α) {i : Int} (h : l.length ≤ i) : (l.map f).take i.toNat ++ l.drop i.toNat = l.map f := by
  rw [List.drop_eq_nil_of_le (by omega), List.append_nil, List.take_of_length_le (by rw [List.length_map]; omega)]
theorem size_map_giveUp (l : List DTask) : cntTaskS (giveUp l) = cntTaskS l := by
  unfold cntTaskS giveUp ctS
  rw [List.map_map]
  congr 1
  refine List.map_congr_left fun t _ => ?_
  simp only [Function.comp, giveUp1]
  split <;> rfl
def instNew (now : Int) : DInst := if 0 ≤ now ∧ now ≤ 1000000000 then ⟨⟨[], 1⟩, [], [], [], [], 1, now⟩ else zInst
theorem instNew_ct (n : Int) : ctInst (instNew n) = 0 := by unfold instNew; split <;> rfl
def con_spec_Ended : Con UU where
  α := DInst
  md := [.ro]
  of := fun | [.agg [.sl .eItem a0, .lit (.int .i64 a1), .sl .eMatch a2, .sl .eTask a3, .sl .eTimer a4, .sl .eUndo a5, .lit (.int .i64 a6), .lit (.int .i64 a7)]] => some ⟨⟨a0, a1⟩, a2, a3, a4, a5, a6, a7⟩ | _ => none
  ds := fun x => [.agg [.sl .eItem x.S.Items, .lit (.int .i64 x.S.Next), .sl .eMatch x.Fired, .sl .eTask x.Tasks, .sl .eTimer x.Timers, .sl .eUndo x.Undos, .lit (.int .i64 x.State), .lit (.int .i64 x.Now)]]
  pre := fun x => []
  res := fun x => ⟨[.one (.lit (.bool (decide (x.State = 2 ∨ x.State = 4 ∨ x.State = 6))))], true, []⟩
  law := by intro l x h; (try simp only at h); split at h <;> cases h; rfl
def ann_spec_Ended : con_spec_Ended.α → Nat → Option (Ann UU) := fun x => annL []
def use_spec_Ended : List (FuncId × Con UU) := []
theorem vc_spec_Ended (x : DInst) : goal EE use_spec_Ended Go.Proofs.Try.f61 con_spec_Ended ann_spec_Ended x = (bif x.State == (2 : Int) then Lf [DV.one (Cell.lit (Value.bool true))] [DV.one (Cell.lit (Value.bool (decide (x.State = (2 : Int) ∨ x.State = (4 : Int) ∨ x.State = (6 : Int)))))] else bif x.State == (4 : Int) then Lf [DV.one (Cell.lit (Value.bool true))] [DV.one (Cell.lit (Value.bool (decide (x.State = (2 : Int) ∨ x.State = (4 : Int) ∨ x.State = (6 : Int)))))] else Lf [DV.one (Cell.lit (Value.bool (x.State == (6 : Int))))] [DV.one (Cell.lit (Value.bool (decide (x.State = (2 : Int) ∨ x.State = (4 : Int) ∨ x.State = (6 : Int)))))]) := by kernel_rfl
theorem ok_spec_Ended : Holds EE (61, con_spec_Ended) := by
  refine holds_of EE_ok Go.Proofs.Try.func61 con_spec_Ended (by kernel_rfl) rfl use_spec_Ended all_nil ann_spec_Ended (fun (x : DInst) hp hb => ?_)
  have hb_x : BdDV (U := UU) (.agg [.sl .eItem x.S.Items, .lit (.int .i64 x.S.Next), .sl .eMatch x.Fired, .sl .eTask x.Tasks, .sl .eTimer x.Timers, .sl .eUndo x.Undos, .lit (.int .i64 x.State), .lit (.int .i64 x.Now)]) := hb _ (List.mem_cons_self)
  have hl_x_S_Items : x.S.Items.length ≤ 9223372036854775807 := Bd.len (U := UU) (τ := .eItem) (xs := x.S.Items) (hb_x _ (by simp))
  have hl_x_Fired : x.Fired.length ≤ 9223372036854775807 := Bd.len (U := UU) (τ := .eMatch) (xs := x.Fired) (hb_x _ (by simp))
  have hl_x_Tasks : x.Tasks.length ≤ 9223372036854775807 := Bd.len (U := UU) (τ := .eTask) (xs := x.Tasks) (hb_x _ (by simp))
  have hl_x_Timers : x.Timers.length ≤ 9223372036854775807 := Bd.len (U := UU) (τ := .eTimer) (xs := x.Timers) (hb_x _ (by simp))
  have hl_x_Undos : x.Undos.length ≤ 9223372036854775807 := Bd.len (U := UU) (τ := .eUndo) (xs := x.Undos) (hb_x _ (by simp))
  clear hp hb
  rw [vc_spec_Ended x]
  repeat' (refine if_cond (fun h => ?_) (fun h => ?_))
  all_goals (refine Lf_b ?_; grind)
def con_impl_Ended : Con UU where
  α := DInst
  md := [.ro]
  of := fun | [.agg [.sl .eItem a0, .lit (.int .i64 a1), .sl .eMatch a2, .sl .eTask a3, .sl .eTimer a4, .sl .eUndo a5, .lit (.int .i64 a6), .lit (.int .i64 a7)]] => some ⟨⟨a0, a1⟩, a2, a3, a4, a5, a6, a7⟩ | _ => none
  ds := fun x => [.agg [.sl .eItem x.S.Items, .lit (.int .i64 x.S.Next), .sl .eMatch x.Fired, .sl .eTask x.Tasks, .sl .eTimer x.Timers, .sl .eUndo x.Undos, .lit (.int .i64 x.State), .lit (.int .i64 x.Now)]]
  pre := fun x => []
  res := fun x => ⟨[.one (.lit (.bool (decide (x.State = 2 ∨ x.State = 4 ∨ x.State = 6))))], true, []⟩
  law := by intro l x h; (try simp only at h); split at h <;> cases h; rfl
def ann_impl_Ended : con_impl_Ended.α → Nat → Option (Ann UU) := fun x => annL []
def use_impl_Ended : List (FuncId × Con UU) := []
theorem vc_impl_Ended (x : DInst) : goal EE use_impl_Ended Go.Proofs.Try.f63 con_impl_Ended ann_impl_Ended x = (bif x.State == (2 : Int) then Lf [DV.one (Cell.lit (Value.bool true))] [DV.one (Cell.lit (Value.bool (decide (x.State = (2 : Int) ∨ x.State = (4 : Int) ∨ x.State = (6 : Int)))))] else bif x.State == (4 : Int) then Lf [DV.one (Cell.lit (Value.bool true))] [DV.one (Cell.lit (Value.bool (decide (x.State = (2 : Int) ∨ x.State = (4 : Int) ∨ x.State = (6 : Int)))))] else Lf [DV.one (Cell.lit (Value.bool (x.State == (6 : Int))))] [DV.one (Cell.lit (Value.bool (decide (x.State = (2 : Int) ∨ x.State = (4 : Int) ∨ x.State = (6 : Int)))))]) := by kernel_rfl
theorem ok_impl_Ended : Holds EE (63, con_impl_Ended) := by
  refine holds_of EE_ok Go.Proofs.Try.func63 con_impl_Ended (by kernel_rfl) rfl use_impl_Ended all_nil ann_impl_Ended (fun (x : DInst) hp hb => ?_)
  have hb_x : BdDV (U := UU) (.agg [.sl .eItem x.S.Items, .lit (.int .i64 x.S.Next), .sl .eMatch x.Fired, .sl .eTask x.Tasks, .sl .eTimer x.Timers, .sl .eUndo x.Undos, .lit (.int .i64 x.State), .lit (.int .i64 x.Now)]) := hb _ (List.mem_cons_self)
  have hl_x_S_Items : x.S.Items.length ≤ 9223372036854775807 := Bd.len (U := UU) (τ := .eItem) (xs := x.S.Items) (hb_x _ (by simp))
  have hl_x_Fired : x.Fired.length ≤ 9223372036854775807 := Bd.len (U := UU) (τ := .eMatch) (xs := x.Fired) (hb_x _ (by simp))
  have hl_x_Tasks : x.Tasks.length ≤ 9223372036854775807 := Bd.len (U := UU) (τ := .eTask) (xs := x.Tasks) (hb_x _ (by simp))
  have hl_x_Timers : x.Timers.length ≤ 9223372036854775807 := Bd.len (U := UU) (τ := .eTimer) (xs := x.Timers) (hb_x _ (by simp))
  have hl_x_Undos : x.Undos.length ≤ 9223372036854775807 := Bd.len (U := UU) (τ := .eUndo) (xs := x.Undos) (hb_x _ (by simp))
  clear hp hb
  rw [vc_impl_Ended x]
  repeat' (refine if_cond (fun h => ?_) (fun h => ?_))
  all_goals (refine Lf_b ?_; grind)
def con_laws_szItem : Con UU where
  α := DItem × Int
  md := [.ro, .ro]
  of := fun | [.agg [.lit (.int .i64 a0), .lit (.string a1), .sl .lVal a2], .one (.lit (.int .i64 a3))] => some (⟨a0, ⟨a1, a2⟩⟩, a3) | _ => none
  ds := fun (a, left) => [.agg [.lit (.int .i64 a.Id), .lit (.string a.F.Kind), .sl .lVal a.F.Fields], .one (.lit (.int .i64 left))]
  pre := fun (a, left) => [0 ≤ left]
  res := fun (a, left) => ⟨[.one (.lit (.int .i64 (szr left (sizeItem a))))], true, []⟩
  law := by intro l x h; (try simp only at h); split at h <;> cases h; rfl
def ann_laws_szItem : con_laws_szItem.α → Nat → Option (Ann UU) := fun (a, left) => annL []
def use_laws_szItem : List (FuncId × Con UU) := [(49, con_laws_szFact)]
theorem vc_laws_szItem (a : DItem) (left : Int) : goal EE use_laws_szItem Go.Proofs.Try.f186 con_laws_szItem ann_laws_szItem (a, left) = ((0 : Int) ≤ left ∧ bif decide (szr left (sizeFact a.F) < (0 : Int)) then Lf [DV.one (Cell.lit (Value.int IntKind.i64 (-1 : Int)))] [DV.one (Cell.lit (Value.int IntKind.i64 (szr left (sizeItem a))))] else Lf [DV.one (Cell.lit (Value.int IntKind.i64 (szr left (sizeFact a.F))))] [DV.one (Cell.lit (Value.int IntKind.i64 (szr left (sizeItem a))))]) := by kernel_rfl
theorem ok_laws_szItem : Holds EE (186, con_laws_szItem) := by
  refine holds_of EE_ok Go.Proofs.Try.func186 con_laws_szItem (by kernel_rfl) rfl use_laws_szItem (all_cons ok_laws_szFact all_nil) ann_laws_szItem (fun x hp hb => ?_)
  obtain ⟨a, left⟩ := x
  have hb_a : BdDV (U := UU) (.agg [.lit (.int .i64 a.Id), .lit (.string a.F.Kind), .sl .lVal a.F.Fields]) := hb _ (List.mem_cons_self)
  have hl_a_F_Kind : a.F.Kind.size ≤ 9223372036854775807 := Bd.str (hb_a _ (by simp))
  have hl_a_F_Fields : a.F.Fields.length ≤ 9223372036854775807 := Bd.len (U := UU) (τ := .lVal) (xs := a.F.Fields) (hb_a _ (by simp))
  have hb_left : BdDV (U := UU) (.one (.lit (.int .i64 left))) := hb _ (List.mem_cons_of_mem _ (List.mem_cons_self))
  have hl_left := Bd.i64 hb_left
  have hp0 : 0 ≤ left := hp _ (List.mem_cons_self)
  clear hp hb
  rw [vc_laws_szItem a left]
  refine ⟨by omega, if_cond (fun h => Lf_i (szr_bad' ?_)) (fun h => ?_)⟩
  · have h := szr_neg h; simp only [sizeItem]; omega
  obtain ⟨e0, h0⟩ := szr_pos h
  rw [e0]
  exact Lf_i (by rw [← szr_ok' (by simp only [sizeItem]; omega)]; simp only [sizeItem]; try omega)
def con_laws_toItem : Con UU where
  α := DItem
  md := [.ro]
  of := fun | [.agg [.lit (.int .i64 a0), .lit (.string a1), .sl .lVal a2]] => some ⟨a0, ⟨a1, a2⟩⟩ | _ => none
  ds := fun a => [.agg [.lit (.int .i64 a.Id), .lit (.string a.F.Kind), .sl .lVal a.F.Fields]]
  pre := fun a => [sizeItem a ≤ 4294967296]
  res := fun a => ⟨[.agg [.lit (.int .i64 a.Id), .lit (.string a.F.Kind), .sl .eVal a.F.Fields]], true, []⟩
  law := by intro l x h; (try simp only at h); split at h <;> cases h; rfl
def ann_laws_toItem : con_laws_toItem.α → Nat → Option (Ann UU) := fun a => annL []
def use_laws_toItem : List (FuncId × Con UU) := [(51, con_laws_toFact)]
theorem vc_laws_toItem (a : DItem) : goal EE use_laws_toItem Go.Proofs.Try.f189 con_laws_toItem ann_laws_toItem a = (sizeFact a.F ≤ (4294967296 : Nat) ∧ Lf [DV.agg [Cell.lit (Value.int IntKind.i64 a.Id), Cell.lit (Value.string a.F.Kind), Cell.sl Cd.eVal a.F.Fields]] [DV.agg [Cell.lit (Value.int IntKind.i64 a.Id), Cell.lit (Value.string a.F.Kind), Cell.sl Cd.eVal a.F.Fields]]) := by kernel_rfl
theorem ok_laws_toItem : Holds EE (189, con_laws_toItem) := by
  refine holds_of EE_ok Go.Proofs.Try.func189 con_laws_toItem (by kernel_rfl) rfl use_laws_toItem (all_cons ok_laws_toFact all_nil) ann_laws_toItem (fun (a : DItem) hp hb => ?_)
  have hb_a : BdDV (U := UU) (.agg [.lit (.int .i64 a.Id), .lit (.string a.F.Kind), .sl .lVal a.F.Fields]) := hb _ (List.mem_cons_self)
  have hl_a_F_Kind : a.F.Kind.size ≤ 9223372036854775807 := Bd.str (hb_a _ (by simp))
  have hl_a_F_Fields : a.F.Fields.length ≤ 9223372036854775807 := Bd.len (U := UU) (τ := .lVal) (xs := a.F.Fields) (hb_a _ (by simp))
  have hp0 : sizeItem a ≤ 4294967296 := hp _ (List.mem_cons_self)
  clear hp hb
  rw [vc_laws_toItem a]
  simp only [sizeItem] at hp0
  repeat' (first | exact Lf_rfl _ | (refine And.intro (by omega) ?_))
def con_laws_eqItem : Con UU where
  α := DItem × DItem
  md := [.ro, .ro]
  of := fun | [.agg [.lit (.int .i64 a0), .lit (.string a1), .sl .eVal a2], .agg [.lit (.int .i64 a3), .lit (.string a4), .sl .eVal a5]] => some (⟨a0, ⟨a1, a2⟩⟩, ⟨a3, ⟨a4, a5⟩⟩) | _ => none
  ds := fun (a, b) => [.agg [.lit (.int .i64 a.Id), .lit (.string a.F.Kind), .sl .eVal a.F.Fields], .agg [.lit (.int .i64 b.Id), .lit (.string b.F.Kind), .sl .eVal b.F.Fields]]
  pre := fun (a, b) => []
  res := fun (a, b) => ⟨[.one (.lit (.bool (decide (a = b))))], true, []⟩
  law := by intro l x h; (try simp only at h); split at h <;> cases h; rfl
def ann_laws_eqItem : con_laws_eqItem.α → Nat → Option (Ann UU) := fun (a, b) => annL []
def use_laws_eqItem : List (FuncId × Con UU) := [(53, con_laws_eqFact)]
theorem vc_laws_eqItem (a : DItem) (b : DItem) : goal EE use_laws_eqItem Go.Proofs.Try.f183 con_laws_eqItem ann_laws_eqItem (a, b) = (bif a.Id != b.Id then Lf [DV.one (Cell.lit (Value.bool false))] [DV.one (Cell.lit (Value.bool (decide (a = b))))] else bif !decide (a.F = b.F) then Lf [DV.one (Cell.lit (Value.bool false))] [DV.one (Cell.lit (Value.bool (decide (a = b))))] else Lf [DV.one (Cell.lit (Value.bool true))] [DV.one (Cell.lit (Value.bool (decide (a = b))))]) := by kernel_rfl
theorem ok_laws_eqItem : Holds EE (183, con_laws_eqItem) := by
  refine holds_of EE_ok Go.Proofs.Try.func183 con_laws_eqItem (by kernel_rfl) rfl use_laws_eqItem (all_cons ok_laws_eqFact all_nil) ann_laws_eqItem (fun x hp hb => ?_)
  obtain ⟨a, b⟩ := x
  have hb_a : BdDV (U := UU) (.agg [.lit (.int .i64 a.Id), .lit (.string a.F.Kind), .sl .eVal a.F.Fields]) := hb _ (List.mem_cons_self)
  have hl_a_F_Kind : a.F.Kind.size ≤ 9223372036854775807 := Bd.str (hb_a _ (by simp))
  have hl_a_F_Fields : a.F.Fields.length ≤ 9223372036854775807 := Bd.len (U := UU) (τ := .eVal) (xs := a.F.Fields) (hb_a _ (by simp))
  have hb_b : BdDV (U := UU) (.agg [.lit (.int .i64 b.Id), .lit (.string b.F.Kind), .sl .eVal b.F.Fields]) := hb _ (List.mem_cons_of_mem _ (List.mem_cons_self))
  have hl_b_F_Kind : b.F.Kind.size ≤ 9223372036854775807 := Bd.str (hb_b _ (by simp))
  have hl_b_F_Fields : b.F.Fields.length ≤ 9223372036854775807 := Bd.len (U := UU) (τ := .eVal) (xs := b.F.Fields) (hb_b _ (by simp))
  clear hp hb
  rw [vc_laws_eqItem a b]
  obtain ⟨aId, aF⟩ := a
  obtain ⟨bId, bF⟩ := b
  repeat' (apply if_cond <;> intro _)
  all_goals (first | apply Lf_t | apply Lf_f) <;> simp_all
def con_laws_szItemS : Con UU where
  α := (List DItem) × Int
  md := [.ro, .ro]
  of := fun | [.one (.sl .lItem a0), .one (.lit (.int .i64 a1))] => some (a0, a1) | _ => none
  ds := fun (a, left) => [.one (.sl .lItem a), .one (.lit (.int .i64 left))]
  pre := fun (a, left) => [0 ≤ left]
  res := fun (a, left) => ⟨[.one (.lit (.int .i64 (szr left (sizeItemS a))))], true, []⟩
  law := by intro l x h; (try simp only at h); split at h <;> cases h; rfl
def I_laws_szItemS_5 (a : (List DItem)) (left : Int) : Int × Int × Unit → Prop := fun (lf, i, _) => 0 ≤ lf ∧ 0 ≤ i ∧ i ≤ a.length ∧ szr lf ((a.drop i.toNat).map sizeItem).sum = szr left (sizeItemS a)
def μ_laws_szItemS_5 (a : (List DItem)) (left : Int) : Int × Int × Unit → Nat := fun (lf, i, _) => a.length - i.toNat
def ann_laws_szItemS : con_laws_szItemS.α → Nat → Option (Ann UU) := fun (a, left) => annL [(5, annOf [.slot 1 (1, 1024) (.lit (.int .i64)), .slot 5 (5, 1024) (.lit (.int .i64))] (fun _ => I_laws_szItemS_5 a left) (μ_laws_szItemS_5 a left))]
def use_laws_szItemS : List (FuncId × Con UU) := [(186, con_laws_szItem)]
theorem vc_laws_szItemS (a : (List DItem)) (left : Int) : goal EE use_laws_szItemS Go.Proofs.Try.f169 con_laws_szItemS ann_laws_szItemS (a, left) = (let x0 : Int := IntKind.wrap IntKind.i64 (left - (↑(List.length a) : Int));
bif decide (x0 < (0 : Int)) then Lf [DV.one (Cell.lit (Value.int IntKind.i64 (-1 : Int)))] [DV.one (Cell.lit (Value.int IntKind.i64 (szr left (sizeItemS a))))]
else
  I_laws_szItemS_5 a left (x0, (0 : Int), PUnit.unit) ∧
    ∀ (y : Int × Int × PUnit),
      let x1 : Int := szr y.1 (sizeItem (List.getD a (Int.toNat y.2.1) zItem));
      I_laws_szItemS_5 a left y → bif decide (y.2.1 < (↑(List.length a) : Int)) then (0 : Int) ≤ y.2.1 ∧ Int.toNat y.2.1 < List.length a ∧ (0 : Int) ≤ y.1 ∧ bif decide (x1 < (0 : Int)) then Lf [DV.one (Cell.lit (Value.int IntKind.i64 (-1 : Int)))] [DV.one (Cell.lit (Value.int IntKind.i64 (szr left (sizeItemS a))))] else I_laws_szItemS_5 a left (x1, IntKind.wrap IntKind.i64 (y.2.1 + (1 : Int)), PUnit.unit) ∧ μ_laws_szItemS_5 a left (x1, IntKind.wrap IntKind.i64 (y.2.1 + (1 : Int)), PUnit.unit) < μ_laws_szItemS_5 a left y else Lf [DV.one (Cell.lit (Value.int IntKind.i64 y.1))] [DV.one (Cell.lit (Value.int IntKind.i64 (szr left (sizeItemS a))))]) := by kernel_rfl
theorem ok_laws_szItemS : Holds EE (169, con_laws_szItemS) := by
  refine holds_of EE_ok Go.Proofs.Try.func169 con_laws_szItemS (by kernel_rfl) rfl use_laws_szItemS (all_cons ok_laws_szItem all_nil) ann_laws_szItemS (fun x hp hb => ?_)
  obtain ⟨a, left⟩ := x
  have hb_a : BdDV (U := UU) (.one (.sl .lItem a)) := hb _ (List.mem_cons_self)
  have hl_a : a.length ≤ 9223372036854775807 := Bd.len hb_a
  have hb_left : BdDV (U := UU) (.one (.lit (.int .i64 left))) := hb _ (List.mem_cons_of_mem _ (List.mem_cons_self))
  have hl_left := Bd.i64 hb_left
  have hp0 : 0 ≤ left := hp _ (List.mem_cons_self)
  clear hp hb
  rw [vc_laws_szItemS a left]
  dsimp only
  rw [wrap_i64 (by omega) (by omega)]
  refine if_cond (fun h => Lf_i ?_) (fun h => ⟨?_, ?_⟩)
  · simp [szr, sizeItemS] at *; omega
  · simp only [I_laws_szItemS_5, sizeItemS]; simp at h; have h' : 0 ≤ left - a.length := by omega
    exact ⟨h', by omega, by omega, szr_sub h'⟩
  rintro ⟨lf, i, ⟨⟩⟩ ⟨h0, h1, h2, hR⟩
  refine if_cond (fun hc => ?_) (fun hc => ?_)
  · have hc : i < a.length := by simpa using hc
    rw [drop_step a zItem h1 hc, List.map_cons, List.sum_cons] at hR
    simp only at *
    rw [wrap_i64 (by omega) (by omega)]
    generalize List.getD a i.toNat zItem = x at *
    refine ⟨by omega, by omega, by omega, if_cond (fun h => Lf_i ?_) (fun h => ⟨⟨?_, by omega, by omega, ?_⟩, ?_⟩)⟩
    · rw [← hR]; exact (szr_bad (of_decide_eq_true h)).symm
    · simp at h; omega
    · rw [← hR]; simp at h; exact szr_szr h
    · simp only [μ_laws_szItemS_5]; omega
  · have hc : a.length ≤ i := by simpa using hc
    rw [drop_end a hc] at hR
    apply Lf_i; rw [← hR]; simp [szr, h0]
def con_laws_toItemS : Con UU where
  α := (List DItem)
  md := [.ro]
  of := fun | [.one (.sl .lItem a0)] => some a0 | _ => none
  ds := fun a => [.one (.sl .lItem a)]
  pre := fun a => [sizeItemS a ≤ 4294967296]
  res := fun a => ⟨[.one (.sl .eItem a)], true, []⟩
  law := by intro l x h; (try simp only at h); split at h <;> cases h; rfl
def I_laws_toItemS_3 (a : (List DItem)) : List DItem × Int × Unit → Prop := fun (out, i, _) => 0 ≤ i ∧ i ≤ a.length ∧ out = a.take i.toNat ++ List.replicate (a.length - i.toNat) zItem
def μ_laws_toItemS_3 (a : (List DItem)) : List DItem × Int × Unit → Nat := fun (out, i, _) => a.length - i.toNat
def ann_laws_toItemS : con_laws_toItemS.α → Nat → Option (Ann UU) := fun a => annL [(3, annOf [.slot 3 (3, 1024) (.own .eItem true), .slot 4 (4, 1024) (.lit (.int .i64))] (fun _ => I_laws_toItemS_3 a) (μ_laws_toItemS_3 a))]
def use_laws_toItemS : List (FuncId × Con UU) := [(189, con_laws_toItem)]
theorem vc_laws_toItemS (a : (List DItem)) : goal EE use_laws_toItemS Go.Proofs.Try.f171 con_laws_toItemS ann_laws_toItemS a = (let x0 : Int := (↑(List.length a) : Int);
(0 : Int) ≤ x0 ∧
  x0 = x0 ∧
    x0 ≤ (4294967296 : Int) ∧
      I_laws_toItemS_3 a (List.replicate (Int.toNat x0) zItem, (0 : Int), PUnit.unit) ∧
        ∀ (y : List DItem × Int × PUnit),
          let x1 : Nat := Int.toNat y.2.1;
          I_laws_toItemS_3 a y → bif decide (y.2.1 < x0) then (0 : Int) ≤ y.2.1 ∧ x1 < List.length a ∧ sizeItem (List.getD a x1 zItem) ≤ (4294967296 : Nat) ∧ (0 : Int) ≤ y.2.1 ∧ x1 < List.length y.1 ∧ x1 < List.length y.1 ∧ I_laws_toItemS_3 a (List.set y.1 x1 (List.getD a x1 zItem), IntKind.wrap IntKind.i64 (y.2.1 + (1 : Int)), PUnit.unit) ∧ μ_laws_toItemS_3 a (List.set y.1 x1 (List.getD a x1 zItem), IntKind.wrap IntKind.i64 (y.2.1 + (1 : Int)), PUnit.unit) < μ_laws_toItemS_3 a y else Lf [DV.one (Cell.sl Cd.eItem y.1)] [DV.one (Cell.sl Cd.eItem a)]) := by kernel_rfl
theorem ok_laws_toItemS : Holds EE (171, con_laws_toItemS) := by
  refine holds_of EE_ok Go.Proofs.Try.func171 con_laws_toItemS (by kernel_rfl) rfl use_laws_toItemS (all_cons ok_laws_toItem all_nil) ann_laws_toItemS (fun (a : (List DItem)) hp hb => ?_)
  have hb_a : BdDV (U := UU) (.one (.sl .lItem a)) := hb _ (List.mem_cons_self)
  have hl_a : a.length ≤ 9223372036854775807 := Bd.len hb_a
  have hp0 : sizeItemS a ≤ 4294967296 := hp _ (List.mem_cons_self)
  clear hp hb
  rw [vc_laws_toItemS a]
  dsimp only
  have hlen : a.length ≤ 4294967296 := by simp only [sizeItemS] at hp0; omega
  refine ⟨by omega, rfl, by omega, ?_, ?_⟩
  · simp [I_laws_toItemS_3]
  rintro ⟨out, i, ⟨⟩⟩ ⟨h1, h2, rfl⟩
  simp only at *
  refine if_cond (fun hc => ?_) (fun hc => ?_)
  · have hc : i < a.length := by simpa using hc
    rw [wrap_i64 (by omega) (by omega), set_fill a zItem h1 hc]
    exact ⟨h1, by omega, by exact Nat.le_trans (sum_getD_le sizeItem a zItem h1 hc) (by simp only [sizeItemS] at hp0; omega), h1, by simp; omega, by simp; omega, ⟨by omega, by omega, rfl⟩, by simp only [μ_laws_toItemS_3]; omega⟩
  · have hc : a.length ≤ i := by simpa using hc
    have e : i.toNat = a.length := by omega
    rw [e]; simp; exact Lf_rfl _
def con_laws_eqItemS : Con UU where
  α := (List DItem) × (List DItem)
  md := [.ro, .ro]
  of := fun | [.one (.sl .eItem a0), .one (.sl .eItem a1)] => some (a0, a1) | _ => none
  ds := fun (a, b) => [.one (.sl .eItem a), .one (.sl .eItem b)]
  pre := fun (a, b) => []
  res := fun (a, b) => ⟨[.one (.lit (.bool (decide (a = b))))], true, []⟩
  law := by intro l x h; (try simp only at h); split at h <;> cases h; rfl
def I_laws_eqItemS_4 (a : (List DItem)) (b : (List DItem)) : Int × Unit → Prop := fun (i, _) => 0 ≤ i ∧ i ≤ a.length ∧ a.length = b.length ∧ (a.drop i.toNat = b.drop i.toNat ↔ a = b)
def μ_laws_eqItemS_4 (a : (List DItem)) (b : (List DItem)) : Int × Unit → Nat := fun (i, _) => a.length - i.toNat
def ann_laws_eqItemS : con_laws_eqItemS.α → Nat → Option (Ann UU) := fun (a, b) => annL [(4, annOf [.slot 5 (5, 1024) (.lit (.int .i64))] (fun _ => I_laws_eqItemS_4 a b) (μ_laws_eqItemS_4 a b))]
def use_laws_eqItemS : List (FuncId × Con UU) := [(183, con_laws_eqItem)]
theorem vc_laws_eqItemS (a : (List DItem)) (b : (List DItem)) : goal EE use_laws_eqItemS Go.Proofs.Try.f161 con_laws_eqItemS ann_laws_eqItemS (a, b) = (bif (↑(List.length a) : Int) != (↑(List.length b) : Int) then Lf [DV.one (Cell.lit (Value.bool false))] [DV.one (Cell.lit (Value.bool (decide (a = b))))] else I_laws_eqItemS_4 a b ((0 : Int), PUnit.unit) ∧ ∀ (y : Int × PUnit), I_laws_eqItemS_4 a b y → bif decide (y.1 < (↑(List.length a) : Int)) then (0 : Int) ≤ y.1 ∧ Int.toNat y.1 < List.length a ∧ (0 : Int) ≤ y.1 ∧ Int.toNat y.1 < List.length b ∧ bif !decide (List.getD a (Int.toNat y.1) zItem = List.getD b (Int.toNat y.1) zItem) then Lf [DV.one (Cell.lit (Value.bool false))] [DV.one (Cell.lit (Value.bool (decide (a = b))))] else I_laws_eqItemS_4 a b (IntKind.wrap IntKind.i64 (y.1 + (1 : Int)), PUnit.unit) ∧ μ_laws_eqItemS_4 a b (IntKind.wrap IntKind.i64 (y.1 + (1 : Int)), PUnit.unit) < μ_laws_eqItemS_4 a b y else Lf [DV.one (Cell.lit (Value.bool true))] [DV.one (Cell.lit (Value.bool (decide (a = b))))]) := by kernel_rfl
theorem ok_laws_eqItemS : Holds EE (161, con_laws_eqItemS) := by
  refine holds_of EE_ok Go.Proofs.Try.func161 con_laws_eqItemS (by kernel_rfl) rfl use_laws_eqItemS (all_cons ok_laws_eqItem all_nil) ann_laws_eqItemS (fun x hp hb => ?_)
  obtain ⟨a, b⟩ := x
  have hb_a : BdDV (U := UU) (.one (.sl .eItem a)) := hb _ (List.mem_cons_self)
  have hl_a : a.length ≤ 9223372036854775807 := Bd.len hb_a
  have hb_b : BdDV (U := UU) (.one (.sl .eItem b)) := hb _ (List.mem_cons_of_mem _ (List.mem_cons_self))
  have hl_b : b.length ≤ 9223372036854775807 := Bd.len hb_b
  clear hp hb
  rw [vc_laws_eqItemS a b]
  refine if_cond (fun h => Lf_f ?_) (fun h => ⟨?_, ?_⟩)
  · rintro rfl; simp at h
  · simp [I_laws_eqItemS_4] at *; omega
  rintro ⟨i, ⟨⟩⟩ ⟨h1, h2, h3, hR⟩
  simp only at *
  refine if_cond (fun hc => ?_) (fun hc => ?_)
  · have hc : i < a.length := by simpa using hc
    rw [drop_step a zItem h1 hc, drop_step b zItem h1 (by omega)] at hR
    rw [wrap_i64 (by omega) (by omega)]
    refine ⟨by omega, by omega, by omega, by omega, if_cond (fun h => Lf_f ?_) (fun h => ⟨⟨by omega, by omega, h3, ?_⟩, ?_⟩)⟩
    · rw [← hR]; simp at h; simp [h]
    · rw [← hR]; simp at h; simp [h]
    · simp only [μ_laws_eqItemS_4]; omega
  · have hc : a.length ≤ i := by simpa using hc
    rw [drop_end a hc, drop_end b (by omega)] at hR
    exact Lf_t (hR.1 rfl)
def con_laws_szStore : Con UU where
  α := DStore × Int
  md := [.ro, .ro]
  of := fun | [.agg [.sl .lItem a0, .lit (.int .i64 a1)], .one (.lit (.int .i64 a2))] => some (⟨a0, a1⟩, a2) | _ => none
  ds := fun (a, left) => [.agg [.sl .lItem a.Items, .lit (.int .i64 a.Next)], .one (.lit (.int .i64 left))]
  pre := fun (a, left) => [0 ≤ left]
  res := fun (a, left) => ⟨[.one (.lit (.int .i64 (szr left (sizeStore a))))], true, []⟩
  law := by intro l x h; (try simp only at h); split at h <;> cases h; rfl
def ann_laws_szStore : con_laws_szStore.α → Nat → Option (Ann UU) := fun (a, left) => annL []
def use_laws_szStore : List (FuncId × Con UU) := [(169, con_laws_szItemS)]
theorem vc_laws_szStore (a : DStore) (left : Int) : goal EE use_laws_szStore Go.Proofs.Try.f129 con_laws_szStore ann_laws_szStore (a, left) = ((0 : Int) ≤ left ∧ bif decide (szr left (sizeItemS a.Items) < (0 : Int)) then Lf [DV.one (Cell.lit (Value.int IntKind.i64 (-1 : Int)))] [DV.one (Cell.lit (Value.int IntKind.i64 (szr left (sizeStore a))))] else Lf [DV.one (Cell.lit (Value.int IntKind.i64 (szr left (sizeItemS a.Items))))] [DV.one (Cell.lit (Value.int IntKind.i64 (szr left (sizeStore a))))]) := by kernel_rfl
theorem ok_laws_szStore : Holds EE (129, con_laws_szStore) := by
  refine holds_of EE_ok Go.Proofs.Try.func129 con_laws_szStore (by kernel_rfl) rfl use_laws_szStore (all_cons ok_laws_szItemS all_nil) ann_laws_szStore (fun x hp hb => ?_)
  obtain ⟨a, left⟩ := x
  have hb_a : BdDV (U := UU) (.agg [.sl .lItem a.Items, .lit (.int .i64 a.Next)]) := hb _ (List.mem_cons_self)
  have hl_a_Items : a.Items.length ≤ 9223372036854775807 := Bd.len (U := UU) (τ := .lItem) (xs := a.Items) (hb_a _ (by simp))
  have hb_left : BdDV (U := UU) (.one (.lit (.int .i64 left))) := hb _ (List.mem_cons_of_mem _ (List.mem_cons_self))
  have hl_left := Bd.i64 hb_left
  have hp0 : 0 ≤ left := hp _ (List.mem_cons_self)
  clear hp hb
  rw [vc_laws_szStore a left]
  refine ⟨by omega, if_cond (fun h => Lf_i (szr_bad' ?_)) (fun h => ?_)⟩
  · have h := szr_neg h; simp only [sizeStore]; omega
  obtain ⟨e0, h0⟩ := szr_pos h
  rw [e0]
  exact Lf_i (by rw [← szr_ok' (by simp only [sizeStore]; omega)]; simp only [sizeStore]; try omega)
def con_laws_toStore : Con UU where
  α := DStore
  md := [.ro]
  of := fun | [.agg [.sl .lItem a0, .lit (.int .i64 a1)]] => some ⟨a0, a1⟩ | _ => none
  ds := fun a => [.agg [.sl .lItem a.Items, .lit (.int .i64 a.Next)]]
  pre := fun a => [sizeStore a ≤ 4294967296]
  res := fun a => ⟨[.agg [.sl .eItem a.Items, .lit (.int .i64 a.Next)]], true, []⟩
  law := by intro l x h; (try simp only at h); split at h <;> cases h; rfl
def ann_laws_toStore : con_laws_toStore.α → Nat → Option (Ann UU) := fun a => annL []
def use_laws_toStore : List (FuncId × Con UU) := [(171, con_laws_toItemS)]
theorem vc_laws_toStore (a : DStore) : goal EE use_laws_toStore Go.Proofs.Try.f131 con_laws_toStore ann_laws_toStore a = (sizeItemS a.Items ≤ (4294967296 : Nat) ∧ Lf [DV.agg [Cell.sl Cd.eItem a.Items, Cell.lit (Value.int IntKind.i64 a.Next)]] [DV.agg [Cell.sl Cd.eItem a.Items, Cell.lit (Value.int IntKind.i64 a.Next)]]) := by kernel_rfl
theorem ok_laws_toStore : Holds EE (131, con_laws_toStore) := by
  refine holds_of EE_ok Go.Proofs.Try.func131 con_laws_toStore (by kernel_rfl) rfl use_laws_toStore (all_cons ok_laws_toItemS all_nil) ann_laws_toStore (fun (a : DStore) hp hb => ?_)
  have hb_a : BdDV (U := UU) (.agg [.sl .lItem a.Items, .lit (.int .i64 a.Next)]) := hb _ (List.mem_cons_self)
  have hl_a_Items : a.Items.length ≤ 9223372036854775807 := Bd.len (U := UU) (τ := .lItem) (xs := a.Items) (hb_a _ (by simp))
  have hp0 : sizeStore a ≤ 4294967296 := hp _ (List.mem_cons_self)
  clear hp hb
  rw [vc_laws_toStore a]
  simp only [sizeStore] at hp0
  repeat' (first | exact Lf_rfl _ | (refine And.intro (by omega) ?_))
def con_laws_eqStore : Con UU where
  α := DStore × DStore
  md := [.ro, .ro]
  of := fun | [.agg [.sl .eItem a0, .lit (.int .i64 a1)], .agg [.sl .eItem a2, .lit (.int .i64 a3)]] => some (⟨a0, a1⟩, ⟨a2, a3⟩) | _ => none
  ds := fun (a, b) => [.agg [.sl .eItem a.Items, .lit (.int .i64 a.Next)], .agg [.sl .eItem b.Items, .lit (.int .i64 b.Next)]]
  pre := fun (a, b) => []
  res := fun (a, b) => ⟨[.one (.lit (.bool (decide (a = b))))], true, []⟩
  law := by intro l x h; (try simp only at h); split at h <;> cases h; rfl
def ann_laws_eqStore : con_laws_eqStore.α → Nat → Option (Ann UU) := fun (a, b) => annL []
def use_laws_eqStore : List (FuncId × Con UU) := [(161, con_laws_eqItemS)]
theorem vc_laws_eqStore (a : DStore) (b : DStore) : goal EE use_laws_eqStore Go.Proofs.Try.f121 con_laws_eqStore ann_laws_eqStore (a, b) = (bif !decide (a.Items = b.Items) then Lf [DV.one (Cell.lit (Value.bool false))] [DV.one (Cell.lit (Value.bool (decide (a = b))))] else bif a.Next != b.Next then Lf [DV.one (Cell.lit (Value.bool false))] [DV.one (Cell.lit (Value.bool (decide (a = b))))] else Lf [DV.one (Cell.lit (Value.bool true))] [DV.one (Cell.lit (Value.bool (decide (a = b))))]) := by kernel_rfl
theorem ok_laws_eqStore : Holds EE (121, con_laws_eqStore) := by
  refine holds_of EE_ok Go.Proofs.Try.func121 con_laws_eqStore (by kernel_rfl) rfl use_laws_eqStore (all_cons ok_laws_eqItemS all_nil) ann_laws_eqStore (fun x hp hb => ?_)
  obtain ⟨a, b⟩ := x
  have hb_a : BdDV (U := UU) (.agg [.sl .eItem a.Items, .lit (.int .i64 a.Next)]) := hb _ (List.mem_cons_self)
  have hl_a_Items : a.Items.length ≤ 9223372036854775807 := Bd.len (U := UU) (τ := .eItem) (xs := a.Items) (hb_a _ (by simp))
  have hb_b : BdDV (U := UU) (.agg [.sl .eItem b.Items, .lit (.int .i64 b.Next)]) := hb _ (List.mem_cons_of_mem _ (List.mem_cons_self))
  have hl_b_Items : b.Items.length ≤ 9223372036854775807 := Bd.len (U := UU) (τ := .eItem) (xs := b.Items) (hb_b _ (by simp))
  clear hp hb
  rw [vc_laws_eqStore a b]
  obtain ⟨aItems, aNext⟩ := a
  obtain ⟨bItems, bNext⟩ := b
  repeat' (apply if_cond <;> intro _)
  all_goals (first | apply Lf_t | apply Lf_f) <;> simp_all
def con_laws_szBind : Con UU where
  α := DBind × Int
  md := [.ro, .ro]
  of := fun | [.agg [.lit (.string a0), .lit (.int .i64 a1), .lit (.int .i64 a2), .lit (.string a3)], .one (.lit (.int .i64 a4))] => some (⟨a0, ⟨a1, a2, a3⟩⟩, a4) | _ => none
  ds := fun (a, left) => [.agg [.lit (.string a.Name), .lit (.int .i64 a.V.K), .lit (.int .i64 a.V.N), .lit (.string a.V.S)], .one (.lit (.int .i64 left))]
  pre := fun (a, left) => [0 ≤ left]
  res := fun (a, left) => ⟨[.one (.lit (.int .i64 (szr left (sizeBind a))))], true, []⟩
  law := by intro l x h; (try simp only at h); split at h <;> cases h; rfl
def ann_laws_szBind : con_laws_szBind.α → Nat → Option (Ann UU) := fun (a, left) => annL []
def use_laws_szBind : List (FuncId × Con UU) := [(76, con_laws_szVal)]
theorem vc_laws_szBind (a : DBind) (left : Int) : goal EE use_laws_szBind Go.Proofs.Try.f195 con_laws_szBind ann_laws_szBind (a, left) = (let x0 : Int := IntKind.wrap IntKind.i64 (left - (↑(ByteArray.size a.Name) : Int));
bif decide (x0 < (0 : Int)) then Lf [DV.one (Cell.lit (Value.int IntKind.i64 (-1 : Int)))] [DV.one (Cell.lit (Value.int IntKind.i64 (szr left (sizeBind a))))] else (0 : Int) ≤ x0 ∧ bif decide (szr x0 (sizeVal a.V) < (0 : Int)) then Lf [DV.one (Cell.lit (Value.int IntKind.i64 (-1 : Int)))] [DV.one (Cell.lit (Value.int IntKind.i64 (szr left (sizeBind a))))] else Lf [DV.one (Cell.lit (Value.int IntKind.i64 (szr x0 (sizeVal a.V))))] [DV.one (Cell.lit (Value.int IntKind.i64 (szr left (sizeBind a))))]) := by kernel_rfl
theorem ok_laws_szBind : Holds EE (195, con_laws_szBind) := by
  refine holds_of EE_ok Go.Proofs.Try.func195 con_laws_szBind (by kernel_rfl) rfl use_laws_szBind (all_cons ok_laws_szVal all_nil) ann_laws_szBind (fun x hp hb => ?_)
  obtain ⟨a, left⟩ := x
  have hb_a : BdDV (U := UU) (.agg [.lit (.string a.Name), .lit (.int .i64 a.V.K), .lit (.int .i64 a.V.N), .lit (.string a.V.S)]) := hb _ (List.mem_cons_self)
  have hl_a_Name : a.Name.size ≤ 9223372036854775807 := Bd.str (hb_a _ (by simp))
  have hl_a_V_S : a.V.S.size ≤ 9223372036854775807 := Bd.str (hb_a _ (by simp))
  have hb_left : BdDV (U := UU) (.one (.lit (.int .i64 left))) := hb _ (List.mem_cons_of_mem _ (List.mem_cons_self))
  have hl_left := Bd.i64 hb_left
  have hp0 : 0 ≤ left := hp _ (List.mem_cons_self)
  clear hp hb
  rw [vc_laws_szBind a left]
  dsimp only
  rw [wrap_i64 (by omega) (by omega)]
  refine if_cond (fun h => Lf_i (szr_bad' ?_)) (fun h => ?_)
  · have h := of_decide_eq_true h; simp only [sizeBind]; omega
  have h0 := of_decide_eq_false h
  refine ⟨by omega, if_cond (fun h => Lf_i (szr_bad' ?_)) (fun h => ?_)⟩
  · have h := szr_neg h; simp only [sizeBind]; omega
  obtain ⟨e1, h1⟩ := szr_pos h
  rw [e1]
  exact Lf_i (by rw [← szr_ok' (by simp only [sizeBind]; omega)]; simp only [sizeBind]; try omega)
def con_laws_toBind : Con UU where
  α := DBind
  md := [.ro]
  of := fun | [.agg [.lit (.string a0), .lit (.int .i64 a1), .lit (.int .i64 a2), .lit (.string a3)]] => some ⟨a0, ⟨a1, a2, a3⟩⟩ | _ => none
  ds := fun a => [.agg [.lit (.string a.Name), .lit (.int .i64 a.V.K), .lit (.int .i64 a.V.N), .lit (.string a.V.S)]]
  pre := fun a => [sizeBind a ≤ 4294967296]
  res := fun a => ⟨[.agg [.lit (.string a.Name), .lit (.int .i64 a.V.K), .lit (.int .i64 a.V.N), .lit (.string a.V.S)]], true, []⟩
  law := by intro l x h; (try simp only at h); split at h <;> cases h; rfl
def ann_laws_toBind : con_laws_toBind.α → Nat → Option (Ann UU) := fun a => annL []
def use_laws_toBind : List (FuncId × Con UU) := [(80, con_laws_toVal)]
theorem vc_laws_toBind (a : DBind) : goal EE use_laws_toBind Go.Proofs.Try.f196 con_laws_toBind ann_laws_toBind a = (sizeVal a.V ≤ (4294967296 : Nat) ∧ Lf [DV.agg [Cell.lit (Value.string a.Name), Cell.lit (Value.int IntKind.i64 a.V.K), Cell.lit (Value.int IntKind.i64 a.V.N), Cell.lit (Value.string a.V.S)]] [DV.agg [Cell.lit (Value.string a.Name), Cell.lit (Value.int IntKind.i64 a.V.K), Cell.lit (Value.int IntKind.i64 a.V.N), Cell.lit (Value.string a.V.S)]]) := by kernel_rfl
theorem ok_laws_toBind : Holds EE (196, con_laws_toBind) := by
  refine holds_of EE_ok Go.Proofs.Try.func196 con_laws_toBind (by kernel_rfl) rfl use_laws_toBind (all_cons ok_laws_toVal all_nil) ann_laws_toBind (fun (a : DBind) hp hb => ?_)
  have hb_a : BdDV (U := UU) (.agg [.lit (.string a.Name), .lit (.int .i64 a.V.K), .lit (.int .i64 a.V.N), .lit (.string a.V.S)]) := hb _ (List.mem_cons_self)
  have hl_a_Name : a.Name.size ≤ 9223372036854775807 := Bd.str (hb_a _ (by simp))
  have hl_a_V_S : a.V.S.size ≤ 9223372036854775807 := Bd.str (hb_a _ (by simp))
  have hp0 : sizeBind a ≤ 4294967296 := hp _ (List.mem_cons_self)
  clear hp hb
  rw [vc_laws_toBind a]
  simp only [sizeBind] at hp0
  repeat' (first | exact Lf_rfl _ | (refine And.intro (by omega) ?_))
def con_laws_eqBind : Con UU where
  α := DBind × DBind
  md := [.ro, .ro]
  of := fun | [.agg [.lit (.string a0), .lit (.int .i64 a1), .lit (.int .i64 a2), .lit (.string a3)], .agg [.lit (.string a4), .lit (.int .i64 a5), .lit (.int .i64 a6), .lit (.string a7)]] => some (⟨a0, ⟨a1, a2, a3⟩⟩, ⟨a4, ⟨a5, a6, a7⟩⟩) | _ => none
  ds := fun (a, b) => [.agg [.lit (.string a.Name), .lit (.int .i64 a.V.K), .lit (.int .i64 a.V.N), .lit (.string a.V.S)], .agg [.lit (.string b.Name), .lit (.int .i64 b.V.K), .lit (.int .i64 b.V.N), .lit (.string b.V.S)]]
  pre := fun (a, b) => []
  res := fun (a, b) => ⟨[.one (.lit (.bool (decide (a = b))))], true, []⟩
  law := by intro l x h; (try simp only at h); split at h <;> cases h; rfl
def ann_laws_eqBind : con_laws_eqBind.α → Nat → Option (Ann UU) := fun (a, b) => annL []
def use_laws_eqBind : List (FuncId × Con UU) := [(82, con_laws_eqVal)]
theorem vc_laws_eqBind (a : DBind) (b : DBind) : goal EE use_laws_eqBind Go.Proofs.Try.f194 con_laws_eqBind ann_laws_eqBind (a, b) = (bif !ByteArray.toList a.Name == ByteArray.toList b.Name then Lf [DV.one (Cell.lit (Value.bool false))] [DV.one (Cell.lit (Value.bool (decide (a = b))))] else bif !decide (a.V = b.V) then Lf [DV.one (Cell.lit (Value.bool false))] [DV.one (Cell.lit (Value.bool (decide (a = b))))] else Lf [DV.one (Cell.lit (Value.bool true))] [DV.one (Cell.lit (Value.bool (decide (a = b))))]) := by kernel_rfl
theorem ok_laws_eqBind : Holds EE (194, con_laws_eqBind) := by
  refine holds_of EE_ok Go.Proofs.Try.func194 con_laws_eqBind (by kernel_rfl) rfl use_laws_eqBind (all_cons ok_laws_eqVal all_nil) ann_laws_eqBind (fun x hp hb => ?_)
  obtain ⟨a, b⟩ := x
  have hb_a : BdDV (U := UU) (.agg [.lit (.string a.Name), .lit (.int .i64 a.V.K), .lit (.int .i64 a.V.N), .lit (.string a.V.S)]) := hb _ (List.mem_cons_self)
  have hl_a_Name : a.Name.size ≤ 9223372036854775807 := Bd.str (hb_a _ (by simp))
  have hl_a_V_S : a.V.S.size ≤ 9223372036854775807 := Bd.str (hb_a _ (by simp))
  have hb_b : BdDV (U := UU) (.agg [.lit (.string b.Name), .lit (.int .i64 b.V.K), .lit (.int .i64 b.V.N), .lit (.string b.V.S)]) := hb _ (List.mem_cons_of_mem _ (List.mem_cons_self))
  have hl_b_Name : b.Name.size ≤ 9223372036854775807 := Bd.str (hb_b _ (by simp))
  have hl_b_V_S : b.V.S.size ≤ 9223372036854775807 := Bd.str (hb_b _ (by simp))
  clear hp hb
  rw [vc_laws_eqBind a b]
  obtain ⟨aName, aV⟩ := a
  obtain ⟨bName, bV⟩ := b
  repeat' (apply if_cond <;> intro _)
  all_goals (first | apply Lf_t | apply Lf_f) <;> simp_all
def con_laws_szBindS : Con UU where
  α := (List DBind) × Int
  md := [.ro, .ro]
  of := fun | [.one (.sl .lBind a0), .one (.lit (.int .i64 a1))] => some (a0, a1) | _ => none
  ds := fun (a, left) => [.one (.sl .lBind a), .one (.lit (.int .i64 left))]
  pre := fun (a, left) => [0 ≤ left]
  res := fun (a, left) => ⟨[.one (.lit (.int .i64 (szr left (sizeBindS a))))], true, []⟩
  law := by intro l x h; (try simp only at h); split at h <;> cases h; rfl
def I_laws_szBindS_5 (a : (List DBind)) (left : Int) : Int × Int × Unit → Prop := fun (lf, i, _) => 0 ≤ lf ∧ 0 ≤ i ∧ i ≤ a.length ∧ szr lf ((a.drop i.toNat).map sizeBind).sum = szr left (sizeBindS a)
def μ_laws_szBindS_5 (a : (List DBind)) (left : Int) : Int × Int × Unit → Nat := fun (lf, i, _) => a.length - i.toNat
def ann_laws_szBindS : con_laws_szBindS.α → Nat → Option (Ann UU) := fun (a, left) => annL [(5, annOf [.slot 1 (1, 1024) (.lit (.int .i64)), .slot 5 (5, 1024) (.lit (.int .i64))] (fun _ => I_laws_szBindS_5 a left) (μ_laws_szBindS_5 a left))]
def use_laws_szBindS : List (FuncId × Con UU) := [(195, con_laws_szBind)]
theorem vc_laws_szBindS (a : (List DBind)) (left : Int) : goal EE use_laws_szBindS Go.Proofs.Try.f188 con_laws_szBindS ann_laws_szBindS (a, left) = (let x0 : Int := IntKind.wrap IntKind.i64 (left - (↑(List.length a) : Int));
bif decide (x0 < (0 : Int)) then Lf [DV.one (Cell.lit (Value.int IntKind.i64 (-1 : Int)))] [DV.one (Cell.lit (Value.int IntKind.i64 (szr left (sizeBindS a))))]
else
  I_laws_szBindS_5 a left (x0, (0 : Int), PUnit.unit) ∧
    ∀ (y : Int × Int × PUnit),
      let x1 : Int := szr y.1 (sizeBind (List.getD a (Int.toNat y.2.1) zBind));
      I_laws_szBindS_5 a left y → bif decide (y.2.1 < (↑(List.length a) : Int)) then (0 : Int) ≤ y.2.1 ∧ Int.toNat y.2.1 < List.length a ∧ (0 : Int) ≤ y.1 ∧ bif decide (x1 < (0 : Int)) then Lf [DV.one (Cell.lit (Value.int IntKind.i64 (-1 : Int)))] [DV.one (Cell.lit (Value.int IntKind.i64 (szr left (sizeBindS a))))] else I_laws_szBindS_5 a left (x1, IntKind.wrap IntKind.i64 (y.2.1 + (1 : Int)), PUnit.unit) ∧ μ_laws_szBindS_5 a left (x1, IntKind.wrap IntKind.i64 (y.2.1 + (1 : Int)), PUnit.unit) < μ_laws_szBindS_5 a left y else Lf [DV.one (Cell.lit (Value.int IntKind.i64 y.1))] [DV.one (Cell.lit (Value.int IntKind.i64 (szr left (sizeBindS a))))]) := by kernel_rfl
theorem ok_laws_szBindS : Holds EE (188, con_laws_szBindS) := by
  refine holds_of EE_ok Go.Proofs.Try.func188 con_laws_szBindS (by kernel_rfl) rfl use_laws_szBindS (all_cons ok_laws_szBind all_nil) ann_laws_szBindS (fun x hp hb => ?_)
  obtain ⟨a, left⟩ := x
  have hb_a : BdDV (U := UU) (.one (.sl .lBind a)) := hb _ (List.mem_cons_self)
  have hl_a : a.length ≤ 9223372036854775807 := Bd.len hb_a
  have hb_left : BdDV (U := UU) (.one (.lit (.int .i64 left))) := hb _ (List.mem_cons_of_mem _ (List.mem_cons_self))
  have hl_left := Bd.i64 hb_left
  have hp0 : 0 ≤ left := hp _ (List.mem_cons_self)
  clear hp hb
  rw [vc_laws_szBindS a left]
  dsimp only
  rw [wrap_i64 (by omega) (by omega)]
  refine if_cond (fun h => Lf_i ?_) (fun h => ⟨?_, ?_⟩)
  · simp [szr, sizeBindS] at *; omega
  · simp only [I_laws_szBindS_5, sizeBindS]; simp at h; have h' : 0 ≤ left - a.length := by omega
    exact ⟨h', by omega, by omega, szr_sub h'⟩
  rintro ⟨lf, i, ⟨⟩⟩ ⟨h0, h1, h2, hR⟩
  refine if_cond (fun hc => ?_) (fun hc => ?_)
  · have hc : i < a.length := by simpa using hc
    rw [drop_step a zBind h1 hc, List.map_cons, List.sum_cons] at hR
    simp only at *
    rw [wrap_i64 (by omega) (by omega)]
    generalize List.getD a i.toNat zBind = x at *
    refine ⟨by omega, by omega, by omega, if_cond (fun h => Lf_i ?_) (fun h => ⟨⟨?_, by omega, by omega, ?_⟩, ?_⟩)⟩
    · rw [← hR]; exact (szr_bad (of_decide_eq_true h)).symm
    · simp at h; omega
    · rw [← hR]; simp at h; exact szr_szr h
    · simp only [μ_laws_szBindS_5]; omega
  · have hc : a.length ≤ i := by simpa using hc
    rw [drop_end a hc] at hR
    apply Lf_i; rw [← hR]; simp [szr, h0]
def con_laws_toBindS : Con UU where
  α := (List DBind)
  md := [.ro]
  of := fun | [.one (.sl .lBind a0)] => some a0 | _ => none
  ds := fun a => [.one (.sl .lBind a)]
  pre := fun a => [sizeBindS a ≤ 4294967296]
  res := fun a => ⟨[.one (.sl .eBind a)], true, []⟩
  law := by intro l x h; (try simp only at h); split at h <;> cases h; rfl
def I_laws_toBindS_3 (a : (List DBind)) : List DBind × Int × Unit → Prop := fun (out, i, _) => 0 ≤ i ∧ i ≤ a.length ∧ out = a.take i.toNat ++ List.replicate (a.length - i.toNat) zBind
def μ_laws_toBindS_3 (a : (List DBind)) : List DBind × Int × Unit → Nat := fun (out, i, _) => a.length - i.toNat
def ann_laws_toBindS : con_laws_toBindS.α → Nat → Option (Ann UU) := fun a => annL [(3, annOf [.slot 3 (3, 1024) (.own .eBind true), .slot 4 (4, 1024) (.lit (.int .i64))] (fun _ => I_laws_toBindS_3 a) (μ_laws_toBindS_3 a))]
def use_laws_toBindS : List (FuncId × Con UU) := [(196, con_laws_toBind)]
theorem vc_laws_toBindS (a : (List DBind)) : goal EE use_laws_toBindS Go.Proofs.Try.f191 con_laws_toBindS ann_laws_toBindS a = (let x0 : Int := (↑(List.length a) : Int);
(0 : Int) ≤ x0 ∧
  x0 = x0 ∧
    x0 ≤ (4294967296 : Int) ∧
      I_laws_toBindS_3 a (List.replicate (Int.toNat x0) zBind, (0 : Int), PUnit.unit) ∧
        ∀ (y : List DBind × Int × PUnit),
          let x1 : Nat := Int.toNat y.2.1;
          I_laws_toBindS_3 a y → bif decide (y.2.1 < x0) then (0 : Int) ≤ y.2.1 ∧ x1 < List.length a ∧ sizeBind (List.getD a x1 zBind) ≤ (4294967296 : Nat) ∧ (0 : Int) ≤ y.2.1 ∧ x1 < List.length y.1 ∧ x1 < List.length y.1 ∧ I_laws_toBindS_3 a (List.set y.1 x1 (List.getD a x1 zBind), IntKind.wrap IntKind.i64 (y.2.1 + (1 : Int)), PUnit.unit) ∧ μ_laws_toBindS_3 a (List.set y.1 x1 (List.getD a x1 zBind), IntKind.wrap IntKind.i64 (y.2.1 + (1 : Int)), PUnit.unit) < μ_laws_toBindS_3 a y else Lf [DV.one (Cell.sl Cd.eBind y.1)] [DV.one (Cell.sl Cd.eBind a)]) := by kernel_rfl
theorem ok_laws_toBindS : Holds EE (191, con_laws_toBindS) := by
  refine holds_of EE_ok Go.Proofs.Try.func191 con_laws_toBindS (by kernel_rfl) rfl use_laws_toBindS (all_cons ok_laws_toBind all_nil) ann_laws_toBindS (fun (a : (List DBind)) hp hb => ?_)
  have hb_a : BdDV (U := UU) (.one (.sl .lBind a)) := hb _ (List.mem_cons_self)
  have hl_a : a.length ≤ 9223372036854775807 := Bd.len hb_a
  have hp0 : sizeBindS a ≤ 4294967296 := hp _ (List.mem_cons_self)
  clear hp hb
  rw [vc_laws_toBindS a]
  dsimp only
  have hlen : a.length ≤ 4294967296 := by simp only [sizeBindS] at hp0; omega
  refine ⟨by omega, rfl, by omega, ?_, ?_⟩
  · simp [I_laws_toBindS_3]
  rintro ⟨out, i, ⟨⟩⟩ ⟨h1, h2, rfl⟩
  simp only at *
  refine if_cond (fun hc => ?_) (fun hc => ?_)
  · have hc : i < a.length := by simpa using hc
    rw [wrap_i64 (by omega) (by omega), set_fill a zBind h1 hc]
    exact ⟨h1, by omega, by exact Nat.le_trans (sum_getD_le sizeBind a zBind h1 hc) (by simp only [sizeBindS] at hp0; omega), h1, by simp; omega, by simp; omega, ⟨by omega, by omega, rfl⟩, by simp only [μ_laws_toBindS_3]; omega⟩
  · have hc : a.length ≤ i := by simpa using hc
    have e : i.toNat = a.length := by omega
    rw [e]; simp; exact Lf_rfl _
def con_laws_eqBindS : Con UU where
  α := (List DBind) × (List DBind)
  md := [.ro, .ro]
  of := fun | [.one (.sl .eBind a0), .one (.sl .eBind a1)] => some (a0, a1) | _ => none
  ds := fun (a, b) => [.one (.sl .eBind a), .one (.sl .eBind b)]
  pre := fun (a, b) => []
  res := fun (a, b) => ⟨[.one (.lit (.bool (decide (a = b))))], true, []⟩
  law := by intro l x h; (try simp only at h); split at h <;> cases h; rfl
def I_laws_eqBindS_4 (a : (List DBind)) (b : (List DBind)) : Int × Unit → Prop := fun (i, _) => 0 ≤ i ∧ i ≤ a.length ∧ a.length = b.length ∧ (a.drop i.toNat = b.drop i.toNat ↔ a = b)
def μ_laws_eqBindS_4 (a : (List DBind)) (b : (List DBind)) : Int × Unit → Nat := fun (i, _) => a.length - i.toNat
def ann_laws_eqBindS : con_laws_eqBindS.α → Nat → Option (Ann UU) := fun (a, b) => annL [(4, annOf [.slot 5 (5, 1024) (.lit (.int .i64))] (fun _ => I_laws_eqBindS_4 a b) (μ_laws_eqBindS_4 a b))]
def use_laws_eqBindS : List (FuncId × Con UU) := [(194, con_laws_eqBind)]
theorem vc_laws_eqBindS (a : (List DBind)) (b : (List DBind)) : goal EE use_laws_eqBindS Go.Proofs.Try.f185 con_laws_eqBindS ann_laws_eqBindS (a, b) = (bif (↑(List.length a) : Int) != (↑(List.length b) : Int) then Lf [DV.one (Cell.lit (Value.bool false))] [DV.one (Cell.lit (Value.bool (decide (a = b))))] else I_laws_eqBindS_4 a b ((0 : Int), PUnit.unit) ∧ ∀ (y : Int × PUnit), I_laws_eqBindS_4 a b y → bif decide (y.1 < (↑(List.length a) : Int)) then (0 : Int) ≤ y.1 ∧ Int.toNat y.1 < List.length a ∧ (0 : Int) ≤ y.1 ∧ Int.toNat y.1 < List.length b ∧ bif !decide (List.getD a (Int.toNat y.1) zBind = List.getD b (Int.toNat y.1) zBind) then Lf [DV.one (Cell.lit (Value.bool false))] [DV.one (Cell.lit (Value.bool (decide (a = b))))] else I_laws_eqBindS_4 a b (IntKind.wrap IntKind.i64 (y.1 + (1 : Int)), PUnit.unit) ∧ μ_laws_eqBindS_4 a b (IntKind.wrap IntKind.i64 (y.1 + (1 : Int)), PUnit.unit) < μ_laws_eqBindS_4 a b y else Lf [DV.one (Cell.lit (Value.bool true))] [DV.one (Cell.lit (Value.bool (decide (a = b))))]) := by kernel_rfl
theorem ok_laws_eqBindS : Holds EE (185, con_laws_eqBindS) := by
  refine holds_of EE_ok Go.Proofs.Try.func185 con_laws_eqBindS (by kernel_rfl) rfl use_laws_eqBindS (all_cons ok_laws_eqBind all_nil) ann_laws_eqBindS (fun x hp hb => ?_)
  obtain ⟨a, b⟩ := x
  have hb_a : BdDV (U := UU) (.one (.sl .eBind a)) := hb _ (List.mem_cons_self)
  have hl_a : a.length ≤ 9223372036854775807 := Bd.len hb_a
  have hb_b : BdDV (U := UU) (.one (.sl .eBind b)) := hb _ (List.mem_cons_of_mem _ (List.mem_cons_self))
  have hl_b : b.length ≤ 9223372036854775807 := Bd.len hb_b
  clear hp hb
  rw [vc_laws_eqBindS a b]
  refine if_cond (fun h => Lf_f ?_) (fun h => ⟨?_, ?_⟩)
  · rintro rfl; simp at h
  · simp [I_laws_eqBindS_4] at *; omega
  rintro ⟨i, ⟨⟩⟩ ⟨h1, h2, h3, hR⟩
  simp only at *
  refine if_cond (fun hc => ?_) (fun hc => ?_)
  · have hc : i < a.length := by simpa using hc
    rw [drop_step a zBind h1 hc, drop_step b zBind h1 (by omega)] at hR
    rw [wrap_i64 (by omega) (by omega)]
    refine ⟨by omega, by omega, by omega, by omega, if_cond (fun h => Lf_f ?_) (fun h => ⟨⟨by omega, by omega, h3, ?_⟩, ?_⟩)⟩
    · rw [← hR]; simp at h; simp [h]
    · rw [← hR]; simp at h; simp [h]
    · simp only [μ_laws_eqBindS_4]; omega
  · have hc : a.length ≤ i := by simpa using hc
    rw [drop_end a hc, drop_end b (by omega)] at hR
    exact Lf_t (hR.1 rfl)
def con_laws_szMatch : Con UU where
  α := DMatch × Int
  md := [.ro, .ro]
  of := fun | [.agg [.lit (.int .i64 a0), .sl .int a1, .sl .lBind a2], .one (.lit (.int .i64 a3))] => some (⟨a0, a1, a2⟩, a3) | _ => none
  ds := fun (a, left) => [.agg [.lit (.int .i64 a.Rule), .sl .int a.Ids, .sl .lBind a.Binds], .one (.lit (.int .i64 left))]
  pre := fun (a, left) => [0 ≤ left]
  res := fun (a, left) => ⟨[.one (.lit (.int .i64 (szr left (sizeMatch a))))], true, []⟩
  law := by intro l x h; (try simp only at h); split at h <;> cases h; rfl
def ann_laws_szMatch : con_laws_szMatch.α → Nat → Option (Ann UU) := fun (a, left) => annL []
def use_laws_szMatch : List (FuncId × Con UU) := [(187, con_laws_szIntS), (188, con_laws_szBindS)]
theorem vc_laws_szMatch (a : DMatch) (left : Int) : goal EE use_laws_szMatch Go.Proofs.Try.f170 con_laws_szMatch ann_laws_szMatch (a, left) = (let x0 : Int := szr (szr left (sizeIntS a.Ids)) (sizeBindS a.Binds);
(0 : Int) ≤ left ∧ bif decide (szr left (sizeIntS a.Ids) < (0 : Int)) then Lf [DV.one (Cell.lit (Value.int IntKind.i64 (-1 : Int)))] [DV.one (Cell.lit (Value.int IntKind.i64 (szr left (sizeMatch a))))] else (0 : Int) ≤ szr left (sizeIntS a.Ids) ∧ bif decide (x0 < (0 : Int)) then Lf [DV.one (Cell.lit (Value.int IntKind.i64 (-1 : Int)))] [DV.one (Cell.lit (Value.int IntKind.i64 (szr left (sizeMatch a))))] else Lf [DV.one (Cell.lit (Value.int IntKind.i64 x0))] [DV.one (Cell.lit (Value.int IntKind.i64 (szr left (sizeMatch a))))]) := by kernel_rfl
theorem ok_laws_szMatch : Holds EE (170, con_laws_szMatch) := by
  refine holds_of EE_ok Go.Proofs.Try.func170 con_laws_szMatch (by kernel_rfl) rfl use_laws_szMatch (all_cons ok_laws_szIntS (all_cons ok_laws_szBindS all_nil)) ann_laws_szMatch (fun x hp hb => ?_)
  obtain ⟨a, left⟩ := x
  have hb_a : BdDV (U := UU) (.agg [.lit (.int .i64 a.Rule), .sl .int a.Ids, .sl .lBind a.Binds]) := hb _ (List.mem_cons_self)
  have hl_a_Ids : a.Ids.length ≤ 9223372036854775807 := Bd.len (U := UU) (τ := .int) (xs := a.Ids) (hb_a _ (by simp))
  have hl_a_Binds : a.Binds.length ≤ 9223372036854775807 := Bd.len (U := UU) (τ := .lBind) (xs := a.Binds) (hb_a _ (by simp))
  have hb_left : BdDV (U := UU) (.one (.lit (.int .i64 left))) := hb _ (List.mem_cons_of_mem _ (List.mem_cons_self))
  have hl_left := Bd.i64 hb_left
  have hp0 : 0 ≤ left := hp _ (List.mem_cons_self)
  clear hp hb
  rw [vc_laws_szMatch a left]
  dsimp only
  refine ⟨by omega, if_cond (fun h => Lf_i (szr_bad' ?_)) (fun h => ?_)⟩
  · have h := szr_neg h; simp only [sizeMatch]; omega
  obtain ⟨e0, h0⟩ := szr_pos h
  rw [e0]
  refine ⟨by omega, if_cond (fun h => Lf_i (szr_bad' ?_)) (fun h => ?_)⟩
  · have h := szr_neg h; simp only [sizeMatch]; omega
  obtain ⟨e1, h1⟩ := szr_pos h
  rw [e1]
  exact Lf_i (by rw [← szr_ok' (by simp only [sizeMatch]; omega)]; simp only [sizeMatch]; try omega)
def con_laws_toMatch : Con UU where
  α := DMatch
  md := [.ro]
  of := fun | [.agg [.lit (.int .i64 a0), .sl .int a1, .sl .lBind a2]] => some ⟨a0, a1, a2⟩ | _ => none
  ds := fun a => [.agg [.lit (.int .i64 a.Rule), .sl .int a.Ids, .sl .lBind a.Binds]]
  pre := fun a => [sizeMatch a ≤ 4294967296]
  res := fun a => ⟨[.agg [.lit (.int .i64 a.Rule), .sl .int a.Ids, .sl .eBind a.Binds]], true, []⟩
  law := by intro l x h; (try simp only at h); split at h <;> cases h; rfl
def ann_laws_toMatch : con_laws_toMatch.α → Nat → Option (Ann UU) := fun a => annL []
def use_laws_toMatch : List (FuncId × Con UU) := [(190, con_laws_toIntS), (191, con_laws_toBindS)]
theorem vc_laws_toMatch (a : DMatch) : goal EE use_laws_toMatch Go.Proofs.Try.f172 con_laws_toMatch ann_laws_toMatch a = (sizeIntS a.Ids ≤ (4294967296 : Nat) ∧ sizeBindS a.Binds ≤ (4294967296 : Nat) ∧ Lf [DV.agg [Cell.lit (Value.int IntKind.i64 a.Rule), Cell.sl Cd.int a.Ids, Cell.sl Cd.eBind a.Binds]] [DV.agg [Cell.lit (Value.int IntKind.i64 a.Rule), Cell.sl Cd.int a.Ids, Cell.sl Cd.eBind a.Binds]]) := by kernel_rfl
theorem ok_laws_toMatch : Holds EE (172, con_laws_toMatch) := by
  refine holds_of EE_ok Go.Proofs.Try.func172 con_laws_toMatch (by kernel_rfl) rfl use_laws_toMatch (all_cons ok_laws_toIntS (all_cons ok_laws_toBindS all_nil)) ann_laws_toMatch (fun (a : DMatch) hp hb => ?_)
  have hb_a : BdDV (U := UU) (.agg [.lit (.int .i64 a.Rule), .sl .int a.Ids, .sl .lBind a.Binds]) := hb _ (List.mem_cons_self)
  have hl_a_Ids : a.Ids.length ≤ 9223372036854775807 := Bd.len (U := UU) (τ := .int) (xs := a.Ids) (hb_a _ (by simp))
  have hl_a_Binds : a.Binds.length ≤ 9223372036854775807 := Bd.len (U := UU) (τ := .lBind) (xs := a.Binds) (hb_a _ (by simp))
  have hp0 : sizeMatch a ≤ 4294967296 := hp _ (List.mem_cons_self)
  clear hp hb
  rw [vc_laws_toMatch a]
  simp only [sizeMatch] at hp0
  repeat' (first | exact Lf_rfl _ | (refine And.intro (by omega) ?_))
def con_laws_eqMatch : Con UU where
  α := DMatch × DMatch
  md := [.ro, .ro]
  of := fun | [.agg [.lit (.int .i64 a0), .sl .int a1, .sl .eBind a2], .agg [.lit (.int .i64 a3), .sl .int a4, .sl .eBind a5]] => some (⟨a0, a1, a2⟩, ⟨a3, a4, a5⟩) | _ => none
  ds := fun (a, b) => [.agg [.lit (.int .i64 a.Rule), .sl .int a.Ids, .sl .eBind a.Binds], .agg [.lit (.int .i64 b.Rule), .sl .int b.Ids, .sl .eBind b.Binds]]
  pre := fun (a, b) => []
  res := fun (a, b) => ⟨[.one (.lit (.bool (decide (a = b))))], true, []⟩
  law := by intro l x h; (try simp only at h); split at h <;> cases h; rfl
def ann_laws_eqMatch : con_laws_eqMatch.α → Nat → Option (Ann UU) := fun (a, b) => annL []
def use_laws_eqMatch : List (FuncId × Con UU) := [(184, con_laws_eqIntS), (185, con_laws_eqBindS)]
theorem vc_laws_eqMatch (a : DMatch) (b : DMatch) : goal EE use_laws_eqMatch Go.Proofs.Try.f162 con_laws_eqMatch ann_laws_eqMatch (a, b) = (bif a.Rule != b.Rule then Lf [DV.one (Cell.lit (Value.bool false))] [DV.one (Cell.lit (Value.bool (decide (a = b))))] else bif !decide (a.Ids = b.Ids) then Lf [DV.one (Cell.lit (Value.bool false))] [DV.one (Cell.lit (Value.bool (decide (a = b))))] else bif !decide (a.Binds = b.Binds) then Lf [DV.one (Cell.lit (Value.bool false))] [DV.one (Cell.lit (Value.bool (decide (a = b))))] else Lf [DV.one (Cell.lit (Value.bool true))] [DV.one (Cell.lit (Value.bool (decide (a = b))))]) := by kernel_rfl
theorem ok_laws_eqMatch : Holds EE (162, con_laws_eqMatch) := by
  refine holds_of EE_ok Go.Proofs.Try.func162 con_laws_eqMatch (by kernel_rfl) rfl use_laws_eqMatch (all_cons ok_laws_eqIntS (all_cons ok_laws_eqBindS all_nil)) ann_laws_eqMatch (fun x hp hb => ?_)
  obtain ⟨a, b⟩ := x
  have hb_a : BdDV (U := UU) (.agg [.lit (.int .i64 a.Rule), .sl .int a.Ids, .sl .eBind a.Binds]) := hb _ (List.mem_cons_self)
  have hl_a_Ids : a.Ids.length ≤ 9223372036854775807 := Bd.len (U := UU) (τ := .int) (xs := a.Ids) (hb_a _ (by simp))
  have hl_a_Binds : a.Binds.length ≤ 9223372036854775807 := Bd.len (U := UU) (τ := .eBind) (xs := a.Binds) (hb_a _ (by simp))
  have hb_b : BdDV (U := UU) (.agg [.lit (.int .i64 b.Rule), .sl .int b.Ids, .sl .eBind b.Binds]) := hb _ (List.mem_cons_of_mem _ (List.mem_cons_self))
  have hl_b_Ids : b.Ids.length ≤ 9223372036854775807 := Bd.len (U := UU) (τ := .int) (xs := b.Ids) (hb_b _ (by simp))
  have hl_b_Binds : b.Binds.length ≤ 9223372036854775807 := Bd.len (U := UU) (τ := .eBind) (xs := b.Binds) (hb_b _ (by simp))
  clear hp hb
  rw [vc_laws_eqMatch a b]
  obtain ⟨aRule, aIds, aBinds⟩ := a
  obtain ⟨bRule, bIds, bBinds⟩ := b
  repeat' (apply if_cond <;> intro _)
  all_goals (first | apply Lf_t | apply Lf_f) <;> simp_all
def con_laws_szMatchS : Con UU where
  α := (List DMatch) × Int
  md := [.ro, .ro]
  of := fun | [.one (.sl .lMatch a0), .one (.lit (.int .i64 a1))] => some (a0, a1) | _ => none
  ds := fun (a, left) => [.one (.sl .lMatch a), .one (.lit (.int .i64 left))]
  pre := fun (a, left) => [0 ≤ left]
  res := fun (a, left) => ⟨[.one (.lit (.int .i64 (szr left (sizeMatchS a))))], true, []⟩
  law := by intro l x h; (try simp only at h); split at h <;> cases h; rfl
def I_laws_szMatchS_5 (a : (List DMatch)) (left : Int) : Int × Int × Unit → Prop := fun (lf, i, _) => 0 ≤ lf ∧ 0 ≤ i ∧ i ≤ a.length ∧ szr lf ((a.drop i.toNat).map sizeMatch).sum = szr left (sizeMatchS a)
def μ_laws_szMatchS_5 (a : (List DMatch)) (left : Int) : Int × Int × Unit → Nat := fun (lf, i, _) => a.length - i.toNat
def ann_laws_szMatchS : con_laws_szMatchS.α → Nat → Option (Ann UU) := fun (a, left) => annL [(5, annOf [.slot 1 (1, 1024) (.lit (.int .i64)), .slot 5 (5, 1024) (.lit (.int .i64))] (fun _ => I_laws_szMatchS_5 a left) (μ_laws_szMatchS_5 a left))]
def use_laws_szMatchS : List (FuncId × Con UU) := [(170, con_laws_szMatch)]
theorem vc_laws_szMatchS (a : (List DMatch)) (left : Int) : goal EE use_laws_szMatchS Go.Proofs.Try.f130 con_laws_szMatchS ann_laws_szMatchS (a, left) = (let x0 : Int := IntKind.wrap IntKind.i64 (left - (↑(List.length a) : Int));
bif decide (x0 < (0 : Int)) then Lf [DV.one (Cell.lit (Value.int IntKind.i64 (-1 : Int)))] [DV.one (Cell.lit (Value.int IntKind.i64 (szr left (sizeMatchS a))))]
else
  I_laws_szMatchS_5 a left (x0, (0 : Int), PUnit.unit) ∧
    ∀ (y : Int × Int × PUnit),
      let x1 : Int := szr y.1 (sizeMatch (List.getD a (Int.toNat y.2.1) zMatch));
      I_laws_szMatchS_5 a left y → bif decide (y.2.1 < (↑(List.length a) : Int)) then (0 : Int) ≤ y.2.1 ∧ Int.toNat y.2.1 < List.length a ∧ (0 : Int) ≤ y.1 ∧ bif decide (x1 < (0 : Int)) then Lf [DV.one (Cell.lit (Value.int IntKind.i64 (-1 : Int)))] [DV.one (Cell.lit (Value.int IntKind.i64 (szr left (sizeMatchS a))))] else I_laws_szMatchS_5 a left (x1, IntKind.wrap IntKind.i64 (y.2.1 + (1 : Int)), PUnit.unit) ∧ μ_laws_szMatchS_5 a left (x1, IntKind.wrap IntKind.i64 (y.2.1 + (1 : Int)), PUnit.unit) < μ_laws_szMatchS_5 a left y else Lf [DV.one (Cell.lit (Value.int IntKind.i64 y.1))] [DV.one (Cell.lit (Value.int IntKind.i64 (szr left (sizeMatchS a))))]) := by kernel_rfl
theorem ok_laws_szMatchS : Holds EE (130, con_laws_szMatchS) := by
  refine holds_of EE_ok Go.Proofs.Try.func130 con_laws_szMatchS (by kernel_rfl) rfl use_laws_szMatchS (all_cons ok_laws_szMatch all_nil) ann_laws_szMatchS (fun x hp hb => ?_)
  obtain ⟨a, left⟩ := x
  have hb_a : BdDV (U := UU) (.one (.sl .lMatch a)) := hb _ (List.mem_cons_self)
  have hl_a : a.length ≤ 9223372036854775807 := Bd.len hb_a
  have hb_left : BdDV (U := UU) (.one (.lit (.int .i64 left))) := hb _ (List.mem_cons_of_mem _ (List.mem_cons_self))
  have hl_left := Bd.i64 hb_left
  have hp0 : 0 ≤ left := hp _ (List.mem_cons_self)
  clear hp hb
  rw [vc_laws_szMatchS a left]
  dsimp only
  rw [wrap_i64 (by omega) (by omega)]
  refine if_cond (fun h => Lf_i ?_) (fun h => ⟨?_, ?_⟩)
  · simp [szr, sizeMatchS] at *; omega
  · simp only [I_laws_szMatchS_5, sizeMatchS]; simp at h; have h' : 0 ≤ left - a.length := by omega
    exact ⟨h', by omega, by omega, szr_sub h'⟩
  rintro ⟨lf, i, ⟨⟩⟩ ⟨h0, h1, h2, hR⟩
  refine if_cond (fun hc => ?_) (fun hc => ?_)
  · have hc : i < a.length := by simpa using hc
    rw [drop_step a zMatch h1 hc, List.map_cons, List.sum_cons] at hR
    simp only at *
    rw [wrap_i64 (by omega) (by omega)]
    generalize List.getD a i.toNat zMatch = x at *
    refine ⟨by omega, by omega, by omega, if_cond (fun h => Lf_i ?_) (fun h => ⟨⟨?_, by omega, by omega, ?_⟩, ?_⟩)⟩
    · rw [← hR]; exact (szr_bad (of_decide_eq_true h)).symm
    · simp at h; omega
    · rw [← hR]; simp at h; exact szr_szr h
    · simp only [μ_laws_szMatchS_5]; omega
  · have hc : a.length ≤ i := by simpa using hc
    rw [drop_end a hc] at hR
    apply Lf_i; rw [← hR]; simp [szr, h0]
def con_laws_toMatchS : Con UU where
  α := (List DMatch)
  md := [.ro]
  of := fun | [.one (.sl .lMatch a0)] => some a0 | _ => none
  ds := fun a => [.one (.sl .lMatch a)]
  pre := fun a => [sizeMatchS a ≤ 4294967296]
  res := fun a => ⟨[.one (.sl .eMatch a)], true, []⟩
  law := by intro l x h; (try simp only at h); split at h <;> cases h; rfl
def I_laws_toMatchS_3 (a : (List DMatch)) : List DMatch × Int × Unit → Prop := fun (out, i, _) => 0 ≤ i ∧ i ≤ a.length ∧ out = a.take i.toNat ++ List.replicate (a.length - i.toNat) zMatch
def μ_laws_toMatchS_3 (a : (List DMatch)) : List DMatch × Int × Unit → Nat := fun (out, i, _) => a.length - i.toNat
def ann_laws_toMatchS : con_laws_toMatchS.α → Nat → Option (Ann UU) := fun a => annL [(3, annOf [.slot 3 (3, 1024) (.own .eMatch true), .slot 4 (4, 1024) (.lit (.int .i64))] (fun _ => I_laws_toMatchS_3 a) (μ_laws_toMatchS_3 a))]
def use_laws_toMatchS : List (FuncId × Con UU) := [(172, con_laws_toMatch)]
theorem vc_laws_toMatchS (a : (List DMatch)) : goal EE use_laws_toMatchS Go.Proofs.Try.f132 con_laws_toMatchS ann_laws_toMatchS a = (let x0 : Int := (↑(List.length a) : Int);
(0 : Int) ≤ x0 ∧
  x0 = x0 ∧
    x0 ≤ (4294967296 : Int) ∧
      I_laws_toMatchS_3 a (List.replicate (Int.toNat x0) zMatch, (0 : Int), PUnit.unit) ∧
        ∀ (y : List DMatch × Int × PUnit),
          let x1 : Nat := Int.toNat y.2.1;
          I_laws_toMatchS_3 a y → bif decide (y.2.1 < x0) then (0 : Int) ≤ y.2.1 ∧ x1 < List.length a ∧ sizeMatch (List.getD a x1 zMatch) ≤ (4294967296 : Nat) ∧ (0 : Int) ≤ y.2.1 ∧ x1 < List.length y.1 ∧ x1 < List.length y.1 ∧ I_laws_toMatchS_3 a (List.set y.1 x1 (List.getD a x1 zMatch), IntKind.wrap IntKind.i64 (y.2.1 + (1 : Int)), PUnit.unit) ∧ μ_laws_toMatchS_3 a (List.set y.1 x1 (List.getD a x1 zMatch), IntKind.wrap IntKind.i64 (y.2.1 + (1 : Int)), PUnit.unit) < μ_laws_toMatchS_3 a y else Lf [DV.one (Cell.sl Cd.eMatch y.1)] [DV.one (Cell.sl Cd.eMatch a)]) := by kernel_rfl
theorem ok_laws_toMatchS : Holds EE (132, con_laws_toMatchS) := by
  refine holds_of EE_ok Go.Proofs.Try.func132 con_laws_toMatchS (by kernel_rfl) rfl use_laws_toMatchS (all_cons ok_laws_toMatch all_nil) ann_laws_toMatchS (fun (a : (List DMatch)) hp hb => ?_)
  have hb_a : BdDV (U := UU) (.one (.sl .lMatch a)) := hb _ (List.mem_cons_self)
  have hl_a : a.length ≤ 9223372036854775807 := Bd.len hb_a
  have hp0 : sizeMatchS a ≤ 4294967296 := hp _ (List.mem_cons_self)
  clear hp hb
  rw [vc_laws_toMatchS a]
  dsimp only
  have hlen : a.length ≤ 4294967296 := by simp only [sizeMatchS] at hp0; omega
  refine ⟨by omega, rfl, by omega, ?_, ?_⟩
  · simp [I_laws_toMatchS_3]
  rintro ⟨out, i, ⟨⟩⟩ ⟨h1, h2, rfl⟩
  simp only at *
  refine if_cond (fun hc => ?_) (fun hc => ?_)
  · have hc : i < a.length := by simpa using hc
    rw [wrap_i64 (by omega) (by omega), set_fill a zMatch h1 hc]
    exact ⟨h1, by omega, by exact Nat.le_trans (sum_getD_le sizeMatch a zMatch h1 hc) (by simp only [sizeMatchS] at hp0; omega), h1, by simp; omega, by simp; omega, ⟨by omega, by omega, rfl⟩, by simp only [μ_laws_toMatchS_3]; omega⟩
  · have hc : a.length ≤ i := by simpa using hc
    have e : i.toNat = a.length := by omega
    rw [e]; simp; exact Lf_rfl _
def con_laws_eqMatchS : Con UU where
  α := (List DMatch) × (List DMatch)
  md := [.ro, .ro]
  of := fun | [.one (.sl .eMatch a0), .one (.sl .eMatch a1)] => some (a0, a1) | _ => none
  ds := fun (a, b) => [.one (.sl .eMatch a), .one (.sl .eMatch b)]
  pre := fun (a, b) => []
  res := fun (a, b) => ⟨[.one (.lit (.bool (decide (a = b))))], true, []⟩
  law := by intro l x h; (try simp only at h); split at h <;> cases h; rfl
def I_laws_eqMatchS_4 (a : (List DMatch)) (b : (List DMatch)) : Int × Unit → Prop := fun (i, _) => 0 ≤ i ∧ i ≤ a.length ∧ a.length = b.length ∧ (a.drop i.toNat = b.drop i.toNat ↔ a = b)
def μ_laws_eqMatchS_4 (a : (List DMatch)) (b : (List DMatch)) : Int × Unit → Nat := fun (i, _) => a.length - i.toNat
def ann_laws_eqMatchS : con_laws_eqMatchS.α → Nat → Option (Ann UU) := fun (a, b) => annL [(4, annOf [.slot 5 (5, 1024) (.lit (.int .i64))] (fun _ => I_laws_eqMatchS_4 a b) (μ_laws_eqMatchS_4 a b))]
def use_laws_eqMatchS : List (FuncId × Con UU) := [(162, con_laws_eqMatch)]
theorem vc_laws_eqMatchS (a : (List DMatch)) (b : (List DMatch)) : goal EE use_laws_eqMatchS Go.Proofs.Try.f122 con_laws_eqMatchS ann_laws_eqMatchS (a, b) = (bif (↑(List.length a) : Int) != (↑(List.length b) : Int) then Lf [DV.one (Cell.lit (Value.bool false))] [DV.one (Cell.lit (Value.bool (decide (a = b))))] else I_laws_eqMatchS_4 a b ((0 : Int), PUnit.unit) ∧ ∀ (y : Int × PUnit), I_laws_eqMatchS_4 a b y → bif decide (y.1 < (↑(List.length a) : Int)) then (0 : Int) ≤ y.1 ∧ Int.toNat y.1 < List.length a ∧ (0 : Int) ≤ y.1 ∧ Int.toNat y.1 < List.length b ∧ bif !decide (List.getD a (Int.toNat y.1) zMatch = List.getD b (Int.toNat y.1) zMatch) then Lf [DV.one (Cell.lit (Value.bool false))] [DV.one (Cell.lit (Value.bool (decide (a = b))))] else I_laws_eqMatchS_4 a b (IntKind.wrap IntKind.i64 (y.1 + (1 : Int)), PUnit.unit) ∧ μ_laws_eqMatchS_4 a b (IntKind.wrap IntKind.i64 (y.1 + (1 : Int)), PUnit.unit) < μ_laws_eqMatchS_4 a b y else Lf [DV.one (Cell.lit (Value.bool true))] [DV.one (Cell.lit (Value.bool (decide (a = b))))]) := by kernel_rfl
theorem ok_laws_eqMatchS : Holds EE (122, con_laws_eqMatchS) := by
  refine holds_of EE_ok Go.Proofs.Try.func122 con_laws_eqMatchS (by kernel_rfl) rfl use_laws_eqMatchS (all_cons ok_laws_eqMatch all_nil) ann_laws_eqMatchS (fun x hp hb => ?_)
  obtain ⟨a, b⟩ := x
  have hb_a : BdDV (U := UU) (.one (.sl .eMatch a)) := hb _ (List.mem_cons_self)
  have hl_a : a.length ≤ 9223372036854775807 := Bd.len hb_a
  have hb_b : BdDV (U := UU) (.one (.sl .eMatch b)) := hb _ (List.mem_cons_of_mem _ (List.mem_cons_self))
  have hl_b : b.length ≤ 9223372036854775807 := Bd.len hb_b
  clear hp hb
  rw [vc_laws_eqMatchS a b]
  refine if_cond (fun h => Lf_f ?_) (fun h => ⟨?_, ?_⟩)
  · rintro rfl; simp at h
  · simp [I_laws_eqMatchS_4] at *; omega
  rintro ⟨i, ⟨⟩⟩ ⟨h1, h2, h3, hR⟩
  simp only at *
  refine if_cond (fun hc => ?_) (fun hc => ?_)
  · have hc : i < a.length := by simpa using hc
    rw [drop_step a zMatch h1 hc, drop_step b zMatch h1 (by omega)] at hR
    rw [wrap_i64 (by omega) (by omega)]
    refine ⟨by omega, by omega, by omega, by omega, if_cond (fun h => Lf_f ?_) (fun h => ⟨⟨by omega, by omega, h3, ?_⟩, ?_⟩)⟩
    · rw [← hR]; simp at h; simp [h]
    · rw [← hR]; simp at h; simp [h]
    · simp only [μ_laws_eqMatchS_4]; omega
  · have hc : a.length ≤ i := by simpa using hc
    rw [drop_end a hc, drop_end b (by omega)] at hR
    exact Lf_t (hR.1 rfl)
def con_laws_szInst : Con UU where
  α := DInst × Int
  md := [.ro, .ro]
  of := fun | [.agg [.sl .lItem a0, .lit (.int .i64 a1), .sl .lMatch a2, .sl .lTask a3, .sl .lTimer a4, .sl .lUndo a5, .lit (.int .i64 a6), .lit (.int .i64 a7)], .one (.lit (.int .i64 a8))] => some (⟨⟨a0, a1⟩, a2, a3, a4, a5, a6, a7⟩, a8) | _ => none
  ds := fun (a, left) => [.agg [.sl .lItem a.S.Items, .lit (.int .i64 a.S.Next), .sl .lMatch a.Fired, .sl .lTask a.Tasks, .sl .lTimer a.Timers, .sl .lUndo a.Undos, .lit (.int .i64 a.State), .lit (.int .i64 a.Now)], .one (.lit (.int .i64 left))]
  pre := fun (a, left) => [0 ≤ left]
  res := fun (a, left) => ⟨[.one (.lit (.int .i64 (szr left (sizeInst a))))], true, []⟩
  law := by intro l x h; (try simp only at h); split at h <;> cases h; rfl
def ann_laws_szInst : con_laws_szInst.α → Nat → Option (Ann UU) := fun (a, left) => annL []
def use_laws_szInst : List (FuncId × Con UU) := [(129, con_laws_szStore), (130, con_laws_szMatchS), (23, con_laws_szTaskS), (38, con_laws_szTimerS), (13, con_laws_szUndoS)]
theorem vc_laws_szInst (a : DInst) (left : Int) : goal EE use_laws_szInst Go.Proofs.Try.f60 con_laws_szInst ann_laws_szInst (a, left) = (let x0 : Int := szr (szr (szr (szr left (sizeStore a.S)) (sizeMatchS a.Fired)) (sizeTaskS a.Tasks)) (sizeTimerS a.Timers);
let x1 : Int := szr (szr left (sizeStore a.S)) (sizeMatchS a.Fired);
(0 : Int) ≤ left ∧ bif decide (szr left (sizeStore a.S) < (0 : Int)) then Lf [DV.one (Cell.lit (Value.int IntKind.i64 (-1 : Int)))] [DV.one (Cell.lit (Value.int IntKind.i64 (szr left (sizeInst a))))] else (0 : Int) ≤ szr left (sizeStore a.S) ∧ bif decide (x1 < (0 : Int)) then Lf [DV.one (Cell.lit (Value.int IntKind.i64 (-1 : Int)))] [DV.one (Cell.lit (Value.int IntKind.i64 (szr left (sizeInst a))))] else (0 : Int) ≤ x1 ∧ bif decide (szr x1 (sizeTaskS a.Tasks) < (0 : Int)) then Lf [DV.one (Cell.lit (Value.int IntKind.i64 (-1 : Int)))] [DV.one (Cell.lit (Value.int IntKind.i64 (szr left (sizeInst a))))] else (0 : Int) ≤ szr x1 (sizeTaskS a.Tasks) ∧ bif decide (x0 < (0 : Int)) then Lf [DV.one (Cell.lit (Value.int IntKind.i64 (-1 : Int)))] [DV.one (Cell.lit (Value.int IntKind.i64 (szr left (sizeInst a))))] else (0 : Int) ≤ x0 ∧ bif decide (szr x0 (sizeUndoS a.Undos) < (0 : Int)) then Lf [DV.one (Cell.lit (Value.int IntKind.i64 (-1 : Int)))] [DV.one (Cell.lit (Value.int IntKind.i64 (szr left (sizeInst a))))] else Lf [DV.one (Cell.lit (Value.int IntKind.i64 (szr x0 (sizeUndoS a.Undos))))] [DV.one (Cell.lit (Value.int IntKind.i64 (szr left (sizeInst a))))]) := by kernel_rfl
theorem ok_laws_szInst : Holds EE (60, con_laws_szInst) := by
  refine holds_of EE_ok Go.Proofs.Try.func60 con_laws_szInst (by kernel_rfl) rfl use_laws_szInst (all_cons ok_laws_szStore (all_cons ok_laws_szMatchS (all_cons ok_laws_szTaskS (all_cons ok_laws_szTimerS (all_cons ok_laws_szUndoS all_nil))))) ann_laws_szInst (fun x hp hb => ?_)
  obtain ⟨a, left⟩ := x
  have hb_a : BdDV (U := UU) (.agg [.sl .lItem a.S.Items, .lit (.int .i64 a.S.Next), .sl .lMatch a.Fired, .sl .lTask a.Tasks, .sl .lTimer a.Timers, .sl .lUndo a.Undos, .lit (.int .i64 a.State), .lit (.int .i64 a.Now)]) := hb _ (List.mem_cons_self)
  have hl_a_S_Items : a.S.Items.length ≤ 9223372036854775807 := Bd.len (U := UU) (τ := .lItem) (xs := a.S.Items) (hb_a _ (by simp))
  have hl_a_Fired : a.Fired.length ≤ 9223372036854775807 := Bd.len (U := UU) (τ := .lMatch) (xs := a.Fired) (hb_a _ (by simp))
  have hl_a_Tasks : a.Tasks.length ≤ 9223372036854775807 := Bd.len (U := UU) (τ := .lTask) (xs := a.Tasks) (hb_a _ (by simp))
  have hl_a_Timers : a.Timers.length ≤ 9223372036854775807 := Bd.len (U := UU) (τ := .lTimer) (xs := a.Timers) (hb_a _ (by simp))
  have hl_a_Undos : a.Undos.length ≤ 9223372036854775807 := Bd.len (U := UU) (τ := .lUndo) (xs := a.Undos) (hb_a _ (by simp))
  have hb_left : BdDV (U := UU) (.one (.lit (.int .i64 left))) := hb _ (List.mem_cons_of_mem _ (List.mem_cons_self))
  have hl_left := Bd.i64 hb_left
  have hp0 : 0 ≤ left := hp _ (List.mem_cons_self)
  clear hp hb
  rw [vc_laws_szInst a left]
  dsimp only
  refine ⟨by omega, if_cond (fun h => Lf_i (szr_bad' ?_)) (fun h => ?_)⟩
  · have h := szr_neg h; simp only [sizeInst]; omega
  obtain ⟨e0, h0⟩ := szr_pos h
  rw [e0]
  refine ⟨by omega, if_cond (fun h => Lf_i (szr_bad' ?_)) (fun h => ?_)⟩
  · have h := szr_neg h; simp only [sizeInst]; omega
  obtain ⟨e1, h1⟩ := szr_pos h
  rw [e1]
  refine ⟨by omega, if_cond (fun h => Lf_i (szr_bad' ?_)) (fun h => ?_)⟩
  · have h := szr_neg h; simp only [sizeInst]; omega
  obtain ⟨e2, h2⟩ := szr_pos h
  rw [e2]
  refine ⟨by omega, if_cond (fun h => Lf_i (szr_bad' ?_)) (fun h => ?_)⟩
  · have h := szr_neg h; simp only [sizeInst]; omega
  obtain ⟨e3, h3⟩ := szr_pos h
  rw [e3]
  refine ⟨by omega, if_cond (fun h => Lf_i (szr_bad' ?_)) (fun h => ?_)⟩
  · have h := szr_neg h; simp only [sizeInst]; omega
  obtain ⟨e4, h4⟩ := szr_pos h
  rw [e4]
  exact Lf_i (by rw [← szr_ok' (by simp only [sizeInst]; omega)]; simp only [sizeInst]; try omega)
def con_laws_toInst : Con UU where
  α := DInst
  md := [.ro]
  of := fun | [.agg [.sl .lItem a0, .lit (.int .i64 a1), .sl .lMatch a2, .sl .lTask a3, .sl .lTimer a4, .sl .lUndo a5, .lit (.int .i64 a6), .lit (.int .i64 a7)]] => some ⟨⟨a0, a1⟩, a2, a3, a4, a5, a6, a7⟩ | _ => none
  ds := fun a => [.agg [.sl .lItem a.S.Items, .lit (.int .i64 a.S.Next), .sl .lMatch a.Fired, .sl .lTask a.Tasks, .sl .lTimer a.Timers, .sl .lUndo a.Undos, .lit (.int .i64 a.State), .lit (.int .i64 a.Now)]]
  pre := fun a => [sizeInst a ≤ 4294967296]
  res := fun a => ⟨[.agg [.sl .eItem a.S.Items, .lit (.int .i64 a.S.Next), .sl .eMatch a.Fired, .sl .eTask a.Tasks, .sl .eTimer a.Timers, .sl .eUndo a.Undos, .lit (.int .i64 a.State), .lit (.int .i64 a.Now)]], true, []⟩
  law := by intro l x h; (try simp only at h); split at h <;> cases h; rfl
def ann_laws_toInst : con_laws_toInst.α → Nat → Option (Ann UU) := fun a => annL []
def use_laws_toInst : List (FuncId × Con UU) := [(131, con_laws_toStore), (132, con_laws_toMatchS), (25, con_laws_toTaskS), (41, con_laws_toTimerS), (15, con_laws_toUndoS)]
theorem vc_laws_toInst (a : DInst) : goal EE use_laws_toInst Go.Proofs.Try.f62 con_laws_toInst ann_laws_toInst a = (sizeStore a.S ≤ (4294967296 : Nat) ∧ sizeMatchS a.Fired ≤ (4294967296 : Nat) ∧ sizeTaskS a.Tasks ≤ (4294967296 : Nat) ∧ sizeTimerS a.Timers ≤ (4294967296 : Nat) ∧ sizeUndoS a.Undos ≤ (4294967296 : Nat) ∧ Lf [DV.agg [Cell.sl Cd.eItem a.S.Items, Cell.lit (Value.int IntKind.i64 a.S.Next), Cell.sl Cd.eMatch a.Fired, Cell.sl Cd.eTask a.Tasks, Cell.sl Cd.eTimer a.Timers, Cell.sl Cd.eUndo a.Undos, Cell.lit (Value.int IntKind.i64 a.State), Cell.lit (Value.int IntKind.i64 a.Now)]] [DV.agg [Cell.sl Cd.eItem a.S.Items, Cell.lit (Value.int IntKind.i64 a.S.Next), Cell.sl Cd.eMatch a.Fired, Cell.sl Cd.eTask a.Tasks, Cell.sl Cd.eTimer a.Timers, Cell.sl Cd.eUndo a.Undos, Cell.lit (Value.int IntKind.i64 a.State), Cell.lit (Value.int IntKind.i64 a.Now)]]) := by kernel_rfl
theorem ok_laws_toInst : Holds EE (62, con_laws_toInst) := by
  refine holds_of EE_ok Go.Proofs.Try.func62 con_laws_toInst (by kernel_rfl) rfl use_laws_toInst (all_cons ok_laws_toStore (all_cons ok_laws_toMatchS (all_cons ok_laws_toTaskS (all_cons ok_laws_toTimerS (all_cons ok_laws_toUndoS all_nil))))) ann_laws_toInst (fun (a : DInst) hp hb => ?_)
  have hb_a : BdDV (U := UU) (.agg [.sl .lItem a.S.Items, .lit (.int .i64 a.S.Next), .sl .lMatch a.Fired, .sl .lTask a.Tasks, .sl .lTimer a.Timers, .sl .lUndo a.Undos, .lit (.int .i64 a.State), .lit (.int .i64 a.Now)]) := hb _ (List.mem_cons_self)
  have hl_a_S_Items : a.S.Items.length ≤ 9223372036854775807 := Bd.len (U := UU) (τ := .lItem) (xs := a.S.Items) (hb_a _ (by simp))
  have hl_a_Fired : a.Fired.length ≤ 9223372036854775807 := Bd.len (U := UU) (τ := .lMatch) (xs := a.Fired) (hb_a _ (by simp))
  have hl_a_Tasks : a.Tasks.length ≤ 9223372036854775807 := Bd.len (U := UU) (τ := .lTask) (xs := a.Tasks) (hb_a _ (by simp))
  have hl_a_Timers : a.Timers.length ≤ 9223372036854775807 := Bd.len (U := UU) (τ := .lTimer) (xs := a.Timers) (hb_a _ (by simp))
  have hl_a_Undos : a.Undos.length ≤ 9223372036854775807 := Bd.len (U := UU) (τ := .lUndo) (xs := a.Undos) (hb_a _ (by simp))
  have hp0 : sizeInst a ≤ 4294967296 := hp _ (List.mem_cons_self)
  clear hp hb
  rw [vc_laws_toInst a]
  simp only [sizeInst] at hp0
  repeat' (first | exact Lf_rfl _ | (refine And.intro (by omega) ?_))
def con_laws_eqInst : Con UU where
  α := DInst × DInst
  md := [.ro, .ro]
  of := fun | [.agg [.sl .eItem a0, .lit (.int .i64 a1), .sl .eMatch a2, .sl .eTask a3, .sl .eTimer a4, .sl .eUndo a5, .lit (.int .i64 a6), .lit (.int .i64 a7)], .agg [.sl .eItem a8, .lit (.int .i64 a9), .sl .eMatch a10, .sl .eTask a11, .sl .eTimer a12, .sl .eUndo a13, .lit (.int .i64 a14), .lit (.int .i64 a15)]] => some (⟨⟨a0, a1⟩, a2, a3, a4, a5, a6, a7⟩, ⟨⟨a8, a9⟩, a10, a11, a12, a13, a14, a15⟩) | _ => none
  ds := fun (a, b) => [.agg [.sl .eItem a.S.Items, .lit (.int .i64 a.S.Next), .sl .eMatch a.Fired, .sl .eTask a.Tasks, .sl .eTimer a.Timers, .sl .eUndo a.Undos, .lit (.int .i64 a.State), .lit (.int .i64 a.Now)], .agg [.sl .eItem b.S.Items, .lit (.int .i64 b.S.Next), .sl .eMatch b.Fired, .sl .eTask b.Tasks, .sl .eTimer b.Timers, .sl .eUndo b.Undos, .lit (.int .i64 b.State), .lit (.int .i64 b.Now)]]
  pre := fun (a, b) => []
  res := fun (a, b) => ⟨[.one (.lit (.bool (decide (a = b))))], true, []⟩
  law := by intro l x h; (try simp only at h); split at h <;> cases h; rfl
def ann_laws_eqInst : con_laws_eqInst.α → Nat → Option (Ann UU) := fun (a, b) => annL []
def use_laws_eqInst : List (FuncId × Con UU) := [(121, con_laws_eqStore), (122, con_laws_eqMatchS), (27, con_laws_eqTaskS), (44, con_laws_eqTimerS), (17, con_laws_eqUndoS)]
theorem vc_laws_eqInst (a : DInst) (b : DInst) : goal EE use_laws_eqInst Go.Proofs.Try.f57 con_laws_eqInst ann_laws_eqInst (a, b) = (bif !decide (a.S = b.S) then Lf [DV.one (Cell.lit (Value.bool false))] [DV.one (Cell.lit (Value.bool (decide (a = b))))] else bif !decide (a.Fired = b.Fired) then Lf [DV.one (Cell.lit (Value.bool false))] [DV.one (Cell.lit (Value.bool (decide (a = b))))] else bif !decide (a.Tasks = b.Tasks) then Lf [DV.one (Cell.lit (Value.bool false))] [DV.one (Cell.lit (Value.bool (decide (a = b))))] else bif !decide (a.Timers = b.Timers) then Lf [DV.one (Cell.lit (Value.bool false))] [DV.one (Cell.lit (Value.bool (decide (a = b))))] else bif !decide (a.Undos = b.Undos) then Lf [DV.one (Cell.lit (Value.bool false))] [DV.one (Cell.lit (Value.bool (decide (a = b))))] else bif a.State != b.State then Lf [DV.one (Cell.lit (Value.bool false))] [DV.one (Cell.lit (Value.bool (decide (a = b))))] else bif a.Now != b.Now then Lf [DV.one (Cell.lit (Value.bool false))] [DV.one (Cell.lit (Value.bool (decide (a = b))))] else Lf [DV.one (Cell.lit (Value.bool true))] [DV.one (Cell.lit (Value.bool (decide (a = b))))]) := by kernel_rfl
theorem ok_laws_eqInst : Holds EE (57, con_laws_eqInst) := by
  refine holds_of EE_ok Go.Proofs.Try.func57 con_laws_eqInst (by kernel_rfl) rfl use_laws_eqInst (all_cons ok_laws_eqStore (all_cons ok_laws_eqMatchS (all_cons ok_laws_eqTaskS (all_cons ok_laws_eqTimerS (all_cons ok_laws_eqUndoS all_nil))))) ann_laws_eqInst (fun x hp hb => ?_)
  obtain ⟨a, b⟩ := x
  have hb_a : BdDV (U := UU) (.agg [.sl .eItem a.S.Items, .lit (.int .i64 a.S.Next), .sl .eMatch a.Fired, .sl .eTask a.Tasks, .sl .eTimer a.Timers, .sl .eUndo a.Undos, .lit (.int .i64 a.State), .lit (.int .i64 a.Now)]) := hb _ (List.mem_cons_self)
  have hl_a_S_Items : a.S.Items.length ≤ 9223372036854775807 := Bd.len (U := UU) (τ := .eItem) (xs := a.S.Items) (hb_a _ (by simp))
  have hl_a_Fired : a.Fired.length ≤ 9223372036854775807 := Bd.len (U := UU) (τ := .eMatch) (xs := a.Fired) (hb_a _ (by simp))
  have hl_a_Tasks : a.Tasks.length ≤ 9223372036854775807 := Bd.len (U := UU) (τ := .eTask) (xs := a.Tasks) (hb_a _ (by simp))
  have hl_a_Timers : a.Timers.length ≤ 9223372036854775807 := Bd.len (U := UU) (τ := .eTimer) (xs := a.Timers) (hb_a _ (by simp))
  have hl_a_Undos : a.Undos.length ≤ 9223372036854775807 := Bd.len (U := UU) (τ := .eUndo) (xs := a.Undos) (hb_a _ (by simp))
  have hb_b : BdDV (U := UU) (.agg [.sl .eItem b.S.Items, .lit (.int .i64 b.S.Next), .sl .eMatch b.Fired, .sl .eTask b.Tasks, .sl .eTimer b.Timers, .sl .eUndo b.Undos, .lit (.int .i64 b.State), .lit (.int .i64 b.Now)]) := hb _ (List.mem_cons_of_mem _ (List.mem_cons_self))
  have hl_b_S_Items : b.S.Items.length ≤ 9223372036854775807 := Bd.len (U := UU) (τ := .eItem) (xs := b.S.Items) (hb_b _ (by simp))
  have hl_b_Fired : b.Fired.length ≤ 9223372036854775807 := Bd.len (U := UU) (τ := .eMatch) (xs := b.Fired) (hb_b _ (by simp))
  have hl_b_Tasks : b.Tasks.length ≤ 9223372036854775807 := Bd.len (U := UU) (τ := .eTask) (xs := b.Tasks) (hb_b _ (by simp))
  have hl_b_Timers : b.Timers.length ≤ 9223372036854775807 := Bd.len (U := UU) (τ := .eTimer) (xs := b.Timers) (hb_b _ (by simp))
  have hl_b_Undos : b.Undos.length ≤ 9223372036854775807 := Bd.len (U := UU) (τ := .eUndo) (xs := b.Undos) (hb_b _ (by simp))
  clear hp hb
  rw [vc_laws_eqInst a b]
  obtain ⟨aS, aFired, aTasks, aTimers, aUndos, aState, aNow⟩ := a
  obtain ⟨bS, bFired, bTasks, bTimers, bUndos, bState, bNow⟩ := b
  repeat' (apply if_cond <;> intro _)
  all_goals (first | apply Lf_t | apply Lf_f) <;> simp_all
def con_laws_FnExactEnded : Con UU where
  α := DInst
  md := [.ro]
  of := fun | [.agg [.sl .lItem a0, .lit (.int .i64 a1), .sl .lMatch a2, .sl .lTask a3, .sl .lTimer a4, .sl .lUndo a5, .lit (.int .i64 a6), .lit (.int .i64 a7)]] => some ⟨⟨a0, a1⟩, a2, a3, a4, a5, a6, a7⟩ | _ => none
  ds := fun aX => [.agg [.sl .lItem aX.S.Items, .lit (.int .i64 aX.S.Next), .sl .lMatch aX.Fired, .sl .lTask aX.Tasks, .sl .lTimer aX.Timers, .sl .lUndo aX.Undos, .lit (.int .i64 aX.State), .lit (.int .i64 aX.Now)]]
  pre := fun aX => []
  res := fun aX => ⟨[.one (.lit (.bool true))], true, []⟩
  law := by intro l x h; (try simp only at h); split at h <;> cases h; rfl
def ann_laws_FnExactEnded : con_laws_FnExactEnded.α → Nat → Option (Ann UU) := fun aX => annL []
def use_laws_FnExactEnded : List (FuncId × Con UU) := [(60, con_laws_szInst), (62, con_laws_toInst), (61, con_spec_Ended), (63, con_impl_Ended), (57, con_laws_eqInst)]
theorem vc_laws_FnExactEnded (aX : DInst) : goal EE use_laws_FnExactEnded Go.Proofs.Try.f11 con_laws_FnExactEnded ann_laws_FnExactEnded aX = (let x0 : Bool := decide (aX.State = (2 : Int) ∨ aX.State = (4 : Int) ∨ aX.State = (6 : Int));
(0 : Int) ≤ (1048576 : Int) ∧ bif decide (szr (1048576 : Int) (sizeInst aX) < (0 : Int)) then Lf [DV.one (Cell.lit (Value.bool true))] [DV.one (Cell.lit (Value.bool true))] else sizeInst aX ≤ (4294967296 : Nat) ∧ sizeInst aX ≤ (4294967296 : Nat) ∧ bif !x0 == x0 then Lf [DV.one (Cell.lit (Value.bool false))] [DV.one (Cell.lit (Value.bool true))] else sizeInst aX ≤ (4294967296 : Nat) ∧ bif !decide (aX = aX) then Lf [DV.one (Cell.lit (Value.bool false))] [DV.one (Cell.lit (Value.bool true))] else Lf [DV.one (Cell.lit (Value.bool true))] [DV.one (Cell.lit (Value.bool true))]) := by kernel_rfl
theorem ok_laws_FnExactEnded : Holds EE (11, con_laws_FnExactEnded) := by
  refine holds_of EE_ok Go.Proofs.Try.func11 con_laws_FnExactEnded (by kernel_rfl) rfl use_laws_FnExactEnded (all_cons ok_laws_szInst (all_cons ok_laws_toInst (all_cons ok_spec_Ended (all_cons ok_impl_Ended (all_cons ok_laws_eqInst all_nil))))) ann_laws_FnExactEnded (fun (aX : DInst) hp hb => ?_)
  have hb_aX : BdDV (U := UU) (.agg [.sl .lItem aX.S.Items, .lit (.int .i64 aX.S.Next), .sl .lMatch aX.Fired, .sl .lTask aX.Tasks, .sl .lTimer aX.Timers, .sl .lUndo aX.Undos, .lit (.int .i64 aX.State), .lit (.int .i64 aX.Now)]) := hb _ (List.mem_cons_self)
  have hl_aX_S_Items : aX.S.Items.length ≤ 9223372036854775807 := Bd.len (U := UU) (τ := .lItem) (xs := aX.S.Items) (hb_aX _ (by simp))
  have hl_aX_Fired : aX.Fired.length ≤ 9223372036854775807 := Bd.len (U := UU) (τ := .lMatch) (xs := aX.Fired) (hb_aX _ (by simp))
  have hl_aX_Tasks : aX.Tasks.length ≤ 9223372036854775807 := Bd.len (U := UU) (τ := .lTask) (xs := aX.Tasks) (hb_aX _ (by simp))
  have hl_aX_Timers : aX.Timers.length ≤ 9223372036854775807 := Bd.len (U := UU) (τ := .lTimer) (xs := aX.Timers) (hb_aX _ (by simp))
  have hl_aX_Undos : aX.Undos.length ≤ 9223372036854775807 := Bd.len (U := UU) (τ := .lUndo) (xs := aX.Undos) (hb_aX _ (by simp))
  clear hp hb
  rw [vc_laws_FnExactEnded aX]
  dsimp only
  refine ⟨by omega, if_cond (fun h => Lf_rfl _) (fun h => ?_)⟩
  obtain ⟨e0, h0⟩ := szr_pos h
  repeat' (first | exact Lf_rfl _ | refine And.intro (by omega) ?_ | refine if_cond (fun h => absurd h (by first | (simp; done) | (simp; omega))) (fun h => ?_) | fail)
end
end AM
