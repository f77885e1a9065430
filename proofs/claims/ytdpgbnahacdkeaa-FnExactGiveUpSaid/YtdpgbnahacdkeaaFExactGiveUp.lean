/- Functions of the program with their contracts: put together by gen/link.py for FnExactGiveUp. -/
import Derived.Test.YtdpgbnahacdkeaaAmLib
import Derived.Test.YtdpgbnahacdkeaaAmModels
namespace AM
open Go
set_option linter.unusedVariables false
set_option linter.unusedSimpArgs false
set_option maxRecDepth 100000
noncomputable section
def smallB (b : Int) : Bool := decide (97 ≤ b ∧ b ≤ 122)
def wordB (b : Int) : Bool := smallB b || decide (48 ≤ b ∧ b ≤ 57) || decide (b = 95)
def wordS (s : ByteArray) : Bool := (bs s).all (byteP wordB)
def nameOk (s : ByteArray) : Bool := decide (1 ≤ s.size ∧ s.size ≤ 12) && smallB (List.getD (bs s) 0 0).toNat && wordS s
def valOk (v : DVal) : Bool := bif decide (v.K = 1) then decide (-1000000000 ≤ v.N ∧ v.N ≤ 1000000000) && decide (v.S = noBytes) else bif decide (v.K = 2) then decide (v.N = 0) && decide (v.S.size ≤ 20) && wordS v.S else false
def factOk (f : DFact) : Bool := nameOk f.Kind && decide (f.Fields.length ≤ 5) && f.Fields.all valOk
def con_laws_markText : Con UU where
  α := Int
  md := [.ro]
  of := fun | [.one (.lit (.int .i64 a0))] => some a0 | _ => none
  ds := fun k => [.one (.lit (.int .i64 k))]
  pre := fun k => [k ≤ 4611686018427387903]
  res := fun k => ⟨[.one (.lit (.string (markText k)))], true, []⟩
  law := by intro l x h; (try simp only at h); split at h <;> cases h; rfl
def I_laws_markText_4 (k : Int) : Int × ByteArray × Unit → Prop := fun (j, out, _) => 0 ≤ j ∧ j ≤ k ∧ (∃ l d, out = ⟨l.toArray⟩ ∧ j.toNat ≤ d ∧ mtl d j.toNat l = mtl k.toNat k.toNat [] ∧ l.length ≤ k - j)
def μ_laws_markText_4 (k : Int) : Int × ByteArray × Unit → Nat := fun (j, out, _) => j.toNat
def ann_laws_markText : con_laws_markText.α → Nat → Option (Ann UU) := fun k => annL [(4, annOf [.slot 0 (0, 1024) (.lit (.int .i64)), .slot 3 (3, 1024) (.lit .str)] (fun _ => I_laws_markText_4 k) (μ_laws_markText_4 k))]
def use_laws_markText : List (FuncId × Con UU) := []
theorem vc_laws_markText (k : Int) : goal EE use_laws_markText Go.Proofs.Try.f89 con_laws_markText ann_laws_markText k = (bif decide (k ≤ (0 : Int)) then Lf [DV.one (Cell.lit (Value.string { data := #[(109 : UInt8), (48 : UInt8)] : ByteArray }))] [DV.one (Cell.lit (Value.string (markText k)))]
else
  I_laws_markText_4 k (k, { data := #[] : ByteArray }, PUnit.unit) ∧
    ∀ (y : Int × ByteArray × PUnit),
      let x0 : Nat := ByteArray.size y.2.1;
      let x1 : ByteArray := strOfNums (List.map (fun (x : Cd.T Cd.byte) => x) [IntKind.wrap IntKind.u8 (IntKind.wrap IntKind.i64 ((48 : Int) + Int.tmod y.1 (10 : Int)))]);
      I_laws_markText_4 k y → bif decide (y.1 > (0 : Int)) then (10 : Int) ≠ (0 : Int) ∧ ByteArray.size x1 + x0 ≤ (4611686018427387904 : Nat) ∧ (10 : Int) ≠ (0 : Int) ∧ I_laws_markText_4 k (IntKind.wrap IntKind.i64 (Int.tdiv y.1 (10 : Int)), x1 ++ y.2.1, PUnit.unit) ∧ μ_laws_markText_4 k (IntKind.wrap IntKind.i64 (Int.tdiv y.1 (10 : Int)), x1 ++ y.2.1, PUnit.unit) < μ_laws_markText_4 k y else ByteArray.size { data := #[(109 : UInt8)] : ByteArray } + x0 ≤ (4611686018427387904 : Nat) ∧ Lf [DV.one (Cell.lit (Value.string ({ data := #[(109 : UInt8)] : ByteArray } ++ y.2.1)))] [DV.one (Cell.lit (Value.string (markText k)))]) := by kernel_rfl
theorem ok_laws_markText : Holds EE (89, con_laws_markText) := by
  refine holds_of EE_ok Go.Proofs.Try.func89 con_laws_markText (by kernel_rfl) rfl use_laws_markText all_nil ann_laws_markText (fun (k : Int) hp hb => ?_)
  have hb_k : BdDV (U := UU) (.one (.lit (.int .i64 k))) := hb _ (List.mem_cons_self)
  have hl_k := Bd.i64 hb_k
  have hp0 : k ≤ 4611686018427387903 := hp _ (List.mem_cons_self)
  clear hp hb
  rw [vc_laws_markText k]
  dsimp only
  refine if_cond (fun h => Lf_s ?_) (fun h => ?_)
  · have h := of_decide_eq_true h; simp only [markText]; rw [if_pos h]
  have h0 := of_decide_eq_false h
  refine ⟨⟨by omega, by omega, [], k.toNat, rfl, Nat.le_refl _, rfl, by simp⟩, ?_⟩
  rintro ⟨j, out, ⟨⟩⟩ ⟨h1, h2, l, d, rfl, hd, hm, hl⟩
  simp only
  have hz : ∀ l : List UInt8, (ByteArray.mk l.toArray).size = l.length := fun l => by simp [ByteArray.size]
  refine if_cond (fun h => ?_) (fun h => ?_)
  · have h := of_decide_eq_true h
    have ht : Int.tmod j 10 = j % 10 := Int.tmod_eq_emod_of_nonneg h1
    have hq : Int.tdiv j 10 = j / 10 := Int.tdiv_eq_ediv_of_nonneg h1
    have hu : IntKind.wrap .u8 (48 + j % 10) = 48 + j % 10 := by simp only [IntKind.wrap]; simp [IntKind.bits, IntKind.signed]; omega
    rw [ht, hq, wrap_i64 (by omega) (by omega), wrap_i64 (by omega) (by omega), hu]
    have hs : ∀ l : List UInt8, strOfNums (List.map (fun (x : Int) => x) [48 + j % 10]) ++ (⟨l.toArray⟩ : ByteArray) = ⟨((UInt8.ofNat (48 + j.toNat % 10)) :: l).toArray⟩ := fun l => by
      have e : (48 + j % 10).toNat = 48 + j.toNat % 10 := by omega
      simp only [strOfNums, List.map_cons, List.map_nil, e]
      apply ByteArray.ext
      simp
    have hs1 : (strOfNums (List.map (fun (x : Int) => x) [48 + j % 10])).size = 1 := rfl
    refine ⟨by omega, by erw [hs1]; rw [hz]; omega, by omega, ⟨by omega, by omega, _, d - 1, hs l, by omega, ?_, by simp only [List.length_cons]; omega⟩, by simp only [μ_laws_markText_4]; omega⟩
    rw [← hm]
    obtain ⟨d, rfl⟩ : ∃ e, d = e + 1 := ⟨d - 1, by omega⟩
    have e : (j / 10).toNat = j.toNat / 10 := by omega
    rw [e]
    simp only [Nat.add_sub_cancel, mtl]
    rw [if_neg (by omega)]
  · have h := of_decide_eq_false h
    have hj : j.toNat = 0 := by omega
    rw [hj, mtl_zero] at hm
    refine ⟨by rw [hz]; simp [ByteArray.size]; omega, Lf_s ?_⟩
    simp only [markText]
    rw [if_neg h0, ← hm]
    apply ByteArray.ext
    simp
def con_laws_szVal : Con UU where
  α := DVal × Int
  md := [.ro, .ro]
  of := fun | [.agg [.lit (.int .i64 a0), .lit (.int .i64 a1), .lit (.string a2)], .one (.lit (.int .i64 a3))] => some (⟨a0, a1, a2⟩, a3) | _ => none
  ds := fun (a, left) => [.agg [.lit (.int .i64 a.K), .lit (.int .i64 a.N), .lit (.string a.S)], .one (.lit (.int .i64 left))]
  pre := fun (a, left) => [0 ≤ left]
  res := fun (a, left) => ⟨[.one (.lit (.int .i64 (szr left (sizeVal a))))], true, []⟩
  law := by intro l x h; (try simp only at h); split at h <;> cases h; rfl
def ann_laws_szVal : con_laws_szVal.α → Nat → Option (Ann UU) := fun (a, left) => annL []
def use_laws_szVal : List (FuncId × Con UU) := []
theorem vc_laws_szVal (a : DVal) (left : Int) : goal EE use_laws_szVal Go.Proofs.Try.f76 con_laws_szVal ann_laws_szVal (a, left) = (let x0 : Int := IntKind.wrap IntKind.i64 (left - (↑(ByteArray.size a.S) : Int));
bif decide (x0 < (0 : Int)) then Lf [DV.one (Cell.lit (Value.int IntKind.i64 (-1 : Int)))] [DV.one (Cell.lit (Value.int IntKind.i64 (szr left (sizeVal a))))] else Lf [DV.one (Cell.lit (Value.int IntKind.i64 x0))] [DV.one (Cell.lit (Value.int IntKind.i64 (szr left (sizeVal a))))]) := by kernel_rfl
theorem ok_laws_szVal : Holds EE (76, con_laws_szVal) := by
  refine holds_of EE_ok Go.Proofs.Try.func76 con_laws_szVal (by kernel_rfl) rfl use_laws_szVal all_nil ann_laws_szVal (fun x hp hb => ?_)
  obtain ⟨a, left⟩ := x
  have hb_a : BdDV (U := UU) (.agg [.lit (.int .i64 a.K), .lit (.int .i64 a.N), .lit (.string a.S)]) := hb _ (List.mem_cons_self)
  have hl_a_S : a.S.size ≤ 9223372036854775807 := Bd.str (hb_a _ (by simp))
  have hb_left : BdDV (U := UU) (.one (.lit (.int .i64 left))) := hb _ (List.mem_cons_of_mem _ (List.mem_cons_self))
  have hl_left := Bd.i64 hb_left
  have hp0 : 0 ≤ left := hp _ (List.mem_cons_self)
  clear hp hb
  rw [vc_laws_szVal a left]
  dsimp only
  rw [wrap_i64 (by omega) (by omega)]
  refine if_cond (fun h => Lf_i (szr_bad' ?_)) (fun h => ?_)
  · have h := of_decide_eq_true h; simp only [sizeVal]; omega
  have h0 := of_decide_eq_false h
  exact Lf_i (by rw [← szr_ok' (by simp only [sizeVal]; omega)]; simp only [sizeVal]; try omega)
def con_laws_toVal : Con UU where
  α := DVal
  md := [.ro]
  of := fun | [.agg [.lit (.int .i64 a0), .lit (.int .i64 a1), .lit (.string a2)]] => some ⟨a0, a1, a2⟩ | _ => none
  ds := fun a => [.agg [.lit (.int .i64 a.K), .lit (.int .i64 a.N), .lit (.string a.S)]]
  pre := fun a => [sizeVal a ≤ 4294967296]
  res := fun a => ⟨[.agg [.lit (.int .i64 a.K), .lit (.int .i64 a.N), .lit (.string a.S)]], true, []⟩
  law := by intro l x h; (try simp only at h); split at h <;> cases h; rfl
def ann_laws_toVal : con_laws_toVal.α → Nat → Option (Ann UU) := fun a => annL []
def use_laws_toVal : List (FuncId × Con UU) := []
theorem vc_laws_toVal (a : DVal) : goal EE use_laws_toVal Go.Proofs.Try.f80 con_laws_toVal ann_laws_toVal a = (Lf [DV.agg [Cell.lit (Value.int IntKind.i64 a.K), Cell.lit (Value.int IntKind.i64 a.N), Cell.lit (Value.string a.S)]] [DV.agg [Cell.lit (Value.int IntKind.i64 a.K), Cell.lit (Value.int IntKind.i64 a.N), Cell.lit (Value.string a.S)]]) := by kernel_rfl
theorem ok_laws_toVal : Holds EE (80, con_laws_toVal) := by
  refine holds_of EE_ok Go.Proofs.Try.func80 con_laws_toVal (by kernel_rfl) rfl use_laws_toVal all_nil ann_laws_toVal (fun (a : DVal) hp hb => ?_)
  have hb_a : BdDV (U := UU) (.agg [.lit (.int .i64 a.K), .lit (.int .i64 a.N), .lit (.string a.S)]) := hb _ (List.mem_cons_self)
  have hl_a_S : a.S.size ≤ 9223372036854775807 := Bd.str (hb_a _ (by simp))
  have hp0 : sizeVal a ≤ 4294967296 := hp _ (List.mem_cons_self)
  clear hp hb
  rw [vc_laws_toVal a]
  simp only [sizeVal] at hp0
  repeat' (first | exact Lf_rfl _ | (refine And.intro (by omega) ?_))
def con_laws_eqVal : Con UU where
  α := DVal × DVal
  md := [.ro, .ro]
  of := fun | [.agg [.lit (.int .i64 a0), .lit (.int .i64 a1), .lit (.string a2)], .agg [.lit (.int .i64 a3), .lit (.int .i64 a4), .lit (.string a5)]] => some (⟨a0, a1, a2⟩, ⟨a3, a4, a5⟩) | _ => none
  ds := fun (a, b) => [.agg [.lit (.int .i64 a.K), .lit (.int .i64 a.N), .lit (.string a.S)], .agg [.lit (.int .i64 b.K), .lit (.int .i64 b.N), .lit (.string b.S)]]
  pre := fun (a, b) => []
  res := fun (a, b) => ⟨[.one (.lit (.bool (decide (a = b))))], true, []⟩
  law := by intro l x h; (try simp only at h); split at h <;> cases h; rfl
def ann_laws_eqVal : con_laws_eqVal.α → Nat → Option (Ann UU) := fun (a, b) => annL []
def use_laws_eqVal : List (FuncId × Con UU) := []
theorem vc_laws_eqVal (a : DVal) (b : DVal) : goal EE use_laws_eqVal Go.Proofs.Try.f82 con_laws_eqVal ann_laws_eqVal (a, b) = (bif a.K != b.K then Lf [DV.one (Cell.lit (Value.bool false))] [DV.one (Cell.lit (Value.bool (decide (a = b))))] else bif a.N != b.N then Lf [DV.one (Cell.lit (Value.bool false))] [DV.one (Cell.lit (Value.bool (decide (a = b))))] else bif !ByteArray.toList a.S == ByteArray.toList b.S then Lf [DV.one (Cell.lit (Value.bool false))] [DV.one (Cell.lit (Value.bool (decide (a = b))))] else Lf [DV.one (Cell.lit (Value.bool true))] [DV.one (Cell.lit (Value.bool (decide (a = b))))]) := by kernel_rfl
theorem ok_laws_eqVal : Holds EE (82, con_laws_eqVal) := by
  refine holds_of EE_ok Go.Proofs.Try.func82 con_laws_eqVal (by kernel_rfl) rfl use_laws_eqVal all_nil ann_laws_eqVal (fun x hp hb => ?_)
  obtain ⟨a, b⟩ := x
  have hb_a : BdDV (U := UU) (.agg [.lit (.int .i64 a.K), .lit (.int .i64 a.N), .lit (.string a.S)]) := hb _ (List.mem_cons_self)
  have hl_a_S : a.S.size ≤ 9223372036854775807 := Bd.str (hb_a _ (by simp))
  have hb_b : BdDV (U := UU) (.agg [.lit (.int .i64 b.K), .lit (.int .i64 b.N), .lit (.string b.S)]) := hb _ (List.mem_cons_of_mem _ (List.mem_cons_self))
  have hl_b_S : b.S.size ≤ 9223372036854775807 := Bd.str (hb_b _ (by simp))
  clear hp hb
  rw [vc_laws_eqVal a b]
  obtain ⟨aK, aN, aS⟩ := a
  obtain ⟨bK, bN, bS⟩ := b
  repeat' (apply if_cond <;> intro _)
  all_goals (first | apply Lf_t | apply Lf_f) <;> simp_all
def con_laws_szValS : Con UU where
  α := (List DVal) × Int
  md := [.ro, .ro]
  of := fun | [.one (.sl .lVal a0), .one (.lit (.int .i64 a1))] => some (a0, a1) | _ => none
  ds := fun (a, left) => [.one (.sl .lVal a), .one (.lit (.int .i64 left))]
  pre := fun (a, left) => [0 ≤ left]
  res := fun (a, left) => ⟨[.one (.lit (.int .i64 (szr left (sizeValS a))))], true, []⟩
  law := by intro l x h; (try simp only at h); split at h <;> cases h; rfl
def I_laws_szValS_5 (a : (List DVal)) (left : Int) : Int × Int × Unit → Prop := fun (lf, i, _) => 0 ≤ lf ∧ 0 ≤ i ∧ i ≤ a.length ∧ szr lf ((a.drop i.toNat).map sizeVal).sum = szr left (sizeValS a)
def μ_laws_szValS_5 (a : (List DVal)) (left : Int) : Int × Int × Unit → Nat := fun (lf, i, _) => a.length - i.toNat
def ann_laws_szValS : con_laws_szValS.α → Nat → Option (Ann UU) := fun (a, left) => annL [(5, annOf [.slot 1 (1, 1024) (.lit (.int .i64)), .slot 5 (5, 1024) (.lit (.int .i64))] (fun _ => I_laws_szValS_5 a left) (μ_laws_szValS_5 a left))]
def use_laws_szValS : List (FuncId × Con UU) := [(76, con_laws_szVal)]
theorem vc_laws_szValS (a : (List DVal)) (left : Int) : goal EE use_laws_szValS Go.Proofs.Try.f114 con_laws_szValS ann_laws_szValS (a, left) = (let x0 : Int := IntKind.wrap IntKind.i64 (left - (↑(List.length a) : Int));
bif decide (x0 < (0 : Int)) then Lf [DV.one (Cell.lit (Value.int IntKind.i64 (-1 : Int)))] [DV.one (Cell.lit (Value.int IntKind.i64 (szr left (sizeValS a))))]
else
  I_laws_szValS_5 a left (x0, (0 : Int), PUnit.unit) ∧
    ∀ (y : Int × Int × PUnit),
      let x1 : Int := szr y.1 (sizeVal (List.getD a (Int.toNat y.2.1) zVal));
      I_laws_szValS_5 a left y → bif decide (y.2.1 < (↑(List.length a) : Int)) then (0 : Int) ≤ y.2.1 ∧ Int.toNat y.2.1 < List.length a ∧ (0 : Int) ≤ y.1 ∧ bif decide (x1 < (0 : Int)) then Lf [DV.one (Cell.lit (Value.int IntKind.i64 (-1 : Int)))] [DV.one (Cell.lit (Value.int IntKind.i64 (szr left (sizeValS a))))] else I_laws_szValS_5 a left (x1, IntKind.wrap IntKind.i64 (y.2.1 + (1 : Int)), PUnit.unit) ∧ μ_laws_szValS_5 a left (x1, IntKind.wrap IntKind.i64 (y.2.1 + (1 : Int)), PUnit.unit) < μ_laws_szValS_5 a left y else Lf [DV.one (Cell.lit (Value.int IntKind.i64 y.1))] [DV.one (Cell.lit (Value.int IntKind.i64 (szr left (sizeValS a))))]) := by kernel_rfl
theorem ok_laws_szValS : Holds EE (114, con_laws_szValS) := by
  refine holds_of EE_ok Go.Proofs.Try.func114 con_laws_szValS (by kernel_rfl) rfl use_laws_szValS (all_cons ok_laws_szVal all_nil) ann_laws_szValS (fun x hp hb => ?_)
  obtain ⟨a, left⟩ := x
  have hb_a : BdDV (U := UU) (.one (.sl .lVal a)) := hb _ (List.mem_cons_self)
  have hl_a : a.length ≤ 9223372036854775807 := Bd.len hb_a
  have hb_left : BdDV (U := UU) (.one (.lit (.int .i64 left))) := hb _ (List.mem_cons_of_mem _ (List.mem_cons_self))
  have hl_left := Bd.i64 hb_left
  have hp0 : 0 ≤ left := hp _ (List.mem_cons_self)
  clear hp hb
  rw [vc_laws_szValS a left]
  dsimp only
  rw [wrap_i64 (by omega) (by omega)]
  refine if_cond (fun h => Lf_i ?_) (fun h => ⟨?_, ?_⟩)
  · simp [szr, sizeValS] at *; omega
  · simp only [I_laws_szValS_5, sizeValS]; simp at h; have h' : 0 ≤ left - a.length := by omega
    exact ⟨h', by omega, by omega, szr_sub h'⟩
  rintro ⟨lf, i, ⟨⟩⟩ ⟨h0, h1, h2, hR⟩
  refine if_cond (fun hc => ?_) (fun hc => ?_)
  · have hc : i < a.length := by simpa using hc
    rw [drop_step a zVal h1 hc, List.map_cons, List.sum_cons] at hR
    simp only at *
    rw [wrap_i64 (by omega) (by omega)]
    generalize List.getD a i.toNat zVal = x at *
    refine ⟨by omega, by omega, by omega, if_cond (fun h => Lf_i ?_) (fun h => ⟨⟨?_, by omega, by omega, ?_⟩, ?_⟩)⟩
    · rw [← hR]; exact (szr_bad (of_decide_eq_true h)).symm
    · simp at h; omega
    · rw [← hR]; simp at h; exact szr_szr h
    · simp only [μ_laws_szValS_5]; omega
  · have hc : a.length ≤ i := by simpa using hc
    rw [drop_end a hc] at hR
    apply Lf_i; rw [← hR]; simp [szr, h0]
def con_laws_toValS : Con UU where
  α := (List DVal)
  md := [.ro]
  of := fun | [.one (.sl .lVal a0)] => some a0 | _ => none
  ds := fun a => [.one (.sl .lVal a)]
  pre := fun a => [sizeValS a ≤ 4294967296]
  res := fun a => ⟨[.one (.sl .eVal a)], true, []⟩
  law := by intro l x h; (try simp only at h); split at h <;> cases h; rfl
def I_laws_toValS_3 (a : (List DVal)) : List DVal × Int × Unit → Prop := fun (out, i, _) => 0 ≤ i ∧ i ≤ a.length ∧ out = a.take i.toNat ++ List.replicate (a.length - i.toNat) zVal
def μ_laws_toValS_3 (a : (List DVal)) : List DVal × Int × Unit → Nat := fun (out, i, _) => a.length - i.toNat
def ann_laws_toValS : con_laws_toValS.α → Nat → Option (Ann UU) := fun a => annL [(3, annOf [.slot 3 (3, 1024) (.own .eVal true), .slot 4 (4, 1024) (.lit (.int .i64))] (fun _ => I_laws_toValS_3 a) (μ_laws_toValS_3 a))]
def use_laws_toValS : List (FuncId × Con UU) := [(80, con_laws_toVal)]
theorem vc_laws_toValS (a : (List DVal)) : goal EE use_laws_toValS Go.Proofs.Try.f117 con_laws_toValS ann_laws_toValS a = (let x0 : Int := (↑(List.length a) : Int);
(0 : Int) ≤ x0 ∧
  x0 = x0 ∧
    x0 ≤ (4294967296 : Int) ∧
      I_laws_toValS_3 a (List.replicate (Int.toNat x0) zVal, (0 : Int), PUnit.unit) ∧
        ∀ (y : List DVal × Int × PUnit),
          let x1 : Nat := Int.toNat y.2.1;
          I_laws_toValS_3 a y → bif decide (y.2.1 < x0) then (0 : Int) ≤ y.2.1 ∧ x1 < List.length a ∧ sizeVal (List.getD a x1 zVal) ≤ (4294967296 : Nat) ∧ (0 : Int) ≤ y.2.1 ∧ x1 < List.length y.1 ∧ x1 < List.length y.1 ∧ I_laws_toValS_3 a (List.set y.1 x1 (List.getD a x1 zVal), IntKind.wrap IntKind.i64 (y.2.1 + (1 : Int)), PUnit.unit) ∧ μ_laws_toValS_3 a (List.set y.1 x1 (List.getD a x1 zVal), IntKind.wrap IntKind.i64 (y.2.1 + (1 : Int)), PUnit.unit) < μ_laws_toValS_3 a y else Lf [DV.one (Cell.sl Cd.eVal y.1)] [DV.one (Cell.sl Cd.eVal a)]) := by kernel_rfl
theorem ok_laws_toValS : Holds EE (117, con_laws_toValS) := by
  refine holds_of EE_ok Go.Proofs.Try.func117 con_laws_toValS (by kernel_rfl) rfl use_laws_toValS (all_cons ok_laws_toVal all_nil) ann_laws_toValS (fun (a : (List DVal)) hp hb => ?_)
  have hb_a : BdDV (U := UU) (.one (.sl .lVal a)) := hb _ (List.mem_cons_self)
  have hl_a : a.length ≤ 9223372036854775807 := Bd.len hb_a
  have hp0 : sizeValS a ≤ 4294967296 := hp _ (List.mem_cons_self)
  clear hp hb
  rw [vc_laws_toValS a]
  dsimp only
  have hlen : a.length ≤ 4294967296 := by simp only [sizeValS] at hp0; omega
  refine ⟨by omega, rfl, by omega, ?_, ?_⟩
  · simp [I_laws_toValS_3]
  rintro ⟨out, i, ⟨⟩⟩ ⟨h1, h2, rfl⟩
  simp only at *
  refine if_cond (fun hc => ?_) (fun hc => ?_)
  · have hc : i < a.length := by simpa using hc
    rw [wrap_i64 (by omega) (by omega), set_fill a zVal h1 hc]
    exact ⟨h1, by omega, by exact Nat.le_trans (sum_getD_le sizeVal a zVal h1 hc) (by simp only [sizeValS] at hp0; omega), h1, by simp; omega, by simp; omega, ⟨by omega, by omega, rfl⟩, by simp only [μ_laws_toValS_3]; omega⟩
  · have hc : a.length ≤ i := by simpa using hc
    have e : i.toNat = a.length := by omega
    rw [e]; simp; exact Lf_rfl _
def con_laws_eqValS : Con UU where
  α := (List DVal) × (List DVal)
  md := [.ro, .ro]
  of := fun | [.one (.sl .eVal a0), .one (.sl .eVal a1)] => some (a0, a1) | _ => none
  ds := fun (a, b) => [.one (.sl .eVal a), .one (.sl .eVal b)]
  pre := fun (a, b) => []
  res := fun (a, b) => ⟨[.one (.lit (.bool (decide (a = b))))], true, []⟩
  law := by intro l x h; (try simp only at h); split at h <;> cases h; rfl
def I_laws_eqValS_4 (a : (List DVal)) (b : (List DVal)) : Int × Unit → Prop := fun (i, _) => 0 ≤ i ∧ i ≤ a.length ∧ a.length = b.length ∧ (a.drop i.toNat = b.drop i.toNat ↔ a = b)
def μ_laws_eqValS_4 (a : (List DVal)) (b : (List DVal)) : Int × Unit → Nat := fun (i, _) => a.length - i.toNat
def ann_laws_eqValS : con_laws_eqValS.α → Nat → Option (Ann UU) := fun (a, b) => annL [(4, annOf [.slot 5 (5, 1024) (.lit (.int .i64))] (fun _ => I_laws_eqValS_4 a b) (μ_laws_eqValS_4 a b))]
def use_laws_eqValS : List (FuncId × Con UU) := [(82, con_laws_eqVal)]
theorem vc_laws_eqValS (a : (List DVal)) (b : (List DVal)) : goal EE use_laws_eqValS Go.Proofs.Try.f120 con_laws_eqValS ann_laws_eqValS (a, b) = (bif (↑(List.length a) : Int) != (↑(List.length b) : Int) then Lf [DV.one (Cell.lit (Value.bool false))] [DV.one (Cell.lit (Value.bool (decide (a = b))))] else I_laws_eqValS_4 a b ((0 : Int), PUnit.unit) ∧ ∀ (y : Int × PUnit), I_laws_eqValS_4 a b y → bif decide (y.1 < (↑(List.length a) : Int)) then (0 : Int) ≤ y.1 ∧ Int.toNat y.1 < List.length a ∧ (0 : Int) ≤ y.1 ∧ Int.toNat y.1 < List.length b ∧ bif !decide (List.getD a (Int.toNat y.1) zVal = List.getD b (Int.toNat y.1) zVal) then Lf [DV.one (Cell.lit (Value.bool false))] [DV.one (Cell.lit (Value.bool (decide (a = b))))] else I_laws_eqValS_4 a b (IntKind.wrap IntKind.i64 (y.1 + (1 : Int)), PUnit.unit) ∧ μ_laws_eqValS_4 a b (IntKind.wrap IntKind.i64 (y.1 + (1 : Int)), PUnit.unit) < μ_laws_eqValS_4 a b y else Lf [DV.one (Cell.lit (Value.bool true))] [DV.one (Cell.lit (Value.bool (decide (a = b))))]) := by kernel_rfl
theorem ok_laws_eqValS : Holds EE (120, con_laws_eqValS) := by
  refine holds_of EE_ok Go.Proofs.Try.func120 con_laws_eqValS (by kernel_rfl) rfl use_laws_eqValS (all_cons ok_laws_eqVal all_nil) ann_laws_eqValS (fun x hp hb => ?_)
  obtain ⟨a, b⟩ := x
  have hb_a : BdDV (U := UU) (.one (.sl .eVal a)) := hb _ (List.mem_cons_self)
  have hl_a : a.length ≤ 9223372036854775807 := Bd.len hb_a
  have hb_b : BdDV (U := UU) (.one (.sl .eVal b)) := hb _ (List.mem_cons_of_mem _ (List.mem_cons_self))
  have hl_b : b.length ≤ 9223372036854775807 := Bd.len hb_b
  clear hp hb
  rw [vc_laws_eqValS a b]
  refine if_cond (fun h => Lf_f ?_) (fun h => ⟨?_, ?_⟩)
  · rintro rfl; simp at h
  · simp [I_laws_eqValS_4] at *; omega
  rintro ⟨i, ⟨⟩⟩ ⟨h1, h2, h3, hR⟩
  simp only at *
  refine if_cond (fun hc => ?_) (fun hc => ?_)
  · have hc : i < a.length := by simpa using hc
    rw [drop_step a zVal h1 hc, drop_step b zVal h1 (by omega)] at hR
    rw [wrap_i64 (by omega) (by omega)]
    refine ⟨by omega, by omega, by omega, by omega, if_cond (fun h => Lf_f ?_) (fun h => ⟨⟨by omega, by omega, h3, ?_⟩, ?_⟩)⟩
    · rw [← hR]; simp at h; simp [h]
    · rw [← hR]; simp at h; simp [h]
    · simp only [μ_laws_eqValS_4]; omega
  · have hc : a.length ≤ i := by simpa using hc
    rw [drop_end a hc, drop_end b (by omega)] at hR
    exact Lf_t (hR.1 rfl)
def con_laws_markValS : Con UU where
  α := (List DVal) × Int
  md := [.wr, .ro]
  of := fun | [.one (.sl .eVal a0), .one (.lit (.int .i64 a1))] => some (a0, a1) | _ => none
  ds := fun (a, k) => [.one (.sl .eVal a), .one (.lit (.int .i64 k))]
  pre := fun (a, k) => [0 ≤ k, k + cntValS a ≤ 4611686018427387904]
  res := fun (a, k) => ⟨[.one (.lit (.int .i64 (k + cntValS a)))], true, [.one (.sl .eVal (markValS a k))]⟩
  law := by intro l x h; (try simp only at h); split at h <;> cases h; rfl
def I_laws_markValS_2 (a : (List DVal)) (k : Int) : List DVal × Int × Int × Unit → Prop := fun (row, kk, i, _) => 0 ≤ i ∧ i ≤ a.length ∧ row = (mkS markVal cntVal a k).take i.toNat ++ a.drop i.toNat ∧ kk = k + ctS cntVal (a.take i.toNat)
def μ_laws_markValS_2 (a : (List DVal)) (k : Int) : List DVal × Int × Int × Unit → Nat := fun (row, kk, i, _) => a.length - i.toNat
def ann_laws_markValS : con_laws_markValS.α → Nat → Option (Ann UU) := fun (a, k) => annL [(2, annOf [.slot 0 (2000000, 0) (.own .eVal true), .slot 1 (1, 1024) (.lit (.int .i64)), .slot 5 (5, 1024) (.lit (.int .i64))] (fun _ => I_laws_markValS_2 a k) (μ_laws_markValS_2 a k))]
def use_laws_markValS : List (FuncId × Con UU) := [(89, con_laws_markText)]
theorem vc_laws_markValS (a : (List DVal)) (k : Int) : goal EE use_laws_markValS Go.Proofs.Try.f90 con_laws_markValS ann_laws_markValS (a, k) = (I_laws_markValS_2 a k (a, k, (0 : Int), PUnit.unit) ∧
  ∀ (y : List DVal × Int × Int × PUnit),
    let x0 : Nat := Int.toNat y.2.2.1;
    let x1 : Int := IntKind.wrap IntKind.i64 (IntKind.wrap IntKind.i64 (y.2.1 + (1 : Int)) + (1 : Int));
    let x2 : List DVal := List.modify (List.modify y.1 x0 fun (x : DVal) => { K := y.2.1, N := x.N, S := x.S : DVal }) x0 fun (x : DVal) => { K := x.K, N := IntKind.wrap IntKind.i64 (y.2.1 + (1 : Int)), S := x.S : DVal };
    I_laws_markValS_2 a k y → bif decide (y.2.2.1 < (↑(List.length y.1) : Int)) then (0 : Int) ≤ y.2.2.1 ∧ x0 < List.length y.1 ∧ x0 < List.length y.1 ∧ (0 : Int) ≤ y.2.2.1 ∧ x0 < List.length (List.modify y.1 x0 fun (x : DVal) => { K := y.2.1, N := x.N, S := x.S : DVal }) ∧ x0 < List.length (List.modify y.1 x0 fun (x : DVal) => { K := y.2.1, N := x.N, S := x.S : DVal }) ∧ x1 ≤ (4611686018427387903 : Int) ∧ (0 : Int) ≤ y.2.2.1 ∧ x0 < List.length x2 ∧ x0 < List.length x2 ∧ I_laws_markValS_2 a k (List.modify x2 x0 fun (x : DVal) => { K := x.K, N := x.N, S := markText x1 : DVal }, IntKind.wrap IntKind.i64 (x1 + (1 : Int)), IntKind.wrap IntKind.i64 (y.2.2.1 + (1 : Int)), PUnit.unit) ∧ μ_laws_markValS_2 a k (List.modify x2 x0 fun (x : DVal) => { K := x.K, N := x.N, S := markText x1 : DVal }, IntKind.wrap IntKind.i64 (x1 + (1 : Int)), IntKind.wrap IntKind.i64 (y.2.2.1 + (1 : Int)), PUnit.unit) < μ_laws_markValS_2 a k y else asD [DV.one (Cell.lit (Value.int IntKind.i64 y.2.1))] = asD [DV.one (Cell.lit (Value.int IntKind.i64 (k + (↑(cntValS a) : Int))))] ∧ asD [DV.one (Cell.sl Cd.eVal y.1)] = asD [DV.one (Cell.sl Cd.eVal (markValS a k))]) := by kernel_rfl
theorem ok_laws_markValS : Holds EE (90, con_laws_markValS) := by
  refine holds_of EE_ok Go.Proofs.Try.func90 con_laws_markValS (by kernel_rfl) rfl use_laws_markValS (all_cons ok_laws_markText all_nil) ann_laws_markValS (fun x hp hb => ?_)
  obtain ⟨a, k⟩ := x
  have hb_a : BdDV (U := UU) (.one (.sl .eVal a)) := hb _ (List.mem_cons_self)
  have hl_a : a.length ≤ 9223372036854775807 := Bd.len hb_a
  have hb_k : BdDV (U := UU) (.one (.lit (.int .i64 k))) := hb _ (List.mem_cons_of_mem _ (List.mem_cons_self))
  have hl_k := Bd.i64 hb_k
  have hp0 : 0 ≤ k := hp _ (List.mem_cons_self)
  have hp1 : k + cntValS a ≤ 4611686018427387904 := hp _ (List.mem_cons_of_mem _ (List.mem_cons_self))
  clear hp hb
  rw [vc_laws_markValS a k]
  dsimp only
  refine ⟨⟨by omega, by omega, by simp, by simp [ctS]⟩, ?_⟩
  rintro ⟨row, kk, i, ⟨⟩⟩ ⟨h1, h2, rfl, rfl⟩
  simp only
  have hl := mk_rl markVal cntVal a k h1 h2
  refine if_cond (fun hc => ?_) (fun hc => ?_)
  · have hc : i < a.length := by have hc := of_decide_eq_true hc; omega
    have hct := ctS_take cntVal a zVal h1 hc
    have hle := ctS_take_le cntVal a (i + 1).toNat
    have hg := mk_getD _ a zVal (mk_tl markVal cntVal a k h1 h2) h1 hc
    have hM := fun F hF => mkS_mod markVal cntVal a zVal k (i := i) F h1 hc hF
    have hq : (cntValS a : Int) = ctS cntVal a := rfl
    generalize List.getD a i.toNat zVal = x at *
    generalize hkk : k + (ctS cntVal (a.take i.toNat) : Int) = kk at *
    generalize List.take i.toNat (mkS markVal cntVal a k) ++ List.drop i.toNat a = R at *
    simp only [cntVal] at hct
    simp (disch := first | omega | (simp only [List.length_modify]; omega)) only [List.length_modify, wrap_i64, getD_modify, modify_modify, hg, hl]
    repeat' (first | refine And.intro (by omega) ?_ | fail)
    exact ⟨⟨by omega, by omega, hM _ rfl, by omega⟩, by simp only [μ_laws_markValS_2]; omega⟩
  · have hc : a.length ≤ i := by have hc := of_decide_eq_false hc; omega
    rw [mk_done markVal cntVal a k hc, ct_done cntVal a hc]
    exact ⟨rfl, rfl⟩
def con_laws_heldValS : Con UU where
  α := (List DVal) × Int
  md := [.ro, .ro]
  of := fun | [.one (.sl .eVal a0), .one (.lit (.int .i64 a1))] => some (a0, a1) | _ => none
  ds := fun (a, k) => [.one (.sl .eVal a), .one (.lit (.int .i64 k))]
  pre := fun (a, k) => [0 ≤ k, k + cntValS a ≤ 4611686018427387904]
  res := fun (a, k) => ⟨[.one (.lit (.int .i64 (if markValS a k = a then k + cntValS a else -1)))], true, []⟩
  law := by intro l x h; (try simp only at h); split at h <;> cases h; rfl
def I_laws_heldValS_2 (a : (List DVal)) (k : Int) : Int × Int × Unit → Prop := fun (kk, i, _) => 0 ≤ i ∧ i ≤ a.length ∧ kk = k + ctS cntVal (a.take i.toNat) ∧ (mkS markVal cntVal (a.drop i.toNat) kk = a.drop i.toNat ↔ mkS markVal cntVal a k = a)
def μ_laws_heldValS_2 (a : (List DVal)) (k : Int) : Int × Int × Unit → Nat := fun (kk, i, _) => a.length - i.toNat
def ann_laws_heldValS : con_laws_heldValS.α → Nat → Option (Ann UU) := fun (a, k) => annL [(2, annOf [.slot 1 (1, 1024) (.lit (.int .i64)), .slot 5 (5, 1024) (.lit (.int .i64))] (fun _ => I_laws_heldValS_2 a k) (μ_laws_heldValS_2 a k))]
def use_laws_heldValS : List (FuncId × Con UU) := [(89, con_laws_markText)]
theorem vc_laws_heldValS (a : (List DVal)) (k : Int) : goal EE use_laws_heldValS Go.Proofs.Try.f91 con_laws_heldValS ann_laws_heldValS (a, k) = (I_laws_heldValS_2 a k (k, (0 : Int), PUnit.unit) ∧
  ∀ (y : Int × Int × PUnit),
    let x0 : DVal := List.getD a (Int.toNat y.2.1) zVal;
    let x1 : Int := IntKind.wrap IntKind.i64 (IntKind.wrap IntKind.i64 (y.1 + (1 : Int)) + (1 : Int));
    I_laws_heldValS_2 a k y → bif decide (y.2.1 < (↑(List.length a) : Int)) then (0 : Int) ≤ y.2.1 ∧ Int.toNat y.2.1 < List.length a ∧ bif x0.K != y.1 then Lf [DV.one (Cell.lit (Value.int IntKind.i64 (-1 : Int)))] [DV.one (Cell.lit (Value.int IntKind.i64 (if markValS a k = a then k + (↑(cntValS a) : Int) else (-1 : Int))))] else (0 : Int) ≤ y.2.1 ∧ Int.toNat y.2.1 < List.length a ∧ bif x0.N != IntKind.wrap IntKind.i64 (y.1 + (1 : Int)) then Lf [DV.one (Cell.lit (Value.int IntKind.i64 (-1 : Int)))] [DV.one (Cell.lit (Value.int IntKind.i64 (if markValS a k = a then k + (↑(cntValS a) : Int) else (-1 : Int))))] else (0 : Int) ≤ y.2.1 ∧ Int.toNat y.2.1 < List.length a ∧ x1 ≤ (4611686018427387903 : Int) ∧ bif !ByteArray.toList x0.S == ByteArray.toList (markText x1) then Lf [DV.one (Cell.lit (Value.int IntKind.i64 (-1 : Int)))] [DV.one (Cell.lit (Value.int IntKind.i64 (if markValS a k = a then k + (↑(cntValS a) : Int) else (-1 : Int))))] else I_laws_heldValS_2 a k (IntKind.wrap IntKind.i64 (x1 + (1 : Int)), IntKind.wrap IntKind.i64 (y.2.1 + (1 : Int)), PUnit.unit) ∧ μ_laws_heldValS_2 a k (IntKind.wrap IntKind.i64 (x1 + (1 : Int)), IntKind.wrap IntKind.i64 (y.2.1 + (1 : Int)), PUnit.unit) < μ_laws_heldValS_2 a k y else Lf [DV.one (Cell.lit (Value.int IntKind.i64 y.1))] [DV.one (Cell.lit (Value.int IntKind.i64 (if markValS a k = a then k + (↑(cntValS a) : Int) else (-1 : Int))))]) := by kernel_rfl
theorem ok_laws_heldValS : Holds EE (91, con_laws_heldValS) := by
  refine holds_of EE_ok Go.Proofs.Try.func91 con_laws_heldValS (by kernel_rfl) rfl use_laws_heldValS (all_cons ok_laws_markText all_nil) ann_laws_heldValS (fun x hp hb => ?_)
  obtain ⟨a, k⟩ := x
  have hb_a : BdDV (U := UU) (.one (.sl .eVal a)) := hb _ (List.mem_cons_self)
  have hl_a : a.length ≤ 9223372036854775807 := Bd.len hb_a
  have hb_k : BdDV (U := UU) (.one (.lit (.int .i64 k))) := hb _ (List.mem_cons_of_mem _ (List.mem_cons_self))
  have hl_k := Bd.i64 hb_k
  have hp0 : 0 ≤ k := hp _ (List.mem_cons_self)
  have hp1 : k + cntValS a ≤ 4611686018427387904 := hp _ (List.mem_cons_of_mem _ (List.mem_cons_self))
  clear hp hb
  rw [vc_laws_heldValS a k]
  dsimp only
  refine ⟨⟨by omega, by omega, by simp [ctS], by simp⟩, ?_⟩
  rintro ⟨kk, i, ⟨⟩⟩ ⟨h1, h2, hkk, hR⟩
  simp only
  simp only [markValS]
  refine if_cond (fun hc => ?_) (fun hc => ?_)
  · have hc : i < a.length := by have hc := of_decide_eq_true hc; omega
    have hct := ctS_take cntVal a zVal h1 hc
    have hle := ctS_take_le cntVal a (i + 1).toNat
    have hq : (cntValS a : Int) = ctS cntVal a := rfl
    rw [drop_step a zVal h1 hc] at hR
    generalize List.getD a i.toNat zVal = x at *
    simp only [mkS, List.cons.injEq] at hR
    have e : kk + (cntVal x : Int) = kk + 1 + 1 + 1 := by simp only [cntVal]; omega
    rw [e] at hR
    simp only [markVal, cntVal] at hR hct
    simp (disch := omega) only [wrap_i64, bne_int, toList_beq]
    obtain ⟨x_K, x_N, x_S⟩ := x
    simp only [DVal.mk.injEq] at *
    repeat' (first | refine And.intro (by omega) ?_ | fail)
    refine if_cond (fun h => Lf_no (fun hh => ?_)) (fun h => ?_)
    · have hh := hR.2 hh; simp_all
    have h : x_K = kk := by simpa using h
    subst x_K
    repeat' (first | refine And.intro (by omega) ?_ | fail)
    refine if_cond (fun h => Lf_no (fun hh => ?_)) (fun h => ?_)
    · have hh := hR.2 hh; simp_all
    have h : x_N = kk + 1 := by simpa using h
    subst x_N
    repeat' (first | refine And.intro (by omega) ?_ | fail)
    refine if_cond (fun h => Lf_no (fun hh => ?_)) (fun h => ?_)
    · have hh := hR.2 hh; simp_all
    have h : x_S = markText (kk + 1 + 1) := by simpa using h
    subst x_S
    exact ⟨⟨by omega, by omega, by omega, by simpa using hR⟩, by simp only [μ_laws_heldValS_2]; omega⟩
  · have hc : a.length ≤ i := by have hc := of_decide_eq_false hc; omega
    rw [drop_end a hc] at hR
    exact Lf_yes (hR.1 rfl) (by rw [hkk, ct_done _ _ hc]; rfl)
def con_laws_szFact : Con UU where
  α := DFact × Int
  md := [.ro, .ro]
  of := fun | [.agg [.lit (.string a0), .sl .lVal a1], .one (.lit (.int .i64 a2))] => some (⟨a0, a1⟩, a2) | _ => none
  ds := fun (a, left) => [.agg [.lit (.string a.Kind), .sl .lVal a.Fields], .one (.lit (.int .i64 left))]
  pre := fun (a, left) => [0 ≤ left]
  res := fun (a, left) => ⟨[.one (.lit (.int .i64 (szr left (sizeFact a))))], true, []⟩
  law := by intro l x h; (try simp only at h); split at h <;> cases h; rfl
def ann_laws_szFact : con_laws_szFact.α → Nat → Option (Ann UU) := fun (a, left) => annL []
def use_laws_szFact : List (FuncId × Con UU) := [(114, con_laws_szValS)]
theorem vc_laws_szFact (a : DFact) (left : Int) : goal EE use_laws_szFact Go.Proofs.Try.f49 con_laws_szFact ann_laws_szFact (a, left) = (let x0 : Int := IntKind.wrap IntKind.i64 (left - (↑(ByteArray.size a.Kind) : Int));
bif decide (x0 < (0 : Int)) then Lf [DV.one (Cell.lit (Value.int IntKind.i64 (-1 : Int)))] [DV.one (Cell.lit (Value.int IntKind.i64 (szr left (sizeFact a))))] else (0 : Int) ≤ x0 ∧ bif decide (szr x0 (sizeValS a.Fields) < (0 : Int)) then Lf [DV.one (Cell.lit (Value.int IntKind.i64 (-1 : Int)))] [DV.one (Cell.lit (Value.int IntKind.i64 (szr left (sizeFact a))))] else Lf [DV.one (Cell.lit (Value.int IntKind.i64 (szr x0 (sizeValS a.Fields))))] [DV.one (Cell.lit (Value.int IntKind.i64 (szr left (sizeFact a))))]) := by kernel_rfl
theorem ok_laws_szFact : Holds EE (49, con_laws_szFact) := by
  refine holds_of EE_ok Go.Proofs.Try.func49 con_laws_szFact (by kernel_rfl) rfl use_laws_szFact (all_cons ok_laws_szValS all_nil) ann_laws_szFact (fun x hp hb => ?_)
  obtain ⟨a, left⟩ := x
  have hb_a : BdDV (U := UU) (.agg [.lit (.string a.Kind), .sl .lVal a.Fields]) := hb _ (List.mem_cons_self)
  have hl_a_Kind : a.Kind.size ≤ 9223372036854775807 := Bd.str (hb_a _ (by simp))
  have hl_a_Fields : a.Fields.length ≤ 9223372036854775807 := Bd.len (U := UU) (τ := .lVal) (xs := a.Fields) (hb_a _ (by simp))
  have hb_left : BdDV (U := UU) (.one (.lit (.int .i64 left))) := hb _ (List.mem_cons_of_mem _ (List.mem_cons_self))
  have hl_left := Bd.i64 hb_left
  have hp0 : 0 ≤ left := hp _ (List.mem_cons_self)
  clear hp hb
  rw [vc_laws_szFact a left]
  dsimp only
  rw [wrap_i64 (by omega) (by omega)]
  refine if_cond (fun h => Lf_i (szr_bad' ?_)) (fun h => ?_)
  · have h := of_decide_eq_true h; simp only [sizeFact]; omega
  have h0 := of_decide_eq_false h
  refine ⟨by omega, if_cond (fun h => Lf_i (szr_bad' ?_)) (fun h => ?_)⟩
  · have h := szr_neg h; simp only [sizeFact]; omega
  obtain ⟨e1, h1⟩ := szr_pos h
  rw [e1]
  exact Lf_i (by rw [← szr_ok' (by simp only [sizeFact]; omega)]; simp only [sizeFact]; try omega)
def con_laws_toFact : Con UU where
  α := DFact
  md := [.ro]
  of := fun | [.agg [.lit (.string a0), .sl .lVal a1]] => some ⟨a0, a1⟩ | _ => none
  ds := fun a => [.agg [.lit (.string a.Kind), .sl .lVal a.Fields]]
  pre := fun a => [sizeFact a ≤ 4294967296]
  res := fun a => ⟨[.agg [.lit (.string a.Kind), .sl .eVal a.Fields]], true, []⟩
  law := by intro l x h; (try simp only at h); split at h <;> cases h; rfl
def ann_laws_toFact : con_laws_toFact.α → Nat → Option (Ann UU) := fun a => annL []
def use_laws_toFact : List (FuncId × Con UU) := [(117, con_laws_toValS)]
theorem vc_laws_toFact (a : DFact) : goal EE use_laws_toFact Go.Proofs.Try.f51 con_laws_toFact ann_laws_toFact a = (sizeValS a.Fields ≤ (4294967296 : Nat) ∧ Lf [DV.agg [Cell.lit (Value.string a.Kind), Cell.sl Cd.eVal a.Fields]] [DV.agg [Cell.lit (Value.string a.Kind), Cell.sl Cd.eVal a.Fields]]) := by kernel_rfl
theorem ok_laws_toFact : Holds EE (51, con_laws_toFact) := by
  refine holds_of EE_ok Go.Proofs.Try.func51 con_laws_toFact (by kernel_rfl) rfl use_laws_toFact (all_cons ok_laws_toValS all_nil) ann_laws_toFact (fun (a : DFact) hp hb => ?_)
  have hb_a : BdDV (U := UU) (.agg [.lit (.string a.Kind), .sl .lVal a.Fields]) := hb _ (List.mem_cons_self)
  have hl_a_Kind : a.Kind.size ≤ 9223372036854775807 := Bd.str (hb_a _ (by simp))
  have hl_a_Fields : a.Fields.length ≤ 9223372036854775807 := Bd.len (U := UU) (τ := .lVal) (xs := a.Fields) (hb_a _ (by simp))
  have hp0 : sizeFact a ≤ 4294967296 := hp _ (List.mem_cons_self)
  clear hp hb
  rw [vc_laws_toFact a]
  simp only [sizeFact] at hp0
  repeat' (first | exact Lf_rfl _ | (refine And.intro (by omega) ?_))
def con_laws_eqFact : Con UU where
  α := DFact × DFact
  md := [.ro, .ro]
  of := fun | [.agg [.lit (.string a0), .sl .eVal a1], .agg [.lit (.string a2), .sl .eVal a3]] => some (⟨a0, a1⟩, ⟨a2, a3⟩) | _ => none
  ds := fun (a, b) => [.agg [.lit (.string a.Kind), .sl .eVal a.Fields], .agg [.lit (.string b.Kind), .sl .eVal b.Fields]]
  pre := fun (a, b) => []
  res := fun (a, b) => ⟨[.one (.lit (.bool (decide (a = b))))], true, []⟩
  law := by intro l x h; (try simp only at h); split at h <;> cases h; rfl
def ann_laws_eqFact : con_laws_eqFact.α → Nat → Option (Ann UU) := fun (a, b) => annL []
def use_laws_eqFact : List (FuncId × Con UU) := [(120, con_laws_eqValS)]
theorem vc_laws_eqFact (a : DFact) (b : DFact) : goal EE use_laws_eqFact Go.Proofs.Try.f53 con_laws_eqFact ann_laws_eqFact (a, b) = (bif !ByteArray.toList a.Kind == ByteArray.toList b.Kind then Lf [DV.one (Cell.lit (Value.bool false))] [DV.one (Cell.lit (Value.bool (decide (a = b))))] else bif !decide (a.Fields = b.Fields) then Lf [DV.one (Cell.lit (Value.bool false))] [DV.one (Cell.lit (Value.bool (decide (a = b))))] else Lf [DV.one (Cell.lit (Value.bool true))] [DV.one (Cell.lit (Value.bool (decide (a = b))))]) := by kernel_rfl
theorem ok_laws_eqFact : Holds EE (53, con_laws_eqFact) := by
  refine holds_of EE_ok Go.Proofs.Try.func53 con_laws_eqFact (by kernel_rfl) rfl use_laws_eqFact (all_cons ok_laws_eqValS all_nil) ann_laws_eqFact (fun x hp hb => ?_)
  obtain ⟨a, b⟩ := x
  have hb_a : BdDV (U := UU) (.agg [.lit (.string a.Kind), .sl .eVal a.Fields]) := hb _ (List.mem_cons_self)
  have hl_a_Kind : a.Kind.size ≤ 9223372036854775807 := Bd.str (hb_a _ (by simp))
  have hl_a_Fields : a.Fields.length ≤ 9223372036854775807 := Bd.len (U := UU) (τ := .eVal) (xs := a.Fields) (hb_a _ (by simp))
  have hb_b : BdDV (U := UU) (.agg [.lit (.string b.Kind), .sl .eVal b.Fields]) := hb _ (List.mem_cons_of_mem _ (List.mem_cons_self))
  have hl_b_Kind : b.Kind.size ≤ 9223372036854775807 := Bd.str (hb_b _ (by simp))
  have hl_b_Fields : b.Fields.length ≤ 9223372036854775807 := Bd.len (U := UU) (τ := .eVal) (xs := b.Fields) (hb_b _ (by simp))
  clear hp hb
  rw [vc_laws_eqFact a b]
  obtain ⟨aKind, aFields⟩ := a
  obtain ⟨bKind, bFields⟩ := b
  repeat' (apply if_cond <;> intro _)
  all_goals (first | apply Lf_t | apply Lf_f) <;> simp_all
def con_laws_szTask : Con UU where
  α := DTask × Int
  md := [.ro, .ro]
  of := fun | [.agg [.lit (.string a0), .sl .lVal a1, .lit (.string a2), .lit (.int .i64 a3), .lit (.int .i64 a4), .lit (.int .i64 a5), .lit (.int .i64 a6), .lit (.int .i64 a7), .lit (.string a8)], .one (.lit (.int .i64 a9))] => some (⟨⟨a0, a1⟩, a2, a3, a4, a5, ⟨a6, a7, a8⟩⟩, a9) | _ => none
  ds := fun (a, left) => [.agg [.lit (.string a.F.Kind), .sl .lVal a.F.Fields, .lit (.string a.Undo), .lit (.int .i64 a.State), .lit (.int .i64 a.Tries), .lit (.int .i64 a.Due), .lit (.int .i64 a.V.K), .lit (.int .i64 a.V.N), .lit (.string a.V.S)], .one (.lit (.int .i64 left))]
  pre := fun (a, left) => [0 ≤ left]
  res := fun (a, left) => ⟨[.one (.lit (.int .i64 (szr left (sizeTask a))))], true, []⟩
  law := by intro l x h; (try simp only at h); split at h <;> cases h; rfl
def ann_laws_szTask : con_laws_szTask.α → Nat → Option (Ann UU) := fun (a, left) => annL []
def use_laws_szTask : List (FuncId × Con UU) := [(49, con_laws_szFact), (76, con_laws_szVal)]
theorem vc_laws_szTask (a : DTask) (left : Int) : goal EE use_laws_szTask Go.Proofs.Try.f83 con_laws_szTask ann_laws_szTask (a, left) = (let x0 : Int := IntKind.wrap IntKind.i64 (szr left (sizeFact a.F) - (↑(ByteArray.size a.Undo) : Int));
(0 : Int) ≤ left ∧ bif decide (szr left (sizeFact a.F) < (0 : Int)) then Lf [DV.one (Cell.lit (Value.int IntKind.i64 (-1 : Int)))] [DV.one (Cell.lit (Value.int IntKind.i64 (szr left (sizeTask a))))] else bif decide (x0 < (0 : Int)) then Lf [DV.one (Cell.lit (Value.int IntKind.i64 (-1 : Int)))] [DV.one (Cell.lit (Value.int IntKind.i64 (szr left (sizeTask a))))] else (0 : Int) ≤ x0 ∧ bif decide (szr x0 (sizeVal a.V) < (0 : Int)) then Lf [DV.one (Cell.lit (Value.int IntKind.i64 (-1 : Int)))] [DV.one (Cell.lit (Value.int IntKind.i64 (szr left (sizeTask a))))] else Lf [DV.one (Cell.lit (Value.int IntKind.i64 (szr x0 (sizeVal a.V))))] [DV.one (Cell.lit (Value.int IntKind.i64 (szr left (sizeTask a))))]) := by kernel_rfl
theorem ok_laws_szTask : Holds EE (83, con_laws_szTask) := by
  refine holds_of EE_ok Go.Proofs.Try.func83 con_laws_szTask (by kernel_rfl) rfl use_laws_szTask (all_cons ok_laws_szFact (all_cons ok_laws_szVal all_nil)) ann_laws_szTask (fun x hp hb => ?_)
  obtain ⟨a, left⟩ := x
  have hb_a : BdDV (U := UU) (.agg [.lit (.string a.F.Kind), .sl .lVal a.F.Fields, .lit (.string a.Undo), .lit (.int .i64 a.State), .lit (.int .i64 a.Tries), .lit (.int .i64 a.Due), .lit (.int .i64 a.V.K), .lit (.int .i64 a.V.N), .lit (.string a.V.S)]) := hb _ (List.mem_cons_self)
  have hl_a_F_Kind : a.F.Kind.size ≤ 9223372036854775807 := Bd.str (hb_a _ (by simp))
  have hl_a_F_Fields : a.F.Fields.length ≤ 9223372036854775807 := Bd.len (U := UU) (τ := .lVal) (xs := a.F.Fields) (hb_a _ (by simp))
  have hl_a_Undo : a.Undo.size ≤ 9223372036854775807 := Bd.str (hb_a _ (by simp))
  have hl_a_V_S : a.V.S.size ≤ 9223372036854775807 := Bd.str (hb_a _ (by simp))
  have hb_left : BdDV (U := UU) (.one (.lit (.int .i64 left))) := hb _ (List.mem_cons_of_mem _ (List.mem_cons_self))
  have hl_left := Bd.i64 hb_left
  have hp0 : 0 ≤ left := hp _ (List.mem_cons_self)
  clear hp hb
  rw [vc_laws_szTask a left]
  dsimp only
  refine ⟨by omega, if_cond (fun h => Lf_i (szr_bad' ?_)) (fun h => ?_)⟩
  · have h := szr_neg h; simp only [sizeTask]; omega
  obtain ⟨e0, h0⟩ := szr_pos h
  rw [e0]
  rw [wrap_i64 (by omega) (by omega)]
  refine if_cond (fun h => Lf_i (szr_bad' ?_)) (fun h => ?_)
  · have h := of_decide_eq_true h; simp only [sizeTask]; omega
  have h1 := of_decide_eq_false h
  refine ⟨by omega, if_cond (fun h => Lf_i (szr_bad' ?_)) (fun h => ?_)⟩
  · have h := szr_neg h; simp only [sizeTask]; omega
  obtain ⟨e2, h2⟩ := szr_pos h
  rw [e2]
  exact Lf_i (by rw [← szr_ok' (by simp only [sizeTask]; omega)]; simp only [sizeTask]; try omega)
def con_laws_toTask : Con UU where
  α := DTask
  md := [.ro]
  of := fun | [.agg [.lit (.string a0), .sl .lVal a1, .lit (.string a2), .lit (.int .i64 a3), .lit (.int .i64 a4), .lit (.int .i64 a5), .lit (.int .i64 a6), .lit (.int .i64 a7), .lit (.string a8)]] => some ⟨⟨a0, a1⟩, a2, a3, a4, a5, ⟨a6, a7, a8⟩⟩ | _ => none
  ds := fun a => [.agg [.lit (.string a.F.Kind), .sl .lVal a.F.Fields, .lit (.string a.Undo), .lit (.int .i64 a.State), .lit (.int .i64 a.Tries), .lit (.int .i64 a.Due), .lit (.int .i64 a.V.K), .lit (.int .i64 a.V.N), .lit (.string a.V.S)]]
  pre := fun a => [sizeTask a ≤ 4294967296]
  res := fun a => ⟨[.agg [.lit (.string a.F.Kind), .sl .eVal a.F.Fields, .lit (.string a.Undo), .lit (.int .i64 a.State), .lit (.int .i64 a.Tries), .lit (.int .i64 a.Due), .lit (.int .i64 a.V.K), .lit (.int .i64 a.V.N), .lit (.string a.V.S)]], true, []⟩
  law := by intro l x h; (try simp only at h); split at h <;> cases h; rfl
def ann_laws_toTask : con_laws_toTask.α → Nat → Option (Ann UU) := fun a => annL []
def use_laws_toTask : List (FuncId × Con UU) := [(51, con_laws_toFact), (80, con_laws_toVal)]
theorem vc_laws_toTask (a : DTask) : goal EE use_laws_toTask Go.Proofs.Try.f85 con_laws_toTask ann_laws_toTask a = (sizeFact a.F ≤ (4294967296 : Nat) ∧ sizeVal a.V ≤ (4294967296 : Nat) ∧ Lf [DV.agg [Cell.lit (Value.string a.F.Kind), Cell.sl Cd.eVal a.F.Fields, Cell.lit (Value.string a.Undo), Cell.lit (Value.int IntKind.i64 a.State), Cell.lit (Value.int IntKind.i64 a.Tries), Cell.lit (Value.int IntKind.i64 a.Due), Cell.lit (Value.int IntKind.i64 a.V.K), Cell.lit (Value.int IntKind.i64 a.V.N), Cell.lit (Value.string a.V.S)]] [DV.agg [Cell.lit (Value.string a.F.Kind), Cell.sl Cd.eVal a.F.Fields, Cell.lit (Value.string a.Undo), Cell.lit (Value.int IntKind.i64 a.State), Cell.lit (Value.int IntKind.i64 a.Tries), Cell.lit (Value.int IntKind.i64 a.Due), Cell.lit (Value.int IntKind.i64 a.V.K), Cell.lit (Value.int IntKind.i64 a.V.N), Cell.lit (Value.string a.V.S)]]) := by kernel_rfl
theorem ok_laws_toTask : Holds EE (85, con_laws_toTask) := by
  refine holds_of EE_ok Go.Proofs.Try.func85 con_laws_toTask (by kernel_rfl) rfl use_laws_toTask (all_cons ok_laws_toFact (all_cons ok_laws_toVal all_nil)) ann_laws_toTask (fun (a : DTask) hp hb => ?_)
  have hb_a : BdDV (U := UU) (.agg [.lit (.string a.F.Kind), .sl .lVal a.F.Fields, .lit (.string a.Undo), .lit (.int .i64 a.State), .lit (.int .i64 a.Tries), .lit (.int .i64 a.Due), .lit (.int .i64 a.V.K), .lit (.int .i64 a.V.N), .lit (.string a.V.S)]) := hb _ (List.mem_cons_self)
  have hl_a_F_Kind : a.F.Kind.size ≤ 9223372036854775807 := Bd.str (hb_a _ (by simp))
  have hl_a_F_Fields : a.F.Fields.length ≤ 9223372036854775807 := Bd.len (U := UU) (τ := .lVal) (xs := a.F.Fields) (hb_a _ (by simp))
  have hl_a_Undo : a.Undo.size ≤ 9223372036854775807 := Bd.str (hb_a _ (by simp))
  have hl_a_V_S : a.V.S.size ≤ 9223372036854775807 := Bd.str (hb_a _ (by simp))
  have hp0 : sizeTask a ≤ 4294967296 := hp _ (List.mem_cons_self)
  clear hp hb
  rw [vc_laws_toTask a]
  simp only [sizeTask] at hp0
  repeat' (first | exact Lf_rfl _ | (refine And.intro (by omega) ?_))
def con_laws_eqTask : Con UU where
  α := DTask × DTask
  md := [.ro, .ro]
  of := fun | [.agg [.lit (.string a0), .sl .eVal a1, .lit (.string a2), .lit (.int .i64 a3), .lit (.int .i64 a4), .lit (.int .i64 a5), .lit (.int .i64 a6), .lit (.int .i64 a7), .lit (.string a8)], .agg [.lit (.string a9), .sl .eVal a10, .lit (.string a11), .lit (.int .i64 a12), .lit (.int .i64 a13), .lit (.int .i64 a14), .lit (.int .i64 a15), .lit (.int .i64 a16), .lit (.string a17)]] => some (⟨⟨a0, a1⟩, a2, a3, a4, a5, ⟨a6, a7, a8⟩⟩, ⟨⟨a9, a10⟩, a11, a12, a13, a14, ⟨a15, a16, a17⟩⟩) | _ => none
  ds := fun (a, b) => [.agg [.lit (.string a.F.Kind), .sl .eVal a.F.Fields, .lit (.string a.Undo), .lit (.int .i64 a.State), .lit (.int .i64 a.Tries), .lit (.int .i64 a.Due), .lit (.int .i64 a.V.K), .lit (.int .i64 a.V.N), .lit (.string a.V.S)], .agg [.lit (.string b.F.Kind), .sl .eVal b.F.Fields, .lit (.string b.Undo), .lit (.int .i64 b.State), .lit (.int .i64 b.Tries), .lit (.int .i64 b.Due), .lit (.int .i64 b.V.K), .lit (.int .i64 b.V.N), .lit (.string b.V.S)]]
  pre := fun (a, b) => []
  res := fun (a, b) => ⟨[.one (.lit (.bool (decide (a = b))))], true, []⟩
  law := by intro l x h; (try simp only at h); split at h <;> cases h; rfl
def ann_laws_eqTask : con_laws_eqTask.α → Nat → Option (Ann UU) := fun (a, b) => annL []
def use_laws_eqTask : List (FuncId × Con UU) := [(53, con_laws_eqFact), (82, con_laws_eqVal)]
theorem vc_laws_eqTask (a : DTask) (b : DTask) : goal EE use_laws_eqTask Go.Proofs.Try.f88 con_laws_eqTask ann_laws_eqTask (a, b) = (bif !decide (a.F = b.F) then Lf [DV.one (Cell.lit (Value.bool false))] [DV.one (Cell.lit (Value.bool (decide (a = b))))] else bif !ByteArray.toList a.Undo == ByteArray.toList b.Undo then Lf [DV.one (Cell.lit (Value.bool false))] [DV.one (Cell.lit (Value.bool (decide (a = b))))] else bif a.State != b.State then Lf [DV.one (Cell.lit (Value.bool false))] [DV.one (Cell.lit (Value.bool (decide (a = b))))] else bif a.Tries != b.Tries then Lf [DV.one (Cell.lit (Value.bool false))] [DV.one (Cell.lit (Value.bool (decide (a = b))))] else bif a.Due != b.Due then Lf [DV.one (Cell.lit (Value.bool false))] [DV.one (Cell.lit (Value.bool (decide (a = b))))] else bif !decide (a.V = b.V) then Lf [DV.one (Cell.lit (Value.bool false))] [DV.one (Cell.lit (Value.bool (decide (a = b))))] else Lf [DV.one (Cell.lit (Value.bool true))] [DV.one (Cell.lit (Value.bool (decide (a = b))))]) := by kernel_rfl
theorem ok_laws_eqTask : Holds EE (88, con_laws_eqTask) := by
  refine holds_of EE_ok Go.Proofs.Try.func88 con_laws_eqTask (by kernel_rfl) rfl use_laws_eqTask (all_cons ok_laws_eqFact (all_cons ok_laws_eqVal all_nil)) ann_laws_eqTask (fun x hp hb => ?_)
  obtain ⟨a, b⟩ := x
  have hb_a : BdDV (U := UU) (.agg [.lit (.string a.F.Kind), .sl .eVal a.F.Fields, .lit (.string a.Undo), .lit (.int .i64 a.State), .lit (.int .i64 a.Tries), .lit (.int .i64 a.Due), .lit (.int .i64 a.V.K), .lit (.int .i64 a.V.N), .lit (.string a.V.S)]) := hb _ (List.mem_cons_self)
  have hl_a_F_Kind : a.F.Kind.size ≤ 9223372036854775807 := Bd.str (hb_a _ (by simp))
  have hl_a_F_Fields : a.F.Fields.length ≤ 9223372036854775807 := Bd.len (U := UU) (τ := .eVal) (xs := a.F.Fields) (hb_a _ (by simp))
  have hl_a_Undo : a.Undo.size ≤ 9223372036854775807 := Bd.str (hb_a _ (by simp))
  have hl_a_V_S : a.V.S.size ≤ 9223372036854775807 := Bd.str (hb_a _ (by simp))
  have hb_b : BdDV (U := UU) (.agg [.lit (.string b.F.Kind), .sl .eVal b.F.Fields, .lit (.string b.Undo), .lit (.int .i64 b.State), .lit (.int .i64 b.Tries), .lit (.int .i64 b.Due), .lit (.int .i64 b.V.K), .lit (.int .i64 b.V.N), .lit (.string b.V.S)]) := hb _ (List.mem_cons_of_mem _ (List.mem_cons_self))
  have hl_b_F_Kind : b.F.Kind.size ≤ 9223372036854775807 := Bd.str (hb_b _ (by simp))
  have hl_b_F_Fields : b.F.Fields.length ≤ 9223372036854775807 := Bd.len (U := UU) (τ := .eVal) (xs := b.F.Fields) (hb_b _ (by simp))
  have hl_b_Undo : b.Undo.size ≤ 9223372036854775807 := Bd.str (hb_b _ (by simp))
  have hl_b_V_S : b.V.S.size ≤ 9223372036854775807 := Bd.str (hb_b _ (by simp))
  clear hp hb
  rw [vc_laws_eqTask a b]
  obtain ⟨aF, aUndo, aState, aTries, aDue, aV⟩ := a
  obtain ⟨bF, bUndo, bState, bTries, bDue, bV⟩ := b
  repeat' (apply if_cond <;> intro _)
  all_goals (first | apply Lf_t | apply Lf_f) <;> simp_all
def con_laws_szTaskS : Con UU where
  α := (List DTask) × Int
  md := [.ro, .ro]
  of := fun | [.one (.sl .lTask a0), .one (.lit (.int .i64 a1))] => some (a0, a1) | _ => none
  ds := fun (a, left) => [.one (.sl .lTask a), .one (.lit (.int .i64 left))]
  pre := fun (a, left) => [0 ≤ left]
  res := fun (a, left) => ⟨[.one (.lit (.int .i64 (szr left (sizeTaskS a))))], true, []⟩
  law := by intro l x h; (try simp only at h); split at h <;> cases h; rfl
def I_laws_szTaskS_5 (a : (List DTask)) (left : Int) : Int × Int × Unit → Prop := fun (lf, i, _) => 0 ≤ lf ∧ 0 ≤ i ∧ i ≤ a.length ∧ szr lf ((a.drop i.toNat).map sizeTask).sum = szr left (sizeTaskS a)
def μ_laws_szTaskS_5 (a : (List DTask)) (left : Int) : Int × Int × Unit → Nat := fun (lf, i, _) => a.length - i.toNat
def ann_laws_szTaskS : con_laws_szTaskS.α → Nat → Option (Ann UU) := fun (a, left) => annL [(5, annOf [.slot 1 (1, 1024) (.lit (.int .i64)), .slot 5 (5, 1024) (.lit (.int .i64))] (fun _ => I_laws_szTaskS_5 a left) (μ_laws_szTaskS_5 a left))]
def use_laws_szTaskS : List (FuncId × Con UU) := [(83, con_laws_szTask)]
theorem vc_laws_szTaskS (a : (List DTask)) (left : Int) : goal EE use_laws_szTaskS Go.Proofs.Try.f23 con_laws_szTaskS ann_laws_szTaskS (a, left) = (let x0 : Int := IntKind.wrap IntKind.i64 (left - (↑(List.length a) : Int));
bif decide (x0 < (0 : Int)) then Lf [DV.one (Cell.lit (Value.int IntKind.i64 (-1 : Int)))] [DV.one (Cell.lit (Value.int IntKind.i64 (szr left (sizeTaskS a))))]
else
  I_laws_szTaskS_5 a left (x0, (0 : Int), PUnit.unit) ∧
    ∀ (y : Int × Int × PUnit),
      let x1 : Int := szr y.1 (sizeTask (List.getD a (Int.toNat y.2.1) zTask));
      I_laws_szTaskS_5 a left y → bif decide (y.2.1 < (↑(List.length a) : Int)) then (0 : Int) ≤ y.2.1 ∧ Int.toNat y.2.1 < List.length a ∧ (0 : Int) ≤ y.1 ∧ bif decide (x1 < (0 : Int)) then Lf [DV.one (Cell.lit (Value.int IntKind.i64 (-1 : Int)))] [DV.one (Cell.lit (Value.int IntKind.i64 (szr left (sizeTaskS a))))] else I_laws_szTaskS_5 a left (x1, IntKind.wrap IntKind.i64 (y.2.1 + (1 : Int)), PUnit.unit) ∧ μ_laws_szTaskS_5 a left (x1, IntKind.wrap IntKind.i64 (y.2.1 + (1 : Int)), PUnit.unit) < μ_laws_szTaskS_5 a left y else Lf [DV.one (Cell.lit (Value.int IntKind.i64 y.1))] [DV.one (Cell.lit (Value.int IntKind.i64 (szr left (sizeTaskS a))))]) := by kernel_rfl
theorem ok_laws_szTaskS : Holds EE (23, con_laws_szTaskS) := by
  refine holds_of EE_ok Go.Proofs.Try.func23 con_laws_szTaskS (by kernel_rfl) rfl use_laws_szTaskS (all_cons ok_laws_szTask all_nil) ann_laws_szTaskS (fun x hp hb => ?_)
  obtain ⟨a, left⟩ := x
  have hb_a : BdDV (U := UU) (.one (.sl .lTask a)) := hb _ (List.mem_cons_self)
  have hl_a : a.length ≤ 9223372036854775807 := Bd.len hb_a
  have hb_left : BdDV (U := UU) (.one (.lit (.int .i64 left))) := hb _ (List.mem_cons_of_mem _ (List.mem_cons_self))
  have hl_left := Bd.i64 hb_left
  have hp0 : 0 ≤ left := hp _ (List.mem_cons_self)
  clear hp hb
  rw [vc_laws_szTaskS a left]
  dsimp only
  rw [wrap_i64 (by omega) (by omega)]
  refine if_cond (fun h => Lf_i ?_) (fun h => ⟨?_, ?_⟩)
  · simp [szr, sizeTaskS] at *; omega
  · simp only [I_laws_szTaskS_5, sizeTaskS]; simp at h; have h' : 0 ≤ left - a.length := by omega
    exact ⟨h', by omega, by omega, szr_sub h'⟩
  rintro ⟨lf, i, ⟨⟩⟩ ⟨h0, h1, h2, hR⟩
  refine if_cond (fun hc => ?_) (fun hc => ?_)
  · have hc : i < a.length := by simpa using hc
    rw [drop_step a zTask h1 hc, List.map_cons, List.sum_cons] at hR
    simp only at *
    rw [wrap_i64 (by omega) (by omega)]
    generalize List.getD a i.toNat zTask = x at *
    refine ⟨by omega, by omega, by omega, if_cond (fun h => Lf_i ?_) (fun h => ⟨⟨?_, by omega, by omega, ?_⟩, ?_⟩)⟩
    · rw [← hR]; exact (szr_bad (of_decide_eq_true h)).symm
    · simp at h; omega
    · rw [← hR]; simp at h; exact szr_szr h
    · simp only [μ_laws_szTaskS_5]; omega
  · have hc : a.length ≤ i := by simpa using hc
    rw [drop_end a hc] at hR
    apply Lf_i; rw [← hR]; simp [szr, h0]
def con_laws_toTaskS : Con UU where
  α := (List DTask)
  md := [.ro]
  of := fun | [.one (.sl .lTask a0)] => some a0 | _ => none
  ds := fun a => [.one (.sl .lTask a)]
  pre := fun a => [sizeTaskS a ≤ 4294967296]
  res := fun a => ⟨[.one (.sl .eTask a)], true, []⟩
  law := by intro l x h; (try simp only at h); split at h <;> cases h; rfl
def I_laws_toTaskS_3 (a : (List DTask)) : List DTask × Int × Unit → Prop := fun (out, i, _) => 0 ≤ i ∧ i ≤ a.length ∧ out = a.take i.toNat ++ List.replicate (a.length - i.toNat) zTask
def μ_laws_toTaskS_3 (a : (List DTask)) : List DTask × Int × Unit → Nat := fun (out, i, _) => a.length - i.toNat
def ann_laws_toTaskS : con_laws_toTaskS.α → Nat → Option (Ann UU) := fun a => annL [(3, annOf [.slot 3 (3, 1024) (.own .eTask true), .slot 4 (4, 1024) (.lit (.int .i64))] (fun _ => I_laws_toTaskS_3 a) (μ_laws_toTaskS_3 a))]
def use_laws_toTaskS : List (FuncId × Con UU) := [(85, con_laws_toTask)]
theorem vc_laws_toTaskS (a : (List DTask)) : goal EE use_laws_toTaskS Go.Proofs.Try.f25 con_laws_toTaskS ann_laws_toTaskS a = (let x0 : Int := (↑(List.length a) : Int);
(0 : Int) ≤ x0 ∧
  x0 = x0 ∧
    x0 ≤ (4294967296 : Int) ∧
      I_laws_toTaskS_3 a (List.replicate (Int.toNat x0) zTask, (0 : Int), PUnit.unit) ∧
        ∀ (y : List DTask × Int × PUnit),
          let x1 : Nat := Int.toNat y.2.1;
          I_laws_toTaskS_3 a y → bif decide (y.2.1 < x0) then (0 : Int) ≤ y.2.1 ∧ x1 < List.length a ∧ sizeTask (List.getD a x1 zTask) ≤ (4294967296 : Nat) ∧ (0 : Int) ≤ y.2.1 ∧ x1 < List.length y.1 ∧ x1 < List.length y.1 ∧ I_laws_toTaskS_3 a (List.set y.1 x1 (List.getD a x1 zTask), IntKind.wrap IntKind.i64 (y.2.1 + (1 : Int)), PUnit.unit) ∧ μ_laws_toTaskS_3 a (List.set y.1 x1 (List.getD a x1 zTask), IntKind.wrap IntKind.i64 (y.2.1 + (1 : Int)), PUnit.unit) < μ_laws_toTaskS_3 a y else Lf [DV.one (Cell.sl Cd.eTask y.1)] [DV.one (Cell.sl Cd.eTask a)]) := by kernel_rfl
theorem ok_laws_toTaskS : Holds EE (25, con_laws_toTaskS) := by
  refine holds_of EE_ok Go.Proofs.Try.func25 con_laws_toTaskS (by kernel_rfl) rfl use_laws_toTaskS (all_cons ok_laws_toTask all_nil) ann_laws_toTaskS (fun (a : (List DTask)) hp hb => ?_)
  have hb_a : BdDV (U := UU) (.one (.sl .lTask a)) := hb _ (List.mem_cons_self)
  have hl_a : a.length ≤ 9223372036854775807 := Bd.len hb_a
  have hp0 : sizeTaskS a ≤ 4294967296 := hp _ (List.mem_cons_self)
  clear hp hb
  rw [vc_laws_toTaskS a]
  dsimp only
  have hlen : a.length ≤ 4294967296 := by simp only [sizeTaskS] at hp0; omega
  refine ⟨by omega, rfl, by omega, ?_, ?_⟩
  · simp [I_laws_toTaskS_3]
  rintro ⟨out, i, ⟨⟩⟩ ⟨h1, h2, rfl⟩
  simp only at *
  refine if_cond (fun hc => ?_) (fun hc => ?_)
  · have hc : i < a.length := by simpa using hc
    rw [wrap_i64 (by omega) (by omega), set_fill a zTask h1 hc]
    exact ⟨h1, by omega, by exact Nat.le_trans (sum_getD_le sizeTask a zTask h1 hc) (by simp only [sizeTaskS] at hp0; omega), h1, by simp; omega, by simp; omega, ⟨by omega, by omega, rfl⟩, by simp only [μ_laws_toTaskS_3]; omega⟩
  · have hc : a.length ≤ i := by simpa using hc
    have e : i.toNat = a.length := by omega
    rw [e]; simp; exact Lf_rfl _
def con_laws_eqTaskS : Con UU where
  α := (List DTask) × (List DTask)
  md := [.ro, .ro]
  of := fun | [.one (.sl .eTask a0), .one (.sl .eTask a1)] => some (a0, a1) | _ => none
  ds := fun (a, b) => [.one (.sl .eTask a), .one (.sl .eTask b)]
  pre := fun (a, b) => []
  res := fun (a, b) => ⟨[.one (.lit (.bool (decide (a = b))))], true, []⟩
  law := by intro l x h; (try simp only at h); split at h <;> cases h; rfl
def I_laws_eqTaskS_4 (a : (List DTask)) (b : (List DTask)) : Int × Unit → Prop := fun (i, _) => 0 ≤ i ∧ i ≤ a.length ∧ a.length = b.length ∧ (a.drop i.toNat = b.drop i.toNat ↔ a = b)
def μ_laws_eqTaskS_4 (a : (List DTask)) (b : (List DTask)) : Int × Unit → Nat := fun (i, _) => a.length - i.toNat
def ann_laws_eqTaskS : con_laws_eqTaskS.α → Nat → Option (Ann UU) := fun (a, b) => annL [(4, annOf [.slot 5 (5, 1024) (.lit (.int .i64))] (fun _ => I_laws_eqTaskS_4 a b) (μ_laws_eqTaskS_4 a b))]
def use_laws_eqTaskS : List (FuncId × Con UU) := [(88, con_laws_eqTask)]
theorem vc_laws_eqTaskS (a : (List DTask)) (b : (List DTask)) : goal EE use_laws_eqTaskS Go.Proofs.Try.f27 con_laws_eqTaskS ann_laws_eqTaskS (a, b) = (bif (↑(List.length a) : Int) != (↑(List.length b) : Int) then Lf [DV.one (Cell.lit (Value.bool false))] [DV.one (Cell.lit (Value.bool (decide (a = b))))] else I_laws_eqTaskS_4 a b ((0 : Int), PUnit.unit) ∧ ∀ (y : Int × PUnit), I_laws_eqTaskS_4 a b y → bif decide (y.1 < (↑(List.length a) : Int)) then (0 : Int) ≤ y.1 ∧ Int.toNat y.1 < List.length a ∧ (0 : Int) ≤ y.1 ∧ Int.toNat y.1 < List.length b ∧ bif !decide (List.getD a (Int.toNat y.1) zTask = List.getD b (Int.toNat y.1) zTask) then Lf [DV.one (Cell.lit (Value.bool false))] [DV.one (Cell.lit (Value.bool (decide (a = b))))] else I_laws_eqTaskS_4 a b (IntKind.wrap IntKind.i64 (y.1 + (1 : Int)), PUnit.unit) ∧ μ_laws_eqTaskS_4 a b (IntKind.wrap IntKind.i64 (y.1 + (1 : Int)), PUnit.unit) < μ_laws_eqTaskS_4 a b y else Lf [DV.one (Cell.lit (Value.bool true))] [DV.one (Cell.lit (Value.bool (decide (a = b))))]) := by kernel_rfl
theorem ok_laws_eqTaskS : Holds EE (27, con_laws_eqTaskS) := by
  refine holds_of EE_ok Go.Proofs.Try.func27 con_laws_eqTaskS (by kernel_rfl) rfl use_laws_eqTaskS (all_cons ok_laws_eqTask all_nil) ann_laws_eqTaskS (fun x hp hb => ?_)
  obtain ⟨a, b⟩ := x
  have hb_a : BdDV (U := UU) (.one (.sl .eTask a)) := hb _ (List.mem_cons_self)
  have hl_a : a.length ≤ 9223372036854775807 := Bd.len hb_a
  have hb_b : BdDV (U := UU) (.one (.sl .eTask b)) := hb _ (List.mem_cons_of_mem _ (List.mem_cons_self))
  have hl_b : b.length ≤ 9223372036854775807 := Bd.len hb_b
  clear hp hb
  rw [vc_laws_eqTaskS a b]
  refine if_cond (fun h => Lf_f ?_) (fun h => ⟨?_, ?_⟩)
  · rintro rfl; simp at h
  · simp [I_laws_eqTaskS_4] at *; omega
  rintro ⟨i, ⟨⟩⟩ ⟨h1, h2, h3, hR⟩
  simp only at *
  refine if_cond (fun hc => ?_) (fun hc => ?_)
  · have hc : i < a.length := by simpa using hc
    rw [drop_step a zTask h1 hc, drop_step b zTask h1 (by omega)] at hR
    rw [wrap_i64 (by omega) (by omega)]
    refine ⟨by omega, by omega, by omega, by omega, if_cond (fun h => Lf_f ?_) (fun h => ⟨⟨by omega, by omega, h3, ?_⟩, ?_⟩)⟩
    · rw [← hR]; simp at h; simp [h]
    · rw [← hR]; simp at h; simp [h]
    · simp only [μ_laws_eqTaskS_4]; omega
  · have hc : a.length ≤ i := by simpa using hc
    rw [drop_end a hc, drop_end b (by omega)] at hR
    exact Lf_t (hR.1 rfl)
def con_laws_markTaskS : Con UU where
  α := (List DTask) × Int
  md := [.wr, .ro]
  of := fun | [.one (.sl .eTask a0), .one (.lit (.int .i64 a1))] => some (a0, a1) | _ => none
  ds := fun (a, k) => [.one (.sl .eTask a), .one (.lit (.int .i64 k))]
  pre := fun (a, k) => [0 ≤ k, k + cntTaskS a ≤ 4611686018427387904]
  res := fun (a, k) => ⟨[.one (.lit (.int .i64 (k + cntTaskS a)))], true, [.one (.sl .eTask (markTaskS a k))]⟩
  law := by intro l x h; (try simp only at h); split at h <;> cases h; rfl
def I_laws_markTaskS_2 (a : (List DTask)) (k : Int) : List DTask × Int × Int × Unit → Prop := fun (row, kk, i, _) => 0 ≤ i ∧ i ≤ a.length ∧ row = (mkS markTask cntTask a k).take i.toNat ++ a.drop i.toNat ∧ kk = k + ctS cntTask (a.take i.toNat)
def μ_laws_markTaskS_2 (a : (List DTask)) (k : Int) : List DTask × Int × Int × Unit → Nat := fun (row, kk, i, _) => a.length - i.toNat
def ann_laws_markTaskS : con_laws_markTaskS.α → Nat → Option (Ann UU) := fun (a, k) => annL [(2, annOf [.slot 0 (2000000, 0) (.own .eTask true), .slot 1 (1, 1024) (.lit (.int .i64)), .slot 5 (5, 1024) (.lit (.int .i64))] (fun _ => I_laws_markTaskS_2 a k) (μ_laws_markTaskS_2 a k))]
def use_laws_markTaskS : List (FuncId × Con UU) := [(89, con_laws_markText), (90, con_laws_markValS)]
theorem vc_laws_markTaskS (a : (List DTask)) (k : Int) : goal EE use_laws_markTaskS Go.Proofs.Try.f28 con_laws_markTaskS ann_laws_markTaskS (a, k) = (I_laws_markTaskS_2 a k (a, k, (0 : Int), PUnit.unit) ∧
  ∀ (y : List DTask × Int × Int × PUnit),
    let x0 : List DTask := List.modify (List.modify (List.modify (List.modify (List.modify (List.modify (List.modify (List.modify y.1 (Int.toNat y.2.2.1) fun (x : DTask) => { F := { Kind := markText y.2.1, Fields := x.F.Fields : DFact }, Undo := x.Undo, State := x.State, Tries := x.Tries, Due := x.Due, V := x.V : DTask }) (Int.toNat y.2.2.1) fun (x : DTask) => { F := { Kind := x.F.Kind, Fields := markValS (List.getD (List.modify y.1 (Int.toNat y.2.2.1) fun (x : DTask) => { F := { Kind := markText y.2.1, Fields := x.F.Fields : DFact }, Undo := x.Undo, State := x.State, Tries := x.Tries, Due := x.Due, V := x.V : DTask }) (Int.toNat y.2.2.1) zTask).F.Fields (IntKind.wrap IntKind.i64 (y.2.1 + (1 : Int))) : DFact }, Undo := x.Undo, State := x.State, Tries := x.Tries, Due := x.Due, V := x.V : DTask }) (Int.toNat y.2.2.1) fun (x : DTask) => { F := x.F, Undo := markText (IntKind.wrap IntKind.i64 (y.2.1 + (1 : Int)) + (↑(cntValS (List.getD (List.modify y.1 (Int.toNat y.2.2.1) fun (x : DTask) => { F := { Kind := markText y.2.1, Fields := x.F.Fields : DFact }, Undo := x.Undo, State := x.State, Tries := x.Tries, Due := x.Due, V := x.V : DTask }) (Int.toNat y.2.2.1) zTask).F.Fields) : Int)), State := x.State, Tries := x.Tries, Due := x.Due, V := x.V : DTask }) (Int.toNat y.2.2.1) fun (x : DTask) => { F := x.F, Undo := x.Undo, State := IntKind.wrap IntKind.i64 (IntKind.wrap IntKind.i64 (y.2.1 + (1 : Int)) + (↑(cntValS (List.getD (List.modify y.1 (Int.toNat y.2.2.1) fun (x : DTask) => { F := { Kind := markText y.2.1, Fields := x.F.Fields : DFact }, Undo := x.Undo, State := x.State, Tries := x.Tries, Due := x.Due, V := x.V : DTask }) (Int.toNat y.2.2.1) zTask).F.Fields) : Int) + (1 : Int)), Tries := x.Tries, Due := x.Due, V := x.V : DTask }) (Int.toNat y.2.2.1) fun (x : DTask) => { F := x.F, Undo := x.Undo, State := x.State, Tries := IntKind.wrap IntKind.i64 (IntKind.wrap IntKind.i64 (IntKind.wrap IntKind.i64 (y.2.1 + (1 : Int)) + (↑(cntValS (List.getD (List.modify y.1 (Int.toNat y.2.2.1) fun (x : DTask) => { F := { Kind := markText y.2.1, Fields := x.F.Fields : DFact }, Undo := x.Undo, State := x.State, Tries := x.Tries, Due := x.Due, V := x.V : DTask }) (Int.toNat y.2.2.1) zTask).F.Fields) : Int) + (1 : Int)) + (1 : Int)), Due := x.Due, V := x.V : DTask }) (Int.toNat y.2.2.1) fun (x : DTask) => { F := x.F, Undo := x.Undo, State := x.State, Tries := x.Tries, Due := IntKind.wrap IntKind.i64 (IntKind.wrap IntKind.i64 (IntKind.wrap IntKind.i64 (IntKind.wrap IntKind.i64 (y.2.1 + (1 : Int)) + (↑(cntValS (List.getD (List.modify y.1 (Int.toNat y.2.2.1) fun (x : DTask) => { F := { Kind := markText y.2.1, Fields := x.F.Fields : DFact }, Undo := x.Undo, State := x.State, Tries := x.Tries, Due := x.Due, V := x.V : DTask }) (Int.toNat y.2.2.1) zTask).F.Fields) : Int) + (1 : Int)) + (1 : Int)) + (1 : Int)), V := x.V : DTask }) (Int.toNat y.2.2.1) fun (x : DTask) => { F := x.F, Undo := x.Undo, State := x.State, Tries := x.Tries, Due := x.Due, V := { K := IntKind.wrap IntKind.i64 (IntKind.wrap IntKind.i64 (IntKind.wrap IntKind.i64 (IntKind.wrap IntKind.i64 (IntKind.wrap IntKind.i64 (y.2.1 + (1 : Int)) + (↑(cntValS (List.getD (List.modify y.1 (Int.toNat y.2.2.1) fun (x : DTask) => { F := { Kind := markText y.2.1, Fields := x.F.Fields : DFact }, Undo := x.Undo, State := x.State, Tries := x.Tries, Due := x.Due, V := x.V : DTask }) (Int.toNat y.2.2.1) zTask).F.Fields) : Int) + (1 : Int)) + (1 : Int)) + (1 : Int)) + (1 : Int)), N := x.V.N, S := x.V.S : DVal } : DTask }) (Int.toNat y.2.2.1) fun (x : DTask) => { F := x.F, Undo := x.Undo, State := x.State, Tries := x.Tries, Due := x.Due, V := { K := x.V.K, N := IntKind.wrap IntKind.i64 (IntKind.wrap IntKind.i64 (IntKind.wrap IntKind.i64 (IntKind.wrap IntKind.i64 (IntKind.wrap IntKind.i64 (IntKind.wrap IntKind.i64 (y.2.1 + (1 : Int)) + (↑(cntValS (List.getD (List.modify y.1 (Int.toNat y.2.2.1) fun (x : DTask) => { F := { Kind := markText y.2.1, Fields := x.F.Fields : DFact }, Undo := x.Undo, State := x.State, Tries := x.Tries, Due := x.Due, V := x.V : DTask }) (Int.toNat y.2.2.1) zTask).F.Fields) : Int) + (1 : Int)) + (1 : Int)) + (1 : Int)) + (1 : Int)) + (1 : Int)), S := x.V.S : DVal } : DTask };
    let x1 : List DTask := List.modify (List.modify (List.modify (List.modify (List.modify (List.modify y.1 (Int.toNat y.2.2.1) fun (x : DTask) => { F := { Kind := markText y.2.1, Fields := x.F.Fields : DFact }, Undo := x.Undo, State := x.State, Tries := x.Tries, Due := x.Due, V := x.V : DTask }) (Int.toNat y.2.2.1) fun (x : DTask) => { F := { Kind := x.F.Kind, Fields := markValS (List.getD (List.modify y.1 (Int.toNat y.2.2.1) fun (x : DTask) => { F := { Kind := markText y.2.1, Fields := x.F.Fields : DFact }, Undo := x.Undo, State := x.State, Tries := x.Tries, Due := x.Due, V := x.V : DTask }) (Int.toNat y.2.2.1) zTask).F.Fields (IntKind.wrap IntKind.i64 (y.2.1 + (1 : Int))) : DFact }, Undo := x.Undo, State := x.State, Tries := x.Tries, Due := x.Due, V := x.V : DTask }) (Int.toNat y.2.2.1) fun (x : DTask) => { F := x.F, Undo := markText (IntKind.wrap IntKind.i64 (y.2.1 + (1 : Int)) + (↑(cntValS (List.getD (List.modify y.1 (Int.toNat y.2.2.1) fun (x : DTask) => { F := { Kind := markText y.2.1, Fields := x.F.Fields : DFact }, Undo := x.Undo, State := x.State, Tries := x.Tries, Due := x.Due, V := x.V : DTask }) (Int.toNat y.2.2.1) zTask).F.Fields) : Int)), State := x.State, Tries := x.Tries, Due := x.Due, V := x.V : DTask }) (Int.toNat y.2.2.1) fun (x : DTask) => { F := x.F, Undo := x.Undo, State := IntKind.wrap IntKind.i64 (IntKind.wrap IntKind.i64 (y.2.1 + (1 : Int)) + (↑(cntValS (List.getD (List.modify y.1 (Int.toNat y.2.2.1) fun (x : DTask) => { F := { Kind := markText y.2.1, Fields := x.F.Fields : DFact }, Undo := x.Undo, State := x.State, Tries := x.Tries, Due := x.Due, V := x.V : DTask }) (Int.toNat y.2.2.1) zTask).F.Fields) : Int) + (1 : Int)), Tries := x.Tries, Due := x.Due, V := x.V : DTask }) (Int.toNat y.2.2.1) fun (x : DTask) => { F := x.F, Undo := x.Undo, State := x.State, Tries := IntKind.wrap IntKind.i64 (IntKind.wrap IntKind.i64 (IntKind.wrap IntKind.i64 (y.2.1 + (1 : Int)) + (↑(cntValS (List.getD (List.modify y.1 (Int.toNat y.2.2.1) fun (x : DTask) => { F := { Kind := markText y.2.1, Fields := x.F.Fields : DFact }, Undo := x.Undo, State := x.State, Tries := x.Tries, Due := x.Due, V := x.V : DTask }) (Int.toNat y.2.2.1) zTask).F.Fields) : Int) + (1 : Int)) + (1 : Int)), Due := x.Due, V := x.V : DTask }) (Int.toNat y.2.2.1) fun (x : DTask) => { F := x.F, Undo := x.Undo, State := x.State, Tries := x.Tries, Due := IntKind.wrap IntKind.i64 (IntKind.wrap IntKind.i64 (IntKind.wrap IntKind.i64 (IntKind.wrap IntKind.i64 (y.2.1 + (1 : Int)) + (↑(cntValS (List.getD (List.modify y.1 (Int.toNat y.2.2.1) fun (x : DTask) => { F := { Kind := markText y.2.1, Fields := x.F.Fields : DFact }, Undo := x.Undo, State := x.State, Tries := x.Tries, Due := x.Due, V := x.V : DTask }) (Int.toNat y.2.2.1) zTask).F.Fields) : Int) + (1 : Int)) + (1 : Int)) + (1 : Int)), V := x.V : DTask };
    let x2 : Nat := Int.toNat y.2.2.1;
    let x3 : List DTask := List.modify (List.modify (List.modify (List.modify y.1 x2 fun (x : DTask) => { F := { Kind := markText y.2.1, Fields := x.F.Fields : DFact }, Undo := x.Undo, State := x.State, Tries := x.Tries, Due := x.Due, V := x.V : DTask }) x2 fun (x : DTask) => { F := { Kind := x.F.Kind, Fields := markValS (List.getD (List.modify y.1 x2 fun (x : DTask) => { F := { Kind := markText y.2.1, Fields := x.F.Fields : DFact }, Undo := x.Undo, State := x.State, Tries := x.Tries, Due := x.Due, V := x.V : DTask }) x2 zTask).F.Fields (IntKind.wrap IntKind.i64 (y.2.1 + (1 : Int))) : DFact }, Undo := x.Undo, State := x.State, Tries := x.Tries, Due := x.Due, V := x.V : DTask }) x2 fun (x : DTask) => { F := x.F, Undo := markText (IntKind.wrap IntKind.i64 (y.2.1 + (1 : Int)) + (↑(cntValS (List.getD (List.modify y.1 x2 fun (x : DTask) => { F := { Kind := markText y.2.1, Fields := x.F.Fields : DFact }, Undo := x.Undo, State := x.State, Tries := x.Tries, Due := x.Due, V := x.V : DTask }) x2 zTask).F.Fields) : Int)), State := x.State, Tries := x.Tries, Due := x.Due, V := x.V : DTask }) x2 fun (x : DTask) => { F := x.F, Undo := x.Undo, State := IntKind.wrap IntKind.i64 (IntKind.wrap IntKind.i64 (y.2.1 + (1 : Int)) + (↑(cntValS (List.getD (List.modify y.1 x2 fun (x : DTask) => { F := { Kind := markText y.2.1, Fields := x.F.Fields : DFact }, Undo := x.Undo, State := x.State, Tries := x.Tries, Due := x.Due, V := x.V : DTask }) x2 zTask).F.Fields) : Int) + (1 : Int)), Tries := x.Tries, Due := x.Due, V := x.V : DTask };
    let x4 : Int := IntKind.wrap IntKind.i64 (y.2.1 + (1 : Int)) + (↑(cntValS (List.getD (List.modify y.1 x2 fun (x : DTask) => { F := { Kind := markText y.2.1, Fields := x.F.Fields : DFact }, Undo := x.Undo, State := x.State, Tries := x.Tries, Due := x.Due, V := x.V : DTask }) x2 zTask).F.Fields) : Int);
    let x5 : List DTask := List.modify (List.modify y.1 x2 fun (x : DTask) => { F := { Kind := markText y.2.1, Fields := x.F.Fields : DFact }, Undo := x.Undo, State := x.State, Tries := x.Tries, Due := x.Due, V := x.V : DTask }) x2 fun (x : DTask) => { F := { Kind := x.F.Kind, Fields := markValS (List.getD (List.modify y.1 x2 fun (x : DTask) => { F := { Kind := markText y.2.1, Fields := x.F.Fields : DFact }, Undo := x.Undo, State := x.State, Tries := x.Tries, Due := x.Due, V := x.V : DTask }) x2 zTask).F.Fields (IntKind.wrap IntKind.i64 (y.2.1 + (1 : Int))) : DFact }, Undo := x.Undo, State := x.State, Tries := x.Tries, Due := x.Due, V := x.V : DTask };
    let x6 : Int := IntKind.wrap IntKind.i64 (IntKind.wrap IntKind.i64 (IntKind.wrap IntKind.i64 (IntKind.wrap IntKind.i64 (IntKind.wrap IntKind.i64 (IntKind.wrap IntKind.i64 (x4 + (1 : Int)) + (1 : Int)) + (1 : Int)) + (1 : Int)) + (1 : Int)) + (1 : Int));
    let x7 : Int := IntKind.wrap IntKind.i64 (IntKind.wrap IntKind.i64 (x4 + (1 : Int)) + (1 : Int));
    I_laws_markTaskS_2 a k y → bif decide (y.2.2.1 < (↑(List.length y.1) : Int)) then y.2.1 ≤ (4611686018427387903 : Int) ∧ (0 : Int) ≤ y.2.2.1 ∧ x2 < List.length y.1 ∧ x2 < List.length y.1 ∧ (0 : Int) ≤ y.2.2.1 ∧ x2 < List.length (List.modify y.1 x2 fun (x : DTask) => { F := { Kind := markText y.2.1, Fields := x.F.Fields : DFact }, Undo := x.Undo, State := x.State, Tries := x.Tries, Due := x.Due, V := x.V : DTask }) ∧ x2 < List.length (List.modify y.1 x2 fun (x : DTask) => { F := { Kind := markText y.2.1, Fields := x.F.Fields : DFact }, Undo := x.Undo, State := x.State, Tries := x.Tries, Due := x.Due, V := x.V : DTask }) ∧ x2 < List.length (List.modify y.1 x2 fun (x : DTask) => { F := { Kind := markText y.2.1, Fields := x.F.Fields : DFact }, Undo := x.Undo, State := x.State, Tries := x.Tries, Due := x.Due, V := x.V : DTask }) ∧ (0 : Int) ≤ IntKind.wrap IntKind.i64 (y.2.1 + (1 : Int)) ∧ x4 ≤ (4611686018427387904 : Int) ∧ x4 ≤ (4611686018427387903 : Int) ∧ (0 : Int) ≤ y.2.2.1 ∧ x2 < List.length x5 ∧ x2 < List.length x5 ∧ (0 : Int) ≤ y.2.2.1 ∧ x2 < List.length (List.modify x5 x2 fun (x : DTask) => { F := x.F, Undo := markText x4, State := x.State, Tries := x.Tries, Due := x.Due, V := x.V : DTask }) ∧ x2 < List.length (List.modify x5 x2 fun (x : DTask) => { F := x.F, Undo := markText x4, State := x.State, Tries := x.Tries, Due := x.Due, V := x.V : DTask }) ∧ (0 : Int) ≤ y.2.2.1 ∧ x2 < List.length x3 ∧ x2 < List.length x3 ∧ (0 : Int) ≤ y.2.2.1 ∧ x2 < List.length (List.modify x3 x2 fun (x : DTask) => { F := x.F, Undo := x.Undo, State := x.State, Tries := x7, Due := x.Due, V := x.V : DTask }) ∧ x2 < List.length (List.modify x3 x2 fun (x : DTask) => { F := x.F, Undo := x.Undo, State := x.State, Tries := x7, Due := x.Due, V := x.V : DTask }) ∧ (0 : Int) ≤ y.2.2.1 ∧ x2 < List.length x1 ∧ x2 < List.length x1 ∧ (0 : Int) ≤ y.2.2.1 ∧ x2 < List.length (List.modify x1 x2 fun (x : DTask) => { F := x.F, Undo := x.Undo, State := x.State, Tries := x.Tries, Due := x.Due, V := { K := IntKind.wrap IntKind.i64 (IntKind.wrap IntKind.i64 (x7 + (1 : Int)) + (1 : Int)), N := x.V.N, S := x.V.S : DVal } : DTask }) ∧ x2 < List.length (List.modify x1 x2 fun (x : DTask) => { F := x.F, Undo := x.Undo, State := x.State, Tries := x.Tries, Due := x.Due, V := { K := IntKind.wrap IntKind.i64 (IntKind.wrap IntKind.i64 (x7 + (1 : Int)) + (1 : Int)), N := x.V.N, S := x.V.S : DVal } : DTask }) ∧ x6 ≤ (4611686018427387903 : Int) ∧ (0 : Int) ≤ y.2.2.1 ∧ x2 < List.length x0 ∧ x2 < List.length x0 ∧ I_laws_markTaskS_2 a k (List.modify x0 x2 fun (x : DTask) => { F := x.F, Undo := x.Undo, State := x.State, Tries := x.Tries, Due := x.Due, V := { K := x.V.K, N := x.V.N, S := markText x6 : DVal } : DTask }, IntKind.wrap IntKind.i64 (x6 + (1 : Int)), IntKind.wrap IntKind.i64 (y.2.2.1 + (1 : Int)), PUnit.unit) ∧ μ_laws_markTaskS_2 a k (List.modify x0 x2 fun (x : DTask) => { F := x.F, Undo := x.Undo, State := x.State, Tries := x.Tries, Due := x.Due, V := { K := x.V.K, N := x.V.N, S := markText x6 : DVal } : DTask }, IntKind.wrap IntKind.i64 (x6 + (1 : Int)), IntKind.wrap IntKind.i64 (y.2.2.1 + (1 : Int)), PUnit.unit) < μ_laws_markTaskS_2 a k y else asD [DV.one (Cell.lit (Value.int IntKind.i64 y.2.1))] = asD [DV.one (Cell.lit (Value.int IntKind.i64 (k + (↑(cntTaskS a) : Int))))] ∧ asD [DV.one (Cell.sl Cd.eTask y.1)] = asD [DV.one (Cell.sl Cd.eTask (markTaskS a k))]) := by kernel_rfl
theorem ok_laws_markTaskS : Holds EE (28, con_laws_markTaskS) := by
  refine holds_of EE_ok Go.Proofs.Try.func28 con_laws_markTaskS (by kernel_rfl) rfl use_laws_markTaskS (all_cons ok_laws_markText (all_cons ok_laws_markValS all_nil)) ann_laws_markTaskS (fun x hp hb => ?_)
  obtain ⟨a, k⟩ := x
  have hb_a : BdDV (U := UU) (.one (.sl .eTask a)) := hb _ (List.mem_cons_self)
  have hl_a : a.length ≤ 9223372036854775807 := Bd.len hb_a
  have hb_k : BdDV (U := UU) (.one (.lit (.int .i64 k))) := hb _ (List.mem_cons_of_mem _ (List.mem_cons_self))
  have hl_k := Bd.i64 hb_k
  have hp0 : 0 ≤ k := hp _ (List.mem_cons_self)
  have hp1 : k + cntTaskS a ≤ 4611686018427387904 := hp _ (List.mem_cons_of_mem _ (List.mem_cons_self))
  clear hp hb
  rw [vc_laws_markTaskS a k]
  dsimp only
  refine ⟨⟨by omega, by omega, by simp, by simp [ctS]⟩, ?_⟩
  rintro ⟨row, kk, i, ⟨⟩⟩ ⟨h1, h2, rfl, rfl⟩
  simp only
  have hl := mk_rl markTask cntTask a k h1 h2
  refine if_cond (fun hc => ?_) (fun hc => ?_)
  · have hc : i < a.length := by have hc := of_decide_eq_true hc; omega
    have hct := ctS_take cntTask a zTask h1 hc
    have hle := ctS_take_le cntTask a (i + 1).toNat
    have hg := mk_getD _ a zTask (mk_tl markTask cntTask a k h1 h2) h1 hc
    have hM := fun F hF => mkS_mod markTask cntTask a zTask k (i := i) F h1 hc hF
    have hq : (cntTaskS a : Int) = ctS cntTask a := rfl
    generalize List.getD a i.toNat zTask = x at *
    generalize hkk : k + (ctS cntTask (a.take i.toNat) : Int) = kk at *
    generalize List.take i.toNat (mkS markTask cntTask a k) ++ List.drop i.toNat a = R at *
    simp only [cntTask] at hct
    simp (disch := first | omega | (simp only [List.length_modify]; omega)) only [List.length_modify, wrap_i64, getD_modify, modify_modify, hg, hl]
    repeat' (first | refine And.intro (by omega) ?_ | fail)
    exact ⟨⟨by omega, by omega, hM _ rfl, by omega⟩, by simp only [μ_laws_markTaskS_2]; omega⟩
  · have hc : a.length ≤ i := by have hc := of_decide_eq_false hc; omega
    rw [mk_done markTask cntTask a k hc, ct_done cntTask a hc]
    exact ⟨rfl, rfl⟩
def con_laws_heldTaskS : Con UU where
  α := (List DTask) × Int
  md := [.ro, .ro]
  of := fun | [.one (.sl .eTask a0), .one (.lit (.int .i64 a1))] => some (a0, a1) | _ => none
  ds := fun (a, k) => [.one (.sl .eTask a), .one (.lit (.int .i64 k))]
  pre := fun (a, k) => [0 ≤ k, k + cntTaskS a ≤ 4611686018427387904]
  res := fun (a, k) => ⟨[.one (.lit (.int .i64 (if markTaskS a k = a then k + cntTaskS a else -1)))], true, []⟩
  law := by intro l x h; (try simp only at h); split at h <;> cases h; rfl
def I_laws_heldTaskS_2 (a : (List DTask)) (k : Int) : Int × Int × Unit → Prop := fun (kk, i, _) => 0 ≤ i ∧ i ≤ a.length ∧ kk = k + ctS cntTask (a.take i.toNat) ∧ (mkS markTask cntTask (a.drop i.toNat) kk = a.drop i.toNat ↔ mkS markTask cntTask a k = a)
def μ_laws_heldTaskS_2 (a : (List DTask)) (k : Int) : Int × Int × Unit → Nat := fun (kk, i, _) => a.length - i.toNat
def ann_laws_heldTaskS : con_laws_heldTaskS.α → Nat → Option (Ann UU) := fun (a, k) => annL [(2, annOf [.slot 1 (1, 1024) (.lit (.int .i64)), .slot 5 (5, 1024) (.lit (.int .i64))] (fun _ => I_laws_heldTaskS_2 a k) (μ_laws_heldTaskS_2 a k))]
def use_laws_heldTaskS : List (FuncId × Con UU) := [(89, con_laws_markText), (91, con_laws_heldValS)]
theorem vc_laws_heldTaskS (a : (List DTask)) (k : Int) : goal EE use_laws_heldTaskS Go.Proofs.Try.f29 con_laws_heldTaskS ann_laws_heldTaskS (a, k) = (I_laws_heldTaskS_2 a k (k, (0 : Int), PUnit.unit) ∧
  ∀ (y : Int × Int × PUnit),
    let x0 : Int := if markValS (List.getD a (Int.toNat y.2.1) zTask).F.Fields (IntKind.wrap IntKind.i64 (y.1 + (1 : Int))) = (List.getD a (Int.toNat y.2.1) zTask).F.Fields then IntKind.wrap IntKind.i64 (y.1 + (1 : Int)) + (↑(cntValS (List.getD a (Int.toNat y.2.1) zTask).F.Fields) : Int) else (-1 : Int);
    let x1 : DTask := List.getD a (Int.toNat y.2.1) zTask;
    let x2 : Int := IntKind.wrap IntKind.i64 (IntKind.wrap IntKind.i64 (IntKind.wrap IntKind.i64 (IntKind.wrap IntKind.i64 (IntKind.wrap IntKind.i64 (IntKind.wrap IntKind.i64 (x0 + (1 : Int)) + (1 : Int)) + (1 : Int)) + (1 : Int)) + (1 : Int)) + (1 : Int));
    let x3 : Int := IntKind.wrap IntKind.i64 (IntKind.wrap IntKind.i64 (IntKind.wrap IntKind.i64 (IntKind.wrap IntKind.i64 (x0 + (1 : Int)) + (1 : Int)) + (1 : Int)) + (1 : Int));
    let x4 : Int := IntKind.wrap IntKind.i64 (IntKind.wrap IntKind.i64 (x0 + (1 : Int)) + (1 : Int));
    I_laws_heldTaskS_2 a k y → bif decide (y.2.1 < (↑(List.length a) : Int)) then (0 : Int) ≤ y.2.1 ∧ Int.toNat y.2.1 < List.length a ∧ y.1 ≤ (4611686018427387903 : Int) ∧ bif !ByteArray.toList x1.F.Kind == ByteArray.toList (markText y.1) then Lf [DV.one (Cell.lit (Value.int IntKind.i64 (-1 : Int)))] [DV.one (Cell.lit (Value.int IntKind.i64 (if markTaskS a k = a then k + (↑(cntTaskS a) : Int) else (-1 : Int))))] else (0 : Int) ≤ y.2.1 ∧ Int.toNat y.2.1 < List.length a ∧ (0 : Int) ≤ IntKind.wrap IntKind.i64 (y.1 + (1 : Int)) ∧ IntKind.wrap IntKind.i64 (y.1 + (1 : Int)) + (↑(cntValS x1.F.Fields) : Int) ≤ (4611686018427387904 : Int) ∧ bif decide (x0 < (0 : Int)) then Lf [DV.one (Cell.lit (Value.int IntKind.i64 (-1 : Int)))] [DV.one (Cell.lit (Value.int IntKind.i64 (if markTaskS a k = a then k + (↑(cntTaskS a) : Int) else (-1 : Int))))] else (0 : Int) ≤ y.2.1 ∧ Int.toNat y.2.1 < List.length a ∧ x0 ≤ (4611686018427387903 : Int) ∧ bif !ByteArray.toList x1.Undo == ByteArray.toList (markText x0) then Lf [DV.one (Cell.lit (Value.int IntKind.i64 (-1 : Int)))] [DV.one (Cell.lit (Value.int IntKind.i64 (if markTaskS a k = a then k + (↑(cntTaskS a) : Int) else (-1 : Int))))] else (0 : Int) ≤ y.2.1 ∧ Int.toNat y.2.1 < List.length a ∧ bif x1.State != IntKind.wrap IntKind.i64 (x0 + (1 : Int)) then Lf [DV.one (Cell.lit (Value.int IntKind.i64 (-1 : Int)))] [DV.one (Cell.lit (Value.int IntKind.i64 (if markTaskS a k = a then k + (↑(cntTaskS a) : Int) else (-1 : Int))))] else (0 : Int) ≤ y.2.1 ∧ Int.toNat y.2.1 < List.length a ∧ bif x1.Tries != x4 then Lf [DV.one (Cell.lit (Value.int IntKind.i64 (-1 : Int)))] [DV.one (Cell.lit (Value.int IntKind.i64 (if markTaskS a k = a then k + (↑(cntTaskS a) : Int) else (-1 : Int))))] else (0 : Int) ≤ y.2.1 ∧ Int.toNat y.2.1 < List.length a ∧ bif x1.Due != IntKind.wrap IntKind.i64 (x4 + (1 : Int)) then Lf [DV.one (Cell.lit (Value.int IntKind.i64 (-1 : Int)))] [DV.one (Cell.lit (Value.int IntKind.i64 (if markTaskS a k = a then k + (↑(cntTaskS a) : Int) else (-1 : Int))))] else (0 : Int) ≤ y.2.1 ∧ Int.toNat y.2.1 < List.length a ∧ bif x1.V.K != x3 then Lf [DV.one (Cell.lit (Value.int IntKind.i64 (-1 : Int)))] [DV.one (Cell.lit (Value.int IntKind.i64 (if markTaskS a k = a then k + (↑(cntTaskS a) : Int) else (-1 : Int))))] else (0 : Int) ≤ y.2.1 ∧ Int.toNat y.2.1 < List.length a ∧ bif x1.V.N != IntKind.wrap IntKind.i64 (x3 + (1 : Int)) then Lf [DV.one (Cell.lit (Value.int IntKind.i64 (-1 : Int)))] [DV.one (Cell.lit (Value.int IntKind.i64 (if markTaskS a k = a then k + (↑(cntTaskS a) : Int) else (-1 : Int))))] else (0 : Int) ≤ y.2.1 ∧ Int.toNat y.2.1 < List.length a ∧ x2 ≤ (4611686018427387903 : Int) ∧ bif !ByteArray.toList x1.V.S == ByteArray.toList (markText x2) then Lf [DV.one (Cell.lit (Value.int IntKind.i64 (-1 : Int)))] [DV.one (Cell.lit (Value.int IntKind.i64 (if markTaskS a k = a then k + (↑(cntTaskS a) : Int) else (-1 : Int))))] else I_laws_heldTaskS_2 a k (IntKind.wrap IntKind.i64 (x2 + (1 : Int)), IntKind.wrap IntKind.i64 (y.2.1 + (1 : Int)), PUnit.unit) ∧ μ_laws_heldTaskS_2 a k (IntKind.wrap IntKind.i64 (x2 + (1 : Int)), IntKind.wrap IntKind.i64 (y.2.1 + (1 : Int)), PUnit.unit) < μ_laws_heldTaskS_2 a k y else Lf [DV.one (Cell.lit (Value.int IntKind.i64 y.1))] [DV.one (Cell.lit (Value.int IntKind.i64 (if markTaskS a k = a then k + (↑(cntTaskS a) : Int) else (-1 : Int))))]) := by kernel_rfl
theorem ok_laws_heldTaskS : Holds EE (29, con_laws_heldTaskS) := by
  refine holds_of EE_ok Go.Proofs.Try.func29 con_laws_heldTaskS (by kernel_rfl) rfl use_laws_heldTaskS (all_cons ok_laws_markText (all_cons ok_laws_heldValS all_nil)) ann_laws_heldTaskS (fun x hp hb => ?_)
  obtain ⟨a, k⟩ := x
  have hb_a : BdDV (U := UU) (.one (.sl .eTask a)) := hb _ (List.mem_cons_self)
  have hl_a : a.length ≤ 9223372036854775807 := Bd.len hb_a
  have hb_k : BdDV (U := UU) (.one (.lit (.int .i64 k))) := hb _ (List.mem_cons_of_mem _ (List.mem_cons_self))
  have hl_k := Bd.i64 hb_k
  have hp0 : 0 ≤ k := hp _ (List.mem_cons_self)
  have hp1 : k + cntTaskS a ≤ 4611686018427387904 := hp _ (List.mem_cons_of_mem _ (List.mem_cons_self))
  clear hp hb
  rw [vc_laws_heldTaskS a k]
  dsimp only
  refine ⟨⟨by omega, by omega, by simp [ctS], by simp⟩, ?_⟩
  rintro ⟨kk, i, ⟨⟩⟩ ⟨h1, h2, hkk, hR⟩
  simp only
  simp only [markTaskS]
  refine if_cond (fun hc => ?_) (fun hc => ?_)
  · have hc : i < a.length := by have hc := of_decide_eq_true hc; omega
    have hct := ctS_take cntTask a zTask h1 hc
    have hle := ctS_take_le cntTask a (i + 1).toNat
    have hq : (cntTaskS a : Int) = ctS cntTask a := rfl
    rw [drop_step a zTask h1 hc] at hR
    generalize List.getD a i.toNat zTask = x at *
    simp only [mkS, List.cons.injEq] at hR
    have e : kk + (cntTask x : Int) = kk + 1 + (cntValS x.F.Fields : Int) + 1 + 1 + 1 + 1 + 1 + 1 + 1 := by simp only [cntTask]; omega
    rw [e] at hR
    simp only [markTask, cntTask] at hR hct
    simp (disch := omega) only [wrap_i64, bne_int, toList_beq]
    obtain ⟨⟨x_F_Kind, x_F_Fields⟩, x_Undo, x_State, x_Tries, x_Due, ⟨x_V_K, x_V_N, x_V_S⟩⟩ := x
    simp only [DFact.mk.injEq, DTask.mk.injEq, DVal.mk.injEq] at *
    repeat' (first | refine And.intro (by omega) ?_ | fail)
    refine if_cond (fun h => Lf_no (fun hh => ?_)) (fun h => ?_)
    · have hh := hR.2 hh; simp_all
    have h : x_F_Kind = markText (kk) := by simpa using h
    subst x_F_Kind
    repeat' (first | refine And.intro (by omega) ?_ | fail)
    by_cases hm : markValS x_F_Fields (kk + 1) = x_F_Fields
    rotate_left
    · simp only [if_neg hm]; rw [cond_yes (by decide)]
      exact Lf_no (fun hh => hm (by have hh := hR.2 hh; simp_all))
    simp only [if_pos hm]
    refine if_cond (fun h => absurd (of_decide_eq_true h) (by omega)) (fun h => ?_)
    simp only [hm] at hR
    clear hm
    repeat' (first | refine And.intro (by omega) ?_ | fail)
    refine if_cond (fun h => Lf_no (fun hh => ?_)) (fun h => ?_)
    · have hh := hR.2 hh; simp_all
    have h : x_Undo = markText (kk + 1 + cntValS x_F_Fields) := by simpa using h
    subst x_Undo
    repeat' (first | refine And.intro (by omega) ?_ | fail)
    refine if_cond (fun h => Lf_no (fun hh => ?_)) (fun h => ?_)
    · have hh := hR.2 hh; simp_all
    have h : x_State = kk + 1 + cntValS x_F_Fields + 1 := by simpa using h
    subst x_State
    repeat' (first | refine And.intro (by omega) ?_ | fail)
    refine if_cond (fun h => Lf_no (fun hh => ?_)) (fun h => ?_)
    · have hh := hR.2 hh; simp_all
    have h : x_Tries = kk + 1 + cntValS x_F_Fields + 1 + 1 := by simpa using h
    subst x_Tries
    repeat' (first | refine And.intro (by omega) ?_ | fail)
    refine if_cond (fun h => Lf_no (fun hh => ?_)) (fun h => ?_)
    · have hh := hR.2 hh; simp_all
    have h : x_Due = kk + 1 + cntValS x_F_Fields + 1 + 1 + 1 := by simpa using h
    subst x_Due
    repeat' (first | refine And.intro (by omega) ?_ | fail)
    refine if_cond (fun h => Lf_no (fun hh => ?_)) (fun h => ?_)
    · have hh := hR.2 hh; simp_all
    have h : x_V_K = kk + 1 + cntValS x_F_Fields + 1 + 1 + 1 + 1 := by simpa using h
    subst x_V_K
    repeat' (first | refine And.intro (by omega) ?_ | fail)
    refine if_cond (fun h => Lf_no (fun hh => ?_)) (fun h => ?_)
    · have hh := hR.2 hh; simp_all
    have h : x_V_N = kk + 1 + cntValS x_F_Fields + 1 + 1 + 1 + 1 + 1 := by simpa using h
    subst x_V_N
    repeat' (first | refine And.intro (by omega) ?_ | fail)
    refine if_cond (fun h => Lf_no (fun hh => ?_)) (fun h => ?_)
    · have hh := hR.2 hh; simp_all
    have h : x_V_S = markText (kk + 1 + cntValS x_F_Fields + 1 + 1 + 1 + 1 + 1 + 1) := by simpa using h
    subst x_V_S
    exact ⟨⟨by omega, by omega, by omega, by simpa using hR⟩, by simp only [μ_laws_heldTaskS_2]; omega⟩
  · have hc : a.length ≤ i := by have hc := of_decide_eq_false hc; omega
    rw [drop_end a hc] at hR
    exact Lf_yes (hR.1 rfl) (by rw [hkk, ct_done _ _ hc]; rfl)
def allI (n : Nat) (p : Nat → Bool) : Bool := (List.range n).all p
theorem allI_true {n : Nat} {p : Nat → Bool} (h : ∀ j, j < n → p j = true) : allI n p = true := by simpa [allI] using h
theorem allI_false {n : Nat} {p : Nat → Bool} {j : Nat} (h : j < n) (hj : p j = false) : allI n p = false := by
  simp only [allI, List.all_eq_false, List.mem_range]
  exact ⟨j, h, by simp [hj]⟩
theorem upto_step {i : Int} {p : Nat → Bool} (h0 : 0 ≤ i) (h : ∀ j : Nat, (j : Int) < i → p j = true) (hi : p i.toNat = true) : ∀ j : Nat, (j : Int) < i + 1 → p j = true := by
  intro j hj
  by_cases hji : (j : Int) < i
  · exact h j hji
  · have : j = i.toNat := by omega
    subst this; exact hi
def timerOk (x : DTimer) : Bool := decide (0 ≤ x.At ∧ x.At ≤ 1000000000) && factOk x.F
def timerAt (l : List DTimer) (i : Nat) : Bool := timerOk (List.getD l i zTimer) && (decide (i = 0) || decide ((List.getD l (i - 1) zTimer).At ≤ (List.getD l i zTimer).At))
def timersOk (l : List DTimer) : Bool := decide (l.length ≤ 30) && allI l.length (timerAt l)
/-- The first place where p holds; -1. -/
def idxI (n : Nat) (p : Nat → Bool) : Int := match (List.range n).find? p with | some i => i | none => -1
def anyI (n : Nat) (p : Nat → Bool) : Bool := (List.range n).any p
theorem idxI_found {n i : Nat} {p : Nat → Bool} (h : i < n) (hp : p i = true) (hj : ∀ j, j < i → p j = false) : idxI n p = i := by
  have : (List.range n).find? p = some i := by
    rw [List.find?_range_eq_some]
    exact ⟨hp, List.mem_range.2 h, fun j hj' => by simp [hj j hj']⟩
  simp [idxI, this]
theorem idxI_none {n : Nat} {p : Nat → Bool} (hj : ∀ j, j < n → p j = false) : idxI n p = -1 := by
  have : (List.range n).find? p = none := by
    rw [List.find?_eq_none]
    intro j hj'
    simp [hj j (List.mem_range.1 hj')]
  simp [idxI, this]
theorem idxI_cases (n : Nat) (p : Nat → Bool) : (idxI n p = -1 ∧ ∀ j, j < n → p j = false) ∨ ∃ i, i < n ∧ idxI n p = (i : Int) ∧ p i = true ∧ ∀ j, j < i → p j = false := by
  cases h : (List.range n).find? p with
  | none =>
    refine .inl ⟨by simp [idxI, h], fun j hj => ?_⟩
    have := List.find?_eq_none.1 h j (List.mem_range.2 hj)
    simpa using this
  | some i =>
    rw [List.find?_range_eq_some] at h
    obtain ⟨h1, h2, h3⟩ := h
    exact .inr ⟨i, List.mem_range.1 h2, idxI_found (List.mem_range.1 h2) h1 (fun j hj => by simpa using h3 j hj), h1, fun j hj => by simpa using h3 j hj⟩
theorem idxI_congr {n : Nat} {p q : Nat → Bool} (h : ∀ j, j < n → p j = q j) : idxI n p = idxI n q := by
  rcases idxI_cases n q with ⟨h1, h2⟩ | ⟨i, h1, h2, h3, h4⟩
  · rw [h1, idxI_none (fun j hj => by rw [h j hj, h2 j hj])]
  · rw [h2, idxI_found h1 (by rw [h i h1, h3]) (fun j hj => by rw [h j (by omega), h4 j hj])]
theorem anyI_true {n j : Nat} {p : Nat → Bool} (h : j < n) (hp : p j = true) : anyI n p = true := by
  simp only [anyI, List.any_eq_true, List.mem_range]
  exact ⟨j, h, hp⟩
theorem anyI_false {n : Nat} {p : Nat → Bool} (h : ∀ j, j < n → p j = false) : anyI n p = false := by
  simp only [anyI, List.any_eq_false, List.mem_range]
  exact fun j hj => by simp [h j hj]
theorem anyI_iff {n : Nat} {p : Nat → Bool} : anyI n p = true ↔ ∃ j, j < n ∧ p j = true := by
  simp only [anyI, List.any_eq_true, List.mem_range]
theorem anyI_not {n : Nat} {p : Nat → Bool} : anyI n p = false ↔ ∀ j, j < n → p j = false := by
  simp only [anyI, List.any_eq_false, List.mem_range, Bool.not_eq_true]
theorem allI_iff {n : Nat} {p : Nat → Bool} : allI n p = true ↔ ∀ j, j < n → p j = true := by
  simp only [allI, List.all_eq_true, List.mem_range]
theorem allI_not {n : Nat} {p : Nat → Bool} : allI n p = false ↔ ∃ j, j < n ∧ p j = false := by
  simp only [allI, List.all_eq_false, List.mem_range, Bool.not_eq_true]
theorem anyI_congr {n : Nat} {p q : Nat → Bool} (h : ∀ j, j < n → p j = q j) : anyI n p = anyI n q := by
  rw [Bool.eq_iff_iff, anyI_iff, anyI_iff]
  exact ⟨fun ⟨j, h1, h2⟩ => ⟨j, h1, by rw [← h j h1]; exact h2⟩, fun ⟨j, h1, h2⟩ => ⟨j, h1, by rw [h j h1]; exact h2⟩⟩
theorem allI_congr {n : Nat} {p q : Nat → Bool} (h : ∀ j, j < n → p j = q j) : allI n p = allI n q := by
  rw [Bool.eq_iff_iff, allI_iff, allI_iff]
  exact ⟨fun g j hj => by rw [← h j hj]; exact g j hj, fun g j hj => by rw [h j hj]; exact g j hj⟩
theorem idxI_ge {n : Nat} {p : Nat → Bool} : decide (0 ≤ idxI n p) = anyI n p := by
  rcases idxI_cases n p with ⟨h1, h2⟩ | ⟨i, h1, h2, h3, h4⟩
  · rw [h1, anyI_false h2]; rfl
  · rw [h2, anyI_true h1 h3]; simp
theorem getD_take {α : Type} (l : List α) (z : α) {i j : Nat} (h : j < i) : List.getD (l.take i) j z = List.getD l j z := by
  rw [List.getD_eq_getElem?_getD, List.getD_eq_getElem?_getD, List.getElem?_take, if_pos h]
/-- What a closure answers. -/
theorem closP_of {k : Con UU} {caps : List (DV UU)} {ds : List (DA UU)} {x : k.α} {v : Value} (h : k.of (ds.map DA.dv ++ caps) = some x) (hv : (k.res x).val = [.one (.lit v)]) (hm : (k.res x).muts = [])
    (hl : k.md.length = ds.length + caps.length) (hp : ∀ p ∈ k.pre x, p) : closP k caps ds = some v := by
  unfold closP
  simp only [h, hv, hm]
  rw [if_pos ⟨hl, hp⟩]
theorem val_beq (a b : DVal) : (a.K == b.K && (a.N == b.N && (ByteArray.toList a.S == ByteArray.toList b.S && true))) = decide (a = b) := by
  obtain ⟨K, N, S⟩ := a
  obtain ⟨K', N', S'⟩ := b
  simp only [toList_beq, Bool.and_true]
  rw [Bool.eq_iff_iff]
  simp only [Bool.and_eq_true, beq_iff_eq, decide_eq_true_eq, DVal.mk.injEq]
/-- The end of a search. -/
theorem upto_no {i : Int} {p : Nat → Bool} (h0 : 0 ≤ i) (h : ∀ j : Nat, (j : Int) < i → p j = false) (hi : p i.toNat = false) : ∀ j : Nat, (j : Int) < i + 1 → p j = false := by
  intro j hj
  by_cases hji : (j : Int) < i
  · exact h j hji
  · have : j = i.toNat := by omega
    subst this; exact hi
def daUndo (x : DUndo) : DA UU := ⟨true, [.lit (.string x.Key), .lit (.string x.F.Kind), .sl .eVal x.F.Fields]⟩
def undoAt (l : List DUndo) (i : Nat) : Bool := decide (1 ≤ (List.getD l i zUndo).Key.size ∧ (List.getD l i zUndo).Key.size ≤ 200) && factOk (List.getD l i zUndo).F && !(anyI i fun k => decide ((List.getD l k zUndo).Key = (List.getD l i zUndo).Key))
def undosOk (l : List DUndo) : Bool := decide (l.length ≤ 30) && allI l.length (undoAt l)
def hasKey (l : List DUndo) (key : ByteArray) : Bool := anyI l.length fun k => decide ((List.getD l k zUndo).Key = key)
def undoLast (l : List DUndo) : DFact := if l = [] then zFact else (List.getD l (l.length - 1) zUndo).F
theorem undoLast_ct (l : List DUndo) : ctFact (undoLast l) ≤ 20 * sizeUndoS l := by
  unfold undoLast
  split
  · exact Nat.zero_le _
  · rename_i hl
    have h0 : 0 < l.length := List.length_pos_iff.2 hl
    have h1 : (l.length - 1 : Int).toNat = l.length - 1 := by omega
    have hs := sum_getD_le sizeUndo l zUndo (i := l.length - 1) (by omega) (by omega)
    rw [h1] at hs
    have := ctFact_le (List.getD l (l.length - 1) zUndo).F
    simp only [sizeUndo] at hs
    simp only [sizeUndoS, sizeUndo]
    omega
theorem sum_take_le {α : Type} (f : α → Nat) (l : List α) (n : Nat) : ((l.take n).map f).sum ≤ (l.map f).sum := by
  have h := congrArg (fun q => (q.map f).sum) (List.take_append_drop n l)
  simp only [List.map_append, List.sum_append] at h
  omega
theorem sizeUndoS_take (l : List DUndo) (n : Nat) : sizeUndoS (l.take n) ≤ sizeUndoS l := by
  have := sum_take_le sizeUndo l n
  simp only [sizeUndoS, List.length_take]
  omega
def con_slices_CloneVal : Con UU where
  α := (List DVal)
  md := [.ro]
  of := fun | [.one (.sl .eVal a0)] => some a0 | _ => none
  ds := fun l => [.one (.sl .eVal l)]
  pre := fun l => [l.length ≤ 4294967296]
  res := fun l => ⟨[.one (.sl .eVal l)], true, []⟩
  law := by intro l x h; (try simp only at h); split at h <;> cases h; rfl
def ann_slices_CloneVal : con_slices_CloneVal.α → Nat → Option (Ann UU) := fun l => annL []
def use_slices_CloneVal : List (FuncId × Con UU) := []
theorem vc_slices_CloneVal (l : (List DVal)) : goalN EE use_slices_CloneVal Go.Proofs.Try.f160 con_slices_CloneVal ann_slices_CloneVal l .eVal l false = ((0 : Nat) + List.length l ≤ (4294967296 : Nat) ∧ Lf [DV.one (Cell.sl Cd.eVal ([] ++ l))] [DV.one (Cell.sl Cd.eVal l)]) := by kernel_rfl
theorem vc2_slices_CloneVal : goalN EE use_slices_CloneVal Go.Proofs.Try.f160 con_slices_CloneVal ann_slices_CloneVal [] .eVal [] true = (Lf [DV.one (Cell.sl Cd.eVal [])] [DV.one (Cell.sl Cd.eVal [])]) := by kernel_rfl
theorem vd2_slices_CloneVal : goalN EE use_slices_CloneVal Go.Proofs.Try.f160 con_slices_CloneVal ann_slices_CloneVal [] .eVal [] true := by
  rw [vc2_slices_CloneVal]
  exact Lf_rfl _
theorem ok_slices_CloneVal : Holds EE (160, con_slices_CloneVal) := by
  refine holds_ofN EE_ok Go.Proofs.Try.func160 con_slices_CloneVal (by kernel_rfl) rfl .eVal (fun x => x) (fun _ => rfl) use_slices_CloneVal all_nil ann_slices_CloneVal (fun (l : (List DVal)) hp hb => ?_)
  have hb_l : BdDV (U := UU) (.one (.sl .eVal l)) := hb _ (List.mem_cons_self)
  have hl_l : l.length ≤ 9223372036854775807 := Bd.len hb_l
  have hp0 : l.length ≤ 4294967296 := hp _ (List.mem_cons_self)
  clear hp hb
  refine ⟨?_, fun h0 => ?_⟩
  rotate_left
  · subst h0; exact vd2_slices_CloneVal
  rw [vc_slices_CloneVal l]
  exact ⟨by simp; omega, Lf_rfl _⟩
def con_spec_l3Copy : Con UU where
  α := DFact
  md := [.ro]
  of := fun | [.agg [.lit (.string a0), .sl .eVal a1]] => some ⟨a0, a1⟩ | _ => none
  ds := fun f => [.agg [.lit (.string f.Kind), .sl .eVal f.Fields]]
  pre := fun f => [f.Fields.length ≤ 4294967296]
  res := fun f => ⟨[.agg [.lit (.string f.Kind), .sl .eVal f.Fields]], true, []⟩
  law := by intro l x h; (try simp only at h); split at h <;> cases h; rfl
def ann_spec_l3Copy : con_spec_l3Copy.α → Nat → Option (Ann UU) := fun f => annL []
def use_spec_l3Copy : List (FuncId × Con UU) := []
theorem vc_spec_l3Copy (f : DFact) : goal EE use_spec_l3Copy Go.Proofs.Try.f108 con_spec_l3Copy ann_spec_l3Copy f = ((0 : Nat) + List.length f.Fields ≤ (4294967296 : Nat) ∧ Lf [DV.agg [Cell.lit (Value.string f.Kind), Cell.sl Cd.eVal ([] ++ f.Fields)]] [DV.agg [Cell.lit (Value.string f.Kind), Cell.sl Cd.eVal f.Fields]]) := by kernel_rfl
theorem ok_spec_l3Copy : Holds EE (108, con_spec_l3Copy) := by
  refine holds_of EE_ok Go.Proofs.Try.func108 con_spec_l3Copy (by kernel_rfl) rfl use_spec_l3Copy all_nil ann_spec_l3Copy (fun (f : DFact) hp hb => ?_)
  have hb_f : BdDV (U := UU) (.agg [.lit (.string f.Kind), .sl .eVal f.Fields]) := hb _ (List.mem_cons_self)
  have hl_f_Kind : f.Kind.size ≤ 9223372036854775807 := Bd.str (hb_f _ (by simp))
  have hl_f_Fields : f.Fields.length ≤ 9223372036854775807 := Bd.len (U := UU) (τ := .eVal) (xs := f.Fields) (hb_f _ (by simp))
  have hp0 : f.Fields.length ≤ 4294967296 := hp _ (List.mem_cons_self)
  clear hp hb
  rw [vc_spec_l3Copy f]
  exact ⟨by simp; omega, Lf_rfl _⟩
def con_impl_copyFact : Con UU where
  α := DFact
  md := [.ro]
  of := fun | [.agg [.lit (.string a0), .sl .eVal a1]] => some ⟨a0, a1⟩ | _ => none
  ds := fun f => [.agg [.lit (.string f.Kind), .sl .eVal f.Fields]]
  pre := fun f => [f.Fields.length ≤ 4294967296]
  res := fun f => ⟨[.agg [.lit (.string f.Kind), .sl .eVal f.Fields]], true, []⟩
  law := by intro l x h; (try simp only at h); split at h <;> cases h; rfl
def ann_impl_copyFact : con_impl_copyFact.α → Nat → Option (Ann UU) := fun f => annL []
def use_impl_copyFact : List (FuncId × Con UU) := [(160, con_slices_CloneVal)]
theorem vc_impl_copyFact (f : DFact) : goal EE use_impl_copyFact Go.Proofs.Try.f113 con_impl_copyFact ann_impl_copyFact f = (List.length f.Fields ≤ (4294967296 : Nat) ∧ Lf [DV.agg [Cell.lit (Value.string f.Kind), Cell.sl Cd.eVal f.Fields]] [DV.agg [Cell.lit (Value.string f.Kind), Cell.sl Cd.eVal f.Fields]]) := by kernel_rfl
theorem ok_impl_copyFact : Holds EE (113, con_impl_copyFact) := by
  refine holds_of EE_ok Go.Proofs.Try.func113 con_impl_copyFact (by kernel_rfl) rfl use_impl_copyFact (all_cons ok_slices_CloneVal all_nil) ann_impl_copyFact (fun (f : DFact) hp hb => ?_)
  have hb_f : BdDV (U := UU) (.agg [.lit (.string f.Kind), .sl .eVal f.Fields]) := hb _ (List.mem_cons_self)
  have hl_f_Kind : f.Kind.size ≤ 9223372036854775807 := Bd.str (hb_f _ (by simp))
  have hl_f_Fields : f.Fields.length ≤ 9223372036854775807 := Bd.len (U := UU) (τ := .eVal) (xs := f.Fields) (hb_f _ (by simp))
  have hp0 : f.Fields.length ≤ 4294967296 := hp _ (List.mem_cons_self)
  clear hp hb
  rw [vc_impl_copyFact f]
  exact ⟨hp0, Lf_rfl _⟩
def undoOk (s : ByteArray) : Bool := decide (s = noBytes) || nameOk s
def taskOk (t : DTask) : Bool := factOk t.F && undoOk t.Undo && decide (1 ≤ t.State ∧ t.State ≤ 4) && decide (0 ≤ t.Tries ∧ t.Tries ≤ 4) && decide (0 ≤ t.Due ∧ t.Due ≤ 1000001000) && (decide (t.V = zVal) || valOk t.V) && decide ((t.State = 1 → t.Tries = 0) ∧ (t.State = 2 → t.Tries ≠ 0))
def taskAt (l : List DTask) (i : Nat) : Bool := taskOk (List.getD l i zTask) && !(anyI i fun k => decide ((List.getD l k zTask).F = (List.getD l i zTask).F))
def tasksOk (l : List DTask) : Bool := decide (l.length ≤ 30) && allI l.length (taskAt l)
def placeOf (l : List DTask) (f : DFact) : Int := idxI l.length fun k => decide ((List.getD l k zTask).F = f)
def isOpen (t : DTask) : Bool := decide (t.State = 1 ∨ t.State = 2)
def giveUp1 (t : DTask) : DTask := if t.State = 1 ∨ t.State = 2 then ⟨t.F, t.Undo, 4, t.Tries, t.Due, t.V⟩ else t
def giveUp (l : List DTask) : List DTask := l.map giveUp1
def daTask (x : DTask) : DA UU := ⟨true, [.lit (.string x.F.Kind), .sl .eVal x.F.Fields, .lit (.string x.Undo), .lit (.int .i64 x.State), .lit (.int .i64 x.Tries), .lit (.int .i64 x.Due), .lit (.int .i64 x.V.K), .lit (.int .i64 x.V.N), .lit (.string x.V.S)]⟩
theorem fact_ext {a b : DFact} : a = b ↔ a.Kind = b.Kind ∧ a.Fields = b.Fields := by
  obtain ⟨k, f⟩ := a; obtain ⟨k', f'⟩ := b; simp
theorem map_mod {α : Type} (f : α → α) (l : List α) (z : α) {i : Int} (F : α → α) (h0 : 0 ≤ i) (h : i < l.length) (hF : F (List.getD l i.toNat z) = f (List.getD l i.toNat z)) :
    ((l.map f).take i.toNat ++ l.drop i.toNat).modify i.toNat F = (l.map f).take (i + 1).toNat ++ l.drop (i + 1).toNat := by
  have hn : i.toNat < l.length := by omega
  have e : (i + 1).toNat = i.toNat + 1 := by omega
  have ht : ((l.map f).take i.toNat).length = i.toNat := by rw [List.length_take, List.length_map]; omega
  rw [modify_set _ z, mk_getD _ l z ht h0 h, hF, drop_step l z h0 h, List.set_append_right _ _ (by rw [ht]; exact Nat.le_refl _), ht, Nat.sub_self, List.set_cons_zero, e, List.take_succ_eq_append_getElem (by simpa using hn), List.append_assoc, List.getElem_map]
  rw [List.getD_eq_getElem?_getD, List.getElem?_eq_getElem hn]
  rfl
theorem map_skip {α : Type} (f : α → α) (l : List α) (z : α) {i : Int} (h0 : 0 ≤ i) (h : i < l.length) (hF : List.getD l i.toNat z = f (List.getD l i.toNat z)) :
    (l.map f).take i.toNat ++ l.drop i.toNat = (l.map f).take (i + 1).toNat ++ l.drop (i + 1).toNat := by
  rw [← map_mod f l z (fun x => x) h0 h hF]
  have : ∀ (m : List α) (n : Nat), m.modify n (fun x => x) = m := by
    intro m n
    refine List.ext_getElem? fun j => ?_
    rw [List.getElem?_modify]
    cases m[j]? <;> simp
  rw [this]
theorem map_row {α : Type} (f : α → α) (l : List α) {i : Int} (h0 : 0 ≤ i) (h : i ≤ l.length) : ((l.map f).take i.toNat ++ l.drop i.toNat).length = l.length := by
  rw [List.length_append, List.length_take, List.length_map, List.length_drop]; omega
theorem map_tl {α : Type} (f : α → α) (l : List α) {i : Int} (h0 : 0 ≤ i) (h : i ≤ l.length) : ((l.map f).take i.toNat).length = i.toNat := by
  rw [List.length_take, List.length_map]; omega
theorem map_done {α : Type} (f : α → α) (l : List α) {i : Int} (h : l.length ≤ i) : (l.map f).take i.toNat ++ l.drop i.toNat = l.map f := by
  rw [List.drop_eq_nil_of_le (by omega), List.append_nil, List.take_of_length_le (by rw [List.length_map]; omega)]
theorem size_map_giveUp (l : List DTask) : cntTaskS (giveUp l) = cntTaskS l := by
  unfold cntTaskS giveUp ctS
  rw [List.map_map]
  congr 1
  refine List.map_congr_left fun t _ => ?_
  simp only [Function.comp, giveUp1]
  split <;> rfl
def instNew (now : Int) : DInst := if 0 ≤ now ∧ now ≤ 1000000000 then ⟨⟨[], 1⟩, [], [], [], [], 1, now⟩ else zInst
theorem instNew_ct (n : Int) : ctInst (instNew n) = 0 := by unfold instNew; split <;> rfl
def con_spec_l18Copy : Con UU where
  α := (List DTask)
  md := [.ro]
  of := fun | [.one (.sl .eTask a0)] => some a0 | _ => none
  ds := fun l => [.one (.sl .eTask l)]
  pre := fun l => [sizeTaskS l ≤ 4294967296]
  res := fun l => ⟨[.one (.sl .eTask l)], true, []⟩
  law := by intro l x h; (try simp only at h); split at h <;> cases h; rfl
def I_spec_l18Copy_3 (l : (List DTask)) : List DTask × Int × Unit → Prop := fun (out, i, _) => 0 ≤ i ∧ i ≤ l.length ∧ out = l.take i.toNat
def μ_spec_l18Copy_3 (l : (List DTask)) : List DTask × Int × Unit → Nat := fun (out, i, _) => l.length - i.toNat
def ann_spec_l18Copy : con_spec_l18Copy.α → Nat → Option (Ann UU) := fun l => annL [(3, annOf [.slot 3 (3, 1024) (.own .eTask true), .slot 4 (4, 1024) (.lit (.int .i64))] (fun _ => I_spec_l18Copy_3 l) (μ_spec_l18Copy_3 l))]
def use_spec_l18Copy : List (FuncId × Con UU) := [(108, con_spec_l3Copy)]
theorem vc_spec_l18Copy (l : (List DTask)) : goal EE use_spec_l18Copy Go.Proofs.Try.f84 con_spec_l18Copy ann_spec_l18Copy l = (I_spec_l18Copy_3 l ([], (0 : Int), PUnit.unit) ∧
  ∀ (y : List DTask × Int × PUnit),
    let x0 : List DTask := [List.getD l (Int.toNat y.2.1) zTask];
    let x1 : Nat := Int.toNat y.2.1;
    I_spec_l18Copy_3 l y → bif decide (y.2.1 < (↑(List.length l) : Int)) then (0 : Int) ≤ y.2.1 ∧ x1 < List.length l ∧ List.length (List.getD l x1 zTask).F.Fields ≤ (4294967296 : Nat) ∧ List.length y.1 + List.length x0 ≤ (4294967296 : Nat) ∧ I_spec_l18Copy_3 l (y.1 ++ x0, IntKind.wrap IntKind.i64 (y.2.1 + (1 : Int)), PUnit.unit) ∧ μ_spec_l18Copy_3 l (y.1 ++ x0, IntKind.wrap IntKind.i64 (y.2.1 + (1 : Int)), PUnit.unit) < μ_spec_l18Copy_3 l y else Lf [DV.one (Cell.sl Cd.eTask y.1)] [DV.one (Cell.sl Cd.eTask l)]) := by kernel_rfl
theorem ok_spec_l18Copy : Holds EE (84, con_spec_l18Copy) := by
  refine holds_of EE_ok Go.Proofs.Try.func84 con_spec_l18Copy (by kernel_rfl) rfl use_spec_l18Copy (all_cons ok_spec_l3Copy all_nil) ann_spec_l18Copy (fun (l : (List DTask)) hp hb => ?_)
  have hb_l : BdDV (U := UU) (.one (.sl .eTask l)) := hb _ (List.mem_cons_self)
  have hl_l : l.length ≤ 9223372036854775807 := Bd.len hb_l
  have hp0 : sizeTaskS l ≤ 4294967296 := hp _ (List.mem_cons_self)
  clear hp hb
  rw [vc_spec_l18Copy l]
  dsimp only
  refine ⟨⟨by omega, by omega, by simp⟩, ?_⟩
  rintro ⟨out, i, ⟨⟩⟩ ⟨h1, h2, rfl⟩
  simp only
  refine if_cond (fun hc => ?_) (fun hc => ?_)
  · have hc := of_decide_eq_true hc
    have hs := sum_getD_le sizeTask l zTask h1 hc
    simp only [sizeTaskS] at hp0
    have hx := hs
    simp only [sizeTask, sizeFact, sizeValS] at hx
    rw [take_step l zTask h1 hc, wrap_i64 (by omega) (by omega)]
    repeat' (first | refine And.intro (by omega) ?_ | fail)
    refine ⟨by simp; omega, ⟨by omega, by omega, rfl⟩, by simp only [μ_spec_l18Copy_3]; omega⟩
  · have hc := of_decide_eq_false hc
    rw [take_all l (by omega)]
    exact Lf_rfl _
def con_impl_copyTasks : Con UU where
  α := (List DTask)
  md := [.ro]
  of := fun | [.one (.sl .eTask a0)] => some a0 | _ => none
  ds := fun l => [.one (.sl .eTask l)]
  pre := fun l => [sizeTaskS l ≤ 4294967296]
  res := fun l => ⟨[.one (.sl .eTask l)], true, []⟩
  law := by intro l x h; (try simp only at h); split at h <;> cases h; rfl
def I_impl_copyTasks_3 (l : (List DTask)) : List DTask × Int × Unit → Prop := fun (out, i, _) => 0 ≤ i ∧ i ≤ l.length ∧ out = l.take i.toNat
def μ_impl_copyTasks_3 (l : (List DTask)) : List DTask × Int × Unit → Nat := fun (out, i, _) => l.length - i.toNat
def ann_impl_copyTasks : con_impl_copyTasks.α → Nat → Option (Ann UU) := fun l => annL [(3, annOf [.slot 3 (3, 1024) (.own .eTask true), .slot 8 (8, 1024) (.lit (.int .i64))] (fun _ => I_impl_copyTasks_3 l) (μ_impl_copyTasks_3 l))]
def use_impl_copyTasks : List (FuncId × Con UU) := [(113, con_impl_copyFact)]
theorem vc_impl_copyTasks (l : (List DTask)) : goal EE use_impl_copyTasks Go.Proofs.Try.f86 con_impl_copyTasks ann_impl_copyTasks l = (I_impl_copyTasks_3 l ([], (0 : Int), PUnit.unit) ∧
  ∀ (y : List DTask × Int × PUnit),
    let x0 : List DTask := [List.getD l (Int.toNat y.2.1) zTask];
    let x1 : Nat := Int.toNat y.2.1;
    I_impl_copyTasks_3 l y → bif decide (y.2.1 < (↑(List.length l) : Int)) then (0 : Int) ≤ y.2.1 ∧ x1 < List.length l ∧ List.length (List.getD l x1 zTask).F.Fields ≤ (4294967296 : Nat) ∧ List.length y.1 + List.length x0 ≤ (4294967296 : Nat) ∧ I_impl_copyTasks_3 l (y.1 ++ x0, IntKind.wrap IntKind.i64 (y.2.1 + (1 : Int)), PUnit.unit) ∧ μ_impl_copyTasks_3 l (y.1 ++ x0, IntKind.wrap IntKind.i64 (y.2.1 + (1 : Int)), PUnit.unit) < μ_impl_copyTasks_3 l y else Lf [DV.one (Cell.sl Cd.eTask y.1)] [DV.one (Cell.sl Cd.eTask l)]) := by kernel_rfl
theorem ok_impl_copyTasks : Holds EE (86, con_impl_copyTasks) := by
  refine holds_of EE_ok Go.Proofs.Try.func86 con_impl_copyTasks (by kernel_rfl) rfl use_impl_copyTasks (all_cons ok_impl_copyFact all_nil) ann_impl_copyTasks (fun (l : (List DTask)) hp hb => ?_)
  have hb_l : BdDV (U := UU) (.one (.sl .eTask l)) := hb _ (List.mem_cons_self)
  have hl_l : l.length ≤ 9223372036854775807 := Bd.len hb_l
  have hp0 : sizeTaskS l ≤ 4294967296 := hp _ (List.mem_cons_self)
  clear hp hb
  rw [vc_impl_copyTasks l]
  dsimp only
  refine ⟨⟨by omega, by omega, by simp⟩, ?_⟩
  rintro ⟨out, i, ⟨⟩⟩ ⟨h1, h2, rfl⟩
  simp only
  refine if_cond (fun hc => ?_) (fun hc => ?_)
  · have hc := of_decide_eq_true hc
    have hs := sum_getD_le sizeTask l zTask h1 hc
    simp only [sizeTaskS] at hp0
    have hx := hs
    simp only [sizeTask, sizeFact, sizeValS] at hx
    rw [take_step l zTask h1 hc, wrap_i64 (by omega) (by omega)]
    repeat' (first | refine And.intro (by omega) ?_ | fail)
    refine ⟨by simp; omega, ⟨by omega, by omega, rfl⟩, by simp only [μ_impl_copyTasks_3]; omega⟩
  · have hc := of_decide_eq_false hc
    rw [take_all l (by omega)]
    exact Lf_rfl _
def con_impl_isOpen : Con UU where
  α := DTask
  md := [.ro]
  of := fun | [.agg [.lit (.string a0), .sl .eVal a1, .lit (.string a2), .lit (.int .i64 a3), .lit (.int .i64 a4), .lit (.int .i64 a5), .lit (.int .i64 a6), .lit (.int .i64 a7), .lit (.string a8)]] => some ⟨⟨a0, a1⟩, a2, a3, a4, a5, ⟨a6, a7, a8⟩⟩ | _ => none
  ds := fun t => [.agg [.lit (.string t.F.Kind), .sl .eVal t.F.Fields, .lit (.string t.Undo), .lit (.int .i64 t.State), .lit (.int .i64 t.Tries), .lit (.int .i64 t.Due), .lit (.int .i64 t.V.K), .lit (.int .i64 t.V.N), .lit (.string t.V.S)]]
  pre := fun t => []
  res := fun t => ⟨[.one (.lit (.bool (isOpen t)))], true, []⟩
  law := by intro l x h; (try simp only at h); split at h <;> cases h; rfl
def ann_impl_isOpen : con_impl_isOpen.α → Nat → Option (Ann UU) := fun t => annL []
def use_impl_isOpen : List (FuncId × Con UU) := []
theorem vc_impl_isOpen (t : DTask) : goal EE use_impl_isOpen Go.Proofs.Try.f87 con_impl_isOpen ann_impl_isOpen t = (bif t.State == (1 : Int) then Lf [DV.one (Cell.lit (Value.bool true))] [DV.one (Cell.lit (Value.bool (isOpen t)))] else Lf [DV.one (Cell.lit (Value.bool (t.State == (2 : Int))))] [DV.one (Cell.lit (Value.bool (isOpen t)))]) := by kernel_rfl
theorem ok_impl_isOpen : Holds EE (87, con_impl_isOpen) := by
  refine holds_of EE_ok Go.Proofs.Try.func87 con_impl_isOpen (by kernel_rfl) rfl use_impl_isOpen all_nil ann_impl_isOpen (fun (t : DTask) hp hb => ?_)
  have hb_t : BdDV (U := UU) (.agg [.lit (.string t.F.Kind), .sl .eVal t.F.Fields, .lit (.string t.Undo), .lit (.int .i64 t.State), .lit (.int .i64 t.Tries), .lit (.int .i64 t.Due), .lit (.int .i64 t.V.K), .lit (.int .i64 t.V.N), .lit (.string t.V.S)]) := hb _ (List.mem_cons_self)
  have hl_t_F_Kind : t.F.Kind.size ≤ 9223372036854775807 := Bd.str (hb_t _ (by simp))
  have hl_t_F_Fields : t.F.Fields.length ≤ 9223372036854775807 := Bd.len (U := UU) (τ := .eVal) (xs := t.F.Fields) (hb_t _ (by simp))
  have hl_t_Undo : t.Undo.size ≤ 9223372036854775807 := Bd.str (hb_t _ (by simp))
  have hl_t_V_S : t.V.S.size ≤ 9223372036854775807 := Bd.str (hb_t _ (by simp))
  clear hp hb
  rw [vc_impl_isOpen t]
  simp only [isOpen]
  refine if_cond (fun h => Lf_b ?_) (fun h => Lf_b ?_) <;> grind
def con_spec_GiveUp : Con UU where
  α := (List DTask)
  md := [.ro]
  of := fun | [.one (.sl .eTask a0)] => some a0 | _ => none
  ds := fun l => [.one (.sl .eTask l)]
  pre := fun l => [sizeTaskS l ≤ 4294967296]
  res := fun l => ⟨[.one (.sl .eTask (giveUp l))], true, []⟩
  law := by intro l x h; (try simp only at h); split at h <;> cases h; rfl
def I_spec_GiveUp_3 (l : (List DTask)) : List DTask × Int × Unit → Prop := fun (out, i, _) => 0 ≤ i ∧ i ≤ l.length ∧ out = (l.map giveUp1).take i.toNat ++ l.drop i.toNat
def μ_spec_GiveUp_3 (l : (List DTask)) : List DTask × Int × Unit → Nat := fun (out, i, _) => l.length - i.toNat
def ann_spec_GiveUp : con_spec_GiveUp.α → Nat → Option (Ann UU) := fun l => annL [(3, annOf [.slot 3 (3, 1024) (.own .eTask true), .slot 4 (4, 1024) (.lit (.int .i64))] (fun _ => I_spec_GiveUp_3 l) (μ_spec_GiveUp_3 l))]
def use_spec_GiveUp : List (FuncId × Con UU) := [(84, con_spec_l18Copy)]
theorem vc_spec_GiveUp (l : (List DTask)) : goal EE use_spec_GiveUp Go.Proofs.Try.f24 con_spec_GiveUp ann_spec_GiveUp l = (sizeTaskS l ≤ (4294967296 : Nat) ∧
  I_spec_GiveUp_3 l (l, (0 : Int), PUnit.unit) ∧
    ∀ (y : List DTask × Int × PUnit),
      let x0 : Nat := Int.toNat y.2.1;
      I_spec_GiveUp_3 l y → bif decide (y.2.1 < (↑(List.length y.1) : Int)) then (0 : Int) ≤ y.2.1 ∧ x0 < List.length y.1 ∧ x0 < List.length y.1 ∧ bif (List.getD y.1 x0 zTask).State == (1 : Int) then (0 : Int) ≤ y.2.1 ∧ x0 < List.length y.1 ∧ x0 < List.length y.1 ∧ I_spec_GiveUp_3 l (List.modify y.1 x0 fun (x : DTask) => { F := x.F, Undo := x.Undo, State := (4 : Int), Tries := x.Tries, Due := x.Due, V := x.V : DTask }, IntKind.wrap IntKind.i64 (y.2.1 + (1 : Int)), PUnit.unit) ∧ μ_spec_GiveUp_3 l (List.modify y.1 x0 fun (x : DTask) => { F := x.F, Undo := x.Undo, State := (4 : Int), Tries := x.Tries, Due := x.Due, V := x.V : DTask }, IntKind.wrap IntKind.i64 (y.2.1 + (1 : Int)), PUnit.unit) < μ_spec_GiveUp_3 l y else (0 : Int) ≤ y.2.1 ∧ x0 < List.length y.1 ∧ x0 < List.length y.1 ∧ bif (List.getD y.1 x0 zTask).State == (2 : Int) then (0 : Int) ≤ y.2.1 ∧ x0 < List.length y.1 ∧ x0 < List.length y.1 ∧ I_spec_GiveUp_3 l (List.modify y.1 x0 fun (x : DTask) => { F := x.F, Undo := x.Undo, State := (4 : Int), Tries := x.Tries, Due := x.Due, V := x.V : DTask }, IntKind.wrap IntKind.i64 (y.2.1 + (1 : Int)), PUnit.unit) ∧ μ_spec_GiveUp_3 l (List.modify y.1 x0 fun (x : DTask) => { F := x.F, Undo := x.Undo, State := (4 : Int), Tries := x.Tries, Due := x.Due, V := x.V : DTask }, IntKind.wrap IntKind.i64 (y.2.1 + (1 : Int)), PUnit.unit) < μ_spec_GiveUp_3 l y else I_spec_GiveUp_3 l (y.1, IntKind.wrap IntKind.i64 (y.2.1 + (1 : Int)), PUnit.unit) ∧ μ_spec_GiveUp_3 l (y.1, IntKind.wrap IntKind.i64 (y.2.1 + (1 : Int)), PUnit.unit) < μ_spec_GiveUp_3 l y else Lf [DV.one (Cell.sl Cd.eTask y.1)] [DV.one (Cell.sl Cd.eTask (giveUp l))]) := by kernel_rfl
theorem ok_spec_GiveUp : Holds EE (24, con_spec_GiveUp) := by
  refine holds_of EE_ok Go.Proofs.Try.func24 con_spec_GiveUp (by kernel_rfl) rfl use_spec_GiveUp (all_cons ok_spec_l18Copy all_nil) ann_spec_GiveUp (fun (l : (List DTask)) hp hb => ?_)
  have hb_l : BdDV (U := UU) (.one (.sl .eTask l)) := hb _ (List.mem_cons_self)
  have hl_l : l.length ≤ 9223372036854775807 := Bd.len hb_l
  have hp0 : sizeTaskS l ≤ 4294967296 := hp _ (List.mem_cons_self)
  clear hp hb
  rw [vc_spec_GiveUp l]
  dsimp only
  refine ⟨hp0, ⟨by omega, by omega, by simp⟩, ?_⟩
  rintro ⟨out, i, ⟨⟩⟩ ⟨h1, h2, rfl⟩
  have hl := map_row giveUp1 l h1 h2
  simp only
  refine if_cond (fun hc => ?_) (fun hc => ?_)
  · have hc := of_decide_eq_true hc
    have hc : i < l.length := by omega
    have hg := mk_getD _ l zTask (map_tl giveUp1 l h1 h2) h1 hc
    rw [hg, wrap_i64 (by omega) (by omega), hl]
    repeat' (first | refine And.intro (by omega) ?_ | refine if_cond (fun h => ?_) (fun h => ?_) | fail)
    all_goals first
      | (rw [map_mod giveUp1 l zTask _ h1 hc (by simp only [giveUp1]; grind)]; exact ⟨⟨by omega, by omega, rfl⟩, by simp only [μ_spec_GiveUp_3]; omega⟩)
      | (have hs := map_skip giveUp1 l zTask h1 hc (by simp only [giveUp1]; grind); exact ⟨⟨by omega, by omega, hs⟩, by simp only [μ_spec_GiveUp_3]; omega⟩)
  · have hc := of_decide_eq_false hc
    rw [map_done giveUp1 l (by omega)]
    exact Lf_rfl _
def con_impl_GiveUp : Con UU where
  α := (List DTask)
  md := [.ro]
  of := fun | [.one (.sl .eTask a0)] => some a0 | _ => none
  ds := fun l => [.one (.sl .eTask l)]
  pre := fun l => [sizeTaskS l ≤ 4294967296]
  res := fun l => ⟨[.one (.sl .eTask (giveUp l))], true, []⟩
  law := by intro l x h; (try simp only at h); split at h <;> cases h; rfl
def I_impl_GiveUp_3 (l : (List DTask)) : List DTask × Int × Unit → Prop := fun (out, i, _) => 0 ≤ i ∧ i ≤ l.length ∧ out = (l.map giveUp1).take i.toNat ++ l.drop i.toNat
def μ_impl_GiveUp_3 (l : (List DTask)) : List DTask × Int × Unit → Nat := fun (out, i, _) => l.length - i.toNat
def ann_impl_GiveUp : con_impl_GiveUp.α → Nat → Option (Ann UU) := fun l => annL [(3, annOf [.slot 3 (3, 1024) (.own .eTask true), .slot 9 (9, 1024) (.lit (.int .i64))] (fun _ => I_impl_GiveUp_3 l) (μ_impl_GiveUp_3 l))]
def use_impl_GiveUp : List (FuncId × Con UU) := [(86, con_impl_copyTasks), (87, con_impl_isOpen)]
theorem vc_impl_GiveUp (l : (List DTask)) : goal EE use_impl_GiveUp Go.Proofs.Try.f26 con_impl_GiveUp ann_impl_GiveUp l = (sizeTaskS l ≤ (4294967296 : Nat) ∧
  I_impl_GiveUp_3 l (l, (0 : Int), PUnit.unit) ∧
    ∀ (y : List DTask × Int × PUnit),
      let x0 : Nat := Int.toNat y.2.1;
      I_impl_GiveUp_3 l y → bif decide (y.2.1 < (↑(List.length l) : Int)) then (0 : Int) ≤ y.2.1 ∧ x0 < List.length y.1 ∧ x0 < List.length y.1 ∧ x0 < List.length y.1 ∧ bif isOpen (List.getD y.1 x0 zTask) then (0 : Int) ≤ y.2.1 ∧ x0 < List.length y.1 ∧ x0 < List.length y.1 ∧ I_impl_GiveUp_3 l (List.modify y.1 x0 fun (x : DTask) => { F := x.F, Undo := x.Undo, State := (4 : Int), Tries := x.Tries, Due := x.Due, V := x.V : DTask }, IntKind.wrap IntKind.i64 (y.2.1 + (1 : Int)), PUnit.unit) ∧ μ_impl_GiveUp_3 l (List.modify y.1 x0 fun (x : DTask) => { F := x.F, Undo := x.Undo, State := (4 : Int), Tries := x.Tries, Due := x.Due, V := x.V : DTask }, IntKind.wrap IntKind.i64 (y.2.1 + (1 : Int)), PUnit.unit) < μ_impl_GiveUp_3 l y else I_impl_GiveUp_3 l (y.1, IntKind.wrap IntKind.i64 (y.2.1 + (1 : Int)), PUnit.unit) ∧ μ_impl_GiveUp_3 l (y.1, IntKind.wrap IntKind.i64 (y.2.1 + (1 : Int)), PUnit.unit) < μ_impl_GiveUp_3 l y else Lf [DV.one (Cell.sl Cd.eTask y.1)] [DV.one (Cell.sl Cd.eTask (giveUp l))]) := by kernel_rfl
theorem ok_impl_GiveUp : Holds EE (26, con_impl_GiveUp) := by
  refine holds_of EE_ok Go.Proofs.Try.func26 con_impl_GiveUp (by kernel_rfl) rfl use_impl_GiveUp (all_cons ok_impl_copyTasks (all_cons ok_impl_isOpen all_nil)) ann_impl_GiveUp (fun (l : (List DTask)) hp hb => ?_)
  have hb_l : BdDV (U := UU) (.one (.sl .eTask l)) := hb _ (List.mem_cons_self)
  have hl_l : l.length ≤ 9223372036854775807 := Bd.len hb_l
  have hp0 : sizeTaskS l ≤ 4294967296 := hp _ (List.mem_cons_self)
  clear hp hb
  rw [vc_impl_GiveUp l]
  dsimp only
  refine ⟨hp0, ⟨by omega, by omega, by simp⟩, ?_⟩
  rintro ⟨out, i, ⟨⟩⟩ ⟨h1, h2, rfl⟩
  have hl := map_row giveUp1 l h1 h2
  simp only
  refine if_cond (fun hc => ?_) (fun hc => ?_)
  · have hc := of_decide_eq_true hc
    have hc : i < l.length := by omega
    have hg := mk_getD _ l zTask (map_tl giveUp1 l h1 h2) h1 hc
    rw [hg, wrap_i64 (by omega) (by omega), hl]
    have hio : isOpen (List.getD l i.toNat zTask) = decide ((List.getD l i.toNat zTask).State = 1 ∨ (List.getD l i.toNat zTask).State = 2) := rfl
    rw [hio]
    repeat' (first | refine And.intro (by omega) ?_ | refine if_cond (fun h => ?_) (fun h => ?_) | fail)
    all_goals first
      | (rw [map_mod giveUp1 l zTask _ h1 hc (by simp only [giveUp1]; grind)]; exact ⟨⟨by omega, by omega, rfl⟩, by simp only [μ_impl_GiveUp_3]; omega⟩)
      | (have hs := map_skip giveUp1 l zTask h1 hc (by simp only [giveUp1]; grind); exact ⟨⟨by omega, by omega, hs⟩, by simp only [μ_impl_GiveUp_3]; omega⟩)
  · have hc := of_decide_eq_false hc
    rw [map_done giveUp1 l (by omega)]
    exact Lf_rfl _
def con_laws_FnExactGiveUp : Con UU where
  α := (List DTask)
  md := [.ro]
  of := fun | [.one (.sl .lTask a0)] => some a0 | _ => none
  ds := fun aL => [.one (.sl .lTask aL)]
  pre := fun aL => []
  res := fun aL => ⟨[.one (.lit (.bool true))], true, []⟩
  law := by intro l x h; (try simp only at h); split at h <;> cases h; rfl
def ann_laws_FnExactGiveUp : con_laws_FnExactGiveUp.α → Nat → Option (Ann UU) := fun aL => annL []
def use_laws_FnExactGiveUp : List (FuncId × Con UU) := [(23, con_laws_szTaskS), (25, con_laws_toTaskS), (24, con_spec_GiveUp), (26, con_impl_GiveUp), (27, con_laws_eqTaskS), (28, con_laws_markTaskS), (29, con_laws_heldTaskS)]
theorem vc_laws_FnExactGiveUp (aL : (List DTask)) : goal EE use_laws_FnExactGiveUp Go.Proofs.Try.f5 con_laws_FnExactGiveUp ann_laws_FnExactGiveUp aL = (let x0 : Bool := decide ((if markTaskS (markTaskS (giveUp aL) (1 : Int)) (1 : Int) = markTaskS (giveUp aL) (1 : Int) then (1 : Int) + (↑(cntTaskS (markTaskS (giveUp aL) (1 : Int))) : Int) else (-1 : Int)) < (0 : Int));
let x1 : Bool := (if markTaskS (markTaskS (giveUp aL) (1 : Int)) (1 : Int) = markTaskS (giveUp aL) (1 : Int) then (1 : Int) + (↑(cntTaskS (markTaskS (giveUp aL) (1 : Int))) : Int) else (-1 : Int)) != (1 : Int) + (↑(cntTaskS (giveUp aL)) : Int);
let x2 : Bool := !decide (giveUp aL = giveUp aL);
(0 : Int) ≤ (1048576 : Int) ∧ bif decide (szr (1048576 : Int) (sizeTaskS aL) < (0 : Int)) then Lf [DV.one (Cell.lit (Value.bool true))] [DV.one (Cell.lit (Value.bool true))] else sizeTaskS aL ≤ (4294967296 : Nat) ∧ sizeTaskS aL ≤ (4294967296 : Nat) ∧ sizeTaskS aL ≤ (4294967296 : Nat) ∧ sizeTaskS aL ≤ (4294967296 : Nat) ∧ bif x2 then Lf [DV.one (Cell.lit (Value.bool false))] [DV.one (Cell.lit (Value.bool true))] else sizeTaskS aL ≤ (4294967296 : Nat) ∧ bif !decide (aL = aL) then Lf [DV.one (Cell.lit (Value.bool false))] [DV.one (Cell.lit (Value.bool true))] else (0 : Int) ≤ (1 : Int) ∧ (1 : Int) + (↑(cntTaskS aL) : Int) ≤ (4611686018427387904 : Int) ∧ bif x2 then Lf [DV.one (Cell.lit (Value.bool false))] [DV.one (Cell.lit (Value.bool true))] else (0 : Int) ≤ (1 : Int) ∧ (1 : Int) + (↑(cntTaskS (giveUp aL)) : Int) ≤ (4611686018427387904 : Int) ∧ (0 : Int) ≤ (1 : Int) ∧ (1 : Int) + (↑(cntTaskS (markTaskS (giveUp aL) (1 : Int))) : Int) ≤ (4611686018427387904 : Int) ∧ bif x0 then Lf [DV.one (Cell.lit (Value.bool false))] [DV.one (Cell.lit (Value.bool true))] else bif x1 then Lf [DV.one (Cell.lit (Value.bool false))] [DV.one (Cell.lit (Value.bool true))] else sizeTaskS aL ≤ (4294967296 : Nat) ∧ sizeTaskS aL ≤ (4294967296 : Nat) ∧ bif x2 then Lf [DV.one (Cell.lit (Value.bool false))] [DV.one (Cell.lit (Value.bool true))] else (0 : Int) ≤ (1 : Int) ∧ (1 : Int) + (↑(cntTaskS (markTaskS (giveUp aL) (1 : Int))) : Int) ≤ (4611686018427387904 : Int) ∧ bif x0 then Lf [DV.one (Cell.lit (Value.bool false))] [DV.one (Cell.lit (Value.bool true))] else bif x1 then Lf [DV.one (Cell.lit (Value.bool false))] [DV.one (Cell.lit (Value.bool true))] else Lf [DV.one (Cell.lit (Value.bool true))] [DV.one (Cell.lit (Value.bool true))]) := by kernel_rfl
theorem ok_laws_FnExactGiveUp : Holds EE (5, con_laws_FnExactGiveUp) := by
  refine holds_of EE_ok Go.Proofs.Try.func5 con_laws_FnExactGiveUp (by kernel_rfl) rfl use_laws_FnExactGiveUp (all_cons ok_laws_szTaskS (all_cons ok_laws_toTaskS (all_cons ok_spec_GiveUp (all_cons ok_impl_GiveUp (all_cons ok_laws_eqTaskS (all_cons ok_laws_markTaskS (all_cons ok_laws_heldTaskS all_nil))))))) ann_laws_FnExactGiveUp (fun (aL : (List DTask)) hp hb => ?_)
  have hb_aL : BdDV (U := UU) (.one (.sl .lTask aL)) := hb _ (List.mem_cons_self)
  have hl_aL : aL.length ≤ 9223372036854775807 := Bd.len hb_aL
  clear hp hb
  rw [vc_laws_FnExactGiveUp aL]
  dsimp only
  refine ⟨by omega, if_cond (fun h => Lf_rfl _) (fun h => ?_)⟩
  obtain ⟨e0, h0⟩ := szr_pos h
  have hc := cntTaskS_le aL
  have hc2 := size_map_giveUp aL
  simp only [markTaskS_idem, markTaskS_ct, if_true]
  repeat' (first | exact Lf_rfl _ | refine And.intro (by omega) ?_ | refine if_cond (fun h => absurd h (by first | (simp; done) | (simp; omega))) (fun h => ?_) | fail)
end
end AM
