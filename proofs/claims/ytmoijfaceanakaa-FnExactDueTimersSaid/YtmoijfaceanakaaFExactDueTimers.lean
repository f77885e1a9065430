/- Functions of the program with their contracts: put together by gen/link.py for FnExactDueTimers. -/
import Derived.Test.YtmoijfaceanakaaAmLib
import Derived.Test.YtmoijfaceanakaaAmModels
namespace AM
open Go
set_option linter.unusedVariables false
set_option linter.unusedSimpArgs false
set_option maxRecDepth 100000
noncomputable section
def con_laws_markText : Con UU where
  α := Int
  md := [.ro]
  of := fun | [.one (.lit (.int .i64 a0))] => some a0 | _ => none
  ds := fun k => [.one (.lit (.int .i64 k))]
  pre := fun k => [k ≤ 4611686018427387903]
  res := fun k => ⟨[.one (.lit (.string (markText k)))], true, []⟩
  law := by intro l x h; (try simp only at h); split at h <;> cases h; rfl
def I_laws_markText_4 (k : Int) : Int × ByteArray × Unit → Prop := fun (j, out, _) => 0 ≤ j ∧ j ≤ k ∧ (∃ l d, out = ⟨l.toArray⟩ ∧ j.toNat ≤ d ∧ mtl d j.toNat l = mtl k.toNat k.toNat [] ∧ l.length ≤ k - j)
def μ_laws_markText_4 (k : Int) : Int × ByteArray × Unit → Nat := fun (j, out, _) => j.toNat
def ann_laws_markText : con_laws_markText.α → Nat → Option (Ann UU) := fun k => annL [(4, annOf [.slot 0 (0, 1024) (.lit (.int .i64)), .slot 3 (3, 1024) (.lit .str)] (fun _ => I_laws_markText_4 k) (μ_laws_markText_4 k))]
def use_laws_markText : List (FuncId × Con UU) := []
theorem vc_laws_markText (k : Int) : goal EE use_laws_markText Go.Proofs.Try.f66 con_laws_markText ann_laws_markText k = (bif decide (k ≤ (0 : Int)) then Lf [DV.one (Cell.lit (Value.string { data := #[(109 : UInt8), (48 : UInt8)] : ByteArray }))] [DV.one (Cell.lit (Value.string (markText k)))]
else
  I_laws_markText_4 k (k, { data := #[] : ByteArray }, PUnit.unit) ∧
    ∀ (y : Int × ByteArray × PUnit),
      let x0 : Nat := ByteArray.size y.2.1;
      let x1 : ByteArray := strOfNums (List.map (fun (x : Cd.T Cd.byte) => x) [IntKind.wrap IntKind.u8 (IntKind.wrap IntKind.i64 ((48 : Int) + Int.tmod y.1 (10 : Int)))]);
      I_laws_markText_4 k y → bif decide (y.1 > (0 : Int)) then (10 : Int) ≠ (0 : Int) ∧ ByteArray.size x1 + x0 ≤ (4611686018427387904 : Nat) ∧ (10 : Int) ≠ (0 : Int) ∧ I_laws_markText_4 k (IntKind.wrap IntKind.i64 (Int.tdiv y.1 (10 : Int)), x1 ++ y.2.1, PUnit.unit) ∧ μ_laws_markText_4 k (IntKind.wrap IntKind.i64 (Int.tdiv y.1 (10 : Int)), x1 ++ y.2.1, PUnit.unit) < μ_laws_markText_4 k y else ByteArray.size { data := #[(109 : UInt8)] : ByteArray } + x0 ≤ (4611686018427387904 : Nat) ∧ Lf [DV.one (Cell.lit (Value.string ({ data := #[(109 : UInt8)] : ByteArray } ++ y.2.1)))] [DV.one (Cell.lit (Value.string (markText k)))]) := by kernel_rfl
theorem ok_laws_markText : Holds EE (66, con_laws_markText) := by
  refine holds_of EE_ok Go.Proofs.Try.func66 con_laws_markText (by kernel_rfl) use_laws_markText all_nil ann_laws_markText (fun (k : Int) hp hb => ?_)
  have hb_k : BdDV (U := UU) (.one (.lit (.int .i64 k))) := hb _ (List.mem_cons_self)
  have hl_k := Bd.i64 hb_k
  have hp0 : k ≤ 4611686018427387903 := hp _ (List.mem_cons_self)
  clear hp hb
  rw [vc_laws_markText k]
  dsimp only
  refine if_cond (fun h => Lf_s ?_) (fun h => ?_)
  · have h := of_decide_eq_true h; simp only [markText]; rw [if_pos h]
  have h0 := of_decide_eq_false h
  refine ⟨⟨by omega, by omega, [], k.toNat, rfl, Nat.le_refl _, rfl, by simp⟩, ?_⟩
  rintro ⟨j, out, ⟨⟩⟩ ⟨h1, h2, l, d, rfl, hd, hm, hl⟩
  simp only
  have hz : ∀ l : List UInt8, (ByteArray.mk l.toArray).size = l.length := fun l => by simp [ByteArray.size]
  refine if_cond (fun h => ?_) (fun h => ?_)
  · have h := of_decide_eq_true h
    have ht : Int.tmod j 10 = j % 10 := Int.tmod_eq_emod_of_nonneg h1
    have hq : Int.tdiv j 10 = j / 10 := Int.tdiv_eq_ediv_of_nonneg h1
    have hu : IntKind.wrap .u8 (48 + j % 10) = 48 + j % 10 := by simp only [IntKind.wrap]; simp [IntKind.bits, IntKind.signed]; omega
    rw [ht, hq, wrap_i64 (by omega) (by omega), wrap_i64 (by omega) (by omega), hu]
    have hs : ∀ l : List UInt8, strOfNums (List.map (fun (x : Int) => x) [48 + j % 10]) ++ (⟨l.toArray⟩ : ByteArray) = ⟨((UInt8.ofNat (48 + j.toNat % 10)) :: l).toArray⟩ := fun l => by
      have e : (48 + j % 10).toNat = 48 + j.toNat % 10 := by omega
      simp only [strOfNums, List.map_cons, List.map_nil, e]
      apply ByteArray.ext
      simp
    have hs1 : (strOfNums (List.map (fun (x : Int) => x) [48 + j % 10])).size = 1 := rfl
    refine ⟨by omega, by erw [hs1]; rw [hz]; omega, by omega, ⟨by omega, by omega, _, d - 1, hs l, by omega, ?_, by simp only [List.length_cons]; omega⟩, by simp only [μ_laws_markText_4]; omega⟩
    rw [← hm]
    obtain ⟨d, rfl⟩ : ∃ e, d = e + 1 := ⟨d - 1, by omega⟩
    have e : (j / 10).toNat = j.toNat / 10 := by omega
    rw [e]
    simp only [Nat.add_sub_cancel, mtl]
    rw [if_neg (by omega)]
  · have h := of_decide_eq_false h
    have hj : j.toNat = 0 := by omega
    rw [hj, mtl_zero] at hm
    refine ⟨by rw [hz]; simp [ByteArray.size]; omega, Lf_s ?_⟩
    simp only [markText]
    rw [if_neg h0, ← hm]
    apply ByteArray.ext
    simp
def con_laws_szVal : Con UU where
  α := DVal × Int
  md := [.ro, .ro]
  of := fun | [.agg [.lit (.int .i64 a0), .lit (.int .i64 a1), .lit (.string a2)], .one (.lit (.int .i64 a3))] => some (⟨a0, a1, a2⟩, a3) | _ => none
  ds := fun (a, left) => [.agg [.lit (.int .i64 a.K), .lit (.int .i64 a.N), .lit (.string a.S)], .one (.lit (.int .i64 left))]
  pre := fun (a, left) => [0 ≤ left]
  res := fun (a, left) => ⟨[.one (.lit (.int .i64 (szr left (sizeVal a))))], true, []⟩
  law := by intro l x h; (try simp only at h); split at h <;> cases h; rfl
def ann_laws_szVal : con_laws_szVal.α → Nat → Option (Ann UU) := fun (a, left) => annL []
def use_laws_szVal : List (FuncId × Con UU) := []
theorem vc_laws_szVal (a : DVal) (left : Int) : goal EE use_laws_szVal Go.Proofs.Try.f122 con_laws_szVal ann_laws_szVal (a, left) = (let x0 : Int := IntKind.wrap IntKind.i64 (left - (↑(ByteArray.size a.S) : Int));
bif decide (x0 < (0 : Int)) then Lf [DV.one (Cell.lit (Value.int IntKind.i64 (-1 : Int)))] [DV.one (Cell.lit (Value.int IntKind.i64 (szr left (sizeVal a))))] else Lf [DV.one (Cell.lit (Value.int IntKind.i64 x0))] [DV.one (Cell.lit (Value.int IntKind.i64 (szr left (sizeVal a))))]) := by kernel_rfl
theorem ok_laws_szVal : Holds EE (122, con_laws_szVal) := by
  refine holds_of EE_ok Go.Proofs.Try.func122 con_laws_szVal (by kernel_rfl) use_laws_szVal all_nil ann_laws_szVal (fun x hp hb => ?_)
  obtain ⟨a, left⟩ := x
  have hb_a : BdDV (U := UU) (.agg [.lit (.int .i64 a.K), .lit (.int .i64 a.N), .lit (.string a.S)]) := hb _ (List.mem_cons_self)
  have hl_a_S : a.S.size ≤ 9223372036854775807 := Bd.str (hb_a _ (by simp))
  have hb_left : BdDV (U := UU) (.one (.lit (.int .i64 left))) := hb _ (List.mem_cons_of_mem _ (List.mem_cons_self))
  have hl_left := Bd.i64 hb_left
  have hp0 : 0 ≤ left := hp _ (List.mem_cons_self)
  clear hp hb
  rw [vc_laws_szVal a left]
  dsimp only
  rw [wrap_i64 (by omega) (by omega)]
  refine if_cond (fun h => Lf_i (szr_bad' ?_)) (fun h => ?_)
  · have h := of_decide_eq_true h; simp only [sizeVal]; omega
  have h0 := of_decide_eq_false h
  exact Lf_i (by rw [← szr_ok' (by simp only [sizeVal]; omega)]; simp only [sizeVal]; try omega)
def con_laws_toVal : Con UU where
  α := DVal
  md := [.ro]
  of := fun | [.agg [.lit (.int .i64 a0), .lit (.int .i64 a1), .lit (.string a2)]] => some ⟨a0, a1, a2⟩ | _ => none
  ds := fun a => [.agg [.lit (.int .i64 a.K), .lit (.int .i64 a.N), .lit (.string a.S)]]
  pre := fun a => [sizeVal a ≤ 4294967296]
  res := fun a => ⟨[.agg [.lit (.int .i64 a.K), .lit (.int .i64 a.N), .lit (.string a.S)]], true, []⟩
  law := by intro l x h; (try simp only at h); split at h <;> cases h; rfl
def ann_laws_toVal : con_laws_toVal.α → Nat → Option (Ann UU) := fun a => annL []
def use_laws_toVal : List (FuncId × Con UU) := []
theorem vc_laws_toVal (a : DVal) : goal EE use_laws_toVal Go.Proofs.Try.f123 con_laws_toVal ann_laws_toVal a = (Lf [DV.agg [Cell.lit (Value.int IntKind.i64 a.K), Cell.lit (Value.int IntKind.i64 a.N), Cell.lit (Value.string a.S)]] [DV.agg [Cell.lit (Value.int IntKind.i64 a.K), Cell.lit (Value.int IntKind.i64 a.N), Cell.lit (Value.string a.S)]]) := by kernel_rfl
theorem ok_laws_toVal : Holds EE (123, con_laws_toVal) := by
  refine holds_of EE_ok Go.Proofs.Try.func123 con_laws_toVal (by kernel_rfl) use_laws_toVal all_nil ann_laws_toVal (fun (a : DVal) hp hb => ?_)
  have hb_a : BdDV (U := UU) (.agg [.lit (.int .i64 a.K), .lit (.int .i64 a.N), .lit (.string a.S)]) := hb _ (List.mem_cons_self)
  have hl_a_S : a.S.size ≤ 9223372036854775807 := Bd.str (hb_a _ (by simp))
  have hp0 : sizeVal a ≤ 4294967296 := hp _ (List.mem_cons_self)
  clear hp hb
  rw [vc_laws_toVal a]
  simp only [sizeVal] at hp0
  repeat' (first | exact Lf_rfl _ | (refine And.intro (by omega) ?_))
def con_laws_eqVal : Con UU where
  α := DVal × DVal
  md := [.ro, .ro]
  of := fun | [.agg [.lit (.int .i64 a0), .lit (.int .i64 a1), .lit (.string a2)], .agg [.lit (.int .i64 a3), .lit (.int .i64 a4), .lit (.string a5)]] => some (⟨a0, a1, a2⟩, ⟨a3, a4, a5⟩) | _ => none
  ds := fun (a, b) => [.agg [.lit (.int .i64 a.K), .lit (.int .i64 a.N), .lit (.string a.S)], .agg [.lit (.int .i64 b.K), .lit (.int .i64 b.N), .lit (.string b.S)]]
  pre := fun (a, b) => []
  res := fun (a, b) => ⟨[.one (.lit (.bool (decide (a = b))))], true, []⟩
  law := by intro l x h; (try simp only at h); split at h <;> cases h; rfl
def ann_laws_eqVal : con_laws_eqVal.α → Nat → Option (Ann UU) := fun (a, b) => annL []
def use_laws_eqVal : List (FuncId × Con UU) := []
theorem vc_laws_eqVal (a : DVal) (b : DVal) : goal EE use_laws_eqVal Go.Proofs.Try.f125 con_laws_eqVal ann_laws_eqVal (a, b) = (bif a.K != b.K then Lf [DV.one (Cell.lit (Value.bool false))] [DV.one (Cell.lit (Value.bool (decide (a = b))))] else bif a.N != b.N then Lf [DV.one (Cell.lit (Value.bool false))] [DV.one (Cell.lit (Value.bool (decide (a = b))))] else bif !ByteArray.toList a.S == ByteArray.toList b.S then Lf [DV.one (Cell.lit (Value.bool false))] [DV.one (Cell.lit (Value.bool (decide (a = b))))] else Lf [DV.one (Cell.lit (Value.bool true))] [DV.one (Cell.lit (Value.bool (decide (a = b))))]) := by kernel_rfl
theorem ok_laws_eqVal : Holds EE (125, con_laws_eqVal) := by
  refine holds_of EE_ok Go.Proofs.Try.func125 con_laws_eqVal (by kernel_rfl) use_laws_eqVal all_nil ann_laws_eqVal (fun x hp hb => ?_)
  obtain ⟨a, b⟩ := x
  have hb_a : BdDV (U := UU) (.agg [.lit (.int .i64 a.K), .lit (.int .i64 a.N), .lit (.string a.S)]) := hb _ (List.mem_cons_self)
  have hl_a_S : a.S.size ≤ 9223372036854775807 := Bd.str (hb_a _ (by simp))
  have hb_b : BdDV (U := UU) (.agg [.lit (.int .i64 b.K), .lit (.int .i64 b.N), .lit (.string b.S)]) := hb _ (List.mem_cons_of_mem _ (List.mem_cons_self))
  have hl_b_S : b.S.size ≤ 9223372036854775807 := Bd.str (hb_b _ (by simp))
  clear hp hb
  rw [vc_laws_eqVal a b]
  obtain ⟨aK, aN, aS⟩ := a
  obtain ⟨bK, bN, bS⟩ := b
  repeat' (apply if_cond <;> intro _)
  all_goals (first | apply Lf_t | apply Lf_f) <;> simp_all
def con_laws_szValS : Con UU where
  α := (List DVal) × Int
  md := [.ro, .ro]
  of := fun | [.one (.sl .lVal a0), .one (.lit (.int .i64 a1))] => some (a0, a1) | _ => none
  ds := fun (a, left) => [.one (.sl .lVal a), .one (.lit (.int .i64 left))]
  pre := fun (a, left) => [0 ≤ left]
  res := fun (a, left) => ⟨[.one (.lit (.int .i64 (szr left (sizeValS a))))], true, []⟩
  law := by intro l x h; (try simp only at h); split at h <;> cases h; rfl
def I_laws_szValS_5 (a : (List DVal)) (left : Int) : Int × Int × Unit → Prop := fun (lf, i, _) => 0 ≤ lf ∧ 0 ≤ i ∧ i ≤ a.length ∧ szr lf ((a.drop i.toNat).map sizeVal).sum = szr left (sizeValS a)
def μ_laws_szValS_5 (a : (List DVal)) (left : Int) : Int × Int × Unit → Nat := fun (lf, i, _) => a.length - i.toNat
def ann_laws_szValS : con_laws_szValS.α → Nat → Option (Ann UU) := fun (a, left) => annL [(5, annOf [.slot 1 (1, 1024) (.lit (.int .i64)), .slot 5 (5, 1024) (.lit (.int .i64))] (fun _ => I_laws_szValS_5 a left) (μ_laws_szValS_5 a left))]
def use_laws_szValS : List (FuncId × Con UU) := [(122, con_laws_szVal)]
theorem vc_laws_szValS (a : (List DVal)) (left : Int) : goal EE use_laws_szValS Go.Proofs.Try.f109 con_laws_szValS ann_laws_szValS (a, left) = (let x0 : Int := IntKind.wrap IntKind.i64 (left - (↑(List.length a) : Int));
bif decide (x0 < (0 : Int)) then Lf [DV.one (Cell.lit (Value.int IntKind.i64 (-1 : Int)))] [DV.one (Cell.lit (Value.int IntKind.i64 (szr left (sizeValS a))))]
else
  I_laws_szValS_5 a left (x0, (0 : Int), PUnit.unit) ∧
    ∀ (y : Int × Int × PUnit),
      let x1 : Int := szr y.1 (sizeVal (List.getD a (Int.toNat y.2.1) zVal));
      I_laws_szValS_5 a left y → bif decide (y.2.1 < (↑(List.length a) : Int)) then (0 : Int) ≤ y.2.1 ∧ Int.toNat y.2.1 < List.length a ∧ (0 : Int) ≤ y.1 ∧ bif decide (x1 < (0 : Int)) then Lf [DV.one (Cell.lit (Value.int IntKind.i64 (-1 : Int)))] [DV.one (Cell.lit (Value.int IntKind.i64 (szr left (sizeValS a))))] else I_laws_szValS_5 a left (x1, IntKind.wrap IntKind.i64 (y.2.1 + (1 : Int)), PUnit.unit) ∧ μ_laws_szValS_5 a left (x1, IntKind.wrap IntKind.i64 (y.2.1 + (1 : Int)), PUnit.unit) < μ_laws_szValS_5 a left y else Lf [DV.one (Cell.lit (Value.int IntKind.i64 y.1))] [DV.one (Cell.lit (Value.int IntKind.i64 (szr left (sizeValS a))))]) := by kernel_rfl
theorem ok_laws_szValS : Holds EE (109, con_laws_szValS) := by
  refine holds_of EE_ok Go.Proofs.Try.func109 con_laws_szValS (by kernel_rfl) use_laws_szValS (all_cons ok_laws_szVal all_nil) ann_laws_szValS (fun x hp hb => ?_)
  obtain ⟨a, left⟩ := x
  have hb_a : BdDV (U := UU) (.one (.sl .lVal a)) := hb _ (List.mem_cons_self)
  have hl_a : a.length ≤ 9223372036854775807 := Bd.len hb_a
  have hb_left : BdDV (U := UU) (.one (.lit (.int .i64 left))) := hb _ (List.mem_cons_of_mem _ (List.mem_cons_self))
  have hl_left := Bd.i64 hb_left
  have hp0 : 0 ≤ left := hp _ (List.mem_cons_self)
  clear hp hb
  rw [vc_laws_szValS a left]
  dsimp only
  rw [wrap_i64 (by omega) (by omega)]
  refine if_cond (fun h => Lf_i ?_) (fun h => ⟨?_, ?_⟩)
  · simp [szr, sizeValS] at *; omega
  · simp only [I_laws_szValS_5, sizeValS]; simp at h; have h' : 0 ≤ left - a.length := by omega
    exact ⟨h', by omega, by omega, szr_sub h'⟩
  rintro ⟨lf, i, ⟨⟩⟩ ⟨h0, h1, h2, hR⟩
  refine if_cond (fun hc => ?_) (fun hc => ?_)
  · have hc : i < a.length := by simpa using hc
    rw [drop_step a zVal h1 hc, List.map_cons, List.sum_cons] at hR
    simp only at *
    rw [wrap_i64 (by omega) (by omega)]
    generalize List.getD a i.toNat zVal = x at *
    refine ⟨by omega, by omega, by omega, if_cond (fun h => Lf_i ?_) (fun h => ⟨⟨?_, by omega, by omega, ?_⟩, ?_⟩)⟩
    · rw [← hR]; exact (szr_bad (of_decide_eq_true h)).symm
    · simp at h; omega
    · rw [← hR]; simp at h; exact szr_szr h
    · simp only [μ_laws_szValS_5]; omega
  · have hc : a.length ≤ i := by simpa using hc
    rw [drop_end a hc] at hR
    apply Lf_i; rw [← hR]; simp [szr, h0]
def con_laws_toValS : Con UU where
  α := (List DVal)
  md := [.ro]
  of := fun | [.one (.sl .lVal a0)] => some a0 | _ => none
  ds := fun a => [.one (.sl .lVal a)]
  pre := fun a => [sizeValS a ≤ 4294967296]
  res := fun a => ⟨[.one (.sl .eVal a)], true, []⟩
  law := by intro l x h; (try simp only at h); split at h <;> cases h; rfl
def I_laws_toValS_3 (a : (List DVal)) : List DVal × Int × Unit → Prop := fun (out, i, _) => 0 ≤ i ∧ i ≤ a.length ∧ out = a.take i.toNat ++ List.replicate (a.length - i.toNat) zVal
def μ_laws_toValS_3 (a : (List DVal)) : List DVal × Int × Unit → Nat := fun (out, i, _) => a.length - i.toNat
def ann_laws_toValS : con_laws_toValS.α → Nat → Option (Ann UU) := fun a => annL [(3, annOf [.slot 3 (3, 1024) (.own .eVal true), .slot 4 (4, 1024) (.lit (.int .i64))] (fun _ => I_laws_toValS_3 a) (μ_laws_toValS_3 a))]
def use_laws_toValS : List (FuncId × Con UU) := [(123, con_laws_toVal)]
theorem vc_laws_toValS (a : (List DVal)) : goal EE use_laws_toValS Go.Proofs.Try.f110 con_laws_toValS ann_laws_toValS a = (let x0 : Int := (↑(List.length a) : Int);
(0 : Int) ≤ x0 ∧
  x0 = x0 ∧
    x0 ≤ (4294967296 : Int) ∧
      I_laws_toValS_3 a (List.replicate (Int.toNat x0) zVal, (0 : Int), PUnit.unit) ∧
        ∀ (y : List DVal × Int × PUnit),
          let x1 : Nat := Int.toNat y.2.1;
          I_laws_toValS_3 a y → bif decide (y.2.1 < x0) then (0 : Int) ≤ y.2.1 ∧ x1 < List.length a ∧ sizeVal (List.getD a x1 zVal) ≤ (4294967296 : Nat) ∧ (0 : Int) ≤ y.2.1 ∧ x1 < List.length y.1 ∧ x1 < List.length y.1 ∧ I_laws_toValS_3 a (List.set y.1 x1 (List.getD a x1 zVal), IntKind.wrap IntKind.i64 (y.2.1 + (1 : Int)), PUnit.unit) ∧ μ_laws_toValS_3 a (List.set y.1 x1 (List.getD a x1 zVal), IntKind.wrap IntKind.i64 (y.2.1 + (1 : Int)), PUnit.unit) < μ_laws_toValS_3 a y else Lf [DV.one (Cell.sl Cd.eVal y.1)] [DV.one (Cell.sl Cd.eVal a)]) := by kernel_rfl
theorem ok_laws_toValS : Holds EE (110, con_laws_toValS) := by
  refine holds_of EE_ok Go.Proofs.Try.func110 con_laws_toValS (by kernel_rfl) use_laws_toValS (all_cons ok_laws_toVal all_nil) ann_laws_toValS (fun (a : (List DVal)) hp hb => ?_)
  have hb_a : BdDV (U := UU) (.one (.sl .lVal a)) := hb _ (List.mem_cons_self)
  have hl_a : a.length ≤ 9223372036854775807 := Bd.len hb_a
  have hp0 : sizeValS a ≤ 4294967296 := hp _ (List.mem_cons_self)
  clear hp hb
  rw [vc_laws_toValS a]
  dsimp only
  have hlen : a.length ≤ 4294967296 := by simp only [sizeValS] at hp0; omega
  refine ⟨by omega, rfl, by omega, ?_, ?_⟩
  · simp [I_laws_toValS_3]
  rintro ⟨out, i, ⟨⟩⟩ ⟨h1, h2, rfl⟩
  simp only at *
  refine if_cond (fun hc => ?_) (fun hc => ?_)
  · have hc : i < a.length := by simpa using hc
    rw [wrap_i64 (by omega) (by omega), set_fill a zVal h1 hc]
    exact ⟨h1, by omega, by exact Nat.le_trans (sum_getD_le sizeVal a zVal h1 hc) (by simp only [sizeValS] at hp0; omega), h1, by simp; omega, by simp; omega, ⟨by omega, by omega, rfl⟩, by simp only [μ_laws_toValS_3]; omega⟩
  · have hc : a.length ≤ i := by simpa using hc
    have e : i.toNat = a.length := by omega
    rw [e]; simp; exact Lf_rfl _
def con_laws_eqValS : Con UU where
  α := (List DVal) × (List DVal)
  md := [.ro, .ro]
  of := fun | [.one (.sl .eVal a0), .one (.sl .eVal a1)] => some (a0, a1) | _ => none
  ds := fun (a, b) => [.one (.sl .eVal a), .one (.sl .eVal b)]
  pre := fun (a, b) => []
  res := fun (a, b) => ⟨[.one (.lit (.bool (decide (a = b))))], true, []⟩
  law := by intro l x h; (try simp only at h); split at h <;> cases h; rfl
def I_laws_eqValS_4 (a : (List DVal)) (b : (List DVal)) : Int × Unit → Prop := fun (i, _) => 0 ≤ i ∧ i ≤ a.length ∧ a.length = b.length ∧ (a.drop i.toNat = b.drop i.toNat ↔ a = b)
def μ_laws_eqValS_4 (a : (List DVal)) (b : (List DVal)) : Int × Unit → Nat := fun (i, _) => a.length - i.toNat
def ann_laws_eqValS : con_laws_eqValS.α → Nat → Option (Ann UU) := fun (a, b) => annL [(4, annOf [.slot 5 (5, 1024) (.lit (.int .i64))] (fun _ => I_laws_eqValS_4 a b) (μ_laws_eqValS_4 a b))]
def use_laws_eqValS : List (FuncId × Con UU) := [(125, con_laws_eqVal)]
theorem vc_laws_eqValS (a : (List DVal)) (b : (List DVal)) : goal EE use_laws_eqValS Go.Proofs.Try.f114 con_laws_eqValS ann_laws_eqValS (a, b) = (bif (↑(List.length a) : Int) != (↑(List.length b) : Int) then Lf [DV.one (Cell.lit (Value.bool false))] [DV.one (Cell.lit (Value.bool (decide (a = b))))] else I_laws_eqValS_4 a b ((0 : Int), PUnit.unit) ∧ ∀ (y : Int × PUnit), I_laws_eqValS_4 a b y → bif decide (y.1 < (↑(List.length a) : Int)) then (0 : Int) ≤ y.1 ∧ Int.toNat y.1 < List.length a ∧ (0 : Int) ≤ y.1 ∧ Int.toNat y.1 < List.length b ∧ bif !decide (List.getD a (Int.toNat y.1) zVal = List.getD b (Int.toNat y.1) zVal) then Lf [DV.one (Cell.lit (Value.bool false))] [DV.one (Cell.lit (Value.bool (decide (a = b))))] else I_laws_eqValS_4 a b (IntKind.wrap IntKind.i64 (y.1 + (1 : Int)), PUnit.unit) ∧ μ_laws_eqValS_4 a b (IntKind.wrap IntKind.i64 (y.1 + (1 : Int)), PUnit.unit) < μ_laws_eqValS_4 a b y else Lf [DV.one (Cell.lit (Value.bool true))] [DV.one (Cell.lit (Value.bool (decide (a = b))))]) := by kernel_rfl
theorem ok_laws_eqValS : Holds EE (114, con_laws_eqValS) := by
  refine holds_of EE_ok Go.Proofs.Try.func114 con_laws_eqValS (by kernel_rfl) use_laws_eqValS (all_cons ok_laws_eqVal all_nil) ann_laws_eqValS (fun x hp hb => ?_)
  obtain ⟨a, b⟩ := x
  have hb_a : BdDV (U := UU) (.one (.sl .eVal a)) := hb _ (List.mem_cons_self)
  have hl_a : a.length ≤ 9223372036854775807 := Bd.len hb_a
  have hb_b : BdDV (U := UU) (.one (.sl .eVal b)) := hb _ (List.mem_cons_of_mem _ (List.mem_cons_self))
  have hl_b : b.length ≤ 9223372036854775807 := Bd.len hb_b
  clear hp hb
  rw [vc_laws_eqValS a b]
  refine if_cond (fun h => Lf_f ?_) (fun h => ⟨?_, ?_⟩)
  · rintro rfl; simp at h
  · simp [I_laws_eqValS_4] at *; omega
  rintro ⟨i, ⟨⟩⟩ ⟨h1, h2, h3, hR⟩
  simp only at *
  refine if_cond (fun hc => ?_) (fun hc => ?_)
  · have hc : i < a.length := by simpa using hc
    rw [drop_step a zVal h1 hc, drop_step b zVal h1 (by omega)] at hR
    rw [wrap_i64 (by omega) (by omega)]
    refine ⟨by omega, by omega, by omega, by omega, if_cond (fun h => Lf_f ?_) (fun h => ⟨⟨by omega, by omega, h3, ?_⟩, ?_⟩)⟩
    · rw [← hR]; simp at h; simp [h]
    · rw [← hR]; simp at h; simp [h]
    · simp only [μ_laws_eqValS_4]; omega
  · have hc : a.length ≤ i := by simpa using hc
    rw [drop_end a hc, drop_end b (by omega)] at hR
    exact Lf_t (hR.1 rfl)
def con_laws_markValS : Con UU where
  α := (List DVal) × Int
  md := [.wr, .ro]
  of := fun | [.one (.sl .eVal a0), .one (.lit (.int .i64 a1))] => some (a0, a1) | _ => none
  ds := fun (a, k) => [.one (.sl .eVal a), .one (.lit (.int .i64 k))]
  pre := fun (a, k) => [0 ≤ k, k + cntValS a ≤ 4611686018427387904]
  res := fun (a, k) => ⟨[.one (.lit (.int .i64 (k + cntValS a)))], true, [.one (.sl .eVal (markValS a k))]⟩
  law := by intro l x h; (try simp only at h); split at h <;> cases h; rfl
def I_laws_markValS_2 (a : (List DVal)) (k : Int) : List DVal × Int × Int × Unit → Prop := fun (row, kk, i, _) => 0 ≤ i ∧ i ≤ a.length ∧ row = (mkS markVal cntVal a k).take i.toNat ++ a.drop i.toNat ∧ kk = k + ctS cntVal (a.take i.toNat)
def μ_laws_markValS_2 (a : (List DVal)) (k : Int) : List DVal × Int × Int × Unit → Nat := fun (row, kk, i, _) => a.length - i.toNat
def ann_laws_markValS : con_laws_markValS.α → Nat → Option (Ann UU) := fun (a, k) => annL [(2, annOf [.slot 0 (2000000, 0) (.own .eVal true), .slot 1 (1, 1024) (.lit (.int .i64)), .slot 5 (5, 1024) (.lit (.int .i64))] (fun _ => I_laws_markValS_2 a k) (μ_laws_markValS_2 a k))]
def use_laws_markValS : List (FuncId × Con UU) := [(66, con_laws_markText)]
theorem vc_laws_markValS (a : (List DVal)) (k : Int) : goal EE use_laws_markValS Go.Proofs.Try.f67 con_laws_markValS ann_laws_markValS (a, k) = (I_laws_markValS_2 a k (a, k, (0 : Int), PUnit.unit) ∧
  ∀ (y : List DVal × Int × Int × PUnit),
    let x0 : Nat := Int.toNat y.2.2.1;
    let x1 : Int := IntKind.wrap IntKind.i64 (IntKind.wrap IntKind.i64 (y.2.1 + (1 : Int)) + (1 : Int));
    let x2 : List DVal := List.modify (List.modify y.1 x0 fun (x : DVal) => { K := y.2.1, N := x.N, S := x.S : DVal }) x0 fun (x : DVal) => { K := x.K, N := IntKind.wrap IntKind.i64 (y.2.1 + (1 : Int)), S := x.S : DVal };
    I_laws_markValS_2 a k y → bif decide (y.2.2.1 < (↑(List.length y.1) : Int)) then (0 : Int) ≤ y.2.2.1 ∧ x0 < List.length y.1 ∧ x0 < List.length y.1 ∧ (0 : Int) ≤ y.2.2.1 ∧ x0 < List.length (List.modify y.1 x0 fun (x : DVal) => { K := y.2.1, N := x.N, S := x.S : DVal }) ∧ x0 < List.length (List.modify y.1 x0 fun (x : DVal) => { K := y.2.1, N := x.N, S := x.S : DVal }) ∧ x1 ≤ (4611686018427387903 : Int) ∧ (0 : Int) ≤ y.2.2.1 ∧ x0 < List.length x2 ∧ x0 < List.length x2 ∧ I_laws_markValS_2 a k (List.modify x2 x0 fun (x : DVal) => { K := x.K, N := x.N, S := markText x1 : DVal }, IntKind.wrap IntKind.i64 (x1 + (1 : Int)), IntKind.wrap IntKind.i64 (y.2.2.1 + (1 : Int)), PUnit.unit) ∧ μ_laws_markValS_2 a k (List.modify x2 x0 fun (x : DVal) => { K := x.K, N := x.N, S := markText x1 : DVal }, IntKind.wrap IntKind.i64 (x1 + (1 : Int)), IntKind.wrap IntKind.i64 (y.2.2.1 + (1 : Int)), PUnit.unit) < μ_laws_markValS_2 a k y else asD [DV.one (Cell.lit (Value.int IntKind.i64 y.2.1))] = asD [DV.one (Cell.lit (Value.int IntKind.i64 (k + (↑(cntValS a) : Int))))] ∧ asD [DV.one (Cell.sl Cd.eVal y.1)] = asD [DV.one (Cell.sl Cd.eVal (markValS a k))]) := by kernel_rfl
theorem ok_laws_markValS : Holds EE (67, con_laws_markValS) := by
  refine holds_of EE_ok Go.Proofs.Try.func67 con_laws_markValS (by kernel_rfl) use_laws_markValS (all_cons ok_laws_markText all_nil) ann_laws_markValS (fun x hp hb => ?_)
  obtain ⟨a, k⟩ := x
  have hb_a : BdDV (U := UU) (.one (.sl .eVal a)) := hb _ (List.mem_cons_self)
  have hl_a : a.length ≤ 9223372036854775807 := Bd.len hb_a
  have hb_k : BdDV (U := UU) (.one (.lit (.int .i64 k))) := hb _ (List.mem_cons_of_mem _ (List.mem_cons_self))
  have hl_k := Bd.i64 hb_k
  have hp0 : 0 ≤ k := hp _ (List.mem_cons_self)
  have hp1 : k + cntValS a ≤ 4611686018427387904 := hp _ (List.mem_cons_of_mem _ (List.mem_cons_self))
  clear hp hb
  rw [vc_laws_markValS a k]
  dsimp only
  refine ⟨⟨by omega, by omega, by simp, by simp [ctS]⟩, ?_⟩
  rintro ⟨row, kk, i, ⟨⟩⟩ ⟨h1, h2, rfl, rfl⟩
  simp only
  have hl := mk_rl markVal cntVal a k h1 h2
  refine if_cond (fun hc => ?_) (fun hc => ?_)
  · have hc : i < a.length := by have hc := of_decide_eq_true hc; omega
    have hct := ctS_take cntVal a zVal h1 hc
    have hle := ctS_take_le cntVal a (i + 1).toNat
    have hg := mk_getD _ a zVal (mk_tl markVal cntVal a k h1 h2) h1 hc
    have hM := fun F hF => mkS_mod markVal cntVal a zVal k (i := i) F h1 hc hF
    have hq : (cntValS a : Int) = ctS cntVal a := rfl
    generalize List.getD a i.toNat zVal = x at *
    generalize hkk : k + (ctS cntVal (a.take i.toNat) : Int) = kk at *
    generalize List.take i.toNat (mkS markVal cntVal a k) ++ List.drop i.toNat a = R at *
    simp only [cntVal] at hct
    simp (disch := first | omega | (simp only [List.length_modify]; omega)) only [List.length_modify, wrap_i64, getD_modify, modify_modify, hg, hl]
    repeat' (first | refine And.intro (by omega) ?_ | fail)
    exact ⟨⟨by omega, by omega, hM _ rfl, by omega⟩, by simp only [μ_laws_markValS_2]; omega⟩
  · have hc : a.length ≤ i := by have hc := of_decide_eq_false hc; omega
    rw [mk_done markVal cntVal a k hc, ct_done cntVal a hc]
    exact ⟨rfl, rfl⟩
def con_laws_heldValS : Con UU where
  α := (List DVal) × Int
  md := [.ro, .ro]
  of := fun | [.one (.sl .eVal a0), .one (.lit (.int .i64 a1))] => some (a0, a1) | _ => none
  ds := fun (a, k) => [.one (.sl .eVal a), .one (.lit (.int .i64 k))]
  pre := fun (a, k) => [0 ≤ k, k + cntValS a ≤ 4611686018427387904]
  res := fun (a, k) => ⟨[.one (.lit (.int .i64 (if markValS a k = a then k + cntValS a else -1)))], true, []⟩
  law := by intro l x h; (try simp only at h); split at h <;> cases h; rfl
def I_laws_heldValS_2 (a : (List DVal)) (k : Int) : Int × Int × Unit → Prop := fun (kk, i, _) => 0 ≤ i ∧ i ≤ a.length ∧ kk = k + ctS cntVal (a.take i.toNat) ∧ (mkS markVal cntVal (a.drop i.toNat) kk = a.drop i.toNat ↔ mkS markVal cntVal a k = a)
def μ_laws_heldValS_2 (a : (List DVal)) (k : Int) : Int × Int × Unit → Nat := fun (kk, i, _) => a.length - i.toNat
def ann_laws_heldValS : con_laws_heldValS.α → Nat → Option (Ann UU) := fun (a, k) => annL [(2, annOf [.slot 1 (1, 1024) (.lit (.int .i64)), .slot 5 (5, 1024) (.lit (.int .i64))] (fun _ => I_laws_heldValS_2 a k) (μ_laws_heldValS_2 a k))]
def use_laws_heldValS : List (FuncId × Con UU) := [(66, con_laws_markText)]
theorem vc_laws_heldValS (a : (List DVal)) (k : Int) : goal EE use_laws_heldValS Go.Proofs.Try.f68 con_laws_heldValS ann_laws_heldValS (a, k) = (I_laws_heldValS_2 a k (k, (0 : Int), PUnit.unit) ∧
  ∀ (y : Int × Int × PUnit),
    let x0 : DVal := List.getD a (Int.toNat y.2.1) zVal;
    let x1 : Int := IntKind.wrap IntKind.i64 (IntKind.wrap IntKind.i64 (y.1 + (1 : Int)) + (1 : Int));
    I_laws_heldValS_2 a k y → bif decide (y.2.1 < (↑(List.length a) : Int)) then (0 : Int) ≤ y.2.1 ∧ Int.toNat y.2.1 < List.length a ∧ bif x0.K != y.1 then Lf [DV.one (Cell.lit (Value.int IntKind.i64 (-1 : Int)))] [DV.one (Cell.lit (Value.int IntKind.i64 (if markValS a k = a then k + (↑(cntValS a) : Int) else (-1 : Int))))] else (0 : Int) ≤ y.2.1 ∧ Int.toNat y.2.1 < List.length a ∧ bif x0.N != IntKind.wrap IntKind.i64 (y.1 + (1 : Int)) then Lf [DV.one (Cell.lit (Value.int IntKind.i64 (-1 : Int)))] [DV.one (Cell.lit (Value.int IntKind.i64 (if markValS a k = a then k + (↑(cntValS a) : Int) else (-1 : Int))))] else (0 : Int) ≤ y.2.1 ∧ Int.toNat y.2.1 < List.length a ∧ x1 ≤ (4611686018427387903 : Int) ∧ bif !ByteArray.toList x0.S == ByteArray.toList (markText x1) then Lf [DV.one (Cell.lit (Value.int IntKind.i64 (-1 : Int)))] [DV.one (Cell.lit (Value.int IntKind.i64 (if markValS a k = a then k + (↑(cntValS a) : Int) else (-1 : Int))))] else I_laws_heldValS_2 a k (IntKind.wrap IntKind.i64 (x1 + (1 : Int)), IntKind.wrap IntKind.i64 (y.2.1 + (1 : Int)), PUnit.unit) ∧ μ_laws_heldValS_2 a k (IntKind.wrap IntKind.i64 (x1 + (1 : Int)), IntKind.wrap IntKind.i64 (y.2.1 + (1 : Int)), PUnit.unit) < μ_laws_heldValS_2 a k y else Lf [DV.one (Cell.lit (Value.int IntKind.i64 y.1))] [DV.one (Cell.lit (Value.int IntKind.i64 (if markValS a k = a then k + (↑(cntValS a) : Int) else (-1 : Int))))]) := by kernel_rfl
theorem ok_laws_heldValS : Holds EE (68, con_laws_heldValS) := by
  refine holds_of EE_ok Go.Proofs.Try.func68 con_laws_heldValS (by kernel_rfl) use_laws_heldValS (all_cons ok_laws_markText all_nil) ann_laws_heldValS (fun x hp hb => ?_)
  obtain ⟨a, k⟩ := x
  have hb_a : BdDV (U := UU) (.one (.sl .eVal a)) := hb _ (List.mem_cons_self)
  have hl_a : a.length ≤ 9223372036854775807 := Bd.len hb_a
  have hb_k : BdDV (U := UU) (.one (.lit (.int .i64 k))) := hb _ (List.mem_cons_of_mem _ (List.mem_cons_self))
  have hl_k := Bd.i64 hb_k
  have hp0 : 0 ≤ k := hp _ (List.mem_cons_self)
  have hp1 : k + cntValS a ≤ 4611686018427387904 := hp _ (List.mem_cons_of_mem _ (List.mem_cons_self))
  clear hp hb
  rw [vc_laws_heldValS a k]
  dsimp only
  refine ⟨⟨by omega, by omega, by simp [ctS], by simp⟩, ?_⟩
  rintro ⟨kk, i, ⟨⟩⟩ ⟨h1, h2, hkk, hR⟩
  simp only
  simp only [markValS]
  refine if_cond (fun hc => ?_) (fun hc => ?_)
  · have hc : i < a.length := by have hc := of_decide_eq_true hc; omega
    have hct := ctS_take cntVal a zVal h1 hc
    have hle := ctS_take_le cntVal a (i + 1).toNat
    have hq : (cntValS a : Int) = ctS cntVal a := rfl
    rw [drop_step a zVal h1 hc] at hR
    generalize List.getD a i.toNat zVal = x at *
    simp only [mkS, List.cons.injEq] at hR
    have e : kk + (cntVal x : Int) = kk + 1 + 1 + 1 := by simp only [cntVal]; omega
    rw [e] at hR
    simp only [markVal, cntVal] at hR hct
    simp (disch := omega) only [wrap_i64, bne_int, toList_beq]
    obtain ⟨x_K, x_N, x_S⟩ := x
    simp only [DVal.mk.injEq] at *
    repeat' (first | refine And.intro (by omega) ?_ | fail)
    refine if_cond (fun h => Lf_no (fun hh => ?_)) (fun h => ?_)
    · have hh := hR.2 hh; simp_all
    have h : x_K = kk := by simpa using h
    subst x_K
    repeat' (first | refine And.intro (by omega) ?_ | fail)
    refine if_cond (fun h => Lf_no (fun hh => ?_)) (fun h => ?_)
    · have hh := hR.2 hh; simp_all
    have h : x_N = kk + 1 := by simpa using h
    subst x_N
    repeat' (first | refine And.intro (by omega) ?_ | fail)
    refine if_cond (fun h => Lf_no (fun hh => ?_)) (fun h => ?_)
    · have hh := hR.2 hh; simp_all
    have h : x_S = markText (kk + 1 + 1) := by simpa using h
    subst x_S
    exact ⟨⟨by omega, by omega, by omega, by simpa using hR⟩, by simp only [μ_laws_heldValS_2]; omega⟩
  · have hc : a.length ≤ i := by have hc := of_decide_eq_false hc; omega
    rw [drop_end a hc] at hR
    exact Lf_yes (hR.1 rfl) (by rw [hkk, ct_done _ _ hc]; rfl)
def con_laws_szFact : Con UU where
  α := DFact × Int
  md := [.ro, .ro]
  of := fun | [.agg [.lit (.string a0), .sl .lVal a1], .one (.lit (.int .i64 a2))] => some (⟨a0, a1⟩, a2) | _ => none
  ds := fun (a, left) => [.agg [.lit (.string a.Kind), .sl .lVal a.Fields], .one (.lit (.int .i64 left))]
  pre := fun (a, left) => [0 ≤ left]
  res := fun (a, left) => ⟨[.one (.lit (.int .i64 (szr left (sizeFact a))))], true, []⟩
  law := by intro l x h; (try simp only at h); split at h <;> cases h; rfl
def ann_laws_szFact : con_laws_szFact.α → Nat → Option (Ann UU) := fun (a, left) => annL []
def use_laws_szFact : List (FuncId × Con UU) := [(109, con_laws_szValS)]
theorem vc_laws_szFact (a : DFact) (left : Int) : goal EE use_laws_szFact Go.Proofs.Try.f69 con_laws_szFact ann_laws_szFact (a, left) = (let x0 : Int := IntKind.wrap IntKind.i64 (left - (↑(ByteArray.size a.Kind) : Int));
bif decide (x0 < (0 : Int)) then Lf [DV.one (Cell.lit (Value.int IntKind.i64 (-1 : Int)))] [DV.one (Cell.lit (Value.int IntKind.i64 (szr left (sizeFact a))))] else (0 : Int) ≤ x0 ∧ bif decide (szr x0 (sizeValS a.Fields) < (0 : Int)) then Lf [DV.one (Cell.lit (Value.int IntKind.i64 (-1 : Int)))] [DV.one (Cell.lit (Value.int IntKind.i64 (szr left (sizeFact a))))] else Lf [DV.one (Cell.lit (Value.int IntKind.i64 (szr x0 (sizeValS a.Fields))))] [DV.one (Cell.lit (Value.int IntKind.i64 (szr left (sizeFact a))))]) := by kernel_rfl
theorem ok_laws_szFact : Holds EE (69, con_laws_szFact) := by
  refine holds_of EE_ok Go.Proofs.Try.func69 con_laws_szFact (by kernel_rfl) use_laws_szFact (all_cons ok_laws_szValS all_nil) ann_laws_szFact (fun x hp hb => ?_)
  obtain ⟨a, left⟩ := x
  have hb_a : BdDV (U := UU) (.agg [.lit (.string a.Kind), .sl .lVal a.Fields]) := hb _ (List.mem_cons_self)
  have hl_a_Kind : a.Kind.size ≤ 9223372036854775807 := Bd.str (hb_a _ (by simp))
  have hl_a_Fields : a.Fields.length ≤ 9223372036854775807 := Bd.len (U := UU) (τ := .lVal) (xs := a.Fields) (hb_a _ (by simp))
  have hb_left : BdDV (U := UU) (.one (.lit (.int .i64 left))) := hb _ (List.mem_cons_of_mem _ (List.mem_cons_self))
  have hl_left := Bd.i64 hb_left
  have hp0 : 0 ≤ left := hp _ (List.mem_cons_self)
  clear hp hb
  rw [vc_laws_szFact a left]
  dsimp only
  rw [wrap_i64 (by omega) (by omega)]
  refine if_cond (fun h => Lf_i (szr_bad' ?_)) (fun h => ?_)
  · have h := of_decide_eq_true h; simp only [sizeFact]; omega
  have h0 := of_decide_eq_false h
  refine ⟨by omega, if_cond (fun h => Lf_i (szr_bad' ?_)) (fun h => ?_)⟩
  · have h := szr_neg h; simp only [sizeFact]; omega
  obtain ⟨e1, h1⟩ := szr_pos h
  rw [e1]
  exact Lf_i (by rw [← szr_ok' (by simp only [sizeFact]; omega)]; simp only [sizeFact]; try omega)
def con_laws_toFact : Con UU where
  α := DFact
  md := [.ro]
  of := fun | [.agg [.lit (.string a0), .sl .lVal a1]] => some ⟨a0, a1⟩ | _ => none
  ds := fun a => [.agg [.lit (.string a.Kind), .sl .lVal a.Fields]]
  pre := fun a => [sizeFact a ≤ 4294967296]
  res := fun a => ⟨[.agg [.lit (.string a.Kind), .sl .eVal a.Fields]], true, []⟩
  law := by intro l x h; (try simp only at h); split at h <;> cases h; rfl
def ann_laws_toFact : con_laws_toFact.α → Nat → Option (Ann UU) := fun a => annL []
def use_laws_toFact : List (FuncId × Con UU) := [(110, con_laws_toValS)]
theorem vc_laws_toFact (a : DFact) : goal EE use_laws_toFact Go.Proofs.Try.f72 con_laws_toFact ann_laws_toFact a = (sizeValS a.Fields ≤ (4294967296 : Nat) ∧ Lf [DV.agg [Cell.lit (Value.string a.Kind), Cell.sl Cd.eVal a.Fields]] [DV.agg [Cell.lit (Value.string a.Kind), Cell.sl Cd.eVal a.Fields]]) := by kernel_rfl
theorem ok_laws_toFact : Holds EE (72, con_laws_toFact) := by
  refine holds_of EE_ok Go.Proofs.Try.func72 con_laws_toFact (by kernel_rfl) use_laws_toFact (all_cons ok_laws_toValS all_nil) ann_laws_toFact (fun (a : DFact) hp hb => ?_)
  have hb_a : BdDV (U := UU) (.agg [.lit (.string a.Kind), .sl .lVal a.Fields]) := hb _ (List.mem_cons_self)
  have hl_a_Kind : a.Kind.size ≤ 9223372036854775807 := Bd.str (hb_a _ (by simp))
  have hl_a_Fields : a.Fields.length ≤ 9223372036854775807 := Bd.len (U := UU) (τ := .lVal) (xs := a.Fields) (hb_a _ (by simp))
  have hp0 : sizeFact a ≤ 4294967296 := hp _ (List.mem_cons_self)
  clear hp hb
  rw [vc_laws_toFact a]
  simp only [sizeFact] at hp0
  repeat' (first | exact Lf_rfl _ | (refine And.intro (by omega) ?_))
def con_laws_eqFact : Con UU where
  α := DFact × DFact
  md := [.ro, .ro]
  of := fun | [.agg [.lit (.string a0), .sl .eVal a1], .agg [.lit (.string a2), .sl .eVal a3]] => some (⟨a0, a1⟩, ⟨a2, a3⟩) | _ => none
  ds := fun (a, b) => [.agg [.lit (.string a.Kind), .sl .eVal a.Fields], .agg [.lit (.string b.Kind), .sl .eVal b.Fields]]
  pre := fun (a, b) => []
  res := fun (a, b) => ⟨[.one (.lit (.bool (decide (a = b))))], true, []⟩
  law := by intro l x h; (try simp only at h); split at h <;> cases h; rfl
def ann_laws_eqFact : con_laws_eqFact.α → Nat → Option (Ann UU) := fun (a, b) => annL []
def use_laws_eqFact : List (FuncId × Con UU) := [(114, con_laws_eqValS)]
theorem vc_laws_eqFact (a : DFact) (b : DFact) : goal EE use_laws_eqFact Go.Proofs.Try.f76 con_laws_eqFact ann_laws_eqFact (a, b) = (bif !ByteArray.toList a.Kind == ByteArray.toList b.Kind then Lf [DV.one (Cell.lit (Value.bool false))] [DV.one (Cell.lit (Value.bool (decide (a = b))))] else bif !decide (a.Fields = b.Fields) then Lf [DV.one (Cell.lit (Value.bool false))] [DV.one (Cell.lit (Value.bool (decide (a = b))))] else Lf [DV.one (Cell.lit (Value.bool true))] [DV.one (Cell.lit (Value.bool (decide (a = b))))]) := by kernel_rfl
theorem ok_laws_eqFact : Holds EE (76, con_laws_eqFact) := by
  refine holds_of EE_ok Go.Proofs.Try.func76 con_laws_eqFact (by kernel_rfl) use_laws_eqFact (all_cons ok_laws_eqValS all_nil) ann_laws_eqFact (fun x hp hb => ?_)
  obtain ⟨a, b⟩ := x
  have hb_a : BdDV (U := UU) (.agg [.lit (.string a.Kind), .sl .eVal a.Fields]) := hb _ (List.mem_cons_self)
  have hl_a_Kind : a.Kind.size ≤ 9223372036854775807 := Bd.str (hb_a _ (by simp))
  have hl_a_Fields : a.Fields.length ≤ 9223372036854775807 := Bd.len (U := UU) (τ := .eVal) (xs := a.Fields) (hb_a _ (by simp))
  have hb_b : BdDV (U := UU) (.agg [.lit (.string b.Kind), .sl .eVal b.Fields]) := hb _ (List.mem_cons_of_mem _ (List.mem_cons_self))
  have hl_b_Kind : b.Kind.size ≤ 9223372036854775807 := Bd.str (hb_b _ (by simp))
  have hl_b_Fields : b.Fields.length ≤ 9223372036854775807 := Bd.len (U := UU) (τ := .eVal) (xs := b.Fields) (hb_b _ (by simp))
  clear hp hb
  rw [vc_laws_eqFact a b]
  obtain ⟨aKind, aFields⟩ := a
  obtain ⟨bKind, bFields⟩ := b
  repeat' (apply if_cond <;> intro _)
  all_goals (first | apply Lf_t | apply Lf_f) <;> simp_all
def con_laws_szTimer : Con UU where
  α := DTimer × Int
  md := [.ro, .ro]
  of := fun | [.agg [.lit (.int .i64 a0), .lit (.string a1), .sl .lVal a2], .one (.lit (.int .i64 a3))] => some (⟨a0, ⟨a1, a2⟩⟩, a3) | _ => none
  ds := fun (a, left) => [.agg [.lit (.int .i64 a.At), .lit (.string a.F.Kind), .sl .lVal a.F.Fields], .one (.lit (.int .i64 left))]
  pre := fun (a, left) => [0 ≤ left]
  res := fun (a, left) => ⟨[.one (.lit (.int .i64 (szr left (sizeTimer a))))], true, []⟩
  law := by intro l x h; (try simp only at h); split at h <;> cases h; rfl
def ann_laws_szTimer : con_laws_szTimer.α → Nat → Option (Ann UU) := fun (a, left) => annL []
def use_laws_szTimer : List (FuncId × Con UU) := [(69, con_laws_szFact)]
theorem vc_laws_szTimer (a : DTimer) (left : Int) : goal EE use_laws_szTimer Go.Proofs.Try.f24 con_laws_szTimer ann_laws_szTimer (a, left) = ((0 : Int) ≤ left ∧ bif decide (szr left (sizeFact a.F) < (0 : Int)) then Lf [DV.one (Cell.lit (Value.int IntKind.i64 (-1 : Int)))] [DV.one (Cell.lit (Value.int IntKind.i64 (szr left (sizeTimer a))))] else Lf [DV.one (Cell.lit (Value.int IntKind.i64 (szr left (sizeFact a.F))))] [DV.one (Cell.lit (Value.int IntKind.i64 (szr left (sizeTimer a))))]) := by kernel_rfl
theorem ok_laws_szTimer : Holds EE (24, con_laws_szTimer) := by
  refine holds_of EE_ok Go.Proofs.Try.func24 con_laws_szTimer (by kernel_rfl) use_laws_szTimer (all_cons ok_laws_szFact all_nil) ann_laws_szTimer (fun x hp hb => ?_)
  obtain ⟨a, left⟩ := x
  have hb_a : BdDV (U := UU) (.agg [.lit (.int .i64 a.At), .lit (.string a.F.Kind), .sl .lVal a.F.Fields]) := hb _ (List.mem_cons_self)
  have hl_a_F_Kind : a.F.Kind.size ≤ 9223372036854775807 := Bd.str (hb_a _ (by simp))
  have hl_a_F_Fields : a.F.Fields.length ≤ 9223372036854775807 := Bd.len (U := UU) (τ := .lVal) (xs := a.F.Fields) (hb_a _ (by simp))
  have hb_left : BdDV (U := UU) (.one (.lit (.int .i64 left))) := hb _ (List.mem_cons_of_mem _ (List.mem_cons_self))
  have hl_left := Bd.i64 hb_left
  have hp0 : 0 ≤ left := hp _ (List.mem_cons_self)
  clear hp hb
  rw [vc_laws_szTimer a left]
  refine ⟨by omega, if_cond (fun h => Lf_i (szr_bad' ?_)) (fun h => ?_)⟩
  · have h := szr_neg h; simp only [sizeTimer]; omega
  obtain ⟨e0, h0⟩ := szr_pos h
  rw [e0]
  exact Lf_i (by rw [← szr_ok' (by simp only [sizeTimer]; omega)]; simp only [sizeTimer]; try omega)
def con_laws_toTimer : Con UU where
  α := DTimer
  md := [.ro]
  of := fun | [.agg [.lit (.int .i64 a0), .lit (.string a1), .sl .lVal a2]] => some ⟨a0, ⟨a1, a2⟩⟩ | _ => none
  ds := fun a => [.agg [.lit (.int .i64 a.At), .lit (.string a.F.Kind), .sl .lVal a.F.Fields]]
  pre := fun a => [sizeTimer a ≤ 4294967296]
  res := fun a => ⟨[.agg [.lit (.int .i64 a.At), .lit (.string a.F.Kind), .sl .eVal a.F.Fields]], true, []⟩
  law := by intro l x h; (try simp only at h); split at h <;> cases h; rfl
def ann_laws_toTimer : con_laws_toTimer.α → Nat → Option (Ann UU) := fun a => annL []
def use_laws_toTimer : List (FuncId × Con UU) := [(72, con_laws_toFact)]
theorem vc_laws_toTimer (a : DTimer) : goal EE use_laws_toTimer Go.Proofs.Try.f26 con_laws_toTimer ann_laws_toTimer a = (sizeFact a.F ≤ (4294967296 : Nat) ∧ Lf [DV.agg [Cell.lit (Value.int IntKind.i64 a.At), Cell.lit (Value.string a.F.Kind), Cell.sl Cd.eVal a.F.Fields]] [DV.agg [Cell.lit (Value.int IntKind.i64 a.At), Cell.lit (Value.string a.F.Kind), Cell.sl Cd.eVal a.F.Fields]]) := by kernel_rfl
theorem ok_laws_toTimer : Holds EE (26, con_laws_toTimer) := by
  refine holds_of EE_ok Go.Proofs.Try.func26 con_laws_toTimer (by kernel_rfl) use_laws_toTimer (all_cons ok_laws_toFact all_nil) ann_laws_toTimer (fun (a : DTimer) hp hb => ?_)
  have hb_a : BdDV (U := UU) (.agg [.lit (.int .i64 a.At), .lit (.string a.F.Kind), .sl .lVal a.F.Fields]) := hb _ (List.mem_cons_self)
  have hl_a_F_Kind : a.F.Kind.size ≤ 9223372036854775807 := Bd.str (hb_a _ (by simp))
  have hl_a_F_Fields : a.F.Fields.length ≤ 9223372036854775807 := Bd.len (U := UU) (τ := .lVal) (xs := a.F.Fields) (hb_a _ (by simp))
  have hp0 : sizeTimer a ≤ 4294967296 := hp _ (List.mem_cons_self)
  clear hp hb
  rw [vc_laws_toTimer a]
  simp only [sizeTimer] at hp0
  repeat' (first | exact Lf_rfl _ | (refine And.intro (by omega) ?_))
def con_laws_eqTimer : Con UU where
  α := DTimer × DTimer
  md := [.ro, .ro]
  of := fun | [.agg [.lit (.int .i64 a0), .lit (.string a1), .sl .eVal a2], .agg [.lit (.int .i64 a3), .lit (.string a4), .sl .eVal a5]] => some (⟨a0, ⟨a1, a2⟩⟩, ⟨a3, ⟨a4, a5⟩⟩) | _ => none
  ds := fun (a, b) => [.agg [.lit (.int .i64 a.At), .lit (.string a.F.Kind), .sl .eVal a.F.Fields], .agg [.lit (.int .i64 b.At), .lit (.string b.F.Kind), .sl .eVal b.F.Fields]]
  pre := fun (a, b) => []
  res := fun (a, b) => ⟨[.one (.lit (.bool (decide (a = b))))], true, []⟩
  law := by intro l x h; (try simp only at h); split at h <;> cases h; rfl
def ann_laws_eqTimer : con_laws_eqTimer.α → Nat → Option (Ann UU) := fun (a, b) => annL []
def use_laws_eqTimer : List (FuncId × Con UU) := [(76, con_laws_eqFact)]
theorem vc_laws_eqTimer (a : DTimer) (b : DTimer) : goal EE use_laws_eqTimer Go.Proofs.Try.f28 con_laws_eqTimer ann_laws_eqTimer (a, b) = (bif a.At != b.At then Lf [DV.one (Cell.lit (Value.bool false))] [DV.one (Cell.lit (Value.bool (decide (a = b))))] else bif !decide (a.F = b.F) then Lf [DV.one (Cell.lit (Value.bool false))] [DV.one (Cell.lit (Value.bool (decide (a = b))))] else Lf [DV.one (Cell.lit (Value.bool true))] [DV.one (Cell.lit (Value.bool (decide (a = b))))]) := by kernel_rfl
theorem ok_laws_eqTimer : Holds EE (28, con_laws_eqTimer) := by
  refine holds_of EE_ok Go.Proofs.Try.func28 con_laws_eqTimer (by kernel_rfl) use_laws_eqTimer (all_cons ok_laws_eqFact all_nil) ann_laws_eqTimer (fun x hp hb => ?_)
  obtain ⟨a, b⟩ := x
  have hb_a : BdDV (U := UU) (.agg [.lit (.int .i64 a.At), .lit (.string a.F.Kind), .sl .eVal a.F.Fields]) := hb _ (List.mem_cons_self)
  have hl_a_F_Kind : a.F.Kind.size ≤ 9223372036854775807 := Bd.str (hb_a _ (by simp))
  have hl_a_F_Fields : a.F.Fields.length ≤ 9223372036854775807 := Bd.len (U := UU) (τ := .eVal) (xs := a.F.Fields) (hb_a _ (by simp))
  have hb_b : BdDV (U := UU) (.agg [.lit (.int .i64 b.At), .lit (.string b.F.Kind), .sl .eVal b.F.Fields]) := hb _ (List.mem_cons_of_mem _ (List.mem_cons_self))
  have hl_b_F_Kind : b.F.Kind.size ≤ 9223372036854775807 := Bd.str (hb_b _ (by simp))
  have hl_b_F_Fields : b.F.Fields.length ≤ 9223372036854775807 := Bd.len (U := UU) (τ := .eVal) (xs := b.F.Fields) (hb_b _ (by simp))
  clear hp hb
  rw [vc_laws_eqTimer a b]
  obtain ⟨aAt, aF⟩ := a
  obtain ⟨bAt, bF⟩ := b
  repeat' (apply if_cond <;> intro _)
  all_goals (first | apply Lf_t | apply Lf_f) <;> simp_all
def con_laws_szTimerS : Con UU where
  α := (List DTimer) × Int
  md := [.ro, .ro]
  of := fun | [.one (.sl .lTimer a0), .one (.lit (.int .i64 a1))] => some (a0, a1) | _ => none
  ds := fun (a, left) => [.one (.sl .lTimer a), .one (.lit (.int .i64 left))]
  pre := fun (a, left) => [0 ≤ left]
  res := fun (a, left) => ⟨[.one (.lit (.int .i64 (szr left (sizeTimerS a))))], true, []⟩
  law := by intro l x h; (try simp only at h); split at h <;> cases h; rfl
def I_laws_szTimerS_5 (a : (List DTimer)) (left : Int) : Int × Int × Unit → Prop := fun (lf, i, _) => 0 ≤ lf ∧ 0 ≤ i ∧ i ≤ a.length ∧ szr lf ((a.drop i.toNat).map sizeTimer).sum = szr left (sizeTimerS a)
def μ_laws_szTimerS_5 (a : (List DTimer)) (left : Int) : Int × Int × Unit → Nat := fun (lf, i, _) => a.length - i.toNat
def ann_laws_szTimerS : con_laws_szTimerS.α → Nat → Option (Ann UU) := fun (a, left) => annL [(5, annOf [.slot 1 (1, 1024) (.lit (.int .i64)), .slot 5 (5, 1024) (.lit (.int .i64))] (fun _ => I_laws_szTimerS_5 a left) (μ_laws_szTimerS_5 a left))]
def use_laws_szTimerS : List (FuncId × Con UU) := [(24, con_laws_szTimer)]
theorem vc_laws_szTimerS (a : (List DTimer)) (left : Int) : goal EE use_laws_szTimerS Go.Proofs.Try.f17 con_laws_szTimerS ann_laws_szTimerS (a, left) = (let x0 : Int := IntKind.wrap IntKind.i64 (left - (↑(List.length a) : Int));
bif decide (x0 < (0 : Int)) then Lf [DV.one (Cell.lit (Value.int IntKind.i64 (-1 : Int)))] [DV.one (Cell.lit (Value.int IntKind.i64 (szr left (sizeTimerS a))))]
else
  I_laws_szTimerS_5 a left (x0, (0 : Int), PUnit.unit) ∧
    ∀ (y : Int × Int × PUnit),
      let x1 : Int := szr y.1 (sizeTimer (List.getD a (Int.toNat y.2.1) zTimer));
      I_laws_szTimerS_5 a left y → bif decide (y.2.1 < (↑(List.length a) : Int)) then (0 : Int) ≤ y.2.1 ∧ Int.toNat y.2.1 < List.length a ∧ (0 : Int) ≤ y.1 ∧ bif decide (x1 < (0 : Int)) then Lf [DV.one (Cell.lit (Value.int IntKind.i64 (-1 : Int)))] [DV.one (Cell.lit (Value.int IntKind.i64 (szr left (sizeTimerS a))))] else I_laws_szTimerS_5 a left (x1, IntKind.wrap IntKind.i64 (y.2.1 + (1 : Int)), PUnit.unit) ∧ μ_laws_szTimerS_5 a left (x1, IntKind.wrap IntKind.i64 (y.2.1 + (1 : Int)), PUnit.unit) < μ_laws_szTimerS_5 a left y else Lf [DV.one (Cell.lit (Value.int IntKind.i64 y.1))] [DV.one (Cell.lit (Value.int IntKind.i64 (szr left (sizeTimerS a))))]) := by kernel_rfl
theorem ok_laws_szTimerS : Holds EE (17, con_laws_szTimerS) := by
  refine holds_of EE_ok Go.Proofs.Try.func17 con_laws_szTimerS (by kernel_rfl) use_laws_szTimerS (all_cons ok_laws_szTimer all_nil) ann_laws_szTimerS (fun x hp hb => ?_)
  obtain ⟨a, left⟩ := x
  have hb_a : BdDV (U := UU) (.one (.sl .lTimer a)) := hb _ (List.mem_cons_self)
  have hl_a : a.length ≤ 9223372036854775807 := Bd.len hb_a
  have hb_left : BdDV (U := UU) (.one (.lit (.int .i64 left))) := hb _ (List.mem_cons_of_mem _ (List.mem_cons_self))
  have hl_left := Bd.i64 hb_left
  have hp0 : 0 ≤ left := hp _ (List.mem_cons_self)
  clear hp hb
  rw [vc_laws_szTimerS a left]
  dsimp only
  rw [wrap_i64 (by omega) (by omega)]
  refine if_cond (fun h => Lf_i ?_) (fun h => ⟨?_, ?_⟩)
  · simp [szr, sizeTimerS] at *; omega
  · simp only [I_laws_szTimerS_5, sizeTimerS]; simp at h; have h' : 0 ≤ left - a.length := by omega
    exact ⟨h', by omega, by omega, szr_sub h'⟩
  rintro ⟨lf, i, ⟨⟩⟩ ⟨h0, h1, h2, hR⟩
  refine if_cond (fun hc => ?_) (fun hc => ?_)
  · have hc : i < a.length := by simpa using hc
    rw [drop_step a zTimer h1 hc, List.map_cons, List.sum_cons] at hR
    simp only at *
    rw [wrap_i64 (by omega) (by omega)]
    generalize List.getD a i.toNat zTimer = x at *
    refine ⟨by omega, by omega, by omega, if_cond (fun h => Lf_i ?_) (fun h => ⟨⟨?_, by omega, by omega, ?_⟩, ?_⟩)⟩
    · rw [← hR]; exact (szr_bad (of_decide_eq_true h)).symm
    · simp at h; omega
    · rw [← hR]; simp at h; exact szr_szr h
    · simp only [μ_laws_szTimerS_5]; omega
  · have hc : a.length ≤ i := by simpa using hc
    rw [drop_end a hc] at hR
    apply Lf_i; rw [← hR]; simp [szr, h0]
def con_laws_toTimerS : Con UU where
  α := (List DTimer)
  md := [.ro]
  of := fun | [.one (.sl .lTimer a0)] => some a0 | _ => none
  ds := fun a => [.one (.sl .lTimer a)]
  pre := fun a => [sizeTimerS a ≤ 4294967296]
  res := fun a => ⟨[.one (.sl .eTimer a)], true, []⟩
  law := by intro l x h; (try simp only at h); split at h <;> cases h; rfl
def I_laws_toTimerS_3 (a : (List DTimer)) : List DTimer × Int × Unit → Prop := fun (out, i, _) => 0 ≤ i ∧ i ≤ a.length ∧ out = a.take i.toNat ++ List.replicate (a.length - i.toNat) zTimer
def μ_laws_toTimerS_3 (a : (List DTimer)) : List DTimer × Int × Unit → Nat := fun (out, i, _) => a.length - i.toNat
def ann_laws_toTimerS : con_laws_toTimerS.α → Nat → Option (Ann UU) := fun a => annL [(3, annOf [.slot 3 (3, 1024) (.own .eTimer true), .slot 4 (4, 1024) (.lit (.int .i64))] (fun _ => I_laws_toTimerS_3 a) (μ_laws_toTimerS_3 a))]
def use_laws_toTimerS : List (FuncId × Con UU) := [(26, con_laws_toTimer)]
theorem vc_laws_toTimerS (a : (List DTimer)) : goal EE use_laws_toTimerS Go.Proofs.Try.f19 con_laws_toTimerS ann_laws_toTimerS a = (let x0 : Int := (↑(List.length a) : Int);
(0 : Int) ≤ x0 ∧
  x0 = x0 ∧
    x0 ≤ (4294967296 : Int) ∧
      I_laws_toTimerS_3 a (List.replicate (Int.toNat x0) zTimer, (0 : Int), PUnit.unit) ∧
        ∀ (y : List DTimer × Int × PUnit),
          let x1 : Nat := Int.toNat y.2.1;
          I_laws_toTimerS_3 a y → bif decide (y.2.1 < x0) then (0 : Int) ≤ y.2.1 ∧ x1 < List.length a ∧ sizeTimer (List.getD a x1 zTimer) ≤ (4294967296 : Nat) ∧ (0 : Int) ≤ y.2.1 ∧ x1 < List.length y.1 ∧ x1 < List.length y.1 ∧ I_laws_toTimerS_3 a (List.set y.1 x1 (List.getD a x1 zTimer), IntKind.wrap IntKind.i64 (y.2.1 + (1 : Int)), PUnit.unit) ∧ μ_laws_toTimerS_3 a (List.set y.1 x1 (List.getD a x1 zTimer), IntKind.wrap IntKind.i64 (y.2.1 + (1 : Int)), PUnit.unit) < μ_laws_toTimerS_3 a y else Lf [DV.one (Cell.sl Cd.eTimer y.1)] [DV.one (Cell.sl Cd.eTimer a)]) := by kernel_rfl
theorem ok_laws_toTimerS : Holds EE (19, con_laws_toTimerS) := by
  refine holds_of EE_ok Go.Proofs.Try.func19 con_laws_toTimerS (by kernel_rfl) use_laws_toTimerS (all_cons ok_laws_toTimer all_nil) ann_laws_toTimerS (fun (a : (List DTimer)) hp hb => ?_)
  have hb_a : BdDV (U := UU) (.one (.sl .lTimer a)) := hb _ (List.mem_cons_self)
  have hl_a : a.length ≤ 9223372036854775807 := Bd.len hb_a
  have hp0 : sizeTimerS a ≤ 4294967296 := hp _ (List.mem_cons_self)
  clear hp hb
  rw [vc_laws_toTimerS a]
  dsimp only
  have hlen : a.length ≤ 4294967296 := by simp only [sizeTimerS] at hp0; omega
  refine ⟨by omega, rfl, by omega, ?_, ?_⟩
  · simp [I_laws_toTimerS_3]
  rintro ⟨out, i, ⟨⟩⟩ ⟨h1, h2, rfl⟩
  simp only at *
  refine if_cond (fun hc => ?_) (fun hc => ?_)
  · have hc : i < a.length := by simpa using hc
    rw [wrap_i64 (by omega) (by omega), set_fill a zTimer h1 hc]
    exact ⟨h1, by omega, by exact Nat.le_trans (sum_getD_le sizeTimer a zTimer h1 hc) (by simp only [sizeTimerS] at hp0; omega), h1, by simp; omega, by simp; omega, ⟨by omega, by omega, rfl⟩, by simp only [μ_laws_toTimerS_3]; omega⟩
  · have hc : a.length ≤ i := by simpa using hc
    have e : i.toNat = a.length := by omega
    rw [e]; simp; exact Lf_rfl _
def con_laws_eqTimerS : Con UU where
  α := (List DTimer) × (List DTimer)
  md := [.ro, .ro]
  of := fun | [.one (.sl .eTimer a0), .one (.sl .eTimer a1)] => some (a0, a1) | _ => none
  ds := fun (a, b) => [.one (.sl .eTimer a), .one (.sl .eTimer b)]
  pre := fun (a, b) => []
  res := fun (a, b) => ⟨[.one (.lit (.bool (decide (a = b))))], true, []⟩
  law := by intro l x h; (try simp only at h); split at h <;> cases h; rfl
def I_laws_eqTimerS_4 (a : (List DTimer)) (b : (List DTimer)) : Int × Unit → Prop := fun (i, _) => 0 ≤ i ∧ i ≤ a.length ∧ a.length = b.length ∧ (a.drop i.toNat = b.drop i.toNat ↔ a = b)
def μ_laws_eqTimerS_4 (a : (List DTimer)) (b : (List DTimer)) : Int × Unit → Nat := fun (i, _) => a.length - i.toNat
def ann_laws_eqTimerS : con_laws_eqTimerS.α → Nat → Option (Ann UU) := fun (a, b) => annL [(4, annOf [.slot 5 (5, 1024) (.lit (.int .i64))] (fun _ => I_laws_eqTimerS_4 a b) (μ_laws_eqTimerS_4 a b))]
def use_laws_eqTimerS : List (FuncId × Con UU) := [(28, con_laws_eqTimer)]
theorem vc_laws_eqTimerS (a : (List DTimer)) (b : (List DTimer)) : goal EE use_laws_eqTimerS Go.Proofs.Try.f21 con_laws_eqTimerS ann_laws_eqTimerS (a, b) = (bif (↑(List.length a) : Int) != (↑(List.length b) : Int) then Lf [DV.one (Cell.lit (Value.bool false))] [DV.one (Cell.lit (Value.bool (decide (a = b))))] else I_laws_eqTimerS_4 a b ((0 : Int), PUnit.unit) ∧ ∀ (y : Int × PUnit), I_laws_eqTimerS_4 a b y → bif decide (y.1 < (↑(List.length a) : Int)) then (0 : Int) ≤ y.1 ∧ Int.toNat y.1 < List.length a ∧ (0 : Int) ≤ y.1 ∧ Int.toNat y.1 < List.length b ∧ bif !decide (List.getD a (Int.toNat y.1) zTimer = List.getD b (Int.toNat y.1) zTimer) then Lf [DV.one (Cell.lit (Value.bool false))] [DV.one (Cell.lit (Value.bool (decide (a = b))))] else I_laws_eqTimerS_4 a b (IntKind.wrap IntKind.i64 (y.1 + (1 : Int)), PUnit.unit) ∧ μ_laws_eqTimerS_4 a b (IntKind.wrap IntKind.i64 (y.1 + (1 : Int)), PUnit.unit) < μ_laws_eqTimerS_4 a b y else Lf [DV.one (Cell.lit (Value.bool true))] [DV.one (Cell.lit (Value.bool (decide (a = b))))]) := by kernel_rfl
theorem ok_laws_eqTimerS : Holds EE (21, con_laws_eqTimerS) := by
  refine holds_of EE_ok Go.Proofs.Try.func21 con_laws_eqTimerS (by kernel_rfl) use_laws_eqTimerS (all_cons ok_laws_eqTimer all_nil) ann_laws_eqTimerS (fun x hp hb => ?_)
  obtain ⟨a, b⟩ := x
  have hb_a : BdDV (U := UU) (.one (.sl .eTimer a)) := hb _ (List.mem_cons_self)
  have hl_a : a.length ≤ 9223372036854775807 := Bd.len hb_a
  have hb_b : BdDV (U := UU) (.one (.sl .eTimer b)) := hb _ (List.mem_cons_of_mem _ (List.mem_cons_self))
  have hl_b : b.length ≤ 9223372036854775807 := Bd.len hb_b
  clear hp hb
  rw [vc_laws_eqTimerS a b]
  refine if_cond (fun h => Lf_f ?_) (fun h => ⟨?_, ?_⟩)
  · rintro rfl; simp at h
  · simp [I_laws_eqTimerS_4] at *; omega
  rintro ⟨i, ⟨⟩⟩ ⟨h1, h2, h3, hR⟩
  simp only at *
  refine if_cond (fun hc => ?_) (fun hc => ?_)
  · have hc : i < a.length := by simpa using hc
    rw [drop_step a zTimer h1 hc, drop_step b zTimer h1 (by omega)] at hR
    rw [wrap_i64 (by omega) (by omega)]
    refine ⟨by omega, by omega, by omega, by omega, if_cond (fun h => Lf_f ?_) (fun h => ⟨⟨by omega, by omega, h3, ?_⟩, ?_⟩)⟩
    · rw [← hR]; simp at h; simp [h]
    · rw [← hR]; simp at h; simp [h]
    · simp only [μ_laws_eqTimerS_4]; omega
  · have hc : a.length ≤ i := by simpa using hc
    rw [drop_end a hc, drop_end b (by omega)] at hR
    exact Lf_t (hR.1 rfl)
def con_laws_markTimerS : Con UU where
  α := (List DTimer) × Int
  md := [.wr, .ro]
  of := fun | [.one (.sl .eTimer a0), .one (.lit (.int .i64 a1))] => some (a0, a1) | _ => none
  ds := fun (a, k) => [.one (.sl .eTimer a), .one (.lit (.int .i64 k))]
  pre := fun (a, k) => [0 ≤ k, k + cntTimerS a ≤ 4611686018427387904]
  res := fun (a, k) => ⟨[.one (.lit (.int .i64 (k + cntTimerS a)))], true, [.one (.sl .eTimer (markTimerS a k))]⟩
  law := by intro l x h; (try simp only at h); split at h <;> cases h; rfl
def I_laws_markTimerS_2 (a : (List DTimer)) (k : Int) : List DTimer × Int × Int × Unit → Prop := fun (row, kk, i, _) => 0 ≤ i ∧ i ≤ a.length ∧ row = (mkS markTimer cntTimer a k).take i.toNat ++ a.drop i.toNat ∧ kk = k + ctS cntTimer (a.take i.toNat)
def μ_laws_markTimerS_2 (a : (List DTimer)) (k : Int) : List DTimer × Int × Int × Unit → Nat := fun (row, kk, i, _) => a.length - i.toNat
def ann_laws_markTimerS : con_laws_markTimerS.α → Nat → Option (Ann UU) := fun (a, k) => annL [(2, annOf [.slot 0 (2000000, 0) (.own .eTimer true), .slot 1 (1, 1024) (.lit (.int .i64)), .slot 5 (5, 1024) (.lit (.int .i64))] (fun _ => I_laws_markTimerS_2 a k) (μ_laws_markTimerS_2 a k))]
def use_laws_markTimerS : List (FuncId × Con UU) := [(66, con_laws_markText), (67, con_laws_markValS)]
theorem vc_laws_markTimerS (a : (List DTimer)) (k : Int) : goal EE use_laws_markTimerS Go.Proofs.Try.f22 con_laws_markTimerS ann_laws_markTimerS (a, k) = (I_laws_markTimerS_2 a k (a, k, (0 : Int), PUnit.unit) ∧
  ∀ (y : List DTimer × Int × Int × PUnit),
    let x0 : List DTimer := List.modify (List.modify y.1 (Int.toNat y.2.2.1) fun (x : DTimer) => { At := y.2.1, F := x.F : DTimer }) (Int.toNat y.2.2.1) fun (x : DTimer) => { At := x.At, F := { Kind := markText (IntKind.wrap IntKind.i64 (y.2.1 + (1 : Int))), Fields := x.F.Fields : DFact } : DTimer };
    let x1 : Nat := Int.toNat y.2.2.1;
    let x2 : Int := IntKind.wrap IntKind.i64 (IntKind.wrap IntKind.i64 (y.2.1 + (1 : Int)) + (1 : Int));
    let x3 : Int := x2 + (↑(cntValS (List.getD x0 x1 zTimer).F.Fields) : Int);
    I_laws_markTimerS_2 a k y → bif decide (y.2.2.1 < (↑(List.length y.1) : Int)) then (0 : Int) ≤ y.2.2.1 ∧ x1 < List.length y.1 ∧ x1 < List.length y.1 ∧ IntKind.wrap IntKind.i64 (y.2.1 + (1 : Int)) ≤ (4611686018427387903 : Int) ∧ (0 : Int) ≤ y.2.2.1 ∧ x1 < List.length (List.modify y.1 x1 fun (x : DTimer) => { At := y.2.1, F := x.F : DTimer }) ∧ x1 < List.length (List.modify y.1 x1 fun (x : DTimer) => { At := y.2.1, F := x.F : DTimer }) ∧ (0 : Int) ≤ y.2.2.1 ∧ x1 < List.length x0 ∧ x1 < List.length x0 ∧ x1 < List.length x0 ∧ (0 : Int) ≤ x2 ∧ x3 ≤ (4611686018427387904 : Int) ∧ I_laws_markTimerS_2 a k (List.modify x0 x1 fun (x : DTimer) => { At := x.At, F := { Kind := x.F.Kind, Fields := markValS (List.getD x0 x1 zTimer).F.Fields x2 : DFact } : DTimer }, x3, IntKind.wrap IntKind.i64 (y.2.2.1 + (1 : Int)), PUnit.unit) ∧ μ_laws_markTimerS_2 a k (List.modify x0 x1 fun (x : DTimer) => { At := x.At, F := { Kind := x.F.Kind, Fields := markValS (List.getD x0 x1 zTimer).F.Fields x2 : DFact } : DTimer }, x3, IntKind.wrap IntKind.i64 (y.2.2.1 + (1 : Int)), PUnit.unit) < μ_laws_markTimerS_2 a k y else asD [DV.one (Cell.lit (Value.int IntKind.i64 y.2.1))] = asD [DV.one (Cell.lit (Value.int IntKind.i64 (k + (↑(cntTimerS a) : Int))))] ∧ asD [DV.one (Cell.sl Cd.eTimer y.1)] = asD [DV.one (Cell.sl Cd.eTimer (markTimerS a k))]) := by kernel_rfl
theorem ok_laws_markTimerS : Holds EE (22, con_laws_markTimerS) := by
  refine holds_of EE_ok Go.Proofs.Try.func22 con_laws_markTimerS (by kernel_rfl) use_laws_markTimerS (all_cons ok_laws_markText (all_cons ok_laws_markValS all_nil)) ann_laws_markTimerS (fun x hp hb => ?_)
  obtain ⟨a, k⟩ := x
  have hb_a : BdDV (U := UU) (.one (.sl .eTimer a)) := hb _ (List.mem_cons_self)
  have hl_a : a.length ≤ 9223372036854775807 := Bd.len hb_a
  have hb_k : BdDV (U := UU) (.one (.lit (.int .i64 k))) := hb _ (List.mem_cons_of_mem _ (List.mem_cons_self))
  have hl_k := Bd.i64 hb_k
  have hp0 : 0 ≤ k := hp _ (List.mem_cons_self)
  have hp1 : k + cntTimerS a ≤ 4611686018427387904 := hp _ (List.mem_cons_of_mem _ (List.mem_cons_self))
  clear hp hb
  rw [vc_laws_markTimerS a k]
  dsimp only
  refine ⟨⟨by omega, by omega, by simp, by simp [ctS]⟩, ?_⟩
  rintro ⟨row, kk, i, ⟨⟩⟩ ⟨h1, h2, rfl, rfl⟩
  simp only
  have hl := mk_rl markTimer cntTimer a k h1 h2
  refine if_cond (fun hc => ?_) (fun hc => ?_)
  · have hc : i < a.length := by have hc := of_decide_eq_true hc; omega
    have hct := ctS_take cntTimer a zTimer h1 hc
    have hle := ctS_take_le cntTimer a (i + 1).toNat
    have hg := mk_getD _ a zTimer (mk_tl markTimer cntTimer a k h1 h2) h1 hc
    have hM := fun F hF => mkS_mod markTimer cntTimer a zTimer k (i := i) F h1 hc hF
    have hq : (cntTimerS a : Int) = ctS cntTimer a := rfl
    generalize List.getD a i.toNat zTimer = x at *
    generalize hkk : k + (ctS cntTimer (a.take i.toNat) : Int) = kk at *
    generalize List.take i.toNat (mkS markTimer cntTimer a k) ++ List.drop i.toNat a = R at *
    simp only [cntTimer] at hct
    simp (disch := first | omega | (simp only [List.length_modify]; omega)) only [List.length_modify, wrap_i64, getD_modify, modify_modify, hg, hl]
    repeat' (first | refine And.intro (by omega) ?_ | fail)
    exact ⟨⟨by omega, by omega, hM _ rfl, by omega⟩, by simp only [μ_laws_markTimerS_2]; omega⟩
  · have hc : a.length ≤ i := by have hc := of_decide_eq_false hc; omega
    rw [mk_done markTimer cntTimer a k hc, ct_done cntTimer a hc]
    exact ⟨rfl, rfl⟩
def con_laws_heldTimerS : Con UU where
  α := (List DTimer) × Int
  md := [.ro, .ro]
  of := fun | [.one (.sl .eTimer a0), .one (.lit (.int .i64 a1))] => some (a0, a1) | _ => none
  ds := fun (a, k) => [.one (.sl .eTimer a), .one (.lit (.int .i64 k))]
  pre := fun (a, k) => [0 ≤ k, k + cntTimerS a ≤ 4611686018427387904]
  res := fun (a, k) => ⟨[.one (.lit (.int .i64 (if markTimerS a k = a then k + cntTimerS a else -1)))], true, []⟩
  law := by intro l x h; (try simp only at h); split at h <;> cases h; rfl
def I_laws_heldTimerS_2 (a : (List DTimer)) (k : Int) : Int × Int × Unit → Prop := fun (kk, i, _) => 0 ≤ i ∧ i ≤ a.length ∧ kk = k + ctS cntTimer (a.take i.toNat) ∧ (mkS markTimer cntTimer (a.drop i.toNat) kk = a.drop i.toNat ↔ mkS markTimer cntTimer a k = a)
def μ_laws_heldTimerS_2 (a : (List DTimer)) (k : Int) : Int × Int × Unit → Nat := fun (kk, i, _) => a.length - i.toNat
def ann_laws_heldTimerS : con_laws_heldTimerS.α → Nat → Option (Ann UU) := fun (a, k) => annL [(2, annOf [.slot 1 (1, 1024) (.lit (.int .i64)), .slot 5 (5, 1024) (.lit (.int .i64))] (fun _ => I_laws_heldTimerS_2 a k) (μ_laws_heldTimerS_2 a k))]
def use_laws_heldTimerS : List (FuncId × Con UU) := [(66, con_laws_markText), (68, con_laws_heldValS)]
theorem vc_laws_heldTimerS (a : (List DTimer)) (k : Int) : goal EE use_laws_heldTimerS Go.Proofs.Try.f23 con_laws_heldTimerS ann_laws_heldTimerS (a, k) = (I_laws_heldTimerS_2 a k (k, (0 : Int), PUnit.unit) ∧
  ∀ (y : Int × Int × PUnit),
    let x0 : Int := if markValS (List.getD a (Int.toNat y.2.1) zTimer).F.Fields (IntKind.wrap IntKind.i64 (IntKind.wrap IntKind.i64 (y.1 + (1 : Int)) + (1 : Int))) = (List.getD a (Int.toNat y.2.1) zTimer).F.Fields then IntKind.wrap IntKind.i64 (IntKind.wrap IntKind.i64 (y.1 + (1 : Int)) + (1 : Int)) + (↑(cntValS (List.getD a (Int.toNat y.2.1) zTimer).F.Fields) : Int) else (-1 : Int);
    let x1 : DFact := (List.getD a (Int.toNat y.2.1) zTimer).F;
    let x2 : Nat := Int.toNat y.2.1;
    let x3 : Int := IntKind.wrap IntKind.i64 (y.1 + (1 : Int));
    I_laws_heldTimerS_2 a k y → bif decide (y.2.1 < (↑(List.length a) : Int)) then (0 : Int) ≤ y.2.1 ∧ x2 < List.length a ∧ bif (List.getD a x2 zTimer).At != y.1 then Lf [DV.one (Cell.lit (Value.int IntKind.i64 (-1 : Int)))] [DV.one (Cell.lit (Value.int IntKind.i64 (if markTimerS a k = a then k + (↑(cntTimerS a) : Int) else (-1 : Int))))] else (0 : Int) ≤ y.2.1 ∧ x2 < List.length a ∧ x3 ≤ (4611686018427387903 : Int) ∧ bif !ByteArray.toList x1.Kind == ByteArray.toList (markText x3) then Lf [DV.one (Cell.lit (Value.int IntKind.i64 (-1 : Int)))] [DV.one (Cell.lit (Value.int IntKind.i64 (if markTimerS a k = a then k + (↑(cntTimerS a) : Int) else (-1 : Int))))] else (0 : Int) ≤ y.2.1 ∧ x2 < List.length a ∧ (0 : Int) ≤ IntKind.wrap IntKind.i64 (x3 + (1 : Int)) ∧ IntKind.wrap IntKind.i64 (x3 + (1 : Int)) + (↑(cntValS x1.Fields) : Int) ≤ (4611686018427387904 : Int) ∧ bif decide (x0 < (0 : Int)) then Lf [DV.one (Cell.lit (Value.int IntKind.i64 (-1 : Int)))] [DV.one (Cell.lit (Value.int IntKind.i64 (if markTimerS a k = a then k + (↑(cntTimerS a) : Int) else (-1 : Int))))] else I_laws_heldTimerS_2 a k (x0, IntKind.wrap IntKind.i64 (y.2.1 + (1 : Int)), PUnit.unit) ∧ μ_laws_heldTimerS_2 a k (x0, IntKind.wrap IntKind.i64 (y.2.1 + (1 : Int)), PUnit.unit) < μ_laws_heldTimerS_2 a k y else Lf [DV.one (Cell.lit (Value.int IntKind.i64 y.1))] [DV.one (Cell.lit (Value.int IntKind.i64 (if markTimerS a k = a then k + (↑(cntTimerS a) : Int) else (-1 : Int))))]) := by kernel_rfl
theorem ok_laws_heldTimerS : Holds EE (23, con_laws_heldTimerS) := by
  refine holds_of EE_ok Go.Proofs.Try.func23 con_laws_heldTimerS (by kernel_rfl) use_laws_heldTimerS (all_cons ok_laws_markText (all_cons ok_laws_heldValS all_nil)) ann_laws_heldTimerS (fun x hp hb => ?_)
  obtain ⟨a, k⟩ := x
  have hb_a : BdDV (U := UU) (.one (.sl .eTimer a)) := hb _ (List.mem_cons_self)
  have hl_a : a.length ≤ 9223372036854775807 := Bd.len hb_a
  have hb_k : BdDV (U := UU) (.one (.lit (.int .i64 k))) := hb _ (List.mem_cons_of_mem _ (List.mem_cons_self))
  have hl_k := Bd.i64 hb_k
  have hp0 : 0 ≤ k := hp _ (List.mem_cons_self)
  have hp1 : k + cntTimerS a ≤ 4611686018427387904 := hp _ (List.mem_cons_of_mem _ (List.mem_cons_self))
  clear hp hb
  rw [vc_laws_heldTimerS a k]
  dsimp only
  refine ⟨⟨by omega, by omega, by simp [ctS], by simp⟩, ?_⟩
  rintro ⟨kk, i, ⟨⟩⟩ ⟨h1, h2, hkk, hR⟩
  simp only
  simp only [markTimerS]
  refine if_cond (fun hc => ?_) (fun hc => ?_)
  · have hc : i < a.length := by have hc := of_decide_eq_true hc; omega
    have hct := ctS_take cntTimer a zTimer h1 hc
    have hle := ctS_take_le cntTimer a (i + 1).toNat
    have hq : (cntTimerS a : Int) = ctS cntTimer a := rfl
    rw [drop_step a zTimer h1 hc] at hR
    generalize List.getD a i.toNat zTimer = x at *
    simp only [mkS, List.cons.injEq] at hR
    have e : kk + (cntTimer x : Int) = kk + 1 + 1 + (cntValS x.F.Fields : Int) := by simp only [cntTimer]; omega
    rw [e] at hR
    simp only [markTimer, cntTimer] at hR hct
    simp (disch := omega) only [wrap_i64, bne_int, toList_beq]
    obtain ⟨x_At, ⟨x_F_Kind, x_F_Fields⟩⟩ := x
    simp only [DFact.mk.injEq, DTimer.mk.injEq] at *
    repeat' (first | refine And.intro (by omega) ?_ | fail)
    refine if_cond (fun h => Lf_no (fun hh => ?_)) (fun h => ?_)
    · have hh := hR.2 hh; simp_all
    have h : x_At = kk := by simpa using h
    subst x_At
    repeat' (first | refine And.intro (by omega) ?_ | fail)
    refine if_cond (fun h => Lf_no (fun hh => ?_)) (fun h => ?_)
    · have hh := hR.2 hh; simp_all
    have h : x_F_Kind = markText (kk + 1) := by simpa using h
    subst x_F_Kind
    repeat' (first | refine And.intro (by omega) ?_ | fail)
    by_cases hm : markValS x_F_Fields (kk + 1 + 1) = x_F_Fields
    rotate_left
    · simp only [if_neg hm]; rw [cond_yes (by decide)]
      exact Lf_no (fun hh => hm (by have hh := hR.2 hh; simp_all))
    simp only [if_pos hm]
    refine if_cond (fun h => absurd (of_decide_eq_true h) (by omega)) (fun h => ?_)
    simp only [hm] at hR
    clear hm
    exact ⟨⟨by omega, by omega, by omega, by simpa using hR⟩, by simp only [μ_laws_heldTimerS_2]; omega⟩
  · have hc : a.length ≤ i := by have hc := of_decide_eq_false hc; omega
    rw [drop_end a hc] at hR
    exact Lf_yes (hR.1 rfl) (by rw [hkk, ct_done _ _ hc]; rfl)
def con_slices_CloneVal : Con UU where
  α := (List DVal)
  md := [.ro]
  of := fun | [.one (.sl .eVal a0)] => some a0 | _ => none
  ds := fun l => [.one (.sl .eVal l)]
  pre := fun l => [l.length ≤ 4294967296]
  res := fun l => ⟨[.one (.sl .eVal l)], true, []⟩
  law := by intro l x h; (try simp only at h); split at h <;> cases h; rfl
def ann_slices_CloneVal : con_slices_CloneVal.α → Nat → Option (Ann UU) := fun l => annL []
def use_slices_CloneVal : List (FuncId × Con UU) := []
theorem vc_slices_CloneVal (l : (List DVal)) : goalN EE use_slices_CloneVal Go.Proofs.Try.f113 con_slices_CloneVal ann_slices_CloneVal l .eVal l false = ((0 : Nat) + List.length l ≤ (4294967296 : Nat) ∧ Lf [DV.one (Cell.sl Cd.eVal ([] ++ l))] [DV.one (Cell.sl Cd.eVal l)]) := by kernel_rfl
theorem vc2_slices_CloneVal : goalN EE use_slices_CloneVal Go.Proofs.Try.f113 con_slices_CloneVal ann_slices_CloneVal [] .eVal [] true = (Lf [DV.one (Cell.sl Cd.eVal [])] [DV.one (Cell.sl Cd.eVal [])]) := by kernel_rfl
theorem vd2_slices_CloneVal : goalN EE use_slices_CloneVal Go.Proofs.Try.f113 con_slices_CloneVal ann_slices_CloneVal [] .eVal [] true := by
  rw [vc2_slices_CloneVal]
  exact Lf_rfl _
theorem ok_slices_CloneVal : Holds EE (113, con_slices_CloneVal) := by
  refine holds_ofN EE_ok Go.Proofs.Try.func113 con_slices_CloneVal (by kernel_rfl) rfl .eVal (fun x => x) (fun _ => rfl) use_slices_CloneVal all_nil ann_slices_CloneVal (fun (l : (List DVal)) hp hb => ?_)
  have hb_l : BdDV (U := UU) (.one (.sl .eVal l)) := hb _ (List.mem_cons_self)
  have hl_l : l.length ≤ 9223372036854775807 := Bd.len hb_l
  have hp0 : l.length ≤ 4294967296 := hp _ (List.mem_cons_self)
  clear hp hb
  refine ⟨?_, fun h0 => ?_⟩
  rotate_left
  · subst h0; exact vd2_slices_CloneVal
  rw [vc_slices_CloneVal l]
  exact ⟨by simp; omega, Lf_rfl _⟩
def con_spec_l3Copy : Con UU where
  α := DFact
  md := [.ro]
  of := fun | [.agg [.lit (.string a0), .sl .eVal a1]] => some ⟨a0, a1⟩ | _ => none
  ds := fun f => [.agg [.lit (.string f.Kind), .sl .eVal f.Fields]]
  pre := fun f => [f.Fields.length ≤ 4294967296]
  res := fun f => ⟨[.agg [.lit (.string f.Kind), .sl .eVal f.Fields]], true, []⟩
  law := by intro l x h; (try simp only at h); split at h <;> cases h; rfl
def ann_spec_l3Copy : con_spec_l3Copy.α → Nat → Option (Ann UU) := fun f => annL []
def use_spec_l3Copy : List (FuncId × Con UU) := []
theorem vc_spec_l3Copy (f : DFact) : goal EE use_spec_l3Copy Go.Proofs.Try.f71 con_spec_l3Copy ann_spec_l3Copy f = ((0 : Nat) + List.length f.Fields ≤ (4294967296 : Nat) ∧ Lf [DV.agg [Cell.lit (Value.string f.Kind), Cell.sl Cd.eVal ([] ++ f.Fields)]] [DV.agg [Cell.lit (Value.string f.Kind), Cell.sl Cd.eVal f.Fields]]) := by kernel_rfl
theorem ok_spec_l3Copy : Holds EE (71, con_spec_l3Copy) := by
  refine holds_of EE_ok Go.Proofs.Try.func71 con_spec_l3Copy (by kernel_rfl) use_spec_l3Copy all_nil ann_spec_l3Copy (fun (f : DFact) hp hb => ?_)
  have hb_f : BdDV (U := UU) (.agg [.lit (.string f.Kind), .sl .eVal f.Fields]) := hb _ (List.mem_cons_self)
  have hl_f_Kind : f.Kind.size ≤ 9223372036854775807 := Bd.str (hb_f _ (by simp))
  have hl_f_Fields : f.Fields.length ≤ 9223372036854775807 := Bd.len (U := UU) (τ := .eVal) (xs := f.Fields) (hb_f _ (by simp))
  have hp0 : f.Fields.length ≤ 4294967296 := hp _ (List.mem_cons_self)
  clear hp hb
  rw [vc_spec_l3Copy f]
  exact ⟨by simp; omega, Lf_rfl _⟩
def con_impl_copyFact : Con UU where
  α := DFact
  md := [.ro]
  of := fun | [.agg [.lit (.string a0), .sl .eVal a1]] => some ⟨a0, a1⟩ | _ => none
  ds := fun f => [.agg [.lit (.string f.Kind), .sl .eVal f.Fields]]
  pre := fun f => [f.Fields.length ≤ 4294967296]
  res := fun f => ⟨[.agg [.lit (.string f.Kind), .sl .eVal f.Fields]], true, []⟩
  law := by intro l x h; (try simp only at h); split at h <;> cases h; rfl
def ann_impl_copyFact : con_impl_copyFact.α → Nat → Option (Ann UU) := fun f => annL []
def use_impl_copyFact : List (FuncId × Con UU) := [(113, con_slices_CloneVal)]
theorem vc_impl_copyFact (f : DFact) : goal EE use_impl_copyFact Go.Proofs.Try.f75 con_impl_copyFact ann_impl_copyFact f = (List.length f.Fields ≤ (4294967296 : Nat) ∧ Lf [DV.agg [Cell.lit (Value.string f.Kind), Cell.sl Cd.eVal f.Fields]] [DV.agg [Cell.lit (Value.string f.Kind), Cell.sl Cd.eVal f.Fields]]) := by kernel_rfl
theorem ok_impl_copyFact : Holds EE (75, con_impl_copyFact) := by
  refine holds_of EE_ok Go.Proofs.Try.func75 con_impl_copyFact (by kernel_rfl) use_impl_copyFact (all_cons ok_slices_CloneVal all_nil) ann_impl_copyFact (fun (f : DFact) hp hb => ?_)
  have hb_f : BdDV (U := UU) (.agg [.lit (.string f.Kind), .sl .eVal f.Fields]) := hb _ (List.mem_cons_self)
  have hl_f_Kind : f.Kind.size ≤ 9223372036854775807 := Bd.str (hb_f _ (by simp))
  have hl_f_Fields : f.Fields.length ≤ 9223372036854775807 := Bd.len (U := UU) (τ := .eVal) (xs := f.Fields) (hb_f _ (by simp))
  have hp0 : f.Fields.length ≤ 4294967296 := hp _ (List.mem_cons_self)
  clear hp hb
  rw [vc_impl_copyFact f]
  exact ⟨hp0, Lf_rfl _⟩
def con_spec_l17Copy : Con UU where
  α := (List DTimer)
  md := [.ro]
  of := fun | [.one (.sl .eTimer a0)] => some a0 | _ => none
  ds := fun l => [.one (.sl .eTimer l)]
  pre := fun l => [sizeTimerS l ≤ 4294967296]
  res := fun l => ⟨[.one (.sl .eTimer l)], true, []⟩
  law := by intro l x h; (try simp only at h); split at h <;> cases h; rfl
def I_spec_l17Copy_3 (l : (List DTimer)) : List DTimer × Int × Unit → Prop := fun (out, i, _) => 0 ≤ i ∧ i ≤ l.length ∧ out = l.take i.toNat
def μ_spec_l17Copy_3 (l : (List DTimer)) : List DTimer × Int × Unit → Nat := fun (out, i, _) => l.length - i.toNat
def ann_spec_l17Copy : con_spec_l17Copy.α → Nat → Option (Ann UU) := fun l => annL [(3, annOf [.slot 3 (3, 1024) (.own .eTimer true), .slot 4 (4, 1024) (.lit (.int .i64))] (fun _ => I_spec_l17Copy_3 l) (μ_spec_l17Copy_3 l))]
def use_spec_l17Copy : List (FuncId × Con UU) := [(71, con_spec_l3Copy)]
theorem vc_spec_l17Copy (l : (List DTimer)) : goal EE use_spec_l17Copy Go.Proofs.Try.f64 con_spec_l17Copy ann_spec_l17Copy l = (I_spec_l17Copy_3 l ([], (0 : Int), PUnit.unit) ∧
  ∀ (y : List DTimer × Int × PUnit),
    let x0 : List DTimer := [List.getD l (Int.toNat y.2.1) zTimer];
    let x1 : Nat := Int.toNat y.2.1;
    I_spec_l17Copy_3 l y → bif decide (y.2.1 < (↑(List.length l) : Int)) then (0 : Int) ≤ y.2.1 ∧ x1 < List.length l ∧ (0 : Int) ≤ y.2.1 ∧ x1 < List.length l ∧ List.length (List.getD l x1 zTimer).F.Fields ≤ (4294967296 : Nat) ∧ List.length y.1 + List.length x0 ≤ (4294967296 : Nat) ∧ I_spec_l17Copy_3 l (y.1 ++ x0, IntKind.wrap IntKind.i64 (y.2.1 + (1 : Int)), PUnit.unit) ∧ μ_spec_l17Copy_3 l (y.1 ++ x0, IntKind.wrap IntKind.i64 (y.2.1 + (1 : Int)), PUnit.unit) < μ_spec_l17Copy_3 l y else Lf [DV.one (Cell.sl Cd.eTimer y.1)] [DV.one (Cell.sl Cd.eTimer l)]) := by kernel_rfl
theorem ok_spec_l17Copy : Holds EE (64, con_spec_l17Copy) := by
  refine holds_of EE_ok Go.Proofs.Try.func64 con_spec_l17Copy (by kernel_rfl) use_spec_l17Copy (all_cons ok_spec_l3Copy all_nil) ann_spec_l17Copy (fun (l : (List DTimer)) hp hb => ?_)
  have hb_l : BdDV (U := UU) (.one (.sl .eTimer l)) := hb _ (List.mem_cons_self)
  have hl_l : l.length ≤ 9223372036854775807 := Bd.len hb_l
  have hp0 : sizeTimerS l ≤ 4294967296 := hp _ (List.mem_cons_self)
  clear hp hb
  rw [vc_spec_l17Copy l]
  dsimp only
  refine ⟨⟨by omega, by omega, by simp⟩, ?_⟩
  rintro ⟨out, i, ⟨⟩⟩ ⟨h1, h2, rfl⟩
  simp only
  refine if_cond (fun hc => ?_) (fun hc => ?_)
  · have hc := of_decide_eq_true hc
    have hs := sum_getD_le sizeTimer l zTimer h1 hc
    simp only [sizeTimerS] at hp0
    have hx := hs
    simp only [sizeTimer, sizeFact, sizeValS] at hx
    rw [take_step l zTimer h1 hc, wrap_i64 (by omega) (by omega)]
    repeat' (first | refine And.intro (by omega) ?_ | fail)
    refine ⟨by simp; omega, ⟨by omega, by omega, rfl⟩, by simp only [μ_spec_l17Copy_3]; omega⟩
  · have hc := of_decide_eq_false hc
    rw [take_all l (by omega)]
    exact Lf_rfl _
def con_impl_copyTimers : Con UU where
  α := (List DTimer)
  md := [.ro]
  of := fun | [.one (.sl .eTimer a0)] => some a0 | _ => none
  ds := fun l => [.one (.sl .eTimer l)]
  pre := fun l => [sizeTimerS l ≤ 4294967296]
  res := fun l => ⟨[.one (.sl .eTimer l)], true, []⟩
  law := by intro l x h; (try simp only at h); split at h <;> cases h; rfl
def I_impl_copyTimers_3 (l : (List DTimer)) : List DTimer × Int × Unit → Prop := fun (out, i, _) => 0 ≤ i ∧ i ≤ l.length ∧ out = l.take i.toNat
def μ_impl_copyTimers_3 (l : (List DTimer)) : List DTimer × Int × Unit → Nat := fun (out, i, _) => l.length - i.toNat
def ann_impl_copyTimers : con_impl_copyTimers.α → Nat → Option (Ann UU) := fun l => annL [(3, annOf [.slot 3 (3, 1024) (.own .eTimer true), .slot 8 (8, 1024) (.lit (.int .i64))] (fun _ => I_impl_copyTimers_3 l) (μ_impl_copyTimers_3 l))]
def use_impl_copyTimers : List (FuncId × Con UU) := [(75, con_impl_copyFact)]
theorem vc_impl_copyTimers (l : (List DTimer)) : goal EE use_impl_copyTimers Go.Proofs.Try.f65 con_impl_copyTimers ann_impl_copyTimers l = (I_impl_copyTimers_3 l ([], (0 : Int), PUnit.unit) ∧
  ∀ (y : List DTimer × Int × PUnit),
    let x0 : List DTimer := [List.getD l (Int.toNat y.2.1) zTimer];
    let x1 : Nat := Int.toNat y.2.1;
    I_impl_copyTimers_3 l y → bif decide (y.2.1 < (↑(List.length l) : Int)) then (0 : Int) ≤ y.2.1 ∧ x1 < List.length l ∧ List.length (List.getD l x1 zTimer).F.Fields ≤ (4294967296 : Nat) ∧ List.length y.1 + List.length x0 ≤ (4294967296 : Nat) ∧ I_impl_copyTimers_3 l (y.1 ++ x0, IntKind.wrap IntKind.i64 (y.2.1 + (1 : Int)), PUnit.unit) ∧ μ_impl_copyTimers_3 l (y.1 ++ x0, IntKind.wrap IntKind.i64 (y.2.1 + (1 : Int)), PUnit.unit) < μ_impl_copyTimers_3 l y else Lf [DV.one (Cell.sl Cd.eTimer y.1)] [DV.one (Cell.sl Cd.eTimer l)]) := by kernel_rfl
theorem ok_impl_copyTimers : Holds EE (65, con_impl_copyTimers) := by
  refine holds_of EE_ok Go.Proofs.Try.func65 con_impl_copyTimers (by kernel_rfl) use_impl_copyTimers (all_cons ok_impl_copyFact all_nil) ann_impl_copyTimers (fun (l : (List DTimer)) hp hb => ?_)
  have hb_l : BdDV (U := UU) (.one (.sl .eTimer l)) := hb _ (List.mem_cons_self)
  have hl_l : l.length ≤ 9223372036854775807 := Bd.len hb_l
  have hp0 : sizeTimerS l ≤ 4294967296 := hp _ (List.mem_cons_self)
  clear hp hb
  rw [vc_impl_copyTimers l]
  dsimp only
  refine ⟨⟨by omega, by omega, by simp⟩, ?_⟩
  rintro ⟨out, i, ⟨⟩⟩ ⟨h1, h2, rfl⟩
  simp only
  refine if_cond (fun hc => ?_) (fun hc => ?_)
  · have hc := of_decide_eq_true hc
    have hs := sum_getD_le sizeTimer l zTimer h1 hc
    simp only [sizeTimerS] at hp0
    have hx := hs
    simp only [sizeTimer, sizeFact, sizeValS] at hx
    rw [take_step l zTimer h1 hc, wrap_i64 (by omega) (by omega)]
    repeat' (first | refine And.intro (by omega) ?_ | fail)
    refine ⟨by simp; omega, ⟨by omega, by omega, rfl⟩, by simp only [μ_impl_copyTimers_3]; omega⟩
  · have hc := of_decide_eq_false hc
    rw [take_all l (by omega)]
    exact Lf_rfl _
def dueT (now : Int) (l : List DTimer) : List DTimer := l.filter fun x => decide (x.At ≤ now)
def resT (now : Int) (l : List DTimer) : List DTimer := l.filter fun x => !decide (x.At ≤ now)
theorem filter_step {α : Type} (p : α → Bool) (l : List α) (z : α) {i : Int} (h1 : 0 ≤ i) (h2 : i < l.length) :
    (l.take (i + 1).toNat).filter p = (l.take i.toNat).filter p ++ (if p (l.getD i.toNat z) then [l.getD i.toNat z] else []) := by
  rw [← take_step l z h1 h2, List.filter_append]
  congr 1
  simp only [List.filter_cons, List.filter_nil]
theorem filter_len_le {α : Type} (p : α → Bool) (l : List α) (n : Nat) : ((l.take n).filter p).length ≤ n :=
  Nat.le_trans (List.length_filter_le _ _) (by simp; omega)
def con_spec_DueTimers : Con UU where
  α := (List DTimer) × Int
  md := [.ro, .ro]
  of := fun | [.one (.sl .eTimer a0), .one (.lit (.int .i64 a1))] => some (a0, a1) | _ => none
  ds := fun (l, now) => [.one (.sl .eTimer l), .one (.lit (.int .i64 now))]
  pre := fun (l, now) => [sizeTimerS l ≤ 4294967296]
  res := fun (l, now) => ⟨[.one (.sl .eTimer (dueT now l)), .one (.sl .eTimer (resT now l))], true, []⟩
  law := by intro l x h; (try simp only at h); split at h <;> cases h; rfl
def I_spec_DueTimers_5 (l : (List DTimer)) (now : Int) : (List DTimer × (Nat → Bool)) × Int × List DTimer × List DTimer × Unit → Prop := fun ((xs,dd), i, due, oth, _) => 0 ≤ i ∧ i ≤ l.length ∧ l = xs ∧ (∀ j, i.toNat ≤ j → dd j = false) ∧ due = dueT now (l.take i.toNat) ∧ oth = resT now (l.take i.toNat)
def μ_spec_DueTimers_5 (l : (List DTimer)) (now : Int) : (List DTimer × (Nat → Bool)) × Int × List DTimer × List DTimer × Unit → Nat := fun ((xs,dd), i, due, oth, _) => l.length - i.toNat
def ann_spec_DueTimers : con_spec_DueTimers.α → Nat → Option (Ann UU) := fun (l, now) => annL [(5, annOf [.slot 8 (8, 1024) (.part .eTimer), .slot 9 (9, 1024) (.lit (.int .i64)), .slot 6 (6, 1024) (.own .eTimer true), .slot 7 (7, 1024) (.own .eTimer true)] (fun _ => I_spec_DueTimers_5 l now) (μ_spec_DueTimers_5 l now))]
def use_spec_DueTimers : List (FuncId × Con UU) := [(64, con_spec_l17Copy)]
theorem vc_spec_DueTimers (l : (List DTimer)) (now : Int) : goal EE use_spec_DueTimers Go.Proofs.Try.f18 con_spec_DueTimers ann_spec_DueTimers (l, now) = (sizeTimerS l ≤ (4294967296 : Nat) ∧
  I_spec_DueTimers_5 l now ((l, fun (x : Nat) => false), (0 : Int), [], [], PUnit.unit) ∧
    ∀ (y : (List DTimer × (Nat → Bool)) × Int × List DTimer × List DTimer × PUnit),
      let x0 : List DTimer := [List.getD y.fst.1 (Int.toNat y.2.1) zTimer];
      let x1 : Nat := Int.toNat y.2.1;
      let x2 : Int := IntKind.wrap IntKind.i64 (y.2.1 + (1 : Int));
      let x3 : Int := (List.getD y.fst.1 x1 zTimer).At;
      let x4 : Int := (↑(List.length y.fst.1) : Int);
      I_spec_DueTimers_5 l now y → bif decide (y.2.1 < x4) then (0 : Int) ≤ y.2.1 ∧ x1 < List.length y.fst.1 ∧ x1 < List.length y.fst.1 ∧ y.fst.2 x1 = false ∧ bif decide (x3 ≤ now) then (0 : Int) ≤ y.2.1 ∧ x1 < List.length y.fst.1 ∧ x1 < List.length y.fst.1 ∧ y.fst.2 x1 = false ∧ List.length y.2.2.1 + List.length x0 ≤ (4294967296 : Nat) ∧ I_spec_DueTimers_5 l now ((y.fst.1, fun (j : Nat) => Nat.beq j x1 || y.fst.2 j), x2, y.2.2.1 ++ x0, y.2.2.2.1, PUnit.unit) ∧ μ_spec_DueTimers_5 l now ((y.fst.1, fun (j : Nat) => Nat.beq j x1 || y.fst.2 j), x2, y.2.2.1 ++ x0, y.2.2.2.1, PUnit.unit) < μ_spec_DueTimers_5 l now y else (0 : Int) ≤ y.2.1 ∧ x1 < List.length y.fst.1 ∧ x1 < List.length y.fst.1 ∧ y.fst.2 x1 = false ∧ List.length y.2.2.2.1 + List.length x0 ≤ (4294967296 : Nat) ∧ I_spec_DueTimers_5 l now ((y.fst.1, fun (j : Nat) => Nat.beq j x1 || y.fst.2 j), x2, y.2.2.1, y.2.2.2.1 ++ x0, PUnit.unit) ∧ μ_spec_DueTimers_5 l now ((y.fst.1, fun (j : Nat) => Nat.beq j x1 || y.fst.2 j), x2, y.2.2.1, y.2.2.2.1 ++ x0, PUnit.unit) < μ_spec_DueTimers_5 l now y else Lf [DV.one (Cell.sl Cd.eTimer y.2.2.1), DV.one (Cell.sl Cd.eTimer y.2.2.2.1)] [DV.one (Cell.sl Cd.eTimer (dueT now l)), DV.one (Cell.sl Cd.eTimer (resT now l))]) := by kernel_rfl
theorem ok_spec_DueTimers : Holds EE (18, con_spec_DueTimers) := by
  refine holds_of EE_ok Go.Proofs.Try.func18 con_spec_DueTimers (by kernel_rfl) use_spec_DueTimers (all_cons ok_spec_l17Copy all_nil) ann_spec_DueTimers (fun x hp hb => ?_)
  obtain ⟨l, now⟩ := x
  have hb_l : BdDV (U := UU) (.one (.sl .eTimer l)) := hb _ (List.mem_cons_self)
  have hl_l : l.length ≤ 9223372036854775807 := Bd.len hb_l
  have hb_now : BdDV (U := UU) (.one (.lit (.int .i64 now))) := hb _ (List.mem_cons_of_mem _ (List.mem_cons_self))
  have hl_now := Bd.i64 hb_now
  have hp0 : sizeTimerS l ≤ 4294967296 := hp _ (List.mem_cons_self)
  clear hp hb
  rw [vc_spec_DueTimers l now]
  dsimp only
  refine ⟨hp0, ⟨by omega, by omega, rfl, fun _ _ => rfl, rfl, rfl⟩, ?_⟩
  rintro ⟨⟨xs, dd⟩, i, due, oth, ⟨⟩⟩ ⟨h1, h2, rfl, hd, rfl, rfl⟩
  simp only
  refine if_cond (fun hc => ?_) (fun hc => ?_)
  · have hc := of_decide_eq_true hc
    have hlt : i.toNat < l.length := by omega
    have hdi := hd i.toNat (Nat.le_refl _)
    have hl : l.length ≤ 4294967296 := by simp only [sizeTimerS] at hp0; omega
    have hw : IntKind.i64.wrap (i + 1) = i + 1 := wrap_i64 (by omega) (by omega)
    have g1 := filter_step (fun x : DTimer => decide (x.At ≤ now)) l zTimer h1 hc
    have g2 := filter_step (fun x : DTimer => !decide (x.At ≤ now)) l zTimer h1 hc
    have e1 : (dueT now (l.take i.toNat)).length ≤ i.toNat := filter_len_le _ _ _
    have e2 : (resT now (l.take i.toNat)).length ≤ i.toNat := filter_len_le _ _ _
    have hdd : ∀ j, (i + 1).toNat ≤ j → (Nat.beq j i.toNat || dd j) = false := fun j hj => by
      rw [hd j (by omega), Bool.or_false, ← Bool.not_eq_true, Nat.beq_eq]; omega
    rw [hw]
    refine ⟨h1, hlt, hlt, hdi, if_cond (fun ha => ?_) (fun ha => ?_)⟩
    · refine ⟨h1, hlt, hlt, hdi, by simp; omega, ⟨by omega, by omega, rfl, hdd, ?_, ?_⟩, by simp only [μ_spec_DueTimers_5]; omega⟩
      · show _ = List.filter _ _
        rw [g1, if_pos ha]; rfl
      · show _ = List.filter _ _
        rw [g2, if_neg (by rw [ha]; decide), List.append_nil]; rfl
    · refine ⟨h1, hlt, hlt, hdi, by simp; omega, ⟨by omega, by omega, rfl, hdd, ?_, ?_⟩, by simp only [μ_spec_DueTimers_5]; omega⟩
      · show _ = List.filter _ _
        rw [g1, if_neg (by rw [ha]; decide), List.append_nil]; rfl
      · show _ = List.filter _ _
        rw [g2, if_pos (by rw [ha]; decide)]; rfl
  · have hc := of_decide_eq_false hc
    rw [take_all l (by omega)]
    exact Lf_rfl _
def con_impl_DueTimers : Con UU where
  α := (List DTimer) × Int
  md := [.ro, .ro]
  of := fun | [.one (.sl .eTimer a0), .one (.lit (.int .i64 a1))] => some (a0, a1) | _ => none
  ds := fun (l, now) => [.one (.sl .eTimer l), .one (.lit (.int .i64 now))]
  pre := fun (l, now) => [sizeTimerS l ≤ 4294967296]
  res := fun (l, now) => ⟨[.one (.sl .eTimer (dueT now l)), .one (.sl .eTimer (resT now l))], true, []⟩
  law := by intro l x h; (try simp only at h); split at h <;> cases h; rfl
def I_impl_DueTimers_3 (l : (List DTimer)) (now : Int) : (List DTimer × (Nat → Bool)) × Int × List DTimer × List DTimer × Unit → Prop := fun ((xs,dd), i, due, oth, _) => 0 ≤ i ∧ i ≤ l.length ∧ l = xs ∧ (∀ j, i.toNat ≤ j → dd j = false) ∧ due = dueT now (l.take i.toNat) ∧ oth = resT now (l.take i.toNat)
def μ_impl_DueTimers_3 (l : (List DTimer)) (now : Int) : (List DTimer × (Nat → Bool)) × Int × List DTimer × List DTimer × Unit → Nat := fun ((xs,dd), i, due, oth, _) => l.length - i.toNat
def ann_impl_DueTimers : con_impl_DueTimers.α → Nat → Option (Ann UU) := fun (l, now) => annL [(3, annOf [.slot 11 (11, 1024) (.part .eTimer), .slot 13 (13, 1024) (.lit (.int .i64)), .slot 6 (6, 1024) (.own .eTimer true), .slot 7 (7, 1024) (.own .eTimer true)] (fun _ => I_impl_DueTimers_3 l now) (μ_impl_DueTimers_3 l now))]
def use_impl_DueTimers : List (FuncId × Con UU) := [(65, con_impl_copyTimers)]
theorem vc_impl_DueTimers (l : (List DTimer)) (now : Int) : goal EE use_impl_DueTimers Go.Proofs.Try.f20 con_impl_DueTimers ann_impl_DueTimers (l, now) = (sizeTimerS l ≤ (4294967296 : Nat) ∧
  I_impl_DueTimers_3 l now ((l, fun (x : Nat) => false), (0 : Int), [], [], PUnit.unit) ∧
    ∀ (y : (List DTimer × (Nat → Bool)) × Int × List DTimer × List DTimer × PUnit),
      let x0 : List DTimer := [List.getD y.fst.1 (Int.toNat y.2.1) zTimer];
      let x1 : Nat := Int.toNat y.2.1;
      let x2 : Int := IntKind.wrap IntKind.i64 (y.2.1 + (1 : Int));
      let x3 : Int := (List.getD y.fst.1 x1 zTimer).At;
      I_impl_DueTimers_3 l now y → bif decide (y.2.1 < (↑(List.length l) : Int)) then (0 : Int) ≤ y.2.1 ∧ x1 < List.length y.fst.1 ∧ x1 < List.length y.fst.1 ∧ y.fst.2 x1 = false ∧ bif decide (x3 ≤ now) then List.length y.2.2.1 + List.length x0 ≤ (4294967296 : Nat) ∧ I_impl_DueTimers_3 l now ((y.fst.1, fun (j : Nat) => Nat.beq j x1 || y.fst.2 j), x2, y.2.2.1 ++ x0, y.2.2.2.1, PUnit.unit) ∧ μ_impl_DueTimers_3 l now ((y.fst.1, fun (j : Nat) => Nat.beq j x1 || y.fst.2 j), x2, y.2.2.1 ++ x0, y.2.2.2.1, PUnit.unit) < μ_impl_DueTimers_3 l now y else List.length y.2.2.2.1 + List.length x0 ≤ (4294967296 : Nat) ∧ I_impl_DueTimers_3 l now ((y.fst.1, fun (j : Nat) => Nat.beq j x1 || y.fst.2 j), x2, y.2.2.1, y.2.2.2.1 ++ x0, PUnit.unit) ∧ μ_impl_DueTimers_3 l now ((y.fst.1, fun (j : Nat) => Nat.beq j x1 || y.fst.2 j), x2, y.2.2.1, y.2.2.2.1 ++ x0, PUnit.unit) < μ_impl_DueTimers_3 l now y else Lf [DV.one (Cell.sl Cd.eTimer y.2.2.1), DV.one (Cell.sl Cd.eTimer y.2.2.2.1)] [DV.one (Cell.sl Cd.eTimer (dueT now l)), DV.one (Cell.sl Cd.eTimer (resT now l))]) := by kernel_rfl
theorem ok_impl_DueTimers : Holds EE (20, con_impl_DueTimers) := by
  refine holds_of EE_ok Go.Proofs.Try.func20 con_impl_DueTimers (by kernel_rfl) use_impl_DueTimers (all_cons ok_impl_copyTimers all_nil) ann_impl_DueTimers (fun x hp hb => ?_)
  obtain ⟨l, now⟩ := x
  have hb_l : BdDV (U := UU) (.one (.sl .eTimer l)) := hb _ (List.mem_cons_self)
  have hl_l : l.length ≤ 9223372036854775807 := Bd.len hb_l
  have hb_now : BdDV (U := UU) (.one (.lit (.int .i64 now))) := hb _ (List.mem_cons_of_mem _ (List.mem_cons_self))
  have hl_now := Bd.i64 hb_now
  have hp0 : sizeTimerS l ≤ 4294967296 := hp _ (List.mem_cons_self)
  clear hp hb
  rw [vc_impl_DueTimers l now]
  dsimp only
  refine ⟨hp0, ⟨by omega, by omega, rfl, fun _ _ => rfl, rfl, rfl⟩, ?_⟩
  rintro ⟨⟨xs, dd⟩, i, due, oth, ⟨⟩⟩ ⟨h1, h2, rfl, hd, rfl, rfl⟩
  simp only
  refine if_cond (fun hc => ?_) (fun hc => ?_)
  · have hc := of_decide_eq_true hc
    have hlt : i.toNat < l.length := by omega
    have hdi := hd i.toNat (Nat.le_refl _)
    have hl : l.length ≤ 4294967296 := by simp only [sizeTimerS] at hp0; omega
    have hw : IntKind.i64.wrap (i + 1) = i + 1 := wrap_i64 (by omega) (by omega)
    have g1 := filter_step (fun x : DTimer => decide (x.At ≤ now)) l zTimer h1 hc
    have g2 := filter_step (fun x : DTimer => !decide (x.At ≤ now)) l zTimer h1 hc
    have e1 : (dueT now (l.take i.toNat)).length ≤ i.toNat := filter_len_le _ _ _
    have e2 : (resT now (l.take i.toNat)).length ≤ i.toNat := filter_len_le _ _ _
    have hdd : ∀ j, (i + 1).toNat ≤ j → (Nat.beq j i.toNat || dd j) = false := fun j hj => by
      rw [hd j (by omega), Bool.or_false, ← Bool.not_eq_true, Nat.beq_eq]; omega
    rw [hw]
    refine ⟨h1, hlt, hlt, hdi, if_cond (fun ha => ?_) (fun ha => ?_)⟩
    · refine ⟨ by simp; omega, ⟨by omega, by omega, rfl, hdd, ?_, ?_⟩, by simp only [μ_impl_DueTimers_3]; omega⟩
      · show _ = List.filter _ _
        rw [g1, if_pos ha]; rfl
      · show _ = List.filter _ _
        rw [g2, if_neg (by rw [ha]; decide), List.append_nil]; rfl
    · refine ⟨ by simp; omega, ⟨by omega, by omega, rfl, hdd, ?_, ?_⟩, by simp only [μ_impl_DueTimers_3]; omega⟩
      · show _ = List.filter _ _
        rw [g1, if_neg (by rw [ha]; decide), List.append_nil]; rfl
      · show _ = List.filter _ _
        rw [g2, if_pos (by rw [ha]; decide)]; rfl
  · have hc := of_decide_eq_false hc
    rw [take_all l (by omega)]
    exact Lf_rfl _
theorem ctS_filter_le {α : Type} (c : α → Nat) (p : α → Bool) (l : List α) : ctS c (l.filter p) ≤ ctS c l := by
  unfold ctS
  have h1 := List.length_filter_le p l
  have h2 : ((l.filter p).map c).sum ≤ (l.map c).sum := by
    clear h1
    induction l with
    | nil => exact Nat.le_refl _
    | cons x l ih =>
      rw [List.filter_cons]
      split <;> simp only [List.map_cons, List.sum_cons] <;> omega
  omega
def con_laws_FnExactDueTimers : Con UU where
  α := (List DTimer) × Int
  md := [.ro, .ro]
  of := fun | [.one (.sl .lTimer a0), .one (.lit (.int .i64 a1))] => some (a0, a1) | _ => none
  ds := fun (aL, aNow) => [.one (.sl .lTimer aL), .one (.lit (.int .i64 aNow))]
  pre := fun (aL, aNow) => []
  res := fun (aL, aNow) => ⟨[.one (.lit (.bool true))], true, []⟩
  law := by intro l x h; (try simp only at h); split at h <;> cases h; rfl
def ann_laws_FnExactDueTimers : con_laws_FnExactDueTimers.α → Nat → Option (Ann UU) := fun (aL, aNow) => annL []
def use_laws_FnExactDueTimers : List (FuncId × Con UU) := [(17, con_laws_szTimerS), (19, con_laws_toTimerS), (18, con_spec_DueTimers), (20, con_impl_DueTimers), (21, con_laws_eqTimerS), (22, con_laws_markTimerS), (23, con_laws_heldTimerS)]
theorem vc_laws_FnExactDueTimers (aL : (List DTimer)) (aNow : Int) : goal EE use_laws_FnExactDueTimers Go.Proofs.Try.f4 con_laws_FnExactDueTimers ann_laws_FnExactDueTimers (aL, aNow) = (let x0 : Bool := decide ((if markTimerS (markTimerS (resT aNow aL) ((1 : Int) + (↑(cntTimerS (dueT aNow aL)) : Int))) (if markTimerS (markTimerS (dueT aNow aL) (1 : Int)) (1 : Int) = markTimerS (dueT aNow aL) (1 : Int) then (1 : Int) + (↑(cntTimerS (markTimerS (dueT aNow aL) (1 : Int))) : Int) else (-1 : Int)) = markTimerS (resT aNow aL) ((1 : Int) + (↑(cntTimerS (dueT aNow aL)) : Int)) then (if markTimerS (markTimerS (dueT aNow aL) (1 : Int)) (1 : Int) = markTimerS (dueT aNow aL) (1 : Int) then (1 : Int) + (↑(cntTimerS (markTimerS (dueT aNow aL) (1 : Int))) : Int) else (-1 : Int)) + (↑(cntTimerS (markTimerS (resT aNow aL) ((1 : Int) + (↑(cntTimerS (dueT aNow aL)) : Int)))) : Int) else (-1 : Int)) < (0 : Int));
let x1 : Bool := (if markTimerS (markTimerS (resT aNow aL) ((1 : Int) + (↑(cntTimerS (dueT aNow aL)) : Int))) (if markTimerS (markTimerS (dueT aNow aL) (1 : Int)) (1 : Int) = markTimerS (dueT aNow aL) (1 : Int) then (1 : Int) + (↑(cntTimerS (markTimerS (dueT aNow aL) (1 : Int))) : Int) else (-1 : Int)) = markTimerS (resT aNow aL) ((1 : Int) + (↑(cntTimerS (dueT aNow aL)) : Int)) then (if markTimerS (markTimerS (dueT aNow aL) (1 : Int)) (1 : Int) = markTimerS (dueT aNow aL) (1 : Int) then (1 : Int) + (↑(cntTimerS (markTimerS (dueT aNow aL) (1 : Int))) : Int) else (-1 : Int)) + (↑(cntTimerS (markTimerS (resT aNow aL) ((1 : Int) + (↑(cntTimerS (dueT aNow aL)) : Int)))) : Int) else (-1 : Int)) != (1 : Int) + (↑(cntTimerS (dueT aNow aL)) : Int) + (↑(cntTimerS (resT aNow aL)) : Int);
let x2 : Int := if markTimerS (markTimerS (dueT aNow aL) (1 : Int)) (1 : Int) = markTimerS (dueT aNow aL) (1 : Int) then (1 : Int) + (↑(cntTimerS (markTimerS (dueT aNow aL) (1 : Int))) : Int) else (-1 : Int);
let x3 : Int := (1 : Int) + (↑(cntTimerS (dueT aNow aL)) : Int);
let x4 : Bool := !decide (resT aNow aL = resT aNow aL);
let x5 : Bool := !decide (dueT aNow aL = dueT aNow aL);
(0 : Int) ≤ (1048576 : Int) ∧ bif decide (szr (1048576 : Int) (sizeTimerS aL) < (0 : Int)) then Lf [DV.one (Cell.lit (Value.bool true))] [DV.one (Cell.lit (Value.bool true))] else sizeTimerS aL ≤ (4294967296 : Nat) ∧ sizeTimerS aL ≤ (4294967296 : Nat) ∧ sizeTimerS aL ≤ (4294967296 : Nat) ∧ sizeTimerS aL ≤ (4294967296 : Nat) ∧ bif x5 then Lf [DV.one (Cell.lit (Value.bool false))] [DV.one (Cell.lit (Value.bool true))] else bif x4 then Lf [DV.one (Cell.lit (Value.bool false))] [DV.one (Cell.lit (Value.bool true))] else sizeTimerS aL ≤ (4294967296 : Nat) ∧ bif !decide (aL = aL) then Lf [DV.one (Cell.lit (Value.bool false))] [DV.one (Cell.lit (Value.bool true))] else (0 : Int) ≤ (1 : Int) ∧ (1 : Int) + (↑(cntTimerS aL) : Int) ≤ (4611686018427387904 : Int) ∧ bif x5 then Lf [DV.one (Cell.lit (Value.bool false))] [DV.one (Cell.lit (Value.bool true))] else bif x4 then Lf [DV.one (Cell.lit (Value.bool false))] [DV.one (Cell.lit (Value.bool true))] else (0 : Int) ≤ (1 : Int) ∧ x3 ≤ (4611686018427387904 : Int) ∧ (0 : Int) ≤ x3 ∧ x3 + (↑(cntTimerS (resT aNow aL)) : Int) ≤ (4611686018427387904 : Int) ∧ (0 : Int) ≤ (1 : Int) ∧ (1 : Int) + (↑(cntTimerS (markTimerS (dueT aNow aL) (1 : Int))) : Int) ≤ (4611686018427387904 : Int) ∧ bif decide (x2 < (0 : Int)) then Lf [DV.one (Cell.lit (Value.bool false))] [DV.one (Cell.lit (Value.bool true))] else (0 : Int) ≤ x2 ∧ x2 + (↑(cntTimerS (markTimerS (resT aNow aL) x3)) : Int) ≤ (4611686018427387904 : Int) ∧ bif x0 then Lf [DV.one (Cell.lit (Value.bool false))] [DV.one (Cell.lit (Value.bool true))] else bif x1 then Lf [DV.one (Cell.lit (Value.bool false))] [DV.one (Cell.lit (Value.bool true))] else sizeTimerS aL ≤ (4294967296 : Nat) ∧ sizeTimerS aL ≤ (4294967296 : Nat) ∧ bif x5 then Lf [DV.one (Cell.lit (Value.bool false))] [DV.one (Cell.lit (Value.bool true))] else bif x4 then Lf [DV.one (Cell.lit (Value.bool false))] [DV.one (Cell.lit (Value.bool true))] else (0 : Int) ≤ (1 : Int) ∧ (1 : Int) + (↑(cntTimerS (markTimerS (dueT aNow aL) (1 : Int))) : Int) ≤ (4611686018427387904 : Int) ∧ bif decide (x2 < (0 : Int)) then Lf [DV.one (Cell.lit (Value.bool false))] [DV.one (Cell.lit (Value.bool true))] else (0 : Int) ≤ x2 ∧ x2 + (↑(cntTimerS (markTimerS (resT aNow aL) x3)) : Int) ≤ (4611686018427387904 : Int) ∧ bif x0 then Lf [DV.one (Cell.lit (Value.bool false))] [DV.one (Cell.lit (Value.bool true))] else bif x1 then Lf [DV.one (Cell.lit (Value.bool false))] [DV.one (Cell.lit (Value.bool true))] else Lf [DV.one (Cell.lit (Value.bool true))] [DV.one (Cell.lit (Value.bool true))]) := by kernel_rfl
theorem ok_laws_FnExactDueTimers : Holds EE (4, con_laws_FnExactDueTimers) := by
  refine holds_of EE_ok Go.Proofs.Try.func4 con_laws_FnExactDueTimers (by kernel_rfl) use_laws_FnExactDueTimers (all_cons ok_laws_szTimerS (all_cons ok_laws_toTimerS (all_cons ok_spec_DueTimers (all_cons ok_impl_DueTimers (all_cons ok_laws_eqTimerS (all_cons ok_laws_markTimerS (all_cons ok_laws_heldTimerS all_nil))))))) ann_laws_FnExactDueTimers (fun x hp hb => ?_)
  obtain ⟨aL, aNow⟩ := x
  have hb_aL : BdDV (U := UU) (.one (.sl .lTimer aL)) := hb _ (List.mem_cons_self)
  have hl_aL : aL.length ≤ 9223372036854775807 := Bd.len hb_aL
  have hb_aNow : BdDV (U := UU) (.one (.lit (.int .i64 aNow))) := hb _ (List.mem_cons_of_mem _ (List.mem_cons_self))
  have hl_aNow := Bd.i64 hb_aNow
  clear hp hb
  rw [vc_laws_FnExactDueTimers aL aNow]
  dsimp only
  refine ⟨by omega, if_cond (fun h => Lf_rfl _) (fun h => ?_)⟩
  obtain ⟨e0, h0⟩ := szr_pos h
  have hc := cntTimerS_le aL
  have hc1 : cntTimerS (dueT aNow aL) ≤ cntTimerS aL := ctS_filter_le _ _ _
  have hc2 : cntTimerS (resT aNow aL) ≤ cntTimerS aL := ctS_filter_le _ _ _
  simp only [markTimerS_idem, markTimerS_ct, if_true]
  repeat' (first | exact Lf_rfl _ | refine And.intro (by omega) ?_ | refine if_cond (fun h => absurd h (by first | (simp; done) | (simp; omega))) (fun h => ?_) | fail)
end
end AM
