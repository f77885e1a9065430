/- Functions of the program with their contracts: written by gen/fn.py out of u1.fn. -/
import Derived.Test.YtimjefebolgkjaaAmLib
import Derived.Test.YtimjefebolgkjaaAmModels
namespace AM
open Go
set_option linter.unusedVariables false
set_option linter.unusedSimpArgs false
set_option maxRecDepth 100000
noncomputable section
def con_laws_markText : Con UU where
  α := Int
  md := [.ro]
  of := fun | [.one (.lit (.int .i64 a0))] => some a0 | _ => none
  ds := fun k => [.one (.lit (.int .i64 k))]
  pre := fun k => [k ≤ 4611686018427387903]
  res := fun k => ⟨[.one (.lit (.string (markText k)))], true, []⟩
  law := by intro l x h; (try simp only at h); split at h <;> cases h; rfl
def I_laws_markText_4 (k : Int) : Int × ByteArray × Unit → Prop := fun (j, out, _) => 0 ≤ j ∧ j ≤ k ∧ (∃ l d, out = ⟨l.toArray⟩ ∧ j.toNat ≤ d ∧ mtl d j.toNat l = mtl k.toNat k.toNat [] ∧ l.length ≤ k - j)
def μ_laws_markText_4 (k : Int) : Int × ByteArray × Unit → Nat := fun (j, out, _) => j.toNat
def ann_laws_markText : con_laws_markText.α → Nat → Option (Ann UU) := fun k => annL [(4, annOf [.slot 0 (0, 1024) (.lit (.int .i64)), .slot 3 (3, 1024) (.lit .str)] (I_laws_markText_4 k) (μ_laws_markText_4 k))]
def use_laws_markText : List (FuncId × Con UU) := []
theorem vc_laws_markText (k : Int) : goal EE use_laws_markText Go.Proofs.Try.f50 con_laws_markText ann_laws_markText k = (bif decide (k ≤ (0 : Int)) then Lf [DV.one (Cell.lit (Value.string { data := #[(109 : UInt8), (48 : UInt8)] }))] [DV.one (Cell.lit (Value.string (markText k)))] else I_laws_markText_4 k (k, { data := #[] }, PUnit.unit) ∧ ∀ (y : Int × ByteArray × PUnit), I_laws_markText_4 k y → bif decide (y.1 > (0 : Int)) then (10 : Int) ≠ (0 : Int) ∧ ByteArray.size (strOfNums (List.map (fun (x : Cd.T Cd.byte) => x) [IntKind.wrap IntKind.u8 (IntKind.wrap IntKind.i64 ((48 : Int) + Int.tmod y.1 (10 : Int)))])) + ByteArray.size y.2.1 ≤ (4611686018427387904 : Nat) ∧ (10 : Int) ≠ (0 : Int) ∧ I_laws_markText_4 k (IntKind.wrap IntKind.i64 (Int.tdiv y.1 (10 : Int)), strOfNums (List.map (fun (x : Cd.T Cd.byte) => x) [IntKind.wrap IntKind.u8 (IntKind.wrap IntKind.i64 ((48 : Int) + Int.tmod y.1 (10 : Int)))]) ++ y.2.1, PUnit.unit) ∧ μ_laws_markText_4 k (IntKind.wrap IntKind.i64 (Int.tdiv y.1 (10 : Int)), strOfNums (List.map (fun (x : Cd.T Cd.byte) => x) [IntKind.wrap IntKind.u8 (IntKind.wrap IntKind.i64 ((48 : Int) + Int.tmod y.1 (10 : Int)))]) ++ y.2.1, PUnit.unit) < μ_laws_markText_4 k y else ByteArray.size { data := #[(109 : UInt8)] } + ByteArray.size y.2.1 ≤ (4611686018427387904 : Nat) ∧ Lf [DV.one (Cell.lit (Value.string ({ data := #[(109 : UInt8)] } ++ y.2.1)))] [DV.one (Cell.lit (Value.string (markText k)))]) := by kernel_rfl
theorem ok_laws_markText : Holds EE (50, con_laws_markText) := by
  refine holds_of EE_ok Go.Proofs.Try.func50 con_laws_markText (by kernel_rfl) rfl use_laws_markText all_nil ann_laws_markText (fun (k : Int) hp hb => ?_)
  have hb_k : BdDV (U := UU) (.one (.lit (.int .i64 k))) := hb _ (List.mem_cons_self)
  have hl_k := Bd.i64 hb_k
  have hp0 : k ≤ 4611686018427387903 := hp _ (List.mem_cons_self)
  clear hp hb
  rw [vc_laws_markText k]
  refine if_cond (fun h => Lf_s ?_) (fun h => ?_)
  · have h := of_decide_eq_true h; simp only [markText]; rw [if_pos h]
  have h0 := of_decide_eq_false h
  refine ⟨⟨by omega, by omega, [], k.toNat, rfl, Nat.le_refl _, rfl, by simp⟩, ?_⟩
  rintro ⟨j, out, ⟨⟩⟩ ⟨h1, h2, l, d, rfl, hd, hm, hl⟩
  simp only
  have hz : ∀ l : List UInt8, (ByteArray.mk l.toArray).size = l.length := fun l => by simp [ByteArray.size]
  refine if_cond (fun h => ?_) (fun h => ?_)
  · have h := of_decide_eq_true h
    have ht : Int.tmod j 10 = j % 10 := Int.tmod_eq_emod_of_nonneg h1
    have hq : Int.tdiv j 10 = j / 10 := Int.tdiv_eq_ediv_of_nonneg h1
    have hu : IntKind.wrap .u8 (48 + j % 10) = 48 + j % 10 := by simp only [IntKind.wrap]; simp [IntKind.bits, IntKind.signed]; omega
    rw [ht, hq, wrap_i64 (by omega) (by omega), wrap_i64 (by omega) (by omega), hu]
    have hs : ∀ l : List UInt8, strOfNums (List.map (fun (x : Int) => x) [48 + j % 10]) ++ (⟨l.toArray⟩ : ByteArray) = ⟨((UInt8.ofNat (48 + j.toNat % 10)) :: l).toArray⟩ := fun l => by
      have e : (48 + j % 10).toNat = 48 + j.toNat % 10 := by omega
      simp only [strOfNums, List.map_cons, List.map_nil, e]
      apply ByteArray.ext
      simp
    have hs1 : (strOfNums (List.map (fun (x : Int) => x) [48 + j % 10])).size = 1 := rfl
    refine ⟨by omega, by erw [hs1]; rw [hz]; omega, by omega, ⟨by omega, by omega, _, d - 1, hs l, by omega, ?_, by simp only [List.length_cons]; omega⟩, by simp only [μ_laws_markText_4]; omega⟩
    rw [← hm]
    obtain ⟨d, rfl⟩ : ∃ e, d = e + 1 := ⟨d - 1, by omega⟩
    have e : (j / 10).toNat = j.toNat / 10 := by omega
    rw [e]
    simp only [Nat.add_sub_cancel, mtl]
    rw [if_neg (by omega)]
  · have h := of_decide_eq_false h
    have hj : j.toNat = 0 := by omega
    rw [hj, mtl_zero] at hm
    refine ⟨by rw [hz]; simp [ByteArray.size]; omega, Lf_s ?_⟩
    simp only [markText]
    rw [if_neg h0, ← hm]
    apply ByteArray.ext
    simp
def con_laws_szStringS : Con UU where
  α := (List ByteArray) × Int
  md := [.ro, .ro]
  of := fun | [.one (.sl .str a0), .one (.lit (.int .i64 a1))] => some (a0, a1) | _ => none
  ds := fun (a, left) => [.one (.sl .str a), .one (.lit (.int .i64 left))]
  pre := fun (a, left) => [0 ≤ left]
  res := fun (a, left) => ⟨[.one (.lit (.int .i64 (szr left (sizeStringS a))))], true, []⟩
  law := by intro l x h; (try simp only at h); split at h <;> cases h; rfl
def I_laws_szStringS_5 (a : (List ByteArray)) (left : Int) : Int × Int × Unit → Prop := fun (lf, i, _) => 0 ≤ lf ∧ lf ≤ left ∧ 0 ≤ i ∧ i ≤ a.length ∧ szr lf ((a.drop i.toNat).map ByteArray.size).sum = szr left (sizeStringS a)
def μ_laws_szStringS_5 (a : (List ByteArray)) (left : Int) : Int × Int × Unit → Nat := fun (lf, i, _) => a.length - i.toNat
def ann_laws_szStringS : con_laws_szStringS.α → Nat → Option (Ann UU) := fun (a, left) => annL [(5, annOf [.slot 1 (1, 1024) (.lit (.int .i64)), .slot 5 (5, 1024) (.lit (.int .i64))] (I_laws_szStringS_5 a left) (μ_laws_szStringS_5 a left))]
def use_laws_szStringS : List (FuncId × Con UU) := []
theorem vc_laws_szStringS (a : (List ByteArray)) (left : Int) : goal EE use_laws_szStringS Go.Proofs.Try.f15 con_laws_szStringS ann_laws_szStringS (a, left) = (bif decide (IntKind.wrap IntKind.i64 (left - (↑(List.length a) : Int)) < (0 : Int)) then Lf [DV.one (Cell.lit (Value.int IntKind.i64 (-1 : Int)))] [DV.one (Cell.lit (Value.int IntKind.i64 (szr left (sizeStringS a))))] else I_laws_szStringS_5 a left (IntKind.wrap IntKind.i64 (left - (↑(List.length a) : Int)), (0 : Int), PUnit.unit) ∧ ∀ (y : Int × Int × PUnit), I_laws_szStringS_5 a left y → bif decide (y.2.1 < (↑(List.length a) : Int)) then (0 : Int) ≤ y.2.1 ∧ Int.toNat y.2.1 < List.length a ∧ bif decide (IntKind.wrap IntKind.i64 (y.1 - (↑(ByteArray.size (List.getD a (Int.toNat y.2.1) noBytes)) : Int)) < (0 : Int)) then Lf [DV.one (Cell.lit (Value.int IntKind.i64 (-1 : Int)))] [DV.one (Cell.lit (Value.int IntKind.i64 (szr left (sizeStringS a))))] else I_laws_szStringS_5 a left (IntKind.wrap IntKind.i64 (y.1 - (↑(ByteArray.size (List.getD a (Int.toNat y.2.1) noBytes)) : Int)), IntKind.wrap IntKind.i64 (y.2.1 + (1 : Int)), PUnit.unit) ∧ μ_laws_szStringS_5 a left (IntKind.wrap IntKind.i64 (y.1 - (↑(ByteArray.size (List.getD a (Int.toNat y.2.1) noBytes)) : Int)), IntKind.wrap IntKind.i64 (y.2.1 + (1 : Int)), PUnit.unit) < μ_laws_szStringS_5 a left y else Lf [DV.one (Cell.lit (Value.int IntKind.i64 y.1))] [DV.one (Cell.lit (Value.int IntKind.i64 (szr left (sizeStringS a))))]) := by kernel_rfl
theorem ok_laws_szStringS : Holds EE (15, con_laws_szStringS) := by
  refine holds_of EE_ok Go.Proofs.Try.func15 con_laws_szStringS (by kernel_rfl) rfl use_laws_szStringS all_nil ann_laws_szStringS (fun x hp hb => ?_)
  obtain ⟨a, left⟩ := x
  have hb_a : BdDV (U := UU) (.one (.sl .str a)) := hb _ (List.mem_cons_self)
  have hl_a : a.length ≤ 9223372036854775807 := Bd.len hb_a
  have hb_left : BdDV (U := UU) (.one (.lit (.int .i64 left))) := hb _ (List.mem_cons_of_mem _ (List.mem_cons_self))
  have hl_left := Bd.i64 hb_left
  have hp0 : 0 ≤ left := hp _ (List.mem_cons_self)
  clear hp hb
  rw [vc_laws_szStringS a left]
  rw [wrap_i64 (by omega) (by omega)]
  refine if_cond (fun h => Lf_i (szr_bad' ?_)) (fun h => ⟨?_, ?_⟩)
  · have h := of_decide_eq_true h; simp only [sizeStringS]; omega
  · have h' : 0 ≤ left - a.length := by have h := of_decide_eq_false h; omega
    exact ⟨h', by omega, by omega, by omega, szr_sub h'⟩
  rintro ⟨lf, i, ⟨⟩⟩ ⟨h0, h3, h1, h2, hR⟩
  refine if_cond (fun hc => ?_) (fun hc => ?_)
  · have hc : i < a.length := by simpa using hc
    have hsz : (List.getD a i.toNat noBytes).size ≤ 9223372036854775807 := Bd.str (Bd.row hb_a (x := List.getD a i.toNat noBytes) (getD_mem a _ h1 hc) List.mem_cons_self)
    rw [drop_step a noBytes h1 hc, List.map_cons, List.sum_cons] at hR
    simp only at *
    generalize List.getD a i.toNat noBytes = x at *
    refine ⟨by omega, by omega, ?_⟩
    rw [wrap_i64 (by omega) (by omega)]
    try rw [wrap_i64 (by omega) (by omega)]
    refine if_cond (fun h => Lf_i ?_) (fun h => ⟨⟨?_, by omega, by omega, by omega, ?_⟩, ?_⟩)
    · have h := of_decide_eq_true h; rw [← hR]; exact szr_bad' (by omega)
    · have h := of_decide_eq_false h; omega
    · have h := of_decide_eq_false h; rw [← hR]; exact szr_sub (by omega)
    · simp only [μ_laws_szStringS_5]; omega
  · have hc : a.length ≤ i := by simpa using hc
    rw [drop_end a hc] at hR
    apply Lf_i; rw [← hR]; simp [szr, h0]
def con_laws_toStringS : Con UU where
  α := (List ByteArray)
  md := [.ro]
  of := fun | [.one (.sl .str a0)] => some a0 | _ => none
  ds := fun a => [.one (.sl .str a)]
  pre := fun a => [sizeStringS a ≤ 4294967296]
  res := fun a => ⟨[.one (.sl .str a)], true, []⟩
  law := by intro l x h; (try simp only at h); split at h <;> cases h; rfl
def I_laws_toStringS_3 (a : (List ByteArray)) : List ByteArray × Int × Unit → Prop := fun (out, i, _) => 0 ≤ i ∧ i ≤ a.length ∧ out = a.take i.toNat ++ List.replicate (a.length - i.toNat) noBytes
def μ_laws_toStringS_3 (a : (List ByteArray)) : List ByteArray × Int × Unit → Nat := fun (out, i, _) => a.length - i.toNat
def ann_laws_toStringS : con_laws_toStringS.α → Nat → Option (Ann UU) := fun a => annL [(3, annOf [.slot 3 (3, 1024) (.own .str true), .slot 4 (4, 1024) (.lit (.int .i64))] (I_laws_toStringS_3 a) (μ_laws_toStringS_3 a))]
def use_laws_toStringS : List (FuncId × Con UU) := []
theorem vc_laws_toStringS (a : (List ByteArray)) : goal EE use_laws_toStringS Go.Proofs.Try.f18 con_laws_toStringS ann_laws_toStringS a = ((0 : Int) ≤ (↑(List.length a) : Int) ∧ (↑(List.length a) : Int) = (↑(List.length a) : Int) ∧ (↑(List.length a) : Int) ≤ (4294967296 : Int) ∧ I_laws_toStringS_3 a (List.replicate (Int.toNat (↑(List.length a) : Int)) noBytes, (0 : Int), PUnit.unit) ∧ ∀ (y : List ByteArray × Int × PUnit), I_laws_toStringS_3 a y → bif decide (y.2.1 < (↑(List.length a) : Int)) then (0 : Int) ≤ y.2.1 ∧ Int.toNat y.2.1 < List.length a ∧ (0 : Int) ≤ y.2.1 ∧ Int.toNat y.2.1 < List.length y.1 ∧ Int.toNat y.2.1 < List.length y.1 ∧ I_laws_toStringS_3 a (List.set y.1 (Int.toNat y.2.1) (List.getD a (Int.toNat y.2.1) noBytes), IntKind.wrap IntKind.i64 (y.2.1 + (1 : Int)), PUnit.unit) ∧ μ_laws_toStringS_3 a (List.set y.1 (Int.toNat y.2.1) (List.getD a (Int.toNat y.2.1) noBytes), IntKind.wrap IntKind.i64 (y.2.1 + (1 : Int)), PUnit.unit) < μ_laws_toStringS_3 a y else Lf [DV.one (Cell.sl Cd.str y.1)] [DV.one (Cell.sl Cd.str a)]) := by kernel_rfl
theorem ok_laws_toStringS : Holds EE (18, con_laws_toStringS) := by
  refine holds_of EE_ok Go.Proofs.Try.func18 con_laws_toStringS (by kernel_rfl) rfl use_laws_toStringS all_nil ann_laws_toStringS (fun (a : (List ByteArray)) hp hb => ?_)
  have hb_a : BdDV (U := UU) (.one (.sl .str a)) := hb _ (List.mem_cons_self)
  have hl_a : a.length ≤ 9223372036854775807 := Bd.len hb_a
  have hp0 : sizeStringS a ≤ 4294967296 := hp _ (List.mem_cons_self)
  clear hp hb
  rw [vc_laws_toStringS a]
  have hlen : a.length ≤ 4294967296 := by simp only [sizeStringS] at hp0; omega
  refine ⟨by omega, rfl, by omega, ?_, ?_⟩
  · simp [I_laws_toStringS_3]
  rintro ⟨out, i, ⟨⟩⟩ ⟨h1, h2, rfl⟩
  simp only at *
  refine if_cond (fun hc => ?_) (fun hc => ?_)
  · have hc : i < a.length := by simpa using hc
    rw [wrap_i64 (by omega) (by omega), set_fill a noBytes h1 hc]
    exact ⟨h1, by omega, h1, by simp; omega, by simp; omega, ⟨by omega, by omega, rfl⟩, by simp only [μ_laws_toStringS_3]; omega⟩
  · have hc : a.length ≤ i := by simpa using hc
    have e : i.toNat = a.length := by omega
    rw [e]; simp; exact Lf_rfl _
def con_laws_eqStringS : Con UU where
  α := (List ByteArray) × (List ByteArray)
  md := [.ro, .ro]
  of := fun | [.one (.sl .str a0), .one (.sl .str a1)] => some (a0, a1) | _ => none
  ds := fun (a, b) => [.one (.sl .str a), .one (.sl .str b)]
  pre := fun (a, b) => []
  res := fun (a, b) => ⟨[.one (.lit (.bool (decide (a = b))))], true, []⟩
  law := by intro l x h; (try simp only at h); split at h <;> cases h; rfl
def I_laws_eqStringS_4 (a : (List ByteArray)) (b : (List ByteArray)) : Int × Unit → Prop := fun (i, _) => 0 ≤ i ∧ i ≤ a.length ∧ a.length = b.length ∧ (a.drop i.toNat = b.drop i.toNat ↔ a = b)
def μ_laws_eqStringS_4 (a : (List ByteArray)) (b : (List ByteArray)) : Int × Unit → Nat := fun (i, _) => a.length - i.toNat
def ann_laws_eqStringS : con_laws_eqStringS.α → Nat → Option (Ann UU) := fun (a, b) => annL [(4, annOf [.slot 5 (5, 1024) (.lit (.int .i64))] (I_laws_eqStringS_4 a b) (μ_laws_eqStringS_4 a b))]
def use_laws_eqStringS : List (FuncId × Con UU) := []
theorem vc_laws_eqStringS (a : (List ByteArray)) (b : (List ByteArray)) : goal EE use_laws_eqStringS Go.Proofs.Try.f21 con_laws_eqStringS ann_laws_eqStringS (a, b) = (bif (↑(List.length a) : Int) != (↑(List.length b) : Int) then Lf [DV.one (Cell.lit (Value.bool false))] [DV.one (Cell.lit (Value.bool (decide (a = b))))] else I_laws_eqStringS_4 a b ((0 : Int), PUnit.unit) ∧ ∀ (y : Int × PUnit), I_laws_eqStringS_4 a b y → bif decide (y.1 < (↑(List.length a) : Int)) then (0 : Int) ≤ y.1 ∧ Int.toNat y.1 < List.length a ∧ (0 : Int) ≤ y.1 ∧ Int.toNat y.1 < List.length b ∧ bif !ByteArray.toList (List.getD a (Int.toNat y.1) noBytes) == ByteArray.toList (List.getD b (Int.toNat y.1) noBytes) then Lf [DV.one (Cell.lit (Value.bool false))] [DV.one (Cell.lit (Value.bool (decide (a = b))))] else I_laws_eqStringS_4 a b (IntKind.wrap IntKind.i64 (y.1 + (1 : Int)), PUnit.unit) ∧ μ_laws_eqStringS_4 a b (IntKind.wrap IntKind.i64 (y.1 + (1 : Int)), PUnit.unit) < μ_laws_eqStringS_4 a b y else Lf [DV.one (Cell.lit (Value.bool true))] [DV.one (Cell.lit (Value.bool (decide (a = b))))]) := by kernel_rfl
theorem ok_laws_eqStringS : Holds EE (21, con_laws_eqStringS) := by
  refine holds_of EE_ok Go.Proofs.Try.func21 con_laws_eqStringS (by kernel_rfl) rfl use_laws_eqStringS all_nil ann_laws_eqStringS (fun x hp hb => ?_)
  obtain ⟨a, b⟩ := x
  have hb_a : BdDV (U := UU) (.one (.sl .str a)) := hb _ (List.mem_cons_self)
  have hl_a : a.length ≤ 9223372036854775807 := Bd.len hb_a
  have hb_b : BdDV (U := UU) (.one (.sl .str b)) := hb _ (List.mem_cons_of_mem _ (List.mem_cons_self))
  have hl_b : b.length ≤ 9223372036854775807 := Bd.len hb_b
  clear hp hb
  rw [vc_laws_eqStringS a b]
  refine if_cond (fun h => Lf_f ?_) (fun h => ⟨?_, ?_⟩)
  · rintro rfl; simp at h
  · simp [I_laws_eqStringS_4] at *; omega
  rintro ⟨i, ⟨⟩⟩ ⟨h1, h2, h3, hR⟩
  simp only at *
  refine if_cond (fun hc => ?_) (fun hc => ?_)
  · have hc : i < a.length := by simpa using hc
    rw [drop_step a noBytes h1 hc, drop_step b noBytes h1 (by omega)] at hR
    rw [wrap_i64 (by omega) (by omega)]
    refine ⟨by omega, by omega, by omega, by omega, if_cond (fun h => Lf_f ?_) (fun h => ⟨⟨by omega, by omega, h3, ?_⟩, ?_⟩)⟩
    · rw [← hR]; simp at h; simp [h]
    · rw [← hR]; simp at h; simp [h]
    · simp only [μ_laws_eqStringS_4]; omega
  · have hc : a.length ≤ i := by simpa using hc
    rw [drop_end a hc, drop_end b (by omega)] at hR
    exact Lf_t (hR.1 rfl)
def con_laws_szVal : Con UU where
  α := DVal × Int
  md := [.ro, .ro]
  of := fun | [.agg [.lit (.int .i64 a0), .lit (.int .i64 a1), .lit (.string a2)], .one (.lit (.int .i64 a3))] => some (⟨a0, a1, a2⟩, a3) | _ => none
  ds := fun (a, left) => [.agg [.lit (.int .i64 a.K), .lit (.int .i64 a.N), .lit (.string a.S)], .one (.lit (.int .i64 left))]
  pre := fun (a, left) => [0 ≤ left]
  res := fun (a, left) => ⟨[.one (.lit (.int .i64 (szr left (sizeVal a))))], true, []⟩
  law := by intro l x h; (try simp only at h); split at h <;> cases h; rfl
def ann_laws_szVal : con_laws_szVal.α → Nat → Option (Ann UU) := fun (a, left) => annL []
def use_laws_szVal : List (FuncId × Con UU) := []
theorem vc_laws_szVal (a : DVal) (left : Int) : goal EE use_laws_szVal Go.Proofs.Try.f77 con_laws_szVal ann_laws_szVal (a, left) = (bif decide (IntKind.wrap IntKind.i64 (left - (↑(ByteArray.size (DVal.S a)) : Int)) < (0 : Int)) then Lf [DV.one (Cell.lit (Value.int IntKind.i64 (-1 : Int)))] [DV.one (Cell.lit (Value.int IntKind.i64 (szr left (sizeVal a))))] else Lf [DV.one (Cell.lit (Value.int IntKind.i64 (IntKind.wrap IntKind.i64 (left - (↑(ByteArray.size (DVal.S a)) : Int)))))] [DV.one (Cell.lit (Value.int IntKind.i64 (szr left (sizeVal a))))]) := by kernel_rfl
theorem ok_laws_szVal : Holds EE (77, con_laws_szVal) := by
  refine holds_of EE_ok Go.Proofs.Try.func77 con_laws_szVal (by kernel_rfl) rfl use_laws_szVal all_nil ann_laws_szVal (fun x hp hb => ?_)
  obtain ⟨a, left⟩ := x
  have hb_a : BdDV (U := UU) (.agg [.lit (.int .i64 a.K), .lit (.int .i64 a.N), .lit (.string a.S)]) := hb _ (List.mem_cons_self)
  have hl_a_S : a.S.size ≤ 9223372036854775807 := Bd.str (hb_a _ (by simp))
  have hb_left : BdDV (U := UU) (.one (.lit (.int .i64 left))) := hb _ (List.mem_cons_of_mem _ (List.mem_cons_self))
  have hl_left := Bd.i64 hb_left
  have hp0 : 0 ≤ left := hp _ (List.mem_cons_self)
  clear hp hb
  rw [vc_laws_szVal a left]
  rw [wrap_i64 (by omega) (by omega)]
  refine if_cond (fun h => Lf_i (szr_bad' ?_)) (fun h => ?_)
  · have h := of_decide_eq_true h; simp only [sizeVal]; omega
  have h0 := of_decide_eq_false h
  exact Lf_i (by rw [← szr_ok' (by simp only [sizeVal]; omega)]; simp only [sizeVal]; try omega)
def con_laws_toVal : Con UU where
  α := DVal
  md := [.ro]
  of := fun | [.agg [.lit (.int .i64 a0), .lit (.int .i64 a1), .lit (.string a2)]] => some ⟨a0, a1, a2⟩ | _ => none
  ds := fun a => [.agg [.lit (.int .i64 a.K), .lit (.int .i64 a.N), .lit (.string a.S)]]
  pre := fun a => [sizeVal a ≤ 4294967296]
  res := fun a => ⟨[.agg [.lit (.int .i64 a.K), .lit (.int .i64 a.N), .lit (.string a.S)]], true, []⟩
  law := by intro l x h; (try simp only at h); split at h <;> cases h; rfl
def ann_laws_toVal : con_laws_toVal.α → Nat → Option (Ann UU) := fun a => annL []
def use_laws_toVal : List (FuncId × Con UU) := []
theorem vc_laws_toVal (a : DVal) : goal EE use_laws_toVal Go.Proofs.Try.f78 con_laws_toVal ann_laws_toVal a = (Lf [DV.agg [Cell.lit (Value.int IntKind.i64 (DVal.K a)), Cell.lit (Value.int IntKind.i64 (DVal.N a)), Cell.lit (Value.string (DVal.S a))]] [DV.agg [Cell.lit (Value.int IntKind.i64 (DVal.K a)), Cell.lit (Value.int IntKind.i64 (DVal.N a)), Cell.lit (Value.string (DVal.S a))]]) := by kernel_rfl
theorem ok_laws_toVal : Holds EE (78, con_laws_toVal) := by
  refine holds_of EE_ok Go.Proofs.Try.func78 con_laws_toVal (by kernel_rfl) rfl use_laws_toVal all_nil ann_laws_toVal (fun (a : DVal) hp hb => ?_)
  have hb_a : BdDV (U := UU) (.agg [.lit (.int .i64 a.K), .lit (.int .i64 a.N), .lit (.string a.S)]) := hb _ (List.mem_cons_self)
  have hl_a_S : a.S.size ≤ 9223372036854775807 := Bd.str (hb_a _ (by simp))
  have hp0 : sizeVal a ≤ 4294967296 := hp _ (List.mem_cons_self)
  clear hp hb
  rw [vc_laws_toVal a]
  simp only [sizeVal] at hp0
  repeat' (first | exact Lf_rfl _ | (refine And.intro (by omega) ?_))
def con_laws_eqVal : Con UU where
  α := DVal × DVal
  md := [.ro, .ro]
  of := fun | [.agg [.lit (.int .i64 a0), .lit (.int .i64 a1), .lit (.string a2)], .agg [.lit (.int .i64 a3), .lit (.int .i64 a4), .lit (.string a5)]] => some (⟨a0, a1, a2⟩, ⟨a3, a4, a5⟩) | _ => none
  ds := fun (a, b) => [.agg [.lit (.int .i64 a.K), .lit (.int .i64 a.N), .lit (.string a.S)], .agg [.lit (.int .i64 b.K), .lit (.int .i64 b.N), .lit (.string b.S)]]
  pre := fun (a, b) => []
  res := fun (a, b) => ⟨[.one (.lit (.bool (decide (a = b))))], true, []⟩
  law := by intro l x h; (try simp only at h); split at h <;> cases h; rfl
def ann_laws_eqVal : con_laws_eqVal.α → Nat → Option (Ann UU) := fun (a, b) => annL []
def use_laws_eqVal : List (FuncId × Con UU) := []
theorem vc_laws_eqVal (a : DVal) (b : DVal) : goal EE use_laws_eqVal Go.Proofs.Try.f66 con_laws_eqVal ann_laws_eqVal (a, b) = (bif DVal.K a != DVal.K b then Lf [DV.one (Cell.lit (Value.bool false))] [DV.one (Cell.lit (Value.bool (decide (a = b))))] else bif DVal.N a != DVal.N b then Lf [DV.one (Cell.lit (Value.bool false))] [DV.one (Cell.lit (Value.bool (decide (a = b))))] else bif !ByteArray.toList (DVal.S a) == ByteArray.toList (DVal.S b) then Lf [DV.one (Cell.lit (Value.bool false))] [DV.one (Cell.lit (Value.bool (decide (a = b))))] else Lf [DV.one (Cell.lit (Value.bool true))] [DV.one (Cell.lit (Value.bool (decide (a = b))))]) := by kernel_rfl
theorem ok_laws_eqVal : Holds EE (66, con_laws_eqVal) := by
  refine holds_of EE_ok Go.Proofs.Try.func66 con_laws_eqVal (by kernel_rfl) rfl use_laws_eqVal all_nil ann_laws_eqVal (fun x hp hb => ?_)
  obtain ⟨a, b⟩ := x
  have hb_a : BdDV (U := UU) (.agg [.lit (.int .i64 a.K), .lit (.int .i64 a.N), .lit (.string a.S)]) := hb _ (List.mem_cons_self)
  have hl_a_S : a.S.size ≤ 9223372036854775807 := Bd.str (hb_a _ (by simp))
  have hb_b : BdDV (U := UU) (.agg [.lit (.int .i64 b.K), .lit (.int .i64 b.N), .lit (.string b.S)]) := hb _ (List.mem_cons_of_mem _ (List.mem_cons_self))
  have hl_b_S : b.S.size ≤ 9223372036854775807 := Bd.str (hb_b _ (by simp))
  clear hp hb
  rw [vc_laws_eqVal a b]
  obtain ⟨aK, aN, aS⟩ := a
  obtain ⟨bK, bN, bS⟩ := b
  repeat' (apply if_cond <;> intro _)
  all_goals (first | apply Lf_t | apply Lf_f) <;> simp_all
def con_laws_szValS : Con UU where
  α := (List DVal) × Int
  md := [.ro, .ro]
  of := fun | [.one (.sl .lVal a0), .one (.lit (.int .i64 a1))] => some (a0, a1) | _ => none
  ds := fun (a, left) => [.one (.sl .lVal a), .one (.lit (.int .i64 left))]
  pre := fun (a, left) => [0 ≤ left]
  res := fun (a, left) => ⟨[.one (.lit (.int .i64 (szr left (sizeValS a))))], true, []⟩
  law := by intro l x h; (try simp only at h); split at h <;> cases h; rfl
def I_laws_szValS_5 (a : (List DVal)) (left : Int) : Int × Int × Unit → Prop := fun (lf, i, _) => 0 ≤ lf ∧ 0 ≤ i ∧ i ≤ a.length ∧ szr lf ((a.drop i.toNat).map sizeVal).sum = szr left (sizeValS a)
def μ_laws_szValS_5 (a : (List DVal)) (left : Int) : Int × Int × Unit → Nat := fun (lf, i, _) => a.length - i.toNat
def ann_laws_szValS : con_laws_szValS.α → Nat → Option (Ann UU) := fun (a, left) => annL [(5, annOf [.slot 1 (1, 1024) (.lit (.int .i64)), .slot 5 (5, 1024) (.lit (.int .i64))] (I_laws_szValS_5 a left) (μ_laws_szValS_5 a left))]
def use_laws_szValS : List (FuncId × Con UU) := [(77, con_laws_szVal)]
theorem vc_laws_szValS (a : (List DVal)) (left : Int) : goal EE use_laws_szValS Go.Proofs.Try.f71 con_laws_szValS ann_laws_szValS (a, left) = (bif decide (IntKind.wrap IntKind.i64 (left - (↑(List.length a) : Int)) < (0 : Int)) then Lf [DV.one (Cell.lit (Value.int IntKind.i64 (-1 : Int)))] [DV.one (Cell.lit (Value.int IntKind.i64 (szr left (sizeValS a))))] else I_laws_szValS_5 a left (IntKind.wrap IntKind.i64 (left - (↑(List.length a) : Int)), (0 : Int), PUnit.unit) ∧ ∀ (y : Int × Int × PUnit), I_laws_szValS_5 a left y → bif decide (y.2.1 < (↑(List.length a) : Int)) then (0 : Int) ≤ y.2.1 ∧ Int.toNat y.2.1 < List.length a ∧ (0 : Int) ≤ y.1 ∧ bif decide (szr y.1 (sizeVal (List.getD a (Int.toNat y.2.1) zVal)) < (0 : Int)) then Lf [DV.one (Cell.lit (Value.int IntKind.i64 (-1 : Int)))] [DV.one (Cell.lit (Value.int IntKind.i64 (szr left (sizeValS a))))] else I_laws_szValS_5 a left (szr y.1 (sizeVal (List.getD a (Int.toNat y.2.1) zVal)), IntKind.wrap IntKind.i64 (y.2.1 + (1 : Int)), PUnit.unit) ∧ μ_laws_szValS_5 a left (szr y.1 (sizeVal (List.getD a (Int.toNat y.2.1) zVal)), IntKind.wrap IntKind.i64 (y.2.1 + (1 : Int)), PUnit.unit) < μ_laws_szValS_5 a left y else Lf [DV.one (Cell.lit (Value.int IntKind.i64 y.1))] [DV.one (Cell.lit (Value.int IntKind.i64 (szr left (sizeValS a))))]) := by kernel_rfl
theorem ok_laws_szValS : Holds EE (71, con_laws_szValS) := by
  refine holds_of EE_ok Go.Proofs.Try.func71 con_laws_szValS (by kernel_rfl) rfl use_laws_szValS (all_cons ok_laws_szVal all_nil) ann_laws_szValS (fun x hp hb => ?_)
  obtain ⟨a, left⟩ := x
  have hb_a : BdDV (U := UU) (.one (.sl .lVal a)) := hb _ (List.mem_cons_self)
  have hl_a : a.length ≤ 9223372036854775807 := Bd.len hb_a
  have hb_left : BdDV (U := UU) (.one (.lit (.int .i64 left))) := hb _ (List.mem_cons_of_mem _ (List.mem_cons_self))
  have hl_left := Bd.i64 hb_left
  have hp0 : 0 ≤ left := hp _ (List.mem_cons_self)
  clear hp hb
  rw [vc_laws_szValS a left]
  rw [wrap_i64 (by omega) (by omega)]
  refine if_cond (fun h => Lf_i ?_) (fun h => ⟨?_, ?_⟩)
  · simp [szr, sizeValS] at *; omega
  · simp only [I_laws_szValS_5, sizeValS]; simp at h; have h' : 0 ≤ left - a.length := by omega
    exact ⟨h', by omega, by omega, szr_sub h'⟩
  rintro ⟨lf, i, ⟨⟩⟩ ⟨h0, h1, h2, hR⟩
  refine if_cond (fun hc => ?_) (fun hc => ?_)
  · have hc : i < a.length := by simpa using hc
    rw [drop_step a zVal h1 hc, List.map_cons, List.sum_cons] at hR
    simp only at *
    rw [wrap_i64 (by omega) (by omega)]
    generalize List.getD a i.toNat zVal = x at *
    refine ⟨by omega, by omega, by omega, if_cond (fun h => Lf_i ?_) (fun h => ⟨⟨?_, by omega, by omega, ?_⟩, ?_⟩)⟩
    · rw [← hR]; exact (szr_bad (of_decide_eq_true h)).symm
    · simp at h; omega
    · rw [← hR]; simp at h; exact szr_szr h
    · simp only [μ_laws_szValS_5]; omega
  · have hc : a.length ≤ i := by simpa using hc
    rw [drop_end a hc] at hR
    apply Lf_i; rw [← hR]; simp [szr, h0]
def con_laws_toValS : Con UU where
  α := (List DVal)
  md := [.ro]
  of := fun | [.one (.sl .lVal a0)] => some a0 | _ => none
  ds := fun a => [.one (.sl .lVal a)]
  pre := fun a => [sizeValS a ≤ 4294967296]
  res := fun a => ⟨[.one (.sl .eVal a)], true, []⟩
  law := by intro l x h; (try simp only at h); split at h <;> cases h; rfl
def I_laws_toValS_3 (a : (List DVal)) : List DVal × Int × Unit → Prop := fun (out, i, _) => 0 ≤ i ∧ i ≤ a.length ∧ out = a.take i.toNat ++ List.replicate (a.length - i.toNat) zVal
def μ_laws_toValS_3 (a : (List DVal)) : List DVal × Int × Unit → Nat := fun (out, i, _) => a.length - i.toNat
def ann_laws_toValS : con_laws_toValS.α → Nat → Option (Ann UU) := fun a => annL [(3, annOf [.slot 3 (3, 1024) (.own .eVal true), .slot 4 (4, 1024) (.lit (.int .i64))] (I_laws_toValS_3 a) (μ_laws_toValS_3 a))]
def use_laws_toValS : List (FuncId × Con UU) := [(78, con_laws_toVal)]
theorem vc_laws_toValS (a : (List DVal)) : goal EE use_laws_toValS Go.Proofs.Try.f72 con_laws_toValS ann_laws_toValS a = ((0 : Int) ≤ (↑(List.length a) : Int) ∧ (↑(List.length a) : Int) = (↑(List.length a) : Int) ∧ (↑(List.length a) : Int) ≤ (4294967296 : Int) ∧ I_laws_toValS_3 a (List.replicate (Int.toNat (↑(List.length a) : Int)) zVal, (0 : Int), PUnit.unit) ∧ ∀ (y : List DVal × Int × PUnit), I_laws_toValS_3 a y → bif decide (y.2.1 < (↑(List.length a) : Int)) then (0 : Int) ≤ y.2.1 ∧ Int.toNat y.2.1 < List.length a ∧ sizeVal (List.getD a (Int.toNat y.2.1) zVal) ≤ (4294967296 : Nat) ∧ (0 : Int) ≤ y.2.1 ∧ Int.toNat y.2.1 < List.length y.1 ∧ Int.toNat y.2.1 < List.length y.1 ∧ I_laws_toValS_3 a (List.set y.1 (Int.toNat y.2.1) (List.getD a (Int.toNat y.2.1) zVal), IntKind.wrap IntKind.i64 (y.2.1 + (1 : Int)), PUnit.unit) ∧ μ_laws_toValS_3 a (List.set y.1 (Int.toNat y.2.1) (List.getD a (Int.toNat y.2.1) zVal), IntKind.wrap IntKind.i64 (y.2.1 + (1 : Int)), PUnit.unit) < μ_laws_toValS_3 a y else Lf [DV.one (Cell.sl Cd.eVal y.1)] [DV.one (Cell.sl Cd.eVal a)]) := by kernel_rfl
theorem ok_laws_toValS : Holds EE (72, con_laws_toValS) := by
  refine holds_of EE_ok Go.Proofs.Try.func72 con_laws_toValS (by kernel_rfl) rfl use_laws_toValS (all_cons ok_laws_toVal all_nil) ann_laws_toValS (fun (a : (List DVal)) hp hb => ?_)
  have hb_a : BdDV (U := UU) (.one (.sl .lVal a)) := hb _ (List.mem_cons_self)
  have hl_a : a.length ≤ 9223372036854775807 := Bd.len hb_a
  have hp0 : sizeValS a ≤ 4294967296 := hp _ (List.mem_cons_self)
  clear hp hb
  rw [vc_laws_toValS a]
  have hlen : a.length ≤ 4294967296 := by simp only [sizeValS] at hp0; omega
  refine ⟨by omega, rfl, by omega, ?_, ?_⟩
  · simp [I_laws_toValS_3]
  rintro ⟨out, i, ⟨⟩⟩ ⟨h1, h2, rfl⟩
  simp only at *
  refine if_cond (fun hc => ?_) (fun hc => ?_)
  · have hc : i < a.length := by simpa using hc
    rw [wrap_i64 (by omega) (by omega), set_fill a zVal h1 hc]
    exact ⟨h1, by omega, by exact Nat.le_trans (sum_getD_le sizeVal a zVal h1 hc) (by simp only [sizeValS] at hp0; omega), h1, by simp; omega, by simp; omega, ⟨by omega, by omega, rfl⟩, by simp only [μ_laws_toValS_3]; omega⟩
  · have hc : a.length ≤ i := by simpa using hc
    have e : i.toNat = a.length := by omega
    rw [e]; simp; exact Lf_rfl _
def con_laws_eqValS : Con UU where
  α := (List DVal) × (List DVal)
  md := [.ro, .ro]
  of := fun | [.one (.sl .eVal a0), .one (.sl .eVal a1)] => some (a0, a1) | _ => none
  ds := fun (a, b) => [.one (.sl .eVal a), .one (.sl .eVal b)]
  pre := fun (a, b) => []
  res := fun (a, b) => ⟨[.one (.lit (.bool (decide (a = b))))], true, []⟩
  law := by intro l x h; (try simp only at h); split at h <;> cases h; rfl
def I_laws_eqValS_4 (a : (List DVal)) (b : (List DVal)) : Int × Unit → Prop := fun (i, _) => 0 ≤ i ∧ i ≤ a.length ∧ a.length = b.length ∧ (a.drop i.toNat = b.drop i.toNat ↔ a = b)
def μ_laws_eqValS_4 (a : (List DVal)) (b : (List DVal)) : Int × Unit → Nat := fun (i, _) => a.length - i.toNat
def ann_laws_eqValS : con_laws_eqValS.α → Nat → Option (Ann UU) := fun (a, b) => annL [(4, annOf [.slot 5 (5, 1024) (.lit (.int .i64))] (I_laws_eqValS_4 a b) (μ_laws_eqValS_4 a b))]
def use_laws_eqValS : List (FuncId × Con UU) := [(66, con_laws_eqVal)]
theorem vc_laws_eqValS (a : (List DVal)) (b : (List DVal)) : goal EE use_laws_eqValS Go.Proofs.Try.f49 con_laws_eqValS ann_laws_eqValS (a, b) = (bif (↑(List.length a) : Int) != (↑(List.length b) : Int) then Lf [DV.one (Cell.lit (Value.bool false))] [DV.one (Cell.lit (Value.bool (decide (a = b))))] else I_laws_eqValS_4 a b ((0 : Int), PUnit.unit) ∧ ∀ (y : Int × PUnit), I_laws_eqValS_4 a b y → bif decide (y.1 < (↑(List.length a) : Int)) then (0 : Int) ≤ y.1 ∧ Int.toNat y.1 < List.length a ∧ (0 : Int) ≤ y.1 ∧ Int.toNat y.1 < List.length b ∧ bif !decide (List.getD a (Int.toNat y.1) zVal = List.getD b (Int.toNat y.1) zVal) then Lf [DV.one (Cell.lit (Value.bool false))] [DV.one (Cell.lit (Value.bool (decide (a = b))))] else I_laws_eqValS_4 a b (IntKind.wrap IntKind.i64 (y.1 + (1 : Int)), PUnit.unit) ∧ μ_laws_eqValS_4 a b (IntKind.wrap IntKind.i64 (y.1 + (1 : Int)), PUnit.unit) < μ_laws_eqValS_4 a b y else Lf [DV.one (Cell.lit (Value.bool true))] [DV.one (Cell.lit (Value.bool (decide (a = b))))]) := by kernel_rfl
theorem ok_laws_eqValS : Holds EE (49, con_laws_eqValS) := by
  refine holds_of EE_ok Go.Proofs.Try.func49 con_laws_eqValS (by kernel_rfl) rfl use_laws_eqValS (all_cons ok_laws_eqVal all_nil) ann_laws_eqValS (fun x hp hb => ?_)
  obtain ⟨a, b⟩ := x
  have hb_a : BdDV (U := UU) (.one (.sl .eVal a)) := hb _ (List.mem_cons_self)
  have hl_a : a.length ≤ 9223372036854775807 := Bd.len hb_a
  have hb_b : BdDV (U := UU) (.one (.sl .eVal b)) := hb _ (List.mem_cons_of_mem _ (List.mem_cons_self))
  have hl_b : b.length ≤ 9223372036854775807 := Bd.len hb_b
  clear hp hb
  rw [vc_laws_eqValS a b]
  refine if_cond (fun h => Lf_f ?_) (fun h => ⟨?_, ?_⟩)
  · rintro rfl; simp at h
  · simp [I_laws_eqValS_4] at *; omega
  rintro ⟨i, ⟨⟩⟩ ⟨h1, h2, h3, hR⟩
  simp only at *
  refine if_cond (fun hc => ?_) (fun hc => ?_)
  · have hc : i < a.length := by simpa using hc
    rw [drop_step a zVal h1 hc, drop_step b zVal h1 (by omega)] at hR
    rw [wrap_i64 (by omega) (by omega)]
    refine ⟨by omega, by omega, by omega, by omega, if_cond (fun h => Lf_f ?_) (fun h => ⟨⟨by omega, by omega, h3, ?_⟩, ?_⟩)⟩
    · rw [← hR]; simp at h; simp [h]
    · rw [← hR]; simp at h; simp [h]
    · simp only [μ_laws_eqValS_4]; omega
  · have hc : a.length ≤ i := by simpa using hc
    rw [drop_end a hc, drop_end b (by omega)] at hR
    exact Lf_t (hR.1 rfl)
def con_laws_markValS : Con UU where
  α := (List DVal) × Int
  md := [.wr, .ro]
  of := fun | [.one (.sl .eVal a0), .one (.lit (.int .i64 a1))] => some (a0, a1) | _ => none
  ds := fun (a, k) => [.one (.sl .eVal a), .one (.lit (.int .i64 k))]
  pre := fun (a, k) => [0 ≤ k, k + cntValS a ≤ 4611686018427387904]
  res := fun (a, k) => ⟨[.one (.lit (.int .i64 (k + cntValS a)))], true, [.one (.sl .eVal (markValS a k))]⟩
  law := by intro l x h; (try simp only at h); split at h <;> cases h; rfl
def I_laws_markValS_2 (a : (List DVal)) (k : Int) : List DVal × Int × Int × Unit → Prop := fun (row, kk, i, _) => 0 ≤ i ∧ i ≤ a.length ∧ row = (mkS markVal cntVal a k).take i.toNat ++ a.drop i.toNat ∧ kk = k + ctS cntVal (a.take i.toNat)
def μ_laws_markValS_2 (a : (List DVal)) (k : Int) : List DVal × Int × Int × Unit → Nat := fun (row, kk, i, _) => a.length - i.toNat
def ann_laws_markValS : con_laws_markValS.α → Nat → Option (Ann UU) := fun (a, k) => annL [(2, annOf [.slot 0 (2000000, 0) (.own .eVal true), .slot 1 (1, 1024) (.lit (.int .i64)), .slot 5 (5, 1024) (.lit (.int .i64))] (I_laws_markValS_2 a k) (μ_laws_markValS_2 a k))]
def use_laws_markValS : List (FuncId × Con UU) := [(50, con_laws_markText)]
theorem vc_laws_markValS (a : (List DVal)) (k : Int) : goal EE use_laws_markValS Go.Proofs.Try.f51 con_laws_markValS ann_laws_markValS (a, k) = (I_laws_markValS_2 a k (a, k, (0 : Int), PUnit.unit) ∧ ∀ (y : List DVal × Int × Int × PUnit), I_laws_markValS_2 a k y → bif decide (y.2.2.1 < (↑(List.length y.1) : Int)) then (0 : Int) ≤ y.2.2.1 ∧ Int.toNat y.2.2.1 < List.length y.1 ∧ Int.toNat y.2.2.1 < List.length y.1 ∧ (0 : Int) ≤ y.2.2.1 ∧ Int.toNat y.2.2.1 < List.length (List.modify y.1 (Int.toNat y.2.2.1) fun (x : DVal) => { K := y.2.1, N := DVal.N x, S := DVal.S x }) ∧ Int.toNat y.2.2.1 < List.length (List.modify y.1 (Int.toNat y.2.2.1) fun (x : DVal) => { K := y.2.1, N := DVal.N x, S := DVal.S x }) ∧ IntKind.wrap IntKind.i64 (IntKind.wrap IntKind.i64 (y.2.1 + (1 : Int)) + (1 : Int)) ≤ (4611686018427387903 : Int) ∧ (0 : Int) ≤ y.2.2.1 ∧ Int.toNat y.2.2.1 < List.length (List.modify (List.modify y.1 (Int.toNat y.2.2.1) fun (x : DVal) => { K := y.2.1, N := DVal.N x, S := DVal.S x }) (Int.toNat y.2.2.1) fun (x : DVal) => { K := DVal.K x, N := IntKind.wrap IntKind.i64 (y.2.1 + (1 : Int)), S := DVal.S x }) ∧ Int.toNat y.2.2.1 < List.length (List.modify (List.modify y.1 (Int.toNat y.2.2.1) fun (x : DVal) => { K := y.2.1, N := DVal.N x, S := DVal.S x }) (Int.toNat y.2.2.1) fun (x : DVal) => { K := DVal.K x, N := IntKind.wrap IntKind.i64 (y.2.1 + (1 : Int)), S := DVal.S x }) ∧ I_laws_markValS_2 a k (List.modify (List.modify (List.modify y.1 (Int.toNat y.2.2.1) fun (x : DVal) => { K := y.2.1, N := DVal.N x, S := DVal.S x }) (Int.toNat y.2.2.1) fun (x : DVal) => { K := DVal.K x, N := IntKind.wrap IntKind.i64 (y.2.1 + (1 : Int)), S := DVal.S x }) (Int.toNat y.2.2.1) fun (x : DVal) => { K := DVal.K x, N := DVal.N x, S := markText (IntKind.wrap IntKind.i64 (IntKind.wrap IntKind.i64 (y.2.1 + (1 : Int)) + (1 : Int))) }, IntKind.wrap IntKind.i64 (IntKind.wrap IntKind.i64 (IntKind.wrap IntKind.i64 (y.2.1 + (1 : Int)) + (1 : Int)) + (1 : Int)), IntKind.wrap IntKind.i64 (y.2.2.1 + (1 : Int)), PUnit.unit) ∧ μ_laws_markValS_2 a k (List.modify (List.modify (List.modify y.1 (Int.toNat y.2.2.1) fun (x : DVal) => { K := y.2.1, N := DVal.N x, S := DVal.S x }) (Int.toNat y.2.2.1) fun (x : DVal) => { K := DVal.K x, N := IntKind.wrap IntKind.i64 (y.2.1 + (1 : Int)), S := DVal.S x }) (Int.toNat y.2.2.1) fun (x : DVal) => { K := DVal.K x, N := DVal.N x, S := markText (IntKind.wrap IntKind.i64 (IntKind.wrap IntKind.i64 (y.2.1 + (1 : Int)) + (1 : Int))) }, IntKind.wrap IntKind.i64 (IntKind.wrap IntKind.i64 (IntKind.wrap IntKind.i64 (y.2.1 + (1 : Int)) + (1 : Int)) + (1 : Int)), IntKind.wrap IntKind.i64 (y.2.2.1 + (1 : Int)), PUnit.unit) < μ_laws_markValS_2 a k y else asD [DV.one (Cell.lit (Value.int IntKind.i64 y.2.1))] = asD [DV.one (Cell.lit (Value.int IntKind.i64 (k + (↑(cntValS a) : Int))))] ∧ asD [DV.one (Cell.sl Cd.eVal y.1)] = asD [DV.one (Cell.sl Cd.eVal (markValS a k))]) := by kernel_rfl
theorem ok_laws_markValS : Holds EE (51, con_laws_markValS) := by
  refine holds_of EE_ok Go.Proofs.Try.func51 con_laws_markValS (by kernel_rfl) rfl use_laws_markValS (all_cons ok_laws_markText all_nil) ann_laws_markValS (fun x hp hb => ?_)
  obtain ⟨a, k⟩ := x
  have hb_a : BdDV (U := UU) (.one (.sl .eVal a)) := hb _ (List.mem_cons_self)
  have hl_a : a.length ≤ 9223372036854775807 := Bd.len hb_a
  have hb_k : BdDV (U := UU) (.one (.lit (.int .i64 k))) := hb _ (List.mem_cons_of_mem _ (List.mem_cons_self))
  have hl_k := Bd.i64 hb_k
  have hp0 : 0 ≤ k := hp _ (List.mem_cons_self)
  have hp1 : k + cntValS a ≤ 4611686018427387904 := hp _ (List.mem_cons_of_mem _ (List.mem_cons_self))
  clear hp hb
  rw [vc_laws_markValS a k]
  refine ⟨⟨by omega, by omega, by simp, by simp [ctS]⟩, ?_⟩
  rintro ⟨row, kk, i, ⟨⟩⟩ ⟨h1, h2, rfl, rfl⟩
  simp only
  have hl := mk_rl markVal cntVal a k h1 h2
  refine if_cond (fun hc => ?_) (fun hc => ?_)
  · have hc : i < a.length := by have hc := of_decide_eq_true hc; omega
    have hct := ctS_take cntVal a zVal h1 hc
    have hle := ctS_take_le cntVal a (i + 1).toNat
    have hg := mk_getD _ a zVal (mk_tl markVal cntVal a k h1 h2) h1 hc
    have hM := fun F hF => mkS_mod markVal cntVal a zVal k (i := i) F h1 hc hF
    have hq : (cntValS a : Int) = ctS cntVal a := rfl
    generalize List.getD a i.toNat zVal = x at *
    generalize hkk : k + (ctS cntVal (a.take i.toNat) : Int) = kk at *
    generalize List.take i.toNat (mkS markVal cntVal a k) ++ List.drop i.toNat a = R at *
    simp only [cntVal] at hct
    simp (disch := first | omega | (simp only [List.length_modify]; omega)) only [List.length_modify, wrap_i64, getD_modify, modify_modify, hg, hl]
    repeat' (first | refine And.intro (by omega) ?_ | fail)
    exact ⟨⟨by omega, by omega, hM _ rfl, by omega⟩, by simp only [μ_laws_markValS_2]; omega⟩
  · have hc : a.length ≤ i := by have hc := of_decide_eq_false hc; omega
    rw [mk_done markVal cntVal a k hc, ct_done cntVal a hc]
    exact ⟨rfl, rfl⟩
def con_laws_heldValS : Con UU where
  α := (List DVal) × Int
  md := [.ro, .ro]
  of := fun | [.one (.sl .eVal a0), .one (.lit (.int .i64 a1))] => some (a0, a1) | _ => none
  ds := fun (a, k) => [.one (.sl .eVal a), .one (.lit (.int .i64 k))]
  pre := fun (a, k) => [0 ≤ k, k + cntValS a ≤ 4611686018427387904]
  res := fun (a, k) => ⟨[.one (.lit (.int .i64 (if markValS a k = a then k + cntValS a else -1)))], true, []⟩
  law := by intro l x h; (try simp only at h); split at h <;> cases h; rfl
def I_laws_heldValS_2 (a : (List DVal)) (k : Int) : Int × Int × Unit → Prop := fun (kk, i, _) => 0 ≤ i ∧ i ≤ a.length ∧ kk = k + ctS cntVal (a.take i.toNat) ∧ (mkS markVal cntVal (a.drop i.toNat) kk = a.drop i.toNat ↔ mkS markVal cntVal a k = a)
def μ_laws_heldValS_2 (a : (List DVal)) (k : Int) : Int × Int × Unit → Nat := fun (kk, i, _) => a.length - i.toNat
def ann_laws_heldValS : con_laws_heldValS.α → Nat → Option (Ann UU) := fun (a, k) => annL [(2, annOf [.slot 1 (1, 1024) (.lit (.int .i64)), .slot 5 (5, 1024) (.lit (.int .i64))] (I_laws_heldValS_2 a k) (μ_laws_heldValS_2 a k))]
def use_laws_heldValS : List (FuncId × Con UU) := [(50, con_laws_markText)]
theorem vc_laws_heldValS (a : (List DVal)) (k : Int) : goal EE use_laws_heldValS Go.Proofs.Try.f52 con_laws_heldValS ann_laws_heldValS (a, k) = (I_laws_heldValS_2 a k (k, (0 : Int), PUnit.unit) ∧ ∀ (y : Int × Int × PUnit), I_laws_heldValS_2 a k y → bif decide (y.2.1 < (↑(List.length a) : Int)) then (0 : Int) ≤ y.2.1 ∧ Int.toNat y.2.1 < List.length a ∧ bif DVal.K (List.getD a (Int.toNat y.2.1) zVal) != y.1 then Lf [DV.one (Cell.lit (Value.int IntKind.i64 (-1 : Int)))] [DV.one (Cell.lit (Value.int IntKind.i64 (if markValS a k = a then k + (↑(cntValS a) : Int) else (-1 : Int))))] else (0 : Int) ≤ y.2.1 ∧ Int.toNat y.2.1 < List.length a ∧ bif DVal.N (List.getD a (Int.toNat y.2.1) zVal) != IntKind.wrap IntKind.i64 (y.1 + (1 : Int)) then Lf [DV.one (Cell.lit (Value.int IntKind.i64 (-1 : Int)))] [DV.one (Cell.lit (Value.int IntKind.i64 (if markValS a k = a then k + (↑(cntValS a) : Int) else (-1 : Int))))] else (0 : Int) ≤ y.2.1 ∧ Int.toNat y.2.1 < List.length a ∧ IntKind.wrap IntKind.i64 (IntKind.wrap IntKind.i64 (y.1 + (1 : Int)) + (1 : Int)) ≤ (4611686018427387903 : Int) ∧ bif !ByteArray.toList (DVal.S (List.getD a (Int.toNat y.2.1) zVal)) == ByteArray.toList (markText (IntKind.wrap IntKind.i64 (IntKind.wrap IntKind.i64 (y.1 + (1 : Int)) + (1 : Int)))) then Lf [DV.one (Cell.lit (Value.int IntKind.i64 (-1 : Int)))] [DV.one (Cell.lit (Value.int IntKind.i64 (if markValS a k = a then k + (↑(cntValS a) : Int) else (-1 : Int))))] else I_laws_heldValS_2 a k (IntKind.wrap IntKind.i64 (IntKind.wrap IntKind.i64 (IntKind.wrap IntKind.i64 (y.1 + (1 : Int)) + (1 : Int)) + (1 : Int)), IntKind.wrap IntKind.i64 (y.2.1 + (1 : Int)), PUnit.unit) ∧ μ_laws_heldValS_2 a k (IntKind.wrap IntKind.i64 (IntKind.wrap IntKind.i64 (IntKind.wrap IntKind.i64 (y.1 + (1 : Int)) + (1 : Int)) + (1 : Int)), IntKind.wrap IntKind.i64 (y.2.1 + (1 : Int)), PUnit.unit) < μ_laws_heldValS_2 a k y else Lf [DV.one (Cell.lit (Value.int IntKind.i64 y.1))] [DV.one (Cell.lit (Value.int IntKind.i64 (if markValS a k = a then k + (↑(cntValS a) : Int) else (-1 : Int))))]) := by kernel_rfl
theorem ok_laws_heldValS : Holds EE (52, con_laws_heldValS) := by
  refine holds_of EE_ok Go.Proofs.Try.func52 con_laws_heldValS (by kernel_rfl) rfl use_laws_heldValS (all_cons ok_laws_markText all_nil) ann_laws_heldValS (fun x hp hb => ?_)
  obtain ⟨a, k⟩ := x
  have hb_a : BdDV (U := UU) (.one (.sl .eVal a)) := hb _ (List.mem_cons_self)
  have hl_a : a.length ≤ 9223372036854775807 := Bd.len hb_a
  have hb_k : BdDV (U := UU) (.one (.lit (.int .i64 k))) := hb _ (List.mem_cons_of_mem _ (List.mem_cons_self))
  have hl_k := Bd.i64 hb_k
  have hp0 : 0 ≤ k := hp _ (List.mem_cons_self)
  have hp1 : k + cntValS a ≤ 4611686018427387904 := hp _ (List.mem_cons_of_mem _ (List.mem_cons_self))
  clear hp hb
  rw [vc_laws_heldValS a k]
  refine ⟨⟨by omega, by omega, by simp [ctS], by simp⟩, ?_⟩
  rintro ⟨kk, i, ⟨⟩⟩ ⟨h1, h2, hkk, hR⟩
  simp only
  simp only [markValS]
  refine if_cond (fun hc => ?_) (fun hc => ?_)
  · have hc : i < a.length := by have hc := of_decide_eq_true hc; omega
    have hct := ctS_take cntVal a zVal h1 hc
    have hle := ctS_take_le cntVal a (i + 1).toNat
    have hq : (cntValS a : Int) = ctS cntVal a := rfl
    rw [drop_step a zVal h1 hc] at hR
    generalize List.getD a i.toNat zVal = x at *
    simp only [mkS, List.cons.injEq] at hR
    have e : kk + (cntVal x : Int) = kk + 1 + 1 + 1 := by simp only [cntVal]; omega
    rw [e] at hR
    simp only [markVal, cntVal] at hR hct
    simp (disch := omega) only [wrap_i64, bne_int, toList_beq]
    obtain ⟨x_K, x_N, x_S⟩ := x
    simp only [DVal.mk.injEq] at *
    repeat' (first | refine And.intro (by omega) ?_ | fail)
    refine if_cond (fun h => Lf_no (fun hh => ?_)) (fun h => ?_)
    · have hh := hR.2 hh; simp_all
    have h : x_K = kk := by simpa using h
    subst x_K
    repeat' (first | refine And.intro (by omega) ?_ | fail)
    refine if_cond (fun h => Lf_no (fun hh => ?_)) (fun h => ?_)
    · have hh := hR.2 hh; simp_all
    have h : x_N = kk + 1 := by simpa using h
    subst x_N
    repeat' (first | refine And.intro (by omega) ?_ | fail)
    refine if_cond (fun h => Lf_no (fun hh => ?_)) (fun h => ?_)
    · have hh := hR.2 hh; simp_all
    have h : x_S = markText (kk + 1 + 1) := by simpa using h
    subst x_S
    exact ⟨⟨by omega, by omega, by omega, by simpa using hR⟩, by simp only [μ_laws_heldValS_2]; omega⟩
  · have hc : a.length ≤ i := by have hc := of_decide_eq_false hc; omega
    rw [drop_end a hc] at hR
    exact Lf_yes (hR.1 rfl) (by rw [hkk, ct_done _ _ hc]; rfl)
def con_laws_szFact : Con UU where
  α := DFact × Int
  md := [.ro, .ro]
  of := fun | [.agg [.lit (.string a0), .sl .lVal a1], .one (.lit (.int .i64 a2))] => some (⟨a0, a1⟩, a2) | _ => none
  ds := fun (a, left) => [.agg [.lit (.string a.Kind), .sl .lVal a.Fields], .one (.lit (.int .i64 left))]
  pre := fun (a, left) => [0 ≤ left]
  res := fun (a, left) => ⟨[.one (.lit (.int .i64 (szr left (sizeFact a))))], true, []⟩
  law := by intro l x h; (try simp only at h); split at h <;> cases h; rfl
def ann_laws_szFact : con_laws_szFact.α → Nat → Option (Ann UU) := fun (a, left) => annL []
def use_laws_szFact : List (FuncId × Con UU) := [(71, con_laws_szValS)]
theorem vc_laws_szFact (a : DFact) (left : Int) : goal EE use_laws_szFact Go.Proofs.Try.f63 con_laws_szFact ann_laws_szFact (a, left) = (bif decide (IntKind.wrap IntKind.i64 (left - (↑(ByteArray.size (DFact.Kind a)) : Int)) < (0 : Int)) then Lf [DV.one (Cell.lit (Value.int IntKind.i64 (-1 : Int)))] [DV.one (Cell.lit (Value.int IntKind.i64 (szr left (sizeFact a))))] else (0 : Int) ≤ IntKind.wrap IntKind.i64 (left - (↑(ByteArray.size (DFact.Kind a)) : Int)) ∧ bif decide (szr (IntKind.wrap IntKind.i64 (left - (↑(ByteArray.size (DFact.Kind a)) : Int))) (sizeValS (DFact.Fields a)) < (0 : Int)) then Lf [DV.one (Cell.lit (Value.int IntKind.i64 (-1 : Int)))] [DV.one (Cell.lit (Value.int IntKind.i64 (szr left (sizeFact a))))] else Lf [DV.one (Cell.lit (Value.int IntKind.i64 (szr (IntKind.wrap IntKind.i64 (left - (↑(ByteArray.size (DFact.Kind a)) : Int))) (sizeValS (DFact.Fields a)))))] [DV.one (Cell.lit (Value.int IntKind.i64 (szr left (sizeFact a))))]) := by kernel_rfl
theorem ok_laws_szFact : Holds EE (63, con_laws_szFact) := by
  refine holds_of EE_ok Go.Proofs.Try.func63 con_laws_szFact (by kernel_rfl) rfl use_laws_szFact (all_cons ok_laws_szValS all_nil) ann_laws_szFact (fun x hp hb => ?_)
  obtain ⟨a, left⟩ := x
  have hb_a : BdDV (U := UU) (.agg [.lit (.string a.Kind), .sl .lVal a.Fields]) := hb _ (List.mem_cons_self)
  have hl_a_Kind : a.Kind.size ≤ 9223372036854775807 := Bd.str (hb_a _ (by simp))
  have hl_a_Fields : a.Fields.length ≤ 9223372036854775807 := Bd.len (U := UU) (τ := .lVal) (xs := a.Fields) (hb_a _ (by simp))
  have hb_left : BdDV (U := UU) (.one (.lit (.int .i64 left))) := hb _ (List.mem_cons_of_mem _ (List.mem_cons_self))
  have hl_left := Bd.i64 hb_left
  have hp0 : 0 ≤ left := hp _ (List.mem_cons_self)
  clear hp hb
  rw [vc_laws_szFact a left]
  rw [wrap_i64 (by omega) (by omega)]
  refine if_cond (fun h => Lf_i (szr_bad' ?_)) (fun h => ?_)
  · have h := of_decide_eq_true h; simp only [sizeFact]; omega
  have h0 := of_decide_eq_false h
  refine ⟨by omega, if_cond (fun h => Lf_i (szr_bad' ?_)) (fun h => ?_)⟩
  · have h := szr_neg h; simp only [sizeFact]; omega
  obtain ⟨e1, h1⟩ := szr_pos h
  rw [e1]
  exact Lf_i (by rw [← szr_ok' (by simp only [sizeFact]; omega)]; simp only [sizeFact]; try omega)
def con_laws_toFact : Con UU where
  α := DFact
  md := [.ro]
  of := fun | [.agg [.lit (.string a0), .sl .lVal a1]] => some ⟨a0, a1⟩ | _ => none
  ds := fun a => [.agg [.lit (.string a.Kind), .sl .lVal a.Fields]]
  pre := fun a => [sizeFact a ≤ 4294967296]
  res := fun a => ⟨[.agg [.lit (.string a.Kind), .sl .eVal a.Fields]], true, []⟩
  law := by intro l x h; (try simp only at h); split at h <;> cases h; rfl
def ann_laws_toFact : con_laws_toFact.α → Nat → Option (Ann UU) := fun a => annL []
def use_laws_toFact : List (FuncId × Con UU) := [(72, con_laws_toValS)]
theorem vc_laws_toFact (a : DFact) : goal EE use_laws_toFact Go.Proofs.Try.f64 con_laws_toFact ann_laws_toFact a = (sizeValS (DFact.Fields a) ≤ (4294967296 : Nat) ∧ Lf [DV.agg [Cell.lit (Value.string (DFact.Kind a)), Cell.sl Cd.eVal (DFact.Fields a)]] [DV.agg [Cell.lit (Value.string (DFact.Kind a)), Cell.sl Cd.eVal (DFact.Fields a)]]) := by kernel_rfl
theorem ok_laws_toFact : Holds EE (64, con_laws_toFact) := by
  refine holds_of EE_ok Go.Proofs.Try.func64 con_laws_toFact (by kernel_rfl) rfl use_laws_toFact (all_cons ok_laws_toValS all_nil) ann_laws_toFact (fun (a : DFact) hp hb => ?_)
  have hb_a : BdDV (U := UU) (.agg [.lit (.string a.Kind), .sl .lVal a.Fields]) := hb _ (List.mem_cons_self)
  have hl_a_Kind : a.Kind.size ≤ 9223372036854775807 := Bd.str (hb_a _ (by simp))
  have hl_a_Fields : a.Fields.length ≤ 9223372036854775807 := Bd.len (U := UU) (τ := .lVal) (xs := a.Fields) (hb_a _ (by simp))
  have hp0 : sizeFact a ≤ 4294967296 := hp _ (List.mem_cons_self)
  clear hp hb
  rw [vc_laws_toFact a]
  simp only [sizeFact] at hp0
  repeat' (first | exact Lf_rfl _ | (refine And.intro (by omega) ?_))
def con_laws_eqFact : Con UU where
  α := DFact × DFact
  md := [.ro, .ro]
  of := fun | [.agg [.lit (.string a0), .sl .eVal a1], .agg [.lit (.string a2), .sl .eVal a3]] => some (⟨a0, a1⟩, ⟨a2, a3⟩) | _ => none
  ds := fun (a, b) => [.agg [.lit (.string a.Kind), .sl .eVal a.Fields], .agg [.lit (.string b.Kind), .sl .eVal b.Fields]]
  pre := fun (a, b) => []
  res := fun (a, b) => ⟨[.one (.lit (.bool (decide (a = b))))], true, []⟩
  law := by intro l x h; (try simp only at h); split at h <;> cases h; rfl
def ann_laws_eqFact : con_laws_eqFact.α → Nat → Option (Ann UU) := fun (a, b) => annL []
def use_laws_eqFact : List (FuncId × Con UU) := [(49, con_laws_eqValS)]
theorem vc_laws_eqFact (a : DFact) (b : DFact) : goal EE use_laws_eqFact Go.Proofs.Try.f24 con_laws_eqFact ann_laws_eqFact (a, b) = (bif !ByteArray.toList (DFact.Kind a) == ByteArray.toList (DFact.Kind b) then Lf [DV.one (Cell.lit (Value.bool false))] [DV.one (Cell.lit (Value.bool (decide (a = b))))] else bif !decide (DFact.Fields a = DFact.Fields b) then Lf [DV.one (Cell.lit (Value.bool false))] [DV.one (Cell.lit (Value.bool (decide (a = b))))] else Lf [DV.one (Cell.lit (Value.bool true))] [DV.one (Cell.lit (Value.bool (decide (a = b))))]) := by kernel_rfl
theorem ok_laws_eqFact : Holds EE (24, con_laws_eqFact) := by
  refine holds_of EE_ok Go.Proofs.Try.func24 con_laws_eqFact (by kernel_rfl) rfl use_laws_eqFact (all_cons ok_laws_eqValS all_nil) ann_laws_eqFact (fun x hp hb => ?_)
  obtain ⟨a, b⟩ := x
  have hb_a : BdDV (U := UU) (.agg [.lit (.string a.Kind), .sl .eVal a.Fields]) := hb _ (List.mem_cons_self)
  have hl_a_Kind : a.Kind.size ≤ 9223372036854775807 := Bd.str (hb_a _ (by simp))
  have hl_a_Fields : a.Fields.length ≤ 9223372036854775807 := Bd.len (U := UU) (τ := .eVal) (xs := a.Fields) (hb_a _ (by simp))
  have hb_b : BdDV (U := UU) (.agg [.lit (.string b.Kind), .sl .eVal b.Fields]) := hb _ (List.mem_cons_of_mem _ (List.mem_cons_self))
  have hl_b_Kind : b.Kind.size ≤ 9223372036854775807 := Bd.str (hb_b _ (by simp))
  have hl_b_Fields : b.Fields.length ≤ 9223372036854775807 := Bd.len (U := UU) (τ := .eVal) (xs := b.Fields) (hb_b _ (by simp))
  clear hp hb
  rw [vc_laws_eqFact a b]
  obtain ⟨aKind, aFields⟩ := a
  obtain ⟨bKind, bFields⟩ := b
  repeat' (apply if_cond <;> intro _)
  all_goals (first | apply Lf_t | apply Lf_f) <;> simp_all
def con_laws_markFact : Con UU where
  α := DFact × Int
  md := [.wr, .ro]
  of := fun | [.agg [.lit (.string a0), .sl .eVal a1], .one (.lit (.int .i64 a2))] => some (⟨a0, a1⟩, a2) | _ => none
  ds := fun (a, k) => [.agg [.lit (.string a.Kind), .sl .eVal a.Fields], .one (.lit (.int .i64 k))]
  pre := fun (a, k) => [0 ≤ k, k + ctFact a ≤ 4611686018427387904]
  res := fun (a, k) => ⟨[.one (.lit (.int .i64 (k + ctFact a)))], true, [.agg [.lit (.string ((mkFact a k)).Kind), .sl .eVal ((mkFact a k)).Fields]]⟩
  law := by intro l x h; (try simp only at h); split at h <;> cases h; rfl
def ann_laws_markFact : con_laws_markFact.α → Nat → Option (Ann UU) := fun (a, k) => annL []
def use_laws_markFact : List (FuncId × Con UU) := [(51, con_laws_markValS)]
theorem vc_laws_markFact (a : DFact) (k : Int) : goal EE use_laws_markFact Go.Proofs.Try.f26 con_laws_markFact ann_laws_markFact (a, k) = ((0 : Int) ≤ k ∧ k + (↑(cntValS (DFact.Fields a)) : Int) ≤ (4611686018427387904 : Int) ∧ asD [DV.one (Cell.lit (Value.int IntKind.i64 (k + (↑(cntValS (DFact.Fields a)) : Int))))] = asD [DV.one (Cell.lit (Value.int IntKind.i64 (k + (↑(ctFact a) : Int))))] ∧ asD [DV.agg [Cell.lit (Value.string (DFact.Kind a)), Cell.sl Cd.eVal (markValS (DFact.Fields a) k)]] = asD [DV.agg [Cell.lit (Value.string (DFact.Kind (mkFact a k))), Cell.sl Cd.eVal (DFact.Fields (mkFact a k))]]) := by kernel_rfl
theorem ok_laws_markFact : Holds EE (26, con_laws_markFact) := by
  refine holds_of EE_ok Go.Proofs.Try.func26 con_laws_markFact (by kernel_rfl) rfl use_laws_markFact (all_cons ok_laws_markValS all_nil) ann_laws_markFact (fun x hp hb => ?_)
  obtain ⟨a, k⟩ := x
  have hb_a : BdDV (U := UU) (.agg [.lit (.string a.Kind), .sl .eVal a.Fields]) := hb _ (List.mem_cons_self)
  have hl_a_Kind : a.Kind.size ≤ 9223372036854775807 := Bd.str (hb_a _ (by simp))
  have hl_a_Fields : a.Fields.length ≤ 9223372036854775807 := Bd.len (U := UU) (τ := .eVal) (xs := a.Fields) (hb_a _ (by simp))
  have hb_k : BdDV (U := UU) (.one (.lit (.int .i64 k))) := hb _ (List.mem_cons_of_mem _ (List.mem_cons_self))
  have hl_k := Bd.i64 hb_k
  have hp0 : 0 ≤ k := hp _ (List.mem_cons_self)
  have hp1 : k + ctFact a ≤ 4611686018427387904 := hp _ (List.mem_cons_of_mem _ (List.mem_cons_self))
  clear hp hb
  rw [vc_laws_markFact a k]
  simp only [ctFact] at hp1
  repeat' (first | refine And.intro (by omega) ?_ | fail)
  exact ⟨by simp only [ctFact, Int.natCast_add, Int.add_assoc], rfl⟩
def con_laws_heldFact : Con UU where
  α := DFact × Int
  md := [.ro, .ro]
  of := fun | [.agg [.lit (.string a0), .sl .eVal a1], .one (.lit (.int .i64 a2))] => some (⟨a0, a1⟩, a2) | _ => none
  ds := fun (a, k) => [.agg [.lit (.string a.Kind), .sl .eVal a.Fields], .one (.lit (.int .i64 k))]
  pre := fun (a, k) => [0 ≤ k, k + ctFact a ≤ 4611686018427387904]
  res := fun (a, k) => ⟨[.one (.lit (.int .i64 (if mkFact a k = a then k + ctFact a else -1)))], true, []⟩
  law := by intro l x h; (try simp only at h); split at h <;> cases h; rfl
def ann_laws_heldFact : con_laws_heldFact.α → Nat → Option (Ann UU) := fun (a, k) => annL []
def use_laws_heldFact : List (FuncId × Con UU) := [(52, con_laws_heldValS)]
theorem vc_laws_heldFact (a : DFact) (k : Int) : goal EE use_laws_heldFact Go.Proofs.Try.f27 con_laws_heldFact ann_laws_heldFact (a, k) = ((0 : Int) ≤ k ∧ k + (↑(cntValS (DFact.Fields a)) : Int) ≤ (4611686018427387904 : Int) ∧ bif decide ((if markValS (DFact.Fields a) k = DFact.Fields a then k + (↑(cntValS (DFact.Fields a)) : Int) else (-1 : Int)) < (0 : Int)) then Lf [DV.one (Cell.lit (Value.int IntKind.i64 (-1 : Int)))] [DV.one (Cell.lit (Value.int IntKind.i64 (if mkFact a k = a then k + (↑(ctFact a) : Int) else (-1 : Int))))] else Lf [DV.one (Cell.lit (Value.int IntKind.i64 (if markValS (DFact.Fields a) k = DFact.Fields a then k + (↑(cntValS (DFact.Fields a)) : Int) else (-1 : Int))))] [DV.one (Cell.lit (Value.int IntKind.i64 (if mkFact a k = a then k + (↑(ctFact a) : Int) else (-1 : Int))))]) := by kernel_rfl
theorem ok_laws_heldFact : Holds EE (27, con_laws_heldFact) := by
  refine holds_of EE_ok Go.Proofs.Try.func27 con_laws_heldFact (by kernel_rfl) rfl use_laws_heldFact (all_cons ok_laws_heldValS all_nil) ann_laws_heldFact (fun x hp hb => ?_)
  obtain ⟨a, k⟩ := x
  have hb_a : BdDV (U := UU) (.agg [.lit (.string a.Kind), .sl .eVal a.Fields]) := hb _ (List.mem_cons_self)
  have hl_a_Kind : a.Kind.size ≤ 9223372036854775807 := Bd.str (hb_a _ (by simp))
  have hl_a_Fields : a.Fields.length ≤ 9223372036854775807 := Bd.len (U := UU) (τ := .eVal) (xs := a.Fields) (hb_a _ (by simp))
  have hb_k : BdDV (U := UU) (.one (.lit (.int .i64 k))) := hb _ (List.mem_cons_of_mem _ (List.mem_cons_self))
  have hl_k := Bd.i64 hb_k
  have hp0 : 0 ≤ k := hp _ (List.mem_cons_self)
  have hp1 : k + ctFact a ≤ 4611686018427387904 := hp _ (List.mem_cons_of_mem _ (List.mem_cons_self))
  clear hp hb
  rw [vc_laws_heldFact a k]
  simp only [ctFact] at hp1
  repeat' (first | refine And.intro (by omega) ?_ | fail)
  by_cases hm1 : markValS a.Fields (k) = a.Fields
  rotate_left
  · simp only [if_neg hm1]; rw [cond_yes (by decide)]
    exact Lf_no (fun hh => hm1 (by have hh := congrArg (fun t : DFact => t.Fields) hh; simpa only [mkFact] using hh))
  simp only [if_pos hm1]
  refine if_cond (fun h => absurd (of_decide_eq_true h) (by omega)) (fun h => ?_)
  exact Lf_yes (by simp only [mkFact, hm1]) (by simp only [ctFact]; try omega)
def con_laws_szTimer : Con UU where
  α := DTimer × Int
  md := [.ro, .ro]
  of := fun | [.agg [.lit (.int .i64 a0), .lit (.string a1), .sl .lVal a2], .one (.lit (.int .i64 a3))] => some (⟨a0, ⟨a1, a2⟩⟩, a3) | _ => none
  ds := fun (a, left) => [.agg [.lit (.int .i64 a.At), .lit (.string a.F.Kind), .sl .lVal a.F.Fields], .one (.lit (.int .i64 left))]
  pre := fun (a, left) => [0 ≤ left]
  res := fun (a, left) => ⟨[.one (.lit (.int .i64 (szr left (sizeTimer a))))], true, []⟩
  law := by intro l x h; (try simp only at h); split at h <;> cases h; rfl
def ann_laws_szTimer : con_laws_szTimer.α → Nat → Option (Ann UU) := fun (a, left) => annL []
def use_laws_szTimer : List (FuncId × Con UU) := [(63, con_laws_szFact)]
theorem vc_laws_szTimer (a : DTimer) (left : Int) : goal EE use_laws_szTimer Go.Proofs.Try.f53 con_laws_szTimer ann_laws_szTimer (a, left) = ((0 : Int) ≤ left ∧ bif decide (szr left (sizeFact (DTimer.F a)) < (0 : Int)) then Lf [DV.one (Cell.lit (Value.int IntKind.i64 (-1 : Int)))] [DV.one (Cell.lit (Value.int IntKind.i64 (szr left (sizeTimer a))))] else Lf [DV.one (Cell.lit (Value.int IntKind.i64 (szr left (sizeFact (DTimer.F a)))))] [DV.one (Cell.lit (Value.int IntKind.i64 (szr left (sizeTimer a))))]) := by kernel_rfl
theorem ok_laws_szTimer : Holds EE (53, con_laws_szTimer) := by
  refine holds_of EE_ok Go.Proofs.Try.func53 con_laws_szTimer (by kernel_rfl) rfl use_laws_szTimer (all_cons ok_laws_szFact all_nil) ann_laws_szTimer (fun x hp hb => ?_)
  obtain ⟨a, left⟩ := x
  have hb_a : BdDV (U := UU) (.agg [.lit (.int .i64 a.At), .lit (.string a.F.Kind), .sl .lVal a.F.Fields]) := hb _ (List.mem_cons_self)
  have hl_a_F_Kind : a.F.Kind.size ≤ 9223372036854775807 := Bd.str (hb_a _ (by simp))
  have hl_a_F_Fields : a.F.Fields.length ≤ 9223372036854775807 := Bd.len (U := UU) (τ := .lVal) (xs := a.F.Fields) (hb_a _ (by simp))
  have hb_left : BdDV (U := UU) (.one (.lit (.int .i64 left))) := hb _ (List.mem_cons_of_mem _ (List.mem_cons_self))
  have hl_left := Bd.i64 hb_left
  have hp0 : 0 ≤ left := hp _ (List.mem_cons_self)
  clear hp hb
  rw [vc_laws_szTimer a left]
  refine ⟨by omega, if_cond (fun h => Lf_i (szr_bad' ?_)) (fun h => ?_)⟩
  · have h := szr_neg h; simp only [sizeTimer]; omega
  obtain ⟨e0, h0⟩ := szr_pos h
  rw [e0]
  exact Lf_i (by rw [← szr_ok' (by simp only [sizeTimer]; omega)]; simp only [sizeTimer]; try omega)
def con_laws_toTimer : Con UU where
  α := DTimer
  md := [.ro]
  of := fun | [.agg [.lit (.int .i64 a0), .lit (.string a1), .sl .lVal a2]] => some ⟨a0, ⟨a1, a2⟩⟩ | _ => none
  ds := fun a => [.agg [.lit (.int .i64 a.At), .lit (.string a.F.Kind), .sl .lVal a.F.Fields]]
  pre := fun a => [sizeTimer a ≤ 4294967296]
  res := fun a => ⟨[.agg [.lit (.int .i64 a.At), .lit (.string a.F.Kind), .sl .eVal a.F.Fields]], true, []⟩
  law := by intro l x h; (try simp only at h); split at h <;> cases h; rfl
def ann_laws_toTimer : con_laws_toTimer.α → Nat → Option (Ann UU) := fun a => annL []
def use_laws_toTimer : List (FuncId × Con UU) := [(64, con_laws_toFact)]
theorem vc_laws_toTimer (a : DTimer) : goal EE use_laws_toTimer Go.Proofs.Try.f55 con_laws_toTimer ann_laws_toTimer a = (sizeFact (DTimer.F a) ≤ (4294967296 : Nat) ∧ Lf [DV.agg [Cell.lit (Value.int IntKind.i64 (DTimer.At a)), Cell.lit (Value.string (DFact.Kind (DTimer.F a))), Cell.sl Cd.eVal (DFact.Fields (DTimer.F a))]] [DV.agg [Cell.lit (Value.int IntKind.i64 (DTimer.At a)), Cell.lit (Value.string (DFact.Kind (DTimer.F a))), Cell.sl Cd.eVal (DFact.Fields (DTimer.F a))]]) := by kernel_rfl
theorem ok_laws_toTimer : Holds EE (55, con_laws_toTimer) := by
  refine holds_of EE_ok Go.Proofs.Try.func55 con_laws_toTimer (by kernel_rfl) rfl use_laws_toTimer (all_cons ok_laws_toFact all_nil) ann_laws_toTimer (fun (a : DTimer) hp hb => ?_)
  have hb_a : BdDV (U := UU) (.agg [.lit (.int .i64 a.At), .lit (.string a.F.Kind), .sl .lVal a.F.Fields]) := hb _ (List.mem_cons_self)
  have hl_a_F_Kind : a.F.Kind.size ≤ 9223372036854775807 := Bd.str (hb_a _ (by simp))
  have hl_a_F_Fields : a.F.Fields.length ≤ 9223372036854775807 := Bd.len (U := UU) (τ := .lVal) (xs := a.F.Fields) (hb_a _ (by simp))
  have hp0 : sizeTimer a ≤ 4294967296 := hp _ (List.mem_cons_self)
  clear hp hb
  rw [vc_laws_toTimer a]
  simp only [sizeTimer] at hp0
  repeat' (first | exact Lf_rfl _ | (refine And.intro (by omega) ?_))
def con_laws_eqTimer : Con UU where
  α := DTimer × DTimer
  md := [.ro, .ro]
  of := fun | [.agg [.lit (.int .i64 a0), .lit (.string a1), .sl .eVal a2], .agg [.lit (.int .i64 a3), .lit (.string a4), .sl .eVal a5]] => some (⟨a0, ⟨a1, a2⟩⟩, ⟨a3, ⟨a4, a5⟩⟩) | _ => none
  ds := fun (a, b) => [.agg [.lit (.int .i64 a.At), .lit (.string a.F.Kind), .sl .eVal a.F.Fields], .agg [.lit (.int .i64 b.At), .lit (.string b.F.Kind), .sl .eVal b.F.Fields]]
  pre := fun (a, b) => []
  res := fun (a, b) => ⟨[.one (.lit (.bool (decide (a = b))))], true, []⟩
  law := by intro l x h; (try simp only at h); split at h <;> cases h; rfl
def ann_laws_eqTimer : con_laws_eqTimer.α → Nat → Option (Ann UU) := fun (a, b) => annL []
def use_laws_eqTimer : List (FuncId × Con UU) := [(24, con_laws_eqFact)]
theorem vc_laws_eqTimer (a : DTimer) (b : DTimer) : goal EE use_laws_eqTimer Go.Proofs.Try.f57 con_laws_eqTimer ann_laws_eqTimer (a, b) = (bif DTimer.At a != DTimer.At b then Lf [DV.one (Cell.lit (Value.bool false))] [DV.one (Cell.lit (Value.bool (decide (a = b))))] else bif !decide (DTimer.F a = DTimer.F b) then Lf [DV.one (Cell.lit (Value.bool false))] [DV.one (Cell.lit (Value.bool (decide (a = b))))] else Lf [DV.one (Cell.lit (Value.bool true))] [DV.one (Cell.lit (Value.bool (decide (a = b))))]) := by kernel_rfl
theorem ok_laws_eqTimer : Holds EE (57, con_laws_eqTimer) := by
  refine holds_of EE_ok Go.Proofs.Try.func57 con_laws_eqTimer (by kernel_rfl) rfl use_laws_eqTimer (all_cons ok_laws_eqFact all_nil) ann_laws_eqTimer (fun x hp hb => ?_)
  obtain ⟨a, b⟩ := x
  have hb_a : BdDV (U := UU) (.agg [.lit (.int .i64 a.At), .lit (.string a.F.Kind), .sl .eVal a.F.Fields]) := hb _ (List.mem_cons_self)
  have hl_a_F_Kind : a.F.Kind.size ≤ 9223372036854775807 := Bd.str (hb_a _ (by simp))
  have hl_a_F_Fields : a.F.Fields.length ≤ 9223372036854775807 := Bd.len (U := UU) (τ := .eVal) (xs := a.F.Fields) (hb_a _ (by simp))
  have hb_b : BdDV (U := UU) (.agg [.lit (.int .i64 b.At), .lit (.string b.F.Kind), .sl .eVal b.F.Fields]) := hb _ (List.mem_cons_of_mem _ (List.mem_cons_self))
  have hl_b_F_Kind : b.F.Kind.size ≤ 9223372036854775807 := Bd.str (hb_b _ (by simp))
  have hl_b_F_Fields : b.F.Fields.length ≤ 9223372036854775807 := Bd.len (U := UU) (τ := .eVal) (xs := b.F.Fields) (hb_b _ (by simp))
  clear hp hb
  rw [vc_laws_eqTimer a b]
  obtain ⟨aAt, aF⟩ := a
  obtain ⟨bAt, bF⟩ := b
  repeat' (apply if_cond <;> intro _)
  all_goals (first | apply Lf_t | apply Lf_f) <;> simp_all
def con_laws_szTimerS : Con UU where
  α := (List DTimer) × Int
  md := [.ro, .ro]
  of := fun | [.one (.sl .lTimer a0), .one (.lit (.int .i64 a1))] => some (a0, a1) | _ => none
  ds := fun (a, left) => [.one (.sl .lTimer a), .one (.lit (.int .i64 left))]
  pre := fun (a, left) => [0 ≤ left]
  res := fun (a, left) => ⟨[.one (.lit (.int .i64 (szr left (sizeTimerS a))))], true, []⟩
  law := by intro l x h; (try simp only at h); split at h <;> cases h; rfl
def I_laws_szTimerS_5 (a : (List DTimer)) (left : Int) : Int × Int × Unit → Prop := fun (lf, i, _) => 0 ≤ lf ∧ 0 ≤ i ∧ i ≤ a.length ∧ szr lf ((a.drop i.toNat).map sizeTimer).sum = szr left (sizeTimerS a)
def μ_laws_szTimerS_5 (a : (List DTimer)) (left : Int) : Int × Int × Unit → Nat := fun (lf, i, _) => a.length - i.toNat
def ann_laws_szTimerS : con_laws_szTimerS.α → Nat → Option (Ann UU) := fun (a, left) => annL [(5, annOf [.slot 1 (1, 1024) (.lit (.int .i64)), .slot 5 (5, 1024) (.lit (.int .i64))] (I_laws_szTimerS_5 a left) (μ_laws_szTimerS_5 a left))]
def use_laws_szTimerS : List (FuncId × Con UU) := [(53, con_laws_szTimer)]
theorem vc_laws_szTimerS (a : (List DTimer)) (left : Int) : goal EE use_laws_szTimerS Go.Proofs.Try.f28 con_laws_szTimerS ann_laws_szTimerS (a, left) = (bif decide (IntKind.wrap IntKind.i64 (left - (↑(List.length a) : Int)) < (0 : Int)) then Lf [DV.one (Cell.lit (Value.int IntKind.i64 (-1 : Int)))] [DV.one (Cell.lit (Value.int IntKind.i64 (szr left (sizeTimerS a))))] else I_laws_szTimerS_5 a left (IntKind.wrap IntKind.i64 (left - (↑(List.length a) : Int)), (0 : Int), PUnit.unit) ∧ ∀ (y : Int × Int × PUnit), I_laws_szTimerS_5 a left y → bif decide (y.2.1 < (↑(List.length a) : Int)) then (0 : Int) ≤ y.2.1 ∧ Int.toNat y.2.1 < List.length a ∧ (0 : Int) ≤ y.1 ∧ bif decide (szr y.1 (sizeTimer (List.getD a (Int.toNat y.2.1) zTimer)) < (0 : Int)) then Lf [DV.one (Cell.lit (Value.int IntKind.i64 (-1 : Int)))] [DV.one (Cell.lit (Value.int IntKind.i64 (szr left (sizeTimerS a))))] else I_laws_szTimerS_5 a left (szr y.1 (sizeTimer (List.getD a (Int.toNat y.2.1) zTimer)), IntKind.wrap IntKind.i64 (y.2.1 + (1 : Int)), PUnit.unit) ∧ μ_laws_szTimerS_5 a left (szr y.1 (sizeTimer (List.getD a (Int.toNat y.2.1) zTimer)), IntKind.wrap IntKind.i64 (y.2.1 + (1 : Int)), PUnit.unit) < μ_laws_szTimerS_5 a left y else Lf [DV.one (Cell.lit (Value.int IntKind.i64 y.1))] [DV.one (Cell.lit (Value.int IntKind.i64 (szr left (sizeTimerS a))))]) := by kernel_rfl
theorem ok_laws_szTimerS : Holds EE (28, con_laws_szTimerS) := by
  refine holds_of EE_ok Go.Proofs.Try.func28 con_laws_szTimerS (by kernel_rfl) rfl use_laws_szTimerS (all_cons ok_laws_szTimer all_nil) ann_laws_szTimerS (fun x hp hb => ?_)
  obtain ⟨a, left⟩ := x
  have hb_a : BdDV (U := UU) (.one (.sl .lTimer a)) := hb _ (List.mem_cons_self)
  have hl_a : a.length ≤ 9223372036854775807 := Bd.len hb_a
  have hb_left : BdDV (U := UU) (.one (.lit (.int .i64 left))) := hb _ (List.mem_cons_of_mem _ (List.mem_cons_self))
  have hl_left := Bd.i64 hb_left
  have hp0 : 0 ≤ left := hp _ (List.mem_cons_self)
  clear hp hb
  rw [vc_laws_szTimerS a left]
  rw [wrap_i64 (by omega) (by omega)]
  refine if_cond (fun h => Lf_i ?_) (fun h => ⟨?_, ?_⟩)
  · simp [szr, sizeTimerS] at *; omega
  · simp only [I_laws_szTimerS_5, sizeTimerS]; simp at h; have h' : 0 ≤ left - a.length := by omega
    exact ⟨h', by omega, by omega, szr_sub h'⟩
  rintro ⟨lf, i, ⟨⟩⟩ ⟨h0, h1, h2, hR⟩
  refine if_cond (fun hc => ?_) (fun hc => ?_)
  · have hc : i < a.length := by simpa using hc
    rw [drop_step a zTimer h1 hc, List.map_cons, List.sum_cons] at hR
    simp only at *
    rw [wrap_i64 (by omega) (by omega)]
    generalize List.getD a i.toNat zTimer = x at *
    refine ⟨by omega, by omega, by omega, if_cond (fun h => Lf_i ?_) (fun h => ⟨⟨?_, by omega, by omega, ?_⟩, ?_⟩)⟩
    · rw [← hR]; exact (szr_bad (of_decide_eq_true h)).symm
    · simp at h; omega
    · rw [← hR]; simp at h; exact szr_szr h
    · simp only [μ_laws_szTimerS_5]; omega
  · have hc : a.length ≤ i := by simpa using hc
    rw [drop_end a hc] at hR
    apply Lf_i; rw [← hR]; simp [szr, h0]
def con_laws_toTimerS : Con UU where
  α := (List DTimer)
  md := [.ro]
  of := fun | [.one (.sl .lTimer a0)] => some a0 | _ => none
  ds := fun a => [.one (.sl .lTimer a)]
  pre := fun a => [sizeTimerS a ≤ 4294967296]
  res := fun a => ⟨[.one (.sl .eTimer a)], true, []⟩
  law := by intro l x h; (try simp only at h); split at h <;> cases h; rfl
def I_laws_toTimerS_3 (a : (List DTimer)) : List DTimer × Int × Unit → Prop := fun (out, i, _) => 0 ≤ i ∧ i ≤ a.length ∧ out = a.take i.toNat ++ List.replicate (a.length - i.toNat) zTimer
def μ_laws_toTimerS_3 (a : (List DTimer)) : List DTimer × Int × Unit → Nat := fun (out, i, _) => a.length - i.toNat
def ann_laws_toTimerS : con_laws_toTimerS.α → Nat → Option (Ann UU) := fun a => annL [(3, annOf [.slot 3 (3, 1024) (.own .eTimer true), .slot 4 (4, 1024) (.lit (.int .i64))] (I_laws_toTimerS_3 a) (μ_laws_toTimerS_3 a))]
def use_laws_toTimerS : List (FuncId × Con UU) := [(55, con_laws_toTimer)]
theorem vc_laws_toTimerS (a : (List DTimer)) : goal EE use_laws_toTimerS Go.Proofs.Try.f30 con_laws_toTimerS ann_laws_toTimerS a = ((0 : Int) ≤ (↑(List.length a) : Int) ∧ (↑(List.length a) : Int) = (↑(List.length a) : Int) ∧ (↑(List.length a) : Int) ≤ (4294967296 : Int) ∧ I_laws_toTimerS_3 a (List.replicate (Int.toNat (↑(List.length a) : Int)) zTimer, (0 : Int), PUnit.unit) ∧ ∀ (y : List DTimer × Int × PUnit), I_laws_toTimerS_3 a y → bif decide (y.2.1 < (↑(List.length a) : Int)) then (0 : Int) ≤ y.2.1 ∧ Int.toNat y.2.1 < List.length a ∧ sizeTimer (List.getD a (Int.toNat y.2.1) zTimer) ≤ (4294967296 : Nat) ∧ (0 : Int) ≤ y.2.1 ∧ Int.toNat y.2.1 < List.length y.1 ∧ Int.toNat y.2.1 < List.length y.1 ∧ I_laws_toTimerS_3 a (List.set y.1 (Int.toNat y.2.1) (List.getD a (Int.toNat y.2.1) zTimer), IntKind.wrap IntKind.i64 (y.2.1 + (1 : Int)), PUnit.unit) ∧ μ_laws_toTimerS_3 a (List.set y.1 (Int.toNat y.2.1) (List.getD a (Int.toNat y.2.1) zTimer), IntKind.wrap IntKind.i64 (y.2.1 + (1 : Int)), PUnit.unit) < μ_laws_toTimerS_3 a y else Lf [DV.one (Cell.sl Cd.eTimer y.1)] [DV.one (Cell.sl Cd.eTimer a)]) := by kernel_rfl
theorem ok_laws_toTimerS : Holds EE (30, con_laws_toTimerS) := by
  refine holds_of EE_ok Go.Proofs.Try.func30 con_laws_toTimerS (by kernel_rfl) rfl use_laws_toTimerS (all_cons ok_laws_toTimer all_nil) ann_laws_toTimerS (fun (a : (List DTimer)) hp hb => ?_)
  have hb_a : BdDV (U := UU) (.one (.sl .lTimer a)) := hb _ (List.mem_cons_self)
  have hl_a : a.length ≤ 9223372036854775807 := Bd.len hb_a
  have hp0 : sizeTimerS a ≤ 4294967296 := hp _ (List.mem_cons_self)
  clear hp hb
  rw [vc_laws_toTimerS a]
  have hlen : a.length ≤ 4294967296 := by simp only [sizeTimerS] at hp0; omega
  refine ⟨by omega, rfl, by omega, ?_, ?_⟩
  · simp [I_laws_toTimerS_3]
  rintro ⟨out, i, ⟨⟩⟩ ⟨h1, h2, rfl⟩
  simp only at *
  refine if_cond (fun hc => ?_) (fun hc => ?_)
  · have hc : i < a.length := by simpa using hc
    rw [wrap_i64 (by omega) (by omega), set_fill a zTimer h1 hc]
    exact ⟨h1, by omega, by exact Nat.le_trans (sum_getD_le sizeTimer a zTimer h1 hc) (by simp only [sizeTimerS] at hp0; omega), h1, by simp; omega, by simp; omega, ⟨by omega, by omega, rfl⟩, by simp only [μ_laws_toTimerS_3]; omega⟩
  · have hc : a.length ≤ i := by simpa using hc
    have e : i.toNat = a.length := by omega
    rw [e]; simp; exact Lf_rfl _
def con_laws_eqTimerS : Con UU where
  α := (List DTimer) × (List DTimer)
  md := [.ro, .ro]
  of := fun | [.one (.sl .eTimer a0), .one (.sl .eTimer a1)] => some (a0, a1) | _ => none
  ds := fun (a, b) => [.one (.sl .eTimer a), .one (.sl .eTimer b)]
  pre := fun (a, b) => []
  res := fun (a, b) => ⟨[.one (.lit (.bool (decide (a = b))))], true, []⟩
  law := by intro l x h; (try simp only at h); split at h <;> cases h; rfl
def I_laws_eqTimerS_4 (a : (List DTimer)) (b : (List DTimer)) : Int × Unit → Prop := fun (i, _) => 0 ≤ i ∧ i ≤ a.length ∧ a.length = b.length ∧ (a.drop i.toNat = b.drop i.toNat ↔ a = b)
def μ_laws_eqTimerS_4 (a : (List DTimer)) (b : (List DTimer)) : Int × Unit → Nat := fun (i, _) => a.length - i.toNat
def ann_laws_eqTimerS : con_laws_eqTimerS.α → Nat → Option (Ann UU) := fun (a, b) => annL [(4, annOf [.slot 5 (5, 1024) (.lit (.int .i64))] (I_laws_eqTimerS_4 a b) (μ_laws_eqTimerS_4 a b))]
def use_laws_eqTimerS : List (FuncId × Con UU) := [(57, con_laws_eqTimer)]
theorem vc_laws_eqTimerS (a : (List DTimer)) (b : (List DTimer)) : goal EE use_laws_eqTimerS Go.Proofs.Try.f32 con_laws_eqTimerS ann_laws_eqTimerS (a, b) = (bif (↑(List.length a) : Int) != (↑(List.length b) : Int) then Lf [DV.one (Cell.lit (Value.bool false))] [DV.one (Cell.lit (Value.bool (decide (a = b))))] else I_laws_eqTimerS_4 a b ((0 : Int), PUnit.unit) ∧ ∀ (y : Int × PUnit), I_laws_eqTimerS_4 a b y → bif decide (y.1 < (↑(List.length a) : Int)) then (0 : Int) ≤ y.1 ∧ Int.toNat y.1 < List.length a ∧ (0 : Int) ≤ y.1 ∧ Int.toNat y.1 < List.length b ∧ bif !decide (List.getD a (Int.toNat y.1) zTimer = List.getD b (Int.toNat y.1) zTimer) then Lf [DV.one (Cell.lit (Value.bool false))] [DV.one (Cell.lit (Value.bool (decide (a = b))))] else I_laws_eqTimerS_4 a b (IntKind.wrap IntKind.i64 (y.1 + (1 : Int)), PUnit.unit) ∧ μ_laws_eqTimerS_4 a b (IntKind.wrap IntKind.i64 (y.1 + (1 : Int)), PUnit.unit) < μ_laws_eqTimerS_4 a b y else Lf [DV.one (Cell.lit (Value.bool true))] [DV.one (Cell.lit (Value.bool (decide (a = b))))]) := by kernel_rfl
theorem ok_laws_eqTimerS : Holds EE (32, con_laws_eqTimerS) := by
  refine holds_of EE_ok Go.Proofs.Try.func32 con_laws_eqTimerS (by kernel_rfl) rfl use_laws_eqTimerS (all_cons ok_laws_eqTimer all_nil) ann_laws_eqTimerS (fun x hp hb => ?_)
  obtain ⟨a, b⟩ := x
  have hb_a : BdDV (U := UU) (.one (.sl .eTimer a)) := hb _ (List.mem_cons_self)
  have hl_a : a.length ≤ 9223372036854775807 := Bd.len hb_a
  have hb_b : BdDV (U := UU) (.one (.sl .eTimer b)) := hb _ (List.mem_cons_of_mem _ (List.mem_cons_self))
  have hl_b : b.length ≤ 9223372036854775807 := Bd.len hb_b
  clear hp hb
  rw [vc_laws_eqTimerS a b]
  refine if_cond (fun h => Lf_f ?_) (fun h => ⟨?_, ?_⟩)
  · rintro rfl; simp at h
  · simp [I_laws_eqTimerS_4] at *; omega
  rintro ⟨i, ⟨⟩⟩ ⟨h1, h2, h3, hR⟩
  simp only at *
  refine if_cond (fun hc => ?_) (fun hc => ?_)
  · have hc : i < a.length := by simpa using hc
    rw [drop_step a zTimer h1 hc, drop_step b zTimer h1 (by omega)] at hR
    rw [wrap_i64 (by omega) (by omega)]
    refine ⟨by omega, by omega, by omega, by omega, if_cond (fun h => Lf_f ?_) (fun h => ⟨⟨by omega, by omega, h3, ?_⟩, ?_⟩)⟩
    · rw [← hR]; simp at h; simp [h]
    · rw [← hR]; simp at h; simp [h]
    · simp only [μ_laws_eqTimerS_4]; omega
  · have hc : a.length ≤ i := by simpa using hc
    rw [drop_end a hc, drop_end b (by omega)] at hR
    exact Lf_t (hR.1 rfl)
def con_laws_markTimerS : Con UU where
  α := (List DTimer) × Int
  md := [.wr, .ro]
  of := fun | [.one (.sl .eTimer a0), .one (.lit (.int .i64 a1))] => some (a0, a1) | _ => none
  ds := fun (a, k) => [.one (.sl .eTimer a), .one (.lit (.int .i64 k))]
  pre := fun (a, k) => [0 ≤ k, k + cntTimerS a ≤ 4611686018427387904]
  res := fun (a, k) => ⟨[.one (.lit (.int .i64 (k + cntTimerS a)))], true, [.one (.sl .eTimer (markTimerS a k))]⟩
  law := by intro l x h; (try simp only at h); split at h <;> cases h; rfl
def I_laws_markTimerS_2 (a : (List DTimer)) (k : Int) : List DTimer × Int × Int × Unit → Prop := fun (row, kk, i, _) => 0 ≤ i ∧ i ≤ a.length ∧ row = (mkS markTimer cntTimer a k).take i.toNat ++ a.drop i.toNat ∧ kk = k + ctS cntTimer (a.take i.toNat)
def μ_laws_markTimerS_2 (a : (List DTimer)) (k : Int) : List DTimer × Int × Int × Unit → Nat := fun (row, kk, i, _) => a.length - i.toNat
def ann_laws_markTimerS : con_laws_markTimerS.α → Nat → Option (Ann UU) := fun (a, k) => annL [(2, annOf [.slot 0 (2000000, 0) (.own .eTimer true), .slot 1 (1, 1024) (.lit (.int .i64)), .slot 5 (5, 1024) (.lit (.int .i64))] (I_laws_markTimerS_2 a k) (μ_laws_markTimerS_2 a k))]
def use_laws_markTimerS : List (FuncId × Con UU) := [(50, con_laws_markText), (51, con_laws_markValS)]
theorem vc_laws_markTimerS (a : (List DTimer)) (k : Int) : goal EE use_laws_markTimerS Go.Proofs.Try.f38 con_laws_markTimerS ann_laws_markTimerS (a, k) = (I_laws_markTimerS_2 a k (a, k, (0 : Int), PUnit.unit) ∧ ∀ (y : List DTimer × Int × Int × PUnit), I_laws_markTimerS_2 a k y → bif decide (y.2.2.1 < (↑(List.length y.1) : Int)) then (0 : Int) ≤ y.2.2.1 ∧ Int.toNat y.2.2.1 < List.length y.1 ∧ Int.toNat y.2.2.1 < List.length y.1 ∧ IntKind.wrap IntKind.i64 (y.2.1 + (1 : Int)) ≤ (4611686018427387903 : Int) ∧ (0 : Int) ≤ y.2.2.1 ∧ Int.toNat y.2.2.1 < List.length (List.modify y.1 (Int.toNat y.2.2.1) fun (x : DTimer) => { At := y.2.1, F := DTimer.F x }) ∧ Int.toNat y.2.2.1 < List.length (List.modify y.1 (Int.toNat y.2.2.1) fun (x : DTimer) => { At := y.2.1, F := DTimer.F x }) ∧ (0 : Int) ≤ y.2.2.1 ∧ Int.toNat y.2.2.1 < List.length (List.modify (List.modify y.1 (Int.toNat y.2.2.1) fun (x : DTimer) => { At := y.2.1, F := DTimer.F x }) (Int.toNat y.2.2.1) fun (x : DTimer) => { At := DTimer.At x, F := { Kind := markText (IntKind.wrap IntKind.i64 (y.2.1 + (1 : Int))), Fields := DFact.Fields (DTimer.F x) } }) ∧ Int.toNat y.2.2.1 < List.length (List.modify (List.modify y.1 (Int.toNat y.2.2.1) fun (x : DTimer) => { At := y.2.1, F := DTimer.F x }) (Int.toNat y.2.2.1) fun (x : DTimer) => { At := DTimer.At x, F := { Kind := markText (IntKind.wrap IntKind.i64 (y.2.1 + (1 : Int))), Fields := DFact.Fields (DTimer.F x) } }) ∧ Int.toNat y.2.2.1 < List.length (List.modify (List.modify y.1 (Int.toNat y.2.2.1) fun (x : DTimer) => { At := y.2.1, F := DTimer.F x }) (Int.toNat y.2.2.1) fun (x : DTimer) => { At := DTimer.At x, F := { Kind := markText (IntKind.wrap IntKind.i64 (y.2.1 + (1 : Int))), Fields := DFact.Fields (DTimer.F x) } }) ∧ (0 : Int) ≤ IntKind.wrap IntKind.i64 (IntKind.wrap IntKind.i64 (y.2.1 + (1 : Int)) + (1 : Int)) ∧ IntKind.wrap IntKind.i64 (IntKind.wrap IntKind.i64 (y.2.1 + (1 : Int)) + (1 : Int)) + (↑(cntValS (DFact.Fields (DTimer.F (List.getD (List.modify (List.modify y.1 (Int.toNat y.2.2.1) fun (x : DTimer) => { At := y.2.1, F := DTimer.F x }) (Int.toNat y.2.2.1) fun (x : DTimer) => { At := DTimer.At x, F := { Kind := markText (IntKind.wrap IntKind.i64 (y.2.1 + (1 : Int))), Fields := DFact.Fields (DTimer.F x) } }) (Int.toNat y.2.2.1) zTimer)))) : Int) ≤ (4611686018427387904 : Int) ∧ I_laws_markTimerS_2 a k (List.modify (List.modify (List.modify y.1 (Int.toNat y.2.2.1) fun (x : DTimer) => { At := y.2.1, F := DTimer.F x }) (Int.toNat y.2.2.1) fun (x : DTimer) => { At := DTimer.At x, F := { Kind := markText (IntKind.wrap IntKind.i64 (y.2.1 + (1 : Int))), Fields := DFact.Fields (DTimer.F x) } }) (Int.toNat y.2.2.1) fun (x : DTimer) => { At := DTimer.At x, F := { Kind := DFact.Kind (DTimer.F x), Fields := markValS (DFact.Fields (DTimer.F (List.getD (List.modify (List.modify y.1 (Int.toNat y.2.2.1) fun (x : DTimer) => { At := y.2.1, F := DTimer.F x }) (Int.toNat y.2.2.1) fun (x : DTimer) => { At := DTimer.At x, F := { Kind := markText (IntKind.wrap IntKind.i64 (y.2.1 + (1 : Int))), Fields := DFact.Fields (DTimer.F x) } }) (Int.toNat y.2.2.1) zTimer))) (IntKind.wrap IntKind.i64 (IntKind.wrap IntKind.i64 (y.2.1 + (1 : Int)) + (1 : Int))) } }, IntKind.wrap IntKind.i64 (IntKind.wrap IntKind.i64 (y.2.1 + (1 : Int)) + (1 : Int)) + (↑(cntValS (DFact.Fields (DTimer.F (List.getD (List.modify (List.modify y.1 (Int.toNat y.2.2.1) fun (x : DTimer) => { At := y.2.1, F := DTimer.F x }) (Int.toNat y.2.2.1) fun (x : DTimer) => { At := DTimer.At x, F := { Kind := markText (IntKind.wrap IntKind.i64 (y.2.1 + (1 : Int))), Fields := DFact.Fields (DTimer.F x) } }) (Int.toNat y.2.2.1) zTimer)))) : Int), IntKind.wrap IntKind.i64 (y.2.2.1 + (1 : Int)), PUnit.unit) ∧ μ_laws_markTimerS_2 a k (List.modify (List.modify (List.modify y.1 (Int.toNat y.2.2.1) fun (x : DTimer) => { At := y.2.1, F := DTimer.F x }) (Int.toNat y.2.2.1) fun (x : DTimer) => { At := DTimer.At x, F := { Kind := markText (IntKind.wrap IntKind.i64 (y.2.1 + (1 : Int))), Fields := DFact.Fields (DTimer.F x) } }) (Int.toNat y.2.2.1) fun (x : DTimer) => { At := DTimer.At x, F := { Kind := DFact.Kind (DTimer.F x), Fields := markValS (DFact.Fields (DTimer.F (List.getD (List.modify (List.modify y.1 (Int.toNat y.2.2.1) fun (x : DTimer) => { At := y.2.1, F := DTimer.F x }) (Int.toNat y.2.2.1) fun (x : DTimer) => { At := DTimer.At x, F := { Kind := markText (IntKind.wrap IntKind.i64 (y.2.1 + (1 : Int))), Fields := DFact.Fields (DTimer.F x) } }) (Int.toNat y.2.2.1) zTimer))) (IntKind.wrap IntKind.i64 (IntKind.wrap IntKind.i64 (y.2.1 + (1 : Int)) + (1 : Int))) } }, IntKind.wrap IntKind.i64 (IntKind.wrap IntKind.i64 (y.2.1 + (1 : Int)) + (1 : Int)) + (↑(cntValS (DFact.Fields (DTimer.F (List.getD (List.modify (List.modify y.1 (Int.toNat y.2.2.1) fun (x : DTimer) => { At := y.2.1, F := DTimer.F x }) (Int.toNat y.2.2.1) fun (x : DTimer) => { At := DTimer.At x, F := { Kind := markText (IntKind.wrap IntKind.i64 (y.2.1 + (1 : Int))), Fields := DFact.Fields (DTimer.F x) } }) (Int.toNat y.2.2.1) zTimer)))) : Int), IntKind.wrap IntKind.i64 (y.2.2.1 + (1 : Int)), PUnit.unit) < μ_laws_markTimerS_2 a k y else asD [DV.one (Cell.lit (Value.int IntKind.i64 y.2.1))] = asD [DV.one (Cell.lit (Value.int IntKind.i64 (k + (↑(cntTimerS a) : Int))))] ∧ asD [DV.one (Cell.sl Cd.eTimer y.1)] = asD [DV.one (Cell.sl Cd.eTimer (markTimerS a k))]) := by kernel_rfl
theorem ok_laws_markTimerS : Holds EE (38, con_laws_markTimerS) := by
  refine holds_of EE_ok Go.Proofs.Try.func38 con_laws_markTimerS (by kernel_rfl) rfl use_laws_markTimerS (all_cons ok_laws_markText (all_cons ok_laws_markValS all_nil)) ann_laws_markTimerS (fun x hp hb => ?_)
  obtain ⟨a, k⟩ := x
  have hb_a : BdDV (U := UU) (.one (.sl .eTimer a)) := hb _ (List.mem_cons_self)
  have hl_a : a.length ≤ 9223372036854775807 := Bd.len hb_a
  have hb_k : BdDV (U := UU) (.one (.lit (.int .i64 k))) := hb _ (List.mem_cons_of_mem _ (List.mem_cons_self))
  have hl_k := Bd.i64 hb_k
  have hp0 : 0 ≤ k := hp _ (List.mem_cons_self)
  have hp1 : k + cntTimerS a ≤ 4611686018427387904 := hp _ (List.mem_cons_of_mem _ (List.mem_cons_self))
  clear hp hb
  rw [vc_laws_markTimerS a k]
  refine ⟨⟨by omega, by omega, by simp, by simp [ctS]⟩, ?_⟩
  rintro ⟨row, kk, i, ⟨⟩⟩ ⟨h1, h2, rfl, rfl⟩
  simp only
  have hl := mk_rl markTimer cntTimer a k h1 h2
  refine if_cond (fun hc => ?_) (fun hc => ?_)
  · have hc : i < a.length := by have hc := of_decide_eq_true hc; omega
    have hct := ctS_take cntTimer a zTimer h1 hc
    have hle := ctS_take_le cntTimer a (i + 1).toNat
    have hg := mk_getD _ a zTimer (mk_tl markTimer cntTimer a k h1 h2) h1 hc
    have hM := fun F hF => mkS_mod markTimer cntTimer a zTimer k (i := i) F h1 hc hF
    have hq : (cntTimerS a : Int) = ctS cntTimer a := rfl
    generalize List.getD a i.toNat zTimer = x at *
    generalize hkk : k + (ctS cntTimer (a.take i.toNat) : Int) = kk at *
    generalize List.take i.toNat (mkS markTimer cntTimer a k) ++ List.drop i.toNat a = R at *
    simp only [cntTimer] at hct
    simp (disch := first | omega | (simp only [List.length_modify]; omega)) only [List.length_modify, wrap_i64, getD_modify, modify_modify, hg, hl]
    repeat' (first | refine And.intro (by omega) ?_ | fail)
    exact ⟨⟨by omega, by omega, hM _ rfl, by omega⟩, by simp only [μ_laws_markTimerS_2]; omega⟩
  · have hc : a.length ≤ i := by have hc := of_decide_eq_false hc; omega
    rw [mk_done markTimer cntTimer a k hc, ct_done cntTimer a hc]
    exact ⟨rfl, rfl⟩
def con_laws_heldTimerS : Con UU where
  α := (List DTimer) × Int
  md := [.ro, .ro]
  of := fun | [.one (.sl .eTimer a0), .one (.lit (.int .i64 a1))] => some (a0, a1) | _ => none
  ds := fun (a, k) => [.one (.sl .eTimer a), .one (.lit (.int .i64 k))]
  pre := fun (a, k) => [0 ≤ k, k + cntTimerS a ≤ 4611686018427387904]
  res := fun (a, k) => ⟨[.one (.lit (.int .i64 (if markTimerS a k = a then k + cntTimerS a else -1)))], true, []⟩
  law := by intro l x h; (try simp only at h); split at h <;> cases h; rfl
def I_laws_heldTimerS_2 (a : (List DTimer)) (k : Int) : Int × Int × Unit → Prop := fun (kk, i, _) => 0 ≤ i ∧ i ≤ a.length ∧ kk = k + ctS cntTimer (a.take i.toNat) ∧ (mkS markTimer cntTimer (a.drop i.toNat) kk = a.drop i.toNat ↔ mkS markTimer cntTimer a k = a)
def μ_laws_heldTimerS_2 (a : (List DTimer)) (k : Int) : Int × Int × Unit → Nat := fun (kk, i, _) => a.length - i.toNat
def ann_laws_heldTimerS : con_laws_heldTimerS.α → Nat → Option (Ann UU) := fun (a, k) => annL [(2, annOf [.slot 1 (1, 1024) (.lit (.int .i64)), .slot 5 (5, 1024) (.lit (.int .i64))] (I_laws_heldTimerS_2 a k) (μ_laws_heldTimerS_2 a k))]
def use_laws_heldTimerS : List (FuncId × Con UU) := [(50, con_laws_markText), (52, con_laws_heldValS)]
theorem vc_laws_heldTimerS (a : (List DTimer)) (k : Int) : goal EE use_laws_heldTimerS Go.Proofs.Try.f39 con_laws_heldTimerS ann_laws_heldTimerS (a, k) = (I_laws_heldTimerS_2 a k (k, (0 : Int), PUnit.unit) ∧ ∀ (y : Int × Int × PUnit), I_laws_heldTimerS_2 a k y → bif decide (y.2.1 < (↑(List.length a) : Int)) then (0 : Int) ≤ y.2.1 ∧ Int.toNat y.2.1 < List.length a ∧ bif DTimer.At (List.getD a (Int.toNat y.2.1) zTimer) != y.1 then Lf [DV.one (Cell.lit (Value.int IntKind.i64 (-1 : Int)))] [DV.one (Cell.lit (Value.int IntKind.i64 (if markTimerS a k = a then k + (↑(cntTimerS a) : Int) else (-1 : Int))))] else (0 : Int) ≤ y.2.1 ∧ Int.toNat y.2.1 < List.length a ∧ IntKind.wrap IntKind.i64 (y.1 + (1 : Int)) ≤ (4611686018427387903 : Int) ∧ bif !ByteArray.toList (DFact.Kind (DTimer.F (List.getD a (Int.toNat y.2.1) zTimer))) == ByteArray.toList (markText (IntKind.wrap IntKind.i64 (y.1 + (1 : Int)))) then Lf [DV.one (Cell.lit (Value.int IntKind.i64 (-1 : Int)))] [DV.one (Cell.lit (Value.int IntKind.i64 (if markTimerS a k = a then k + (↑(cntTimerS a) : Int) else (-1 : Int))))] else (0 : Int) ≤ y.2.1 ∧ Int.toNat y.2.1 < List.length a ∧ (0 : Int) ≤ IntKind.wrap IntKind.i64 (IntKind.wrap IntKind.i64 (y.1 + (1 : Int)) + (1 : Int)) ∧ IntKind.wrap IntKind.i64 (IntKind.wrap IntKind.i64 (y.1 + (1 : Int)) + (1 : Int)) + (↑(cntValS (DFact.Fields (DTimer.F (List.getD a (Int.toNat y.2.1) zTimer)))) : Int) ≤ (4611686018427387904 : Int) ∧ bif decide ((if markValS (DFact.Fields (DTimer.F (List.getD a (Int.toNat y.2.1) zTimer))) (IntKind.wrap IntKind.i64 (IntKind.wrap IntKind.i64 (y.1 + (1 : Int)) + (1 : Int))) = DFact.Fields (DTimer.F (List.getD a (Int.toNat y.2.1) zTimer)) then IntKind.wrap IntKind.i64 (IntKind.wrap IntKind.i64 (y.1 + (1 : Int)) + (1 : Int)) + (↑(cntValS (DFact.Fields (DTimer.F (List.getD a (Int.toNat y.2.1) zTimer)))) : Int) else (-1 : Int)) < (0 : Int)) then Lf [DV.one (Cell.lit (Value.int IntKind.i64 (-1 : Int)))] [DV.one (Cell.lit (Value.int IntKind.i64 (if markTimerS a k = a then k + (↑(cntTimerS a) : Int) else (-1 : Int))))] else I_laws_heldTimerS_2 a k (if markValS (DFact.Fields (DTimer.F (List.getD a (Int.toNat y.2.1) zTimer))) (IntKind.wrap IntKind.i64 (IntKind.wrap IntKind.i64 (y.1 + (1 : Int)) + (1 : Int))) = DFact.Fields (DTimer.F (List.getD a (Int.toNat y.2.1) zTimer)) then IntKind.wrap IntKind.i64 (IntKind.wrap IntKind.i64 (y.1 + (1 : Int)) + (1 : Int)) + (↑(cntValS (DFact.Fields (DTimer.F (List.getD a (Int.toNat y.2.1) zTimer)))) : Int) else (-1 : Int), IntKind.wrap IntKind.i64 (y.2.1 + (1 : Int)), PUnit.unit) ∧ μ_laws_heldTimerS_2 a k (if markValS (DFact.Fields (DTimer.F (List.getD a (Int.toNat y.2.1) zTimer))) (IntKind.wrap IntKind.i64 (IntKind.wrap IntKind.i64 (y.1 + (1 : Int)) + (1 : Int))) = DFact.Fields (DTimer.F (List.getD a (Int.toNat y.2.1) zTimer)) then IntKind.wrap IntKind.i64 (IntKind.wrap IntKind.i64 (y.1 + (1 : Int)) + (1 : Int)) + (↑(cntValS (DFact.Fields (DTimer.F (List.getD a (Int.toNat y.2.1) zTimer)))) : Int) else (-1 : Int), IntKind.wrap IntKind.i64 (y.2.1 + (1 : Int)), PUnit.unit) < μ_laws_heldTimerS_2 a k y else Lf [DV.one (Cell.lit (Value.int IntKind.i64 y.1))] [DV.one (Cell.lit (Value.int IntKind.i64 (if markTimerS a k = a then k + (↑(cntTimerS a) : Int) else (-1 : Int))))]) := by kernel_rfl
theorem ok_laws_heldTimerS : Holds EE (39, con_laws_heldTimerS) := by
  refine holds_of EE_ok Go.Proofs.Try.func39 con_laws_heldTimerS (by kernel_rfl) rfl use_laws_heldTimerS (all_cons ok_laws_markText (all_cons ok_laws_heldValS all_nil)) ann_laws_heldTimerS (fun x hp hb => ?_)
  obtain ⟨a, k⟩ := x
  have hb_a : BdDV (U := UU) (.one (.sl .eTimer a)) := hb _ (List.mem_cons_self)
  have hl_a : a.length ≤ 9223372036854775807 := Bd.len hb_a
  have hb_k : BdDV (U := UU) (.one (.lit (.int .i64 k))) := hb _ (List.mem_cons_of_mem _ (List.mem_cons_self))
  have hl_k := Bd.i64 hb_k
  have hp0 : 0 ≤ k := hp _ (List.mem_cons_self)
  have hp1 : k + cntTimerS a ≤ 4611686018427387904 := hp _ (List.mem_cons_of_mem _ (List.mem_cons_self))
  clear hp hb
  rw [vc_laws_heldTimerS a k]
  refine ⟨⟨by omega, by omega, by simp [ctS], by simp⟩, ?_⟩
  rintro ⟨kk, i, ⟨⟩⟩ ⟨h1, h2, hkk, hR⟩
  simp only
  simp only [markTimerS]
  refine if_cond (fun hc => ?_) (fun hc => ?_)
  · have hc : i < a.length := by have hc := of_decide_eq_true hc; omega
    have hct := ctS_take cntTimer a zTimer h1 hc
    have hle := ctS_take_le cntTimer a (i + 1).toNat
    have hq : (cntTimerS a : Int) = ctS cntTimer a := rfl
    rw [drop_step a zTimer h1 hc] at hR
    generalize List.getD a i.toNat zTimer = x at *
    simp only [mkS, List.cons.injEq] at hR
    have e : kk + (cntTimer x : Int) = kk + 1 + 1 + (cntValS x.F.Fields : Int) := by simp only [cntTimer]; omega
    rw [e] at hR
    simp only [markTimer, cntTimer] at hR hct
    simp (disch := omega) only [wrap_i64, bne_int, toList_beq]
    obtain ⟨x_At, ⟨x_F_Kind, x_F_Fields⟩⟩ := x
    simp only [DFact.mk.injEq, DTimer.mk.injEq] at *
    repeat' (first | refine And.intro (by omega) ?_ | fail)
    refine if_cond (fun h => Lf_no (fun hh => ?_)) (fun h => ?_)
    · have hh := hR.2 hh; simp_all
    have h : x_At = kk := by simpa using h
    subst x_At
    repeat' (first | refine And.intro (by omega) ?_ | fail)
    refine if_cond (fun h => Lf_no (fun hh => ?_)) (fun h => ?_)
    · have hh := hR.2 hh; simp_all
    have h : x_F_Kind = markText (kk + 1) := by simpa using h
    subst x_F_Kind
    repeat' (first | refine And.intro (by omega) ?_ | fail)
    by_cases hm : markValS x_F_Fields (kk + 1 + 1) = x_F_Fields
    rotate_left
    · simp only [if_neg hm]; rw [cond_yes (by decide)]
      exact Lf_no (fun hh => hm (by have hh := hR.2 hh; simp_all))
    simp only [if_pos hm]
    refine if_cond (fun h => absurd (of_decide_eq_true h) (by omega)) (fun h => ?_)
    simp only [hm] at hR
    clear hm
    exact ⟨⟨by omega, by omega, by omega, by simpa using hR⟩, by simp only [μ_laws_heldTimerS_2]; omega⟩
  · have hc : a.length ≤ i := by have hc := of_decide_eq_false hc; omega
    rw [drop_end a hc] at hR
    exact Lf_yes (hR.1 rfl) (by rw [hkk, ct_done _ _ hc]; rfl)
def con_laws_szUndo : Con UU where
  α := DUndo × Int
  md := [.ro, .ro]
  of := fun | [.agg [.lit (.string a0), .lit (.string a1), .sl .lVal a2], .one (.lit (.int .i64 a3))] => some (⟨a0, ⟨a1, a2⟩⟩, a3) | _ => none
  ds := fun (a, left) => [.agg [.lit (.string a.Key), .lit (.string a.F.Kind), .sl .lVal a.F.Fields], .one (.lit (.int .i64 left))]
  pre := fun (a, left) => [0 ≤ left]
  res := fun (a, left) => ⟨[.one (.lit (.int .i64 (szr left (sizeUndo a))))], true, []⟩
  law := by intro l x h; (try simp only at h); split at h <;> cases h; rfl
def ann_laws_szUndo : con_laws_szUndo.α → Nat → Option (Ann UU) := fun (a, left) => annL []
def use_laws_szUndo : List (FuncId × Con UU) := [(63, con_laws_szFact)]
theorem vc_laws_szUndo (a : DUndo) (left : Int) : goal EE use_laws_szUndo Go.Proofs.Try.f44 con_laws_szUndo ann_laws_szUndo (a, left) = (bif decide (IntKind.wrap IntKind.i64 (left - (↑(ByteArray.size (DUndo.Key a)) : Int)) < (0 : Int)) then Lf [DV.one (Cell.lit (Value.int IntKind.i64 (-1 : Int)))] [DV.one (Cell.lit (Value.int IntKind.i64 (szr left (sizeUndo a))))] else (0 : Int) ≤ IntKind.wrap IntKind.i64 (left - (↑(ByteArray.size (DUndo.Key a)) : Int)) ∧ bif decide (szr (IntKind.wrap IntKind.i64 (left - (↑(ByteArray.size (DUndo.Key a)) : Int))) (sizeFact (DUndo.F a)) < (0 : Int)) then Lf [DV.one (Cell.lit (Value.int IntKind.i64 (-1 : Int)))] [DV.one (Cell.lit (Value.int IntKind.i64 (szr left (sizeUndo a))))] else Lf [DV.one (Cell.lit (Value.int IntKind.i64 (szr (IntKind.wrap IntKind.i64 (left - (↑(ByteArray.size (DUndo.Key a)) : Int))) (sizeFact (DUndo.F a)))))] [DV.one (Cell.lit (Value.int IntKind.i64 (szr left (sizeUndo a))))]) := by kernel_rfl
theorem ok_laws_szUndo : Holds EE (44, con_laws_szUndo) := by
  refine holds_of EE_ok Go.Proofs.Try.func44 con_laws_szUndo (by kernel_rfl) rfl use_laws_szUndo (all_cons ok_laws_szFact all_nil) ann_laws_szUndo (fun x hp hb => ?_)
  obtain ⟨a, left⟩ := x
  have hb_a : BdDV (U := UU) (.agg [.lit (.string a.Key), .lit (.string a.F.Kind), .sl .lVal a.F.Fields]) := hb _ (List.mem_cons_self)
  have hl_a_Key : a.Key.size ≤ 9223372036854775807 := Bd.str (hb_a _ (by simp))
  have hl_a_F_Kind : a.F.Kind.size ≤ 9223372036854775807 := Bd.str (hb_a _ (by simp))
  have hl_a_F_Fields : a.F.Fields.length ≤ 9223372036854775807 := Bd.len (U := UU) (τ := .lVal) (xs := a.F.Fields) (hb_a _ (by simp))
  have hb_left : BdDV (U := UU) (.one (.lit (.int .i64 left))) := hb _ (List.mem_cons_of_mem _ (List.mem_cons_self))
  have hl_left := Bd.i64 hb_left
  have hp0 : 0 ≤ left := hp _ (List.mem_cons_self)
  clear hp hb
  rw [vc_laws_szUndo a left]
  rw [wrap_i64 (by omega) (by omega)]
  refine if_cond (fun h => Lf_i (szr_bad' ?_)) (fun h => ?_)
  · have h := of_decide_eq_true h; simp only [sizeUndo]; omega
  have h0 := of_decide_eq_false h
  refine ⟨by omega, if_cond (fun h => Lf_i (szr_bad' ?_)) (fun h => ?_)⟩
  · have h := szr_neg h; simp only [sizeUndo]; omega
  obtain ⟨e1, h1⟩ := szr_pos h
  rw [e1]
  exact Lf_i (by rw [← szr_ok' (by simp only [sizeUndo]; omega)]; simp only [sizeUndo]; try omega)
def con_laws_toUndo : Con UU where
  α := DUndo
  md := [.ro]
  of := fun | [.agg [.lit (.string a0), .lit (.string a1), .sl .lVal a2]] => some ⟨a0, ⟨a1, a2⟩⟩ | _ => none
  ds := fun a => [.agg [.lit (.string a.Key), .lit (.string a.F.Kind), .sl .lVal a.F.Fields]]
  pre := fun a => [sizeUndo a ≤ 4294967296]
  res := fun a => ⟨[.agg [.lit (.string a.Key), .lit (.string a.F.Kind), .sl .eVal a.F.Fields]], true, []⟩
  law := by intro l x h; (try simp only at h); split at h <;> cases h; rfl
def ann_laws_toUndo : con_laws_toUndo.α → Nat → Option (Ann UU) := fun a => annL []
def use_laws_toUndo : List (FuncId × Con UU) := [(64, con_laws_toFact)]
theorem vc_laws_toUndo (a : DUndo) : goal EE use_laws_toUndo Go.Proofs.Try.f45 con_laws_toUndo ann_laws_toUndo a = (sizeFact (DUndo.F a) ≤ (4294967296 : Nat) ∧ Lf [DV.agg [Cell.lit (Value.string (DUndo.Key a)), Cell.lit (Value.string (DFact.Kind (DUndo.F a))), Cell.sl Cd.eVal (DFact.Fields (DUndo.F a))]] [DV.agg [Cell.lit (Value.string (DUndo.Key a)), Cell.lit (Value.string (DFact.Kind (DUndo.F a))), Cell.sl Cd.eVal (DFact.Fields (DUndo.F a))]]) := by kernel_rfl
theorem ok_laws_toUndo : Holds EE (45, con_laws_toUndo) := by
  refine holds_of EE_ok Go.Proofs.Try.func45 con_laws_toUndo (by kernel_rfl) rfl use_laws_toUndo (all_cons ok_laws_toFact all_nil) ann_laws_toUndo (fun (a : DUndo) hp hb => ?_)
  have hb_a : BdDV (U := UU) (.agg [.lit (.string a.Key), .lit (.string a.F.Kind), .sl .lVal a.F.Fields]) := hb _ (List.mem_cons_self)
  have hl_a_Key : a.Key.size ≤ 9223372036854775807 := Bd.str (hb_a _ (by simp))
  have hl_a_F_Kind : a.F.Kind.size ≤ 9223372036854775807 := Bd.str (hb_a _ (by simp))
  have hl_a_F_Fields : a.F.Fields.length ≤ 9223372036854775807 := Bd.len (U := UU) (τ := .lVal) (xs := a.F.Fields) (hb_a _ (by simp))
  have hp0 : sizeUndo a ≤ 4294967296 := hp _ (List.mem_cons_self)
  clear hp hb
  rw [vc_laws_toUndo a]
  simp only [sizeUndo] at hp0
  repeat' (first | exact Lf_rfl _ | (refine And.intro (by omega) ?_))
def con_laws_eqUndo : Con UU where
  α := DUndo × DUndo
  md := [.ro, .ro]
  of := fun | [.agg [.lit (.string a0), .lit (.string a1), .sl .eVal a2], .agg [.lit (.string a3), .lit (.string a4), .sl .eVal a5]] => some (⟨a0, ⟨a1, a2⟩⟩, ⟨a3, ⟨a4, a5⟩⟩) | _ => none
  ds := fun (a, b) => [.agg [.lit (.string a.Key), .lit (.string a.F.Kind), .sl .eVal a.F.Fields], .agg [.lit (.string b.Key), .lit (.string b.F.Kind), .sl .eVal b.F.Fields]]
  pre := fun (a, b) => []
  res := fun (a, b) => ⟨[.one (.lit (.bool (decide (a = b))))], true, []⟩
  law := by intro l x h; (try simp only at h); split at h <;> cases h; rfl
def ann_laws_eqUndo : con_laws_eqUndo.α → Nat → Option (Ann UU) := fun (a, b) => annL []
def use_laws_eqUndo : List (FuncId × Con UU) := [(24, con_laws_eqFact)]
theorem vc_laws_eqUndo (a : DUndo) (b : DUndo) : goal EE use_laws_eqUndo Go.Proofs.Try.f46 con_laws_eqUndo ann_laws_eqUndo (a, b) = (bif !ByteArray.toList (DUndo.Key a) == ByteArray.toList (DUndo.Key b) then Lf [DV.one (Cell.lit (Value.bool false))] [DV.one (Cell.lit (Value.bool (decide (a = b))))] else bif !decide (DUndo.F a = DUndo.F b) then Lf [DV.one (Cell.lit (Value.bool false))] [DV.one (Cell.lit (Value.bool (decide (a = b))))] else Lf [DV.one (Cell.lit (Value.bool true))] [DV.one (Cell.lit (Value.bool (decide (a = b))))]) := by kernel_rfl
theorem ok_laws_eqUndo : Holds EE (46, con_laws_eqUndo) := by
  refine holds_of EE_ok Go.Proofs.Try.func46 con_laws_eqUndo (by kernel_rfl) rfl use_laws_eqUndo (all_cons ok_laws_eqFact all_nil) ann_laws_eqUndo (fun x hp hb => ?_)
  obtain ⟨a, b⟩ := x
  have hb_a : BdDV (U := UU) (.agg [.lit (.string a.Key), .lit (.string a.F.Kind), .sl .eVal a.F.Fields]) := hb _ (List.mem_cons_self)
  have hl_a_Key : a.Key.size ≤ 9223372036854775807 := Bd.str (hb_a _ (by simp))
  have hl_a_F_Kind : a.F.Kind.size ≤ 9223372036854775807 := Bd.str (hb_a _ (by simp))
  have hl_a_F_Fields : a.F.Fields.length ≤ 9223372036854775807 := Bd.len (U := UU) (τ := .eVal) (xs := a.F.Fields) (hb_a _ (by simp))
  have hb_b : BdDV (U := UU) (.agg [.lit (.string b.Key), .lit (.string b.F.Kind), .sl .eVal b.F.Fields]) := hb _ (List.mem_cons_of_mem _ (List.mem_cons_self))
  have hl_b_Key : b.Key.size ≤ 9223372036854775807 := Bd.str (hb_b _ (by simp))
  have hl_b_F_Kind : b.F.Kind.size ≤ 9223372036854775807 := Bd.str (hb_b _ (by simp))
  have hl_b_F_Fields : b.F.Fields.length ≤ 9223372036854775807 := Bd.len (U := UU) (τ := .eVal) (xs := b.F.Fields) (hb_b _ (by simp))
  clear hp hb
  rw [vc_laws_eqUndo a b]
  obtain ⟨aKey, aF⟩ := a
  obtain ⟨bKey, bF⟩ := b
  repeat' (apply if_cond <;> intro _)
  all_goals (first | apply Lf_t | apply Lf_f) <;> simp_all
def con_laws_szUndoS : Con UU where
  α := (List DUndo) × Int
  md := [.ro, .ro]
  of := fun | [.one (.sl .lUndo a0), .one (.lit (.int .i64 a1))] => some (a0, a1) | _ => none
  ds := fun (a, left) => [.one (.sl .lUndo a), .one (.lit (.int .i64 left))]
  pre := fun (a, left) => [0 ≤ left]
  res := fun (a, left) => ⟨[.one (.lit (.int .i64 (szr left (sizeUndoS a))))], true, []⟩
  law := by intro l x h; (try simp only at h); split at h <;> cases h; rfl
def I_laws_szUndoS_5 (a : (List DUndo)) (left : Int) : Int × Int × Unit → Prop := fun (lf, i, _) => 0 ≤ lf ∧ 0 ≤ i ∧ i ≤ a.length ∧ szr lf ((a.drop i.toNat).map sizeUndo).sum = szr left (sizeUndoS a)
def μ_laws_szUndoS_5 (a : (List DUndo)) (left : Int) : Int × Int × Unit → Nat := fun (lf, i, _) => a.length - i.toNat
def ann_laws_szUndoS : con_laws_szUndoS.α → Nat → Option (Ann UU) := fun (a, left) => annL [(5, annOf [.slot 1 (1, 1024) (.lit (.int .i64)), .slot 5 (5, 1024) (.lit (.int .i64))] (I_laws_szUndoS_5 a left) (μ_laws_szUndoS_5 a left))]
def use_laws_szUndoS : List (FuncId × Con UU) := [(44, con_laws_szUndo)]
theorem vc_laws_szUndoS (a : (List DUndo)) (left : Int) : goal EE use_laws_szUndoS Go.Proofs.Try.f14 con_laws_szUndoS ann_laws_szUndoS (a, left) = (bif decide (IntKind.wrap IntKind.i64 (left - (↑(List.length a) : Int)) < (0 : Int)) then Lf [DV.one (Cell.lit (Value.int IntKind.i64 (-1 : Int)))] [DV.one (Cell.lit (Value.int IntKind.i64 (szr left (sizeUndoS a))))] else I_laws_szUndoS_5 a left (IntKind.wrap IntKind.i64 (left - (↑(List.length a) : Int)), (0 : Int), PUnit.unit) ∧ ∀ (y : Int × Int × PUnit), I_laws_szUndoS_5 a left y → bif decide (y.2.1 < (↑(List.length a) : Int)) then (0 : Int) ≤ y.2.1 ∧ Int.toNat y.2.1 < List.length a ∧ (0 : Int) ≤ y.1 ∧ bif decide (szr y.1 (sizeUndo (List.getD a (Int.toNat y.2.1) zUndo)) < (0 : Int)) then Lf [DV.one (Cell.lit (Value.int IntKind.i64 (-1 : Int)))] [DV.one (Cell.lit (Value.int IntKind.i64 (szr left (sizeUndoS a))))] else I_laws_szUndoS_5 a left (szr y.1 (sizeUndo (List.getD a (Int.toNat y.2.1) zUndo)), IntKind.wrap IntKind.i64 (y.2.1 + (1 : Int)), PUnit.unit) ∧ μ_laws_szUndoS_5 a left (szr y.1 (sizeUndo (List.getD a (Int.toNat y.2.1) zUndo)), IntKind.wrap IntKind.i64 (y.2.1 + (1 : Int)), PUnit.unit) < μ_laws_szUndoS_5 a left y else Lf [DV.one (Cell.lit (Value.int IntKind.i64 y.1))] [DV.one (Cell.lit (Value.int IntKind.i64 (szr left (sizeUndoS a))))]) := by kernel_rfl
theorem ok_laws_szUndoS : Holds EE (14, con_laws_szUndoS) := by
  refine holds_of EE_ok Go.Proofs.Try.func14 con_laws_szUndoS (by kernel_rfl) rfl use_laws_szUndoS (all_cons ok_laws_szUndo all_nil) ann_laws_szUndoS (fun x hp hb => ?_)
  obtain ⟨a, left⟩ := x
  have hb_a : BdDV (U := UU) (.one (.sl .lUndo a)) := hb _ (List.mem_cons_self)
  have hl_a : a.length ≤ 9223372036854775807 := Bd.len hb_a
  have hb_left : BdDV (U := UU) (.one (.lit (.int .i64 left))) := hb _ (List.mem_cons_of_mem _ (List.mem_cons_self))
  have hl_left := Bd.i64 hb_left
  have hp0 : 0 ≤ left := hp _ (List.mem_cons_self)
  clear hp hb
  rw [vc_laws_szUndoS a left]
  rw [wrap_i64 (by omega) (by omega)]
  refine if_cond (fun h => Lf_i ?_) (fun h => ⟨?_, ?_⟩)
  · simp [szr, sizeUndoS] at *; omega
  · simp only [I_laws_szUndoS_5, sizeUndoS]; simp at h; have h' : 0 ≤ left - a.length := by omega
    exact ⟨h', by omega, by omega, szr_sub h'⟩
  rintro ⟨lf, i, ⟨⟩⟩ ⟨h0, h1, h2, hR⟩
  refine if_cond (fun hc => ?_) (fun hc => ?_)
  · have hc : i < a.length := by simpa using hc
    rw [drop_step a zUndo h1 hc, List.map_cons, List.sum_cons] at hR
    simp only at *
    rw [wrap_i64 (by omega) (by omega)]
    generalize List.getD a i.toNat zUndo = x at *
    refine ⟨by omega, by omega, by omega, if_cond (fun h => Lf_i ?_) (fun h => ⟨⟨?_, by omega, by omega, ?_⟩, ?_⟩)⟩
    · rw [← hR]; exact (szr_bad (of_decide_eq_true h)).symm
    · simp at h; omega
    · rw [← hR]; simp at h; exact szr_szr h
    · simp only [μ_laws_szUndoS_5]; omega
  · have hc : a.length ≤ i := by simpa using hc
    rw [drop_end a hc] at hR
    apply Lf_i; rw [← hR]; simp [szr, h0]
def con_laws_toUndoS : Con UU where
  α := (List DUndo)
  md := [.ro]
  of := fun | [.one (.sl .lUndo a0)] => some a0 | _ => none
  ds := fun a => [.one (.sl .lUndo a)]
  pre := fun a => [sizeUndoS a ≤ 4294967296]
  res := fun a => ⟨[.one (.sl .eUndo a)], true, []⟩
  law := by intro l x h; (try simp only at h); split at h <;> cases h; rfl
def I_laws_toUndoS_3 (a : (List DUndo)) : List DUndo × Int × Unit → Prop := fun (out, i, _) => 0 ≤ i ∧ i ≤ a.length ∧ out = a.take i.toNat ++ List.replicate (a.length - i.toNat) zUndo
def μ_laws_toUndoS_3 (a : (List DUndo)) : List DUndo × Int × Unit → Nat := fun (out, i, _) => a.length - i.toNat
def ann_laws_toUndoS : con_laws_toUndoS.α → Nat → Option (Ann UU) := fun a => annL [(3, annOf [.slot 3 (3, 1024) (.own .eUndo true), .slot 4 (4, 1024) (.lit (.int .i64))] (I_laws_toUndoS_3 a) (μ_laws_toUndoS_3 a))]
def use_laws_toUndoS : List (FuncId × Con UU) := [(45, con_laws_toUndo)]
theorem vc_laws_toUndoS (a : (List DUndo)) : goal EE use_laws_toUndoS Go.Proofs.Try.f17 con_laws_toUndoS ann_laws_toUndoS a = ((0 : Int) ≤ (↑(List.length a) : Int) ∧ (↑(List.length a) : Int) = (↑(List.length a) : Int) ∧ (↑(List.length a) : Int) ≤ (4294967296 : Int) ∧ I_laws_toUndoS_3 a (List.replicate (Int.toNat (↑(List.length a) : Int)) zUndo, (0 : Int), PUnit.unit) ∧ ∀ (y : List DUndo × Int × PUnit), I_laws_toUndoS_3 a y → bif decide (y.2.1 < (↑(List.length a) : Int)) then (0 : Int) ≤ y.2.1 ∧ Int.toNat y.2.1 < List.length a ∧ sizeUndo (List.getD a (Int.toNat y.2.1) zUndo) ≤ (4294967296 : Nat) ∧ (0 : Int) ≤ y.2.1 ∧ Int.toNat y.2.1 < List.length y.1 ∧ Int.toNat y.2.1 < List.length y.1 ∧ I_laws_toUndoS_3 a (List.set y.1 (Int.toNat y.2.1) (List.getD a (Int.toNat y.2.1) zUndo), IntKind.wrap IntKind.i64 (y.2.1 + (1 : Int)), PUnit.unit) ∧ μ_laws_toUndoS_3 a (List.set y.1 (Int.toNat y.2.1) (List.getD a (Int.toNat y.2.1) zUndo), IntKind.wrap IntKind.i64 (y.2.1 + (1 : Int)), PUnit.unit) < μ_laws_toUndoS_3 a y else Lf [DV.one (Cell.sl Cd.eUndo y.1)] [DV.one (Cell.sl Cd.eUndo a)]) := by kernel_rfl
theorem ok_laws_toUndoS : Holds EE (17, con_laws_toUndoS) := by
  refine holds_of EE_ok Go.Proofs.Try.func17 con_laws_toUndoS (by kernel_rfl) rfl use_laws_toUndoS (all_cons ok_laws_toUndo all_nil) ann_laws_toUndoS (fun (a : (List DUndo)) hp hb => ?_)
  have hb_a : BdDV (U := UU) (.one (.sl .lUndo a)) := hb _ (List.mem_cons_self)
  have hl_a : a.length ≤ 9223372036854775807 := Bd.len hb_a
  have hp0 : sizeUndoS a ≤ 4294967296 := hp _ (List.mem_cons_self)
  clear hp hb
  rw [vc_laws_toUndoS a]
  have hlen : a.length ≤ 4294967296 := by simp only [sizeUndoS] at hp0; omega
  refine ⟨by omega, rfl, by omega, ?_, ?_⟩
  · simp [I_laws_toUndoS_3]
  rintro ⟨out, i, ⟨⟩⟩ ⟨h1, h2, rfl⟩
  simp only at *
  refine if_cond (fun hc => ?_) (fun hc => ?_)
  · have hc : i < a.length := by simpa using hc
    rw [wrap_i64 (by omega) (by omega), set_fill a zUndo h1 hc]
    exact ⟨h1, by omega, by exact Nat.le_trans (sum_getD_le sizeUndo a zUndo h1 hc) (by simp only [sizeUndoS] at hp0; omega), h1, by simp; omega, by simp; omega, ⟨by omega, by omega, rfl⟩, by simp only [μ_laws_toUndoS_3]; omega⟩
  · have hc : a.length ≤ i := by simpa using hc
    have e : i.toNat = a.length := by omega
    rw [e]; simp; exact Lf_rfl _
def con_laws_eqUndoS : Con UU where
  α := (List DUndo) × (List DUndo)
  md := [.ro, .ro]
  of := fun | [.one (.sl .eUndo a0), .one (.sl .eUndo a1)] => some (a0, a1) | _ => none
  ds := fun (a, b) => [.one (.sl .eUndo a), .one (.sl .eUndo b)]
  pre := fun (a, b) => []
  res := fun (a, b) => ⟨[.one (.lit (.bool (decide (a = b))))], true, []⟩
  law := by intro l x h; (try simp only at h); split at h <;> cases h; rfl
def I_laws_eqUndoS_4 (a : (List DUndo)) (b : (List DUndo)) : Int × Unit → Prop := fun (i, _) => 0 ≤ i ∧ i ≤ a.length ∧ a.length = b.length ∧ (a.drop i.toNat = b.drop i.toNat ↔ a = b)
def μ_laws_eqUndoS_4 (a : (List DUndo)) (b : (List DUndo)) : Int × Unit → Nat := fun (i, _) => a.length - i.toNat
def ann_laws_eqUndoS : con_laws_eqUndoS.α → Nat → Option (Ann UU) := fun (a, b) => annL [(4, annOf [.slot 5 (5, 1024) (.lit (.int .i64))] (I_laws_eqUndoS_4 a b) (μ_laws_eqUndoS_4 a b))]
def use_laws_eqUndoS : List (FuncId × Con UU) := [(46, con_laws_eqUndo)]
theorem vc_laws_eqUndoS (a : (List DUndo)) (b : (List DUndo)) : goal EE use_laws_eqUndoS Go.Proofs.Try.f20 con_laws_eqUndoS ann_laws_eqUndoS (a, b) = (bif (↑(List.length a) : Int) != (↑(List.length b) : Int) then Lf [DV.one (Cell.lit (Value.bool false))] [DV.one (Cell.lit (Value.bool (decide (a = b))))] else I_laws_eqUndoS_4 a b ((0 : Int), PUnit.unit) ∧ ∀ (y : Int × PUnit), I_laws_eqUndoS_4 a b y → bif decide (y.1 < (↑(List.length a) : Int)) then (0 : Int) ≤ y.1 ∧ Int.toNat y.1 < List.length a ∧ (0 : Int) ≤ y.1 ∧ Int.toNat y.1 < List.length b ∧ bif !decide (List.getD a (Int.toNat y.1) zUndo = List.getD b (Int.toNat y.1) zUndo) then Lf [DV.one (Cell.lit (Value.bool false))] [DV.one (Cell.lit (Value.bool (decide (a = b))))] else I_laws_eqUndoS_4 a b (IntKind.wrap IntKind.i64 (y.1 + (1 : Int)), PUnit.unit) ∧ μ_laws_eqUndoS_4 a b (IntKind.wrap IntKind.i64 (y.1 + (1 : Int)), PUnit.unit) < μ_laws_eqUndoS_4 a b y else Lf [DV.one (Cell.lit (Value.bool true))] [DV.one (Cell.lit (Value.bool (decide (a = b))))]) := by kernel_rfl
theorem ok_laws_eqUndoS : Holds EE (20, con_laws_eqUndoS) := by
  refine holds_of EE_ok Go.Proofs.Try.func20 con_laws_eqUndoS (by kernel_rfl) rfl use_laws_eqUndoS (all_cons ok_laws_eqUndo all_nil) ann_laws_eqUndoS (fun x hp hb => ?_)
  obtain ⟨a, b⟩ := x
  have hb_a : BdDV (U := UU) (.one (.sl .eUndo a)) := hb _ (List.mem_cons_self)
  have hl_a : a.length ≤ 9223372036854775807 := Bd.len hb_a
  have hb_b : BdDV (U := UU) (.one (.sl .eUndo b)) := hb _ (List.mem_cons_of_mem _ (List.mem_cons_self))
  have hl_b : b.length ≤ 9223372036854775807 := Bd.len hb_b
  clear hp hb
  rw [vc_laws_eqUndoS a b]
  refine if_cond (fun h => Lf_f ?_) (fun h => ⟨?_, ?_⟩)
  · rintro rfl; simp at h
  · simp [I_laws_eqUndoS_4] at *; omega
  rintro ⟨i, ⟨⟩⟩ ⟨h1, h2, h3, hR⟩
  simp only at *
  refine if_cond (fun hc => ?_) (fun hc => ?_)
  · have hc : i < a.length := by simpa using hc
    rw [drop_step a zUndo h1 hc, drop_step b zUndo h1 (by omega)] at hR
    rw [wrap_i64 (by omega) (by omega)]
    refine ⟨by omega, by omega, by omega, by omega, if_cond (fun h => Lf_f ?_) (fun h => ⟨⟨by omega, by omega, h3, ?_⟩, ?_⟩)⟩
    · rw [← hR]; simp at h; simp [h]
    · rw [← hR]; simp at h; simp [h]
    · simp only [μ_laws_eqUndoS_4]; omega
  · have hc : a.length ≤ i := by simpa using hc
    rw [drop_end a hc, drop_end b (by omega)] at hR
    exact Lf_t (hR.1 rfl)
def con_laws_markUndoS : Con UU where
  α := (List DUndo) × Int
  md := [.wr, .ro]
  of := fun | [.one (.sl .eUndo a0), .one (.lit (.int .i64 a1))] => some (a0, a1) | _ => none
  ds := fun (a, k) => [.one (.sl .eUndo a), .one (.lit (.int .i64 k))]
  pre := fun (a, k) => [0 ≤ k, k + cntUndoS a ≤ 4611686018427387904]
  res := fun (a, k) => ⟨[.one (.lit (.int .i64 (k + cntUndoS a)))], true, [.one (.sl .eUndo (markUndoS a k))]⟩
  law := by intro l x h; (try simp only at h); split at h <;> cases h; rfl
def I_laws_markUndoS_2 (a : (List DUndo)) (k : Int) : List DUndo × Int × Int × Unit → Prop := fun (row, kk, i, _) => 0 ≤ i ∧ i ≤ a.length ∧ row = (mkS markUndo cntUndo a k).take i.toNat ++ a.drop i.toNat ∧ kk = k + ctS cntUndo (a.take i.toNat)
def μ_laws_markUndoS_2 (a : (List DUndo)) (k : Int) : List DUndo × Int × Int × Unit → Nat := fun (row, kk, i, _) => a.length - i.toNat
def ann_laws_markUndoS : con_laws_markUndoS.α → Nat → Option (Ann UU) := fun (a, k) => annL [(2, annOf [.slot 0 (2000000, 0) (.own .eUndo true), .slot 1 (1, 1024) (.lit (.int .i64)), .slot 5 (5, 1024) (.lit (.int .i64))] (I_laws_markUndoS_2 a k) (μ_laws_markUndoS_2 a k))]
def use_laws_markUndoS : List (FuncId × Con UU) := [(50, con_laws_markText), (51, con_laws_markValS)]
theorem vc_laws_markUndoS (a : (List DUndo)) (k : Int) : goal EE use_laws_markUndoS Go.Proofs.Try.f25 con_laws_markUndoS ann_laws_markUndoS (a, k) = (I_laws_markUndoS_2 a k (a, k, (0 : Int), PUnit.unit) ∧ ∀ (y : List DUndo × Int × Int × PUnit), I_laws_markUndoS_2 a k y → bif decide (y.2.2.1 < (↑(List.length y.1) : Int)) then y.2.1 ≤ (4611686018427387903 : Int) ∧ (0 : Int) ≤ y.2.2.1 ∧ Int.toNat y.2.2.1 < List.length y.1 ∧ Int.toNat y.2.2.1 < List.length y.1 ∧ IntKind.wrap IntKind.i64 (y.2.1 + (1 : Int)) ≤ (4611686018427387903 : Int) ∧ (0 : Int) ≤ y.2.2.1 ∧ Int.toNat y.2.2.1 < List.length (List.modify y.1 (Int.toNat y.2.2.1) fun (x : DUndo) => { Key := markText y.2.1, F := DUndo.F x }) ∧ Int.toNat y.2.2.1 < List.length (List.modify y.1 (Int.toNat y.2.2.1) fun (x : DUndo) => { Key := markText y.2.1, F := DUndo.F x }) ∧ (0 : Int) ≤ y.2.2.1 ∧ Int.toNat y.2.2.1 < List.length (List.modify (List.modify y.1 (Int.toNat y.2.2.1) fun (x : DUndo) => { Key := markText y.2.1, F := DUndo.F x }) (Int.toNat y.2.2.1) fun (x : DUndo) => { Key := DUndo.Key x, F := { Kind := markText (IntKind.wrap IntKind.i64 (y.2.1 + (1 : Int))), Fields := DFact.Fields (DUndo.F x) } }) ∧ Int.toNat y.2.2.1 < List.length (List.modify (List.modify y.1 (Int.toNat y.2.2.1) fun (x : DUndo) => { Key := markText y.2.1, F := DUndo.F x }) (Int.toNat y.2.2.1) fun (x : DUndo) => { Key := DUndo.Key x, F := { Kind := markText (IntKind.wrap IntKind.i64 (y.2.1 + (1 : Int))), Fields := DFact.Fields (DUndo.F x) } }) ∧ Int.toNat y.2.2.1 < List.length (List.modify (List.modify y.1 (Int.toNat y.2.2.1) fun (x : DUndo) => { Key := markText y.2.1, F := DUndo.F x }) (Int.toNat y.2.2.1) fun (x : DUndo) => { Key := DUndo.Key x, F := { Kind := markText (IntKind.wrap IntKind.i64 (y.2.1 + (1 : Int))), Fields := DFact.Fields (DUndo.F x) } }) ∧ (0 : Int) ≤ IntKind.wrap IntKind.i64 (IntKind.wrap IntKind.i64 (y.2.1 + (1 : Int)) + (1 : Int)) ∧ IntKind.wrap IntKind.i64 (IntKind.wrap IntKind.i64 (y.2.1 + (1 : Int)) + (1 : Int)) + (↑(cntValS (DFact.Fields (DUndo.F (List.getD (List.modify (List.modify y.1 (Int.toNat y.2.2.1) fun (x : DUndo) => { Key := markText y.2.1, F := DUndo.F x }) (Int.toNat y.2.2.1) fun (x : DUndo) => { Key := DUndo.Key x, F := { Kind := markText (IntKind.wrap IntKind.i64 (y.2.1 + (1 : Int))), Fields := DFact.Fields (DUndo.F x) } }) (Int.toNat y.2.2.1) zUndo)))) : Int) ≤ (4611686018427387904 : Int) ∧ I_laws_markUndoS_2 a k (List.modify (List.modify (List.modify y.1 (Int.toNat y.2.2.1) fun (x : DUndo) => { Key := markText y.2.1, F := DUndo.F x }) (Int.toNat y.2.2.1) fun (x : DUndo) => { Key := DUndo.Key x, F := { Kind := markText (IntKind.wrap IntKind.i64 (y.2.1 + (1 : Int))), Fields := DFact.Fields (DUndo.F x) } }) (Int.toNat y.2.2.1) fun (x : DUndo) => { Key := DUndo.Key x, F := { Kind := DFact.Kind (DUndo.F x), Fields := markValS (DFact.Fields (DUndo.F (List.getD (List.modify (List.modify y.1 (Int.toNat y.2.2.1) fun (x : DUndo) => { Key := markText y.2.1, F := DUndo.F x }) (Int.toNat y.2.2.1) fun (x : DUndo) => { Key := DUndo.Key x, F := { Kind := markText (IntKind.wrap IntKind.i64 (y.2.1 + (1 : Int))), Fields := DFact.Fields (DUndo.F x) } }) (Int.toNat y.2.2.1) zUndo))) (IntKind.wrap IntKind.i64 (IntKind.wrap IntKind.i64 (y.2.1 + (1 : Int)) + (1 : Int))) } }, IntKind.wrap IntKind.i64 (IntKind.wrap IntKind.i64 (y.2.1 + (1 : Int)) + (1 : Int)) + (↑(cntValS (DFact.Fields (DUndo.F (List.getD (List.modify (List.modify y.1 (Int.toNat y.2.2.1) fun (x : DUndo) => { Key := markText y.2.1, F := DUndo.F x }) (Int.toNat y.2.2.1) fun (x : DUndo) => { Key := DUndo.Key x, F := { Kind := markText (IntKind.wrap IntKind.i64 (y.2.1 + (1 : Int))), Fields := DFact.Fields (DUndo.F x) } }) (Int.toNat y.2.2.1) zUndo)))) : Int), IntKind.wrap IntKind.i64 (y.2.2.1 + (1 : Int)), PUnit.unit) ∧ μ_laws_markUndoS_2 a k (List.modify (List.modify (List.modify y.1 (Int.toNat y.2.2.1) fun (x : DUndo) => { Key := markText y.2.1, F := DUndo.F x }) (Int.toNat y.2.2.1) fun (x : DUndo) => { Key := DUndo.Key x, F := { Kind := markText (IntKind.wrap IntKind.i64 (y.2.1 + (1 : Int))), Fields := DFact.Fields (DUndo.F x) } }) (Int.toNat y.2.2.1) fun (x : DUndo) => { Key := DUndo.Key x, F := { Kind := DFact.Kind (DUndo.F x), Fields := markValS (DFact.Fields (DUndo.F (List.getD (List.modify (List.modify y.1 (Int.toNat y.2.2.1) fun (x : DUndo) => { Key := markText y.2.1, F := DUndo.F x }) (Int.toNat y.2.2.1) fun (x : DUndo) => { Key := DUndo.Key x, F := { Kind := markText (IntKind.wrap IntKind.i64 (y.2.1 + (1 : Int))), Fields := DFact.Fields (DUndo.F x) } }) (Int.toNat y.2.2.1) zUndo))) (IntKind.wrap IntKind.i64 (IntKind.wrap IntKind.i64 (y.2.1 + (1 : Int)) + (1 : Int))) } }, IntKind.wrap IntKind.i64 (IntKind.wrap IntKind.i64 (y.2.1 + (1 : Int)) + (1 : Int)) + (↑(cntValS (DFact.Fields (DUndo.F (List.getD (List.modify (List.modify y.1 (Int.toNat y.2.2.1) fun (x : DUndo) => { Key := markText y.2.1, F := DUndo.F x }) (Int.toNat y.2.2.1) fun (x : DUndo) => { Key := DUndo.Key x, F := { Kind := markText (IntKind.wrap IntKind.i64 (y.2.1 + (1 : Int))), Fields := DFact.Fields (DUndo.F x) } }) (Int.toNat y.2.2.1) zUndo)))) : Int), IntKind.wrap IntKind.i64 (y.2.2.1 + (1 : Int)), PUnit.unit) < μ_laws_markUndoS_2 a k y else asD [DV.one (Cell.lit (Value.int IntKind.i64 y.2.1))] = asD [DV.one (Cell.lit (Value.int IntKind.i64 (k + (↑(cntUndoS a) : Int))))] ∧ asD [DV.one (Cell.sl Cd.eUndo y.1)] = asD [DV.one (Cell.sl Cd.eUndo (markUndoS a k))]) := by kernel_rfl
theorem ok_laws_markUndoS : Holds EE (25, con_laws_markUndoS) := by
  refine holds_of EE_ok Go.Proofs.Try.func25 con_laws_markUndoS (by kernel_rfl) rfl use_laws_markUndoS (all_cons ok_laws_markText (all_cons ok_laws_markValS all_nil)) ann_laws_markUndoS (fun x hp hb => ?_)
  obtain ⟨a, k⟩ := x
  have hb_a : BdDV (U := UU) (.one (.sl .eUndo a)) := hb _ (List.mem_cons_self)
  have hl_a : a.length ≤ 9223372036854775807 := Bd.len hb_a
  have hb_k : BdDV (U := UU) (.one (.lit (.int .i64 k))) := hb _ (List.mem_cons_of_mem _ (List.mem_cons_self))
  have hl_k := Bd.i64 hb_k
  have hp0 : 0 ≤ k := hp _ (List.mem_cons_self)
  have hp1 : k + cntUndoS a ≤ 4611686018427387904 := hp _ (List.mem_cons_of_mem _ (List.mem_cons_self))
  clear hp hb
  rw [vc_laws_markUndoS a k]
  refine ⟨⟨by omega, by omega, by simp, by simp [ctS]⟩, ?_⟩
  rintro ⟨row, kk, i, ⟨⟩⟩ ⟨h1, h2, rfl, rfl⟩
  simp only
  have hl := mk_rl markUndo cntUndo a k h1 h2
  refine if_cond (fun hc => ?_) (fun hc => ?_)
  · have hc : i < a.length := by have hc := of_decide_eq_true hc; omega
    have hct := ctS_take cntUndo a zUndo h1 hc
    have hle := ctS_take_le cntUndo a (i + 1).toNat
    have hg := mk_getD _ a zUndo (mk_tl markUndo cntUndo a k h1 h2) h1 hc
    have hM := fun F hF => mkS_mod markUndo cntUndo a zUndo k (i := i) F h1 hc hF
    have hq : (cntUndoS a : Int) = ctS cntUndo a := rfl
    generalize List.getD a i.toNat zUndo = x at *
    generalize hkk : k + (ctS cntUndo (a.take i.toNat) : Int) = kk at *
    generalize List.take i.toNat (mkS markUndo cntUndo a k) ++ List.drop i.toNat a = R at *
    simp only [cntUndo] at hct
    simp (disch := first | omega | (simp only [List.length_modify]; omega)) only [List.length_modify, wrap_i64, getD_modify, modify_modify, hg, hl]
    repeat' (first | refine And.intro (by omega) ?_ | fail)
    exact ⟨⟨by omega, by omega, hM _ rfl, by omega⟩, by simp only [μ_laws_markUndoS_2]; omega⟩
  · have hc : a.length ≤ i := by have hc := of_decide_eq_false hc; omega
    rw [mk_done markUndo cntUndo a k hc, ct_done cntUndo a hc]
    exact ⟨rfl, rfl⟩
def con_laws_heldUndoS : Con UU where
  α := (List DUndo) × Int
  md := [.ro, .ro]
  of := fun | [.one (.sl .eUndo a0), .one (.lit (.int .i64 a1))] => some (a0, a1) | _ => none
  ds := fun (a, k) => [.one (.sl .eUndo a), .one (.lit (.int .i64 k))]
  pre := fun (a, k) => [0 ≤ k, k + cntUndoS a ≤ 4611686018427387904]
  res := fun (a, k) => ⟨[.one (.lit (.int .i64 (if markUndoS a k = a then k + cntUndoS a else -1)))], true, []⟩
  law := by intro l x h; (try simp only at h); split at h <;> cases h; rfl
def I_laws_heldUndoS_2 (a : (List DUndo)) (k : Int) : Int × Int × Unit → Prop := fun (kk, i, _) => 0 ≤ i ∧ i ≤ a.length ∧ kk = k + ctS cntUndo (a.take i.toNat) ∧ (mkS markUndo cntUndo (a.drop i.toNat) kk = a.drop i.toNat ↔ mkS markUndo cntUndo a k = a)
def μ_laws_heldUndoS_2 (a : (List DUndo)) (k : Int) : Int × Int × Unit → Nat := fun (kk, i, _) => a.length - i.toNat
def ann_laws_heldUndoS : con_laws_heldUndoS.α → Nat → Option (Ann UU) := fun (a, k) => annL [(2, annOf [.slot 1 (1, 1024) (.lit (.int .i64)), .slot 5 (5, 1024) (.lit (.int .i64))] (I_laws_heldUndoS_2 a k) (μ_laws_heldUndoS_2 a k))]
def use_laws_heldUndoS : List (FuncId × Con UU) := [(50, con_laws_markText), (52, con_laws_heldValS)]
theorem vc_laws_heldUndoS (a : (List DUndo)) (k : Int) : goal EE use_laws_heldUndoS Go.Proofs.Try.f35 con_laws_heldUndoS ann_laws_heldUndoS (a, k) = (I_laws_heldUndoS_2 a k (k, (0 : Int), PUnit.unit) ∧ ∀ (y : Int × Int × PUnit), I_laws_heldUndoS_2 a k y → bif decide (y.2.1 < (↑(List.length a) : Int)) then (0 : Int) ≤ y.2.1 ∧ Int.toNat y.2.1 < List.length a ∧ y.1 ≤ (4611686018427387903 : Int) ∧ bif !ByteArray.toList (DUndo.Key (List.getD a (Int.toNat y.2.1) zUndo)) == ByteArray.toList (markText y.1) then Lf [DV.one (Cell.lit (Value.int IntKind.i64 (-1 : Int)))] [DV.one (Cell.lit (Value.int IntKind.i64 (if markUndoS a k = a then k + (↑(cntUndoS a) : Int) else (-1 : Int))))] else (0 : Int) ≤ y.2.1 ∧ Int.toNat y.2.1 < List.length a ∧ IntKind.wrap IntKind.i64 (y.1 + (1 : Int)) ≤ (4611686018427387903 : Int) ∧ bif !ByteArray.toList (DFact.Kind (DUndo.F (List.getD a (Int.toNat y.2.1) zUndo))) == ByteArray.toList (markText (IntKind.wrap IntKind.i64 (y.1 + (1 : Int)))) then Lf [DV.one (Cell.lit (Value.int IntKind.i64 (-1 : Int)))] [DV.one (Cell.lit (Value.int IntKind.i64 (if markUndoS a k = a then k + (↑(cntUndoS a) : Int) else (-1 : Int))))] else (0 : Int) ≤ y.2.1 ∧ Int.toNat y.2.1 < List.length a ∧ (0 : Int) ≤ IntKind.wrap IntKind.i64 (IntKind.wrap IntKind.i64 (y.1 + (1 : Int)) + (1 : Int)) ∧ IntKind.wrap IntKind.i64 (IntKind.wrap IntKind.i64 (y.1 + (1 : Int)) + (1 : Int)) + (↑(cntValS (DFact.Fields (DUndo.F (List.getD a (Int.toNat y.2.1) zUndo)))) : Int) ≤ (4611686018427387904 : Int) ∧ bif decide ((if markValS (DFact.Fields (DUndo.F (List.getD a (Int.toNat y.2.1) zUndo))) (IntKind.wrap IntKind.i64 (IntKind.wrap IntKind.i64 (y.1 + (1 : Int)) + (1 : Int))) = DFact.Fields (DUndo.F (List.getD a (Int.toNat y.2.1) zUndo)) then IntKind.wrap IntKind.i64 (IntKind.wrap IntKind.i64 (y.1 + (1 : Int)) + (1 : Int)) + (↑(cntValS (DFact.Fields (DUndo.F (List.getD a (Int.toNat y.2.1) zUndo)))) : Int) else (-1 : Int)) < (0 : Int)) then Lf [DV.one (Cell.lit (Value.int IntKind.i64 (-1 : Int)))] [DV.one (Cell.lit (Value.int IntKind.i64 (if markUndoS a k = a then k + (↑(cntUndoS a) : Int) else (-1 : Int))))] else I_laws_heldUndoS_2 a k (if markValS (DFact.Fields (DUndo.F (List.getD a (Int.toNat y.2.1) zUndo))) (IntKind.wrap IntKind.i64 (IntKind.wrap IntKind.i64 (y.1 + (1 : Int)) + (1 : Int))) = DFact.Fields (DUndo.F (List.getD a (Int.toNat y.2.1) zUndo)) then IntKind.wrap IntKind.i64 (IntKind.wrap IntKind.i64 (y.1 + (1 : Int)) + (1 : Int)) + (↑(cntValS (DFact.Fields (DUndo.F (List.getD a (Int.toNat y.2.1) zUndo)))) : Int) else (-1 : Int), IntKind.wrap IntKind.i64 (y.2.1 + (1 : Int)), PUnit.unit) ∧ μ_laws_heldUndoS_2 a k (if markValS (DFact.Fields (DUndo.F (List.getD a (Int.toNat y.2.1) zUndo))) (IntKind.wrap IntKind.i64 (IntKind.wrap IntKind.i64 (y.1 + (1 : Int)) + (1 : Int))) = DFact.Fields (DUndo.F (List.getD a (Int.toNat y.2.1) zUndo)) then IntKind.wrap IntKind.i64 (IntKind.wrap IntKind.i64 (y.1 + (1 : Int)) + (1 : Int)) + (↑(cntValS (DFact.Fields (DUndo.F (List.getD a (Int.toNat y.2.1) zUndo)))) : Int) else (-1 : Int), IntKind.wrap IntKind.i64 (y.2.1 + (1 : Int)), PUnit.unit) < μ_laws_heldUndoS_2 a k y else Lf [DV.one (Cell.lit (Value.int IntKind.i64 y.1))] [DV.one (Cell.lit (Value.int IntKind.i64 (if markUndoS a k = a then k + (↑(cntUndoS a) : Int) else (-1 : Int))))]) := by kernel_rfl
theorem ok_laws_heldUndoS : Holds EE (35, con_laws_heldUndoS) := by
  refine holds_of EE_ok Go.Proofs.Try.func35 con_laws_heldUndoS (by kernel_rfl) rfl use_laws_heldUndoS (all_cons ok_laws_markText (all_cons ok_laws_heldValS all_nil)) ann_laws_heldUndoS (fun x hp hb => ?_)
  obtain ⟨a, k⟩ := x
  have hb_a : BdDV (U := UU) (.one (.sl .eUndo a)) := hb _ (List.mem_cons_self)
  have hl_a : a.length ≤ 9223372036854775807 := Bd.len hb_a
  have hb_k : BdDV (U := UU) (.one (.lit (.int .i64 k))) := hb _ (List.mem_cons_of_mem _ (List.mem_cons_self))
  have hl_k := Bd.i64 hb_k
  have hp0 : 0 ≤ k := hp _ (List.mem_cons_self)
  have hp1 : k + cntUndoS a ≤ 4611686018427387904 := hp _ (List.mem_cons_of_mem _ (List.mem_cons_self))
  clear hp hb
  rw [vc_laws_heldUndoS a k]
  refine ⟨⟨by omega, by omega, by simp [ctS], by simp⟩, ?_⟩
  rintro ⟨kk, i, ⟨⟩⟩ ⟨h1, h2, hkk, hR⟩
  simp only
  simp only [markUndoS]
  refine if_cond (fun hc => ?_) (fun hc => ?_)
  · have hc : i < a.length := by have hc := of_decide_eq_true hc; omega
    have hct := ctS_take cntUndo a zUndo h1 hc
    have hle := ctS_take_le cntUndo a (i + 1).toNat
    have hq : (cntUndoS a : Int) = ctS cntUndo a := rfl
    rw [drop_step a zUndo h1 hc] at hR
    generalize List.getD a i.toNat zUndo = x at *
    simp only [mkS, List.cons.injEq] at hR
    have e : kk + (cntUndo x : Int) = kk + 1 + 1 + (cntValS x.F.Fields : Int) := by simp only [cntUndo]; omega
    rw [e] at hR
    simp only [markUndo, cntUndo] at hR hct
    simp (disch := omega) only [wrap_i64, bne_int, toList_beq]
    obtain ⟨x_Key, ⟨x_F_Kind, x_F_Fields⟩⟩ := x
    simp only [DFact.mk.injEq, DUndo.mk.injEq] at *
    repeat' (first | refine And.intro (by omega) ?_ | fail)
    refine if_cond (fun h => Lf_no (fun hh => ?_)) (fun h => ?_)
    · have hh := hR.2 hh; simp_all
    have h : x_Key = markText (kk) := by simpa using h
    subst x_Key
    repeat' (first | refine And.intro (by omega) ?_ | fail)
    refine if_cond (fun h => Lf_no (fun hh => ?_)) (fun h => ?_)
    · have hh := hR.2 hh; simp_all
    have h : x_F_Kind = markText (kk + 1) := by simpa using h
    subst x_F_Kind
    repeat' (first | refine And.intro (by omega) ?_ | fail)
    by_cases hm : markValS x_F_Fields (kk + 1 + 1) = x_F_Fields
    rotate_left
    · simp only [if_neg hm]; rw [cond_yes (by decide)]
      exact Lf_no (fun hh => hm (by have hh := hR.2 hh; simp_all))
    simp only [if_pos hm]
    refine if_cond (fun h => absurd (of_decide_eq_true h) (by omega)) (fun h => ?_)
    simp only [hm] at hR
    clear hm
    exact ⟨⟨by omega, by omega, by omega, by simpa using hR⟩, by simp only [μ_laws_heldUndoS_2]; omega⟩
  · have hc : a.length ≤ i := by have hc := of_decide_eq_false hc; omega
    rw [drop_end a hc] at hR
    exact Lf_yes (hR.1 rfl) (by rw [hkk, ct_done _ _ hc]; rfl)
end
end AM
