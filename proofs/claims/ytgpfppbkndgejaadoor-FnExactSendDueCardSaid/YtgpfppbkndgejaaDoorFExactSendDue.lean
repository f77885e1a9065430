/- Functions of the program with their contracts: put together by gen/link.py for FnExactSendDue. -/
import Derived.Test.YtgpfppbkndgejaaDoorAmLib
import Derived.Test.YtgpfppbkndgejaaDoorAmModels
import Derived.Lib.ItoaLen
import Derived.Lib.Join
import Derived.Test.YtgpfppbkndgejaaDoorShelf
namespace AM
open Go
set_option linter.unusedVariables false
set_option linter.unusedSimpArgs false
set_option maxRecDepth 100000
noncomputable section
def con_laws_markText : Con UU where
  α := Int
  md := [.ro]
  of := fun | [.one (.lit (.int .i64 a0))] => some a0 | _ => none
  ds := fun k => [.one (.lit (.int .i64 k))]
  pre := fun k => [k ≤ 4611686018427387903]
  res := fun k => ⟨[.one (.lit (.string (markText k)))], true, []⟩
  law := by intro l x h; (try simp only at h); split at h <;> cases h; rfl
def I_laws_markText_4 (k : Int) : Int × ByteArray × Unit → Prop := fun (j, out, _) => 0 ≤ j ∧ j ≤ k ∧ (∃ l d, out = ⟨l.toArray⟩ ∧ j.toNat ≤ d ∧ mtl d j.toNat l = mtl k.toNat k.toNat [] ∧ l.length ≤ k - j)
def μ_laws_markText_4 (k : Int) : Int × ByteArray × Unit → Nat := fun (j, out, _) => j.toNat
def ann_laws_markText : con_laws_markText.α → Nat → Option (Ann UU) := fun k => annL [(4, annOf [.slot 0 (0, 1024) (.lit (.int .i64)), .slot 3 (3, 1024) (.lit .str)] (fun _ => I_laws_markText_4 k) (μ_laws_markText_4 k))]
def use_laws_markText : List (FuncId × Con UU) := []
theorem vc_laws_markText (k : Int) : goal EE use_laws_markText Go.Proofs.Tryd.f53 con_laws_markText ann_laws_markText k = (bif decide (k ≤ (0 : Int)) then Lf [DV.one (Cell.lit (Value.string { data := #[(109 : UInt8), (48 : UInt8)] : ByteArray }))] [DV.one (Cell.lit (Value.string (markText k)))]
else
  I_laws_markText_4 k (k, { data := #[] : ByteArray }, PUnit.unit) ∧
    ∀ (y : Int × ByteArray × PUnit),
      let x0 : Nat := ByteArray.size y.2.1;
      let x1 : ByteArray := strOfNums (List.map (fun (x : Cd.T Cd.byte) => x) [IntKind.wrap IntKind.u8 (IntKind.wrap IntKind.i64 ((48 : Int) + Int.tmod y.1 (10 : Int)))]);
      I_laws_markText_4 k y → bif decide (y.1 > (0 : Int)) then (10 : Int) ≠ (0 : Int) ∧ ByteArray.size x1 + x0 ≤ (4611686018427387904 : Nat) ∧ (10 : Int) ≠ (0 : Int) ∧ I_laws_markText_4 k (IntKind.wrap IntKind.i64 (Int.tdiv y.1 (10 : Int)), x1 ++ y.2.1, PUnit.unit) ∧ μ_laws_markText_4 k (IntKind.wrap IntKind.i64 (Int.tdiv y.1 (10 : Int)), x1 ++ y.2.1, PUnit.unit) < μ_laws_markText_4 k y else ByteArray.size { data := #[(109 : UInt8)] : ByteArray } + x0 ≤ (4611686018427387904 : Nat) ∧ Lf [DV.one (Cell.lit (Value.string ({ data := #[(109 : UInt8)] : ByteArray } ++ y.2.1)))] [DV.one (Cell.lit (Value.string (markText k)))]) := by kernel_rfl
theorem ok_laws_markText : Holds EE (53, con_laws_markText) := by
  refine holds_of EE_ok Go.Proofs.Tryd.func53 con_laws_markText (by kernel_rfl) rfl use_laws_markText all_nil ann_laws_markText (fun (k : Int) hp hb => ?_)
  have hb_k : BdDV (U := UU) (.one (.lit (.int .i64 k))) := hb _ (List.mem_cons_self)
  have hl_k := Bd.i64 hb_k
  have hp0 : k ≤ 4611686018427387903 := hp _ (List.mem_cons_self)
  clear hp hb
  rw [vc_laws_markText k]
  dsimp only
  refine if_cond (fun h => Lf_s ?_) (fun h => ?_)
  · have h := of_decide_eq_true h; simp only [markText]; rw [if_pos h]
  have h0 := of_decide_eq_false h
  refine ⟨⟨by omega, by omega, [], k.toNat, rfl, Nat.le_refl _, rfl, by simp⟩, ?_⟩
  rintro ⟨j, out, ⟨⟩⟩ ⟨h1, h2, l, d, rfl, hd, hm, hl⟩
  simp only
  have hz : ∀ l : List UInt8, (ByteArray.mk l.toArray).size = l.length := fun l => by simp [ByteArray.size]
  refine if_cond (fun h => ?_) (fun h => ?_)
  · have h := of_decide_eq_true h
    have ht : Int.tmod j 10 = j % 10 := Int.tmod_eq_emod_of_nonneg h1
    have hq : Int.tdiv j 10 = j / 10 := Int.tdiv_eq_ediv_of_nonneg h1
    have hu : IntKind.wrap .u8 (48 + j % 10) = 48 + j % 10 := by simp only [IntKind.wrap]; simp [IntKind.bits, IntKind.signed]; omega
    rw [ht, hq, wrap_i64 (by omega) (by omega), wrap_i64 (by omega) (by omega), hu]
    have hs : ∀ l : List UInt8, strOfNums (List.map (fun (x : Int) => x) [48 + j % 10]) ++ (⟨l.toArray⟩ : ByteArray) = ⟨((UInt8.ofNat (48 + j.toNat % 10)) :: l).toArray⟩ := fun l => by
      have e : (48 + j % 10).toNat = 48 + j.toNat % 10 := by omega
      simp only [strOfNums, List.map_cons, List.map_nil, e]
      apply ByteArray.ext
      simp
    have hs1 : (strOfNums (List.map (fun (x : Int) => x) [48 + j % 10])).size = 1 := rfl
    refine ⟨by omega, by erw [hs1]; rw [hz]; omega, by omega, ⟨by omega, by omega, _, d - 1, hs l, by omega, ?_, by simp only [List.length_cons]; omega⟩, by simp only [μ_laws_markText_4]; omega⟩
    rw [← hm]
    obtain ⟨d, rfl⟩ : ∃ e, d = e + 1 := ⟨d - 1, by omega⟩
    have e : (j / 10).toNat = j.toNat / 10 := by omega
    rw [e]
    simp only [Nat.add_sub_cancel, mtl]
    rw [if_neg (by omega)]
  · have h := of_decide_eq_false h
    have hj : j.toNat = 0 := by omega
    rw [hj, mtl_zero] at hm
    refine ⟨by rw [hz]; simp [ByteArray.size]; omega, Lf_s ?_⟩
    simp only [markText]
    rw [if_neg h0, ← hm]
    apply ByteArray.ext
    simp
def con_laws_eqStringS : Con UU where
  α := (List ByteArray) × (List ByteArray)
  md := [.ro, .ro]
  of := fun | [.one (.sl .str a0), .one (.sl .str a1)] => some (a0, a1) | _ => none
  ds := fun (a, b) => [.one (.sl .str a), .one (.sl .str b)]
  pre := fun (a, b) => []
  res := fun (a, b) => ⟨[.one (.lit (.bool (decide (a = b))))], true, []⟩
  law := by intro l x h; (try simp only at h); split at h <;> cases h; rfl
def I_laws_eqStringS_4 (a : (List ByteArray)) (b : (List ByteArray)) : Int × Unit → Prop := fun (i, _) => 0 ≤ i ∧ i ≤ a.length ∧ a.length = b.length ∧ (a.drop i.toNat = b.drop i.toNat ↔ a = b)
def μ_laws_eqStringS_4 (a : (List ByteArray)) (b : (List ByteArray)) : Int × Unit → Nat := fun (i, _) => a.length - i.toNat
def ann_laws_eqStringS : con_laws_eqStringS.α → Nat → Option (Ann UU) := fun (a, b) => annL [(4, annOf [.slot 5 (5, 1024) (.lit (.int .i64))] (fun _ => I_laws_eqStringS_4 a b) (μ_laws_eqStringS_4 a b))]
def use_laws_eqStringS : List (FuncId × Con UU) := []
theorem vc_laws_eqStringS (a : (List ByteArray)) (b : (List ByteArray)) : goal EE use_laws_eqStringS Go.Proofs.Tryd.f29 con_laws_eqStringS ann_laws_eqStringS (a, b) = (bif (↑(List.length a) : Int) != (↑(List.length b) : Int) then Lf [DV.one (Cell.lit (Value.bool false))] [DV.one (Cell.lit (Value.bool (decide (a = b))))] else I_laws_eqStringS_4 a b ((0 : Int), PUnit.unit) ∧ ∀ (y : Int × PUnit), I_laws_eqStringS_4 a b y → bif decide (y.1 < (↑(List.length a) : Int)) then (0 : Int) ≤ y.1 ∧ Int.toNat y.1 < List.length a ∧ (0 : Int) ≤ y.1 ∧ Int.toNat y.1 < List.length b ∧ bif !ByteArray.toList (List.getD a (Int.toNat y.1) noBytes) == ByteArray.toList (List.getD b (Int.toNat y.1) noBytes) then Lf [DV.one (Cell.lit (Value.bool false))] [DV.one (Cell.lit (Value.bool (decide (a = b))))] else I_laws_eqStringS_4 a b (IntKind.wrap IntKind.i64 (y.1 + (1 : Int)), PUnit.unit) ∧ μ_laws_eqStringS_4 a b (IntKind.wrap IntKind.i64 (y.1 + (1 : Int)), PUnit.unit) < μ_laws_eqStringS_4 a b y else Lf [DV.one (Cell.lit (Value.bool true))] [DV.one (Cell.lit (Value.bool (decide (a = b))))]) := by kernel_rfl
theorem ok_laws_eqStringS : Holds EE (29, con_laws_eqStringS) := by
  refine holds_of EE_ok Go.Proofs.Tryd.func29 con_laws_eqStringS (by kernel_rfl) rfl use_laws_eqStringS all_nil ann_laws_eqStringS (fun x hp hb => ?_)
  obtain ⟨a, b⟩ := x
  have hb_a : BdDV (U := UU) (.one (.sl .str a)) := hb _ (List.mem_cons_self)
  have hl_a : a.length ≤ 9223372036854775807 := Bd.len hb_a
  have hb_b : BdDV (U := UU) (.one (.sl .str b)) := hb _ (List.mem_cons_of_mem _ (List.mem_cons_self))
  have hl_b : b.length ≤ 9223372036854775807 := Bd.len hb_b
  clear hp hb
  rw [vc_laws_eqStringS a b]
  refine if_cond (fun h => Lf_f ?_) (fun h => ⟨?_, ?_⟩)
  · rintro rfl; simp at h
  · simp [I_laws_eqStringS_4] at *; omega
  rintro ⟨i, ⟨⟩⟩ ⟨h1, h2, h3, hR⟩
  simp only at *
  refine if_cond (fun hc => ?_) (fun hc => ?_)
  · have hc : i < a.length := by simpa using hc
    rw [drop_step a noBytes h1 hc, drop_step b noBytes h1 (by omega)] at hR
    rw [wrap_i64 (by omega) (by omega)]
    refine ⟨by omega, by omega, by omega, by omega, if_cond (fun h => Lf_f ?_) (fun h => ⟨⟨by omega, by omega, h3, ?_⟩, ?_⟩)⟩
    · rw [← hR]; simp at h; simp [h]
    · rw [← hR]; simp at h; simp [h]
    · simp only [μ_laws_eqStringS_4]; omega
  · have hc : a.length ≤ i := by simpa using hc
    rw [drop_end a hc, drop_end b (by omega)] at hR
    exact Lf_t (hR.1 rfl)
def con_laws_markStringS : Con UU where
  α := (List ByteArray) × Int
  md := [.wr, .ro]
  of := fun | [.one (.sl .str a0), .one (.lit (.int .i64 a1))] => some (a0, a1) | _ => none
  ds := fun (a, k) => [.one (.sl .str a), .one (.lit (.int .i64 k))]
  pre := fun (a, k) => [0 ≤ k, k + cntStringS a ≤ 4611686018427387904]
  res := fun (a, k) => ⟨[.one (.lit (.int .i64 (k + cntStringS a)))], true, [.one (.sl .str (markStringS a k))]⟩
  law := by intro l x h; (try simp only at h); split at h <;> cases h; rfl
def I_laws_markStringS_2 (a : (List ByteArray)) (k : Int) : List ByteArray × Int × Int × Unit → Prop := fun (row, kk, i, _) => 0 ≤ i ∧ i ≤ a.length ∧ row = (mkS (fun _ k => markText k) (fun _ => 1) a k).take i.toNat ++ a.drop i.toNat ∧ kk = k + ctS (fun _ => 1) (a.take i.toNat)
def μ_laws_markStringS_2 (a : (List ByteArray)) (k : Int) : List ByteArray × Int × Int × Unit → Nat := fun (row, kk, i, _) => a.length - i.toNat
def ann_laws_markStringS : con_laws_markStringS.α → Nat → Option (Ann UU) := fun (a, k) => annL [(2, annOf [.slot 0 (2000000, 0) (.own .str true), .slot 1 (1, 1024) (.lit (.int .i64)), .slot 5 (5, 1024) (.lit (.int .i64))] (fun _ => I_laws_markStringS_2 a k) (μ_laws_markStringS_2 a k))]
def use_laws_markStringS : List (FuncId × Con UU) := [(53, con_laws_markText)]
theorem vc_laws_markStringS (a : (List ByteArray)) (k : Int) : goal EE use_laws_markStringS Go.Proofs.Tryd.f31 con_laws_markStringS ann_laws_markStringS (a, k) = (I_laws_markStringS_2 a k (a, k, (0 : Int), PUnit.unit) ∧
  ∀ (y : List ByteArray × Int × Int × PUnit),
    let x0 : Nat := Int.toNat y.2.2.1;
    I_laws_markStringS_2 a k y → bif decide (y.2.2.1 < (↑(List.length y.1) : Int)) then y.2.1 ≤ (4611686018427387903 : Int) ∧ (0 : Int) ≤ y.2.2.1 ∧ x0 < List.length y.1 ∧ x0 < List.length y.1 ∧ I_laws_markStringS_2 a k (List.set y.1 x0 (markText y.2.1), IntKind.wrap IntKind.i64 (y.2.1 + (1 : Int)), IntKind.wrap IntKind.i64 (y.2.2.1 + (1 : Int)), PUnit.unit) ∧ μ_laws_markStringS_2 a k (List.set y.1 x0 (markText y.2.1), IntKind.wrap IntKind.i64 (y.2.1 + (1 : Int)), IntKind.wrap IntKind.i64 (y.2.2.1 + (1 : Int)), PUnit.unit) < μ_laws_markStringS_2 a k y else asD [DV.one (Cell.lit (Value.int IntKind.i64 y.2.1))] = asD [DV.one (Cell.lit (Value.int IntKind.i64 (k + (↑(cntStringS a) : Int))))] ∧ asD [DV.one (Cell.sl Cd.str y.1)] = asD [DV.one (Cell.sl Cd.str (markStringS a k))]) := by kernel_rfl
theorem ok_laws_markStringS : Holds EE (31, con_laws_markStringS) := by
  refine holds_of EE_ok Go.Proofs.Tryd.func31 con_laws_markStringS (by kernel_rfl) rfl use_laws_markStringS (all_cons ok_laws_markText all_nil) ann_laws_markStringS (fun x hp hb => ?_)
  obtain ⟨a, k⟩ := x
  have hb_a : BdDV (U := UU) (.one (.sl .str a)) := hb _ (List.mem_cons_self)
  have hl_a : a.length ≤ 9223372036854775807 := Bd.len hb_a
  have hb_k : BdDV (U := UU) (.one (.lit (.int .i64 k))) := hb _ (List.mem_cons_of_mem _ (List.mem_cons_self))
  have hl_k := Bd.i64 hb_k
  have hp0 : 0 ≤ k := hp _ (List.mem_cons_self)
  have hp1 : k + cntStringS a ≤ 4611686018427387904 := hp _ (List.mem_cons_of_mem _ (List.mem_cons_self))
  clear hp hb
  rw [vc_laws_markStringS a k]
  dsimp only
  refine ⟨⟨by omega, by omega, by simp, by simp [ctS]⟩, ?_⟩
  rintro ⟨row, kk, i, ⟨⟩⟩ ⟨h1, h2, rfl, rfl⟩
  simp only
  have hl := mk_rl (fun _ k => markText k) (fun _ => 1) a k h1 h2
  refine if_cond (fun hc => ?_) (fun hc => ?_)
  · have hc : i < a.length := by have hc := of_decide_eq_true hc; omega
    have hct := ctS_take (fun _ => 1) a noBytes h1 hc
    have hle := ctS_take_le (fun _ => 1) a (i + 1).toNat
    have hg := mk_getD _ a noBytes (mk_tl (fun _ k => markText k) (fun _ => 1) a k h1 h2) h1 hc
    have hM := mkS_step (fun _ k => markText k) (fun _ => 1) a noBytes k h1 hc
    have hq : (cntStringS a : Int) = ctS (fun _ => 1) a := rfl
    generalize List.getD a i.toNat noBytes = x at *
    generalize hkk : k + (ctS (fun _ => 1) (a.take i.toNat) : Int) = kk at *
    generalize List.take i.toNat (mkS (fun _ k => markText k) (fun _ => 1) a k) ++ List.drop i.toNat a = R at *
    simp (disch := first | omega | (simp only [List.length_modify]; omega)) only [List.length_modify, wrap_i64, getD_modify, modify_modify, hg, hl]
    repeat' (first | refine And.intro (by omega) ?_ | fail)
    exact ⟨⟨by omega, by omega, hM, by omega⟩, by simp only [μ_laws_markStringS_2]; omega⟩
  · have hc : a.length ≤ i := by have hc := of_decide_eq_false hc; omega
    rw [mk_done (fun _ k => markText k) (fun _ => 1) a k hc, ct_done (fun _ => 1) a hc]
    exact ⟨rfl, rfl⟩
def con_laws_heldStringS : Con UU where
  α := (List ByteArray) × Int
  md := [.ro, .ro]
  of := fun | [.one (.sl .str a0), .one (.lit (.int .i64 a1))] => some (a0, a1) | _ => none
  ds := fun (a, k) => [.one (.sl .str a), .one (.lit (.int .i64 k))]
  pre := fun (a, k) => [0 ≤ k, k + cntStringS a ≤ 4611686018427387904]
  res := fun (a, k) => ⟨[.one (.lit (.int .i64 (if markStringS a k = a then k + cntStringS a else -1)))], true, []⟩
  law := by intro l x h; (try simp only at h); split at h <;> cases h; rfl
def I_laws_heldStringS_2 (a : (List ByteArray)) (k : Int) : Int × Int × Unit → Prop := fun (kk, i, _) => 0 ≤ i ∧ i ≤ a.length ∧ kk = k + ctS (fun _ => 1) (a.take i.toNat) ∧ (mkS (fun _ k => markText k) (fun _ => 1) (a.drop i.toNat) kk = a.drop i.toNat ↔ mkS (fun _ k => markText k) (fun _ => 1) a k = a)
def μ_laws_heldStringS_2 (a : (List ByteArray)) (k : Int) : Int × Int × Unit → Nat := fun (kk, i, _) => a.length - i.toNat
def ann_laws_heldStringS : con_laws_heldStringS.α → Nat → Option (Ann UU) := fun (a, k) => annL [(2, annOf [.slot 1 (1, 1024) (.lit (.int .i64)), .slot 5 (5, 1024) (.lit (.int .i64))] (fun _ => I_laws_heldStringS_2 a k) (μ_laws_heldStringS_2 a k))]
def use_laws_heldStringS : List (FuncId × Con UU) := [(53, con_laws_markText)]
theorem vc_laws_heldStringS (a : (List ByteArray)) (k : Int) : goal EE use_laws_heldStringS Go.Proofs.Tryd.f33 con_laws_heldStringS ann_laws_heldStringS (a, k) = (I_laws_heldStringS_2 a k (k, (0 : Int), PUnit.unit) ∧
  ∀ (y : Int × Int × PUnit),
    let x0 : Nat := Int.toNat y.2.1;
    I_laws_heldStringS_2 a k y → bif decide (y.2.1 < (↑(List.length a) : Int)) then (0 : Int) ≤ y.2.1 ∧ x0 < List.length a ∧ y.1 ≤ (4611686018427387903 : Int) ∧ bif !ByteArray.toList (List.getD a x0 noBytes) == ByteArray.toList (markText y.1) then Lf [DV.one (Cell.lit (Value.int IntKind.i64 (-1 : Int)))] [DV.one (Cell.lit (Value.int IntKind.i64 (if markStringS a k = a then k + (↑(cntStringS a) : Int) else (-1 : Int))))] else I_laws_heldStringS_2 a k (IntKind.wrap IntKind.i64 (y.1 + (1 : Int)), IntKind.wrap IntKind.i64 (y.2.1 + (1 : Int)), PUnit.unit) ∧ μ_laws_heldStringS_2 a k (IntKind.wrap IntKind.i64 (y.1 + (1 : Int)), IntKind.wrap IntKind.i64 (y.2.1 + (1 : Int)), PUnit.unit) < μ_laws_heldStringS_2 a k y else Lf [DV.one (Cell.lit (Value.int IntKind.i64 y.1))] [DV.one (Cell.lit (Value.int IntKind.i64 (if markStringS a k = a then k + (↑(cntStringS a) : Int) else (-1 : Int))))]) := by kernel_rfl
theorem ok_laws_heldStringS : Holds EE (33, con_laws_heldStringS) := by
  refine holds_of EE_ok Go.Proofs.Tryd.func33 con_laws_heldStringS (by kernel_rfl) rfl use_laws_heldStringS (all_cons ok_laws_markText all_nil) ann_laws_heldStringS (fun x hp hb => ?_)
  obtain ⟨a, k⟩ := x
  have hb_a : BdDV (U := UU) (.one (.sl .str a)) := hb _ (List.mem_cons_self)
  have hl_a : a.length ≤ 9223372036854775807 := Bd.len hb_a
  have hb_k : BdDV (U := UU) (.one (.lit (.int .i64 k))) := hb _ (List.mem_cons_of_mem _ (List.mem_cons_self))
  have hl_k := Bd.i64 hb_k
  have hp0 : 0 ≤ k := hp _ (List.mem_cons_self)
  have hp1 : k + cntStringS a ≤ 4611686018427387904 := hp _ (List.mem_cons_of_mem _ (List.mem_cons_self))
  clear hp hb
  rw [vc_laws_heldStringS a k]
  dsimp only
  refine ⟨⟨by omega, by omega, by simp [ctS], by simp⟩, ?_⟩
  rintro ⟨kk, i, ⟨⟩⟩ ⟨h1, h2, hkk, hR⟩
  simp only
  simp only [markStringS]
  refine if_cond (fun hc => ?_) (fun hc => ?_)
  · have hc : i < a.length := by have hc := of_decide_eq_true hc; omega
    have hct := ctS_take (fun _ => 1) a noBytes h1 hc
    have hle := ctS_take_le (fun _ => 1) a (i + 1).toNat
    have hq : (cntStringS a : Int) = ctS (fun _ => 1) a := rfl
    rw [drop_step a noBytes h1 hc] at hR
    generalize List.getD a i.toNat noBytes = x at *
    simp only [mkS, List.cons.injEq] at hR
    have e : kk + (((1 : Nat) : Int) : Int) = kk + 1 := by rfl
    rw [e] at hR
    skip
    simp (disch := omega) only [wrap_i64, bne_int, toList_beq]
    repeat' (first | refine And.intro (by omega) ?_ | fail)
    refine if_cond (fun h => Lf_no (fun hh => ?_)) (fun h => ?_)
    · have hh := hR.2 hh; simp_all
    have h : x = markText (kk) := by simpa using h
    subst x
    exact ⟨⟨by omega, by omega, by omega, by simpa using hR⟩, by simp only [μ_laws_heldStringS_2]; omega⟩
  · have hc : a.length ≤ i := by have hc := of_decide_eq_false hc; omega
    rw [drop_end a hc] at hR
    exact Lf_yes (hR.1 rfl) (by rw [hkk, ct_done _ _ hc]; rfl)
def con_laws_szVal : Con UU where
  α := DVal × Int
  md := [.ro, .ro]
  of := fun | [.agg [.lit (.int .i64 a0), .lit (.int .i64 a1), .lit (.string a2)], .one (.lit (.int .i64 a3))] => some (⟨a0, a1, a2⟩, a3) | _ => none
  ds := fun (a, left) => [.agg [.lit (.int .i64 a.K), .lit (.int .i64 a.N), .lit (.string a.S)], .one (.lit (.int .i64 left))]
  pre := fun (a, left) => [0 ≤ left]
  res := fun (a, left) => ⟨[.one (.lit (.int .i64 (szr left (sizeVal a))))], true, []⟩
  law := by intro l x h; (try simp only at h); split at h <;> cases h; rfl
def ann_laws_szVal : con_laws_szVal.α → Nat → Option (Ann UU) := fun (a, left) => annL []
def use_laws_szVal : List (FuncId × Con UU) := []
theorem vc_laws_szVal (a : DVal) (left : Int) : goal EE use_laws_szVal Go.Proofs.Tryd.f18 con_laws_szVal ann_laws_szVal (a, left) = (let x0 : Int := IntKind.wrap IntKind.i64 (left - (↑(ByteArray.size a.S) : Int));
bif decide (x0 < (0 : Int)) then Lf [DV.one (Cell.lit (Value.int IntKind.i64 (-1 : Int)))] [DV.one (Cell.lit (Value.int IntKind.i64 (szr left (sizeVal a))))] else Lf [DV.one (Cell.lit (Value.int IntKind.i64 x0))] [DV.one (Cell.lit (Value.int IntKind.i64 (szr left (sizeVal a))))]) := by kernel_rfl
theorem ok_laws_szVal : Holds EE (18, con_laws_szVal) := by
  refine holds_of EE_ok Go.Proofs.Tryd.func18 con_laws_szVal (by kernel_rfl) rfl use_laws_szVal all_nil ann_laws_szVal (fun x hp hb => ?_)
  obtain ⟨a, left⟩ := x
  have hb_a : BdDV (U := UU) (.agg [.lit (.int .i64 a.K), .lit (.int .i64 a.N), .lit (.string a.S)]) := hb _ (List.mem_cons_self)
  have hl_a_S : a.S.size ≤ 9223372036854775807 := Bd.str (hb_a _ (by simp))
  have hb_left : BdDV (U := UU) (.one (.lit (.int .i64 left))) := hb _ (List.mem_cons_of_mem _ (List.mem_cons_self))
  have hl_left := Bd.i64 hb_left
  have hp0 : 0 ≤ left := hp _ (List.mem_cons_self)
  clear hp hb
  rw [vc_laws_szVal a left]
  dsimp only
  rw [wrap_i64 (by omega) (by omega)]
  refine if_cond (fun h => Lf_i (szr_bad' ?_)) (fun h => ?_)
  · have h := of_decide_eq_true h; simp only [sizeVal]; omega
  have h0 := of_decide_eq_false h
  exact Lf_i (by rw [← szr_ok' (by simp only [sizeVal]; omega)]; simp only [sizeVal]; try omega)
def con_laws_toVal : Con UU where
  α := DVal
  md := [.ro]
  of := fun | [.agg [.lit (.int .i64 a0), .lit (.int .i64 a1), .lit (.string a2)]] => some ⟨a0, a1, a2⟩ | _ => none
  ds := fun a => [.agg [.lit (.int .i64 a.K), .lit (.int .i64 a.N), .lit (.string a.S)]]
  pre := fun a => [sizeVal a ≤ 4294967296]
  res := fun a => ⟨[.agg [.lit (.int .i64 a.K), .lit (.int .i64 a.N), .lit (.string a.S)]], true, []⟩
  law := by intro l x h; (try simp only at h); split at h <;> cases h; rfl
def ann_laws_toVal : con_laws_toVal.α → Nat → Option (Ann UU) := fun a => annL []
def use_laws_toVal : List (FuncId × Con UU) := []
theorem vc_laws_toVal (a : DVal) : goal EE use_laws_toVal Go.Proofs.Tryd.f21 con_laws_toVal ann_laws_toVal a = (Lf [DV.agg [Cell.lit (Value.int IntKind.i64 a.K), Cell.lit (Value.int IntKind.i64 a.N), Cell.lit (Value.string a.S)]] [DV.agg [Cell.lit (Value.int IntKind.i64 a.K), Cell.lit (Value.int IntKind.i64 a.N), Cell.lit (Value.string a.S)]]) := by kernel_rfl
theorem ok_laws_toVal : Holds EE (21, con_laws_toVal) := by
  refine holds_of EE_ok Go.Proofs.Tryd.func21 con_laws_toVal (by kernel_rfl) rfl use_laws_toVal all_nil ann_laws_toVal (fun (a : DVal) hp hb => ?_)
  have hb_a : BdDV (U := UU) (.agg [.lit (.int .i64 a.K), .lit (.int .i64 a.N), .lit (.string a.S)]) := hb _ (List.mem_cons_self)
  have hl_a_S : a.S.size ≤ 9223372036854775807 := Bd.str (hb_a _ (by simp))
  have hp0 : sizeVal a ≤ 4294967296 := hp _ (List.mem_cons_self)
  clear hp hb
  rw [vc_laws_toVal a]
  simp only [sizeVal] at hp0
  repeat' (first | exact Lf_rfl _ | (refine And.intro (by omega) ?_))
def con_laws_eqVal : Con UU where
  α := DVal × DVal
  md := [.ro, .ro]
  of := fun | [.agg [.lit (.int .i64 a0), .lit (.int .i64 a1), .lit (.string a2)], .agg [.lit (.int .i64 a3), .lit (.int .i64 a4), .lit (.string a5)]] => some (⟨a0, a1, a2⟩, ⟨a3, a4, a5⟩) | _ => none
  ds := fun (a, b) => [.agg [.lit (.int .i64 a.K), .lit (.int .i64 a.N), .lit (.string a.S)], .agg [.lit (.int .i64 b.K), .lit (.int .i64 b.N), .lit (.string b.S)]]
  pre := fun (a, b) => []
  res := fun (a, b) => ⟨[.one (.lit (.bool (decide (a = b))))], true, []⟩
  law := by intro l x h; (try simp only at h); split at h <;> cases h; rfl
def ann_laws_eqVal : con_laws_eqVal.α → Nat → Option (Ann UU) := fun (a, b) => annL []
def use_laws_eqVal : List (FuncId × Con UU) := []
theorem vc_laws_eqVal (a : DVal) (b : DVal) : goal EE use_laws_eqVal Go.Proofs.Tryd.f52 con_laws_eqVal ann_laws_eqVal (a, b) = (bif a.K != b.K then Lf [DV.one (Cell.lit (Value.bool false))] [DV.one (Cell.lit (Value.bool (decide (a = b))))] else bif a.N != b.N then Lf [DV.one (Cell.lit (Value.bool false))] [DV.one (Cell.lit (Value.bool (decide (a = b))))] else bif !ByteArray.toList a.S == ByteArray.toList b.S then Lf [DV.one (Cell.lit (Value.bool false))] [DV.one (Cell.lit (Value.bool (decide (a = b))))] else Lf [DV.one (Cell.lit (Value.bool true))] [DV.one (Cell.lit (Value.bool (decide (a = b))))]) := by kernel_rfl
theorem ok_laws_eqVal : Holds EE (52, con_laws_eqVal) := by
  refine holds_of EE_ok Go.Proofs.Tryd.func52 con_laws_eqVal (by kernel_rfl) rfl use_laws_eqVal all_nil ann_laws_eqVal (fun x hp hb => ?_)
  obtain ⟨a, b⟩ := x
  have hb_a : BdDV (U := UU) (.agg [.lit (.int .i64 a.K), .lit (.int .i64 a.N), .lit (.string a.S)]) := hb _ (List.mem_cons_self)
  have hl_a_S : a.S.size ≤ 9223372036854775807 := Bd.str (hb_a _ (by simp))
  have hb_b : BdDV (U := UU) (.agg [.lit (.int .i64 b.K), .lit (.int .i64 b.N), .lit (.string b.S)]) := hb _ (List.mem_cons_of_mem _ (List.mem_cons_self))
  have hl_b_S : b.S.size ≤ 9223372036854775807 := Bd.str (hb_b _ (by simp))
  clear hp hb
  rw [vc_laws_eqVal a b]
  obtain ⟨aK, aN, aS⟩ := a
  obtain ⟨bK, bN, bS⟩ := b
  repeat' (apply if_cond <;> intro _)
  all_goals (first | apply Lf_t | apply Lf_f) <;> simp_all
def con_laws_szValS : Con UU where
  α := (List DVal) × Int
  md := [.ro, .ro]
  of := fun | [.one (.sl .lVal a0), .one (.lit (.int .i64 a1))] => some (a0, a1) | _ => none
  ds := fun (a, left) => [.one (.sl .lVal a), .one (.lit (.int .i64 left))]
  pre := fun (a, left) => [0 ≤ left]
  res := fun (a, left) => ⟨[.one (.lit (.int .i64 (szr left (sizeValS a))))], true, []⟩
  law := by intro l x h; (try simp only at h); split at h <;> cases h; rfl
def I_laws_szValS_5 (a : (List DVal)) (left : Int) : Int × Int × Unit → Prop := fun (lf, i, _) => 0 ≤ lf ∧ 0 ≤ i ∧ i ≤ a.length ∧ szr lf ((a.drop i.toNat).map sizeVal).sum = szr left (sizeValS a)
def μ_laws_szValS_5 (a : (List DVal)) (left : Int) : Int × Int × Unit → Nat := fun (lf, i, _) => a.length - i.toNat
def ann_laws_szValS : con_laws_szValS.α → Nat → Option (Ann UU) := fun (a, left) => annL [(5, annOf [.slot 1 (1, 1024) (.lit (.int .i64)), .slot 5 (5, 1024) (.lit (.int .i64))] (fun _ => I_laws_szValS_5 a left) (μ_laws_szValS_5 a left))]
def use_laws_szValS : List (FuncId × Con UU) := [(18, con_laws_szVal)]
theorem vc_laws_szValS (a : (List DVal)) (left : Int) : goal EE use_laws_szValS Go.Proofs.Tryd.f72 con_laws_szValS ann_laws_szValS (a, left) = (let x0 : Int := IntKind.wrap IntKind.i64 (left - (↑(List.length a) : Int));
bif decide (x0 < (0 : Int)) then Lf [DV.one (Cell.lit (Value.int IntKind.i64 (-1 : Int)))] [DV.one (Cell.lit (Value.int IntKind.i64 (szr left (sizeValS a))))]
else
  I_laws_szValS_5 a left (x0, (0 : Int), PUnit.unit) ∧
    ∀ (y : Int × Int × PUnit),
      let x1 : Int := szr y.1 (sizeVal (List.getD a (Int.toNat y.2.1) zVal));
      I_laws_szValS_5 a left y → bif decide (y.2.1 < (↑(List.length a) : Int)) then (0 : Int) ≤ y.2.1 ∧ Int.toNat y.2.1 < List.length a ∧ (0 : Int) ≤ y.1 ∧ bif decide (x1 < (0 : Int)) then Lf [DV.one (Cell.lit (Value.int IntKind.i64 (-1 : Int)))] [DV.one (Cell.lit (Value.int IntKind.i64 (szr left (sizeValS a))))] else I_laws_szValS_5 a left (x1, IntKind.wrap IntKind.i64 (y.2.1 + (1 : Int)), PUnit.unit) ∧ μ_laws_szValS_5 a left (x1, IntKind.wrap IntKind.i64 (y.2.1 + (1 : Int)), PUnit.unit) < μ_laws_szValS_5 a left y else Lf [DV.one (Cell.lit (Value.int IntKind.i64 y.1))] [DV.one (Cell.lit (Value.int IntKind.i64 (szr left (sizeValS a))))]) := by kernel_rfl
theorem ok_laws_szValS : Holds EE (72, con_laws_szValS) := by
  refine holds_of EE_ok Go.Proofs.Tryd.func72 con_laws_szValS (by kernel_rfl) rfl use_laws_szValS (all_cons ok_laws_szVal all_nil) ann_laws_szValS (fun x hp hb => ?_)
  obtain ⟨a, left⟩ := x
  have hb_a : BdDV (U := UU) (.one (.sl .lVal a)) := hb _ (List.mem_cons_self)
  have hl_a : a.length ≤ 9223372036854775807 := Bd.len hb_a
  have hb_left : BdDV (U := UU) (.one (.lit (.int .i64 left))) := hb _ (List.mem_cons_of_mem _ (List.mem_cons_self))
  have hl_left := Bd.i64 hb_left
  have hp0 : 0 ≤ left := hp _ (List.mem_cons_self)
  clear hp hb
  rw [vc_laws_szValS a left]
  dsimp only
  rw [wrap_i64 (by omega) (by omega)]
  refine if_cond (fun h => Lf_i ?_) (fun h => ⟨?_, ?_⟩)
  · simp [szr, sizeValS] at *; omega
  · simp only [I_laws_szValS_5, sizeValS]; simp at h; have h' : 0 ≤ left - a.length := by omega
    exact ⟨h', by omega, by omega, szr_sub h'⟩
  rintro ⟨lf, i, ⟨⟩⟩ ⟨h0, h1, h2, hR⟩
  refine if_cond (fun hc => ?_) (fun hc => ?_)
  · have hc : i < a.length := by simpa using hc
    rw [drop_step a zVal h1 hc, List.map_cons, List.sum_cons] at hR
    simp only at *
    rw [wrap_i64 (by omega) (by omega)]
    generalize List.getD a i.toNat zVal = x at *
    refine ⟨by omega, by omega, by omega, if_cond (fun h => Lf_i ?_) (fun h => ⟨⟨?_, by omega, by omega, ?_⟩, ?_⟩)⟩
    · rw [← hR]; exact (szr_bad (of_decide_eq_true h)).symm
    · simp at h; omega
    · rw [← hR]; simp at h; exact szr_szr h
    · simp only [μ_laws_szValS_5]; omega
  · have hc : a.length ≤ i := by simpa using hc
    rw [drop_end a hc] at hR
    apply Lf_i; rw [← hR]; simp [szr, h0]
def con_laws_toValS : Con UU where
  α := (List DVal)
  md := [.ro]
  of := fun | [.one (.sl .lVal a0)] => some a0 | _ => none
  ds := fun a => [.one (.sl .lVal a)]
  pre := fun a => [sizeValS a ≤ 4294967296]
  res := fun a => ⟨[.one (.sl .eVal a)], true, []⟩
  law := by intro l x h; (try simp only at h); split at h <;> cases h; rfl
def I_laws_toValS_3 (a : (List DVal)) : List DVal × Int × Unit → Prop := fun (out, i, _) => 0 ≤ i ∧ i ≤ a.length ∧ out = a.take i.toNat ++ List.replicate (a.length - i.toNat) zVal
def μ_laws_toValS_3 (a : (List DVal)) : List DVal × Int × Unit → Nat := fun (out, i, _) => a.length - i.toNat
def ann_laws_toValS : con_laws_toValS.α → Nat → Option (Ann UU) := fun a => annL [(3, annOf [.slot 3 (3, 1024) (.own .eVal true), .slot 4 (4, 1024) (.lit (.int .i64))] (fun _ => I_laws_toValS_3 a) (μ_laws_toValS_3 a))]
def use_laws_toValS : List (FuncId × Con UU) := [(21, con_laws_toVal)]
theorem vc_laws_toValS (a : (List DVal)) : goal EE use_laws_toValS Go.Proofs.Tryd.f77 con_laws_toValS ann_laws_toValS a = (let x0 : Int := (↑(List.length a) : Int);
(0 : Int) ≤ x0 ∧
  x0 = x0 ∧
    x0 ≤ (4294967296 : Int) ∧
      I_laws_toValS_3 a (List.replicate (Int.toNat x0) zVal, (0 : Int), PUnit.unit) ∧
        ∀ (y : List DVal × Int × PUnit),
          let x1 : Nat := Int.toNat y.2.1;
          I_laws_toValS_3 a y → bif decide (y.2.1 < x0) then (0 : Int) ≤ y.2.1 ∧ x1 < List.length a ∧ sizeVal (List.getD a x1 zVal) ≤ (4294967296 : Nat) ∧ (0 : Int) ≤ y.2.1 ∧ x1 < List.length y.1 ∧ x1 < List.length y.1 ∧ I_laws_toValS_3 a (List.set y.1 x1 (List.getD a x1 zVal), IntKind.wrap IntKind.i64 (y.2.1 + (1 : Int)), PUnit.unit) ∧ μ_laws_toValS_3 a (List.set y.1 x1 (List.getD a x1 zVal), IntKind.wrap IntKind.i64 (y.2.1 + (1 : Int)), PUnit.unit) < μ_laws_toValS_3 a y else Lf [DV.one (Cell.sl Cd.eVal y.1)] [DV.one (Cell.sl Cd.eVal a)]) := by kernel_rfl
theorem ok_laws_toValS : Holds EE (77, con_laws_toValS) := by
  refine holds_of EE_ok Go.Proofs.Tryd.func77 con_laws_toValS (by kernel_rfl) rfl use_laws_toValS (all_cons ok_laws_toVal all_nil) ann_laws_toValS (fun (a : (List DVal)) hp hb => ?_)
  have hb_a : BdDV (U := UU) (.one (.sl .lVal a)) := hb _ (List.mem_cons_self)
  have hl_a : a.length ≤ 9223372036854775807 := Bd.len hb_a
  have hp0 : sizeValS a ≤ 4294967296 := hp _ (List.mem_cons_self)
  clear hp hb
  rw [vc_laws_toValS a]
  dsimp only
  have hlen : a.length ≤ 4294967296 := by simp only [sizeValS] at hp0; omega
  refine ⟨by omega, rfl, by omega, ?_, ?_⟩
  · simp [I_laws_toValS_3]
  rintro ⟨out, i, ⟨⟩⟩ ⟨h1, h2, rfl⟩
  simp only at *
  refine if_cond (fun hc => ?_) (fun hc => ?_)
  · have hc : i < a.length := by simpa using hc
    rw [wrap_i64 (by omega) (by omega), set_fill a zVal h1 hc]
    exact ⟨h1, by omega, by exact Nat.le_trans (sum_getD_le sizeVal a zVal h1 hc) (by simp only [sizeValS] at hp0; omega), h1, by simp; omega, by simp; omega, ⟨by omega, by omega, rfl⟩, by simp only [μ_laws_toValS_3]; omega⟩
  · have hc : a.length ≤ i := by simpa using hc
    have e : i.toNat = a.length := by omega
    rw [e]; simp; exact Lf_rfl _
def con_laws_eqValS : Con UU where
  α := (List DVal) × (List DVal)
  md := [.ro, .ro]
  of := fun | [.one (.sl .eVal a0), .one (.sl .eVal a1)] => some (a0, a1) | _ => none
  ds := fun (a, b) => [.one (.sl .eVal a), .one (.sl .eVal b)]
  pre := fun (a, b) => []
  res := fun (a, b) => ⟨[.one (.lit (.bool (decide (a = b))))], true, []⟩
  law := by intro l x h; (try simp only at h); split at h <;> cases h; rfl
def I_laws_eqValS_4 (a : (List DVal)) (b : (List DVal)) : Int × Unit → Prop := fun (i, _) => 0 ≤ i ∧ i ≤ a.length ∧ a.length = b.length ∧ (a.drop i.toNat = b.drop i.toNat ↔ a = b)
def μ_laws_eqValS_4 (a : (List DVal)) (b : (List DVal)) : Int × Unit → Nat := fun (i, _) => a.length - i.toNat
def ann_laws_eqValS : con_laws_eqValS.α → Nat → Option (Ann UU) := fun (a, b) => annL [(4, annOf [.slot 5 (5, 1024) (.lit (.int .i64))] (fun _ => I_laws_eqValS_4 a b) (μ_laws_eqValS_4 a b))]
def use_laws_eqValS : List (FuncId × Con UU) := [(52, con_laws_eqVal)]
theorem vc_laws_eqValS (a : (List DVal)) (b : (List DVal)) : goal EE use_laws_eqValS Go.Proofs.Tryd.f84 con_laws_eqValS ann_laws_eqValS (a, b) = (bif (↑(List.length a) : Int) != (↑(List.length b) : Int) then Lf [DV.one (Cell.lit (Value.bool false))] [DV.one (Cell.lit (Value.bool (decide (a = b))))] else I_laws_eqValS_4 a b ((0 : Int), PUnit.unit) ∧ ∀ (y : Int × PUnit), I_laws_eqValS_4 a b y → bif decide (y.1 < (↑(List.length a) : Int)) then (0 : Int) ≤ y.1 ∧ Int.toNat y.1 < List.length a ∧ (0 : Int) ≤ y.1 ∧ Int.toNat y.1 < List.length b ∧ bif !decide (List.getD a (Int.toNat y.1) zVal = List.getD b (Int.toNat y.1) zVal) then Lf [DV.one (Cell.lit (Value.bool false))] [DV.one (Cell.lit (Value.bool (decide (a = b))))] else I_laws_eqValS_4 a b (IntKind.wrap IntKind.i64 (y.1 + (1 : Int)), PUnit.unit) ∧ μ_laws_eqValS_4 a b (IntKind.wrap IntKind.i64 (y.1 + (1 : Int)), PUnit.unit) < μ_laws_eqValS_4 a b y else Lf [DV.one (Cell.lit (Value.bool true))] [DV.one (Cell.lit (Value.bool (decide (a = b))))]) := by kernel_rfl
theorem ok_laws_eqValS : Holds EE (84, con_laws_eqValS) := by
  refine holds_of EE_ok Go.Proofs.Tryd.func84 con_laws_eqValS (by kernel_rfl) rfl use_laws_eqValS (all_cons ok_laws_eqVal all_nil) ann_laws_eqValS (fun x hp hb => ?_)
  obtain ⟨a, b⟩ := x
  have hb_a : BdDV (U := UU) (.one (.sl .eVal a)) := hb _ (List.mem_cons_self)
  have hl_a : a.length ≤ 9223372036854775807 := Bd.len hb_a
  have hb_b : BdDV (U := UU) (.one (.sl .eVal b)) := hb _ (List.mem_cons_of_mem _ (List.mem_cons_self))
  have hl_b : b.length ≤ 9223372036854775807 := Bd.len hb_b
  clear hp hb
  rw [vc_laws_eqValS a b]
  refine if_cond (fun h => Lf_f ?_) (fun h => ⟨?_, ?_⟩)
  · rintro rfl; simp at h
  · simp [I_laws_eqValS_4] at *; omega
  rintro ⟨i, ⟨⟩⟩ ⟨h1, h2, h3, hR⟩
  simp only at *
  refine if_cond (fun hc => ?_) (fun hc => ?_)
  · have hc : i < a.length := by simpa using hc
    rw [drop_step a zVal h1 hc, drop_step b zVal h1 (by omega)] at hR
    rw [wrap_i64 (by omega) (by omega)]
    refine ⟨by omega, by omega, by omega, by omega, if_cond (fun h => Lf_f ?_) (fun h => ⟨⟨by omega, by omega, h3, ?_⟩, ?_⟩)⟩
    · rw [← hR]; simp at h; simp [h]
    · rw [← hR]; simp at h; simp [h]
    · simp only [μ_laws_eqValS_4]; omega
  · have hc : a.length ≤ i := by simpa using hc
    rw [drop_end a hc, drop_end b (by omega)] at hR
    exact Lf_t (hR.1 rfl)
def con_laws_markValS : Con UU where
  α := (List DVal) × Int
  md := [.wr, .ro]
  of := fun | [.one (.sl .eVal a0), .one (.lit (.int .i64 a1))] => some (a0, a1) | _ => none
  ds := fun (a, k) => [.one (.sl .eVal a), .one (.lit (.int .i64 k))]
  pre := fun (a, k) => [0 ≤ k, k + cntValS a ≤ 4611686018427387904]
  res := fun (a, k) => ⟨[.one (.lit (.int .i64 (k + cntValS a)))], true, [.one (.sl .eVal (markValS a k))]⟩
  law := by intro l x h; (try simp only at h); split at h <;> cases h; rfl
def I_laws_markValS_2 (a : (List DVal)) (k : Int) : List DVal × Int × Int × Unit → Prop := fun (row, kk, i, _) => 0 ≤ i ∧ i ≤ a.length ∧ row = (mkS markVal cntVal a k).take i.toNat ++ a.drop i.toNat ∧ kk = k + ctS cntVal (a.take i.toNat)
def μ_laws_markValS_2 (a : (List DVal)) (k : Int) : List DVal × Int × Int × Unit → Nat := fun (row, kk, i, _) => a.length - i.toNat
def ann_laws_markValS : con_laws_markValS.α → Nat → Option (Ann UU) := fun (a, k) => annL [(2, annOf [.slot 0 (2000000, 0) (.own .eVal true), .slot 1 (1, 1024) (.lit (.int .i64)), .slot 5 (5, 1024) (.lit (.int .i64))] (fun _ => I_laws_markValS_2 a k) (μ_laws_markValS_2 a k))]
def use_laws_markValS : List (FuncId × Con UU) := [(53, con_laws_markText)]
theorem vc_laws_markValS (a : (List DVal)) (k : Int) : goal EE use_laws_markValS Go.Proofs.Tryd.f54 con_laws_markValS ann_laws_markValS (a, k) = (I_laws_markValS_2 a k (a, k, (0 : Int), PUnit.unit) ∧
  ∀ (y : List DVal × Int × Int × PUnit),
    let x0 : Nat := Int.toNat y.2.2.1;
    let x1 : Int := IntKind.wrap IntKind.i64 (IntKind.wrap IntKind.i64 (y.2.1 + (1 : Int)) + (1 : Int));
    let x2 : List DVal := List.modify (List.modify y.1 x0 fun (x : DVal) => { K := y.2.1, N := x.N, S := x.S : DVal }) x0 fun (x : DVal) => { K := x.K, N := IntKind.wrap IntKind.i64 (y.2.1 + (1 : Int)), S := x.S : DVal };
    I_laws_markValS_2 a k y → bif decide (y.2.2.1 < (↑(List.length y.1) : Int)) then (0 : Int) ≤ y.2.2.1 ∧ x0 < List.length y.1 ∧ x0 < List.length y.1 ∧ (0 : Int) ≤ y.2.2.1 ∧ x0 < List.length (List.modify y.1 x0 fun (x : DVal) => { K := y.2.1, N := x.N, S := x.S : DVal }) ∧ x0 < List.length (List.modify y.1 x0 fun (x : DVal) => { K := y.2.1, N := x.N, S := x.S : DVal }) ∧ x1 ≤ (4611686018427387903 : Int) ∧ (0 : Int) ≤ y.2.2.1 ∧ x0 < List.length x2 ∧ x0 < List.length x2 ∧ I_laws_markValS_2 a k (List.modify x2 x0 fun (x : DVal) => { K := x.K, N := x.N, S := markText x1 : DVal }, IntKind.wrap IntKind.i64 (x1 + (1 : Int)), IntKind.wrap IntKind.i64 (y.2.2.1 + (1 : Int)), PUnit.unit) ∧ μ_laws_markValS_2 a k (List.modify x2 x0 fun (x : DVal) => { K := x.K, N := x.N, S := markText x1 : DVal }, IntKind.wrap IntKind.i64 (x1 + (1 : Int)), IntKind.wrap IntKind.i64 (y.2.2.1 + (1 : Int)), PUnit.unit) < μ_laws_markValS_2 a k y else asD [DV.one (Cell.lit (Value.int IntKind.i64 y.2.1))] = asD [DV.one (Cell.lit (Value.int IntKind.i64 (k + (↑(cntValS a) : Int))))] ∧ asD [DV.one (Cell.sl Cd.eVal y.1)] = asD [DV.one (Cell.sl Cd.eVal (markValS a k))]) := by kernel_rfl
theorem ok_laws_markValS : Holds EE (54, con_laws_markValS) := by
  refine holds_of EE_ok Go.Proofs.Tryd.func54 con_laws_markValS (by kernel_rfl) rfl use_laws_markValS (all_cons ok_laws_markText all_nil) ann_laws_markValS (fun x hp hb => ?_)
  obtain ⟨a, k⟩ := x
  have hb_a : BdDV (U := UU) (.one (.sl .eVal a)) := hb _ (List.mem_cons_self)
  have hl_a : a.length ≤ 9223372036854775807 := Bd.len hb_a
  have hb_k : BdDV (U := UU) (.one (.lit (.int .i64 k))) := hb _ (List.mem_cons_of_mem _ (List.mem_cons_self))
  have hl_k := Bd.i64 hb_k
  have hp0 : 0 ≤ k := hp _ (List.mem_cons_self)
  have hp1 : k + cntValS a ≤ 4611686018427387904 := hp _ (List.mem_cons_of_mem _ (List.mem_cons_self))
  clear hp hb
  rw [vc_laws_markValS a k]
  dsimp only
  refine ⟨⟨by omega, by omega, by simp, by simp [ctS]⟩, ?_⟩
  rintro ⟨row, kk, i, ⟨⟩⟩ ⟨h1, h2, rfl, rfl⟩
  simp only
  have hl := mk_rl markVal cntVal a k h1 h2
  refine if_cond (fun hc => ?_) (fun hc => ?_)
  · have hc : i < a.length := by have hc := of_decide_eq_true hc; omega
    have hct := ctS_take cntVal a zVal h1 hc
    have hle := ctS_take_le cntVal a (i + 1).toNat
    have hg := mk_getD _ a zVal (mk_tl markVal cntVal a k h1 h2) h1 hc
    have hM := fun F hF => mkS_mod markVal cntVal a zVal k (i := i) F h1 hc hF
    have hq : (cntValS a : Int) = ctS cntVal a := rfl
    generalize List.getD a i.toNat zVal = x at *
    generalize hkk : k + (ctS cntVal (a.take i.toNat) : Int) = kk at *
    generalize List.take i.toNat (mkS markVal cntVal a k) ++ List.drop i.toNat a = R at *
    simp only [cntVal] at hct
    simp (disch := first | omega | (simp only [List.length_modify]; omega)) only [List.length_modify, wrap_i64, getD_modify, modify_modify, hg, hl]
    repeat' (first | refine And.intro (by omega) ?_ | fail)
    exact ⟨⟨by omega, by omega, hM _ rfl, by omega⟩, by simp only [μ_laws_markValS_2]; omega⟩
  · have hc : a.length ≤ i := by have hc := of_decide_eq_false hc; omega
    rw [mk_done markVal cntVal a k hc, ct_done cntVal a hc]
    exact ⟨rfl, rfl⟩
def con_laws_heldValS : Con UU where
  α := (List DVal) × Int
  md := [.ro, .ro]
  of := fun | [.one (.sl .eVal a0), .one (.lit (.int .i64 a1))] => some (a0, a1) | _ => none
  ds := fun (a, k) => [.one (.sl .eVal a), .one (.lit (.int .i64 k))]
  pre := fun (a, k) => [0 ≤ k, k + cntValS a ≤ 4611686018427387904]
  res := fun (a, k) => ⟨[.one (.lit (.int .i64 (if markValS a k = a then k + cntValS a else -1)))], true, []⟩
  law := by intro l x h; (try simp only at h); split at h <;> cases h; rfl
def I_laws_heldValS_2 (a : (List DVal)) (k : Int) : Int × Int × Unit → Prop := fun (kk, i, _) => 0 ≤ i ∧ i ≤ a.length ∧ kk = k + ctS cntVal (a.take i.toNat) ∧ (mkS markVal cntVal (a.drop i.toNat) kk = a.drop i.toNat ↔ mkS markVal cntVal a k = a)
def μ_laws_heldValS_2 (a : (List DVal)) (k : Int) : Int × Int × Unit → Nat := fun (kk, i, _) => a.length - i.toNat
def ann_laws_heldValS : con_laws_heldValS.α → Nat → Option (Ann UU) := fun (a, k) => annL [(2, annOf [.slot 1 (1, 1024) (.lit (.int .i64)), .slot 5 (5, 1024) (.lit (.int .i64))] (fun _ => I_laws_heldValS_2 a k) (μ_laws_heldValS_2 a k))]
def use_laws_heldValS : List (FuncId × Con UU) := [(53, con_laws_markText)]
theorem vc_laws_heldValS (a : (List DVal)) (k : Int) : goal EE use_laws_heldValS Go.Proofs.Tryd.f56 con_laws_heldValS ann_laws_heldValS (a, k) = (I_laws_heldValS_2 a k (k, (0 : Int), PUnit.unit) ∧
  ∀ (y : Int × Int × PUnit),
    let x0 : DVal := List.getD a (Int.toNat y.2.1) zVal;
    let x1 : Int := IntKind.wrap IntKind.i64 (IntKind.wrap IntKind.i64 (y.1 + (1 : Int)) + (1 : Int));
    I_laws_heldValS_2 a k y → bif decide (y.2.1 < (↑(List.length a) : Int)) then (0 : Int) ≤ y.2.1 ∧ Int.toNat y.2.1 < List.length a ∧ bif x0.K != y.1 then Lf [DV.one (Cell.lit (Value.int IntKind.i64 (-1 : Int)))] [DV.one (Cell.lit (Value.int IntKind.i64 (if markValS a k = a then k + (↑(cntValS a) : Int) else (-1 : Int))))] else (0 : Int) ≤ y.2.1 ∧ Int.toNat y.2.1 < List.length a ∧ bif x0.N != IntKind.wrap IntKind.i64 (y.1 + (1 : Int)) then Lf [DV.one (Cell.lit (Value.int IntKind.i64 (-1 : Int)))] [DV.one (Cell.lit (Value.int IntKind.i64 (if markValS a k = a then k + (↑(cntValS a) : Int) else (-1 : Int))))] else (0 : Int) ≤ y.2.1 ∧ Int.toNat y.2.1 < List.length a ∧ x1 ≤ (4611686018427387903 : Int) ∧ bif !ByteArray.toList x0.S == ByteArray.toList (markText x1) then Lf [DV.one (Cell.lit (Value.int IntKind.i64 (-1 : Int)))] [DV.one (Cell.lit (Value.int IntKind.i64 (if markValS a k = a then k + (↑(cntValS a) : Int) else (-1 : Int))))] else I_laws_heldValS_2 a k (IntKind.wrap IntKind.i64 (x1 + (1 : Int)), IntKind.wrap IntKind.i64 (y.2.1 + (1 : Int)), PUnit.unit) ∧ μ_laws_heldValS_2 a k (IntKind.wrap IntKind.i64 (x1 + (1 : Int)), IntKind.wrap IntKind.i64 (y.2.1 + (1 : Int)), PUnit.unit) < μ_laws_heldValS_2 a k y else Lf [DV.one (Cell.lit (Value.int IntKind.i64 y.1))] [DV.one (Cell.lit (Value.int IntKind.i64 (if markValS a k = a then k + (↑(cntValS a) : Int) else (-1 : Int))))]) := by kernel_rfl
theorem ok_laws_heldValS : Holds EE (56, con_laws_heldValS) := by
  refine holds_of EE_ok Go.Proofs.Tryd.func56 con_laws_heldValS (by kernel_rfl) rfl use_laws_heldValS (all_cons ok_laws_markText all_nil) ann_laws_heldValS (fun x hp hb => ?_)
  obtain ⟨a, k⟩ := x
  have hb_a : BdDV (U := UU) (.one (.sl .eVal a)) := hb _ (List.mem_cons_self)
  have hl_a : a.length ≤ 9223372036854775807 := Bd.len hb_a
  have hb_k : BdDV (U := UU) (.one (.lit (.int .i64 k))) := hb _ (List.mem_cons_of_mem _ (List.mem_cons_self))
  have hl_k := Bd.i64 hb_k
  have hp0 : 0 ≤ k := hp _ (List.mem_cons_self)
  have hp1 : k + cntValS a ≤ 4611686018427387904 := hp _ (List.mem_cons_of_mem _ (List.mem_cons_self))
  clear hp hb
  rw [vc_laws_heldValS a k]
  dsimp only
  refine ⟨⟨by omega, by omega, by simp [ctS], by simp⟩, ?_⟩
  rintro ⟨kk, i, ⟨⟩⟩ ⟨h1, h2, hkk, hR⟩
  simp only
  simp only [markValS]
  refine if_cond (fun hc => ?_) (fun hc => ?_)
  · have hc : i < a.length := by have hc := of_decide_eq_true hc; omega
    have hct := ctS_take cntVal a zVal h1 hc
    have hle := ctS_take_le cntVal a (i + 1).toNat
    have hq : (cntValS a : Int) = ctS cntVal a := rfl
    rw [drop_step a zVal h1 hc] at hR
    generalize List.getD a i.toNat zVal = x at *
    simp only [mkS, List.cons.injEq] at hR
    have e : kk + (cntVal x : Int) = kk + 1 + 1 + 1 := by simp only [cntVal]; omega
    rw [e] at hR
    simp only [markVal, cntVal] at hR hct
    simp (disch := omega) only [wrap_i64, bne_int, toList_beq]
    obtain ⟨x_K, x_N, x_S⟩ := x
    simp only [DVal.mk.injEq] at *
    repeat' (first | refine And.intro (by omega) ?_ | fail)
    refine if_cond (fun h => Lf_no (fun hh => ?_)) (fun h => ?_)
    · have hh := hR.2 hh; simp_all
    have h : x_K = kk := by simpa using h
    subst x_K
    repeat' (first | refine And.intro (by omega) ?_ | fail)
    refine if_cond (fun h => Lf_no (fun hh => ?_)) (fun h => ?_)
    · have hh := hR.2 hh; simp_all
    have h : x_N = kk + 1 := by simpa using h
    subst x_N
    repeat' (first | refine And.intro (by omega) ?_ | fail)
    refine if_cond (fun h => Lf_no (fun hh => ?_)) (fun h => ?_)
    · have hh := hR.2 hh; simp_all
    have h : x_S = markText (kk + 1 + 1) := by simpa using h
    subst x_S
    exact ⟨⟨by omega, by omega, by omega, by simpa using hR⟩, by simp only [μ_laws_heldValS_2]; omega⟩
  · have hc : a.length ≤ i := by have hc := of_decide_eq_false hc; omega
    rw [drop_end a hc] at hR
    exact Lf_yes (hR.1 rfl) (by rw [hkk, ct_done _ _ hc]; rfl)
def con_laws_szFact : Con UU where
  α := DFact × Int
  md := [.ro, .ro]
  of := fun | [.agg [.lit (.string a0), .sl .lVal a1], .one (.lit (.int .i64 a2))] => some (⟨a0, a1⟩, a2) | _ => none
  ds := fun (a, left) => [.agg [.lit (.string a.Kind), .sl .lVal a.Fields], .one (.lit (.int .i64 left))]
  pre := fun (a, left) => [0 ≤ left]
  res := fun (a, left) => ⟨[.one (.lit (.int .i64 (szr left (sizeFact a))))], true, []⟩
  law := by intro l x h; (try simp only at h); split at h <;> cases h; rfl
def ann_laws_szFact : con_laws_szFact.α → Nat → Option (Ann UU) := fun (a, left) => annL []
def use_laws_szFact : List (FuncId × Con UU) := [(72, con_laws_szValS)]
theorem vc_laws_szFact (a : DFact) (left : Int) : goal EE use_laws_szFact Go.Proofs.Tryd.f35 con_laws_szFact ann_laws_szFact (a, left) = (let x0 : Int := IntKind.wrap IntKind.i64 (left - (↑(ByteArray.size a.Kind) : Int));
bif decide (x0 < (0 : Int)) then Lf [DV.one (Cell.lit (Value.int IntKind.i64 (-1 : Int)))] [DV.one (Cell.lit (Value.int IntKind.i64 (szr left (sizeFact a))))] else (0 : Int) ≤ x0 ∧ bif decide (szr x0 (sizeValS a.Fields) < (0 : Int)) then Lf [DV.one (Cell.lit (Value.int IntKind.i64 (-1 : Int)))] [DV.one (Cell.lit (Value.int IntKind.i64 (szr left (sizeFact a))))] else Lf [DV.one (Cell.lit (Value.int IntKind.i64 (szr x0 (sizeValS a.Fields))))] [DV.one (Cell.lit (Value.int IntKind.i64 (szr left (sizeFact a))))]) := by kernel_rfl
theorem ok_laws_szFact : Holds EE (35, con_laws_szFact) := by
  refine holds_of EE_ok Go.Proofs.Tryd.func35 con_laws_szFact (by kernel_rfl) rfl use_laws_szFact (all_cons ok_laws_szValS all_nil) ann_laws_szFact (fun x hp hb => ?_)
  obtain ⟨a, left⟩ := x
  have hb_a : BdDV (U := UU) (.agg [.lit (.string a.Kind), .sl .lVal a.Fields]) := hb _ (List.mem_cons_self)
  have hl_a_Kind : a.Kind.size ≤ 9223372036854775807 := Bd.str (hb_a _ (by simp))
  have hl_a_Fields : a.Fields.length ≤ 9223372036854775807 := Bd.len (U := UU) (τ := .lVal) (xs := a.Fields) (hb_a _ (by simp))
  have hb_left : BdDV (U := UU) (.one (.lit (.int .i64 left))) := hb _ (List.mem_cons_of_mem _ (List.mem_cons_self))
  have hl_left := Bd.i64 hb_left
  have hp0 : 0 ≤ left := hp _ (List.mem_cons_self)
  clear hp hb
  rw [vc_laws_szFact a left]
  dsimp only
  rw [wrap_i64 (by omega) (by omega)]
  refine if_cond (fun h => Lf_i (szr_bad' ?_)) (fun h => ?_)
  · have h := of_decide_eq_true h; simp only [sizeFact]; omega
  have h0 := of_decide_eq_false h
  refine ⟨by omega, if_cond (fun h => Lf_i (szr_bad' ?_)) (fun h => ?_)⟩
  · have h := szr_neg h; simp only [sizeFact]; omega
  obtain ⟨e1, h1⟩ := szr_pos h
  rw [e1]
  exact Lf_i (by rw [← szr_ok' (by simp only [sizeFact]; omega)]; simp only [sizeFact]; try omega)
def con_laws_toFact : Con UU where
  α := DFact
  md := [.ro]
  of := fun | [.agg [.lit (.string a0), .sl .lVal a1]] => some ⟨a0, a1⟩ | _ => none
  ds := fun a => [.agg [.lit (.string a.Kind), .sl .lVal a.Fields]]
  pre := fun a => [sizeFact a ≤ 4294967296]
  res := fun a => ⟨[.agg [.lit (.string a.Kind), .sl .eVal a.Fields]], true, []⟩
  law := by intro l x h; (try simp only at h); split at h <;> cases h; rfl
def ann_laws_toFact : con_laws_toFact.α → Nat → Option (Ann UU) := fun a => annL []
def use_laws_toFact : List (FuncId × Con UU) := [(77, con_laws_toValS)]
theorem vc_laws_toFact (a : DFact) : goal EE use_laws_toFact Go.Proofs.Tryd.f42 con_laws_toFact ann_laws_toFact a = (sizeValS a.Fields ≤ (4294967296 : Nat) ∧ Lf [DV.agg [Cell.lit (Value.string a.Kind), Cell.sl Cd.eVal a.Fields]] [DV.agg [Cell.lit (Value.string a.Kind), Cell.sl Cd.eVal a.Fields]]) := by kernel_rfl
theorem ok_laws_toFact : Holds EE (42, con_laws_toFact) := by
  refine holds_of EE_ok Go.Proofs.Tryd.func42 con_laws_toFact (by kernel_rfl) rfl use_laws_toFact (all_cons ok_laws_toValS all_nil) ann_laws_toFact (fun (a : DFact) hp hb => ?_)
  have hb_a : BdDV (U := UU) (.agg [.lit (.string a.Kind), .sl .lVal a.Fields]) := hb _ (List.mem_cons_self)
  have hl_a_Kind : a.Kind.size ≤ 9223372036854775807 := Bd.str (hb_a _ (by simp))
  have hl_a_Fields : a.Fields.length ≤ 9223372036854775807 := Bd.len (U := UU) (τ := .lVal) (xs := a.Fields) (hb_a _ (by simp))
  have hp0 : sizeFact a ≤ 4294967296 := hp _ (List.mem_cons_self)
  clear hp hb
  rw [vc_laws_toFact a]
  simp only [sizeFact] at hp0
  repeat' (first | exact Lf_rfl _ | (refine And.intro (by omega) ?_))
def con_laws_eqFact : Con UU where
  α := DFact × DFact
  md := [.ro, .ro]
  of := fun | [.agg [.lit (.string a0), .sl .eVal a1], .agg [.lit (.string a2), .sl .eVal a3]] => some (⟨a0, a1⟩, ⟨a2, a3⟩) | _ => none
  ds := fun (a, b) => [.agg [.lit (.string a.Kind), .sl .eVal a.Fields], .agg [.lit (.string b.Kind), .sl .eVal b.Fields]]
  pre := fun (a, b) => []
  res := fun (a, b) => ⟨[.one (.lit (.bool (decide (a = b))))], true, []⟩
  law := by intro l x h; (try simp only at h); split at h <;> cases h; rfl
def ann_laws_eqFact : con_laws_eqFact.α → Nat → Option (Ann UU) := fun (a, b) => annL []
def use_laws_eqFact : List (FuncId × Con UU) := [(84, con_laws_eqValS)]
theorem vc_laws_eqFact (a : DFact) (b : DFact) : goal EE use_laws_eqFact Go.Proofs.Tryd.f51 con_laws_eqFact ann_laws_eqFact (a, b) = (bif !ByteArray.toList a.Kind == ByteArray.toList b.Kind then Lf [DV.one (Cell.lit (Value.bool false))] [DV.one (Cell.lit (Value.bool (decide (a = b))))] else bif !decide (a.Fields = b.Fields) then Lf [DV.one (Cell.lit (Value.bool false))] [DV.one (Cell.lit (Value.bool (decide (a = b))))] else Lf [DV.one (Cell.lit (Value.bool true))] [DV.one (Cell.lit (Value.bool (decide (a = b))))]) := by kernel_rfl
theorem ok_laws_eqFact : Holds EE (51, con_laws_eqFact) := by
  refine holds_of EE_ok Go.Proofs.Tryd.func51 con_laws_eqFact (by kernel_rfl) rfl use_laws_eqFact (all_cons ok_laws_eqValS all_nil) ann_laws_eqFact (fun x hp hb => ?_)
  obtain ⟨a, b⟩ := x
  have hb_a : BdDV (U := UU) (.agg [.lit (.string a.Kind), .sl .eVal a.Fields]) := hb _ (List.mem_cons_self)
  have hl_a_Kind : a.Kind.size ≤ 9223372036854775807 := Bd.str (hb_a _ (by simp))
  have hl_a_Fields : a.Fields.length ≤ 9223372036854775807 := Bd.len (U := UU) (τ := .eVal) (xs := a.Fields) (hb_a _ (by simp))
  have hb_b : BdDV (U := UU) (.agg [.lit (.string b.Kind), .sl .eVal b.Fields]) := hb _ (List.mem_cons_of_mem _ (List.mem_cons_self))
  have hl_b_Kind : b.Kind.size ≤ 9223372036854775807 := Bd.str (hb_b _ (by simp))
  have hl_b_Fields : b.Fields.length ≤ 9223372036854775807 := Bd.len (U := UU) (τ := .eVal) (xs := b.Fields) (hb_b _ (by simp))
  clear hp hb
  rw [vc_laws_eqFact a b]
  obtain ⟨aKind, aFields⟩ := a
  obtain ⟨bKind, bFields⟩ := b
  repeat' (apply if_cond <;> intro _)
  all_goals (first | apply Lf_t | apply Lf_f) <;> simp_all
def con_laws_szTask : Con UU where
  α := DTask × Int
  md := [.ro, .ro]
  of := fun | [.agg [.lit (.string a0), .sl .lVal a1, .lit (.string a2), .lit (.int .i64 a3), .lit (.int .i64 a4), .lit (.int .i64 a5), .lit (.int .i64 a6), .lit (.int .i64 a7), .lit (.string a8)], .one (.lit (.int .i64 a9))] => some (⟨⟨a0, a1⟩, a2, a3, a4, a5, ⟨a6, a7, a8⟩⟩, a9) | _ => none
  ds := fun (a, left) => [.agg [.lit (.string a.F.Kind), .sl .lVal a.F.Fields, .lit (.string a.Undo), .lit (.int .i64 a.State), .lit (.int .i64 a.Tries), .lit (.int .i64 a.Due), .lit (.int .i64 a.V.K), .lit (.int .i64 a.V.N), .lit (.string a.V.S)], .one (.lit (.int .i64 left))]
  pre := fun (a, left) => [0 ≤ left]
  res := fun (a, left) => ⟨[.one (.lit (.int .i64 (szr left (sizeTask a))))], true, []⟩
  law := by intro l x h; (try simp only at h); split at h <;> cases h; rfl
def ann_laws_szTask : con_laws_szTask.α → Nat → Option (Ann UU) := fun (a, left) => annL []
def use_laws_szTask : List (FuncId × Con UU) := [(35, con_laws_szFact), (18, con_laws_szVal)]
theorem vc_laws_szTask (a : DTask) (left : Int) : goal EE use_laws_szTask Go.Proofs.Tryd.f7 con_laws_szTask ann_laws_szTask (a, left) = (let x0 : Int := IntKind.wrap IntKind.i64 (szr left (sizeFact a.F) - (↑(ByteArray.size a.Undo) : Int));
(0 : Int) ≤ left ∧ bif decide (szr left (sizeFact a.F) < (0 : Int)) then Lf [DV.one (Cell.lit (Value.int IntKind.i64 (-1 : Int)))] [DV.one (Cell.lit (Value.int IntKind.i64 (szr left (sizeTask a))))] else bif decide (x0 < (0 : Int)) then Lf [DV.one (Cell.lit (Value.int IntKind.i64 (-1 : Int)))] [DV.one (Cell.lit (Value.int IntKind.i64 (szr left (sizeTask a))))] else (0 : Int) ≤ x0 ∧ bif decide (szr x0 (sizeVal a.V) < (0 : Int)) then Lf [DV.one (Cell.lit (Value.int IntKind.i64 (-1 : Int)))] [DV.one (Cell.lit (Value.int IntKind.i64 (szr left (sizeTask a))))] else Lf [DV.one (Cell.lit (Value.int IntKind.i64 (szr x0 (sizeVal a.V))))] [DV.one (Cell.lit (Value.int IntKind.i64 (szr left (sizeTask a))))]) := by kernel_rfl
theorem ok_laws_szTask : Holds EE (7, con_laws_szTask) := by
  refine holds_of EE_ok Go.Proofs.Tryd.func7 con_laws_szTask (by kernel_rfl) rfl use_laws_szTask (all_cons ok_laws_szFact (all_cons ok_laws_szVal all_nil)) ann_laws_szTask (fun x hp hb => ?_)
  obtain ⟨a, left⟩ := x
  have hb_a : BdDV (U := UU) (.agg [.lit (.string a.F.Kind), .sl .lVal a.F.Fields, .lit (.string a.Undo), .lit (.int .i64 a.State), .lit (.int .i64 a.Tries), .lit (.int .i64 a.Due), .lit (.int .i64 a.V.K), .lit (.int .i64 a.V.N), .lit (.string a.V.S)]) := hb _ (List.mem_cons_self)
  have hl_a_F_Kind : a.F.Kind.size ≤ 9223372036854775807 := Bd.str (hb_a _ (by simp))
  have hl_a_F_Fields : a.F.Fields.length ≤ 9223372036854775807 := Bd.len (U := UU) (τ := .lVal) (xs := a.F.Fields) (hb_a _ (by simp))
  have hl_a_Undo : a.Undo.size ≤ 9223372036854775807 := Bd.str (hb_a _ (by simp))
  have hl_a_V_S : a.V.S.size ≤ 9223372036854775807 := Bd.str (hb_a _ (by simp))
  have hb_left : BdDV (U := UU) (.one (.lit (.int .i64 left))) := hb _ (List.mem_cons_of_mem _ (List.mem_cons_self))
  have hl_left := Bd.i64 hb_left
  have hp0 : 0 ≤ left := hp _ (List.mem_cons_self)
  clear hp hb
  rw [vc_laws_szTask a left]
  dsimp only
  refine ⟨by omega, if_cond (fun h => Lf_i (szr_bad' ?_)) (fun h => ?_)⟩
  · have h := szr_neg h; simp only [sizeTask]; omega
  obtain ⟨e0, h0⟩ := szr_pos h
  rw [e0]
  rw [wrap_i64 (by omega) (by omega)]
  refine if_cond (fun h => Lf_i (szr_bad' ?_)) (fun h => ?_)
  · have h := of_decide_eq_true h; simp only [sizeTask]; omega
  have h1 := of_decide_eq_false h
  refine ⟨by omega, if_cond (fun h => Lf_i (szr_bad' ?_)) (fun h => ?_)⟩
  · have h := szr_neg h; simp only [sizeTask]; omega
  obtain ⟨e2, h2⟩ := szr_pos h
  rw [e2]
  exact Lf_i (by rw [← szr_ok' (by simp only [sizeTask]; omega)]; simp only [sizeTask]; try omega)
def con_laws_toTask : Con UU where
  α := DTask
  md := [.ro]
  of := fun | [.agg [.lit (.string a0), .sl .lVal a1, .lit (.string a2), .lit (.int .i64 a3), .lit (.int .i64 a4), .lit (.int .i64 a5), .lit (.int .i64 a6), .lit (.int .i64 a7), .lit (.string a8)]] => some ⟨⟨a0, a1⟩, a2, a3, a4, a5, ⟨a6, a7, a8⟩⟩ | _ => none
  ds := fun a => [.agg [.lit (.string a.F.Kind), .sl .lVal a.F.Fields, .lit (.string a.Undo), .lit (.int .i64 a.State), .lit (.int .i64 a.Tries), .lit (.int .i64 a.Due), .lit (.int .i64 a.V.K), .lit (.int .i64 a.V.N), .lit (.string a.V.S)]]
  pre := fun a => [sizeTask a ≤ 4294967296]
  res := fun a => ⟨[.agg [.lit (.string a.F.Kind), .sl .eVal a.F.Fields, .lit (.string a.Undo), .lit (.int .i64 a.State), .lit (.int .i64 a.Tries), .lit (.int .i64 a.Due), .lit (.int .i64 a.V.K), .lit (.int .i64 a.V.N), .lit (.string a.V.S)]], true, []⟩
  law := by intro l x h; (try simp only at h); split at h <;> cases h; rfl
def ann_laws_toTask : con_laws_toTask.α → Nat → Option (Ann UU) := fun a => annL []
def use_laws_toTask : List (FuncId × Con UU) := [(42, con_laws_toFact), (21, con_laws_toVal)]
theorem vc_laws_toTask (a : DTask) : goal EE use_laws_toTask Go.Proofs.Tryd.f10 con_laws_toTask ann_laws_toTask a = (sizeFact a.F ≤ (4294967296 : Nat) ∧ sizeVal a.V ≤ (4294967296 : Nat) ∧ Lf [DV.agg [Cell.lit (Value.string a.F.Kind), Cell.sl Cd.eVal a.F.Fields, Cell.lit (Value.string a.Undo), Cell.lit (Value.int IntKind.i64 a.State), Cell.lit (Value.int IntKind.i64 a.Tries), Cell.lit (Value.int IntKind.i64 a.Due), Cell.lit (Value.int IntKind.i64 a.V.K), Cell.lit (Value.int IntKind.i64 a.V.N), Cell.lit (Value.string a.V.S)]] [DV.agg [Cell.lit (Value.string a.F.Kind), Cell.sl Cd.eVal a.F.Fields, Cell.lit (Value.string a.Undo), Cell.lit (Value.int IntKind.i64 a.State), Cell.lit (Value.int IntKind.i64 a.Tries), Cell.lit (Value.int IntKind.i64 a.Due), Cell.lit (Value.int IntKind.i64 a.V.K), Cell.lit (Value.int IntKind.i64 a.V.N), Cell.lit (Value.string a.V.S)]]) := by kernel_rfl
theorem ok_laws_toTask : Holds EE (10, con_laws_toTask) := by
  refine holds_of EE_ok Go.Proofs.Tryd.func10 con_laws_toTask (by kernel_rfl) rfl use_laws_toTask (all_cons ok_laws_toFact (all_cons ok_laws_toVal all_nil)) ann_laws_toTask (fun (a : DTask) hp hb => ?_)
  have hb_a : BdDV (U := UU) (.agg [.lit (.string a.F.Kind), .sl .lVal a.F.Fields, .lit (.string a.Undo), .lit (.int .i64 a.State), .lit (.int .i64 a.Tries), .lit (.int .i64 a.Due), .lit (.int .i64 a.V.K), .lit (.int .i64 a.V.N), .lit (.string a.V.S)]) := hb _ (List.mem_cons_self)
  have hl_a_F_Kind : a.F.Kind.size ≤ 9223372036854775807 := Bd.str (hb_a _ (by simp))
  have hl_a_F_Fields : a.F.Fields.length ≤ 9223372036854775807 := Bd.len (U := UU) (τ := .lVal) (xs := a.F.Fields) (hb_a _ (by simp))
  have hl_a_Undo : a.Undo.size ≤ 9223372036854775807 := Bd.str (hb_a _ (by simp))
  have hl_a_V_S : a.V.S.size ≤ 9223372036854775807 := Bd.str (hb_a _ (by simp))
  have hp0 : sizeTask a ≤ 4294967296 := hp _ (List.mem_cons_self)
  clear hp hb
  rw [vc_laws_toTask a]
  simp only [sizeTask] at hp0
  repeat' (first | exact Lf_rfl _ | (refine And.intro (by omega) ?_))
def con_laws_eqTask : Con UU where
  α := DTask × DTask
  md := [.ro, .ro]
  of := fun | [.agg [.lit (.string a0), .sl .eVal a1, .lit (.string a2), .lit (.int .i64 a3), .lit (.int .i64 a4), .lit (.int .i64 a5), .lit (.int .i64 a6), .lit (.int .i64 a7), .lit (.string a8)], .agg [.lit (.string a9), .sl .eVal a10, .lit (.string a11), .lit (.int .i64 a12), .lit (.int .i64 a13), .lit (.int .i64 a14), .lit (.int .i64 a15), .lit (.int .i64 a16), .lit (.string a17)]] => some (⟨⟨a0, a1⟩, a2, a3, a4, a5, ⟨a6, a7, a8⟩⟩, ⟨⟨a9, a10⟩, a11, a12, a13, a14, ⟨a15, a16, a17⟩⟩) | _ => none
  ds := fun (a, b) => [.agg [.lit (.string a.F.Kind), .sl .eVal a.F.Fields, .lit (.string a.Undo), .lit (.int .i64 a.State), .lit (.int .i64 a.Tries), .lit (.int .i64 a.Due), .lit (.int .i64 a.V.K), .lit (.int .i64 a.V.N), .lit (.string a.V.S)], .agg [.lit (.string b.F.Kind), .sl .eVal b.F.Fields, .lit (.string b.Undo), .lit (.int .i64 b.State), .lit (.int .i64 b.Tries), .lit (.int .i64 b.Due), .lit (.int .i64 b.V.K), .lit (.int .i64 b.V.N), .lit (.string b.V.S)]]
  pre := fun (a, b) => []
  res := fun (a, b) => ⟨[.one (.lit (.bool (decide (a = b))))], true, []⟩
  law := by intro l x h; (try simp only at h); split at h <;> cases h; rfl
def ann_laws_eqTask : con_laws_eqTask.α → Nat → Option (Ann UU) := fun (a, b) => annL []
def use_laws_eqTask : List (FuncId × Con UU) := [(51, con_laws_eqFact), (52, con_laws_eqVal)]
theorem vc_laws_eqTask (a : DTask) (b : DTask) : goal EE use_laws_eqTask Go.Proofs.Tryd.f13 con_laws_eqTask ann_laws_eqTask (a, b) = (bif !decide (a.F = b.F) then Lf [DV.one (Cell.lit (Value.bool false))] [DV.one (Cell.lit (Value.bool (decide (a = b))))] else bif !ByteArray.toList a.Undo == ByteArray.toList b.Undo then Lf [DV.one (Cell.lit (Value.bool false))] [DV.one (Cell.lit (Value.bool (decide (a = b))))] else bif a.State != b.State then Lf [DV.one (Cell.lit (Value.bool false))] [DV.one (Cell.lit (Value.bool (decide (a = b))))] else bif a.Tries != b.Tries then Lf [DV.one (Cell.lit (Value.bool false))] [DV.one (Cell.lit (Value.bool (decide (a = b))))] else bif a.Due != b.Due then Lf [DV.one (Cell.lit (Value.bool false))] [DV.one (Cell.lit (Value.bool (decide (a = b))))] else bif !decide (a.V = b.V) then Lf [DV.one (Cell.lit (Value.bool false))] [DV.one (Cell.lit (Value.bool (decide (a = b))))] else Lf [DV.one (Cell.lit (Value.bool true))] [DV.one (Cell.lit (Value.bool (decide (a = b))))]) := by kernel_rfl
theorem ok_laws_eqTask : Holds EE (13, con_laws_eqTask) := by
  refine holds_of EE_ok Go.Proofs.Tryd.func13 con_laws_eqTask (by kernel_rfl) rfl use_laws_eqTask (all_cons ok_laws_eqFact (all_cons ok_laws_eqVal all_nil)) ann_laws_eqTask (fun x hp hb => ?_)
  obtain ⟨a, b⟩ := x
  have hb_a : BdDV (U := UU) (.agg [.lit (.string a.F.Kind), .sl .eVal a.F.Fields, .lit (.string a.Undo), .lit (.int .i64 a.State), .lit (.int .i64 a.Tries), .lit (.int .i64 a.Due), .lit (.int .i64 a.V.K), .lit (.int .i64 a.V.N), .lit (.string a.V.S)]) := hb _ (List.mem_cons_self)
  have hl_a_F_Kind : a.F.Kind.size ≤ 9223372036854775807 := Bd.str (hb_a _ (by simp))
  have hl_a_F_Fields : a.F.Fields.length ≤ 9223372036854775807 := Bd.len (U := UU) (τ := .eVal) (xs := a.F.Fields) (hb_a _ (by simp))
  have hl_a_Undo : a.Undo.size ≤ 9223372036854775807 := Bd.str (hb_a _ (by simp))
  have hl_a_V_S : a.V.S.size ≤ 9223372036854775807 := Bd.str (hb_a _ (by simp))
  have hb_b : BdDV (U := UU) (.agg [.lit (.string b.F.Kind), .sl .eVal b.F.Fields, .lit (.string b.Undo), .lit (.int .i64 b.State), .lit (.int .i64 b.Tries), .lit (.int .i64 b.Due), .lit (.int .i64 b.V.K), .lit (.int .i64 b.V.N), .lit (.string b.V.S)]) := hb _ (List.mem_cons_of_mem _ (List.mem_cons_self))
  have hl_b_F_Kind : b.F.Kind.size ≤ 9223372036854775807 := Bd.str (hb_b _ (by simp))
  have hl_b_F_Fields : b.F.Fields.length ≤ 9223372036854775807 := Bd.len (U := UU) (τ := .eVal) (xs := b.F.Fields) (hb_b _ (by simp))
  have hl_b_Undo : b.Undo.size ≤ 9223372036854775807 := Bd.str (hb_b _ (by simp))
  have hl_b_V_S : b.V.S.size ≤ 9223372036854775807 := Bd.str (hb_b _ (by simp))
  clear hp hb
  rw [vc_laws_eqTask a b]
  obtain ⟨aF, aUndo, aState, aTries, aDue, aV⟩ := a
  obtain ⟨bF, bUndo, bState, bTries, bDue, bV⟩ := b
  repeat' (apply if_cond <;> intro _)
  all_goals (first | apply Lf_t | apply Lf_f) <;> simp_all
def con_laws_szTaskS : Con UU where
  α := (List DTask) × Int
  md := [.ro, .ro]
  of := fun | [.one (.sl .lTask a0), .one (.lit (.int .i64 a1))] => some (a0, a1) | _ => none
  ds := fun (a, left) => [.one (.sl .lTask a), .one (.lit (.int .i64 left))]
  pre := fun (a, left) => [0 ≤ left]
  res := fun (a, left) => ⟨[.one (.lit (.int .i64 (szr left (sizeTaskS a))))], true, []⟩
  law := by intro l x h; (try simp only at h); split at h <;> cases h; rfl
def I_laws_szTaskS_5 (a : (List DTask)) (left : Int) : Int × Int × Unit → Prop := fun (lf, i, _) => 0 ≤ lf ∧ 0 ≤ i ∧ i ≤ a.length ∧ szr lf ((a.drop i.toNat).map sizeTask).sum = szr left (sizeTaskS a)
def μ_laws_szTaskS_5 (a : (List DTask)) (left : Int) : Int × Int × Unit → Nat := fun (lf, i, _) => a.length - i.toNat
def ann_laws_szTaskS : con_laws_szTaskS.α → Nat → Option (Ann UU) := fun (a, left) => annL [(5, annOf [.slot 1 (1, 1024) (.lit (.int .i64)), .slot 5 (5, 1024) (.lit (.int .i64))] (fun _ => I_laws_szTaskS_5 a left) (μ_laws_szTaskS_5 a left))]
def use_laws_szTaskS : List (FuncId × Con UU) := [(7, con_laws_szTask)]
theorem vc_laws_szTaskS (a : (List DTask)) (left : Int) : goal EE use_laws_szTaskS Go.Proofs.Tryd.f17 con_laws_szTaskS ann_laws_szTaskS (a, left) = (let x0 : Int := IntKind.wrap IntKind.i64 (left - (↑(List.length a) : Int));
bif decide (x0 < (0 : Int)) then Lf [DV.one (Cell.lit (Value.int IntKind.i64 (-1 : Int)))] [DV.one (Cell.lit (Value.int IntKind.i64 (szr left (sizeTaskS a))))]
else
  I_laws_szTaskS_5 a left (x0, (0 : Int), PUnit.unit) ∧
    ∀ (y : Int × Int × PUnit),
      let x1 : Int := szr y.1 (sizeTask (List.getD a (Int.toNat y.2.1) zTask));
      I_laws_szTaskS_5 a left y → bif decide (y.2.1 < (↑(List.length a) : Int)) then (0 : Int) ≤ y.2.1 ∧ Int.toNat y.2.1 < List.length a ∧ (0 : Int) ≤ y.1 ∧ bif decide (x1 < (0 : Int)) then Lf [DV.one (Cell.lit (Value.int IntKind.i64 (-1 : Int)))] [DV.one (Cell.lit (Value.int IntKind.i64 (szr left (sizeTaskS a))))] else I_laws_szTaskS_5 a left (x1, IntKind.wrap IntKind.i64 (y.2.1 + (1 : Int)), PUnit.unit) ∧ μ_laws_szTaskS_5 a left (x1, IntKind.wrap IntKind.i64 (y.2.1 + (1 : Int)), PUnit.unit) < μ_laws_szTaskS_5 a left y else Lf [DV.one (Cell.lit (Value.int IntKind.i64 y.1))] [DV.one (Cell.lit (Value.int IntKind.i64 (szr left (sizeTaskS a))))]) := by kernel_rfl
theorem ok_laws_szTaskS : Holds EE (17, con_laws_szTaskS) := by
  refine holds_of EE_ok Go.Proofs.Tryd.func17 con_laws_szTaskS (by kernel_rfl) rfl use_laws_szTaskS (all_cons ok_laws_szTask all_nil) ann_laws_szTaskS (fun x hp hb => ?_)
  obtain ⟨a, left⟩ := x
  have hb_a : BdDV (U := UU) (.one (.sl .lTask a)) := hb _ (List.mem_cons_self)
  have hl_a : a.length ≤ 9223372036854775807 := Bd.len hb_a
  have hb_left : BdDV (U := UU) (.one (.lit (.int .i64 left))) := hb _ (List.mem_cons_of_mem _ (List.mem_cons_self))
  have hl_left := Bd.i64 hb_left
  have hp0 : 0 ≤ left := hp _ (List.mem_cons_self)
  clear hp hb
  rw [vc_laws_szTaskS a left]
  dsimp only
  rw [wrap_i64 (by omega) (by omega)]
  refine if_cond (fun h => Lf_i ?_) (fun h => ⟨?_, ?_⟩)
  · simp [szr, sizeTaskS] at *; omega
  · simp only [I_laws_szTaskS_5, sizeTaskS]; simp at h; have h' : 0 ≤ left - a.length := by omega
    exact ⟨h', by omega, by omega, szr_sub h'⟩
  rintro ⟨lf, i, ⟨⟩⟩ ⟨h0, h1, h2, hR⟩
  refine if_cond (fun hc => ?_) (fun hc => ?_)
  · have hc : i < a.length := by simpa using hc
    rw [drop_step a zTask h1 hc, List.map_cons, List.sum_cons] at hR
    simp only at *
    rw [wrap_i64 (by omega) (by omega)]
    generalize List.getD a i.toNat zTask = x at *
    refine ⟨by omega, by omega, by omega, if_cond (fun h => Lf_i ?_) (fun h => ⟨⟨?_, by omega, by omega, ?_⟩, ?_⟩)⟩
    · rw [← hR]; exact (szr_bad (of_decide_eq_true h)).symm
    · simp at h; omega
    · rw [← hR]; simp at h; exact szr_szr h
    · simp only [μ_laws_szTaskS_5]; omega
  · have hc : a.length ≤ i := by simpa using hc
    rw [drop_end a hc] at hR
    apply Lf_i; rw [← hR]; simp [szr, h0]
def con_laws_toTaskS : Con UU where
  α := (List DTask)
  md := [.ro]
  of := fun | [.one (.sl .lTask a0)] => some a0 | _ => none
  ds := fun a => [.one (.sl .lTask a)]
  pre := fun a => [sizeTaskS a ≤ 4294967296]
  res := fun a => ⟨[.one (.sl .eTask a)], true, []⟩
  law := by intro l x h; (try simp only at h); split at h <;> cases h; rfl
def I_laws_toTaskS_3 (a : (List DTask)) : List DTask × Int × Unit → Prop := fun (out, i, _) => 0 ≤ i ∧ i ≤ a.length ∧ out = a.take i.toNat ++ List.replicate (a.length - i.toNat) zTask
def μ_laws_toTaskS_3 (a : (List DTask)) : List DTask × Int × Unit → Nat := fun (out, i, _) => a.length - i.toNat
def ann_laws_toTaskS : con_laws_toTaskS.α → Nat → Option (Ann UU) := fun a => annL [(3, annOf [.slot 3 (3, 1024) (.own .eTask true), .slot 4 (4, 1024) (.lit (.int .i64))] (fun _ => I_laws_toTaskS_3 a) (μ_laws_toTaskS_3 a))]
def use_laws_toTaskS : List (FuncId × Con UU) := [(10, con_laws_toTask)]
theorem vc_laws_toTaskS (a : (List DTask)) : goal EE use_laws_toTaskS Go.Proofs.Tryd.f20 con_laws_toTaskS ann_laws_toTaskS a = (let x0 : Int := (↑(List.length a) : Int);
(0 : Int) ≤ x0 ∧
  x0 = x0 ∧
    x0 ≤ (4294967296 : Int) ∧
      I_laws_toTaskS_3 a (List.replicate (Int.toNat x0) zTask, (0 : Int), PUnit.unit) ∧
        ∀ (y : List DTask × Int × PUnit),
          let x1 : Nat := Int.toNat y.2.1;
          I_laws_toTaskS_3 a y → bif decide (y.2.1 < x0) then (0 : Int) ≤ y.2.1 ∧ x1 < List.length a ∧ sizeTask (List.getD a x1 zTask) ≤ (4294967296 : Nat) ∧ (0 : Int) ≤ y.2.1 ∧ x1 < List.length y.1 ∧ x1 < List.length y.1 ∧ I_laws_toTaskS_3 a (List.set y.1 x1 (List.getD a x1 zTask), IntKind.wrap IntKind.i64 (y.2.1 + (1 : Int)), PUnit.unit) ∧ μ_laws_toTaskS_3 a (List.set y.1 x1 (List.getD a x1 zTask), IntKind.wrap IntKind.i64 (y.2.1 + (1 : Int)), PUnit.unit) < μ_laws_toTaskS_3 a y else Lf [DV.one (Cell.sl Cd.eTask y.1)] [DV.one (Cell.sl Cd.eTask a)]) := by kernel_rfl
theorem ok_laws_toTaskS : Holds EE (20, con_laws_toTaskS) := by
  refine holds_of EE_ok Go.Proofs.Tryd.func20 con_laws_toTaskS (by kernel_rfl) rfl use_laws_toTaskS (all_cons ok_laws_toTask all_nil) ann_laws_toTaskS (fun (a : (List DTask)) hp hb => ?_)
  have hb_a : BdDV (U := UU) (.one (.sl .lTask a)) := hb _ (List.mem_cons_self)
  have hl_a : a.length ≤ 9223372036854775807 := Bd.len hb_a
  have hp0 : sizeTaskS a ≤ 4294967296 := hp _ (List.mem_cons_self)
  clear hp hb
  rw [vc_laws_toTaskS a]
  dsimp only
  have hlen : a.length ≤ 4294967296 := by simp only [sizeTaskS] at hp0; omega
  refine ⟨by omega, rfl, by omega, ?_, ?_⟩
  · simp [I_laws_toTaskS_3]
  rintro ⟨out, i, ⟨⟩⟩ ⟨h1, h2, rfl⟩
  simp only at *
  refine if_cond (fun hc => ?_) (fun hc => ?_)
  · have hc : i < a.length := by simpa using hc
    rw [wrap_i64 (by omega) (by omega), set_fill a zTask h1 hc]
    exact ⟨h1, by omega, by exact Nat.le_trans (sum_getD_le sizeTask a zTask h1 hc) (by simp only [sizeTaskS] at hp0; omega), h1, by simp; omega, by simp; omega, ⟨by omega, by omega, rfl⟩, by simp only [μ_laws_toTaskS_3]; omega⟩
  · have hc : a.length ≤ i := by simpa using hc
    have e : i.toNat = a.length := by omega
    rw [e]; simp; exact Lf_rfl _
def con_laws_eqTaskS : Con UU where
  α := (List DTask) × (List DTask)
  md := [.ro, .ro]
  of := fun | [.one (.sl .eTask a0), .one (.sl .eTask a1)] => some (a0, a1) | _ => none
  ds := fun (a, b) => [.one (.sl .eTask a), .one (.sl .eTask b)]
  pre := fun (a, b) => []
  res := fun (a, b) => ⟨[.one (.lit (.bool (decide (a = b))))], true, []⟩
  law := by intro l x h; (try simp only at h); split at h <;> cases h; rfl
def I_laws_eqTaskS_4 (a : (List DTask)) (b : (List DTask)) : Int × Unit → Prop := fun (i, _) => 0 ≤ i ∧ i ≤ a.length ∧ a.length = b.length ∧ (a.drop i.toNat = b.drop i.toNat ↔ a = b)
def μ_laws_eqTaskS_4 (a : (List DTask)) (b : (List DTask)) : Int × Unit → Nat := fun (i, _) => a.length - i.toNat
def ann_laws_eqTaskS : con_laws_eqTaskS.α → Nat → Option (Ann UU) := fun (a, b) => annL [(4, annOf [.slot 5 (5, 1024) (.lit (.int .i64))] (fun _ => I_laws_eqTaskS_4 a b) (μ_laws_eqTaskS_4 a b))]
def use_laws_eqTaskS : List (FuncId × Con UU) := [(13, con_laws_eqTask)]
theorem vc_laws_eqTaskS (a : (List DTask)) (b : (List DTask)) : goal EE use_laws_eqTaskS Go.Proofs.Tryd.f23 con_laws_eqTaskS ann_laws_eqTaskS (a, b) = (bif (↑(List.length a) : Int) != (↑(List.length b) : Int) then Lf [DV.one (Cell.lit (Value.bool false))] [DV.one (Cell.lit (Value.bool (decide (a = b))))] else I_laws_eqTaskS_4 a b ((0 : Int), PUnit.unit) ∧ ∀ (y : Int × PUnit), I_laws_eqTaskS_4 a b y → bif decide (y.1 < (↑(List.length a) : Int)) then (0 : Int) ≤ y.1 ∧ Int.toNat y.1 < List.length a ∧ (0 : Int) ≤ y.1 ∧ Int.toNat y.1 < List.length b ∧ bif !decide (List.getD a (Int.toNat y.1) zTask = List.getD b (Int.toNat y.1) zTask) then Lf [DV.one (Cell.lit (Value.bool false))] [DV.one (Cell.lit (Value.bool (decide (a = b))))] else I_laws_eqTaskS_4 a b (IntKind.wrap IntKind.i64 (y.1 + (1 : Int)), PUnit.unit) ∧ μ_laws_eqTaskS_4 a b (IntKind.wrap IntKind.i64 (y.1 + (1 : Int)), PUnit.unit) < μ_laws_eqTaskS_4 a b y else Lf [DV.one (Cell.lit (Value.bool true))] [DV.one (Cell.lit (Value.bool (decide (a = b))))]) := by kernel_rfl
theorem ok_laws_eqTaskS : Holds EE (23, con_laws_eqTaskS) := by
  refine holds_of EE_ok Go.Proofs.Tryd.func23 con_laws_eqTaskS (by kernel_rfl) rfl use_laws_eqTaskS (all_cons ok_laws_eqTask all_nil) ann_laws_eqTaskS (fun x hp hb => ?_)
  obtain ⟨a, b⟩ := x
  have hb_a : BdDV (U := UU) (.one (.sl .eTask a)) := hb _ (List.mem_cons_self)
  have hl_a : a.length ≤ 9223372036854775807 := Bd.len hb_a
  have hb_b : BdDV (U := UU) (.one (.sl .eTask b)) := hb _ (List.mem_cons_of_mem _ (List.mem_cons_self))
  have hl_b : b.length ≤ 9223372036854775807 := Bd.len hb_b
  clear hp hb
  rw [vc_laws_eqTaskS a b]
  refine if_cond (fun h => Lf_f ?_) (fun h => ⟨?_, ?_⟩)
  · rintro rfl; simp at h
  · simp [I_laws_eqTaskS_4] at *; omega
  rintro ⟨i, ⟨⟩⟩ ⟨h1, h2, h3, hR⟩
  simp only at *
  refine if_cond (fun hc => ?_) (fun hc => ?_)
  · have hc : i < a.length := by simpa using hc
    rw [drop_step a zTask h1 hc, drop_step b zTask h1 (by omega)] at hR
    rw [wrap_i64 (by omega) (by omega)]
    refine ⟨by omega, by omega, by omega, by omega, if_cond (fun h => Lf_f ?_) (fun h => ⟨⟨by omega, by omega, h3, ?_⟩, ?_⟩)⟩
    · rw [← hR]; simp at h; simp [h]
    · rw [← hR]; simp at h; simp [h]
    · simp only [μ_laws_eqTaskS_4]; omega
  · have hc : a.length ≤ i := by simpa using hc
    rw [drop_end a hc, drop_end b (by omega)] at hR
    exact Lf_t (hR.1 rfl)
def con_laws_markTaskS : Con UU where
  α := (List DTask) × Int
  md := [.wr, .ro]
  of := fun | [.one (.sl .eTask a0), .one (.lit (.int .i64 a1))] => some (a0, a1) | _ => none
  ds := fun (a, k) => [.one (.sl .eTask a), .one (.lit (.int .i64 k))]
  pre := fun (a, k) => [0 ≤ k, k + cntTaskS a ≤ 4611686018427387904]
  res := fun (a, k) => ⟨[.one (.lit (.int .i64 (k + cntTaskS a)))], true, [.one (.sl .eTask (markTaskS a k))]⟩
  law := by intro l x h; (try simp only at h); split at h <;> cases h; rfl
def I_laws_markTaskS_2 (a : (List DTask)) (k : Int) : List DTask × Int × Int × Unit → Prop := fun (row, kk, i, _) => 0 ≤ i ∧ i ≤ a.length ∧ row = (mkS markTask cntTask a k).take i.toNat ++ a.drop i.toNat ∧ kk = k + ctS cntTask (a.take i.toNat)
def μ_laws_markTaskS_2 (a : (List DTask)) (k : Int) : List DTask × Int × Int × Unit → Nat := fun (row, kk, i, _) => a.length - i.toNat
def ann_laws_markTaskS : con_laws_markTaskS.α → Nat → Option (Ann UU) := fun (a, k) => annL [(2, annOf [.slot 0 (2000000, 0) (.own .eTask true), .slot 1 (1, 1024) (.lit (.int .i64)), .slot 5 (5, 1024) (.lit (.int .i64))] (fun _ => I_laws_markTaskS_2 a k) (μ_laws_markTaskS_2 a k))]
def use_laws_markTaskS : List (FuncId × Con UU) := [(53, con_laws_markText), (54, con_laws_markValS)]
theorem vc_laws_markTaskS (a : (List DTask)) (k : Int) : goal EE use_laws_markTaskS Go.Proofs.Tryd.f24 con_laws_markTaskS ann_laws_markTaskS (a, k) = (I_laws_markTaskS_2 a k (a, k, (0 : Int), PUnit.unit) ∧
  ∀ (y : List DTask × Int × Int × PUnit),
    let x0 : List DTask := List.modify (List.modify (List.modify (List.modify (List.modify (List.modify (List.modify (List.modify y.1 (Int.toNat y.2.2.1) fun (x : DTask) => { F := { Kind := markText y.2.1, Fields := x.F.Fields : DFact }, Undo := x.Undo, State := x.State, Tries := x.Tries, Due := x.Due, V := x.V : DTask }) (Int.toNat y.2.2.1) fun (x : DTask) => { F := { Kind := x.F.Kind, Fields := markValS (List.getD (List.modify y.1 (Int.toNat y.2.2.1) fun (x : DTask) => { F := { Kind := markText y.2.1, Fields := x.F.Fields : DFact }, Undo := x.Undo, State := x.State, Tries := x.Tries, Due := x.Due, V := x.V : DTask }) (Int.toNat y.2.2.1) zTask).F.Fields (IntKind.wrap IntKind.i64 (y.2.1 + (1 : Int))) : DFact }, Undo := x.Undo, State := x.State, Tries := x.Tries, Due := x.Due, V := x.V : DTask }) (Int.toNat y.2.2.1) fun (x : DTask) => { F := x.F, Undo := markText (IntKind.wrap IntKind.i64 (y.2.1 + (1 : Int)) + (↑(cntValS (List.getD (List.modify y.1 (Int.toNat y.2.2.1) fun (x : DTask) => { F := { Kind := markText y.2.1, Fields := x.F.Fields : DFact }, Undo := x.Undo, State := x.State, Tries := x.Tries, Due := x.Due, V := x.V : DTask }) (Int.toNat y.2.2.1) zTask).F.Fields) : Int)), State := x.State, Tries := x.Tries, Due := x.Due, V := x.V : DTask }) (Int.toNat y.2.2.1) fun (x : DTask) => { F := x.F, Undo := x.Undo, State := IntKind.wrap IntKind.i64 (IntKind.wrap IntKind.i64 (y.2.1 + (1 : Int)) + (↑(cntValS (List.getD (List.modify y.1 (Int.toNat y.2.2.1) fun (x : DTask) => { F := { Kind := markText y.2.1, Fields := x.F.Fields : DFact }, Undo := x.Undo, State := x.State, Tries := x.Tries, Due := x.Due, V := x.V : DTask }) (Int.toNat y.2.2.1) zTask).F.Fields) : Int) + (1 : Int)), Tries := x.Tries, Due := x.Due, V := x.V : DTask }) (Int.toNat y.2.2.1) fun (x : DTask) => { F := x.F, Undo := x.Undo, State := x.State, Tries := IntKind.wrap IntKind.i64 (IntKind.wrap IntKind.i64 (IntKind.wrap IntKind.i64 (y.2.1 + (1 : Int)) + (↑(cntValS (List.getD (List.modify y.1 (Int.toNat y.2.2.1) fun (x : DTask) => { F := { Kind := markText y.2.1, Fields := x.F.Fields : DFact }, Undo := x.Undo, State := x.State, Tries := x.Tries, Due := x.Due, V := x.V : DTask }) (Int.toNat y.2.2.1) zTask).F.Fields) : Int) + (1 : Int)) + (1 : Int)), Due := x.Due, V := x.V : DTask }) (Int.toNat y.2.2.1) fun (x : DTask) => { F := x.F, Undo := x.Undo, State := x.State, Tries := x.Tries, Due := IntKind.wrap IntKind.i64 (IntKind.wrap IntKind.i64 (IntKind.wrap IntKind.i64 (IntKind.wrap IntKind.i64 (y.2.1 + (1 : Int)) + (↑(cntValS (List.getD (List.modify y.1 (Int.toNat y.2.2.1) fun (x : DTask) => { F := { Kind := markText y.2.1, Fields := x.F.Fields : DFact }, Undo := x.Undo, State := x.State, Tries := x.Tries, Due := x.Due, V := x.V : DTask }) (Int.toNat y.2.2.1) zTask).F.Fields) : Int) + (1 : Int)) + (1 : Int)) + (1 : Int)), V := x.V : DTask }) (Int.toNat y.2.2.1) fun (x : DTask) => { F := x.F, Undo := x.Undo, State := x.State, Tries := x.Tries, Due := x.Due, V := { K := IntKind.wrap IntKind.i64 (IntKind.wrap IntKind.i64 (IntKind.wrap IntKind.i64 (IntKind.wrap IntKind.i64 (IntKind.wrap IntKind.i64 (y.2.1 + (1 : Int)) + (↑(cntValS (List.getD (List.modify y.1 (Int.toNat y.2.2.1) fun (x : DTask) => { F := { Kind := markText y.2.1, Fields := x.F.Fields : DFact }, Undo := x.Undo, State := x.State, Tries := x.Tries, Due := x.Due, V := x.V : DTask }) (Int.toNat y.2.2.1) zTask).F.Fields) : Int) + (1 : Int)) + (1 : Int)) + (1 : Int)) + (1 : Int)), N := x.V.N, S := x.V.S : DVal } : DTask }) (Int.toNat y.2.2.1) fun (x : DTask) => { F := x.F, Undo := x.Undo, State := x.State, Tries := x.Tries, Due := x.Due, V := { K := x.V.K, N := IntKind.wrap IntKind.i64 (IntKind.wrap IntKind.i64 (IntKind.wrap IntKind.i64 (IntKind.wrap IntKind.i64 (IntKind.wrap IntKind.i64 (IntKind.wrap IntKind.i64 (y.2.1 + (1 : Int)) + (↑(cntValS (List.getD (List.modify y.1 (Int.toNat y.2.2.1) fun (x : DTask) => { F := { Kind := markText y.2.1, Fields := x.F.Fields : DFact }, Undo := x.Undo, State := x.State, Tries := x.Tries, Due := x.Due, V := x.V : DTask }) (Int.toNat y.2.2.1) zTask).F.Fields) : Int) + (1 : Int)) + (1 : Int)) + (1 : Int)) + (1 : Int)) + (1 : Int)), S := x.V.S : DVal } : DTask };
    let x1 : List DTask := List.modify (List.modify (List.modify (List.modify (List.modify (List.modify y.1 (Int.toNat y.2.2.1) fun (x : DTask) => { F := { Kind := markText y.2.1, Fields := x.F.Fields : DFact }, Undo := x.Undo, State := x.State, Tries := x.Tries, Due := x.Due, V := x.V : DTask }) (Int.toNat y.2.2.1) fun (x : DTask) => { F := { Kind := x.F.Kind, Fields := markValS (List.getD (List.modify y.1 (Int.toNat y.2.2.1) fun (x : DTask) => { F := { Kind := markText y.2.1, Fields := x.F.Fields : DFact }, Undo := x.Undo, State := x.State, Tries := x.Tries, Due := x.Due, V := x.V : DTask }) (Int.toNat y.2.2.1) zTask).F.Fields (IntKind.wrap IntKind.i64 (y.2.1 + (1 : Int))) : DFact }, Undo := x.Undo, State := x.State, Tries := x.Tries, Due := x.Due, V := x.V : DTask }) (Int.toNat y.2.2.1) fun (x : DTask) => { F := x.F, Undo := markText (IntKind.wrap IntKind.i64 (y.2.1 + (1 : Int)) + (↑(cntValS (List.getD (List.modify y.1 (Int.toNat y.2.2.1) fun (x : DTask) => { F := { Kind := markText y.2.1, Fields := x.F.Fields : DFact }, Undo := x.Undo, State := x.State, Tries := x.Tries, Due := x.Due, V := x.V : DTask }) (Int.toNat y.2.2.1) zTask).F.Fields) : Int)), State := x.State, Tries := x.Tries, Due := x.Due, V := x.V : DTask }) (Int.toNat y.2.2.1) fun (x : DTask) => { F := x.F, Undo := x.Undo, State := IntKind.wrap IntKind.i64 (IntKind.wrap IntKind.i64 (y.2.1 + (1 : Int)) + (↑(cntValS (List.getD (List.modify y.1 (Int.toNat y.2.2.1) fun (x : DTask) => { F := { Kind := markText y.2.1, Fields := x.F.Fields : DFact }, Undo := x.Undo, State := x.State, Tries := x.Tries, Due := x.Due, V := x.V : DTask }) (Int.toNat y.2.2.1) zTask).F.Fields) : Int) + (1 : Int)), Tries := x.Tries, Due := x.Due, V := x.V : DTask }) (Int.toNat y.2.2.1) fun (x : DTask) => { F := x.F, Undo := x.Undo, State := x.State, Tries := IntKind.wrap IntKind.i64 (IntKind.wrap IntKind.i64 (IntKind.wrap IntKind.i64 (y.2.1 + (1 : Int)) + (↑(cntValS (List.getD (List.modify y.1 (Int.toNat y.2.2.1) fun (x : DTask) => { F := { Kind := markText y.2.1, Fields := x.F.Fields : DFact }, Undo := x.Undo, State := x.State, Tries := x.Tries, Due := x.Due, V := x.V : DTask }) (Int.toNat y.2.2.1) zTask).F.Fields) : Int) + (1 : Int)) + (1 : Int)), Due := x.Due, V := x.V : DTask }) (Int.toNat y.2.2.1) fun (x : DTask) => { F := x.F, Undo := x.Undo, State := x.State, Tries := x.Tries, Due := IntKind.wrap IntKind.i64 (IntKind.wrap IntKind.i64 (IntKind.wrap IntKind.i64 (IntKind.wrap IntKind.i64 (y.2.1 + (1 : Int)) + (↑(cntValS (List.getD (List.modify y.1 (Int.toNat y.2.2.1) fun (x : DTask) => { F := { Kind := markText y.2.1, Fields := x.F.Fields : DFact }, Undo := x.Undo, State := x.State, Tries := x.Tries, Due := x.Due, V := x.V : DTask }) (Int.toNat y.2.2.1) zTask).F.Fields) : Int) + (1 : Int)) + (1 : Int)) + (1 : Int)), V := x.V : DTask };
    let x2 : Nat := Int.toNat y.2.2.1;
    let x3 : List DTask := List.modify (List.modify (List.modify (List.modify y.1 x2 fun (x : DTask) => { F := { Kind := markText y.2.1, Fields := x.F.Fields : DFact }, Undo := x.Undo, State := x.State, Tries := x.Tries, Due := x.Due, V := x.V : DTask }) x2 fun (x : DTask) => { F := { Kind := x.F.Kind, Fields := markValS (List.getD (List.modify y.1 x2 fun (x : DTask) => { F := { Kind := markText y.2.1, Fields := x.F.Fields : DFact }, Undo := x.Undo, State := x.State, Tries := x.Tries, Due := x.Due, V := x.V : DTask }) x2 zTask).F.Fields (IntKind.wrap IntKind.i64 (y.2.1 + (1 : Int))) : DFact }, Undo := x.Undo, State := x.State, Tries := x.Tries, Due := x.Due, V := x.V : DTask }) x2 fun (x : DTask) => { F := x.F, Undo := markText (IntKind.wrap IntKind.i64 (y.2.1 + (1 : Int)) + (↑(cntValS (List.getD (List.modify y.1 x2 fun (x : DTask) => { F := { Kind := markText y.2.1, Fields := x.F.Fields : DFact }, Undo := x.Undo, State := x.State, Tries := x.Tries, Due := x.Due, V := x.V : DTask }) x2 zTask).F.Fields) : Int)), State := x.State, Tries := x.Tries, Due := x.Due, V := x.V : DTask }) x2 fun (x : DTask) => { F := x.F, Undo := x.Undo, State := IntKind.wrap IntKind.i64 (IntKind.wrap IntKind.i64 (y.2.1 + (1 : Int)) + (↑(cntValS (List.getD (List.modify y.1 x2 fun (x : DTask) => { F := { Kind := markText y.2.1, Fields := x.F.Fields : DFact }, Undo := x.Undo, State := x.State, Tries := x.Tries, Due := x.Due, V := x.V : DTask }) x2 zTask).F.Fields) : Int) + (1 : Int)), Tries := x.Tries, Due := x.Due, V := x.V : DTask };
    let x4 : Int := IntKind.wrap IntKind.i64 (y.2.1 + (1 : Int)) + (↑(cntValS (List.getD (List.modify y.1 x2 fun (x : DTask) => { F := { Kind := markText y.2.1, Fields := x.F.Fields : DFact }, Undo := x.Undo, State := x.State, Tries := x.Tries, Due := x.Due, V := x.V : DTask }) x2 zTask).F.Fields) : Int);
    let x5 : List DTask := List.modify (List.modify y.1 x2 fun (x : DTask) => { F := { Kind := markText y.2.1, Fields := x.F.Fields : DFact }, Undo := x.Undo, State := x.State, Tries := x.Tries, Due := x.Due, V := x.V : DTask }) x2 fun (x : DTask) => { F := { Kind := x.F.Kind, Fields := markValS (List.getD (List.modify y.1 x2 fun (x : DTask) => { F := { Kind := markText y.2.1, Fields := x.F.Fields : DFact }, Undo := x.Undo, State := x.State, Tries := x.Tries, Due := x.Due, V := x.V : DTask }) x2 zTask).F.Fields (IntKind.wrap IntKind.i64 (y.2.1 + (1 : Int))) : DFact }, Undo := x.Undo, State := x.State, Tries := x.Tries, Due := x.Due, V := x.V : DTask };
    let x6 : Int := IntKind.wrap IntKind.i64 (IntKind.wrap IntKind.i64 (IntKind.wrap IntKind.i64 (IntKind.wrap IntKind.i64 (IntKind.wrap IntKind.i64 (IntKind.wrap IntKind.i64 (x4 + (1 : Int)) + (1 : Int)) + (1 : Int)) + (1 : Int)) + (1 : Int)) + (1 : Int));
    let x7 : Int := IntKind.wrap IntKind.i64 (IntKind.wrap IntKind.i64 (x4 + (1 : Int)) + (1 : Int));
    I_laws_markTaskS_2 a k y → bif decide (y.2.2.1 < (↑(List.length y.1) : Int)) then y.2.1 ≤ (4611686018427387903 : Int) ∧ (0 : Int) ≤ y.2.2.1 ∧ x2 < List.length y.1 ∧ x2 < List.length y.1 ∧ (0 : Int) ≤ y.2.2.1 ∧ x2 < List.length (List.modify y.1 x2 fun (x : DTask) => { F := { Kind := markText y.2.1, Fields := x.F.Fields : DFact }, Undo := x.Undo, State := x.State, Tries := x.Tries, Due := x.Due, V := x.V : DTask }) ∧ x2 < List.length (List.modify y.1 x2 fun (x : DTask) => { F := { Kind := markText y.2.1, Fields := x.F.Fields : DFact }, Undo := x.Undo, State := x.State, Tries := x.Tries, Due := x.Due, V := x.V : DTask }) ∧ x2 < List.length (List.modify y.1 x2 fun (x : DTask) => { F := { Kind := markText y.2.1, Fields := x.F.Fields : DFact }, Undo := x.Undo, State := x.State, Tries := x.Tries, Due := x.Due, V := x.V : DTask }) ∧ (0 : Int) ≤ IntKind.wrap IntKind.i64 (y.2.1 + (1 : Int)) ∧ x4 ≤ (4611686018427387904 : Int) ∧ x4 ≤ (4611686018427387903 : Int) ∧ (0 : Int) ≤ y.2.2.1 ∧ x2 < List.length x5 ∧ x2 < List.length x5 ∧ (0 : Int) ≤ y.2.2.1 ∧ x2 < List.length (List.modify x5 x2 fun (x : DTask) => { F := x.F, Undo := markText x4, State := x.State, Tries := x.Tries, Due := x.Due, V := x.V : DTask }) ∧ x2 < List.length (List.modify x5 x2 fun (x : DTask) => { F := x.F, Undo := markText x4, State := x.State, Tries := x.Tries, Due := x.Due, V := x.V : DTask }) ∧ (0 : Int) ≤ y.2.2.1 ∧ x2 < List.length x3 ∧ x2 < List.length x3 ∧ (0 : Int) ≤ y.2.2.1 ∧ x2 < List.length (List.modify x3 x2 fun (x : DTask) => { F := x.F, Undo := x.Undo, State := x.State, Tries := x7, Due := x.Due, V := x.V : DTask }) ∧ x2 < List.length (List.modify x3 x2 fun (x : DTask) => { F := x.F, Undo := x.Undo, State := x.State, Tries := x7, Due := x.Due, V := x.V : DTask }) ∧ (0 : Int) ≤ y.2.2.1 ∧ x2 < List.length x1 ∧ x2 < List.length x1 ∧ (0 : Int) ≤ y.2.2.1 ∧ x2 < List.length (List.modify x1 x2 fun (x : DTask) => { F := x.F, Undo := x.Undo, State := x.State, Tries := x.Tries, Due := x.Due, V := { K := IntKind.wrap IntKind.i64 (IntKind.wrap IntKind.i64 (x7 + (1 : Int)) + (1 : Int)), N := x.V.N, S := x.V.S : DVal } : DTask }) ∧ x2 < List.length (List.modify x1 x2 fun (x : DTask) => { F := x.F, Undo := x.Undo, State := x.State, Tries := x.Tries, Due := x.Due, V := { K := IntKind.wrap IntKind.i64 (IntKind.wrap IntKind.i64 (x7 + (1 : Int)) + (1 : Int)), N := x.V.N, S := x.V.S : DVal } : DTask }) ∧ x6 ≤ (4611686018427387903 : Int) ∧ (0 : Int) ≤ y.2.2.1 ∧ x2 < List.length x0 ∧ x2 < List.length x0 ∧ I_laws_markTaskS_2 a k (List.modify x0 x2 fun (x : DTask) => { F := x.F, Undo := x.Undo, State := x.State, Tries := x.Tries, Due := x.Due, V := { K := x.V.K, N := x.V.N, S := markText x6 : DVal } : DTask }, IntKind.wrap IntKind.i64 (x6 + (1 : Int)), IntKind.wrap IntKind.i64 (y.2.2.1 + (1 : Int)), PUnit.unit) ∧ μ_laws_markTaskS_2 a k (List.modify x0 x2 fun (x : DTask) => { F := x.F, Undo := x.Undo, State := x.State, Tries := x.Tries, Due := x.Due, V := { K := x.V.K, N := x.V.N, S := markText x6 : DVal } : DTask }, IntKind.wrap IntKind.i64 (x6 + (1 : Int)), IntKind.wrap IntKind.i64 (y.2.2.1 + (1 : Int)), PUnit.unit) < μ_laws_markTaskS_2 a k y else asD [DV.one (Cell.lit (Value.int IntKind.i64 y.2.1))] = asD [DV.one (Cell.lit (Value.int IntKind.i64 (k + (↑(cntTaskS a) : Int))))] ∧ asD [DV.one (Cell.sl Cd.eTask y.1)] = asD [DV.one (Cell.sl Cd.eTask (markTaskS a k))]) := by kernel_rfl
theorem ok_laws_markTaskS : Holds EE (24, con_laws_markTaskS) := by
  refine holds_of EE_ok Go.Proofs.Tryd.func24 con_laws_markTaskS (by kernel_rfl) rfl use_laws_markTaskS (all_cons ok_laws_markText (all_cons ok_laws_markValS all_nil)) ann_laws_markTaskS (fun x hp hb => ?_)
  obtain ⟨a, k⟩ := x
  have hb_a : BdDV (U := UU) (.one (.sl .eTask a)) := hb _ (List.mem_cons_self)
  have hl_a : a.length ≤ 9223372036854775807 := Bd.len hb_a
  have hb_k : BdDV (U := UU) (.one (.lit (.int .i64 k))) := hb _ (List.mem_cons_of_mem _ (List.mem_cons_self))
  have hl_k := Bd.i64 hb_k
  have hp0 : 0 ≤ k := hp _ (List.mem_cons_self)
  have hp1 : k + cntTaskS a ≤ 4611686018427387904 := hp _ (List.mem_cons_of_mem _ (List.mem_cons_self))
  clear hp hb
  rw [vc_laws_markTaskS a k]
  dsimp only
  refine ⟨⟨by omega, by omega, by simp, by simp [ctS]⟩, ?_⟩
  rintro ⟨row, kk, i, ⟨⟩⟩ ⟨h1, h2, rfl, rfl⟩
  simp only
  have hl := mk_rl markTask cntTask a k h1 h2
  refine if_cond (fun hc => ?_) (fun hc => ?_)
  · have hc : i < a.length := by have hc := of_decide_eq_true hc; omega
    have hct := ctS_take cntTask a zTask h1 hc
    have hle := ctS_take_le cntTask a (i + 1).toNat
    have hg := mk_getD _ a zTask (mk_tl markTask cntTask a k h1 h2) h1 hc
    have hM := fun F hF => mkS_mod markTask cntTask a zTask k (i := i) F h1 hc hF
    have hq : (cntTaskS a : Int) = ctS cntTask a := rfl
    generalize List.getD a i.toNat zTask = x at *
    generalize hkk : k + (ctS cntTask (a.take i.toNat) : Int) = kk at *
    generalize List.take i.toNat (mkS markTask cntTask a k) ++ List.drop i.toNat a = R at *
    simp only [cntTask] at hct
    simp (disch := first | omega | (simp only [List.length_modify]; omega)) only [List.length_modify, wrap_i64, getD_modify, modify_modify, hg, hl]
    repeat' (first | refine And.intro (by omega) ?_ | fail)
    exact ⟨⟨by omega, by omega, hM _ rfl, by omega⟩, by simp only [μ_laws_markTaskS_2]; omega⟩
  · have hc : a.length ≤ i := by have hc := of_decide_eq_false hc; omega
    rw [mk_done markTask cntTask a k hc, ct_done cntTask a hc]
    exact ⟨rfl, rfl⟩
def con_laws_heldTaskS : Con UU where
  α := (List DTask) × Int
  md := [.ro, .ro]
  of := fun | [.one (.sl .eTask a0), .one (.lit (.int .i64 a1))] => some (a0, a1) | _ => none
  ds := fun (a, k) => [.one (.sl .eTask a), .one (.lit (.int .i64 k))]
  pre := fun (a, k) => [0 ≤ k, k + cntTaskS a ≤ 4611686018427387904]
  res := fun (a, k) => ⟨[.one (.lit (.int .i64 (if markTaskS a k = a then k + cntTaskS a else -1)))], true, []⟩
  law := by intro l x h; (try simp only at h); split at h <;> cases h; rfl
def I_laws_heldTaskS_2 (a : (List DTask)) (k : Int) : Int × Int × Unit → Prop := fun (kk, i, _) => 0 ≤ i ∧ i ≤ a.length ∧ kk = k + ctS cntTask (a.take i.toNat) ∧ (mkS markTask cntTask (a.drop i.toNat) kk = a.drop i.toNat ↔ mkS markTask cntTask a k = a)
def μ_laws_heldTaskS_2 (a : (List DTask)) (k : Int) : Int × Int × Unit → Nat := fun (kk, i, _) => a.length - i.toNat
def ann_laws_heldTaskS : con_laws_heldTaskS.α → Nat → Option (Ann UU) := fun (a, k) => annL [(2, annOf [.slot 1 (1, 1024) (.lit (.int .i64)), .slot 5 (5, 1024) (.lit (.int .i64))] (fun _ => I_laws_heldTaskS_2 a k) (μ_laws_heldTaskS_2 a k))]
def use_laws_heldTaskS : List (FuncId × Con UU) := [(53, con_laws_markText), (56, con_laws_heldValS)]
theorem vc_laws_heldTaskS (a : (List DTask)) (k : Int) : goal EE use_laws_heldTaskS Go.Proofs.Tryd.f25 con_laws_heldTaskS ann_laws_heldTaskS (a, k) = (I_laws_heldTaskS_2 a k (k, (0 : Int), PUnit.unit) ∧
  ∀ (y : Int × Int × PUnit),
    let x0 : Int := if markValS (List.getD a (Int.toNat y.2.1) zTask).F.Fields (IntKind.wrap IntKind.i64 (y.1 + (1 : Int))) = (List.getD a (Int.toNat y.2.1) zTask).F.Fields then IntKind.wrap IntKind.i64 (y.1 + (1 : Int)) + (↑(cntValS (List.getD a (Int.toNat y.2.1) zTask).F.Fields) : Int) else (-1 : Int);
    let x1 : DTask := List.getD a (Int.toNat y.2.1) zTask;
    let x2 : Int := IntKind.wrap IntKind.i64 (IntKind.wrap IntKind.i64 (IntKind.wrap IntKind.i64 (IntKind.wrap IntKind.i64 (IntKind.wrap IntKind.i64 (IntKind.wrap IntKind.i64 (x0 + (1 : Int)) + (1 : Int)) + (1 : Int)) + (1 : Int)) + (1 : Int)) + (1 : Int));
    let x3 : Int := IntKind.wrap IntKind.i64 (IntKind.wrap IntKind.i64 (IntKind.wrap IntKind.i64 (IntKind.wrap IntKind.i64 (x0 + (1 : Int)) + (1 : Int)) + (1 : Int)) + (1 : Int));
    let x4 : Int := IntKind.wrap IntKind.i64 (IntKind.wrap IntKind.i64 (x0 + (1 : Int)) + (1 : Int));
    I_laws_heldTaskS_2 a k y → bif decide (y.2.1 < (↑(List.length a) : Int)) then (0 : Int) ≤ y.2.1 ∧ Int.toNat y.2.1 < List.length a ∧ y.1 ≤ (4611686018427387903 : Int) ∧ bif !ByteArray.toList x1.F.Kind == ByteArray.toList (markText y.1) then Lf [DV.one (Cell.lit (Value.int IntKind.i64 (-1 : Int)))] [DV.one (Cell.lit (Value.int IntKind.i64 (if markTaskS a k = a then k + (↑(cntTaskS a) : Int) else (-1 : Int))))] else (0 : Int) ≤ y.2.1 ∧ Int.toNat y.2.1 < List.length a ∧ (0 : Int) ≤ IntKind.wrap IntKind.i64 (y.1 + (1 : Int)) ∧ IntKind.wrap IntKind.i64 (y.1 + (1 : Int)) + (↑(cntValS x1.F.Fields) : Int) ≤ (4611686018427387904 : Int) ∧ bif decide (x0 < (0 : Int)) then Lf [DV.one (Cell.lit (Value.int IntKind.i64 (-1 : Int)))] [DV.one (Cell.lit (Value.int IntKind.i64 (if markTaskS a k = a then k + (↑(cntTaskS a) : Int) else (-1 : Int))))] else (0 : Int) ≤ y.2.1 ∧ Int.toNat y.2.1 < List.length a ∧ x0 ≤ (4611686018427387903 : Int) ∧ bif !ByteArray.toList x1.Undo == ByteArray.toList (markText x0) then Lf [DV.one (Cell.lit (Value.int IntKind.i64 (-1 : Int)))] [DV.one (Cell.lit (Value.int IntKind.i64 (if markTaskS a k = a then k + (↑(cntTaskS a) : Int) else (-1 : Int))))] else (0 : Int) ≤ y.2.1 ∧ Int.toNat y.2.1 < List.length a ∧ bif x1.State != IntKind.wrap IntKind.i64 (x0 + (1 : Int)) then Lf [DV.one (Cell.lit (Value.int IntKind.i64 (-1 : Int)))] [DV.one (Cell.lit (Value.int IntKind.i64 (if markTaskS a k = a then k + (↑(cntTaskS a) : Int) else (-1 : Int))))] else (0 : Int) ≤ y.2.1 ∧ Int.toNat y.2.1 < List.length a ∧ bif x1.Tries != x4 then Lf [DV.one (Cell.lit (Value.int IntKind.i64 (-1 : Int)))] [DV.one (Cell.lit (Value.int IntKind.i64 (if markTaskS a k = a then k + (↑(cntTaskS a) : Int) else (-1 : Int))))] else (0 : Int) ≤ y.2.1 ∧ Int.toNat y.2.1 < List.length a ∧ bif x1.Due != IntKind.wrap IntKind.i64 (x4 + (1 : Int)) then Lf [DV.one (Cell.lit (Value.int IntKind.i64 (-1 : Int)))] [DV.one (Cell.lit (Value.int IntKind.i64 (if markTaskS a k = a then k + (↑(cntTaskS a) : Int) else (-1 : Int))))] else (0 : Int) ≤ y.2.1 ∧ Int.toNat y.2.1 < List.length a ∧ bif x1.V.K != x3 then Lf [DV.one (Cell.lit (Value.int IntKind.i64 (-1 : Int)))] [DV.one (Cell.lit (Value.int IntKind.i64 (if markTaskS a k = a then k + (↑(cntTaskS a) : Int) else (-1 : Int))))] else (0 : Int) ≤ y.2.1 ∧ Int.toNat y.2.1 < List.length a ∧ bif x1.V.N != IntKind.wrap IntKind.i64 (x3 + (1 : Int)) then Lf [DV.one (Cell.lit (Value.int IntKind.i64 (-1 : Int)))] [DV.one (Cell.lit (Value.int IntKind.i64 (if markTaskS a k = a then k + (↑(cntTaskS a) : Int) else (-1 : Int))))] else (0 : Int) ≤ y.2.1 ∧ Int.toNat y.2.1 < List.length a ∧ x2 ≤ (4611686018427387903 : Int) ∧ bif !ByteArray.toList x1.V.S == ByteArray.toList (markText x2) then Lf [DV.one (Cell.lit (Value.int IntKind.i64 (-1 : Int)))] [DV.one (Cell.lit (Value.int IntKind.i64 (if markTaskS a k = a then k + (↑(cntTaskS a) : Int) else (-1 : Int))))] else I_laws_heldTaskS_2 a k (IntKind.wrap IntKind.i64 (x2 + (1 : Int)), IntKind.wrap IntKind.i64 (y.2.1 + (1 : Int)), PUnit.unit) ∧ μ_laws_heldTaskS_2 a k (IntKind.wrap IntKind.i64 (x2 + (1 : Int)), IntKind.wrap IntKind.i64 (y.2.1 + (1 : Int)), PUnit.unit) < μ_laws_heldTaskS_2 a k y else Lf [DV.one (Cell.lit (Value.int IntKind.i64 y.1))] [DV.one (Cell.lit (Value.int IntKind.i64 (if markTaskS a k = a then k + (↑(cntTaskS a) : Int) else (-1 : Int))))]) := by kernel_rfl
theorem ok_laws_heldTaskS : Holds EE (25, con_laws_heldTaskS) := by
  refine holds_of EE_ok Go.Proofs.Tryd.func25 con_laws_heldTaskS (by kernel_rfl) rfl use_laws_heldTaskS (all_cons ok_laws_markText (all_cons ok_laws_heldValS all_nil)) ann_laws_heldTaskS (fun x hp hb => ?_)
  obtain ⟨a, k⟩ := x
  have hb_a : BdDV (U := UU) (.one (.sl .eTask a)) := hb _ (List.mem_cons_self)
  have hl_a : a.length ≤ 9223372036854775807 := Bd.len hb_a
  have hb_k : BdDV (U := UU) (.one (.lit (.int .i64 k))) := hb _ (List.mem_cons_of_mem _ (List.mem_cons_self))
  have hl_k := Bd.i64 hb_k
  have hp0 : 0 ≤ k := hp _ (List.mem_cons_self)
  have hp1 : k + cntTaskS a ≤ 4611686018427387904 := hp _ (List.mem_cons_of_mem _ (List.mem_cons_self))
  clear hp hb
  rw [vc_laws_heldTaskS a k]
  dsimp only
  refine ⟨⟨by omega, by omega, by simp [ctS], by simp⟩, ?_⟩
  rintro ⟨kk, i, ⟨⟩⟩ ⟨h1, h2, hkk, hR⟩
  simp only
  simp only [markTaskS]
  refine if_cond (fun hc => ?_) (fun hc => ?_)
  · have hc : i < a.length := by have hc := of_decide_eq_true hc; omega
    have hct := ctS_take cntTask a zTask h1 hc
    have hle := ctS_take_le cntTask a (i + 1).toNat
    have hq : (cntTaskS a : Int) = ctS cntTask a := rfl
    rw [drop_step a zTask h1 hc] at hR
    generalize List.getD a i.toNat zTask = x at *
    simp only [mkS, List.cons.injEq] at hR
    have e : kk + (cntTask x : Int) = kk + 1 + (cntValS x.F.Fields : Int) + 1 + 1 + 1 + 1 + 1 + 1 + 1 := by simp only [cntTask]; omega
    rw [e] at hR
    simp only [markTask, cntTask] at hR hct
    simp (disch := omega) only [wrap_i64, bne_int, toList_beq]
    obtain ⟨⟨x_F_Kind, x_F_Fields⟩, x_Undo, x_State, x_Tries, x_Due, ⟨x_V_K, x_V_N, x_V_S⟩⟩ := x
    simp only [DFact.mk.injEq, DTask.mk.injEq, DVal.mk.injEq] at *
    repeat' (first | refine And.intro (by omega) ?_ | fail)
    refine if_cond (fun h => Lf_no (fun hh => ?_)) (fun h => ?_)
    · have hh := hR.2 hh; simp_all
    have h : x_F_Kind = markText (kk) := by simpa using h
    subst x_F_Kind
    repeat' (first | refine And.intro (by omega) ?_ | fail)
    by_cases hm : markValS x_F_Fields (kk + 1) = x_F_Fields
    rotate_left
    · simp only [if_neg hm]; rw [cond_yes (by decide)]
      exact Lf_no (fun hh => hm (by have hh := hR.2 hh; simp_all))
    simp only [if_pos hm]
    refine if_cond (fun h => absurd (of_decide_eq_true h) (by omega)) (fun h => ?_)
    simp only [hm] at hR
    clear hm
    repeat' (first | refine And.intro (by omega) ?_ | fail)
    refine if_cond (fun h => Lf_no (fun hh => ?_)) (fun h => ?_)
    · have hh := hR.2 hh; simp_all
    have h : x_Undo = markText (kk + 1 + cntValS x_F_Fields) := by simpa using h
    subst x_Undo
    repeat' (first | refine And.intro (by omega) ?_ | fail)
    refine if_cond (fun h => Lf_no (fun hh => ?_)) (fun h => ?_)
    · have hh := hR.2 hh; simp_all
    have h : x_State = kk + 1 + cntValS x_F_Fields + 1 := by simpa using h
    subst x_State
    repeat' (first | refine And.intro (by omega) ?_ | fail)
    refine if_cond (fun h => Lf_no (fun hh => ?_)) (fun h => ?_)
    · have hh := hR.2 hh; simp_all
    have h : x_Tries = kk + 1 + cntValS x_F_Fields + 1 + 1 := by simpa using h
    subst x_Tries
    repeat' (first | refine And.intro (by omega) ?_ | fail)
    refine if_cond (fun h => Lf_no (fun hh => ?_)) (fun h => ?_)
    · have hh := hR.2 hh; simp_all
    have h : x_Due = kk + 1 + cntValS x_F_Fields + 1 + 1 + 1 := by simpa using h
    subst x_Due
    repeat' (first | refine And.intro (by omega) ?_ | fail)
    refine if_cond (fun h => Lf_no (fun hh => ?_)) (fun h => ?_)
    · have hh := hR.2 hh; simp_all
    have h : x_V_K = kk + 1 + cntValS x_F_Fields + 1 + 1 + 1 + 1 := by simpa using h
    subst x_V_K
    repeat' (first | refine And.intro (by omega) ?_ | fail)
    refine if_cond (fun h => Lf_no (fun hh => ?_)) (fun h => ?_)
    · have hh := hR.2 hh; simp_all
    have h : x_V_N = kk + 1 + cntValS x_F_Fields + 1 + 1 + 1 + 1 + 1 := by simpa using h
    subst x_V_N
    repeat' (first | refine And.intro (by omega) ?_ | fail)
    refine if_cond (fun h => Lf_no (fun hh => ?_)) (fun h => ?_)
    · have hh := hR.2 hh; simp_all
    have h : x_V_S = markText (kk + 1 + cntValS x_F_Fields + 1 + 1 + 1 + 1 + 1 + 1) := by simpa using h
    subst x_V_S
    exact ⟨⟨by omega, by omega, by omega, by simpa using hR⟩, by simp only [μ_laws_heldTaskS_2]; omega⟩
  · have hc : a.length ≤ i := by have hc := of_decide_eq_false hc; omega
    rw [drop_end a hc] at hR
    exact Lf_yes (hR.1 rfl) (by rw [hkk, ct_done _ _ hc]; rfl)
def con_laws_eqCall : Con UU where
  α := DCall × DCall
  md := [.ro, .ro]
  of := fun | [.agg [.lit (.string a0), .lit (.string a1), .sl .eVal a2, .lit (.int .i64 a3)], .agg [.lit (.string a4), .lit (.string a5), .sl .eVal a6, .lit (.int .i64 a7)]] => some (⟨a0, ⟨a1, a2⟩, a3⟩, ⟨a4, ⟨a5, a6⟩, a7⟩) | _ => none
  ds := fun (a, b) => [.agg [.lit (.string a.Key), .lit (.string a.F.Kind), .sl .eVal a.F.Fields, .lit (.int .i64 a.Try)], .agg [.lit (.string b.Key), .lit (.string b.F.Kind), .sl .eVal b.F.Fields, .lit (.int .i64 b.Try)]]
  pre := fun (a, b) => []
  res := fun (a, b) => ⟨[.one (.lit (.bool (decide (a = b))))], true, []⟩
  law := by intro l x h; (try simp only at h); split at h <;> cases h; rfl
def ann_laws_eqCall : con_laws_eqCall.α → Nat → Option (Ann UU) := fun (a, b) => annL []
def use_laws_eqCall : List (FuncId × Con UU) := [(51, con_laws_eqFact)]
theorem vc_laws_eqCall (a : DCall) (b : DCall) : goal EE use_laws_eqCall Go.Proofs.Tryd.f71 con_laws_eqCall ann_laws_eqCall (a, b) = (bif !ByteArray.toList a.Key == ByteArray.toList b.Key then Lf [DV.one (Cell.lit (Value.bool false))] [DV.one (Cell.lit (Value.bool (decide (a = b))))] else bif !decide (a.F = b.F) then Lf [DV.one (Cell.lit (Value.bool false))] [DV.one (Cell.lit (Value.bool (decide (a = b))))] else bif a.Try != b.Try then Lf [DV.one (Cell.lit (Value.bool false))] [DV.one (Cell.lit (Value.bool (decide (a = b))))] else Lf [DV.one (Cell.lit (Value.bool true))] [DV.one (Cell.lit (Value.bool (decide (a = b))))]) := by kernel_rfl
theorem ok_laws_eqCall : Holds EE (71, con_laws_eqCall) := by
  refine holds_of EE_ok Go.Proofs.Tryd.func71 con_laws_eqCall (by kernel_rfl) rfl use_laws_eqCall (all_cons ok_laws_eqFact all_nil) ann_laws_eqCall (fun x hp hb => ?_)
  obtain ⟨a, b⟩ := x
  have hb_a : BdDV (U := UU) (.agg [.lit (.string a.Key), .lit (.string a.F.Kind), .sl .eVal a.F.Fields, .lit (.int .i64 a.Try)]) := hb _ (List.mem_cons_self)
  have hl_a_Key : a.Key.size ≤ 9223372036854775807 := Bd.str (hb_a _ (by simp))
  have hl_a_F_Kind : a.F.Kind.size ≤ 9223372036854775807 := Bd.str (hb_a _ (by simp))
  have hl_a_F_Fields : a.F.Fields.length ≤ 9223372036854775807 := Bd.len (U := UU) (τ := .eVal) (xs := a.F.Fields) (hb_a _ (by simp))
  have hb_b : BdDV (U := UU) (.agg [.lit (.string b.Key), .lit (.string b.F.Kind), .sl .eVal b.F.Fields, .lit (.int .i64 b.Try)]) := hb _ (List.mem_cons_of_mem _ (List.mem_cons_self))
  have hl_b_Key : b.Key.size ≤ 9223372036854775807 := Bd.str (hb_b _ (by simp))
  have hl_b_F_Kind : b.F.Kind.size ≤ 9223372036854775807 := Bd.str (hb_b _ (by simp))
  have hl_b_F_Fields : b.F.Fields.length ≤ 9223372036854775807 := Bd.len (U := UU) (τ := .eVal) (xs := b.F.Fields) (hb_b _ (by simp))
  clear hp hb
  rw [vc_laws_eqCall a b]
  obtain ⟨aKey, aF, aTry⟩ := a
  obtain ⟨bKey, bF, bTry⟩ := b
  repeat' (apply if_cond <;> intro _)
  all_goals (first | apply Lf_t | apply Lf_f) <;> simp_all
def con_laws_eqCallS : Con UU where
  α := (List DCall) × (List DCall)
  md := [.ro, .ro]
  of := fun | [.one (.sl .eCall a0), .one (.sl .eCall a1)] => some (a0, a1) | _ => none
  ds := fun (a, b) => [.one (.sl .eCall a), .one (.sl .eCall b)]
  pre := fun (a, b) => []
  res := fun (a, b) => ⟨[.one (.lit (.bool (decide (a = b))))], true, []⟩
  law := by intro l x h; (try simp only at h); split at h <;> cases h; rfl
def I_laws_eqCallS_4 (a : (List DCall)) (b : (List DCall)) : Int × Unit → Prop := fun (i, _) => 0 ≤ i ∧ i ≤ a.length ∧ a.length = b.length ∧ (a.drop i.toNat = b.drop i.toNat ↔ a = b)
def μ_laws_eqCallS_4 (a : (List DCall)) (b : (List DCall)) : Int × Unit → Nat := fun (i, _) => a.length - i.toNat
def ann_laws_eqCallS : con_laws_eqCallS.α → Nat → Option (Ann UU) := fun (a, b) => annL [(4, annOf [.slot 5 (5, 1024) (.lit (.int .i64))] (fun _ => I_laws_eqCallS_4 a b) (μ_laws_eqCallS_4 a b))]
def use_laws_eqCallS : List (FuncId × Con UU) := [(71, con_laws_eqCall)]
theorem vc_laws_eqCallS (a : (List DCall)) (b : (List DCall)) : goal EE use_laws_eqCallS Go.Proofs.Tryd.f28 con_laws_eqCallS ann_laws_eqCallS (a, b) = (bif (↑(List.length a) : Int) != (↑(List.length b) : Int) then Lf [DV.one (Cell.lit (Value.bool false))] [DV.one (Cell.lit (Value.bool (decide (a = b))))] else I_laws_eqCallS_4 a b ((0 : Int), PUnit.unit) ∧ ∀ (y : Int × PUnit), I_laws_eqCallS_4 a b y → bif decide (y.1 < (↑(List.length a) : Int)) then (0 : Int) ≤ y.1 ∧ Int.toNat y.1 < List.length a ∧ (0 : Int) ≤ y.1 ∧ Int.toNat y.1 < List.length b ∧ bif !decide (List.getD a (Int.toNat y.1) zCall = List.getD b (Int.toNat y.1) zCall) then Lf [DV.one (Cell.lit (Value.bool false))] [DV.one (Cell.lit (Value.bool (decide (a = b))))] else I_laws_eqCallS_4 a b (IntKind.wrap IntKind.i64 (y.1 + (1 : Int)), PUnit.unit) ∧ μ_laws_eqCallS_4 a b (IntKind.wrap IntKind.i64 (y.1 + (1 : Int)), PUnit.unit) < μ_laws_eqCallS_4 a b y else Lf [DV.one (Cell.lit (Value.bool true))] [DV.one (Cell.lit (Value.bool (decide (a = b))))]) := by kernel_rfl
theorem ok_laws_eqCallS : Holds EE (28, con_laws_eqCallS) := by
  refine holds_of EE_ok Go.Proofs.Tryd.func28 con_laws_eqCallS (by kernel_rfl) rfl use_laws_eqCallS (all_cons ok_laws_eqCall all_nil) ann_laws_eqCallS (fun x hp hb => ?_)
  obtain ⟨a, b⟩ := x
  have hb_a : BdDV (U := UU) (.one (.sl .eCall a)) := hb _ (List.mem_cons_self)
  have hl_a : a.length ≤ 9223372036854775807 := Bd.len hb_a
  have hb_b : BdDV (U := UU) (.one (.sl .eCall b)) := hb _ (List.mem_cons_of_mem _ (List.mem_cons_self))
  have hl_b : b.length ≤ 9223372036854775807 := Bd.len hb_b
  clear hp hb
  rw [vc_laws_eqCallS a b]
  refine if_cond (fun h => Lf_f ?_) (fun h => ⟨?_, ?_⟩)
  · rintro rfl; simp at h
  · simp [I_laws_eqCallS_4] at *; omega
  rintro ⟨i, ⟨⟩⟩ ⟨h1, h2, h3, hR⟩
  simp only at *
  refine if_cond (fun hc => ?_) (fun hc => ?_)
  · have hc : i < a.length := by simpa using hc
    rw [drop_step a zCall h1 hc, drop_step b zCall h1 (by omega)] at hR
    rw [wrap_i64 (by omega) (by omega)]
    refine ⟨by omega, by omega, by omega, by omega, if_cond (fun h => Lf_f ?_) (fun h => ⟨⟨by omega, by omega, h3, ?_⟩, ?_⟩)⟩
    · rw [← hR]; simp at h; simp [h]
    · rw [← hR]; simp at h; simp [h]
    · simp only [μ_laws_eqCallS_4]; omega
  · have hc : a.length ≤ i := by simpa using hc
    rw [drop_end a hc, drop_end b (by omega)] at hR
    exact Lf_t (hR.1 rfl)
def con_laws_markCallS : Con UU where
  α := (List DCall) × Int
  md := [.wr, .ro]
  of := fun | [.one (.sl .eCall a0), .one (.lit (.int .i64 a1))] => some (a0, a1) | _ => none
  ds := fun (a, k) => [.one (.sl .eCall a), .one (.lit (.int .i64 k))]
  pre := fun (a, k) => [0 ≤ k, k + cntCallS a ≤ 4611686018427387904]
  res := fun (a, k) => ⟨[.one (.lit (.int .i64 (k + cntCallS a)))], true, [.one (.sl .eCall (markCallS a k))]⟩
  law := by intro l x h; (try simp only at h); split at h <;> cases h; rfl
def I_laws_markCallS_2 (a : (List DCall)) (k : Int) : List DCall × Int × Int × Unit → Prop := fun (row, kk, i, _) => 0 ≤ i ∧ i ≤ a.length ∧ row = (mkS markCall cntCall a k).take i.toNat ++ a.drop i.toNat ∧ kk = k + ctS cntCall (a.take i.toNat)
def μ_laws_markCallS_2 (a : (List DCall)) (k : Int) : List DCall × Int × Int × Unit → Nat := fun (row, kk, i, _) => a.length - i.toNat
def ann_laws_markCallS : con_laws_markCallS.α → Nat → Option (Ann UU) := fun (a, k) => annL [(2, annOf [.slot 0 (2000000, 0) (.own .eCall true), .slot 1 (1, 1024) (.lit (.int .i64)), .slot 5 (5, 1024) (.lit (.int .i64))] (fun _ => I_laws_markCallS_2 a k) (μ_laws_markCallS_2 a k))]
def use_laws_markCallS : List (FuncId × Con UU) := [(53, con_laws_markText), (54, con_laws_markValS)]
theorem vc_laws_markCallS (a : (List DCall)) (k : Int) : goal EE use_laws_markCallS Go.Proofs.Tryd.f30 con_laws_markCallS ann_laws_markCallS (a, k) = (I_laws_markCallS_2 a k (a, k, (0 : Int), PUnit.unit) ∧
  ∀ (y : List DCall × Int × Int × PUnit),
    let x0 : Int := IntKind.wrap IntKind.i64 (IntKind.wrap IntKind.i64 (y.2.1 + (1 : Int)) + (1 : Int)) + (↑(cntValS (List.getD (List.modify (List.modify y.1 (Int.toNat y.2.2.1) fun (x : DCall) => { Key := markText y.2.1, F := x.F, Try := x.Try : DCall }) (Int.toNat y.2.2.1) fun (x : DCall) => { Key := x.Key, F := { Kind := markText (IntKind.wrap IntKind.i64 (y.2.1 + (1 : Int))), Fields := x.F.Fields : DFact }, Try := x.Try : DCall }) (Int.toNat y.2.2.1) zCall).F.Fields) : Int);
    let x1 : List DCall := List.modify (List.modify (List.modify y.1 (Int.toNat y.2.2.1) fun (x : DCall) => { Key := markText y.2.1, F := x.F, Try := x.Try : DCall }) (Int.toNat y.2.2.1) fun (x : DCall) => { Key := x.Key, F := { Kind := markText (IntKind.wrap IntKind.i64 (y.2.1 + (1 : Int))), Fields := x.F.Fields : DFact }, Try := x.Try : DCall }) (Int.toNat y.2.2.1) fun (x : DCall) => { Key := x.Key, F := { Kind := x.F.Kind, Fields := markValS (List.getD (List.modify (List.modify y.1 (Int.toNat y.2.2.1) fun (x : DCall) => { Key := markText y.2.1, F := x.F, Try := x.Try : DCall }) (Int.toNat y.2.2.1) fun (x : DCall) => { Key := x.Key, F := { Kind := markText (IntKind.wrap IntKind.i64 (y.2.1 + (1 : Int))), Fields := x.F.Fields : DFact }, Try := x.Try : DCall }) (Int.toNat y.2.2.1) zCall).F.Fields (IntKind.wrap IntKind.i64 (IntKind.wrap IntKind.i64 (y.2.1 + (1 : Int)) + (1 : Int))) : DFact }, Try := x.Try : DCall };
    let x2 : Nat := Int.toNat y.2.2.1;
    let x3 : Int := IntKind.wrap IntKind.i64 (y.2.1 + (1 : Int));
    let x4 : List DCall := List.modify y.1 x2 fun (x : DCall) => { Key := markText y.2.1, F := x.F, Try := x.Try : DCall };
    I_laws_markCallS_2 a k y → bif decide (y.2.2.1 < (↑(List.length y.1) : Int)) then y.2.1 ≤ (4611686018427387903 : Int) ∧ (0 : Int) ≤ y.2.2.1 ∧ x2 < List.length y.1 ∧ x2 < List.length y.1 ∧ x3 ≤ (4611686018427387903 : Int) ∧ (0 : Int) ≤ y.2.2.1 ∧ x2 < List.length x4 ∧ x2 < List.length x4 ∧ (0 : Int) ≤ y.2.2.1 ∧ x2 < List.length (List.modify x4 x2 fun (x : DCall) => { Key := x.Key, F := { Kind := markText x3, Fields := x.F.Fields : DFact }, Try := x.Try : DCall }) ∧ x2 < List.length (List.modify x4 x2 fun (x : DCall) => { Key := x.Key, F := { Kind := markText x3, Fields := x.F.Fields : DFact }, Try := x.Try : DCall }) ∧ x2 < List.length (List.modify x4 x2 fun (x : DCall) => { Key := x.Key, F := { Kind := markText x3, Fields := x.F.Fields : DFact }, Try := x.Try : DCall }) ∧ (0 : Int) ≤ IntKind.wrap IntKind.i64 (x3 + (1 : Int)) ∧ x0 ≤ (4611686018427387904 : Int) ∧ (0 : Int) ≤ y.2.2.1 ∧ x2 < List.length x1 ∧ x2 < List.length x1 ∧ I_laws_markCallS_2 a k (List.modify x1 x2 fun (x : DCall) => { Key := x.Key, F := x.F, Try := x0 : DCall }, IntKind.wrap IntKind.i64 (x0 + (1 : Int)), IntKind.wrap IntKind.i64 (y.2.2.1 + (1 : Int)), PUnit.unit) ∧ μ_laws_markCallS_2 a k (List.modify x1 x2 fun (x : DCall) => { Key := x.Key, F := x.F, Try := x0 : DCall }, IntKind.wrap IntKind.i64 (x0 + (1 : Int)), IntKind.wrap IntKind.i64 (y.2.2.1 + (1 : Int)), PUnit.unit) < μ_laws_markCallS_2 a k y else asD [DV.one (Cell.lit (Value.int IntKind.i64 y.2.1))] = asD [DV.one (Cell.lit (Value.int IntKind.i64 (k + (↑(cntCallS a) : Int))))] ∧ asD [DV.one (Cell.sl Cd.eCall y.1)] = asD [DV.one (Cell.sl Cd.eCall (markCallS a k))]) := by kernel_rfl
theorem ok_laws_markCallS : Holds EE (30, con_laws_markCallS) := by
  refine holds_of EE_ok Go.Proofs.Tryd.func30 con_laws_markCallS (by kernel_rfl) rfl use_laws_markCallS (all_cons ok_laws_markText (all_cons ok_laws_markValS all_nil)) ann_laws_markCallS (fun x hp hb => ?_)
  obtain ⟨a, k⟩ := x
  have hb_a : BdDV (U := UU) (.one (.sl .eCall a)) := hb _ (List.mem_cons_self)
  have hl_a : a.length ≤ 9223372036854775807 := Bd.len hb_a
  have hb_k : BdDV (U := UU) (.one (.lit (.int .i64 k))) := hb _ (List.mem_cons_of_mem _ (List.mem_cons_self))
  have hl_k := Bd.i64 hb_k
  have hp0 : 0 ≤ k := hp _ (List.mem_cons_self)
  have hp1 : k + cntCallS a ≤ 4611686018427387904 := hp _ (List.mem_cons_of_mem _ (List.mem_cons_self))
  clear hp hb
  rw [vc_laws_markCallS a k]
  dsimp only
  refine ⟨⟨by omega, by omega, by simp, by simp [ctS]⟩, ?_⟩
  rintro ⟨row, kk, i, ⟨⟩⟩ ⟨h1, h2, rfl, rfl⟩
  simp only
  have hl := mk_rl markCall cntCall a k h1 h2
  refine if_cond (fun hc => ?_) (fun hc => ?_)
  · have hc : i < a.length := by have hc := of_decide_eq_true hc; omega
    have hct := ctS_take cntCall a zCall h1 hc
    have hle := ctS_take_le cntCall a (i + 1).toNat
    have hg := mk_getD _ a zCall (mk_tl markCall cntCall a k h1 h2) h1 hc
    have hM := fun F hF => mkS_mod markCall cntCall a zCall k (i := i) F h1 hc hF
    have hq : (cntCallS a : Int) = ctS cntCall a := rfl
    generalize List.getD a i.toNat zCall = x at *
    generalize hkk : k + (ctS cntCall (a.take i.toNat) : Int) = kk at *
    generalize List.take i.toNat (mkS markCall cntCall a k) ++ List.drop i.toNat a = R at *
    simp only [cntCall] at hct
    simp (disch := first | omega | (simp only [List.length_modify]; omega)) only [List.length_modify, wrap_i64, getD_modify, modify_modify, hg, hl]
    repeat' (first | refine And.intro (by omega) ?_ | fail)
    exact ⟨⟨by omega, by omega, hM _ rfl, by omega⟩, by simp only [μ_laws_markCallS_2]; omega⟩
  · have hc : a.length ≤ i := by have hc := of_decide_eq_false hc; omega
    rw [mk_done markCall cntCall a k hc, ct_done cntCall a hc]
    exact ⟨rfl, rfl⟩
def con_laws_heldCallS : Con UU where
  α := (List DCall) × Int
  md := [.ro, .ro]
  of := fun | [.one (.sl .eCall a0), .one (.lit (.int .i64 a1))] => some (a0, a1) | _ => none
  ds := fun (a, k) => [.one (.sl .eCall a), .one (.lit (.int .i64 k))]
  pre := fun (a, k) => [0 ≤ k, k + cntCallS a ≤ 4611686018427387904]
  res := fun (a, k) => ⟨[.one (.lit (.int .i64 (if markCallS a k = a then k + cntCallS a else -1)))], true, []⟩
  law := by intro l x h; (try simp only at h); split at h <;> cases h; rfl
def I_laws_heldCallS_2 (a : (List DCall)) (k : Int) : Int × Int × Unit → Prop := fun (kk, i, _) => 0 ≤ i ∧ i ≤ a.length ∧ kk = k + ctS cntCall (a.take i.toNat) ∧ (mkS markCall cntCall (a.drop i.toNat) kk = a.drop i.toNat ↔ mkS markCall cntCall a k = a)
def μ_laws_heldCallS_2 (a : (List DCall)) (k : Int) : Int × Int × Unit → Nat := fun (kk, i, _) => a.length - i.toNat
def ann_laws_heldCallS : con_laws_heldCallS.α → Nat → Option (Ann UU) := fun (a, k) => annL [(2, annOf [.slot 1 (1, 1024) (.lit (.int .i64)), .slot 5 (5, 1024) (.lit (.int .i64))] (fun _ => I_laws_heldCallS_2 a k) (μ_laws_heldCallS_2 a k))]
def use_laws_heldCallS : List (FuncId × Con UU) := [(53, con_laws_markText), (56, con_laws_heldValS)]
theorem vc_laws_heldCallS (a : (List DCall)) (k : Int) : goal EE use_laws_heldCallS Go.Proofs.Tryd.f32 con_laws_heldCallS ann_laws_heldCallS (a, k) = (I_laws_heldCallS_2 a k (k, (0 : Int), PUnit.unit) ∧
  ∀ (y : Int × Int × PUnit),
    let x0 : Int := if markValS (List.getD a (Int.toNat y.2.1) zCall).F.Fields (IntKind.wrap IntKind.i64 (IntKind.wrap IntKind.i64 (y.1 + (1 : Int)) + (1 : Int))) = (List.getD a (Int.toNat y.2.1) zCall).F.Fields then IntKind.wrap IntKind.i64 (IntKind.wrap IntKind.i64 (y.1 + (1 : Int)) + (1 : Int)) + (↑(cntValS (List.getD a (Int.toNat y.2.1) zCall).F.Fields) : Int) else (-1 : Int);
    let x1 : DCall := List.getD a (Int.toNat y.2.1) zCall;
    let x2 : Int := IntKind.wrap IntKind.i64 (y.1 + (1 : Int));
    I_laws_heldCallS_2 a k y → bif decide (y.2.1 < (↑(List.length a) : Int)) then (0 : Int) ≤ y.2.1 ∧ Int.toNat y.2.1 < List.length a ∧ y.1 ≤ (4611686018427387903 : Int) ∧ bif !ByteArray.toList x1.Key == ByteArray.toList (markText y.1) then Lf [DV.one (Cell.lit (Value.int IntKind.i64 (-1 : Int)))] [DV.one (Cell.lit (Value.int IntKind.i64 (if markCallS a k = a then k + (↑(cntCallS a) : Int) else (-1 : Int))))] else (0 : Int) ≤ y.2.1 ∧ Int.toNat y.2.1 < List.length a ∧ x2 ≤ (4611686018427387903 : Int) ∧ bif !ByteArray.toList x1.F.Kind == ByteArray.toList (markText x2) then Lf [DV.one (Cell.lit (Value.int IntKind.i64 (-1 : Int)))] [DV.one (Cell.lit (Value.int IntKind.i64 (if markCallS a k = a then k + (↑(cntCallS a) : Int) else (-1 : Int))))] else (0 : Int) ≤ y.2.1 ∧ Int.toNat y.2.1 < List.length a ∧ (0 : Int) ≤ IntKind.wrap IntKind.i64 (x2 + (1 : Int)) ∧ IntKind.wrap IntKind.i64 (x2 + (1 : Int)) + (↑(cntValS x1.F.Fields) : Int) ≤ (4611686018427387904 : Int) ∧ bif decide (x0 < (0 : Int)) then Lf [DV.one (Cell.lit (Value.int IntKind.i64 (-1 : Int)))] [DV.one (Cell.lit (Value.int IntKind.i64 (if markCallS a k = a then k + (↑(cntCallS a) : Int) else (-1 : Int))))] else (0 : Int) ≤ y.2.1 ∧ Int.toNat y.2.1 < List.length a ∧ bif x1.Try != x0 then Lf [DV.one (Cell.lit (Value.int IntKind.i64 (-1 : Int)))] [DV.one (Cell.lit (Value.int IntKind.i64 (if markCallS a k = a then k + (↑(cntCallS a) : Int) else (-1 : Int))))] else I_laws_heldCallS_2 a k (IntKind.wrap IntKind.i64 (x0 + (1 : Int)), IntKind.wrap IntKind.i64 (y.2.1 + (1 : Int)), PUnit.unit) ∧ μ_laws_heldCallS_2 a k (IntKind.wrap IntKind.i64 (x0 + (1 : Int)), IntKind.wrap IntKind.i64 (y.2.1 + (1 : Int)), PUnit.unit) < μ_laws_heldCallS_2 a k y else Lf [DV.one (Cell.lit (Value.int IntKind.i64 y.1))] [DV.one (Cell.lit (Value.int IntKind.i64 (if markCallS a k = a then k + (↑(cntCallS a) : Int) else (-1 : Int))))]) := by kernel_rfl
theorem ok_laws_heldCallS : Holds EE (32, con_laws_heldCallS) := by
  refine holds_of EE_ok Go.Proofs.Tryd.func32 con_laws_heldCallS (by kernel_rfl) rfl use_laws_heldCallS (all_cons ok_laws_markText (all_cons ok_laws_heldValS all_nil)) ann_laws_heldCallS (fun x hp hb => ?_)
  obtain ⟨a, k⟩ := x
  have hb_a : BdDV (U := UU) (.one (.sl .eCall a)) := hb _ (List.mem_cons_self)
  have hl_a : a.length ≤ 9223372036854775807 := Bd.len hb_a
  have hb_k : BdDV (U := UU) (.one (.lit (.int .i64 k))) := hb _ (List.mem_cons_of_mem _ (List.mem_cons_self))
  have hl_k := Bd.i64 hb_k
  have hp0 : 0 ≤ k := hp _ (List.mem_cons_self)
  have hp1 : k + cntCallS a ≤ 4611686018427387904 := hp _ (List.mem_cons_of_mem _ (List.mem_cons_self))
  clear hp hb
  rw [vc_laws_heldCallS a k]
  dsimp only
  refine ⟨⟨by omega, by omega, by simp [ctS], by simp⟩, ?_⟩
  rintro ⟨kk, i, ⟨⟩⟩ ⟨h1, h2, hkk, hR⟩
  simp only
  simp only [markCallS]
  refine if_cond (fun hc => ?_) (fun hc => ?_)
  · have hc : i < a.length := by have hc := of_decide_eq_true hc; omega
    have hct := ctS_take cntCall a zCall h1 hc
    have hle := ctS_take_le cntCall a (i + 1).toNat
    have hq : (cntCallS a : Int) = ctS cntCall a := rfl
    rw [drop_step a zCall h1 hc] at hR
    generalize List.getD a i.toNat zCall = x at *
    simp only [mkS, List.cons.injEq] at hR
    have e : kk + (cntCall x : Int) = kk + 1 + 1 + (cntValS x.F.Fields : Int) + 1 := by simp only [cntCall]; omega
    rw [e] at hR
    simp only [markCall, cntCall] at hR hct
    simp (disch := omega) only [wrap_i64, bne_int, toList_beq]
    obtain ⟨x_Key, ⟨x_F_Kind, x_F_Fields⟩, x_Try⟩ := x
    simp only [DCall.mk.injEq, DFact.mk.injEq] at *
    repeat' (first | refine And.intro (by omega) ?_ | fail)
    refine if_cond (fun h => Lf_no (fun hh => ?_)) (fun h => ?_)
    · have hh := hR.2 hh; simp_all
    have h : x_Key = markText (kk) := by simpa using h
    subst x_Key
    repeat' (first | refine And.intro (by omega) ?_ | fail)
    refine if_cond (fun h => Lf_no (fun hh => ?_)) (fun h => ?_)
    · have hh := hR.2 hh; simp_all
    have h : x_F_Kind = markText (kk + 1) := by simpa using h
    subst x_F_Kind
    repeat' (first | refine And.intro (by omega) ?_ | fail)
    by_cases hm : markValS x_F_Fields (kk + 1 + 1) = x_F_Fields
    rotate_left
    · simp only [if_neg hm]; rw [cond_yes (by decide)]
      exact Lf_no (fun hh => hm (by have hh := hR.2 hh; simp_all))
    simp only [if_pos hm]
    refine if_cond (fun h => absurd (of_decide_eq_true h) (by omega)) (fun h => ?_)
    simp only [hm] at hR
    clear hm
    repeat' (first | refine And.intro (by omega) ?_ | fail)
    refine if_cond (fun h => Lf_no (fun hh => ?_)) (fun h => ?_)
    · have hh := hR.2 hh; simp_all
    have h : x_Try = kk + 1 + 1 + cntValS x_F_Fields := by simpa using h
    subst x_Try
    exact ⟨⟨by omega, by omega, by omega, by simpa using hR⟩, by simp only [μ_laws_heldCallS_2]; omega⟩
  · have hc : a.length ≤ i := by have hc := of_decide_eq_false hc; omega
    rw [drop_end a hc] at hR
    exact Lf_yes (hR.1 rfl) (by rw [hkk, ct_done _ _ hc]; rfl)
def smallB (b : Int) : Bool := decide (97 ≤ b ∧ b ≤ 122)
def wordB (b : Int) : Bool := smallB b || decide (48 ≤ b ∧ b ≤ 57) || decide (b = 95)
def wordS (s : ByteArray) : Bool := (bs s).all (byteP wordB)
def nameOk (s : ByteArray) : Bool := decide (1 ≤ s.size ∧ s.size ≤ 12) && smallB (List.getD (bs s) 0 0).toNat && wordS s
def valOk (v : DVal) : Bool := bif decide (v.K = 1) then decide (-1000000000 ≤ v.N ∧ v.N ≤ 1000000000) && decide (v.S = noBytes) else bif decide (v.K = 2) then decide (v.N = 0) && decide (v.S.size ≤ 20) && wordS v.S else false
def factOk (f : DFact) : Bool := nameOk f.Kind && decide (f.Fields.length ≤ 5) && f.Fields.all valOk
def con_impl_inRange : Con UU where
  α := Int × Int × Int
  md := [.ro, .ro, .ro]
  of := fun | [.one (.lit (.int .i64 a0)), .one (.lit (.int .i64 a1)), .one (.lit (.int .i64 a2))] => some (a0, a1, a2) | _ => none
  ds := fun (n, least, most) => [.one (.lit (.int .i64 n)), .one (.lit (.int .i64 least)), .one (.lit (.int .i64 most))]
  pre := fun (n, least, most) => []
  res := fun (n, least, most) => ⟨[.one (.lit (.bool (decide (least ≤ n ∧ n ≤ most))))], true, []⟩
  law := by intro l x h; (try simp only at h); split at h <;> cases h; rfl
def ann_impl_inRange : con_impl_inRange.α → Nat → Option (Ann UU) := fun (n, least, most) => annL []
def use_impl_inRange : List (FuncId × Con UU) := []
theorem vc_impl_inRange (n : Int) (least : Int) (most : Int) : goal EE use_impl_inRange Go.Proofs.Tryd.f93 con_impl_inRange ann_impl_inRange (n, least, most) = (bif decide (n ≥ least) then Lf [DV.one (Cell.lit (Value.bool (decide (n ≤ most))))] [DV.one (Cell.lit (Value.bool (decide (least ≤ n ∧ n ≤ most))))] else Lf [DV.one (Cell.lit (Value.bool false))] [DV.one (Cell.lit (Value.bool (decide (least ≤ n ∧ n ≤ most))))]) := by kernel_rfl
theorem ok_impl_inRange : Holds EE (93, con_impl_inRange) := by
  refine holds_of EE_ok Go.Proofs.Tryd.func93 con_impl_inRange (by kernel_rfl) rfl use_impl_inRange all_nil ann_impl_inRange (fun x hp hb => ?_)
  obtain ⟨n, least, most⟩ := x
  have hb_n : BdDV (U := UU) (.one (.lit (.int .i64 n))) := hb _ (List.mem_cons_self)
  have hl_n := Bd.i64 hb_n
  have hb_least : BdDV (U := UU) (.one (.lit (.int .i64 least))) := hb _ (List.mem_cons_of_mem _ (List.mem_cons_self))
  have hl_least := Bd.i64 hb_least
  have hb_most : BdDV (U := UU) (.one (.lit (.int .i64 most))) := hb _ (List.mem_cons_of_mem _ (List.mem_cons_of_mem _ (List.mem_cons_self)))
  have hl_most := Bd.i64 hb_most
  clear hp hb
  rw [vc_impl_inRange n least most]
  refine if_cond (fun h => Lf_b ?_) (fun h => Lf_b ?_) <;> grind
def con_spec_l1In : Con UU where
  α := Int × Int × Int
  md := [.ro, .ro, .ro]
  of := fun | [.one (.lit (.int .i64 a0)), .one (.lit (.int .i64 a1)), .one (.lit (.int .i64 a2))] => some (a0, a1, a2) | _ => none
  ds := fun (x, least, most) => [.one (.lit (.int .i64 x)), .one (.lit (.int .i64 least)), .one (.lit (.int .i64 most))]
  pre := fun (x, least, most) => []
  res := fun (x, least, most) => ⟨[.one (.lit (.bool (decide (least ≤ x ∧ x ≤ most))))], true, []⟩
  law := by intro l x h; (try simp only at h); split at h <;> cases h; rfl
def ann_spec_l1In : con_spec_l1In.α → Nat → Option (Ann UU) := fun (x, least, most) => annL []
def use_spec_l1In : List (FuncId × Con UU) := []
theorem vc_spec_l1In (x : Int) (least : Int) (most : Int) : goal EE use_spec_l1In Go.Proofs.Tryd.f65 con_spec_l1In ann_spec_l1In (x, least, most) = (bif decide (x ≥ least) then Lf [DV.one (Cell.lit (Value.bool (decide (x ≤ most))))] [DV.one (Cell.lit (Value.bool (decide (least ≤ x ∧ x ≤ most))))] else Lf [DV.one (Cell.lit (Value.bool false))] [DV.one (Cell.lit (Value.bool (decide (least ≤ x ∧ x ≤ most))))]) := by kernel_rfl
theorem ok_spec_l1In : Holds EE (65, con_spec_l1In) := by
  refine holds_of EE_ok Go.Proofs.Tryd.func65 con_spec_l1In (by kernel_rfl) rfl use_spec_l1In all_nil ann_spec_l1In (fun x hp hb => ?_)
  obtain ⟨x, least, most⟩ := x
  have hb_x : BdDV (U := UU) (.one (.lit (.int .i64 x))) := hb _ (List.mem_cons_self)
  have hl_x := Bd.i64 hb_x
  have hb_least : BdDV (U := UU) (.one (.lit (.int .i64 least))) := hb _ (List.mem_cons_of_mem _ (List.mem_cons_self))
  have hl_least := Bd.i64 hb_least
  have hb_most : BdDV (U := UU) (.one (.lit (.int .i64 most))) := hb _ (List.mem_cons_of_mem _ (List.mem_cons_of_mem _ (List.mem_cons_self)))
  have hl_most := Bd.i64 hb_most
  clear hp hb
  rw [vc_spec_l1In x least most]
  refine if_cond (fun h => Lf_b ?_) (fun h => Lf_b ?_) <;> grind
def con_impl_isSmall : Con UU where
  α := Int
  md := [.ro]
  of := fun | [.one (.lit (.int .u8 a0))] => some a0 | _ => none
  ds := fun b => [.one (.lit (.int .u8 b))]
  pre := fun b => []
  res := fun b => ⟨[.one (.lit (.bool (smallB b)))], true, []⟩
  law := by intro l x h; (try simp only at h); split at h <;> cases h; rfl
def ann_impl_isSmall : con_impl_isSmall.α → Nat → Option (Ann UU) := fun b => annL []
def use_impl_isSmall : List (FuncId × Con UU) := []
theorem vc_impl_isSmall (b : Int) : goal EE use_impl_isSmall Go.Proofs.Tryd.f80 con_impl_isSmall ann_impl_isSmall b = (bif decide (b ≥ (97 : Int)) then Lf [DV.one (Cell.lit (Value.bool (decide (b ≤ (122 : Int)))))] [DV.one (Cell.lit (Value.bool (smallB b)))] else Lf [DV.one (Cell.lit (Value.bool false))] [DV.one (Cell.lit (Value.bool (smallB b)))]) := by kernel_rfl
theorem ok_impl_isSmall : Holds EE (80, con_impl_isSmall) := by
  refine holds_of EE_ok Go.Proofs.Tryd.func80 con_impl_isSmall (by kernel_rfl) rfl use_impl_isSmall all_nil ann_impl_isSmall (fun (b : Int) hp hb => ?_)
  have hb_b : BdDV (U := UU) (.one (.lit (.int .u8 b))) := hb _ (List.mem_cons_self)
  clear hp hb
  rw [vc_impl_isSmall b]
  refine if_cond (fun h => Lf_b ?_) (fun h => Lf_b ?_) <;> grind [smallB]
def con_impl_isDigit : Con UU where
  α := Int
  md := [.ro]
  of := fun | [.one (.lit (.int .u8 a0))] => some a0 | _ => none
  ds := fun b => [.one (.lit (.int .u8 b))]
  pre := fun b => []
  res := fun b => ⟨[.one (.lit (.bool (decide (48 ≤ b ∧ b ≤ 57))))], true, []⟩
  law := by intro l x h; (try simp only at h); split at h <;> cases h; rfl
def ann_impl_isDigit : con_impl_isDigit.α → Nat → Option (Ann UU) := fun b => annL []
def use_impl_isDigit : List (FuncId × Con UU) := []
theorem vc_impl_isDigit (b : Int) : goal EE use_impl_isDigit Go.Proofs.Tryd.f111 con_impl_isDigit ann_impl_isDigit b = (bif decide (b ≥ (48 : Int)) then Lf [DV.one (Cell.lit (Value.bool (decide (b ≤ (57 : Int)))))] [DV.one (Cell.lit (Value.bool (decide ((48 : Int) ≤ b ∧ b ≤ (57 : Int)))))] else Lf [DV.one (Cell.lit (Value.bool false))] [DV.one (Cell.lit (Value.bool (decide ((48 : Int) ≤ b ∧ b ≤ (57 : Int)))))]) := by kernel_rfl
theorem ok_impl_isDigit : Holds EE (111, con_impl_isDigit) := by
  refine holds_of EE_ok Go.Proofs.Tryd.func111 con_impl_isDigit (by kernel_rfl) rfl use_impl_isDigit all_nil ann_impl_isDigit (fun (b : Int) hp hb => ?_)
  have hb_b : BdDV (U := UU) (.one (.lit (.int .u8 b))) := hb _ (List.mem_cons_self)
  clear hp hb
  rw [vc_impl_isDigit b]
  refine if_cond (fun h => Lf_b ?_) (fun h => Lf_b ?_) <;> grind
def con_impl_isWordByte : Con UU where
  α := Int
  md := [.ro]
  of := fun | [.one (.lit (.int .u8 a0))] => some a0 | _ => none
  ds := fun b => [.one (.lit (.int .u8 b))]
  pre := fun b => []
  res := fun b => ⟨[.one (.lit (.bool (wordB b)))], true, []⟩
  law := by intro l x h; (try simp only at h); split at h <;> cases h; rfl
def ann_impl_isWordByte : con_impl_isWordByte.α → Nat → Option (Ann UU) := fun b => annL []
def use_impl_isWordByte : List (FuncId × Con UU) := [(80, con_impl_isSmall), (111, con_impl_isDigit)]
theorem vc_impl_isWordByte (b : Int) : goal EE use_impl_isWordByte Go.Proofs.Tryd.f99 con_impl_isWordByte ann_impl_isWordByte b = (bif smallB b then Lf [DV.one (Cell.lit (Value.bool true))] [DV.one (Cell.lit (Value.bool (wordB b)))] else bif decide ((48 : Int) ≤ b ∧ b ≤ (57 : Int)) then Lf [DV.one (Cell.lit (Value.bool true))] [DV.one (Cell.lit (Value.bool (wordB b)))] else Lf [DV.one (Cell.lit (Value.bool (b == (95 : Int))))] [DV.one (Cell.lit (Value.bool (wordB b)))]) := by kernel_rfl
theorem ok_impl_isWordByte : Holds EE (99, con_impl_isWordByte) := by
  refine holds_of EE_ok Go.Proofs.Tryd.func99 con_impl_isWordByte (by kernel_rfl) rfl use_impl_isWordByte (all_cons ok_impl_isSmall (all_cons ok_impl_isDigit all_nil)) ann_impl_isWordByte (fun (b : Int) hp hb => ?_)
  have hb_b : BdDV (U := UU) (.one (.lit (.int .u8 b))) := hb _ (List.mem_cons_self)
  clear hp hb
  rw [vc_impl_isWordByte b]
  refine if_cond (fun h => Lf_b ?_) (fun h => ?_)
  · grind [wordB]
  refine if_cond (fun h => Lf_b ?_) (fun h => Lf_b ?_) <;> grind [wordB]
def con_spec_l1Letter : Con UU where
  α := Int
  md := [.ro]
  of := fun | [.one (.lit (.int .u8 a0))] => some a0 | _ => none
  ds := fun c => [.one (.lit (.int .u8 c))]
  pre := fun c => [0 ≤ c ∧ c ≤ 255]
  res := fun c => ⟨[.one (.lit (.bool (wordB c)))], true, []⟩
  law := by intro l x h; (try simp only at h); split at h <;> cases h; rfl
def ann_spec_l1Letter : con_spec_l1Letter.α → Nat → Option (Ann UU) := fun c => annL []
def use_spec_l1Letter : List (FuncId × Con UU) := [(65, con_spec_l1In)]
theorem vc_spec_l1Letter (c : Int) : goal EE use_spec_l1Letter Go.Proofs.Tryd.f75 con_spec_l1Letter ann_spec_l1Letter c = (bif decide ((97 : Int) ≤ IntKind.wrap IntKind.i64 c ∧ IntKind.wrap IntKind.i64 c ≤ (122 : Int)) then Lf [DV.one (Cell.lit (Value.bool true))] [DV.one (Cell.lit (Value.bool (wordB c)))] else bif decide ((48 : Int) ≤ IntKind.wrap IntKind.i64 c ∧ IntKind.wrap IntKind.i64 c ≤ (57 : Int)) then Lf [DV.one (Cell.lit (Value.bool true))] [DV.one (Cell.lit (Value.bool (wordB c)))] else Lf [DV.one (Cell.lit (Value.bool (c == (95 : Int))))] [DV.one (Cell.lit (Value.bool (wordB c)))]) := by kernel_rfl
theorem ok_spec_l1Letter : Holds EE (75, con_spec_l1Letter) := by
  refine holds_of EE_ok Go.Proofs.Tryd.func75 con_spec_l1Letter (by kernel_rfl) rfl use_spec_l1Letter (all_cons ok_spec_l1In all_nil) ann_spec_l1Letter (fun (c : Int) hp hb => ?_)
  have hb_c : BdDV (U := UU) (.one (.lit (.int .u8 c))) := hb _ (List.mem_cons_self)
  have hp0 : 0 ≤ c ∧ c ≤ 255 := hp _ (List.mem_cons_self)
  clear hp hb
  rw [vc_spec_l1Letter c]
  rw [wrap_i64 (by omega) (by omega)]
  refine if_cond (fun h => Lf_b ?_) (fun h => ?_)
  · grind [wordB, smallB]
  refine if_cond (fun h => Lf_b ?_) (fun h => Lf_b ?_) <;> grind [wordB, smallB]
def con_impl_isWord : Con UU where
  α := ByteArray × Int
  md := [.ro, .ro]
  of := fun | [.one (.lit (.string a0)), .one (.lit (.int .i64 a1))] => some (a0, a1) | _ => none
  ds := fun (s, most) => [.one (.lit (.string s)), .one (.lit (.int .i64 most))]
  pre := fun (s, most) => []
  res := fun (s, most) => ⟨[.one (.lit (.bool (decide (s.size ≤ most) && wordS s)))], true, []⟩
  law := by intro l x h; (try simp only at h); split at h <;> cases h; rfl
def I_impl_isWord_4 (s : ByteArray) (most : Int) : Int × Unit → Prop := fun (i, _) => 0 ≤ i ∧ i ≤ s.size ∧ s.size ≤ most ∧ ((bs s).drop i.toNat).all (byteP wordB) = wordS s
def μ_impl_isWord_4 (s : ByteArray) (most : Int) : Int × Unit → Nat := fun (i, _) => s.size - i.toNat
def ann_impl_isWord : con_impl_isWord.α → Nat → Option (Ann UU) := fun (s, most) => annL [(4, annOf [.slot 5 (5, 1024) (.lit (.int .i64))] (fun _ => I_impl_isWord_4 s most) (μ_impl_isWord_4 s most))]
def use_impl_isWord : List (FuncId × Con UU) := [(99, con_impl_isWordByte)]
theorem vc_impl_isWord (s : ByteArray) (most : Int) : goal EE use_impl_isWord Go.Proofs.Tryd.f81 con_impl_isWord ann_impl_isWord (s, most) = (bif decide ((↑(ByteArray.size s) : Int) > most) then Lf [DV.one (Cell.lit (Value.bool false))] [DV.one (Cell.lit (Value.bool (decide ((↑(ByteArray.size s) : Int) ≤ most) && wordS s)))] else I_impl_isWord_4 s most ((0 : Int), PUnit.unit) ∧ ∀ (y : Int × PUnit), I_impl_isWord_4 s most y → bif decide (y.1 < (↑(ByteArray.size s) : Int)) then (0 : Int) ≤ y.1 ∧ Int.toNat y.1 < ByteArray.size s ∧ bif !wordB (↑(UInt8.toNat (List.getD s.data.toList (Int.toNat y.1) (0 : UInt8))) : Int) then Lf [DV.one (Cell.lit (Value.bool false))] [DV.one (Cell.lit (Value.bool (decide ((↑(ByteArray.size s) : Int) ≤ most) && wordS s)))] else I_impl_isWord_4 s most (IntKind.wrap IntKind.i64 (y.1 + (1 : Int)), PUnit.unit) ∧ μ_impl_isWord_4 s most (IntKind.wrap IntKind.i64 (y.1 + (1 : Int)), PUnit.unit) < μ_impl_isWord_4 s most y else Lf [DV.one (Cell.lit (Value.bool true))] [DV.one (Cell.lit (Value.bool (decide ((↑(ByteArray.size s) : Int) ≤ most) && wordS s)))]) := by kernel_rfl
theorem ok_impl_isWord : Holds EE (81, con_impl_isWord) := by
  refine holds_of EE_ok Go.Proofs.Tryd.func81 con_impl_isWord (by kernel_rfl) rfl use_impl_isWord (all_cons ok_impl_isWordByte all_nil) ann_impl_isWord (fun x hp hb => ?_)
  obtain ⟨s, most⟩ := x
  have hb_s : BdDV (U := UU) (.one (.lit (.string s))) := hb _ (List.mem_cons_self)
  have hl_s : s.size ≤ 9223372036854775807 := Bd.str hb_s
  have hb_most : BdDV (U := UU) (.one (.lit (.int .i64 most))) := hb _ (List.mem_cons_of_mem _ (List.mem_cons_self))
  have hl_most := Bd.i64 hb_most
  clear hp hb
  rw [vc_impl_isWord s most]
  refine if_cond (fun h => Lf_ff ?_) (fun h => ?_)
  · have h := of_decide_eq_true h; rw [decide_eq_false (by omega)]; rfl
  have h0 := of_decide_eq_false h
  refine ⟨⟨by omega, by omega, by omega, rfl⟩, ?_⟩
  rintro ⟨i, ⟨⟩⟩ ⟨h1, h2, h3, hR⟩
  have hl := bs_len s
  simp only [bs_eq]
  refine if_cond (fun hc => ?_) (fun hc => ?_)
  · have hc := of_decide_eq_true hc
    rw [all_step _ _ 0 h1 (by omega)] at hR
    rw [wrap_i64 (by omega) (by omega)]
    refine ⟨by omega, by omega, if_cond (fun h => Lf_ff ?_) (fun h => ⟨⟨by omega, by omega, by omega, ?_⟩, ?_⟩)⟩
    · rw [← hR]; simp only [byteP]; simp at h; simp [h]
    · rw [← hR]; simp only [byteP]; simp at h; simp [h]
    · simp only [μ_impl_isWord_4]; omega
  · have hc := of_decide_eq_false hc
    rw [drop_end _ (by omega)] at hR
    exact Lf_tt (by rw [← hR, decide_eq_true h3]; rfl)
def con_impl_NameOk : Con UU where
  α := ByteArray
  md := [.ro]
  of := fun | [.one (.lit (.string a0))] => some a0 | _ => none
  ds := fun s => [.one (.lit (.string s))]
  pre := fun s => []
  res := fun s => ⟨[.one (.lit (.bool (nameOk s)))], true, []⟩
  law := by intro l x h; (try simp only at h); split at h <;> cases h; rfl
def ann_impl_NameOk : con_impl_NameOk.α → Nat → Option (Ann UU) := fun s => annL []
def use_impl_NameOk : List (FuncId × Con UU) := [(80, con_impl_isSmall), (81, con_impl_isWord)]
theorem vc_impl_NameOk (s : ByteArray) : goal EE use_impl_NameOk Go.Proofs.Tryd.f47 con_impl_NameOk ann_impl_NameOk s = (bif decide ((↑(ByteArray.size s) : Int) > (0 : Int)) then (0 : Int) ≤ (0 : Int) ∧ Int.toNat (0 : Int) < ByteArray.size s ∧ bif smallB (↑(UInt8.toNat (List.getD s.data.toList (Int.toNat (0 : Int)) (0 : UInt8))) : Int) then Lf [DV.one (Cell.lit (Value.bool (decide ((↑(ByteArray.size s) : Int) ≤ (12 : Int)) && wordS s)))] [DV.one (Cell.lit (Value.bool (nameOk s)))] else Lf [DV.one (Cell.lit (Value.bool false))] [DV.one (Cell.lit (Value.bool (nameOk s)))] else Lf [DV.one (Cell.lit (Value.bool false))] [DV.one (Cell.lit (Value.bool (nameOk s)))]) := by kernel_rfl
theorem ok_impl_NameOk : Holds EE (47, con_impl_NameOk) := by
  refine holds_of EE_ok Go.Proofs.Tryd.func47 con_impl_NameOk (by kernel_rfl) rfl use_impl_NameOk (all_cons ok_impl_isSmall (all_cons ok_impl_isWord all_nil)) ann_impl_NameOk (fun (s : ByteArray) hp hb => ?_)
  have hb_s : BdDV (U := UU) (.one (.lit (.string s))) := hb _ (List.mem_cons_self)
  have hl_s : s.size ≤ 9223372036854775807 := Bd.str hb_s
  clear hp hb
  rw [vc_impl_NameOk s]
  have hl := bs_len s
  simp only [bs_eq]
  refine if_cond (fun h => ?_) (fun h => Lf_ff ?_)
  · have h := of_decide_eq_true h
    refine ⟨by omega, by omega, if_cond (fun h' => Lf_b ?_) (fun h' => Lf_ff ?_)⟩
    · have h' : smallB ((List.getD (bs s) 0 0).toNat : Int) = true := h'
      simp only [nameOk, h']
      have e : decide (1 ≤ s.size ∧ s.size ≤ 12) = decide ((s.size : Int) ≤ 12) := by rw [decide_eq_decide]; omega
      rw [e]; simp
    · have h' : smallB ((List.getD (bs s) 0 0).toNat : Int) = false := h'
      simp only [nameOk, h']; grind
  · have h := of_decide_eq_false h
    simp only [nameOk]; rw [decide_eq_false (by omega)]; rfl
def con_spec_NameOk : Con UU where
  α := ByteArray
  md := [.ro]
  of := fun | [.one (.lit (.string a0))] => some a0 | _ => none
  ds := fun s => [.one (.lit (.string s))]
  pre := fun s => []
  res := fun s => ⟨[.one (.lit (.bool (nameOk s)))], true, []⟩
  law := by intro l x h; (try simp only at h); split at h <;> cases h; rfl
def I_spec_NameOk_2 (s : ByteArray) : Int × Unit → Prop := fun (i, _) => 0 ≤ i ∧ i ≤ s.size ∧ ((bs s).drop i.toNat).all (byteP wordB) = wordS s ∧ (0 < i → smallB (List.getD (bs s) 0 0).toNat = true)
def μ_spec_NameOk_2 (s : ByteArray) : Int × Unit → Nat := fun (i, _) => s.size - i.toNat
def ann_spec_NameOk : con_spec_NameOk.α → Nat → Option (Ann UU) := fun s => annL [(2, annOf [.slot 3 (3, 1024) (.lit (.int .i64))] (fun _ => I_spec_NameOk_2 s) (μ_spec_NameOk_2 s))]
def use_spec_NameOk : List (FuncId × Con UU) := [(75, con_spec_l1Letter), (65, con_spec_l1In)]
theorem vc_spec_NameOk (s : ByteArray) : goal EE use_spec_NameOk Go.Proofs.Tryd.f39 con_spec_NameOk ann_spec_NameOk s = (I_spec_NameOk_2 s ((0 : Int), PUnit.unit) ∧
  ∀ (y : Int × PUnit),
    let x0 : Int := (↑(UInt8.toNat (List.getD s.data.toList (Int.toNat y.1) (0 : UInt8))) : Int);
    I_spec_NameOk_2 s y → bif decide (y.1 < (↑(ByteArray.size s) : Int)) then (0 : Int) ≤ y.1 ∧ Int.toNat y.1 < ByteArray.size s ∧ ((0 : Int) ≤ x0 ∧ x0 ≤ (255 : Int)) ∧ bif !wordB x0 then Lf [DV.one (Cell.lit (Value.bool false))] [DV.one (Cell.lit (Value.bool (nameOk s)))] else bif y.1 == (0 : Int) then (0 : Int) ≤ y.1 ∧ Int.toNat y.1 < ByteArray.size s ∧ bif !decide ((97 : Int) ≤ IntKind.wrap IntKind.i64 x0 ∧ IntKind.wrap IntKind.i64 x0 ≤ (122 : Int)) then Lf [DV.one (Cell.lit (Value.bool false))] [DV.one (Cell.lit (Value.bool (nameOk s)))] else I_spec_NameOk_2 s (IntKind.wrap IntKind.i64 (y.1 + (1 : Int)), PUnit.unit) ∧ μ_spec_NameOk_2 s (IntKind.wrap IntKind.i64 (y.1 + (1 : Int)), PUnit.unit) < μ_spec_NameOk_2 s y else I_spec_NameOk_2 s (IntKind.wrap IntKind.i64 (y.1 + (1 : Int)), PUnit.unit) ∧ μ_spec_NameOk_2 s (IntKind.wrap IntKind.i64 (y.1 + (1 : Int)), PUnit.unit) < μ_spec_NameOk_2 s y else Lf [DV.one (Cell.lit (Value.bool (decide ((1 : Int) ≤ (↑(ByteArray.size s) : Int) ∧ (↑(ByteArray.size s) : Int) ≤ (12 : Int)))))] [DV.one (Cell.lit (Value.bool (nameOk s)))]) := by kernel_rfl
theorem ok_spec_NameOk : Holds EE (39, con_spec_NameOk) := by
  refine holds_of EE_ok Go.Proofs.Tryd.func39 con_spec_NameOk (by kernel_rfl) rfl use_spec_NameOk (all_cons ok_spec_l1Letter (all_cons ok_spec_l1In all_nil)) ann_spec_NameOk (fun (s : ByteArray) hp hb => ?_)
  have hb_s : BdDV (U := UU) (.one (.lit (.string s))) := hb _ (List.mem_cons_self)
  have hl_s : s.size ≤ 9223372036854775807 := Bd.str hb_s
  clear hp hb
  rw [vc_spec_NameOk s]
  dsimp only
  refine ⟨⟨by omega, by omega, rfl, by omega⟩, ?_⟩
  rintro ⟨i, ⟨⟩⟩ ⟨h1, h2, hR, hS⟩
  have hl := bs_len s
  simp only [bs_eq, u8_i64]
  refine if_cond (fun hc => ?_) (fun hc => ?_)
  · have hc := of_decide_eq_true hc
    have hb := (List.getD (bs s) i.toNat 0).toNat_lt
    rw [all_step _ _ 0 h1 (by omega)] at hR
    rw [wrap_i64 (by omega) (by omega)]
    have hN : wordS s = false → nameOk s = false := fun h => by simp [nameOk, h]
    refine ⟨by omega, by omega, ⟨by omega, by omega⟩, if_cond (fun h => Lf_ff (hN ?_)) (fun h => if_cond (fun h' => ⟨by omega, by omega, if_cond (fun h'' => Lf_ff ?_) (fun h'' => ⟨⟨by omega, by omega, ?_, fun _ => ?_⟩, ?_⟩)⟩) (fun h' => ⟨⟨by omega, by omega, ?_, fun _ => hS ?_⟩, ?_⟩))⟩
    · rw [← hR]; simp only [byteP]; simp at h; simp [h]
    · have h' : i = 0 := by simpa using h'
      subst h'
      have h'' : smallB ((List.getD (bs s) 0 0).toNat : Int) = false := by simp only [smallB]; grind
      simp only [nameOk, h'']; grind
    · rw [← hR]; simp only [byteP]; simp at h; simp [h]
    · have h' : i = 0 := by simpa using h'
      subst h'
      simpa [smallB] using h''
    · simp only [μ_spec_NameOk_2]; omega
    · rw [← hR]; simp only [byteP]; simp at h; simp [h]
    · have h' : ¬ i = 0 := by simpa using h'
      omega
    · simp only [μ_spec_NameOk_2]; omega
  · have hc := of_decide_eq_false hc
    rw [drop_end _ (by omega)] at hR
    refine Lf_b ?_
    simp only [nameOk, ← hR]
    by_cases hz : 0 < i
    · rw [hS hz]; simp only [List.all_nil]; grind
    · rw [decide_eq_false (by omega), decide_eq_false (by omega)]; rfl
def con_spec_l2Plain : Con UU where
  α := ByteArray
  md := [.ro]
  of := fun | [.one (.lit (.string a0))] => some a0 | _ => none
  ds := fun s => [.one (.lit (.string s))]
  pre := fun s => []
  res := fun s => ⟨[.one (.lit (.bool (decide (s.size ≤ 20) && wordS s)))], true, []⟩
  law := by intro l x h; (try simp only at h); split at h <;> cases h; rfl
def I_spec_l2Plain_2 (s : ByteArray) : Int × Unit → Prop := fun (i, _) => 0 ≤ i ∧ i ≤ s.size ∧ ((bs s).drop i.toNat).all (byteP wordB) = wordS s
def μ_spec_l2Plain_2 (s : ByteArray) : Int × Unit → Nat := fun (i, _) => s.size - i.toNat
def ann_spec_l2Plain : con_spec_l2Plain.α → Nat → Option (Ann UU) := fun s => annL [(2, annOf [.slot 3 (3, 1024) (.lit (.int .i64))] (fun _ => I_spec_l2Plain_2 s) (μ_spec_l2Plain_2 s))]
def use_spec_l2Plain : List (FuncId × Con UU) := [(75, con_spec_l1Letter)]
theorem vc_spec_l2Plain (s : ByteArray) : goal EE use_spec_l2Plain Go.Proofs.Tryd.f87 con_spec_l2Plain ann_spec_l2Plain s = (I_spec_l2Plain_2 s ((0 : Int), PUnit.unit) ∧
  ∀ (y : Int × PUnit),
    let x0 : Int := (↑(UInt8.toNat (List.getD s.data.toList (Int.toNat y.1) (0 : UInt8))) : Int);
    I_spec_l2Plain_2 s y → bif decide (y.1 < (↑(ByteArray.size s) : Int)) then (0 : Int) ≤ y.1 ∧ Int.toNat y.1 < ByteArray.size s ∧ ((0 : Int) ≤ x0 ∧ x0 ≤ (255 : Int)) ∧ bif !wordB x0 then Lf [DV.one (Cell.lit (Value.bool false))] [DV.one (Cell.lit (Value.bool (decide (ByteArray.size s ≤ (20 : Nat)) && wordS s)))] else I_spec_l2Plain_2 s (IntKind.wrap IntKind.i64 (y.1 + (1 : Int)), PUnit.unit) ∧ μ_spec_l2Plain_2 s (IntKind.wrap IntKind.i64 (y.1 + (1 : Int)), PUnit.unit) < μ_spec_l2Plain_2 s y else Lf [DV.one (Cell.lit (Value.bool (decide ((↑(ByteArray.size s) : Int) ≤ (20 : Int)))))] [DV.one (Cell.lit (Value.bool (decide (ByteArray.size s ≤ (20 : Nat)) && wordS s)))]) := by kernel_rfl
theorem ok_spec_l2Plain : Holds EE (87, con_spec_l2Plain) := by
  refine holds_of EE_ok Go.Proofs.Tryd.func87 con_spec_l2Plain (by kernel_rfl) rfl use_spec_l2Plain (all_cons ok_spec_l1Letter all_nil) ann_spec_l2Plain (fun (s : ByteArray) hp hb => ?_)
  have hb_s : BdDV (U := UU) (.one (.lit (.string s))) := hb _ (List.mem_cons_self)
  have hl_s : s.size ≤ 9223372036854775807 := Bd.str hb_s
  clear hp hb
  rw [vc_spec_l2Plain s]
  dsimp only
  refine ⟨⟨by omega, by omega, rfl⟩, ?_⟩
  rintro ⟨i, ⟨⟩⟩ ⟨h1, h2, hR⟩
  have hl := bs_len s
  simp only [bs_eq]
  refine if_cond (fun hc => ?_) (fun hc => ?_)
  · have hc := of_decide_eq_true hc
    have hb := (List.getD (bs s) i.toNat 0).toNat_lt
    rw [all_step _ _ 0 h1 (by omega)] at hR
    rw [wrap_i64 (by omega) (by omega)]
    refine ⟨by omega, by omega, ⟨by omega, by omega⟩, if_cond (fun h => Lf_ff ?_) (fun h => ⟨⟨by omega, by omega, ?_⟩, ?_⟩)⟩
    · rw [← hR]; simp only [byteP]; simp at h; simp [h]
    · rw [← hR]; simp only [byteP]; simp at h; simp [h]
    · simp only [μ_spec_l2Plain_2]; omega
  · have hc := of_decide_eq_false hc
    rw [drop_end _ (by omega)] at hR
    refine Lf_b ?_
    rw [← hR]; simp; omega
def con_impl_ValOk : Con UU where
  α := DVal
  md := [.ro]
  of := fun | [.agg [.lit (.int .i64 a0), .lit (.int .i64 a1), .lit (.string a2)]] => some ⟨a0, a1, a2⟩ | _ => none
  ds := fun v => [.agg [.lit (.int .i64 v.K), .lit (.int .i64 v.N), .lit (.string v.S)]]
  pre := fun v => []
  res := fun v => ⟨[.one (.lit (.bool (valOk v)))], true, []⟩
  law := by intro l x h; (try simp only at h); split at h <;> cases h; rfl
def ann_impl_ValOk : con_impl_ValOk.α → Nat → Option (Ann UU) := fun v => annL []
def use_impl_ValOk : List (FuncId × Con UU) := [(93, con_impl_inRange), (81, con_impl_isWord)]
theorem vc_impl_ValOk (v : DVal) : goal EE use_impl_ValOk Go.Proofs.Tryd.f64 con_impl_ValOk ann_impl_ValOk v = (bif v.K == (1 : Int) then bif decide ((-1000000000 : Int) ≤ v.N ∧ v.N ≤ (1000000000 : Int)) then Lf [DV.one (Cell.lit (Value.bool (ByteArray.toList v.S == ByteArray.toList { data := #[] : ByteArray })))] [DV.one (Cell.lit (Value.bool (valOk v)))] else Lf [DV.one (Cell.lit (Value.bool false))] [DV.one (Cell.lit (Value.bool (valOk v)))] else bif v.K == (2 : Int) then bif v.N == (0 : Int) then Lf [DV.one (Cell.lit (Value.bool (decide ((↑(ByteArray.size v.S) : Int) ≤ (20 : Int)) && wordS v.S)))] [DV.one (Cell.lit (Value.bool (valOk v)))] else Lf [DV.one (Cell.lit (Value.bool false))] [DV.one (Cell.lit (Value.bool (valOk v)))] else Lf [DV.one (Cell.lit (Value.bool false))] [DV.one (Cell.lit (Value.bool (valOk v)))]) := by kernel_rfl
theorem ok_impl_ValOk : Holds EE (64, con_impl_ValOk) := by
  refine holds_of EE_ok Go.Proofs.Tryd.func64 con_impl_ValOk (by kernel_rfl) rfl use_impl_ValOk (all_cons ok_impl_inRange (all_cons ok_impl_isWord all_nil)) ann_impl_ValOk (fun (v : DVal) hp hb => ?_)
  have hb_v : BdDV (U := UU) (.agg [.lit (.int .i64 v.K), .lit (.int .i64 v.N), .lit (.string v.S)]) := hb _ (List.mem_cons_self)
  have hl_v_S : v.S.size ≤ 9223372036854775807 := Bd.str (hb_v _ (by simp))
  clear hp hb
  rw [vc_impl_ValOk v]
  have e : (ByteArray.toList (DVal.S v) == ByteArray.toList { data := #[] }) = decide (v.S = noBytes) := toList_beq _ _
  simp only [e, valOk]
  repeat' (refine if_cond (fun h => ?_) (fun h => ?_))
  all_goals (refine Lf_b ?_; grind)
def con_spec_ValOk : Con UU where
  α := DVal
  md := [.ro]
  of := fun | [.agg [.lit (.int .i64 a0), .lit (.int .i64 a1), .lit (.string a2)]] => some ⟨a0, a1, a2⟩ | _ => none
  ds := fun v => [.agg [.lit (.int .i64 v.K), .lit (.int .i64 v.N), .lit (.string v.S)]]
  pre := fun v => []
  res := fun v => ⟨[.one (.lit (.bool (valOk v)))], true, []⟩
  law := by intro l x h; (try simp only at h); split at h <;> cases h; rfl
def ann_spec_ValOk : con_spec_ValOk.α → Nat → Option (Ann UU) := fun v => annL []
def use_spec_ValOk : List (FuncId × Con UU) := [(65, con_spec_l1In), (87, con_spec_l2Plain)]
theorem vc_spec_ValOk (v : DVal) : goal EE use_spec_ValOk Go.Proofs.Tryd.f59 con_spec_ValOk ann_spec_ValOk v = (bif v.K == (1 : Int) then bif decide ((-1000000000 : Int) ≤ v.N ∧ v.N ≤ (1000000000 : Int)) then Lf [DV.one (Cell.lit (Value.bool (ByteArray.toList v.S == ByteArray.toList { data := #[] : ByteArray })))] [DV.one (Cell.lit (Value.bool (valOk v)))] else Lf [DV.one (Cell.lit (Value.bool false))] [DV.one (Cell.lit (Value.bool (valOk v)))] else bif v.K == (2 : Int) then bif decide (ByteArray.size v.S ≤ (20 : Nat)) && wordS v.S then Lf [DV.one (Cell.lit (Value.bool (v.N == (0 : Int))))] [DV.one (Cell.lit (Value.bool (valOk v)))] else Lf [DV.one (Cell.lit (Value.bool false))] [DV.one (Cell.lit (Value.bool (valOk v)))] else Lf [DV.one (Cell.lit (Value.bool false))] [DV.one (Cell.lit (Value.bool (valOk v)))]) := by kernel_rfl
theorem ok_spec_ValOk : Holds EE (59, con_spec_ValOk) := by
  refine holds_of EE_ok Go.Proofs.Tryd.func59 con_spec_ValOk (by kernel_rfl) rfl use_spec_ValOk (all_cons ok_spec_l1In (all_cons ok_spec_l2Plain all_nil)) ann_spec_ValOk (fun (v : DVal) hp hb => ?_)
  have hb_v : BdDV (U := UU) (.agg [.lit (.int .i64 v.K), .lit (.int .i64 v.N), .lit (.string v.S)]) := hb _ (List.mem_cons_self)
  have hl_v_S : v.S.size ≤ 9223372036854775807 := Bd.str (hb_v _ (by simp))
  clear hp hb
  rw [vc_spec_ValOk v]
  have e : (ByteArray.toList (DVal.S v) == ByteArray.toList { data := #[] }) = decide (v.S = noBytes) := toList_beq _ _
  simp only [e, valOk]
  repeat' (refine if_cond (fun h => ?_) (fun h => ?_))
  all_goals (refine Lf_b ?_; grind)
def con_spec_l3Vals : Con UU where
  α := (List DVal)
  md := [.ro]
  of := fun | [.one (.sl .eVal a0)] => some a0 | _ => none
  ds := fun l => [.one (.sl .eVal l)]
  pre := fun l => []
  res := fun l => ⟨[.one (.lit (.bool (decide (l.length ≤ 5) && l.all valOk)))], true, []⟩
  law := by intro l x h; (try simp only at h); split at h <;> cases h; rfl
def I_spec_l3Vals_2 (l : (List DVal)) : Int × Unit → Prop := fun (i, _) => 0 ≤ i ∧ i ≤ l.length ∧ (l.drop i.toNat).all valOk = l.all valOk
def μ_spec_l3Vals_2 (l : (List DVal)) : Int × Unit → Nat := fun (i, _) => l.length - i.toNat
def ann_spec_l3Vals : con_spec_l3Vals.α → Nat → Option (Ann UU) := fun l => annL [(2, annOf [.slot 3 (3, 1024) (.lit (.int .i64))] (fun _ => I_spec_l3Vals_2 l) (μ_spec_l3Vals_2 l))]
def use_spec_l3Vals : List (FuncId × Con UU) := [(59, con_spec_ValOk)]
theorem vc_spec_l3Vals (l : (List DVal)) : goal EE use_spec_l3Vals Go.Proofs.Tryd.f74 con_spec_l3Vals ann_spec_l3Vals l = (let x0 : Int := (↑(List.length l) : Int);
I_spec_l3Vals_2 l ((0 : Int), PUnit.unit) ∧ ∀ (y : Int × PUnit), I_spec_l3Vals_2 l y → bif decide (y.1 < x0) then (0 : Int) ≤ y.1 ∧ Int.toNat y.1 < List.length l ∧ bif !valOk (List.getD l (Int.toNat y.1) zVal) then Lf [DV.one (Cell.lit (Value.bool false))] [DV.one (Cell.lit (Value.bool (decide (List.length l ≤ (5 : Nat)) && List.all l valOk)))] else I_spec_l3Vals_2 l (IntKind.wrap IntKind.i64 (y.1 + (1 : Int)), PUnit.unit) ∧ μ_spec_l3Vals_2 l (IntKind.wrap IntKind.i64 (y.1 + (1 : Int)), PUnit.unit) < μ_spec_l3Vals_2 l y else Lf [DV.one (Cell.lit (Value.bool (decide (x0 ≤ (5 : Int)))))] [DV.one (Cell.lit (Value.bool (decide (List.length l ≤ (5 : Nat)) && List.all l valOk)))]) := by kernel_rfl
theorem ok_spec_l3Vals : Holds EE (74, con_spec_l3Vals) := by
  refine holds_of EE_ok Go.Proofs.Tryd.func74 con_spec_l3Vals (by kernel_rfl) rfl use_spec_l3Vals (all_cons ok_spec_ValOk all_nil) ann_spec_l3Vals (fun (l : (List DVal)) hp hb => ?_)
  have hb_l : BdDV (U := UU) (.one (.sl .eVal l)) := hb _ (List.mem_cons_self)
  have hl_l : l.length ≤ 9223372036854775807 := Bd.len hb_l
  clear hp hb
  rw [vc_spec_l3Vals l]
  dsimp only
  refine ⟨⟨by omega, by omega, rfl⟩, ?_⟩
  rintro ⟨i, ⟨⟩⟩ ⟨h1, h2, hR⟩
  simp only
  refine if_cond (fun hc => ?_) (fun hc => ?_)
  · have hc := of_decide_eq_true hc
    rw [all_step _ _ zVal h1 (by omega)] at hR
    rw [wrap_i64 (by omega) (by omega)]
    refine ⟨by omega, by omega, if_cond (fun h => Lf_ff ?_) (fun h => ⟨⟨by omega, by omega, ?_⟩, ?_⟩)⟩
    · rw [← hR]; simp at h; simp [h]
    · rw [← hR]; simp at h; simp [h]
    · simp only [μ_spec_l3Vals_2]; omega
  · have hc := of_decide_eq_false hc
    rw [drop_end _ (by omega)] at hR
    refine Lf_b ?_
    rw [← hR]; simp; omega
def con_spec_FactOk : Con UU where
  α := DFact
  md := [.ro]
  of := fun | [.agg [.lit (.string a0), .sl .eVal a1]] => some ⟨a0, a1⟩ | _ => none
  ds := fun f => [.agg [.lit (.string f.Kind), .sl .eVal f.Fields]]
  pre := fun f => []
  res := fun f => ⟨[.one (.lit (.bool (factOk f)))], true, []⟩
  law := by intro l x h; (try simp only at h); split at h <;> cases h; rfl
def ann_spec_FactOk : con_spec_FactOk.α → Nat → Option (Ann UU) := fun f => annL []
def use_spec_FactOk : List (FuncId × Con UU) := [(39, con_spec_NameOk), (74, con_spec_l3Vals)]
theorem vc_spec_FactOk (f : DFact) : goal EE use_spec_FactOk Go.Proofs.Tryd.f38 con_spec_FactOk ann_spec_FactOk f = (bif nameOk f.Kind then Lf [DV.one (Cell.lit (Value.bool (decide (List.length f.Fields ≤ (5 : Nat)) && List.all f.Fields valOk)))] [DV.one (Cell.lit (Value.bool (factOk f)))] else Lf [DV.one (Cell.lit (Value.bool false))] [DV.one (Cell.lit (Value.bool (factOk f)))]) := by kernel_rfl
theorem ok_spec_FactOk : Holds EE (38, con_spec_FactOk) := by
  refine holds_of EE_ok Go.Proofs.Tryd.func38 con_spec_FactOk (by kernel_rfl) rfl use_spec_FactOk (all_cons ok_spec_NameOk (all_cons ok_spec_l3Vals all_nil)) ann_spec_FactOk (fun (f : DFact) hp hb => ?_)
  have hb_f : BdDV (U := UU) (.agg [.lit (.string f.Kind), .sl .eVal f.Fields]) := hb _ (List.mem_cons_self)
  have hl_f_Kind : f.Kind.size ≤ 9223372036854775807 := Bd.str (hb_f _ (by simp))
  have hl_f_Fields : f.Fields.length ≤ 9223372036854775807 := Bd.len (U := UU) (τ := .eVal) (xs := f.Fields) (hb_f _ (by simp))
  clear hp hb
  rw [vc_spec_FactOk f]
  simp only [factOk]
  refine if_cond (fun h => Lf_b ?_) (fun h => Lf_b ?_) <;> grind
def con_impl_FactOk : Con UU where
  α := DFact
  md := [.ro]
  of := fun | [.agg [.lit (.string a0), .sl .eVal a1]] => some ⟨a0, a1⟩ | _ => none
  ds := fun f => [.agg [.lit (.string f.Kind), .sl .eVal f.Fields]]
  pre := fun f => []
  res := fun f => ⟨[.one (.lit (.bool (factOk f)))], true, []⟩
  law := by intro l x h; (try simp only at h); split at h <;> cases h; rfl
def I_impl_FactOk_4 (f : DFact) : Int × Unit → Prop := fun (i, _) => 0 ≤ i ∧ i ≤ f.Fields.length ∧ f.Fields.length ≤ 5 ∧ nameOk f.Kind = true ∧ (f.Fields.drop i.toNat).all valOk = f.Fields.all valOk
def μ_impl_FactOk_4 (f : DFact) : Int × Unit → Nat := fun (i, _) => f.Fields.length - i.toNat
def ann_impl_FactOk : con_impl_FactOk.α → Nat → Option (Ann UU) := fun f => annL [(4, annOf [.slot 18 (18, 1024) (.lit (.int .i64))] (fun _ => I_impl_FactOk_4 f) (μ_impl_FactOk_4 f))]
def use_impl_FactOk : List (FuncId × Con UU) := [(47, con_impl_NameOk), (64, con_impl_ValOk)]
theorem vc_impl_FactOk (f : DFact) : goal EE use_impl_FactOk Go.Proofs.Tryd.f46 con_impl_FactOk ann_impl_FactOk f = (let x0 : Int := (↑(List.length f.Fields) : Int);
bif !nameOk f.Kind then Lf [DV.one (Cell.lit (Value.bool false))] [DV.one (Cell.lit (Value.bool (factOk f)))] else bif decide (x0 > (5 : Int)) then Lf [DV.one (Cell.lit (Value.bool false))] [DV.one (Cell.lit (Value.bool (factOk f)))] else I_impl_FactOk_4 f ((0 : Int), PUnit.unit) ∧ ∀ (y : Int × PUnit), I_impl_FactOk_4 f y → bif decide (y.1 < x0) then (0 : Int) ≤ y.1 ∧ Int.toNat y.1 < List.length f.Fields ∧ bif !valOk (List.getD f.Fields (Int.toNat y.1) zVal) then Lf [DV.one (Cell.lit (Value.bool false))] [DV.one (Cell.lit (Value.bool (factOk f)))] else I_impl_FactOk_4 f (IntKind.wrap IntKind.i64 (y.1 + (1 : Int)), PUnit.unit) ∧ μ_impl_FactOk_4 f (IntKind.wrap IntKind.i64 (y.1 + (1 : Int)), PUnit.unit) < μ_impl_FactOk_4 f y else Lf [DV.one (Cell.lit (Value.bool true))] [DV.one (Cell.lit (Value.bool (factOk f)))]) := by kernel_rfl
theorem ok_impl_FactOk : Holds EE (46, con_impl_FactOk) := by
  refine holds_of EE_ok Go.Proofs.Tryd.func46 con_impl_FactOk (by kernel_rfl) rfl use_impl_FactOk (all_cons ok_impl_NameOk (all_cons ok_impl_ValOk all_nil)) ann_impl_FactOk (fun (f : DFact) hp hb => ?_)
  have hb_f : BdDV (U := UU) (.agg [.lit (.string f.Kind), .sl .eVal f.Fields]) := hb _ (List.mem_cons_self)
  have hl_f_Kind : f.Kind.size ≤ 9223372036854775807 := Bd.str (hb_f _ (by simp))
  have hl_f_Fields : f.Fields.length ≤ 9223372036854775807 := Bd.len (U := UU) (τ := .eVal) (xs := f.Fields) (hb_f _ (by simp))
  clear hp hb
  rw [vc_impl_FactOk f]
  dsimp only
  refine if_cond (fun h => Lf_b ?_) (fun h => if_cond (fun h' => Lf_b ?_) (fun h' => ⟨⟨by omega, by omega, by simp at h'; omega, by simpa using h, rfl⟩, ?_⟩))
  · simp only [factOk]; grind
  · simp only [factOk]; grind
  rintro ⟨i, ⟨⟩⟩ ⟨h1, h2, h3, h4, hR⟩
  simp only
  refine if_cond (fun hc => ?_) (fun hc => ?_)
  · have hc := of_decide_eq_true hc
    rw [all_step _ _ zVal h1 (by omega)] at hR
    rw [wrap_i64 (by omega) (by omega)]
    refine ⟨by omega, by omega, if_cond (fun h => Lf_ff ?_) (fun h => ⟨⟨by omega, by omega, by omega, h4, ?_⟩, ?_⟩)⟩
    · simp only [factOk]; rw [← hR]; simp at h; simp [h]
    · rw [← hR]; simp at h; simp [h]
    · simp only [μ_impl_FactOk_4]; omega
  · have hc := of_decide_eq_false hc
    rw [drop_end _ (by omega)] at hR
    refine Lf_b ?_
    simp only [factOk, ← hR, h4]; simp; omega
def allI (n : Nat) (p : Nat → Bool) : Bool := (List.range n).all p
theorem allI_true {n : Nat} {p : Nat → Bool} (h : ∀ j, j < n → p j = true) : allI n p = true := by simpa [allI] using h
theorem allI_false {n : Nat} {p : Nat → Bool} {j : Nat} (h : j < n) (hj : p j = false) : allI n p = false := by
  simp only [allI, List.all_eq_false, List.mem_range]
  exact ⟨j, h, by simp [hj]⟩
theorem upto_step {i : Int} {p : Nat → Bool} (h0 : 0 ≤ i) (h : ∀ j : Nat, (j : Int) < i → p j = true) (hi : p i.toNat = true) : ∀ j : Nat, (j : Int) < i + 1 → p j = true := by
  intro j hj
  by_cases hji : (j : Int) < i
  · exact h j hji
  · have : j = i.toNat := by omega
    subst this; exact hi
def timerOk (x : DTimer) : Bool := decide (0 ≤ x.At ∧ x.At ≤ 1000000000) && factOk x.F
def timerAt (l : List DTimer) (i : Nat) : Bool := timerOk (List.getD l i zTimer) && (decide (i = 0) || decide ((List.getD l (i - 1) zTimer).At ≤ (List.getD l i zTimer).At))
def timersOk (l : List DTimer) : Bool := decide (l.length ≤ 30) && allI l.length (timerAt l)
def con_impl_isTime : Con UU where
  α := Int
  md := [.ro]
  of := fun | [.one (.lit (.int .i64 a0))] => some a0 | _ => none
  ds := fun n => [.one (.lit (.int .i64 n))]
  pre := fun n => []
  res := fun n => ⟨[.one (.lit (.bool (decide (0 ≤ n ∧ n ≤ 1000000000))))], true, []⟩
  law := by intro l x h; (try simp only at h); split at h <;> cases h; rfl
def ann_impl_isTime : con_impl_isTime.α → Nat → Option (Ann UU) := fun n => annL []
def use_impl_isTime : List (FuncId × Con UU) := [(93, con_impl_inRange)]
theorem vc_impl_isTime (n : Int) : goal EE use_impl_isTime Go.Proofs.Tryd.f67 con_impl_isTime ann_impl_isTime n = (Lf [DV.one (Cell.lit (Value.bool (decide ((0 : Int) ≤ n ∧ n ≤ (1000000000 : Int)))))] [DV.one (Cell.lit (Value.bool (decide ((0 : Int) ≤ n ∧ n ≤ (1000000000 : Int)))))]) := by kernel_rfl
theorem ok_impl_isTime : Holds EE (67, con_impl_isTime) := by
  refine holds_of EE_ok Go.Proofs.Tryd.func67 con_impl_isTime (by kernel_rfl) rfl use_impl_isTime (all_cons ok_impl_inRange all_nil) ann_impl_isTime (fun (n : Int) hp hb => ?_)
  have hb_n : BdDV (U := UU) (.one (.lit (.int .i64 n))) := hb _ (List.mem_cons_self)
  have hl_n := Bd.i64 hb_n
  clear hp hb
  rw [vc_impl_isTime n]
  exact Lf_rfl _
/-- The first place where p holds; -1. -/
def idxI (n : Nat) (p : Nat → Bool) : Int := match (List.range n).find? p with | some i => i | none => -1
def anyI (n : Nat) (p : Nat → Bool) : Bool := (List.range n).any p
theorem idxI_found {n i : Nat} {p : Nat → Bool} (h : i < n) (hp : p i = true) (hj : ∀ j, j < i → p j = false) : idxI n p = i := by
  have : (List.range n).find? p = some i := by
    rw [List.find?_range_eq_some]
    exact ⟨hp, List.mem_range.2 h, fun j hj' => by simp [hj j hj']⟩
  simp [idxI, this]
theorem idxI_none {n : Nat} {p : Nat → Bool} (hj : ∀ j, j < n → p j = false) : idxI n p = -1 := by
  have : (List.range n).find? p = none := by
    rw [List.find?_eq_none]
    intro j hj'
    simp [hj j (List.mem_range.1 hj')]
  simp [idxI, this]
theorem idxI_cases (n : Nat) (p : Nat → Bool) : (idxI n p = -1 ∧ ∀ j, j < n → p j = false) ∨ ∃ i, i < n ∧ idxI n p = (i : Int) ∧ p i = true ∧ ∀ j, j < i → p j = false := by
  cases h : (List.range n).find? p with
  | none =>
    refine .inl ⟨by simp [idxI, h], fun j hj => ?_⟩
    have := List.find?_eq_none.1 h j (List.mem_range.2 hj)
    simpa using this
  | some i =>
    rw [List.find?_range_eq_some] at h
    obtain ⟨h1, h2, h3⟩ := h
    exact .inr ⟨i, List.mem_range.1 h2, idxI_found (List.mem_range.1 h2) h1 (fun j hj => by simpa using h3 j hj), h1, fun j hj => by simpa using h3 j hj⟩
theorem idxI_congr {n : Nat} {p q : Nat → Bool} (h : ∀ j, j < n → p j = q j) : idxI n p = idxI n q := by
  rcases idxI_cases n q with ⟨h1, h2⟩ | ⟨i, h1, h2, h3, h4⟩
  · rw [h1, idxI_none (fun j hj => by rw [h j hj, h2 j hj])]
  · rw [h2, idxI_found h1 (by rw [h i h1, h3]) (fun j hj => by rw [h j (by omega), h4 j hj])]
theorem anyI_true {n j : Nat} {p : Nat → Bool} (h : j < n) (hp : p j = true) : anyI n p = true := by
  simp only [anyI, List.any_eq_true, List.mem_range]
  exact ⟨j, h, hp⟩
theorem anyI_false {n : Nat} {p : Nat → Bool} (h : ∀ j, j < n → p j = false) : anyI n p = false := by
  simp only [anyI, List.any_eq_false, List.mem_range]
  exact fun j hj => by simp [h j hj]
theorem anyI_iff {n : Nat} {p : Nat → Bool} : anyI n p = true ↔ ∃ j, j < n ∧ p j = true := by
  simp only [anyI, List.any_eq_true, List.mem_range]
theorem anyI_not {n : Nat} {p : Nat → Bool} : anyI n p = false ↔ ∀ j, j < n → p j = false := by
  simp only [anyI, List.any_eq_false, List.mem_range, Bool.not_eq_true]
theorem allI_iff {n : Nat} {p : Nat → Bool} : allI n p = true ↔ ∀ j, j < n → p j = true := by
  simp only [allI, List.all_eq_true, List.mem_range]
theorem allI_not {n : Nat} {p : Nat → Bool} : allI n p = false ↔ ∃ j, j < n ∧ p j = false := by
  simp only [allI, List.all_eq_false, List.mem_range, Bool.not_eq_true]
theorem anyI_congr {n : Nat} {p q : Nat → Bool} (h : ∀ j, j < n → p j = q j) : anyI n p = anyI n q := by
  rw [Bool.eq_iff_iff, anyI_iff, anyI_iff]
  exact ⟨fun ⟨j, h1, h2⟩ => ⟨j, h1, by rw [← h j h1]; exact h2⟩, fun ⟨j, h1, h2⟩ => ⟨j, h1, by rw [h j h1]; exact h2⟩⟩
theorem allI_congr {n : Nat} {p q : Nat → Bool} (h : ∀ j, j < n → p j = q j) : allI n p = allI n q := by
  rw [Bool.eq_iff_iff, allI_iff, allI_iff]
  exact ⟨fun g j hj => by rw [← h j hj]; exact g j hj, fun g j hj => by rw [h j hj]; exact g j hj⟩
theorem idxI_ge {n : Nat} {p : Nat → Bool} : decide (0 ≤ idxI n p) = anyI n p := by
  rcases idxI_cases n p with ⟨h1, h2⟩ | ⟨i, h1, h2, h3, h4⟩
  · rw [h1, anyI_false h2]; rfl
  · rw [h2, anyI_true h1 h3]; simp
theorem getD_take {α : Type} (l : List α) (z : α) {i j : Nat} (h : j < i) : List.getD (l.take i) j z = List.getD l j z := by
  rw [List.getD_eq_getElem?_getD, List.getD_eq_getElem?_getD, List.getElem?_take, if_pos h]
/-- What a closure answers. -/
theorem closP_of {k : Con UU} {caps : List (DV UU)} {ds : List (DA UU)} {x : k.α} {v : Value} (h : k.of (ds.map DA.dv ++ caps) = some x) (hv : (k.res x).val = [.one (.lit v)]) (hm : (k.res x).muts = [])
    (hl : k.md.length = ds.length + caps.length) (hp : ∀ p ∈ k.pre x, p) : closP k caps ds = some v := by
  unfold closP
  simp only [h, hv, hm]
  rw [if_pos ⟨hl, hp⟩]
theorem val_beq (a b : DVal) : (a.K == b.K && (a.N == b.N && (ByteArray.toList a.S == ByteArray.toList b.S && true))) = decide (a = b) := by
  obtain ⟨K, N, S⟩ := a
  obtain ⟨K', N', S'⟩ := b
  simp only [toList_beq, Bool.and_true]
  rw [Bool.eq_iff_iff]
  simp only [Bool.and_eq_true, beq_iff_eq, decide_eq_true_eq, DVal.mk.injEq]
/-- The end of a search. -/
theorem upto_no {i : Int} {p : Nat → Bool} (h0 : 0 ≤ i) (h : ∀ j : Nat, (j : Int) < i → p j = false) (hi : p i.toNat = false) : ∀ j : Nat, (j : Int) < i + 1 → p j = false := by
  intro j hj
  by_cases hji : (j : Int) < i
  · exact h j hji
  · have : j = i.toNat := by omega
    subst this; exact hi
def daUndo (x : DUndo) : DA UU := ⟨true, [.lit (.string x.Key), .lit (.string x.F.Kind), .sl .eVal x.F.Fields]⟩
def undoAt (l : List DUndo) (i : Nat) : Bool := decide (1 ≤ (List.getD l i zUndo).Key.size ∧ (List.getD l i zUndo).Key.size ≤ 200) && factOk (List.getD l i zUndo).F && !(anyI i fun k => decide ((List.getD l k zUndo).Key = (List.getD l i zUndo).Key))
def undosOk (l : List DUndo) : Bool := decide (l.length ≤ 30) && allI l.length (undoAt l)
def hasKey (l : List DUndo) (key : ByteArray) : Bool := anyI l.length fun k => decide ((List.getD l k zUndo).Key = key)
def undoLast (l : List DUndo) : DFact := if l = [] then zFact else (List.getD l (l.length - 1) zUndo).F
theorem undoLast_ct (l : List DUndo) : ctFact (undoLast l) ≤ 20 * sizeUndoS l := by
  unfold undoLast
  split
  · exact Nat.zero_le _
  · rename_i hl
    have h0 : 0 < l.length := List.length_pos_iff.2 hl
    have h1 : (l.length - 1 : Int).toNat = l.length - 1 := by omega
    have hs := sum_getD_le sizeUndo l zUndo (i := l.length - 1) (by omega) (by omega)
    rw [h1] at hs
    have := ctFact_le (List.getD l (l.length - 1) zUndo).F
    simp only [sizeUndo] at hs
    simp only [sizeUndoS, sizeUndo]
    omega
theorem sum_take_le {α : Type} (f : α → Nat) (l : List α) (n : Nat) : ((l.take n).map f).sum ≤ (l.map f).sum := by
  have h := congrArg (fun q => (q.map f).sum) (List.take_append_drop n l)
  simp only [List.map_append, List.sum_append] at h
  omega
theorem sizeUndoS_take (l : List DUndo) (n : Nat) : sizeUndoS (l.take n) ≤ sizeUndoS l := by
  have := sum_take_le sizeUndo l n
  simp only [sizeUndoS, List.length_take]
  omega
def con_slices_CloneVal : Con UU where
  α := (List DVal)
  md := [.ro]
  of := fun | [.one (.sl .eVal a0)] => some a0 | _ => none
  ds := fun l => [.one (.sl .eVal l)]
  pre := fun l => [l.length ≤ 4294967296]
  res := fun l => ⟨[.one (.sl .eVal l)], true, []⟩
  law := by intro l x h; (try simp only at h); split at h <;> cases h; rfl
def ann_slices_CloneVal : con_slices_CloneVal.α → Nat → Option (Ann UU) := fun l => annL []
def use_slices_CloneVal : List (FuncId × Con UU) := []
theorem vc_slices_CloneVal (l : (List DVal)) : goalN EE use_slices_CloneVal Go.Proofs.Tryd.f49 con_slices_CloneVal ann_slices_CloneVal l .eVal l false = ((0 : Nat) + List.length l ≤ (4294967296 : Nat) ∧ Lf [DV.one (Cell.sl Cd.eVal ([] ++ l))] [DV.one (Cell.sl Cd.eVal l)]) := by kernel_rfl
theorem vc2_slices_CloneVal : goalN EE use_slices_CloneVal Go.Proofs.Tryd.f49 con_slices_CloneVal ann_slices_CloneVal [] .eVal [] true = (Lf [DV.one (Cell.sl Cd.eVal [])] [DV.one (Cell.sl Cd.eVal [])]) := by kernel_rfl
theorem vd2_slices_CloneVal : goalN EE use_slices_CloneVal Go.Proofs.Tryd.f49 con_slices_CloneVal ann_slices_CloneVal [] .eVal [] true := by
  rw [vc2_slices_CloneVal]
  exact Lf_rfl _
theorem ok_slices_CloneVal : Holds EE (49, con_slices_CloneVal) := by
  refine holds_ofN EE_ok Go.Proofs.Tryd.func49 con_slices_CloneVal (by kernel_rfl) rfl .eVal (fun x => x) (fun _ => rfl) use_slices_CloneVal all_nil ann_slices_CloneVal (fun (l : (List DVal)) hp hb => ?_)
  have hb_l : BdDV (U := UU) (.one (.sl .eVal l)) := hb _ (List.mem_cons_self)
  have hl_l : l.length ≤ 9223372036854775807 := Bd.len hb_l
  have hp0 : l.length ≤ 4294967296 := hp _ (List.mem_cons_self)
  clear hp hb
  refine ⟨?_, fun h0 => ?_⟩
  rotate_left
  · subst h0; exact vd2_slices_CloneVal
  rw [vc_slices_CloneVal l]
  exact ⟨by simp; omega, Lf_rfl _⟩
def con_spec_l3Copy : Con UU where
  α := DFact
  md := [.ro]
  of := fun | [.agg [.lit (.string a0), .sl .eVal a1]] => some ⟨a0, a1⟩ | _ => none
  ds := fun f => [.agg [.lit (.string f.Kind), .sl .eVal f.Fields]]
  pre := fun f => [f.Fields.length ≤ 4294967296]
  res := fun f => ⟨[.agg [.lit (.string f.Kind), .sl .eVal f.Fields]], true, []⟩
  law := by intro l x h; (try simp only at h); split at h <;> cases h; rfl
def ann_spec_l3Copy : con_spec_l3Copy.α → Nat → Option (Ann UU) := fun f => annL []
def use_spec_l3Copy : List (FuncId × Con UU) := []
theorem vc_spec_l3Copy (f : DFact) : goal EE use_spec_l3Copy Go.Proofs.Tryd.f73 con_spec_l3Copy ann_spec_l3Copy f = ((0 : Nat) + List.length f.Fields ≤ (4294967296 : Nat) ∧ Lf [DV.agg [Cell.lit (Value.string f.Kind), Cell.sl Cd.eVal ([] ++ f.Fields)]] [DV.agg [Cell.lit (Value.string f.Kind), Cell.sl Cd.eVal f.Fields]]) := by kernel_rfl
theorem ok_spec_l3Copy : Holds EE (73, con_spec_l3Copy) := by
  refine holds_of EE_ok Go.Proofs.Tryd.func73 con_spec_l3Copy (by kernel_rfl) rfl use_spec_l3Copy all_nil ann_spec_l3Copy (fun (f : DFact) hp hb => ?_)
  have hb_f : BdDV (U := UU) (.agg [.lit (.string f.Kind), .sl .eVal f.Fields]) := hb _ (List.mem_cons_self)
  have hl_f_Kind : f.Kind.size ≤ 9223372036854775807 := Bd.str (hb_f _ (by simp))
  have hl_f_Fields : f.Fields.length ≤ 9223372036854775807 := Bd.len (U := UU) (τ := .eVal) (xs := f.Fields) (hb_f _ (by simp))
  have hp0 : f.Fields.length ≤ 4294967296 := hp _ (List.mem_cons_self)
  clear hp hb
  rw [vc_spec_l3Copy f]
  exact ⟨by simp; omega, Lf_rfl _⟩
def con_impl_copyFact : Con UU where
  α := DFact
  md := [.ro]
  of := fun | [.agg [.lit (.string a0), .sl .eVal a1]] => some ⟨a0, a1⟩ | _ => none
  ds := fun f => [.agg [.lit (.string f.Kind), .sl .eVal f.Fields]]
  pre := fun f => [f.Fields.length ≤ 4294967296]
  res := fun f => ⟨[.agg [.lit (.string f.Kind), .sl .eVal f.Fields]], true, []⟩
  law := by intro l x h; (try simp only at h); split at h <;> cases h; rfl
def ann_impl_copyFact : con_impl_copyFact.α → Nat → Option (Ann UU) := fun f => annL []
def use_impl_copyFact : List (FuncId × Con UU) := [(49, con_slices_CloneVal)]
theorem vc_impl_copyFact (f : DFact) : goal EE use_impl_copyFact Go.Proofs.Tryd.f70 con_impl_copyFact ann_impl_copyFact f = (List.length f.Fields ≤ (4294967296 : Nat) ∧ Lf [DV.agg [Cell.lit (Value.string f.Kind), Cell.sl Cd.eVal f.Fields]] [DV.agg [Cell.lit (Value.string f.Kind), Cell.sl Cd.eVal f.Fields]]) := by kernel_rfl
theorem ok_impl_copyFact : Holds EE (70, con_impl_copyFact) := by
  refine holds_of EE_ok Go.Proofs.Tryd.func70 con_impl_copyFact (by kernel_rfl) rfl use_impl_copyFact (all_cons ok_slices_CloneVal all_nil) ann_impl_copyFact (fun (f : DFact) hp hb => ?_)
  have hb_f : BdDV (U := UU) (.agg [.lit (.string f.Kind), .sl .eVal f.Fields]) := hb _ (List.mem_cons_self)
  have hl_f_Kind : f.Kind.size ≤ 9223372036854775807 := Bd.str (hb_f _ (by simp))
  have hl_f_Fields : f.Fields.length ≤ 9223372036854775807 := Bd.len (U := UU) (τ := .eVal) (xs := f.Fields) (hb_f _ (by simp))
  have hp0 : f.Fields.length ≤ 4294967296 := hp _ (List.mem_cons_self)
  clear hp hb
  rw [vc_impl_copyFact f]
  exact ⟨hp0, Lf_rfl _⟩
def undoOk (s : ByteArray) : Bool := decide (s = noBytes) || nameOk s
def taskOk (t : DTask) : Bool := factOk t.F && undoOk t.Undo && decide (1 ≤ t.State ∧ t.State ≤ 4) && decide (0 ≤ t.Tries ∧ t.Tries ≤ 4) && decide (0 ≤ t.Due ∧ t.Due ≤ 1000001000) && (decide (t.V = zVal) || valOk t.V) && decide ((t.State = 1 → t.Tries = 0) ∧ (t.State = 2 → t.Tries ≠ 0))
def taskAt (l : List DTask) (i : Nat) : Bool := taskOk (List.getD l i zTask) && !(anyI i fun k => decide ((List.getD l k zTask).F = (List.getD l i zTask).F))
def tasksOk (l : List DTask) : Bool := decide (l.length ≤ 30) && allI l.length (taskAt l)
def placeOf (l : List DTask) (f : DFact) : Int := idxI l.length fun k => decide ((List.getD l k zTask).F = f)
def isOpen (t : DTask) : Bool := decide (t.State = 1 ∨ t.State = 2)
def giveUp1 (t : DTask) : DTask := if t.State = 1 ∨ t.State = 2 then ⟨t.F, t.Undo, 4, t.Tries, t.Due, t.V⟩ else t
def giveUp (l : List DTask) : List DTask := l.map giveUp1
def daTask (x : DTask) : DA UU := ⟨true, [.lit (.string x.F.Kind), .sl .eVal x.F.Fields, .lit (.string x.Undo), .lit (.int .i64 x.State), .lit (.int .i64 x.Tries), .lit (.int .i64 x.Due), .lit (.int .i64 x.V.K), .lit (.int .i64 x.V.N), .lit (.string x.V.S)]⟩
theorem fact_ext {a b : DFact} : a = b ↔ a.Kind = b.Kind ∧ a.Fields = b.Fields := by
  obtain ⟨k, f⟩ := a; obtain ⟨k', f'⟩ := b; simp
theorem map_mod {α : Type} (f : α → α) (l : List α) (z : α) {i : Int} (F : α → α) (h0 : 0 ≤ i) (h : i < l.length) (hF : F (List.getD l i.toNat z) = f (List.getD l i.toNat z)) :
    ((l.map f).take i.toNat ++ l.drop i.toNat).modify i.toNat F = (l.map f).take (i + 1).toNat ++ l.drop (i + 1).toNat := by
  have hn : i.toNat < l.length := by omega
  have e : (i + 1).toNat = i.toNat + 1 := by omega
  have ht : ((l.map f).take i.toNat).length = i.toNat := by rw [List.length_take, List.length_map]; omega
  rw [modify_set _ z, mk_getD _ l z ht h0 h, hF, drop_step l z h0 h, List.set_append_right _ _ (by rw [ht]; exact Nat.le_refl _), ht, Nat.sub_self, List.set_cons_zero, e, List.take_succ_eq_append_getElem (by simpa using hn), List.append_assoc, List.getElem_map]
  rw [List.getD_eq_getElem?_getD, List.getElem?_eq_getElem hn]
  rfl
theorem map_skip {α : Type} (f : α → α) (l : List α) (z : α) {i : Int} (h0 : 0 ≤ i) (h : i < l.length) (hF : List.getD l i.toNat z = f (List.getD l i.toNat z)) :
    (l.map f).take i.toNat ++ l.drop i.toNat = (l.map f).take (i + 1).toNat ++ l.drop (i + 1).toNat := by
  rw [← map_mod f l z (fun x => x) h0 h hF]
  have : ∀ (m : List α) (n : Nat), m.modify n (fun x => x) = m := by
    intro m n
    refine List.ext_getElem? fun j => ?_
    rw [List.getElem?_modify]
    cases m[j]? <;> simp
  rw [this]
theorem map_row {α : Type} (f : α → α) (l : List α) {i : Int} (h0 : 0 ≤ i) (h : i ≤ l.length) : ((l.map f).take i.toNat ++ l.drop i.toNat).length = l.length := by
  rw [List.length_append, List.length_take, List.length_map, List.length_drop]; omega
theorem map_tl {α : Type} (f : α → α) (l : List α) {i : Int} (h0 : 0 ≤ i) (h : i ≤ l.length) : ((l.map f).take i.toNat).length = i.toNat := by
  rw [List.length_take, List.length_map]; omega
theorem map_done {α : Type} (f : α → α) (l : List α) {i : Int} (h : l.length ≤ i) : (l.map f).take i.toNat ++ l.drop i.toNat = l.map f := by
  rw [List.drop_eq_nil_of_le (by omega), List.append_nil, List.take_of_length_le (by rw [List.length_map]; omega)]
def con_spec_l3SameVals : Con UU where
  α := (List DVal) × (List DVal)
  md := [.ro, .ro]
  of := fun | [.one (.sl .eVal a0), .one (.sl .eVal a1)] => some (a0, a1) | _ => none
  ds := fun (a, b) => [.one (.sl .eVal a), .one (.sl .eVal b)]
  pre := fun (a, b) => []
  res := fun (a, b) => ⟨[.one (.lit (.bool (decide (a = b))))], true, []⟩
  law := by intro l x h; (try simp only at h); split at h <;> cases h; rfl
def I_spec_l3SameVals_4 (a : (List DVal)) (b : (List DVal)) : Int × Unit → Prop := fun (i, _) => 0 ≤ i ∧ i ≤ a.length ∧ a.length = b.length ∧ (a.drop i.toNat = b.drop i.toNat ↔ a = b)
def μ_spec_l3SameVals_4 (a : (List DVal)) (b : (List DVal)) : Int × Unit → Nat := fun (i, _) => a.length - i.toNat
def ann_spec_l3SameVals : con_spec_l3SameVals.α → Nat → Option (Ann UU) := fun (a, b) => annL [(4, annOf [.slot 5 (5, 1024) (.lit (.int .i64))] (fun _ => I_spec_l3SameVals_4 a b) (μ_spec_l3SameVals_4 a b))]
def use_spec_l3SameVals : List (FuncId × Con UU) := []
theorem vc_spec_l3SameVals (a : (List DVal)) (b : (List DVal)) : goal EE use_spec_l3SameVals Go.Proofs.Tryd.f102 con_spec_l3SameVals ann_spec_l3SameVals (a, b) = (bif (↑(List.length a) : Int) != (↑(List.length b) : Int) then Lf [DV.one (Cell.lit (Value.bool false))] [DV.one (Cell.lit (Value.bool (decide (a = b))))]
else
  I_spec_l3SameVals_4 a b ((0 : Int), PUnit.unit) ∧
    ∀ (y : Int × PUnit),
      let x0 : DVal := List.getD b (Int.toNat y.1) zVal;
      let x1 : DVal := List.getD a (Int.toNat y.1) zVal;
      I_spec_l3SameVals_4 a b y → bif decide (y.1 < (↑(List.length a) : Int)) then (0 : Int) ≤ y.1 ∧ Int.toNat y.1 < List.length a ∧ (0 : Int) ≤ y.1 ∧ Int.toNat y.1 < List.length b ∧ bif !(x1.K == x0.K && (x1.N == x0.N && (ByteArray.toList x1.S == ByteArray.toList x0.S && true))) then Lf [DV.one (Cell.lit (Value.bool false))] [DV.one (Cell.lit (Value.bool (decide (a = b))))] else I_spec_l3SameVals_4 a b (IntKind.wrap IntKind.i64 (y.1 + (1 : Int)), PUnit.unit) ∧ μ_spec_l3SameVals_4 a b (IntKind.wrap IntKind.i64 (y.1 + (1 : Int)), PUnit.unit) < μ_spec_l3SameVals_4 a b y else Lf [DV.one (Cell.lit (Value.bool true))] [DV.one (Cell.lit (Value.bool (decide (a = b))))]) := by kernel_rfl
theorem ok_spec_l3SameVals : Holds EE (102, con_spec_l3SameVals) := by
  refine holds_of EE_ok Go.Proofs.Tryd.func102 con_spec_l3SameVals (by kernel_rfl) rfl use_spec_l3SameVals all_nil ann_spec_l3SameVals (fun x hp hb => ?_)
  obtain ⟨a, b⟩ := x
  have hb_a : BdDV (U := UU) (.one (.sl .eVal a)) := hb _ (List.mem_cons_self)
  have hl_a : a.length ≤ 9223372036854775807 := Bd.len hb_a
  have hb_b : BdDV (U := UU) (.one (.sl .eVal b)) := hb _ (List.mem_cons_of_mem _ (List.mem_cons_self))
  have hl_b : b.length ≤ 9223372036854775807 := Bd.len hb_b
  clear hp hb
  rw [vc_spec_l3SameVals a b]
  dsimp only
  refine if_cond (fun h => Lf_f ?_) (fun h => ⟨?_, ?_⟩)
  · rintro rfl; simp at h
  · simp [I_spec_l3SameVals_4] at *; omega
  rintro ⟨i, ⟨⟩⟩ ⟨h1, h2, h3, hR⟩
  simp only at *
  refine if_cond (fun hc => ?_) (fun hc => ?_)
  · have hc : i < a.length := by simpa using hc
    rw [drop_step a zVal h1 hc, drop_step b zVal h1 (by omega)] at hR
    rw [wrap_i64 (by omega) (by omega)]
    simp only [val_beq]
    refine ⟨by omega, by omega, by omega, by omega, if_cond (fun h => Lf_f ?_) (fun h => ⟨⟨by omega, by omega, h3, ?_⟩, ?_⟩)⟩
    · rw [← hR]; simp at h; simp [h]
    · rw [← hR]; simp at h; simp [h]
    · simp only [μ_spec_l3SameVals_4]; omega
  · have hc : a.length ≤ i := by simpa using hc
    rw [drop_end a hc, drop_end b (by omega)] at hR
    exact Lf_t (hR.1 rfl)
def con_EqualVal : Con UU where
  α := (List DVal) × (List DVal)
  md := [.ro, .ro]
  of := fun | [.one (.sl .eVal a0), .one (.sl .eVal a1)] => some (a0, a1) | _ => none
  ds := fun (a, b) => [.one (.sl .eVal a), .one (.sl .eVal b)]
  pre := fun (a, b) => []
  res := fun (a, b) => ⟨[.one (.lit (.bool (decide (a = b))))], true, []⟩
  law := by intro l x h; (try simp only at h); split at h <;> cases h; rfl
def I_EqualVal_4 (a : (List DVal)) (b : (List DVal)) : Int × Unit → Prop := fun (i, _) => 0 ≤ i ∧ i ≤ a.length ∧ a.length = b.length ∧ (a.drop i.toNat = b.drop i.toNat ↔ a = b)
def μ_EqualVal_4 (a : (List DVal)) (b : (List DVal)) : Int × Unit → Nat := fun (i, _) => a.length - i.toNat
def ann_EqualVal : con_EqualVal.α → Nat → Option (Ann UU) := fun (a, b) => annL [(4, annOf [.slot 13 (13, 1024) (.lit (.int .i64))] (fun _ => I_EqualVal_4 a b) (μ_EqualVal_4 a b))]
def use_EqualVal : List (FuncId × Con UU) := []
theorem vc_EqualVal (a : (List DVal)) (b : (List DVal)) : goal EE use_EqualVal Go.Proofs.Tryd.f112 con_EqualVal ann_EqualVal (a, b) = (bif (↑(List.length a) : Int) != (↑(List.length b) : Int) then Lf [DV.one (Cell.lit (Value.bool false))] [DV.one (Cell.lit (Value.bool (decide (a = b))))]
else
  I_EqualVal_4 a b ((0 : Int), PUnit.unit) ∧
    ∀ (y : Int × PUnit),
      let x0 : DVal := List.getD a (Int.toNat y.1) zVal;
      let x1 : DVal := List.getD b (Int.toNat y.1) zVal;
      I_EqualVal_4 a b y → bif decide (y.1 < (↑(List.length a) : Int)) then (0 : Int) ≤ y.1 ∧ Int.toNat y.1 < List.length a ∧ (0 : Int) ≤ y.1 ∧ Int.toNat y.1 < List.length b ∧ bif !(x0.K == x1.K && (x0.N == x1.N && (ByteArray.toList x0.S == ByteArray.toList x1.S && true))) then Lf [DV.one (Cell.lit (Value.bool false))] [DV.one (Cell.lit (Value.bool (decide (a = b))))] else I_EqualVal_4 a b (IntKind.wrap IntKind.i64 (y.1 + (1 : Int)), PUnit.unit) ∧ μ_EqualVal_4 a b (IntKind.wrap IntKind.i64 (y.1 + (1 : Int)), PUnit.unit) < μ_EqualVal_4 a b y else Lf [DV.one (Cell.lit (Value.bool true))] [DV.one (Cell.lit (Value.bool (decide (a = b))))]) := by kernel_rfl
theorem ok_EqualVal : Holds EE (112, con_EqualVal) := by
  refine holds_of EE_ok Go.Proofs.Tryd.func112 con_EqualVal (by kernel_rfl) rfl use_EqualVal all_nil ann_EqualVal (fun x hp hb => ?_)
  obtain ⟨a, b⟩ := x
  have hb_a : BdDV (U := UU) (.one (.sl .eVal a)) := hb _ (List.mem_cons_self)
  have hl_a : a.length ≤ 9223372036854775807 := Bd.len hb_a
  have hb_b : BdDV (U := UU) (.one (.sl .eVal b)) := hb _ (List.mem_cons_of_mem _ (List.mem_cons_self))
  have hl_b : b.length ≤ 9223372036854775807 := Bd.len hb_b
  clear hp hb
  rw [vc_EqualVal a b]
  dsimp only
  refine if_cond (fun h => Lf_f ?_) (fun h => ⟨?_, ?_⟩)
  · rintro rfl; simp at h
  · simp [I_EqualVal_4] at *; omega
  rintro ⟨i, ⟨⟩⟩ ⟨h1, h2, h3, hR⟩
  simp only at *
  refine if_cond (fun hc => ?_) (fun hc => ?_)
  · have hc : i < a.length := by simpa using hc
    rw [drop_step a zVal h1 hc, drop_step b zVal h1 (by omega)] at hR
    rw [wrap_i64 (by omega) (by omega)]
    simp only [val_beq]
    refine ⟨by omega, by omega, by omega, by omega, if_cond (fun h => Lf_f ?_) (fun h => ⟨⟨by omega, by omega, h3, ?_⟩, ?_⟩)⟩
    · rw [← hR]; simp at h; simp [h]
    · rw [← hR]; simp at h; simp [h]
    · simp only [μ_EqualVal_4]; omega
  · have hc : a.length ≤ i := by simpa using hc
    rw [drop_end a hc, drop_end b (by omega)] at hR
    exact Lf_t (hR.1 rfl)
def con_spec_SameFact : Con UU where
  α := DFact × DFact
  md := [.ro, .ro]
  of := fun | [.agg [.lit (.string a0), .sl .eVal a1], .agg [.lit (.string a2), .sl .eVal a3]] => some (⟨a0, a1⟩, ⟨a2, a3⟩) | _ => none
  ds := fun (a, b) => [.agg [.lit (.string a.Kind), .sl .eVal a.Fields], .agg [.lit (.string b.Kind), .sl .eVal b.Fields]]
  pre := fun (a, b) => []
  res := fun (a, b) => ⟨[.one (.lit (.bool (decide (a = b))))], true, []⟩
  law := by intro l x h; (try simp only at h); split at h <;> cases h; rfl
def ann_spec_SameFact : con_spec_SameFact.α → Nat → Option (Ann UU) := fun (a, b) => annL []
def use_spec_SameFact : List (FuncId × Con UU) := [(102, con_spec_l3SameVals)]
theorem vc_spec_SameFact (a : DFact) (b : DFact) : goal EE use_spec_SameFact Go.Proofs.Tryd.f86 con_spec_SameFact ann_spec_SameFact (a, b) = (bif ByteArray.toList a.Kind == ByteArray.toList b.Kind then Lf [DV.one (Cell.lit (Value.bool (decide (a.Fields = b.Fields))))] [DV.one (Cell.lit (Value.bool (decide (a = b))))] else Lf [DV.one (Cell.lit (Value.bool false))] [DV.one (Cell.lit (Value.bool (decide (a = b))))]) := by kernel_rfl
theorem ok_spec_SameFact : Holds EE (86, con_spec_SameFact) := by
  refine holds_of EE_ok Go.Proofs.Tryd.func86 con_spec_SameFact (by kernel_rfl) rfl use_spec_SameFact (all_cons ok_spec_l3SameVals all_nil) ann_spec_SameFact (fun x hp hb => ?_)
  obtain ⟨a, b⟩ := x
  have hb_a : BdDV (U := UU) (.agg [.lit (.string a.Kind), .sl .eVal a.Fields]) := hb _ (List.mem_cons_self)
  have hl_a_Kind : a.Kind.size ≤ 9223372036854775807 := Bd.str (hb_a _ (by simp))
  have hl_a_Fields : a.Fields.length ≤ 9223372036854775807 := Bd.len (U := UU) (τ := .eVal) (xs := a.Fields) (hb_a _ (by simp))
  have hb_b : BdDV (U := UU) (.agg [.lit (.string b.Kind), .sl .eVal b.Fields]) := hb _ (List.mem_cons_of_mem _ (List.mem_cons_self))
  have hl_b_Kind : b.Kind.size ≤ 9223372036854775807 := Bd.str (hb_b _ (by simp))
  have hl_b_Fields : b.Fields.length ≤ 9223372036854775807 := Bd.len (U := UU) (τ := .eVal) (xs := b.Fields) (hb_b _ (by simp))
  clear hp hb
  rw [vc_spec_SameFact a b]
  simp only [toList_beq]
  refine if_cond (fun h => Lf_b ?_) (fun h => Lf_b ?_) <;> (simp only [fact_ext]; grind)
def con_impl_SameFact : Con UU where
  α := DFact × DFact
  md := [.ro, .ro]
  of := fun | [.agg [.lit (.string a0), .sl .eVal a1], .agg [.lit (.string a2), .sl .eVal a3]] => some (⟨a0, a1⟩, ⟨a2, a3⟩) | _ => none
  ds := fun (a, b) => [.agg [.lit (.string a.Kind), .sl .eVal a.Fields], .agg [.lit (.string b.Kind), .sl .eVal b.Fields]]
  pre := fun (a, b) => []
  res := fun (a, b) => ⟨[.one (.lit (.bool (decide (a = b))))], true, []⟩
  law := by intro l x h; (try simp only at h); split at h <;> cases h; rfl
def ann_impl_SameFact : con_impl_SameFact.α → Nat → Option (Ann UU) := fun (a, b) => annL []
def use_impl_SameFact : List (FuncId × Con UU) := [(112, con_EqualVal)]
theorem vc_impl_SameFact (a : DFact) (b : DFact) : goal EE use_impl_SameFact Go.Proofs.Tryd.f105 con_impl_SameFact ann_impl_SameFact (a, b) = (bif ByteArray.toList a.Kind == ByteArray.toList b.Kind then Lf [DV.one (Cell.lit (Value.bool (decide (a.Fields = b.Fields))))] [DV.one (Cell.lit (Value.bool (decide (a = b))))] else Lf [DV.one (Cell.lit (Value.bool false))] [DV.one (Cell.lit (Value.bool (decide (a = b))))]) := by kernel_rfl
theorem ok_impl_SameFact : Holds EE (105, con_impl_SameFact) := by
  refine holds_of EE_ok Go.Proofs.Tryd.func105 con_impl_SameFact (by kernel_rfl) rfl use_impl_SameFact (all_cons ok_EqualVal all_nil) ann_impl_SameFact (fun x hp hb => ?_)
  obtain ⟨a, b⟩ := x
  have hb_a : BdDV (U := UU) (.agg [.lit (.string a.Kind), .sl .eVal a.Fields]) := hb _ (List.mem_cons_self)
  have hl_a_Kind : a.Kind.size ≤ 9223372036854775807 := Bd.str (hb_a _ (by simp))
  have hl_a_Fields : a.Fields.length ≤ 9223372036854775807 := Bd.len (U := UU) (τ := .eVal) (xs := a.Fields) (hb_a _ (by simp))
  have hb_b : BdDV (U := UU) (.agg [.lit (.string b.Kind), .sl .eVal b.Fields]) := hb _ (List.mem_cons_of_mem _ (List.mem_cons_self))
  have hl_b_Kind : b.Kind.size ≤ 9223372036854775807 := Bd.str (hb_b _ (by simp))
  have hl_b_Fields : b.Fields.length ≤ 9223372036854775807 := Bd.len (U := UU) (τ := .eVal) (xs := b.Fields) (hb_b _ (by simp))
  clear hp hb
  rw [vc_impl_SameFact a b]
  simp only [toList_beq]
  refine if_cond (fun h => Lf_b ?_) (fun h => Lf_b ?_) <;> (simp only [fact_ext]; grind)
def con_spec_l18Undo : Con UU where
  α := ByteArray
  md := [.ro]
  of := fun | [.one (.lit (.string a0))] => some a0 | _ => none
  ds := fun s => [.one (.lit (.string s))]
  pre := fun s => []
  res := fun s => ⟨[.one (.lit (.bool (undoOk s)))], true, []⟩
  law := by intro l x h; (try simp only at h); split at h <;> cases h; rfl
def ann_spec_l18Undo : con_spec_l18Undo.α → Nat → Option (Ann UU) := fun s => annL []
def use_spec_l18Undo : List (FuncId × Con UU) := [(39, con_spec_NameOk)]
theorem vc_spec_l18Undo (s : ByteArray) : goal EE use_spec_l18Undo Go.Proofs.Tryd.f101 con_spec_l18Undo ann_spec_l18Undo s = (bif ByteArray.toList s == ByteArray.toList { data := #[] : ByteArray } then Lf [DV.one (Cell.lit (Value.bool true))] [DV.one (Cell.lit (Value.bool (undoOk s)))] else Lf [DV.one (Cell.lit (Value.bool (nameOk s)))] [DV.one (Cell.lit (Value.bool (undoOk s)))]) := by kernel_rfl
theorem ok_spec_l18Undo : Holds EE (101, con_spec_l18Undo) := by
  refine holds_of EE_ok Go.Proofs.Tryd.func101 con_spec_l18Undo (by kernel_rfl) rfl use_spec_l18Undo (all_cons ok_spec_NameOk all_nil) ann_spec_l18Undo (fun (s : ByteArray) hp hb => ?_)
  have hb_s : BdDV (U := UU) (.one (.lit (.string s))) := hb _ (List.mem_cons_self)
  have hl_s : s.size ≤ 9223372036854775807 := Bd.str hb_s
  clear hp hb
  rw [vc_spec_l18Undo s]
  have e : (ByteArray.toList s == ByteArray.toList { data := #[] }) = decide (s = noBytes) := toList_beq _ _
  simp only [e, undoOk]
  refine if_cond (fun h => Lf_b ?_) (fun h => Lf_b ?_) <;> grind
def con_impl_isUndo : Con UU where
  α := ByteArray
  md := [.ro]
  of := fun | [.one (.lit (.string a0))] => some a0 | _ => none
  ds := fun s => [.one (.lit (.string s))]
  pre := fun s => []
  res := fun s => ⟨[.one (.lit (.bool (undoOk s)))], true, []⟩
  law := by intro l x h; (try simp only at h); split at h <;> cases h; rfl
def ann_impl_isUndo : con_impl_isUndo.α → Nat → Option (Ann UU) := fun s => annL []
def use_impl_isUndo : List (FuncId × Con UU) := [(47, con_impl_NameOk)]
theorem vc_impl_isUndo (s : ByteArray) : goal EE use_impl_isUndo Go.Proofs.Tryd.f103 con_impl_isUndo ann_impl_isUndo s = (bif ByteArray.toList s == ByteArray.toList { data := #[] : ByteArray } then Lf [DV.one (Cell.lit (Value.bool true))] [DV.one (Cell.lit (Value.bool (undoOk s)))] else Lf [DV.one (Cell.lit (Value.bool (nameOk s)))] [DV.one (Cell.lit (Value.bool (undoOk s)))]) := by kernel_rfl
theorem ok_impl_isUndo : Holds EE (103, con_impl_isUndo) := by
  refine holds_of EE_ok Go.Proofs.Tryd.func103 con_impl_isUndo (by kernel_rfl) rfl use_impl_isUndo (all_cons ok_impl_NameOk all_nil) ann_impl_isUndo (fun (s : ByteArray) hp hb => ?_)
  have hb_s : BdDV (U := UU) (.one (.lit (.string s))) := hb _ (List.mem_cons_self)
  have hl_s : s.size ≤ 9223372036854775807 := Bd.str hb_s
  clear hp hb
  rw [vc_impl_isUndo s]
  have e : (ByteArray.toList s == ByteArray.toList { data := #[] }) = decide (s = noBytes) := toList_beq _ _
  simp only [e, undoOk]
  refine if_cond (fun h => Lf_b ?_) (fun h => Lf_b ?_) <;> grind
def con_spec_l18Task : Con UU where
  α := DTask
  md := [.ro]
  of := fun | [.agg [.lit (.string a0), .sl .eVal a1, .lit (.string a2), .lit (.int .i64 a3), .lit (.int .i64 a4), .lit (.int .i64 a5), .lit (.int .i64 a6), .lit (.int .i64 a7), .lit (.string a8)]] => some ⟨⟨a0, a1⟩, a2, a3, a4, a5, ⟨a6, a7, a8⟩⟩ | _ => none
  ds := fun t => [.agg [.lit (.string t.F.Kind), .sl .eVal t.F.Fields, .lit (.string t.Undo), .lit (.int .i64 t.State), .lit (.int .i64 t.Tries), .lit (.int .i64 t.Due), .lit (.int .i64 t.V.K), .lit (.int .i64 t.V.N), .lit (.string t.V.S)]]
  pre := fun t => []
  res := fun t => ⟨[.one (.lit (.bool (taskOk t)))], true, []⟩
  law := by intro l x h; (try simp only at h); split at h <;> cases h; rfl
def ann_spec_l18Task : con_spec_l18Task.α → Nat → Option (Ann UU) := fun t => annL []
def use_spec_l18Task : List (FuncId × Con UU) := [(38, con_spec_FactOk), (101, con_spec_l18Undo), (65, con_spec_l1In), (59, con_spec_ValOk)]
theorem vc_spec_l18Task (t : DTask) : goal EE use_spec_l18Task Go.Proofs.Tryd.f85 con_spec_l18Task ann_spec_l18Task t = (bif !factOk t.F then Lf [DV.one (Cell.lit (Value.bool false))] [DV.one (Cell.lit (Value.bool (taskOk t)))] else bif !undoOk t.Undo then Lf [DV.one (Cell.lit (Value.bool false))] [DV.one (Cell.lit (Value.bool (taskOk t)))] else bif !decide ((1 : Int) ≤ t.State ∧ t.State ≤ (4 : Int)) then Lf [DV.one (Cell.lit (Value.bool false))] [DV.one (Cell.lit (Value.bool (taskOk t)))] else bif !decide ((0 : Int) ≤ t.Tries ∧ t.Tries ≤ (4 : Int)) then Lf [DV.one (Cell.lit (Value.bool false))] [DV.one (Cell.lit (Value.bool (taskOk t)))] else bif !decide ((0 : Int) ≤ t.Due ∧ t.Due ≤ (1000001000 : Int)) then Lf [DV.one (Cell.lit (Value.bool false))] [DV.one (Cell.lit (Value.bool (taskOk t)))] else bif !(t.V.K == (0 : Int) && (t.V.N == (0 : Int) && (ByteArray.toList t.V.S == ByteArray.toList { data := #[] : ByteArray } && true))) then bif !valOk t.V then Lf [DV.one (Cell.lit (Value.bool false))] [DV.one (Cell.lit (Value.bool (taskOk t)))] else bif t.State != (1 : Int) then bif t.State != (2 : Int) then Lf [DV.one (Cell.lit (Value.bool true))] [DV.one (Cell.lit (Value.bool (taskOk t)))] else Lf [DV.one (Cell.lit (Value.bool ((t.State == (1 : Int)) == (t.Tries == (0 : Int)))))] [DV.one (Cell.lit (Value.bool (taskOk t)))] else Lf [DV.one (Cell.lit (Value.bool ((t.State == (1 : Int)) == (t.Tries == (0 : Int)))))] [DV.one (Cell.lit (Value.bool (taskOk t)))] else bif t.State != (1 : Int) then bif t.State != (2 : Int) then Lf [DV.one (Cell.lit (Value.bool true))] [DV.one (Cell.lit (Value.bool (taskOk t)))] else Lf [DV.one (Cell.lit (Value.bool ((t.State == (1 : Int)) == (t.Tries == (0 : Int)))))] [DV.one (Cell.lit (Value.bool (taskOk t)))] else Lf [DV.one (Cell.lit (Value.bool ((t.State == (1 : Int)) == (t.Tries == (0 : Int)))))] [DV.one (Cell.lit (Value.bool (taskOk t)))]) := by kernel_rfl
theorem ok_spec_l18Task : Holds EE (85, con_spec_l18Task) := by
  refine holds_of EE_ok Go.Proofs.Tryd.func85 con_spec_l18Task (by kernel_rfl) rfl use_spec_l18Task (all_cons ok_spec_FactOk (all_cons ok_spec_l18Undo (all_cons ok_spec_l1In (all_cons ok_spec_ValOk all_nil)))) ann_spec_l18Task (fun (t : DTask) hp hb => ?_)
  have hb_t : BdDV (U := UU) (.agg [.lit (.string t.F.Kind), .sl .eVal t.F.Fields, .lit (.string t.Undo), .lit (.int .i64 t.State), .lit (.int .i64 t.Tries), .lit (.int .i64 t.Due), .lit (.int .i64 t.V.K), .lit (.int .i64 t.V.N), .lit (.string t.V.S)]) := hb _ (List.mem_cons_self)
  have hl_t_F_Kind : t.F.Kind.size ≤ 9223372036854775807 := Bd.str (hb_t _ (by simp))
  have hl_t_F_Fields : t.F.Fields.length ≤ 9223372036854775807 := Bd.len (U := UU) (τ := .eVal) (xs := t.F.Fields) (hb_t _ (by simp))
  have hl_t_Undo : t.Undo.size ≤ 9223372036854775807 := Bd.str (hb_t _ (by simp))
  have hl_t_V_S : t.V.S.size ≤ 9223372036854775807 := Bd.str (hb_t _ (by simp))
  clear hp hb
  rw [vc_spec_l18Task t]
  have e : ∀ v : DVal, (v.K == 0 && (v.N == 0 && (ByteArray.toList v.S == ByteArray.toList { data := #[] } && true))) = decide (v = zVal) := fun v => val_beq v zVal
  simp only [e]
  simp only [taskOk]
  repeat' (refine if_cond (fun h => ?_) (fun h => ?_))
  all_goals (refine Lf_b ?_; grind)
def con_impl_taskOk : Con UU where
  α := DTask
  md := [.ro]
  of := fun | [.agg [.lit (.string a0), .sl .eVal a1, .lit (.string a2), .lit (.int .i64 a3), .lit (.int .i64 a4), .lit (.int .i64 a5), .lit (.int .i64 a6), .lit (.int .i64 a7), .lit (.string a8)]] => some ⟨⟨a0, a1⟩, a2, a3, a4, a5, ⟨a6, a7, a8⟩⟩ | _ => none
  ds := fun t => [.agg [.lit (.string t.F.Kind), .sl .eVal t.F.Fields, .lit (.string t.Undo), .lit (.int .i64 t.State), .lit (.int .i64 t.Tries), .lit (.int .i64 t.Due), .lit (.int .i64 t.V.K), .lit (.int .i64 t.V.N), .lit (.string t.V.S)]]
  pre := fun t => []
  res := fun t => ⟨[.one (.lit (.bool (taskOk t)))], true, []⟩
  law := by intro l x h; (try simp only at h); split at h <;> cases h; rfl
def ann_impl_taskOk : con_impl_taskOk.α → Nat → Option (Ann UU) := fun t => annL []
def use_impl_taskOk : List (FuncId × Con UU) := [(46, con_impl_FactOk), (103, con_impl_isUndo), (93, con_impl_inRange), (64, con_impl_ValOk)]
theorem vc_impl_taskOk (t : DTask) : goal EE use_impl_taskOk Go.Proofs.Tryd.f91 con_impl_taskOk ann_impl_taskOk t = (bif !factOk t.F then Lf [DV.one (Cell.lit (Value.bool false))] [DV.one (Cell.lit (Value.bool (taskOk t)))] else bif !undoOk t.Undo then Lf [DV.one (Cell.lit (Value.bool false))] [DV.one (Cell.lit (Value.bool (taskOk t)))] else bif !decide ((1 : Int) ≤ t.State ∧ t.State ≤ (4 : Int)) then Lf [DV.one (Cell.lit (Value.bool false))] [DV.one (Cell.lit (Value.bool (taskOk t)))] else bif !decide ((0 : Int) ≤ t.Tries ∧ t.Tries ≤ (4 : Int)) then Lf [DV.one (Cell.lit (Value.bool false))] [DV.one (Cell.lit (Value.bool (taskOk t)))] else bif t.State == (1 : Int) then bif t.Tries != (0 : Int) then Lf [DV.one (Cell.lit (Value.bool false))] [DV.one (Cell.lit (Value.bool (taskOk t)))] else bif t.State == (2 : Int) then bif t.Tries == (0 : Int) then Lf [DV.one (Cell.lit (Value.bool false))] [DV.one (Cell.lit (Value.bool (taskOk t)))] else bif decide ((0 : Int) ≤ t.Due ∧ t.Due ≤ (1000001000 : Int)) then bif t.V.K == (0 : Int) && (t.V.N == (0 : Int) && (ByteArray.toList t.V.S == ByteArray.toList { data := #[] : ByteArray } && true)) then Lf [DV.one (Cell.lit (Value.bool true))] [DV.one (Cell.lit (Value.bool (taskOk t)))] else Lf [DV.one (Cell.lit (Value.bool (valOk t.V)))] [DV.one (Cell.lit (Value.bool (taskOk t)))] else Lf [DV.one (Cell.lit (Value.bool false))] [DV.one (Cell.lit (Value.bool (taskOk t)))] else bif decide ((0 : Int) ≤ t.Due ∧ t.Due ≤ (1000001000 : Int)) then bif t.V.K == (0 : Int) && (t.V.N == (0 : Int) && (ByteArray.toList t.V.S == ByteArray.toList { data := #[] : ByteArray } && true)) then Lf [DV.one (Cell.lit (Value.bool true))] [DV.one (Cell.lit (Value.bool (taskOk t)))] else Lf [DV.one (Cell.lit (Value.bool (valOk t.V)))] [DV.one (Cell.lit (Value.bool (taskOk t)))] else Lf [DV.one (Cell.lit (Value.bool false))] [DV.one (Cell.lit (Value.bool (taskOk t)))] else bif t.State == (2 : Int) then bif t.Tries == (0 : Int) then Lf [DV.one (Cell.lit (Value.bool false))] [DV.one (Cell.lit (Value.bool (taskOk t)))] else bif decide ((0 : Int) ≤ t.Due ∧ t.Due ≤ (1000001000 : Int)) then bif t.V.K == (0 : Int) && (t.V.N == (0 : Int) && (ByteArray.toList t.V.S == ByteArray.toList { data := #[] : ByteArray } && true)) then Lf [DV.one (Cell.lit (Value.bool true))] [DV.one (Cell.lit (Value.bool (taskOk t)))] else Lf [DV.one (Cell.lit (Value.bool (valOk t.V)))] [DV.one (Cell.lit (Value.bool (taskOk t)))] else Lf [DV.one (Cell.lit (Value.bool false))] [DV.one (Cell.lit (Value.bool (taskOk t)))] else bif decide ((0 : Int) ≤ t.Due ∧ t.Due ≤ (1000001000 : Int)) then bif t.V.K == (0 : Int) && (t.V.N == (0 : Int) && (ByteArray.toList t.V.S == ByteArray.toList { data := #[] : ByteArray } && true)) then Lf [DV.one (Cell.lit (Value.bool true))] [DV.one (Cell.lit (Value.bool (taskOk t)))] else Lf [DV.one (Cell.lit (Value.bool (valOk t.V)))] [DV.one (Cell.lit (Value.bool (taskOk t)))] else Lf [DV.one (Cell.lit (Value.bool false))] [DV.one (Cell.lit (Value.bool (taskOk t)))]) := by kernel_rfl
theorem ok_impl_taskOk : Holds EE (91, con_impl_taskOk) := by
  refine holds_of EE_ok Go.Proofs.Tryd.func91 con_impl_taskOk (by kernel_rfl) rfl use_impl_taskOk (all_cons ok_impl_FactOk (all_cons ok_impl_isUndo (all_cons ok_impl_inRange (all_cons ok_impl_ValOk all_nil)))) ann_impl_taskOk (fun (t : DTask) hp hb => ?_)
  have hb_t : BdDV (U := UU) (.agg [.lit (.string t.F.Kind), .sl .eVal t.F.Fields, .lit (.string t.Undo), .lit (.int .i64 t.State), .lit (.int .i64 t.Tries), .lit (.int .i64 t.Due), .lit (.int .i64 t.V.K), .lit (.int .i64 t.V.N), .lit (.string t.V.S)]) := hb _ (List.mem_cons_self)
  have hl_t_F_Kind : t.F.Kind.size ≤ 9223372036854775807 := Bd.str (hb_t _ (by simp))
  have hl_t_F_Fields : t.F.Fields.length ≤ 9223372036854775807 := Bd.len (U := UU) (τ := .eVal) (xs := t.F.Fields) (hb_t _ (by simp))
  have hl_t_Undo : t.Undo.size ≤ 9223372036854775807 := Bd.str (hb_t _ (by simp))
  have hl_t_V_S : t.V.S.size ≤ 9223372036854775807 := Bd.str (hb_t _ (by simp))
  clear hp hb
  rw [vc_impl_taskOk t]
  have e : ∀ v : DVal, (v.K == 0 && (v.N == 0 && (ByteArray.toList v.S == ByteArray.toList { data := #[] } && true))) = decide (v = zVal) := fun v => val_beq v zVal
  simp only [e]
  simp only [taskOk]
  repeat' (refine if_cond (fun h => ?_) (fun h => ?_))
  all_goals (refine Lf_b ?_; grind)
end
end AM
