/- Functions of the program with their contracts: written by gen/fn.py out of u1.fn. -/
import Derived.Test.YtdpgbnahacdkeaaAmLib
import Derived.Test.YtdpgbnahacdkeaaAmModels
namespace AM
open Go
set_option linter.unusedVariables false
set_option linter.unusedSimpArgs false
set_option maxRecDepth 100000
noncomputable section
def con_laws_markText : Con UU where
  α := Int
  md := [.ro]
  of := fun | [.one (.lit (.int .i64 a0))] => some a0 | _ => none
  ds := fun k => [.one (.lit (.int .i64 k))]
  pre := fun k => [k ≤ 4611686018427387903]
  res := fun k => ⟨[.one (.lit (.string (markText k)))], true, []⟩
  law := by intro l x h; (try simp only at h); split at h <;> cases h; rfl
def I_laws_markText_4 (k : Int) : Int × ByteArray × Unit → Prop := fun (j, out, _) => 0 ≤ j ∧ j ≤ k ∧ (∃ l d, out = ⟨l.toArray⟩ ∧ j.toNat ≤ d ∧ mtl d j.toNat l = mtl k.toNat k.toNat [] ∧ l.length ≤ k - j)
def μ_laws_markText_4 (k : Int) : Int × ByteArray × Unit → Nat := fun (j, out, _) => j.toNat
def ann_laws_markText : con_laws_markText.α → Nat → Option (Ann UU) := fun k => annL [(4, annOf [.slot 0 (0, 1024) (.lit (.int .i64)), .slot 3 (3, 1024) (.lit .str)] (fun _ => I_laws_markText_4 k) (μ_laws_markText_4 k))]
def use_laws_markText : List (FuncId × Con UU) := []
theorem vc_laws_markText (k : Int) : goal EE use_laws_markText Go.Proofs.Try.f89 con_laws_markText ann_laws_markText k = (bif decide (k ≤ (0 : Int)) then Lf [DV.one (Cell.lit (Value.string { data := #[(109 : UInt8), (48 : UInt8)] }))] [DV.one (Cell.lit (Value.string (markText k)))] else I_laws_markText_4 k (k, { data := #[] }, PUnit.unit) ∧ ∀ (y : Int × ByteArray × PUnit), I_laws_markText_4 k y → bif decide (y.1 > (0 : Int)) then (10 : Int) ≠ (0 : Int) ∧ ByteArray.size (strOfNums (List.map (fun (x : Cd.T Cd.byte) => x) [IntKind.wrap IntKind.u8 (IntKind.wrap IntKind.i64 ((48 : Int) + Int.tmod y.1 (10 : Int)))])) + ByteArray.size y.2.1 ≤ (4611686018427387904 : Nat) ∧ (10 : Int) ≠ (0 : Int) ∧ I_laws_markText_4 k (IntKind.wrap IntKind.i64 (Int.tdiv y.1 (10 : Int)), strOfNums (List.map (fun (x : Cd.T Cd.byte) => x) [IntKind.wrap IntKind.u8 (IntKind.wrap IntKind.i64 ((48 : Int) + Int.tmod y.1 (10 : Int)))]) ++ y.2.1, PUnit.unit) ∧ μ_laws_markText_4 k (IntKind.wrap IntKind.i64 (Int.tdiv y.1 (10 : Int)), strOfNums (List.map (fun (x : Cd.T Cd.byte) => x) [IntKind.wrap IntKind.u8 (IntKind.wrap IntKind.i64 ((48 : Int) + Int.tmod y.1 (10 : Int)))]) ++ y.2.1, PUnit.unit) < μ_laws_markText_4 k y else ByteArray.size { data := #[(109 : UInt8)] } + ByteArray.size y.2.1 ≤ (4611686018427387904 : Nat) ∧ Lf [DV.one (Cell.lit (Value.string ({ data := #[(109 : UInt8)] } ++ y.2.1)))] [DV.one (Cell.lit (Value.string (markText k)))]) := by kernel_rfl
theorem ok_laws_markText : Holds EE (89, con_laws_markText) := by
  refine holds_of EE_ok Go.Proofs.Try.func89 con_laws_markText (by kernel_rfl) rfl use_laws_markText all_nil ann_laws_markText (fun (k : Int) hp hb => ?_)
  have hb_k : BdDV (U := UU) (.one (.lit (.int .i64 k))) := hb _ (List.mem_cons_self)
  have hl_k := Bd.i64 hb_k
  have hp0 : k ≤ 4611686018427387903 := hp _ (List.mem_cons_self)
  clear hp hb
  rw [vc_laws_markText k]
  refine if_cond (fun h => Lf_s ?_) (fun h => ?_)
  · have h := of_decide_eq_true h; simp only [markText]; rw [if_pos h]
  have h0 := of_decide_eq_false h
  refine ⟨⟨by omega, by omega, [], k.toNat, rfl, Nat.le_refl _, rfl, by simp⟩, ?_⟩
  rintro ⟨j, out, ⟨⟩⟩ ⟨h1, h2, l, d, rfl, hd, hm, hl⟩
  simp only
  have hz : ∀ l : List UInt8, (ByteArray.mk l.toArray).size = l.length := fun l => by simp [ByteArray.size]
  refine if_cond (fun h => ?_) (fun h => ?_)
  · have h := of_decide_eq_true h
    have ht : Int.tmod j 10 = j % 10 := Int.tmod_eq_emod_of_nonneg h1
    have hq : Int.tdiv j 10 = j / 10 := Int.tdiv_eq_ediv_of_nonneg h1
    have hu : IntKind.wrap .u8 (48 + j % 10) = 48 + j % 10 := by simp only [IntKind.wrap]; simp [IntKind.bits, IntKind.signed]; omega
    rw [ht, hq, wrap_i64 (by omega) (by omega), wrap_i64 (by omega) (by omega), hu]
    have hs : ∀ l : List UInt8, strOfNums (List.map (fun (x : Int) => x) [48 + j % 10]) ++ (⟨l.toArray⟩ : ByteArray) = ⟨((UInt8.ofNat (48 + j.toNat % 10)) :: l).toArray⟩ := fun l => by
      have e : (48 + j % 10).toNat = 48 + j.toNat % 10 := by omega
      simp only [strOfNums, List.map_cons, List.map_nil, e]
      apply ByteArray.ext
      simp
    have hs1 : (strOfNums (List.map (fun (x : Int) => x) [48 + j % 10])).size = 1 := rfl
    refine ⟨by omega, by erw [hs1]; rw [hz]; omega, by omega, ⟨by omega, by omega, _, d - 1, hs l, by omega, ?_, by simp only [List.length_cons]; omega⟩, by simp only [μ_laws_markText_4]; omega⟩
    rw [← hm]
    obtain ⟨d, rfl⟩ : ∃ e, d = e + 1 := ⟨d - 1, by omega⟩
    have e : (j / 10).toNat = j.toNat / 10 := by omega
    rw [e]
    simp only [Nat.add_sub_cancel, mtl]
    rw [if_neg (by omega)]
  · have h := of_decide_eq_false h
    have hj : j.toNat = 0 := by omega
    rw [hj, mtl_zero] at hm
    refine ⟨by rw [hz]; simp [ByteArray.size]; omega, Lf_s ?_⟩
    simp only [markText]
    rw [if_neg h0, ← hm]
    apply ByteArray.ext
    simp
def con_laws_szIntS : Con UU where
  α := (List Int) × Int
  md := [.ro, .ro]
  of := fun | [.one (.sl .int a0), .one (.lit (.int .i64 a1))] => some (a0, a1) | _ => none
  ds := fun (a, left) => [.one (.sl .int a), .one (.lit (.int .i64 left))]
  pre := fun (a, left) => [0 ≤ left]
  res := fun (a, left) => ⟨[.one (.lit (.int .i64 (szr left (sizeIntS a))))], true, []⟩
  law := by intro l x h; (try simp only at h); split at h <;> cases h; rfl
def ann_laws_szIntS : con_laws_szIntS.α → Nat → Option (Ann UU) := fun (a, left) => annL []
def use_laws_szIntS : List (FuncId × Con UU) := []
theorem vc_laws_szIntS (a : (List Int)) (left : Int) : goal EE use_laws_szIntS Go.Proofs.Try.f187 con_laws_szIntS ann_laws_szIntS (a, left) = (bif decide (IntKind.wrap IntKind.i64 (left - (↑(List.length a) : Int)) < (0 : Int)) then Lf [DV.one (Cell.lit (Value.int IntKind.i64 (-1 : Int)))] [DV.one (Cell.lit (Value.int IntKind.i64 (szr left (sizeIntS a))))] else Lf [DV.one (Cell.lit (Value.int IntKind.i64 (IntKind.wrap IntKind.i64 (left - (↑(List.length a) : Int)))))] [DV.one (Cell.lit (Value.int IntKind.i64 (szr left (sizeIntS a))))]) := by kernel_rfl
theorem ok_laws_szIntS : Holds EE (187, con_laws_szIntS) := by
  refine holds_of EE_ok Go.Proofs.Try.func187 con_laws_szIntS (by kernel_rfl) rfl use_laws_szIntS all_nil ann_laws_szIntS (fun x hp hb => ?_)
  obtain ⟨a, left⟩ := x
  have hb_a : BdDV (U := UU) (.one (.sl .int a)) := hb _ (List.mem_cons_self)
  have hl_a : a.length ≤ 9223372036854775807 := Bd.len hb_a
  have hb_left : BdDV (U := UU) (.one (.lit (.int .i64 left))) := hb _ (List.mem_cons_of_mem _ (List.mem_cons_self))
  have hl_left := Bd.i64 hb_left
  have hp0 : 0 ≤ left := hp _ (List.mem_cons_self)
  clear hp hb
  rw [vc_laws_szIntS a left]
  rw [wrap_i64 (by omega) (by omega)]
  refine if_cond (fun h => Lf_i (szr_bad' ?_)) (fun h => ?_)
  · have h := of_decide_eq_true h; simp only [sizeIntS]; omega
  have h := of_decide_eq_false h
  exact Lf_i (by rw [← szr_ok' (by simp only [sizeIntS]; omega)]; simp only [sizeIntS])
def con_laws_toIntS : Con UU where
  α := (List Int)
  md := [.ro]
  of := fun | [.one (.sl .int a0)] => some a0 | _ => none
  ds := fun a => [.one (.sl .int a)]
  pre := fun a => [sizeIntS a ≤ 4294967296]
  res := fun a => ⟨[.one (.sl .int a)], true, []⟩
  law := by intro l x h; (try simp only at h); split at h <;> cases h; rfl
def I_laws_toIntS_3 (a : (List Int)) : List Int × Int × Unit → Prop := fun (out, i, _) => 0 ≤ i ∧ i ≤ a.length ∧ out = a.take i.toNat ++ List.replicate (a.length - i.toNat) (0 : Int)
def μ_laws_toIntS_3 (a : (List Int)) : List Int × Int × Unit → Nat := fun (out, i, _) => a.length - i.toNat
def ann_laws_toIntS : con_laws_toIntS.α → Nat → Option (Ann UU) := fun a => annL [(3, annOf [.slot 3 (3, 1024) (.own .int true), .slot 4 (4, 1024) (.lit (.int .i64))] (fun _ => I_laws_toIntS_3 a) (μ_laws_toIntS_3 a))]
def use_laws_toIntS : List (FuncId × Con UU) := []
theorem vc_laws_toIntS (a : (List Int)) : goal EE use_laws_toIntS Go.Proofs.Try.f190 con_laws_toIntS ann_laws_toIntS a = ((0 : Int) ≤ (↑(List.length a) : Int) ∧ (↑(List.length a) : Int) = (↑(List.length a) : Int) ∧ (↑(List.length a) : Int) ≤ (4294967296 : Int) ∧ I_laws_toIntS_3 a (List.replicate (Int.toNat (↑(List.length a) : Int)) (0 : Int), (0 : Int), PUnit.unit) ∧ ∀ (y : List Int × Int × PUnit), I_laws_toIntS_3 a y → bif decide (y.2.1 < (↑(List.length a) : Int)) then (0 : Int) ≤ y.2.1 ∧ Int.toNat y.2.1 < List.length a ∧ (0 : Int) ≤ y.2.1 ∧ Int.toNat y.2.1 < List.length y.1 ∧ Int.toNat y.2.1 < List.length y.1 ∧ I_laws_toIntS_3 a (List.set y.1 (Int.toNat y.2.1) (List.getD a (Int.toNat y.2.1) (0 : Int)), IntKind.wrap IntKind.i64 (y.2.1 + (1 : Int)), PUnit.unit) ∧ μ_laws_toIntS_3 a (List.set y.1 (Int.toNat y.2.1) (List.getD a (Int.toNat y.2.1) (0 : Int)), IntKind.wrap IntKind.i64 (y.2.1 + (1 : Int)), PUnit.unit) < μ_laws_toIntS_3 a y else Lf [DV.one (Cell.sl Cd.int y.1)] [DV.one (Cell.sl Cd.int a)]) := by kernel_rfl
theorem ok_laws_toIntS : Holds EE (190, con_laws_toIntS) := by
  refine holds_of EE_ok Go.Proofs.Try.func190 con_laws_toIntS (by kernel_rfl) rfl use_laws_toIntS all_nil ann_laws_toIntS (fun (a : (List Int)) hp hb => ?_)
  have hb_a : BdDV (U := UU) (.one (.sl .int a)) := hb _ (List.mem_cons_self)
  have hl_a : a.length ≤ 9223372036854775807 := Bd.len hb_a
  have hp0 : sizeIntS a ≤ 4294967296 := hp _ (List.mem_cons_self)
  clear hp hb
  rw [vc_laws_toIntS a]
  have hlen : a.length ≤ 4294967296 := by simp only [sizeIntS] at hp0; omega
  refine ⟨by omega, rfl, by omega, ?_, ?_⟩
  · simp [I_laws_toIntS_3]
  rintro ⟨out, i, ⟨⟩⟩ ⟨h1, h2, rfl⟩
  simp only at *
  refine if_cond (fun hc => ?_) (fun hc => ?_)
  · have hc : i < a.length := by simpa using hc
    rw [wrap_i64 (by omega) (by omega), set_fill a (0 : Int) h1 hc]
    exact ⟨h1, by omega, h1, by simp; omega, by simp; omega, ⟨by omega, by omega, rfl⟩, by simp only [μ_laws_toIntS_3]; omega⟩
  · have hc : a.length ≤ i := by simpa using hc
    have e : i.toNat = a.length := by omega
    rw [e]; simp; exact Lf_rfl _
def con_laws_eqIntS : Con UU where
  α := (List Int) × (List Int)
  md := [.ro, .ro]
  of := fun | [.one (.sl .int a0), .one (.sl .int a1)] => some (a0, a1) | _ => none
  ds := fun (a, b) => [.one (.sl .int a), .one (.sl .int b)]
  pre := fun (a, b) => []
  res := fun (a, b) => ⟨[.one (.lit (.bool (decide (a = b))))], true, []⟩
  law := by intro l x h; (try simp only at h); split at h <;> cases h; rfl
def I_laws_eqIntS_4 (a : (List Int)) (b : (List Int)) : Int × Unit → Prop := fun (i, _) => 0 ≤ i ∧ i ≤ a.length ∧ a.length = b.length ∧ (a.drop i.toNat = b.drop i.toNat ↔ a = b)
def μ_laws_eqIntS_4 (a : (List Int)) (b : (List Int)) : Int × Unit → Nat := fun (i, _) => a.length - i.toNat
def ann_laws_eqIntS : con_laws_eqIntS.α → Nat → Option (Ann UU) := fun (a, b) => annL [(4, annOf [.slot 5 (5, 1024) (.lit (.int .i64))] (fun _ => I_laws_eqIntS_4 a b) (μ_laws_eqIntS_4 a b))]
def use_laws_eqIntS : List (FuncId × Con UU) := []
theorem vc_laws_eqIntS (a : (List Int)) (b : (List Int)) : goal EE use_laws_eqIntS Go.Proofs.Try.f184 con_laws_eqIntS ann_laws_eqIntS (a, b) = (bif (↑(List.length a) : Int) != (↑(List.length b) : Int) then Lf [DV.one (Cell.lit (Value.bool false))] [DV.one (Cell.lit (Value.bool (decide (a = b))))] else I_laws_eqIntS_4 a b ((0 : Int), PUnit.unit) ∧ ∀ (y : Int × PUnit), I_laws_eqIntS_4 a b y → bif decide (y.1 < (↑(List.length a) : Int)) then (0 : Int) ≤ y.1 ∧ Int.toNat y.1 < List.length a ∧ (0 : Int) ≤ y.1 ∧ Int.toNat y.1 < List.length b ∧ bif List.getD a (Int.toNat y.1) (0 : Int) != List.getD b (Int.toNat y.1) (0 : Int) then Lf [DV.one (Cell.lit (Value.bool false))] [DV.one (Cell.lit (Value.bool (decide (a = b))))] else I_laws_eqIntS_4 a b (IntKind.wrap IntKind.i64 (y.1 + (1 : Int)), PUnit.unit) ∧ μ_laws_eqIntS_4 a b (IntKind.wrap IntKind.i64 (y.1 + (1 : Int)), PUnit.unit) < μ_laws_eqIntS_4 a b y else Lf [DV.one (Cell.lit (Value.bool true))] [DV.one (Cell.lit (Value.bool (decide (a = b))))]) := by kernel_rfl
theorem ok_laws_eqIntS : Holds EE (184, con_laws_eqIntS) := by
  refine holds_of EE_ok Go.Proofs.Try.func184 con_laws_eqIntS (by kernel_rfl) rfl use_laws_eqIntS all_nil ann_laws_eqIntS (fun x hp hb => ?_)
  obtain ⟨a, b⟩ := x
  have hb_a : BdDV (U := UU) (.one (.sl .int a)) := hb _ (List.mem_cons_self)
  have hl_a : a.length ≤ 9223372036854775807 := Bd.len hb_a
  have hb_b : BdDV (U := UU) (.one (.sl .int b)) := hb _ (List.mem_cons_of_mem _ (List.mem_cons_self))
  have hl_b : b.length ≤ 9223372036854775807 := Bd.len hb_b
  clear hp hb
  rw [vc_laws_eqIntS a b]
  refine if_cond (fun h => Lf_f ?_) (fun h => ⟨?_, ?_⟩)
  · rintro rfl; simp at h
  · simp [I_laws_eqIntS_4] at *; omega
  rintro ⟨i, ⟨⟩⟩ ⟨h1, h2, h3, hR⟩
  simp only at *
  refine if_cond (fun hc => ?_) (fun hc => ?_)
  · have hc : i < a.length := by simpa using hc
    rw [drop_step a (0 : Int) h1 hc, drop_step b (0 : Int) h1 (by omega)] at hR
    rw [wrap_i64 (by omega) (by omega)]
    refine ⟨by omega, by omega, by omega, by omega, if_cond (fun h => Lf_f ?_) (fun h => ⟨⟨by omega, by omega, h3, ?_⟩, ?_⟩)⟩
    · rw [← hR]; simp at h; simp [h]
    · rw [← hR]; simp at h; simp [h]
    · simp only [μ_laws_eqIntS_4]; omega
  · have hc : a.length ≤ i := by simpa using hc
    rw [drop_end a hc, drop_end b (by omega)] at hR
    exact Lf_t (hR.1 rfl)
def con_laws_markIntS : Con UU where
  α := (List Int) × Int
  md := [.wr, .ro]
  of := fun | [.one (.sl .int a0), .one (.lit (.int .i64 a1))] => some (a0, a1) | _ => none
  ds := fun (a, k) => [.one (.sl .int a), .one (.lit (.int .i64 k))]
  pre := fun (a, k) => [0 ≤ k, k + cntIntS a ≤ 4611686018427387904]
  res := fun (a, k) => ⟨[.one (.lit (.int .i64 (k + cntIntS a)))], true, [.one (.sl .int (markIntS a k))]⟩
  law := by intro l x h; (try simp only at h); split at h <;> cases h; rfl
def I_laws_markIntS_2 (a : (List Int)) (k : Int) : List Int × Int × Int × Unit → Prop := fun (row, kk, i, _) => 0 ≤ i ∧ i ≤ a.length ∧ row = (mkS (fun _ k => k) (fun _ => 1) a k).take i.toNat ++ a.drop i.toNat ∧ kk = k + ctS (fun _ => 1) (a.take i.toNat)
def μ_laws_markIntS_2 (a : (List Int)) (k : Int) : List Int × Int × Int × Unit → Nat := fun (row, kk, i, _) => a.length - i.toNat
def ann_laws_markIntS : con_laws_markIntS.α → Nat → Option (Ann UU) := fun (a, k) => annL [(2, annOf [.slot 0 (2000000, 0) (.own .int true), .slot 1 (1, 1024) (.lit (.int .i64)), .slot 5 (5, 1024) (.lit (.int .i64))] (fun _ => I_laws_markIntS_2 a k) (μ_laws_markIntS_2 a k))]
def use_laws_markIntS : List (FuncId × Con UU) := []
theorem vc_laws_markIntS (a : (List Int)) (k : Int) : goal EE use_laws_markIntS Go.Proofs.Try.f164 con_laws_markIntS ann_laws_markIntS (a, k) = (I_laws_markIntS_2 a k (a, k, (0 : Int), PUnit.unit) ∧ ∀ (y : List Int × Int × Int × PUnit), I_laws_markIntS_2 a k y → bif decide (y.2.2.1 < (↑(List.length y.1) : Int)) then (0 : Int) ≤ y.2.2.1 ∧ Int.toNat y.2.2.1 < List.length y.1 ∧ Int.toNat y.2.2.1 < List.length y.1 ∧ I_laws_markIntS_2 a k (List.set y.1 (Int.toNat y.2.2.1) y.2.1, IntKind.wrap IntKind.i64 (y.2.1 + (1 : Int)), IntKind.wrap IntKind.i64 (y.2.2.1 + (1 : Int)), PUnit.unit) ∧ μ_laws_markIntS_2 a k (List.set y.1 (Int.toNat y.2.2.1) y.2.1, IntKind.wrap IntKind.i64 (y.2.1 + (1 : Int)), IntKind.wrap IntKind.i64 (y.2.2.1 + (1 : Int)), PUnit.unit) < μ_laws_markIntS_2 a k y else asD [DV.one (Cell.lit (Value.int IntKind.i64 y.2.1))] = asD [DV.one (Cell.lit (Value.int IntKind.i64 (k + (↑(cntIntS a) : Int))))] ∧ asD [DV.one (Cell.sl Cd.int y.1)] = asD [DV.one (Cell.sl Cd.int (markIntS a k))]) := by kernel_rfl
theorem ok_laws_markIntS : Holds EE (164, con_laws_markIntS) := by
  refine holds_of EE_ok Go.Proofs.Try.func164 con_laws_markIntS (by kernel_rfl) rfl use_laws_markIntS all_nil ann_laws_markIntS (fun x hp hb => ?_)
  obtain ⟨a, k⟩ := x
  have hb_a : BdDV (U := UU) (.one (.sl .int a)) := hb _ (List.mem_cons_self)
  have hl_a : a.length ≤ 9223372036854775807 := Bd.len hb_a
  have hb_k : BdDV (U := UU) (.one (.lit (.int .i64 k))) := hb _ (List.mem_cons_of_mem _ (List.mem_cons_self))
  have hl_k := Bd.i64 hb_k
  have hp0 : 0 ≤ k := hp _ (List.mem_cons_self)
  have hp1 : k + cntIntS a ≤ 4611686018427387904 := hp _ (List.mem_cons_of_mem _ (List.mem_cons_self))
  clear hp hb
  rw [vc_laws_markIntS a k]
  refine ⟨⟨by omega, by omega, by simp, by simp [ctS]⟩, ?_⟩
  rintro ⟨row, kk, i, ⟨⟩⟩ ⟨h1, h2, rfl, rfl⟩
  simp only
  have hl := mk_rl (fun _ k => k) (fun _ => 1) a k h1 h2
  refine if_cond (fun hc => ?_) (fun hc => ?_)
  · have hc : i < a.length := by have hc := of_decide_eq_true hc; omega
    have hct := ctS_take (fun _ => 1) a (0 : Int) h1 hc
    have hle := ctS_take_le (fun _ => 1) a (i + 1).toNat
    have hg := mk_getD _ a (0 : Int) (mk_tl (fun _ k => k) (fun _ => 1) a k h1 h2) h1 hc
    have hM := mkS_step (fun _ k => k) (fun _ => 1) a (0 : Int) k h1 hc
    have hq : (cntIntS a : Int) = ctS (fun _ => 1) a := rfl
    generalize List.getD a i.toNat (0 : Int) = x at *
    generalize hkk : k + (ctS (fun _ => 1) (a.take i.toNat) : Int) = kk at *
    generalize List.take i.toNat (mkS (fun _ k => k) (fun _ => 1) a k) ++ List.drop i.toNat a = R at *
    simp (disch := first | omega | (simp only [List.length_modify]; omega)) only [List.length_modify, wrap_i64, getD_modify, modify_modify, hg, hl]
    repeat' (first | refine And.intro (by omega) ?_ | fail)
    exact ⟨⟨by omega, by omega, hM, by omega⟩, by simp only [μ_laws_markIntS_2]; omega⟩
  · have hc : a.length ≤ i := by have hc := of_decide_eq_false hc; omega
    rw [mk_done (fun _ k => k) (fun _ => 1) a k hc, ct_done (fun _ => 1) a hc]
    exact ⟨rfl, rfl⟩
def con_laws_heldIntS : Con UU where
  α := (List Int) × Int
  md := [.ro, .ro]
  of := fun | [.one (.sl .int a0), .one (.lit (.int .i64 a1))] => some (a0, a1) | _ => none
  ds := fun (a, k) => [.one (.sl .int a), .one (.lit (.int .i64 k))]
  pre := fun (a, k) => [0 ≤ k, k + cntIntS a ≤ 4611686018427387904]
  res := fun (a, k) => ⟨[.one (.lit (.int .i64 (if markIntS a k = a then k + cntIntS a else -1)))], true, []⟩
  law := by intro l x h; (try simp only at h); split at h <;> cases h; rfl
def I_laws_heldIntS_2 (a : (List Int)) (k : Int) : Int × Int × Unit → Prop := fun (kk, i, _) => 0 ≤ i ∧ i ≤ a.length ∧ kk = k + ctS (fun _ => 1) (a.take i.toNat) ∧ (mkS (fun _ k => k) (fun _ => 1) (a.drop i.toNat) kk = a.drop i.toNat ↔ mkS (fun _ k => k) (fun _ => 1) a k = a)
def μ_laws_heldIntS_2 (a : (List Int)) (k : Int) : Int × Int × Unit → Nat := fun (kk, i, _) => a.length - i.toNat
def ann_laws_heldIntS : con_laws_heldIntS.α → Nat → Option (Ann UU) := fun (a, k) => annL [(2, annOf [.slot 1 (1, 1024) (.lit (.int .i64)), .slot 5 (5, 1024) (.lit (.int .i64))] (fun _ => I_laws_heldIntS_2 a k) (μ_laws_heldIntS_2 a k))]
def use_laws_heldIntS : List (FuncId × Con UU) := []
theorem vc_laws_heldIntS (a : (List Int)) (k : Int) : goal EE use_laws_heldIntS Go.Proofs.Try.f167 con_laws_heldIntS ann_laws_heldIntS (a, k) = (I_laws_heldIntS_2 a k (k, (0 : Int), PUnit.unit) ∧ ∀ (y : Int × Int × PUnit), I_laws_heldIntS_2 a k y → bif decide (y.2.1 < (↑(List.length a) : Int)) then (0 : Int) ≤ y.2.1 ∧ Int.toNat y.2.1 < List.length a ∧ bif List.getD a (Int.toNat y.2.1) (0 : Int) != y.1 then Lf [DV.one (Cell.lit (Value.int IntKind.i64 (-1 : Int)))] [DV.one (Cell.lit (Value.int IntKind.i64 (if markIntS a k = a then k + (↑(cntIntS a) : Int) else (-1 : Int))))] else I_laws_heldIntS_2 a k (IntKind.wrap IntKind.i64 (y.1 + (1 : Int)), IntKind.wrap IntKind.i64 (y.2.1 + (1 : Int)), PUnit.unit) ∧ μ_laws_heldIntS_2 a k (IntKind.wrap IntKind.i64 (y.1 + (1 : Int)), IntKind.wrap IntKind.i64 (y.2.1 + (1 : Int)), PUnit.unit) < μ_laws_heldIntS_2 a k y else Lf [DV.one (Cell.lit (Value.int IntKind.i64 y.1))] [DV.one (Cell.lit (Value.int IntKind.i64 (if markIntS a k = a then k + (↑(cntIntS a) : Int) else (-1 : Int))))]) := by kernel_rfl
theorem ok_laws_heldIntS : Holds EE (167, con_laws_heldIntS) := by
  refine holds_of EE_ok Go.Proofs.Try.func167 con_laws_heldIntS (by kernel_rfl) rfl use_laws_heldIntS all_nil ann_laws_heldIntS (fun x hp hb => ?_)
  obtain ⟨a, k⟩ := x
  have hb_a : BdDV (U := UU) (.one (.sl .int a)) := hb _ (List.mem_cons_self)
  have hl_a : a.length ≤ 9223372036854775807 := Bd.len hb_a
  have hb_k : BdDV (U := UU) (.one (.lit (.int .i64 k))) := hb _ (List.mem_cons_of_mem _ (List.mem_cons_self))
  have hl_k := Bd.i64 hb_k
  have hp0 : 0 ≤ k := hp _ (List.mem_cons_self)
  have hp1 : k + cntIntS a ≤ 4611686018427387904 := hp _ (List.mem_cons_of_mem _ (List.mem_cons_self))
  clear hp hb
  rw [vc_laws_heldIntS a k]
  refine ⟨⟨by omega, by omega, by simp [ctS], by simp⟩, ?_⟩
  rintro ⟨kk, i, ⟨⟩⟩ ⟨h1, h2, hkk, hR⟩
  simp only
  simp only [markIntS]
  refine if_cond (fun hc => ?_) (fun hc => ?_)
  · have hc : i < a.length := by have hc := of_decide_eq_true hc; omega
    have hct := ctS_take (fun _ => 1) a (0 : Int) h1 hc
    have hle := ctS_take_le (fun _ => 1) a (i + 1).toNat
    have hq : (cntIntS a : Int) = ctS (fun _ => 1) a := rfl
    rw [drop_step a (0 : Int) h1 hc] at hR
    generalize List.getD a i.toNat (0 : Int) = x at *
    simp only [mkS, List.cons.injEq] at hR
    have e : kk + (((1 : Nat) : Int) : Int) = kk + 1 := by rfl
    rw [e] at hR
    skip
    simp (disch := omega) only [wrap_i64, bne_int, toList_beq]
    repeat' (first | refine And.intro (by omega) ?_ | fail)
    refine if_cond (fun h => Lf_no (fun hh => ?_)) (fun h => ?_)
    · have hh := hR.2 hh; simp_all
    have h : x = kk := by simpa using h
    subst x
    exact ⟨⟨by omega, by omega, by omega, by simpa using hR⟩, by simp only [μ_laws_heldIntS_2]; omega⟩
  · have hc : a.length ≤ i := by have hc := of_decide_eq_false hc; omega
    rw [drop_end a hc] at hR
    exact Lf_yes (hR.1 rfl) (by rw [hkk, ct_done _ _ hc]; rfl)
def con_laws_toByteS : Con UU where
  α := (List Int)
  md := [.ro]
  of := fun | [.one (.sl .byte a0)] => some a0 | _ => none
  ds := fun a => [.one (.sl .byte a)]
  pre := fun a => [sizeByteS a ≤ 4294967296]
  res := fun a => ⟨[.one (.sl .byte a)], true, []⟩
  law := by intro l x h; (try simp only at h); split at h <;> cases h; rfl
def I_laws_toByteS_3 (a : (List Int)) : List Int × Int × Unit → Prop := fun (out, i, _) => 0 ≤ i ∧ i ≤ a.length ∧ out = a.take i.toNat ++ List.replicate (a.length - i.toNat) (0 : Int)
def μ_laws_toByteS_3 (a : (List Int)) : List Int × Int × Unit → Nat := fun (out, i, _) => a.length - i.toNat
def ann_laws_toByteS : con_laws_toByteS.α → Nat → Option (Ann UU) := fun a => annL [(3, annOf [.slot 3 (3, 1024) (.own .byte true), .slot 4 (4, 1024) (.lit (.int .i64))] (fun _ => I_laws_toByteS_3 a) (μ_laws_toByteS_3 a))]
def use_laws_toByteS : List (FuncId × Con UU) := []
theorem vc_laws_toByteS (a : (List Int)) : goal EE use_laws_toByteS Go.Proofs.Try.f65 con_laws_toByteS ann_laws_toByteS a = ((0 : Int) ≤ (↑(List.length a) : Int) ∧ (↑(List.length a) : Int) = (↑(List.length a) : Int) ∧ (↑(List.length a) : Int) ≤ (4294967296 : Int) ∧ I_laws_toByteS_3 a (List.replicate (Int.toNat (↑(List.length a) : Int)) (0 : Int), (0 : Int), PUnit.unit) ∧ ∀ (y : List Int × Int × PUnit), I_laws_toByteS_3 a y → bif decide (y.2.1 < (↑(List.length a) : Int)) then (0 : Int) ≤ y.2.1 ∧ Int.toNat y.2.1 < List.length a ∧ (0 : Int) ≤ y.2.1 ∧ Int.toNat y.2.1 < List.length y.1 ∧ Int.toNat y.2.1 < List.length y.1 ∧ I_laws_toByteS_3 a (List.set y.1 (Int.toNat y.2.1) (List.getD a (Int.toNat y.2.1) (0 : Int)), IntKind.wrap IntKind.i64 (y.2.1 + (1 : Int)), PUnit.unit) ∧ μ_laws_toByteS_3 a (List.set y.1 (Int.toNat y.2.1) (List.getD a (Int.toNat y.2.1) (0 : Int)), IntKind.wrap IntKind.i64 (y.2.1 + (1 : Int)), PUnit.unit) < μ_laws_toByteS_3 a y else Lf [DV.one (Cell.sl Cd.byte y.1)] [DV.one (Cell.sl Cd.byte a)]) := by kernel_rfl
theorem ok_laws_toByteS : Holds EE (65, con_laws_toByteS) := by
  refine holds_of EE_ok Go.Proofs.Try.func65 con_laws_toByteS (by kernel_rfl) rfl use_laws_toByteS all_nil ann_laws_toByteS (fun (a : (List Int)) hp hb => ?_)
  have hb_a : BdDV (U := UU) (.one (.sl .byte a)) := hb _ (List.mem_cons_self)
  have hl_a : a.length ≤ 9223372036854775807 := Bd.len hb_a
  have hp0 : sizeByteS a ≤ 4294967296 := hp _ (List.mem_cons_self)
  clear hp hb
  rw [vc_laws_toByteS a]
  have hlen : a.length ≤ 4294967296 := by simp only [sizeByteS] at hp0; omega
  refine ⟨by omega, rfl, by omega, ?_, ?_⟩
  · simp [I_laws_toByteS_3]
  rintro ⟨out, i, ⟨⟩⟩ ⟨h1, h2, rfl⟩
  simp only at *
  refine if_cond (fun hc => ?_) (fun hc => ?_)
  · have hc : i < a.length := by simpa using hc
    rw [wrap_i64 (by omega) (by omega), set_fill a (0 : Int) h1 hc]
    exact ⟨h1, by omega, h1, by simp; omega, by simp; omega, ⟨by omega, by omega, rfl⟩, by simp only [μ_laws_toByteS_3]; omega⟩
  · have hc : a.length ≤ i := by simpa using hc
    have e : i.toNat = a.length := by omega
    rw [e]; simp; exact Lf_rfl _
def con_laws_eqByteS : Con UU where
  α := (List Int) × (List Int)
  md := [.ro, .ro]
  of := fun | [.one (.sl .byte a0), .one (.sl .byte a1)] => some (a0, a1) | _ => none
  ds := fun (a, b) => [.one (.sl .byte a), .one (.sl .byte b)]
  pre := fun (a, b) => []
  res := fun (a, b) => ⟨[.one (.lit (.bool (decide (a = b))))], true, []⟩
  law := by intro l x h; (try simp only at h); split at h <;> cases h; rfl
def I_laws_eqByteS_4 (a : (List Int)) (b : (List Int)) : Int × Unit → Prop := fun (i, _) => 0 ≤ i ∧ i ≤ a.length ∧ a.length = b.length ∧ (a.drop i.toNat = b.drop i.toNat ↔ a = b)
def μ_laws_eqByteS_4 (a : (List Int)) (b : (List Int)) : Int × Unit → Nat := fun (i, _) => a.length - i.toNat
def ann_laws_eqByteS : con_laws_eqByteS.α → Nat → Option (Ann UU) := fun (a, b) => annL [(4, annOf [.slot 5 (5, 1024) (.lit (.int .i64))] (fun _ => I_laws_eqByteS_4 a b) (μ_laws_eqByteS_4 a b))]
def use_laws_eqByteS : List (FuncId × Con UU) := []
theorem vc_laws_eqByteS (a : (List Int)) (b : (List Int)) : goal EE use_laws_eqByteS Go.Proofs.Try.f34 con_laws_eqByteS ann_laws_eqByteS (a, b) = (bif (↑(List.length a) : Int) != (↑(List.length b) : Int) then Lf [DV.one (Cell.lit (Value.bool false))] [DV.one (Cell.lit (Value.bool (decide (a = b))))] else I_laws_eqByteS_4 a b ((0 : Int), PUnit.unit) ∧ ∀ (y : Int × PUnit), I_laws_eqByteS_4 a b y → bif decide (y.1 < (↑(List.length a) : Int)) then (0 : Int) ≤ y.1 ∧ Int.toNat y.1 < List.length a ∧ (0 : Int) ≤ y.1 ∧ Int.toNat y.1 < List.length b ∧ bif List.getD a (Int.toNat y.1) (0 : Int) != List.getD b (Int.toNat y.1) (0 : Int) then Lf [DV.one (Cell.lit (Value.bool false))] [DV.one (Cell.lit (Value.bool (decide (a = b))))] else I_laws_eqByteS_4 a b (IntKind.wrap IntKind.i64 (y.1 + (1 : Int)), PUnit.unit) ∧ μ_laws_eqByteS_4 a b (IntKind.wrap IntKind.i64 (y.1 + (1 : Int)), PUnit.unit) < μ_laws_eqByteS_4 a b y else Lf [DV.one (Cell.lit (Value.bool true))] [DV.one (Cell.lit (Value.bool (decide (a = b))))]) := by kernel_rfl
theorem ok_laws_eqByteS : Holds EE (34, con_laws_eqByteS) := by
  refine holds_of EE_ok Go.Proofs.Try.func34 con_laws_eqByteS (by kernel_rfl) rfl use_laws_eqByteS all_nil ann_laws_eqByteS (fun x hp hb => ?_)
  obtain ⟨a, b⟩ := x
  have hb_a : BdDV (U := UU) (.one (.sl .byte a)) := hb _ (List.mem_cons_self)
  have hl_a : a.length ≤ 9223372036854775807 := Bd.len hb_a
  have hb_b : BdDV (U := UU) (.one (.sl .byte b)) := hb _ (List.mem_cons_of_mem _ (List.mem_cons_self))
  have hl_b : b.length ≤ 9223372036854775807 := Bd.len hb_b
  clear hp hb
  rw [vc_laws_eqByteS a b]
  refine if_cond (fun h => Lf_f ?_) (fun h => ⟨?_, ?_⟩)
  · rintro rfl; simp at h
  · simp [I_laws_eqByteS_4] at *; omega
  rintro ⟨i, ⟨⟩⟩ ⟨h1, h2, h3, hR⟩
  simp only at *
  refine if_cond (fun hc => ?_) (fun hc => ?_)
  · have hc : i < a.length := by simpa using hc
    rw [drop_step a (0 : Int) h1 hc, drop_step b (0 : Int) h1 (by omega)] at hR
    rw [wrap_i64 (by omega) (by omega)]
    refine ⟨by omega, by omega, by omega, by omega, if_cond (fun h => Lf_f ?_) (fun h => ⟨⟨by omega, by omega, h3, ?_⟩, ?_⟩)⟩
    · rw [← hR]; simp at h; simp [h]
    · rw [← hR]; simp at h; simp [h]
    · simp only [μ_laws_eqByteS_4]; omega
  · have hc : a.length ≤ i := by simpa using hc
    rw [drop_end a hc, drop_end b (by omega)] at hR
    exact Lf_t (hR.1 rfl)
def con_laws_markByteS : Con UU where
  α := (List Int) × Int
  md := [.wr, .ro]
  of := fun | [.one (.sl .byte a0), .one (.lit (.int .i64 a1))] => some (a0, a1) | _ => none
  ds := fun (a, k) => [.one (.sl .byte a), .one (.lit (.int .i64 k))]
  pre := fun (a, k) => [0 ≤ k, k + cntByteS a ≤ 4611686018427387904]
  res := fun (a, k) => ⟨[.one (.lit (.int .i64 (k + cntByteS a)))], true, [.one (.sl .byte (markByteS a k))]⟩
  law := by intro l x h; (try simp only at h); split at h <;> cases h; rfl
def I_laws_markByteS_2 (a : (List Int)) (k : Int) : List Int × Int × Int × Unit → Prop := fun (row, kk, i, _) => 0 ≤ i ∧ i ≤ a.length ∧ row = (mkS (fun _ k => markByte k) (fun _ => 1) a k).take i.toNat ++ a.drop i.toNat ∧ kk = k + ctS (fun _ => 1) (a.take i.toNat)
def μ_laws_markByteS_2 (a : (List Int)) (k : Int) : List Int × Int × Int × Unit → Nat := fun (row, kk, i, _) => a.length - i.toNat
def ann_laws_markByteS : con_laws_markByteS.α → Nat → Option (Ann UU) := fun (a, k) => annL [(2, annOf [.slot 0 (2000000, 0) (.own .byte true), .slot 1 (1, 1024) (.lit (.int .i64)), .slot 5 (5, 1024) (.lit (.int .i64))] (fun _ => I_laws_markByteS_2 a k) (μ_laws_markByteS_2 a k))]
def use_laws_markByteS : List (FuncId × Con UU) := []
theorem vc_laws_markByteS (a : (List Int)) (k : Int) : goal EE use_laws_markByteS Go.Proofs.Try.f36 con_laws_markByteS ann_laws_markByteS (a, k) = (I_laws_markByteS_2 a k (a, k, (0 : Int), PUnit.unit) ∧ ∀ (y : List Int × Int × Int × PUnit), I_laws_markByteS_2 a k y → bif decide (y.2.2.1 < (↑(List.length y.1) : Int)) then (0 : Int) ≤ y.2.2.1 ∧ Int.toNat y.2.2.1 < List.length y.1 ∧ Int.toNat y.2.2.1 < List.length y.1 ∧ I_laws_markByteS_2 a k (List.set y.1 (Int.toNat y.2.2.1) (IntKind.wrap IntKind.u8 y.2.1), IntKind.wrap IntKind.i64 (y.2.1 + (1 : Int)), IntKind.wrap IntKind.i64 (y.2.2.1 + (1 : Int)), PUnit.unit) ∧ μ_laws_markByteS_2 a k (List.set y.1 (Int.toNat y.2.2.1) (IntKind.wrap IntKind.u8 y.2.1), IntKind.wrap IntKind.i64 (y.2.1 + (1 : Int)), IntKind.wrap IntKind.i64 (y.2.2.1 + (1 : Int)), PUnit.unit) < μ_laws_markByteS_2 a k y else asD [DV.one (Cell.lit (Value.int IntKind.i64 y.2.1))] = asD [DV.one (Cell.lit (Value.int IntKind.i64 (k + (↑(cntByteS a) : Int))))] ∧ asD [DV.one (Cell.sl Cd.byte y.1)] = asD [DV.one (Cell.sl Cd.byte (markByteS a k))]) := by kernel_rfl
theorem ok_laws_markByteS : Holds EE (36, con_laws_markByteS) := by
  refine holds_of EE_ok Go.Proofs.Try.func36 con_laws_markByteS (by kernel_rfl) rfl use_laws_markByteS all_nil ann_laws_markByteS (fun x hp hb => ?_)
  obtain ⟨a, k⟩ := x
  have hb_a : BdDV (U := UU) (.one (.sl .byte a)) := hb _ (List.mem_cons_self)
  have hl_a : a.length ≤ 9223372036854775807 := Bd.len hb_a
  have hb_k : BdDV (U := UU) (.one (.lit (.int .i64 k))) := hb _ (List.mem_cons_of_mem _ (List.mem_cons_self))
  have hl_k := Bd.i64 hb_k
  have hp0 : 0 ≤ k := hp _ (List.mem_cons_self)
  have hp1 : k + cntByteS a ≤ 4611686018427387904 := hp _ (List.mem_cons_of_mem _ (List.mem_cons_self))
  clear hp hb
  rw [vc_laws_markByteS a k]
  refine ⟨⟨by omega, by omega, by simp, by simp [ctS]⟩, ?_⟩
  rintro ⟨row, kk, i, ⟨⟩⟩ ⟨h1, h2, rfl, rfl⟩
  simp only
  have hl := mk_rl (fun _ k => markByte k) (fun _ => 1) a k h1 h2
  refine if_cond (fun hc => ?_) (fun hc => ?_)
  · have hc : i < a.length := by have hc := of_decide_eq_true hc; omega
    have hct := ctS_take (fun _ => 1) a (0 : Int) h1 hc
    have hle := ctS_take_le (fun _ => 1) a (i + 1).toNat
    have hg := mk_getD _ a (0 : Int) (mk_tl (fun _ k => markByte k) (fun _ => 1) a k h1 h2) h1 hc
    have hM := mkS_step (fun _ k => markByte k) (fun _ => 1) a (0 : Int) k h1 hc
    have hq : (cntByteS a : Int) = ctS (fun _ => 1) a := rfl
    generalize List.getD a i.toNat (0 : Int) = x at *
    generalize hkk : k + (ctS (fun _ => 1) (a.take i.toNat) : Int) = kk at *
    generalize List.take i.toNat (mkS (fun _ k => markByte k) (fun _ => 1) a k) ++ List.drop i.toNat a = R at *
    simp (disch := first | omega | (simp only [List.length_modify]; omega)) only [List.length_modify, wrap_i64, getD_modify, modify_modify, hg, hl]
    repeat' (first | refine And.intro (by omega) ?_ | fail)
    exact ⟨⟨by omega, by omega, hM, by omega⟩, by simp only [μ_laws_markByteS_2]; omega⟩
  · have hc : a.length ≤ i := by have hc := of_decide_eq_false hc; omega
    rw [mk_done (fun _ k => markByte k) (fun _ => 1) a k hc, ct_done (fun _ => 1) a hc]
    exact ⟨rfl, rfl⟩
def con_laws_heldByteS : Con UU where
  α := (List Int) × Int
  md := [.ro, .ro]
  of := fun | [.one (.sl .byte a0), .one (.lit (.int .i64 a1))] => some (a0, a1) | _ => none
  ds := fun (a, k) => [.one (.sl .byte a), .one (.lit (.int .i64 k))]
  pre := fun (a, k) => [0 ≤ k, k + cntByteS a ≤ 4611686018427387904]
  res := fun (a, k) => ⟨[.one (.lit (.int .i64 (if markByteS a k = a then k + cntByteS a else -1)))], true, []⟩
  law := by intro l x h; (try simp only at h); split at h <;> cases h; rfl
def I_laws_heldByteS_2 (a : (List Int)) (k : Int) : Int × Int × Unit → Prop := fun (kk, i, _) => 0 ≤ i ∧ i ≤ a.length ∧ kk = k + ctS (fun _ => 1) (a.take i.toNat) ∧ (mkS (fun _ k => markByte k) (fun _ => 1) (a.drop i.toNat) kk = a.drop i.toNat ↔ mkS (fun _ k => markByte k) (fun _ => 1) a k = a)
def μ_laws_heldByteS_2 (a : (List Int)) (k : Int) : Int × Int × Unit → Nat := fun (kk, i, _) => a.length - i.toNat
def ann_laws_heldByteS : con_laws_heldByteS.α → Nat → Option (Ann UU) := fun (a, k) => annL [(2, annOf [.slot 1 (1, 1024) (.lit (.int .i64)), .slot 5 (5, 1024) (.lit (.int .i64))] (fun _ => I_laws_heldByteS_2 a k) (μ_laws_heldByteS_2 a k))]
def use_laws_heldByteS : List (FuncId × Con UU) := []
theorem vc_laws_heldByteS (a : (List Int)) (k : Int) : goal EE use_laws_heldByteS Go.Proofs.Try.f37 con_laws_heldByteS ann_laws_heldByteS (a, k) = (I_laws_heldByteS_2 a k (k, (0 : Int), PUnit.unit) ∧ ∀ (y : Int × Int × PUnit), I_laws_heldByteS_2 a k y → bif decide (y.2.1 < (↑(List.length a) : Int)) then (0 : Int) ≤ y.2.1 ∧ Int.toNat y.2.1 < List.length a ∧ bif List.getD a (Int.toNat y.2.1) (0 : Int) != IntKind.wrap IntKind.u8 y.1 then Lf [DV.one (Cell.lit (Value.int IntKind.i64 (-1 : Int)))] [DV.one (Cell.lit (Value.int IntKind.i64 (if markByteS a k = a then k + (↑(cntByteS a) : Int) else (-1 : Int))))] else I_laws_heldByteS_2 a k (IntKind.wrap IntKind.i64 (y.1 + (1 : Int)), IntKind.wrap IntKind.i64 (y.2.1 + (1 : Int)), PUnit.unit) ∧ μ_laws_heldByteS_2 a k (IntKind.wrap IntKind.i64 (y.1 + (1 : Int)), IntKind.wrap IntKind.i64 (y.2.1 + (1 : Int)), PUnit.unit) < μ_laws_heldByteS_2 a k y else Lf [DV.one (Cell.lit (Value.int IntKind.i64 y.1))] [DV.one (Cell.lit (Value.int IntKind.i64 (if markByteS a k = a then k + (↑(cntByteS a) : Int) else (-1 : Int))))]) := by kernel_rfl
theorem ok_laws_heldByteS : Holds EE (37, con_laws_heldByteS) := by
  refine holds_of EE_ok Go.Proofs.Try.func37 con_laws_heldByteS (by kernel_rfl) rfl use_laws_heldByteS all_nil ann_laws_heldByteS (fun x hp hb => ?_)
  obtain ⟨a, k⟩ := x
  have hb_a : BdDV (U := UU) (.one (.sl .byte a)) := hb _ (List.mem_cons_self)
  have hl_a : a.length ≤ 9223372036854775807 := Bd.len hb_a
  have hb_k : BdDV (U := UU) (.one (.lit (.int .i64 k))) := hb _ (List.mem_cons_of_mem _ (List.mem_cons_self))
  have hl_k := Bd.i64 hb_k
  have hp0 : 0 ≤ k := hp _ (List.mem_cons_self)
  have hp1 : k + cntByteS a ≤ 4611686018427387904 := hp _ (List.mem_cons_of_mem _ (List.mem_cons_self))
  clear hp hb
  rw [vc_laws_heldByteS a k]
  refine ⟨⟨by omega, by omega, by simp [ctS], by simp⟩, ?_⟩
  rintro ⟨kk, i, ⟨⟩⟩ ⟨h1, h2, hkk, hR⟩
  simp only
  simp only [markByteS]
  refine if_cond (fun hc => ?_) (fun hc => ?_)
  · have hc : i < a.length := by have hc := of_decide_eq_true hc; omega
    have hct := ctS_take (fun _ => 1) a (0 : Int) h1 hc
    have hle := ctS_take_le (fun _ => 1) a (i + 1).toNat
    have hq : (cntByteS a : Int) = ctS (fun _ => 1) a := rfl
    rw [drop_step a (0 : Int) h1 hc] at hR
    generalize List.getD a i.toNat (0 : Int) = x at *
    simp only [mkS, List.cons.injEq] at hR
    have e : kk + (((1 : Nat) : Int) : Int) = kk + 1 := by rfl
    rw [e] at hR
    skip
    have hmb : ∀ k, IntKind.wrap .u8 k = markByte k := fun _ => rfl
    simp only [hmb]
    simp (disch := omega) only [wrap_i64, bne_int, toList_beq]
    repeat' (first | refine And.intro (by omega) ?_ | fail)
    refine if_cond (fun h => Lf_no (fun hh => ?_)) (fun h => ?_)
    · have hh := hR.2 hh; simp_all
    have h : x = markByte (kk) := by simpa using h
    subst x
    exact ⟨⟨by omega, by omega, by omega, by simpa using hR⟩, by simp only [μ_laws_heldByteS_2]; omega⟩
  · have hc : a.length ≤ i := by have hc := of_decide_eq_false hc; omega
    rw [drop_end a hc] at hR
    exact Lf_yes (hR.1 rfl) (by rw [hkk, ct_done _ _ hc]; rfl)
def con_laws_szVal : Con UU where
  α := DVal × Int
  md := [.ro, .ro]
  of := fun | [.agg [.lit (.int .i64 a0), .lit (.int .i64 a1), .lit (.string a2)], .one (.lit (.int .i64 a3))] => some (⟨a0, a1, a2⟩, a3) | _ => none
  ds := fun (a, left) => [.agg [.lit (.int .i64 a.K), .lit (.int .i64 a.N), .lit (.string a.S)], .one (.lit (.int .i64 left))]
  pre := fun (a, left) => [0 ≤ left]
  res := fun (a, left) => ⟨[.one (.lit (.int .i64 (szr left (sizeVal a))))], true, []⟩
  law := by intro l x h; (try simp only at h); split at h <;> cases h; rfl
def ann_laws_szVal : con_laws_szVal.α → Nat → Option (Ann UU) := fun (a, left) => annL []
def use_laws_szVal : List (FuncId × Con UU) := []
theorem vc_laws_szVal (a : DVal) (left : Int) : goal EE use_laws_szVal Go.Proofs.Try.f76 con_laws_szVal ann_laws_szVal (a, left) = (bif decide (IntKind.wrap IntKind.i64 (left - (↑(ByteArray.size (DVal.S a)) : Int)) < (0 : Int)) then Lf [DV.one (Cell.lit (Value.int IntKind.i64 (-1 : Int)))] [DV.one (Cell.lit (Value.int IntKind.i64 (szr left (sizeVal a))))] else Lf [DV.one (Cell.lit (Value.int IntKind.i64 (IntKind.wrap IntKind.i64 (left - (↑(ByteArray.size (DVal.S a)) : Int)))))] [DV.one (Cell.lit (Value.int IntKind.i64 (szr left (sizeVal a))))]) := by kernel_rfl
theorem ok_laws_szVal : Holds EE (76, con_laws_szVal) := by
  refine holds_of EE_ok Go.Proofs.Try.func76 con_laws_szVal (by kernel_rfl) rfl use_laws_szVal all_nil ann_laws_szVal (fun x hp hb => ?_)
  obtain ⟨a, left⟩ := x
  have hb_a : BdDV (U := UU) (.agg [.lit (.int .i64 a.K), .lit (.int .i64 a.N), .lit (.string a.S)]) := hb _ (List.mem_cons_self)
  have hl_a_S : a.S.size ≤ 9223372036854775807 := Bd.str (hb_a _ (by simp))
  have hb_left : BdDV (U := UU) (.one (.lit (.int .i64 left))) := hb _ (List.mem_cons_of_mem _ (List.mem_cons_self))
  have hl_left := Bd.i64 hb_left
  have hp0 : 0 ≤ left := hp _ (List.mem_cons_self)
  clear hp hb
  rw [vc_laws_szVal a left]
  rw [wrap_i64 (by omega) (by omega)]
  refine if_cond (fun h => Lf_i (szr_bad' ?_)) (fun h => ?_)
  · have h := of_decide_eq_true h; simp only [sizeVal]; omega
  have h0 := of_decide_eq_false h
  exact Lf_i (by rw [← szr_ok' (by simp only [sizeVal]; omega)]; simp only [sizeVal]; try omega)
def con_laws_toVal : Con UU where
  α := DVal
  md := [.ro]
  of := fun | [.agg [.lit (.int .i64 a0), .lit (.int .i64 a1), .lit (.string a2)]] => some ⟨a0, a1, a2⟩ | _ => none
  ds := fun a => [.agg [.lit (.int .i64 a.K), .lit (.int .i64 a.N), .lit (.string a.S)]]
  pre := fun a => [sizeVal a ≤ 4294967296]
  res := fun a => ⟨[.agg [.lit (.int .i64 a.K), .lit (.int .i64 a.N), .lit (.string a.S)]], true, []⟩
  law := by intro l x h; (try simp only at h); split at h <;> cases h; rfl
def ann_laws_toVal : con_laws_toVal.α → Nat → Option (Ann UU) := fun a => annL []
def use_laws_toVal : List (FuncId × Con UU) := []
theorem vc_laws_toVal (a : DVal) : goal EE use_laws_toVal Go.Proofs.Try.f80 con_laws_toVal ann_laws_toVal a = (Lf [DV.agg [Cell.lit (Value.int IntKind.i64 (DVal.K a)), Cell.lit (Value.int IntKind.i64 (DVal.N a)), Cell.lit (Value.string (DVal.S a))]] [DV.agg [Cell.lit (Value.int IntKind.i64 (DVal.K a)), Cell.lit (Value.int IntKind.i64 (DVal.N a)), Cell.lit (Value.string (DVal.S a))]]) := by kernel_rfl
theorem ok_laws_toVal : Holds EE (80, con_laws_toVal) := by
  refine holds_of EE_ok Go.Proofs.Try.func80 con_laws_toVal (by kernel_rfl) rfl use_laws_toVal all_nil ann_laws_toVal (fun (a : DVal) hp hb => ?_)
  have hb_a : BdDV (U := UU) (.agg [.lit (.int .i64 a.K), .lit (.int .i64 a.N), .lit (.string a.S)]) := hb _ (List.mem_cons_self)
  have hl_a_S : a.S.size ≤ 9223372036854775807 := Bd.str (hb_a _ (by simp))
  have hp0 : sizeVal a ≤ 4294967296 := hp _ (List.mem_cons_self)
  clear hp hb
  rw [vc_laws_toVal a]
  simp only [sizeVal] at hp0
  repeat' (first | exact Lf_rfl _ | (refine And.intro (by omega) ?_))
def con_laws_eqVal : Con UU where
  α := DVal × DVal
  md := [.ro, .ro]
  of := fun | [.agg [.lit (.int .i64 a0), .lit (.int .i64 a1), .lit (.string a2)], .agg [.lit (.int .i64 a3), .lit (.int .i64 a4), .lit (.string a5)]] => some (⟨a0, a1, a2⟩, ⟨a3, a4, a5⟩) | _ => none
  ds := fun (a, b) => [.agg [.lit (.int .i64 a.K), .lit (.int .i64 a.N), .lit (.string a.S)], .agg [.lit (.int .i64 b.K), .lit (.int .i64 b.N), .lit (.string b.S)]]
  pre := fun (a, b) => []
  res := fun (a, b) => ⟨[.one (.lit (.bool (decide (a = b))))], true, []⟩
  law := by intro l x h; (try simp only at h); split at h <;> cases h; rfl
def ann_laws_eqVal : con_laws_eqVal.α → Nat → Option (Ann UU) := fun (a, b) => annL []
def use_laws_eqVal : List (FuncId × Con UU) := []
theorem vc_laws_eqVal (a : DVal) (b : DVal) : goal EE use_laws_eqVal Go.Proofs.Try.f82 con_laws_eqVal ann_laws_eqVal (a, b) = (bif DVal.K a != DVal.K b then Lf [DV.one (Cell.lit (Value.bool false))] [DV.one (Cell.lit (Value.bool (decide (a = b))))] else bif DVal.N a != DVal.N b then Lf [DV.one (Cell.lit (Value.bool false))] [DV.one (Cell.lit (Value.bool (decide (a = b))))] else bif !ByteArray.toList (DVal.S a) == ByteArray.toList (DVal.S b) then Lf [DV.one (Cell.lit (Value.bool false))] [DV.one (Cell.lit (Value.bool (decide (a = b))))] else Lf [DV.one (Cell.lit (Value.bool true))] [DV.one (Cell.lit (Value.bool (decide (a = b))))]) := by kernel_rfl
theorem ok_laws_eqVal : Holds EE (82, con_laws_eqVal) := by
  refine holds_of EE_ok Go.Proofs.Try.func82 con_laws_eqVal (by kernel_rfl) rfl use_laws_eqVal all_nil ann_laws_eqVal (fun x hp hb => ?_)
  obtain ⟨a, b⟩ := x
  have hb_a : BdDV (U := UU) (.agg [.lit (.int .i64 a.K), .lit (.int .i64 a.N), .lit (.string a.S)]) := hb _ (List.mem_cons_self)
  have hl_a_S : a.S.size ≤ 9223372036854775807 := Bd.str (hb_a _ (by simp))
  have hb_b : BdDV (U := UU) (.agg [.lit (.int .i64 b.K), .lit (.int .i64 b.N), .lit (.string b.S)]) := hb _ (List.mem_cons_of_mem _ (List.mem_cons_self))
  have hl_b_S : b.S.size ≤ 9223372036854775807 := Bd.str (hb_b _ (by simp))
  clear hp hb
  rw [vc_laws_eqVal a b]
  obtain ⟨aK, aN, aS⟩ := a
  obtain ⟨bK, bN, bS⟩ := b
  repeat' (apply if_cond <;> intro _)
  all_goals (first | apply Lf_t | apply Lf_f) <;> simp_all
def con_laws_szValS : Con UU where
  α := (List DVal) × Int
  md := [.ro, .ro]
  of := fun | [.one (.sl .lVal a0), .one (.lit (.int .i64 a1))] => some (a0, a1) | _ => none
  ds := fun (a, left) => [.one (.sl .lVal a), .one (.lit (.int .i64 left))]
  pre := fun (a, left) => [0 ≤ left]
  res := fun (a, left) => ⟨[.one (.lit (.int .i64 (szr left (sizeValS a))))], true, []⟩
  law := by intro l x h; (try simp only at h); split at h <;> cases h; rfl
def I_laws_szValS_5 (a : (List DVal)) (left : Int) : Int × Int × Unit → Prop := fun (lf, i, _) => 0 ≤ lf ∧ 0 ≤ i ∧ i ≤ a.length ∧ szr lf ((a.drop i.toNat).map sizeVal).sum = szr left (sizeValS a)
def μ_laws_szValS_5 (a : (List DVal)) (left : Int) : Int × Int × Unit → Nat := fun (lf, i, _) => a.length - i.toNat
def ann_laws_szValS : con_laws_szValS.α → Nat → Option (Ann UU) := fun (a, left) => annL [(5, annOf [.slot 1 (1, 1024) (.lit (.int .i64)), .slot 5 (5, 1024) (.lit (.int .i64))] (fun _ => I_laws_szValS_5 a left) (μ_laws_szValS_5 a left))]
def use_laws_szValS : List (FuncId × Con UU) := [(76, con_laws_szVal)]
theorem vc_laws_szValS (a : (List DVal)) (left : Int) : goal EE use_laws_szValS Go.Proofs.Try.f114 con_laws_szValS ann_laws_szValS (a, left) = (bif decide (IntKind.wrap IntKind.i64 (left - (↑(List.length a) : Int)) < (0 : Int)) then Lf [DV.one (Cell.lit (Value.int IntKind.i64 (-1 : Int)))] [DV.one (Cell.lit (Value.int IntKind.i64 (szr left (sizeValS a))))] else I_laws_szValS_5 a left (IntKind.wrap IntKind.i64 (left - (↑(List.length a) : Int)), (0 : Int), PUnit.unit) ∧ ∀ (y : Int × Int × PUnit), I_laws_szValS_5 a left y → bif decide (y.2.1 < (↑(List.length a) : Int)) then (0 : Int) ≤ y.2.1 ∧ Int.toNat y.2.1 < List.length a ∧ (0 : Int) ≤ y.1 ∧ bif decide (szr y.1 (sizeVal (List.getD a (Int.toNat y.2.1) zVal)) < (0 : Int)) then Lf [DV.one (Cell.lit (Value.int IntKind.i64 (-1 : Int)))] [DV.one (Cell.lit (Value.int IntKind.i64 (szr left (sizeValS a))))] else I_laws_szValS_5 a left (szr y.1 (sizeVal (List.getD a (Int.toNat y.2.1) zVal)), IntKind.wrap IntKind.i64 (y.2.1 + (1 : Int)), PUnit.unit) ∧ μ_laws_szValS_5 a left (szr y.1 (sizeVal (List.getD a (Int.toNat y.2.1) zVal)), IntKind.wrap IntKind.i64 (y.2.1 + (1 : Int)), PUnit.unit) < μ_laws_szValS_5 a left y else Lf [DV.one (Cell.lit (Value.int IntKind.i64 y.1))] [DV.one (Cell.lit (Value.int IntKind.i64 (szr left (sizeValS a))))]) := by kernel_rfl
theorem ok_laws_szValS : Holds EE (114, con_laws_szValS) := by
  refine holds_of EE_ok Go.Proofs.Try.func114 con_laws_szValS (by kernel_rfl) rfl use_laws_szValS (all_cons ok_laws_szVal all_nil) ann_laws_szValS (fun x hp hb => ?_)
  obtain ⟨a, left⟩ := x
  have hb_a : BdDV (U := UU) (.one (.sl .lVal a)) := hb _ (List.mem_cons_self)
  have hl_a : a.length ≤ 9223372036854775807 := Bd.len hb_a
  have hb_left : BdDV (U := UU) (.one (.lit (.int .i64 left))) := hb _ (List.mem_cons_of_mem _ (List.mem_cons_self))
  have hl_left := Bd.i64 hb_left
  have hp0 : 0 ≤ left := hp _ (List.mem_cons_self)
  clear hp hb
  rw [vc_laws_szValS a left]
  rw [wrap_i64 (by omega) (by omega)]
  refine if_cond (fun h => Lf_i ?_) (fun h => ⟨?_, ?_⟩)
  · simp [szr, sizeValS] at *; omega
  · simp only [I_laws_szValS_5, sizeValS]; simp at h; have h' : 0 ≤ left - a.length := by omega
    exact ⟨h', by omega, by omega, szr_sub h'⟩
  rintro ⟨lf, i, ⟨⟩⟩ ⟨h0, h1, h2, hR⟩
  refine if_cond (fun hc => ?_) (fun hc => ?_)
  · have hc : i < a.length := by simpa using hc
    rw [drop_step a zVal h1 hc, List.map_cons, List.sum_cons] at hR
    simp only at *
    rw [wrap_i64 (by omega) (by omega)]
    generalize List.getD a i.toNat zVal = x at *
    refine ⟨by omega, by omega, by omega, if_cond (fun h => Lf_i ?_) (fun h => ⟨⟨?_, by omega, by omega, ?_⟩, ?_⟩)⟩
    · rw [← hR]; exact (szr_bad (of_decide_eq_true h)).symm
    · simp at h; omega
    · rw [← hR]; simp at h; exact szr_szr h
    · simp only [μ_laws_szValS_5]; omega
  · have hc : a.length ≤ i := by simpa using hc
    rw [drop_end a hc] at hR
    apply Lf_i; rw [← hR]; simp [szr, h0]
def con_laws_toValS : Con UU where
  α := (List DVal)
  md := [.ro]
  of := fun | [.one (.sl .lVal a0)] => some a0 | _ => none
  ds := fun a => [.one (.sl .lVal a)]
  pre := fun a => [sizeValS a ≤ 4294967296]
  res := fun a => ⟨[.one (.sl .eVal a)], true, []⟩
  law := by intro l x h; (try simp only at h); split at h <;> cases h; rfl
def I_laws_toValS_3 (a : (List DVal)) : List DVal × Int × Unit → Prop := fun (out, i, _) => 0 ≤ i ∧ i ≤ a.length ∧ out = a.take i.toNat ++ List.replicate (a.length - i.toNat) zVal
def μ_laws_toValS_3 (a : (List DVal)) : List DVal × Int × Unit → Nat := fun (out, i, _) => a.length - i.toNat
def ann_laws_toValS : con_laws_toValS.α → Nat → Option (Ann UU) := fun a => annL [(3, annOf [.slot 3 (3, 1024) (.own .eVal true), .slot 4 (4, 1024) (.lit (.int .i64))] (fun _ => I_laws_toValS_3 a) (μ_laws_toValS_3 a))]
def use_laws_toValS : List (FuncId × Con UU) := [(80, con_laws_toVal)]
theorem vc_laws_toValS (a : (List DVal)) : goal EE use_laws_toValS Go.Proofs.Try.f117 con_laws_toValS ann_laws_toValS a = ((0 : Int) ≤ (↑(List.length a) : Int) ∧ (↑(List.length a) : Int) = (↑(List.length a) : Int) ∧ (↑(List.length a) : Int) ≤ (4294967296 : Int) ∧ I_laws_toValS_3 a (List.replicate (Int.toNat (↑(List.length a) : Int)) zVal, (0 : Int), PUnit.unit) ∧ ∀ (y : List DVal × Int × PUnit), I_laws_toValS_3 a y → bif decide (y.2.1 < (↑(List.length a) : Int)) then (0 : Int) ≤ y.2.1 ∧ Int.toNat y.2.1 < List.length a ∧ sizeVal (List.getD a (Int.toNat y.2.1) zVal) ≤ (4294967296 : Nat) ∧ (0 : Int) ≤ y.2.1 ∧ Int.toNat y.2.1 < List.length y.1 ∧ Int.toNat y.2.1 < List.length y.1 ∧ I_laws_toValS_3 a (List.set y.1 (Int.toNat y.2.1) (List.getD a (Int.toNat y.2.1) zVal), IntKind.wrap IntKind.i64 (y.2.1 + (1 : Int)), PUnit.unit) ∧ μ_laws_toValS_3 a (List.set y.1 (Int.toNat y.2.1) (List.getD a (Int.toNat y.2.1) zVal), IntKind.wrap IntKind.i64 (y.2.1 + (1 : Int)), PUnit.unit) < μ_laws_toValS_3 a y else Lf [DV.one (Cell.sl Cd.eVal y.1)] [DV.one (Cell.sl Cd.eVal a)]) := by kernel_rfl
theorem ok_laws_toValS : Holds EE (117, con_laws_toValS) := by
  refine holds_of EE_ok Go.Proofs.Try.func117 con_laws_toValS (by kernel_rfl) rfl use_laws_toValS (all_cons ok_laws_toVal all_nil) ann_laws_toValS (fun (a : (List DVal)) hp hb => ?_)
  have hb_a : BdDV (U := UU) (.one (.sl .lVal a)) := hb _ (List.mem_cons_self)
  have hl_a : a.length ≤ 9223372036854775807 := Bd.len hb_a
  have hp0 : sizeValS a ≤ 4294967296 := hp _ (List.mem_cons_self)
  clear hp hb
  rw [vc_laws_toValS a]
  have hlen : a.length ≤ 4294967296 := by simp only [sizeValS] at hp0; omega
  refine ⟨by omega, rfl, by omega, ?_, ?_⟩
  · simp [I_laws_toValS_3]
  rintro ⟨out, i, ⟨⟩⟩ ⟨h1, h2, rfl⟩
  simp only at *
  refine if_cond (fun hc => ?_) (fun hc => ?_)
  · have hc : i < a.length := by simpa using hc
    rw [wrap_i64 (by omega) (by omega), set_fill a zVal h1 hc]
    exact ⟨h1, by omega, by exact Nat.le_trans (sum_getD_le sizeVal a zVal h1 hc) (by simp only [sizeValS] at hp0; omega), h1, by simp; omega, by simp; omega, ⟨by omega, by omega, rfl⟩, by simp only [μ_laws_toValS_3]; omega⟩
  · have hc : a.length ≤ i := by simpa using hc
    have e : i.toNat = a.length := by omega
    rw [e]; simp; exact Lf_rfl _
def con_laws_eqValS : Con UU where
  α := (List DVal) × (List DVal)
  md := [.ro, .ro]
  of := fun | [.one (.sl .eVal a0), .one (.sl .eVal a1)] => some (a0, a1) | _ => none
  ds := fun (a, b) => [.one (.sl .eVal a), .one (.sl .eVal b)]
  pre := fun (a, b) => []
  res := fun (a, b) => ⟨[.one (.lit (.bool (decide (a = b))))], true, []⟩
  law := by intro l x h; (try simp only at h); split at h <;> cases h; rfl
def I_laws_eqValS_4 (a : (List DVal)) (b : (List DVal)) : Int × Unit → Prop := fun (i, _) => 0 ≤ i ∧ i ≤ a.length ∧ a.length = b.length ∧ (a.drop i.toNat = b.drop i.toNat ↔ a = b)
def μ_laws_eqValS_4 (a : (List DVal)) (b : (List DVal)) : Int × Unit → Nat := fun (i, _) => a.length - i.toNat
def ann_laws_eqValS : con_laws_eqValS.α → Nat → Option (Ann UU) := fun (a, b) => annL [(4, annOf [.slot 5 (5, 1024) (.lit (.int .i64))] (fun _ => I_laws_eqValS_4 a b) (μ_laws_eqValS_4 a b))]
def use_laws_eqValS : List (FuncId × Con UU) := [(82, con_laws_eqVal)]
theorem vc_laws_eqValS (a : (List DVal)) (b : (List DVal)) : goal EE use_laws_eqValS Go.Proofs.Try.f120 con_laws_eqValS ann_laws_eqValS (a, b) = (bif (↑(List.length a) : Int) != (↑(List.length b) : Int) then Lf [DV.one (Cell.lit (Value.bool false))] [DV.one (Cell.lit (Value.bool (decide (a = b))))] else I_laws_eqValS_4 a b ((0 : Int), PUnit.unit) ∧ ∀ (y : Int × PUnit), I_laws_eqValS_4 a b y → bif decide (y.1 < (↑(List.length a) : Int)) then (0 : Int) ≤ y.1 ∧ Int.toNat y.1 < List.length a ∧ (0 : Int) ≤ y.1 ∧ Int.toNat y.1 < List.length b ∧ bif !decide (List.getD a (Int.toNat y.1) zVal = List.getD b (Int.toNat y.1) zVal) then Lf [DV.one (Cell.lit (Value.bool false))] [DV.one (Cell.lit (Value.bool (decide (a = b))))] else I_laws_eqValS_4 a b (IntKind.wrap IntKind.i64 (y.1 + (1 : Int)), PUnit.unit) ∧ μ_laws_eqValS_4 a b (IntKind.wrap IntKind.i64 (y.1 + (1 : Int)), PUnit.unit) < μ_laws_eqValS_4 a b y else Lf [DV.one (Cell.lit (Value.bool true))] [DV.one (Cell.lit (Value.bool (decide (a = b))))]) := by kernel_rfl
theorem ok_laws_eqValS : Holds EE (120, con_laws_eqValS) := by
  refine holds_of EE_ok Go.Proofs.Try.func120 con_laws_eqValS (by kernel_rfl) rfl use_laws_eqValS (all_cons ok_laws_eqVal all_nil) ann_laws_eqValS (fun x hp hb => ?_)
  obtain ⟨a, b⟩ := x
  have hb_a : BdDV (U := UU) (.one (.sl .eVal a)) := hb _ (List.mem_cons_self)
  have hl_a : a.length ≤ 9223372036854775807 := Bd.len hb_a
  have hb_b : BdDV (U := UU) (.one (.sl .eVal b)) := hb _ (List.mem_cons_of_mem _ (List.mem_cons_self))
  have hl_b : b.length ≤ 9223372036854775807 := Bd.len hb_b
  clear hp hb
  rw [vc_laws_eqValS a b]
  refine if_cond (fun h => Lf_f ?_) (fun h => ⟨?_, ?_⟩)
  · rintro rfl; simp at h
  · simp [I_laws_eqValS_4] at *; omega
  rintro ⟨i, ⟨⟩⟩ ⟨h1, h2, h3, hR⟩
  simp only at *
  refine if_cond (fun hc => ?_) (fun hc => ?_)
  · have hc : i < a.length := by simpa using hc
    rw [drop_step a zVal h1 hc, drop_step b zVal h1 (by omega)] at hR
    rw [wrap_i64 (by omega) (by omega)]
    refine ⟨by omega, by omega, by omega, by omega, if_cond (fun h => Lf_f ?_) (fun h => ⟨⟨by omega, by omega, h3, ?_⟩, ?_⟩)⟩
    · rw [← hR]; simp at h; simp [h]
    · rw [← hR]; simp at h; simp [h]
    · simp only [μ_laws_eqValS_4]; omega
  · have hc : a.length ≤ i := by simpa using hc
    rw [drop_end a hc, drop_end b (by omega)] at hR
    exact Lf_t (hR.1 rfl)
def con_laws_markValS : Con UU where
  α := (List DVal) × Int
  md := [.wr, .ro]
  of := fun | [.one (.sl .eVal a0), .one (.lit (.int .i64 a1))] => some (a0, a1) | _ => none
  ds := fun (a, k) => [.one (.sl .eVal a), .one (.lit (.int .i64 k))]
  pre := fun (a, k) => [0 ≤ k, k + cntValS a ≤ 4611686018427387904]
  res := fun (a, k) => ⟨[.one (.lit (.int .i64 (k + cntValS a)))], true, [.one (.sl .eVal (markValS a k))]⟩
  law := by intro l x h; (try simp only at h); split at h <;> cases h; rfl
def I_laws_markValS_2 (a : (List DVal)) (k : Int) : List DVal × Int × Int × Unit → Prop := fun (row, kk, i, _) => 0 ≤ i ∧ i ≤ a.length ∧ row = (mkS markVal cntVal a k).take i.toNat ++ a.drop i.toNat ∧ kk = k + ctS cntVal (a.take i.toNat)
def μ_laws_markValS_2 (a : (List DVal)) (k : Int) : List DVal × Int × Int × Unit → Nat := fun (row, kk, i, _) => a.length - i.toNat
def ann_laws_markValS : con_laws_markValS.α → Nat → Option (Ann UU) := fun (a, k) => annL [(2, annOf [.slot 0 (2000000, 0) (.own .eVal true), .slot 1 (1, 1024) (.lit (.int .i64)), .slot 5 (5, 1024) (.lit (.int .i64))] (fun _ => I_laws_markValS_2 a k) (μ_laws_markValS_2 a k))]
def use_laws_markValS : List (FuncId × Con UU) := [(89, con_laws_markText)]
theorem vc_laws_markValS (a : (List DVal)) (k : Int) : goal EE use_laws_markValS Go.Proofs.Try.f90 con_laws_markValS ann_laws_markValS (a, k) = (I_laws_markValS_2 a k (a, k, (0 : Int), PUnit.unit) ∧ ∀ (y : List DVal × Int × Int × PUnit), I_laws_markValS_2 a k y → bif decide (y.2.2.1 < (↑(List.length y.1) : Int)) then (0 : Int) ≤ y.2.2.1 ∧ Int.toNat y.2.2.1 < List.length y.1 ∧ Int.toNat y.2.2.1 < List.length y.1 ∧ (0 : Int) ≤ y.2.2.1 ∧ Int.toNat y.2.2.1 < List.length (List.modify y.1 (Int.toNat y.2.2.1) fun (x : DVal) => { K := y.2.1, N := DVal.N x, S := DVal.S x }) ∧ Int.toNat y.2.2.1 < List.length (List.modify y.1 (Int.toNat y.2.2.1) fun (x : DVal) => { K := y.2.1, N := DVal.N x, S := DVal.S x }) ∧ IntKind.wrap IntKind.i64 (IntKind.wrap IntKind.i64 (y.2.1 + (1 : Int)) + (1 : Int)) ≤ (4611686018427387903 : Int) ∧ (0 : Int) ≤ y.2.2.1 ∧ Int.toNat y.2.2.1 < List.length (List.modify (List.modify y.1 (Int.toNat y.2.2.1) fun (x : DVal) => { K := y.2.1, N := DVal.N x, S := DVal.S x }) (Int.toNat y.2.2.1) fun (x : DVal) => { K := DVal.K x, N := IntKind.wrap IntKind.i64 (y.2.1 + (1 : Int)), S := DVal.S x }) ∧ Int.toNat y.2.2.1 < List.length (List.modify (List.modify y.1 (Int.toNat y.2.2.1) fun (x : DVal) => { K := y.2.1, N := DVal.N x, S := DVal.S x }) (Int.toNat y.2.2.1) fun (x : DVal) => { K := DVal.K x, N := IntKind.wrap IntKind.i64 (y.2.1 + (1 : Int)), S := DVal.S x }) ∧ I_laws_markValS_2 a k (List.modify (List.modify (List.modify y.1 (Int.toNat y.2.2.1) fun (x : DVal) => { K := y.2.1, N := DVal.N x, S := DVal.S x }) (Int.toNat y.2.2.1) fun (x : DVal) => { K := DVal.K x, N := IntKind.wrap IntKind.i64 (y.2.1 + (1 : Int)), S := DVal.S x }) (Int.toNat y.2.2.1) fun (x : DVal) => { K := DVal.K x, N := DVal.N x, S := markText (IntKind.wrap IntKind.i64 (IntKind.wrap IntKind.i64 (y.2.1 + (1 : Int)) + (1 : Int))) }, IntKind.wrap IntKind.i64 (IntKind.wrap IntKind.i64 (IntKind.wrap IntKind.i64 (y.2.1 + (1 : Int)) + (1 : Int)) + (1 : Int)), IntKind.wrap IntKind.i64 (y.2.2.1 + (1 : Int)), PUnit.unit) ∧ μ_laws_markValS_2 a k (List.modify (List.modify (List.modify y.1 (Int.toNat y.2.2.1) fun (x : DVal) => { K := y.2.1, N := DVal.N x, S := DVal.S x }) (Int.toNat y.2.2.1) fun (x : DVal) => { K := DVal.K x, N := IntKind.wrap IntKind.i64 (y.2.1 + (1 : Int)), S := DVal.S x }) (Int.toNat y.2.2.1) fun (x : DVal) => { K := DVal.K x, N := DVal.N x, S := markText (IntKind.wrap IntKind.i64 (IntKind.wrap IntKind.i64 (y.2.1 + (1 : Int)) + (1 : Int))) }, IntKind.wrap IntKind.i64 (IntKind.wrap IntKind.i64 (IntKind.wrap IntKind.i64 (y.2.1 + (1 : Int)) + (1 : Int)) + (1 : Int)), IntKind.wrap IntKind.i64 (y.2.2.1 + (1 : Int)), PUnit.unit) < μ_laws_markValS_2 a k y else asD [DV.one (Cell.lit (Value.int IntKind.i64 y.2.1))] = asD [DV.one (Cell.lit (Value.int IntKind.i64 (k + (↑(cntValS a) : Int))))] ∧ asD [DV.one (Cell.sl Cd.eVal y.1)] = asD [DV.one (Cell.sl Cd.eVal (markValS a k))]) := by kernel_rfl
theorem ok_laws_markValS : Holds EE (90, con_laws_markValS) := by
  refine holds_of EE_ok Go.Proofs.Try.func90 con_laws_markValS (by kernel_rfl) rfl use_laws_markValS (all_cons ok_laws_markText all_nil) ann_laws_markValS (fun x hp hb => ?_)
  obtain ⟨a, k⟩ := x
  have hb_a : BdDV (U := UU) (.one (.sl .eVal a)) := hb _ (List.mem_cons_self)
  have hl_a : a.length ≤ 9223372036854775807 := Bd.len hb_a
  have hb_k : BdDV (U := UU) (.one (.lit (.int .i64 k))) := hb _ (List.mem_cons_of_mem _ (List.mem_cons_self))
  have hl_k := Bd.i64 hb_k
  have hp0 : 0 ≤ k := hp _ (List.mem_cons_self)
  have hp1 : k + cntValS a ≤ 4611686018427387904 := hp _ (List.mem_cons_of_mem _ (List.mem_cons_self))
  clear hp hb
  rw [vc_laws_markValS a k]
  refine ⟨⟨by omega, by omega, by simp, by simp [ctS]⟩, ?_⟩
  rintro ⟨row, kk, i, ⟨⟩⟩ ⟨h1, h2, rfl, rfl⟩
  simp only
  have hl := mk_rl markVal cntVal a k h1 h2
  refine if_cond (fun hc => ?_) (fun hc => ?_)
  · have hc : i < a.length := by have hc := of_decide_eq_true hc; omega
    have hct := ctS_take cntVal a zVal h1 hc
    have hle := ctS_take_le cntVal a (i + 1).toNat
    have hg := mk_getD _ a zVal (mk_tl markVal cntVal a k h1 h2) h1 hc
    have hM := fun F hF => mkS_mod markVal cntVal a zVal k (i := i) F h1 hc hF
    have hq : (cntValS a : Int) = ctS cntVal a := rfl
    generalize List.getD a i.toNat zVal = x at *
    generalize hkk : k + (ctS cntVal (a.take i.toNat) : Int) = kk at *
    generalize List.take i.toNat (mkS markVal cntVal a k) ++ List.drop i.toNat a = R at *
    simp only [cntVal] at hct
    simp (disch := first | omega | (simp only [List.length_modify]; omega)) only [List.length_modify, wrap_i64, getD_modify, modify_modify, hg, hl]
    repeat' (first | refine And.intro (by omega) ?_ | fail)
    exact ⟨⟨by omega, by omega, hM _ rfl, by omega⟩, by simp only [μ_laws_markValS_2]; omega⟩
  · have hc : a.length ≤ i := by have hc := of_decide_eq_false hc; omega
    rw [mk_done markVal cntVal a k hc, ct_done cntVal a hc]
    exact ⟨rfl, rfl⟩
def con_laws_heldValS : Con UU where
  α := (List DVal) × Int
  md := [.ro, .ro]
  of := fun | [.one (.sl .eVal a0), .one (.lit (.int .i64 a1))] => some (a0, a1) | _ => none
  ds := fun (a, k) => [.one (.sl .eVal a), .one (.lit (.int .i64 k))]
  pre := fun (a, k) => [0 ≤ k, k + cntValS a ≤ 4611686018427387904]
  res := fun (a, k) => ⟨[.one (.lit (.int .i64 (if markValS a k = a then k + cntValS a else -1)))], true, []⟩
  law := by intro l x h; (try simp only at h); split at h <;> cases h; rfl
def I_laws_heldValS_2 (a : (List DVal)) (k : Int) : Int × Int × Unit → Prop := fun (kk, i, _) => 0 ≤ i ∧ i ≤ a.length ∧ kk = k + ctS cntVal (a.take i.toNat) ∧ (mkS markVal cntVal (a.drop i.toNat) kk = a.drop i.toNat ↔ mkS markVal cntVal a k = a)
def μ_laws_heldValS_2 (a : (List DVal)) (k : Int) : Int × Int × Unit → Nat := fun (kk, i, _) => a.length - i.toNat
def ann_laws_heldValS : con_laws_heldValS.α → Nat → Option (Ann UU) := fun (a, k) => annL [(2, annOf [.slot 1 (1, 1024) (.lit (.int .i64)), .slot 5 (5, 1024) (.lit (.int .i64))] (fun _ => I_laws_heldValS_2 a k) (μ_laws_heldValS_2 a k))]
def use_laws_heldValS : List (FuncId × Con UU) := [(89, con_laws_markText)]
theorem vc_laws_heldValS (a : (List DVal)) (k : Int) : goal EE use_laws_heldValS Go.Proofs.Try.f91 con_laws_heldValS ann_laws_heldValS (a, k) = (I_laws_heldValS_2 a k (k, (0 : Int), PUnit.unit) ∧ ∀ (y : Int × Int × PUnit), I_laws_heldValS_2 a k y → bif decide (y.2.1 < (↑(List.length a) : Int)) then (0 : Int) ≤ y.2.1 ∧ Int.toNat y.2.1 < List.length a ∧ bif DVal.K (List.getD a (Int.toNat y.2.1) zVal) != y.1 then Lf [DV.one (Cell.lit (Value.int IntKind.i64 (-1 : Int)))] [DV.one (Cell.lit (Value.int IntKind.i64 (if markValS a k = a then k + (↑(cntValS a) : Int) else (-1 : Int))))] else (0 : Int) ≤ y.2.1 ∧ Int.toNat y.2.1 < List.length a ∧ bif DVal.N (List.getD a (Int.toNat y.2.1) zVal) != IntKind.wrap IntKind.i64 (y.1 + (1 : Int)) then Lf [DV.one (Cell.lit (Value.int IntKind.i64 (-1 : Int)))] [DV.one (Cell.lit (Value.int IntKind.i64 (if markValS a k = a then k + (↑(cntValS a) : Int) else (-1 : Int))))] else (0 : Int) ≤ y.2.1 ∧ Int.toNat y.2.1 < List.length a ∧ IntKind.wrap IntKind.i64 (IntKind.wrap IntKind.i64 (y.1 + (1 : Int)) + (1 : Int)) ≤ (4611686018427387903 : Int) ∧ bif !ByteArray.toList (DVal.S (List.getD a (Int.toNat y.2.1) zVal)) == ByteArray.toList (markText (IntKind.wrap IntKind.i64 (IntKind.wrap IntKind.i64 (y.1 + (1 : Int)) + (1 : Int)))) then Lf [DV.one (Cell.lit (Value.int IntKind.i64 (-1 : Int)))] [DV.one (Cell.lit (Value.int IntKind.i64 (if markValS a k = a then k + (↑(cntValS a) : Int) else (-1 : Int))))] else I_laws_heldValS_2 a k (IntKind.wrap IntKind.i64 (IntKind.wrap IntKind.i64 (IntKind.wrap IntKind.i64 (y.1 + (1 : Int)) + (1 : Int)) + (1 : Int)), IntKind.wrap IntKind.i64 (y.2.1 + (1 : Int)), PUnit.unit) ∧ μ_laws_heldValS_2 a k (IntKind.wrap IntKind.i64 (IntKind.wrap IntKind.i64 (IntKind.wrap IntKind.i64 (y.1 + (1 : Int)) + (1 : Int)) + (1 : Int)), IntKind.wrap IntKind.i64 (y.2.1 + (1 : Int)), PUnit.unit) < μ_laws_heldValS_2 a k y else Lf [DV.one (Cell.lit (Value.int IntKind.i64 y.1))] [DV.one (Cell.lit (Value.int IntKind.i64 (if markValS a k = a then k + (↑(cntValS a) : Int) else (-1 : Int))))]) := by kernel_rfl
theorem ok_laws_heldValS : Holds EE (91, con_laws_heldValS) := by
  refine holds_of EE_ok Go.Proofs.Try.func91 con_laws_heldValS (by kernel_rfl) rfl use_laws_heldValS (all_cons ok_laws_markText all_nil) ann_laws_heldValS (fun x hp hb => ?_)
  obtain ⟨a, k⟩ := x
  have hb_a : BdDV (U := UU) (.one (.sl .eVal a)) := hb _ (List.mem_cons_self)
  have hl_a : a.length ≤ 9223372036854775807 := Bd.len hb_a
  have hb_k : BdDV (U := UU) (.one (.lit (.int .i64 k))) := hb _ (List.mem_cons_of_mem _ (List.mem_cons_self))
  have hl_k := Bd.i64 hb_k
  have hp0 : 0 ≤ k := hp _ (List.mem_cons_self)
  have hp1 : k + cntValS a ≤ 4611686018427387904 := hp _ (List.mem_cons_of_mem _ (List.mem_cons_self))
  clear hp hb
  rw [vc_laws_heldValS a k]
  refine ⟨⟨by omega, by omega, by simp [ctS], by simp⟩, ?_⟩
  rintro ⟨kk, i, ⟨⟩⟩ ⟨h1, h2, hkk, hR⟩
  simp only
  simp only [markValS]
  refine if_cond (fun hc => ?_) (fun hc => ?_)
  · have hc : i < a.length := by have hc := of_decide_eq_true hc; omega
    have hct := ctS_take cntVal a zVal h1 hc
    have hle := ctS_take_le cntVal a (i + 1).toNat
    have hq : (cntValS a : Int) = ctS cntVal a := rfl
    rw [drop_step a zVal h1 hc] at hR
    generalize List.getD a i.toNat zVal = x at *
    simp only [mkS, List.cons.injEq] at hR
    have e : kk + (cntVal x : Int) = kk + 1 + 1 + 1 := by simp only [cntVal]; omega
    rw [e] at hR
    simp only [markVal, cntVal] at hR hct
    simp (disch := omega) only [wrap_i64, bne_int, toList_beq]
    obtain ⟨x_K, x_N, x_S⟩ := x
    simp only [DVal.mk.injEq] at *
    repeat' (first | refine And.intro (by omega) ?_ | fail)
    refine if_cond (fun h => Lf_no (fun hh => ?_)) (fun h => ?_)
    · have hh := hR.2 hh; simp_all
    have h : x_K = kk := by simpa using h
    subst x_K
    repeat' (first | refine And.intro (by omega) ?_ | fail)
    refine if_cond (fun h => Lf_no (fun hh => ?_)) (fun h => ?_)
    · have hh := hR.2 hh; simp_all
    have h : x_N = kk + 1 := by simpa using h
    subst x_N
    repeat' (first | refine And.intro (by omega) ?_ | fail)
    refine if_cond (fun h => Lf_no (fun hh => ?_)) (fun h => ?_)
    · have hh := hR.2 hh; simp_all
    have h : x_S = markText (kk + 1 + 1) := by simpa using h
    subst x_S
    exact ⟨⟨by omega, by omega, by omega, by simpa using hR⟩, by simp only [μ_laws_heldValS_2]; omega⟩
  · have hc : a.length ≤ i := by have hc := of_decide_eq_false hc; omega
    rw [drop_end a hc] at hR
    exact Lf_yes (hR.1 rfl) (by rw [hkk, ct_done _ _ hc]; rfl)
def con_laws_szFact : Con UU where
  α := DFact × Int
  md := [.ro, .ro]
  of := fun | [.agg [.lit (.string a0), .sl .lVal a1], .one (.lit (.int .i64 a2))] => some (⟨a0, a1⟩, a2) | _ => none
  ds := fun (a, left) => [.agg [.lit (.string a.Kind), .sl .lVal a.Fields], .one (.lit (.int .i64 left))]
  pre := fun (a, left) => [0 ≤ left]
  res := fun (a, left) => ⟨[.one (.lit (.int .i64 (szr left (sizeFact a))))], true, []⟩
  law := by intro l x h; (try simp only at h); split at h <;> cases h; rfl
def ann_laws_szFact : con_laws_szFact.α → Nat → Option (Ann UU) := fun (a, left) => annL []
def use_laws_szFact : List (FuncId × Con UU) := [(114, con_laws_szValS)]
theorem vc_laws_szFact (a : DFact) (left : Int) : goal EE use_laws_szFact Go.Proofs.Try.f49 con_laws_szFact ann_laws_szFact (a, left) = (bif decide (IntKind.wrap IntKind.i64 (left - (↑(ByteArray.size (DFact.Kind a)) : Int)) < (0 : Int)) then Lf [DV.one (Cell.lit (Value.int IntKind.i64 (-1 : Int)))] [DV.one (Cell.lit (Value.int IntKind.i64 (szr left (sizeFact a))))] else (0 : Int) ≤ IntKind.wrap IntKind.i64 (left - (↑(ByteArray.size (DFact.Kind a)) : Int)) ∧ bif decide (szr (IntKind.wrap IntKind.i64 (left - (↑(ByteArray.size (DFact.Kind a)) : Int))) (sizeValS (DFact.Fields a)) < (0 : Int)) then Lf [DV.one (Cell.lit (Value.int IntKind.i64 (-1 : Int)))] [DV.one (Cell.lit (Value.int IntKind.i64 (szr left (sizeFact a))))] else Lf [DV.one (Cell.lit (Value.int IntKind.i64 (szr (IntKind.wrap IntKind.i64 (left - (↑(ByteArray.size (DFact.Kind a)) : Int))) (sizeValS (DFact.Fields a)))))] [DV.one (Cell.lit (Value.int IntKind.i64 (szr left (sizeFact a))))]) := by kernel_rfl
theorem ok_laws_szFact : Holds EE (49, con_laws_szFact) := by
  refine holds_of EE_ok Go.Proofs.Try.func49 con_laws_szFact (by kernel_rfl) rfl use_laws_szFact (all_cons ok_laws_szValS all_nil) ann_laws_szFact (fun x hp hb => ?_)
  obtain ⟨a, left⟩ := x
  have hb_a : BdDV (U := UU) (.agg [.lit (.string a.Kind), .sl .lVal a.Fields]) := hb _ (List.mem_cons_self)
  have hl_a_Kind : a.Kind.size ≤ 9223372036854775807 := Bd.str (hb_a _ (by simp))
  have hl_a_Fields : a.Fields.length ≤ 9223372036854775807 := Bd.len (U := UU) (τ := .lVal) (xs := a.Fields) (hb_a _ (by simp))
  have hb_left : BdDV (U := UU) (.one (.lit (.int .i64 left))) := hb _ (List.mem_cons_of_mem _ (List.mem_cons_self))
  have hl_left := Bd.i64 hb_left
  have hp0 : 0 ≤ left := hp _ (List.mem_cons_self)
  clear hp hb
  rw [vc_laws_szFact a left]
  rw [wrap_i64 (by omega) (by omega)]
  refine if_cond (fun h => Lf_i (szr_bad' ?_)) (fun h => ?_)
  · have h := of_decide_eq_true h; simp only [sizeFact]; omega
  have h0 := of_decide_eq_false h
  refine ⟨by omega, if_cond (fun h => Lf_i (szr_bad' ?_)) (fun h => ?_)⟩
  · have h := szr_neg h; simp only [sizeFact]; omega
  obtain ⟨e1, h1⟩ := szr_pos h
  rw [e1]
  exact Lf_i (by rw [← szr_ok' (by simp only [sizeFact]; omega)]; simp only [sizeFact]; try omega)
def con_laws_toFact : Con UU where
  α := DFact
  md := [.ro]
  of := fun | [.agg [.lit (.string a0), .sl .lVal a1]] => some ⟨a0, a1⟩ | _ => none
  ds := fun a => [.agg [.lit (.string a.Kind), .sl .lVal a.Fields]]
  pre := fun a => [sizeFact a ≤ 4294967296]
  res := fun a => ⟨[.agg [.lit (.string a.Kind), .sl .eVal a.Fields]], true, []⟩
  law := by intro l x h; (try simp only at h); split at h <;> cases h; rfl
def ann_laws_toFact : con_laws_toFact.α → Nat → Option (Ann UU) := fun a => annL []
def use_laws_toFact : List (FuncId × Con UU) := [(117, con_laws_toValS)]
theorem vc_laws_toFact (a : DFact) : goal EE use_laws_toFact Go.Proofs.Try.f51 con_laws_toFact ann_laws_toFact a = (sizeValS (DFact.Fields a) ≤ (4294967296 : Nat) ∧ Lf [DV.agg [Cell.lit (Value.string (DFact.Kind a)), Cell.sl Cd.eVal (DFact.Fields a)]] [DV.agg [Cell.lit (Value.string (DFact.Kind a)), Cell.sl Cd.eVal (DFact.Fields a)]]) := by kernel_rfl
theorem ok_laws_toFact : Holds EE (51, con_laws_toFact) := by
  refine holds_of EE_ok Go.Proofs.Try.func51 con_laws_toFact (by kernel_rfl) rfl use_laws_toFact (all_cons ok_laws_toValS all_nil) ann_laws_toFact (fun (a : DFact) hp hb => ?_)
  have hb_a : BdDV (U := UU) (.agg [.lit (.string a.Kind), .sl .lVal a.Fields]) := hb _ (List.mem_cons_self)
  have hl_a_Kind : a.Kind.size ≤ 9223372036854775807 := Bd.str (hb_a _ (by simp))
  have hl_a_Fields : a.Fields.length ≤ 9223372036854775807 := Bd.len (U := UU) (τ := .lVal) (xs := a.Fields) (hb_a _ (by simp))
  have hp0 : sizeFact a ≤ 4294967296 := hp _ (List.mem_cons_self)
  clear hp hb
  rw [vc_laws_toFact a]
  simp only [sizeFact] at hp0
  repeat' (first | exact Lf_rfl _ | (refine And.intro (by omega) ?_))
def con_laws_eqFact : Con UU where
  α := DFact × DFact
  md := [.ro, .ro]
  of := fun | [.agg [.lit (.string a0), .sl .eVal a1], .agg [.lit (.string a2), .sl .eVal a3]] => some (⟨a0, a1⟩, ⟨a2, a3⟩) | _ => none
  ds := fun (a, b) => [.agg [.lit (.string a.Kind), .sl .eVal a.Fields], .agg [.lit (.string b.Kind), .sl .eVal b.Fields]]
  pre := fun (a, b) => []
  res := fun (a, b) => ⟨[.one (.lit (.bool (decide (a = b))))], true, []⟩
  law := by intro l x h; (try simp only at h); split at h <;> cases h; rfl
def ann_laws_eqFact : con_laws_eqFact.α → Nat → Option (Ann UU) := fun (a, b) => annL []
def use_laws_eqFact : List (FuncId × Con UU) := [(120, con_laws_eqValS)]
theorem vc_laws_eqFact (a : DFact) (b : DFact) : goal EE use_laws_eqFact Go.Proofs.Try.f53 con_laws_eqFact ann_laws_eqFact (a, b) = (bif !ByteArray.toList (DFact.Kind a) == ByteArray.toList (DFact.Kind b) then Lf [DV.one (Cell.lit (Value.bool false))] [DV.one (Cell.lit (Value.bool (decide (a = b))))] else bif !decide (DFact.Fields a = DFact.Fields b) then Lf [DV.one (Cell.lit (Value.bool false))] [DV.one (Cell.lit (Value.bool (decide (a = b))))] else Lf [DV.one (Cell.lit (Value.bool true))] [DV.one (Cell.lit (Value.bool (decide (a = b))))]) := by kernel_rfl
theorem ok_laws_eqFact : Holds EE (53, con_laws_eqFact) := by
  refine holds_of EE_ok Go.Proofs.Try.func53 con_laws_eqFact (by kernel_rfl) rfl use_laws_eqFact (all_cons ok_laws_eqValS all_nil) ann_laws_eqFact (fun x hp hb => ?_)
  obtain ⟨a, b⟩ := x
  have hb_a : BdDV (U := UU) (.agg [.lit (.string a.Kind), .sl .eVal a.Fields]) := hb _ (List.mem_cons_self)
  have hl_a_Kind : a.Kind.size ≤ 9223372036854775807 := Bd.str (hb_a _ (by simp))
  have hl_a_Fields : a.Fields.length ≤ 9223372036854775807 := Bd.len (U := UU) (τ := .eVal) (xs := a.Fields) (hb_a _ (by simp))
  have hb_b : BdDV (U := UU) (.agg [.lit (.string b.Kind), .sl .eVal b.Fields]) := hb _ (List.mem_cons_of_mem _ (List.mem_cons_self))
  have hl_b_Kind : b.Kind.size ≤ 9223372036854775807 := Bd.str (hb_b _ (by simp))
  have hl_b_Fields : b.Fields.length ≤ 9223372036854775807 := Bd.len (U := UU) (τ := .eVal) (xs := b.Fields) (hb_b _ (by simp))
  clear hp hb
  rw [vc_laws_eqFact a b]
  obtain ⟨aKind, aFields⟩ := a
  obtain ⟨bKind, bFields⟩ := b
  repeat' (apply if_cond <;> intro _)
  all_goals (first | apply Lf_t | apply Lf_f) <;> simp_all
def con_laws_markFact : Con UU where
  α := DFact × Int
  md := [.wr, .ro]
  of := fun | [.agg [.lit (.string a0), .sl .eVal a1], .one (.lit (.int .i64 a2))] => some (⟨a0, a1⟩, a2) | _ => none
  ds := fun (a, k) => [.agg [.lit (.string a.Kind), .sl .eVal a.Fields], .one (.lit (.int .i64 k))]
  pre := fun (a, k) => [0 ≤ k, k + ctFact a ≤ 4611686018427387904]
  res := fun (a, k) => ⟨[.one (.lit (.int .i64 (k + ctFact a)))], true, [.agg [.lit (.string ((mkFact a k)).Kind), .sl .eVal ((mkFact a k)).Fields]]⟩
  law := by intro l x h; (try simp only at h); split at h <;> cases h; rfl
def ann_laws_markFact : con_laws_markFact.α → Nat → Option (Ann UU) := fun (a, k) => annL []
def use_laws_markFact : List (FuncId × Con UU) := [(90, con_laws_markValS)]
theorem vc_laws_markFact (a : DFact) (k : Int) : goal EE use_laws_markFact Go.Proofs.Try.f54 con_laws_markFact ann_laws_markFact (a, k) = ((0 : Int) ≤ k ∧ k + (↑(cntValS (DFact.Fields a)) : Int) ≤ (4611686018427387904 : Int) ∧ asD [DV.one (Cell.lit (Value.int IntKind.i64 (k + (↑(cntValS (DFact.Fields a)) : Int))))] = asD [DV.one (Cell.lit (Value.int IntKind.i64 (k + (↑(ctFact a) : Int))))] ∧ asD [DV.agg [Cell.lit (Value.string (DFact.Kind a)), Cell.sl Cd.eVal (markValS (DFact.Fields a) k)]] = asD [DV.agg [Cell.lit (Value.string (DFact.Kind (mkFact a k))), Cell.sl Cd.eVal (DFact.Fields (mkFact a k))]]) := by kernel_rfl
theorem ok_laws_markFact : Holds EE (54, con_laws_markFact) := by
  refine holds_of EE_ok Go.Proofs.Try.func54 con_laws_markFact (by kernel_rfl) rfl use_laws_markFact (all_cons ok_laws_markValS all_nil) ann_laws_markFact (fun x hp hb => ?_)
  obtain ⟨a, k⟩ := x
  have hb_a : BdDV (U := UU) (.agg [.lit (.string a.Kind), .sl .eVal a.Fields]) := hb _ (List.mem_cons_self)
  have hl_a_Kind : a.Kind.size ≤ 9223372036854775807 := Bd.str (hb_a _ (by simp))
  have hl_a_Fields : a.Fields.length ≤ 9223372036854775807 := Bd.len (U := UU) (τ := .eVal) (xs := a.Fields) (hb_a _ (by simp))
  have hb_k : BdDV (U := UU) (.one (.lit (.int .i64 k))) := hb _ (List.mem_cons_of_mem _ (List.mem_cons_self))
  have hl_k := Bd.i64 hb_k
  have hp0 : 0 ≤ k := hp _ (List.mem_cons_self)
  have hp1 : k + ctFact a ≤ 4611686018427387904 := hp _ (List.mem_cons_of_mem _ (List.mem_cons_self))
  clear hp hb
  rw [vc_laws_markFact a k]
  simp only [ctFact] at hp1
  repeat' (first | refine And.intro (by omega) ?_ | fail)
  exact ⟨by simp only [ctFact, Int.natCast_add, Int.add_assoc], rfl⟩
def con_laws_heldFact : Con UU where
  α := DFact × Int
  md := [.ro, .ro]
  of := fun | [.agg [.lit (.string a0), .sl .eVal a1], .one (.lit (.int .i64 a2))] => some (⟨a0, a1⟩, a2) | _ => none
  ds := fun (a, k) => [.agg [.lit (.string a.Kind), .sl .eVal a.Fields], .one (.lit (.int .i64 k))]
  pre := fun (a, k) => [0 ≤ k, k + ctFact a ≤ 4611686018427387904]
  res := fun (a, k) => ⟨[.one (.lit (.int .i64 (if mkFact a k = a then k + ctFact a else -1)))], true, []⟩
  law := by intro l x h; (try simp only at h); split at h <;> cases h; rfl
def ann_laws_heldFact : con_laws_heldFact.α → Nat → Option (Ann UU) := fun (a, k) => annL []
def use_laws_heldFact : List (FuncId × Con UU) := [(91, con_laws_heldValS)]
theorem vc_laws_heldFact (a : DFact) (k : Int) : goal EE use_laws_heldFact Go.Proofs.Try.f144 con_laws_heldFact ann_laws_heldFact (a, k) = ((0 : Int) ≤ k ∧ k + (↑(cntValS (DFact.Fields a)) : Int) ≤ (4611686018427387904 : Int) ∧ bif decide ((if markValS (DFact.Fields a) k = DFact.Fields a then k + (↑(cntValS (DFact.Fields a)) : Int) else (-1 : Int)) < (0 : Int)) then Lf [DV.one (Cell.lit (Value.int IntKind.i64 (-1 : Int)))] [DV.one (Cell.lit (Value.int IntKind.i64 (if mkFact a k = a then k + (↑(ctFact a) : Int) else (-1 : Int))))] else Lf [DV.one (Cell.lit (Value.int IntKind.i64 (if markValS (DFact.Fields a) k = DFact.Fields a then k + (↑(cntValS (DFact.Fields a)) : Int) else (-1 : Int))))] [DV.one (Cell.lit (Value.int IntKind.i64 (if mkFact a k = a then k + (↑(ctFact a) : Int) else (-1 : Int))))]) := by kernel_rfl
theorem ok_laws_heldFact : Holds EE (144, con_laws_heldFact) := by
  refine holds_of EE_ok Go.Proofs.Try.func144 con_laws_heldFact (by kernel_rfl) rfl use_laws_heldFact (all_cons ok_laws_heldValS all_nil) ann_laws_heldFact (fun x hp hb => ?_)
  obtain ⟨a, k⟩ := x
  have hb_a : BdDV (U := UU) (.agg [.lit (.string a.Kind), .sl .eVal a.Fields]) := hb _ (List.mem_cons_self)
  have hl_a_Kind : a.Kind.size ≤ 9223372036854775807 := Bd.str (hb_a _ (by simp))
  have hl_a_Fields : a.Fields.length ≤ 9223372036854775807 := Bd.len (U := UU) (τ := .eVal) (xs := a.Fields) (hb_a _ (by simp))
  have hb_k : BdDV (U := UU) (.one (.lit (.int .i64 k))) := hb _ (List.mem_cons_of_mem _ (List.mem_cons_self))
  have hl_k := Bd.i64 hb_k
  have hp0 : 0 ≤ k := hp _ (List.mem_cons_self)
  have hp1 : k + ctFact a ≤ 4611686018427387904 := hp _ (List.mem_cons_of_mem _ (List.mem_cons_self))
  clear hp hb
  rw [vc_laws_heldFact a k]
  simp only [ctFact] at hp1
  repeat' (first | refine And.intro (by omega) ?_ | fail)
  by_cases hm1 : markValS a.Fields (k) = a.Fields
  rotate_left
  · simp only [if_neg hm1]; rw [cond_yes (by decide)]
    exact Lf_no (fun hh => hm1 (congrArg (fun t : DFact => t.Fields) hh))
  simp only [if_pos hm1]
  refine if_cond (fun h => absurd (of_decide_eq_true h) (by omega)) (fun h => ?_)
  exact Lf_yes (by simp only [mkFact, hm1]) (by simp only [ctFact]; try omega)
def con_laws_szTimer : Con UU where
  α := DTimer × Int
  md := [.ro, .ro]
  of := fun | [.agg [.lit (.int .i64 a0), .lit (.string a1), .sl .lVal a2], .one (.lit (.int .i64 a3))] => some (⟨a0, ⟨a1, a2⟩⟩, a3) | _ => none
  ds := fun (a, left) => [.agg [.lit (.int .i64 a.At), .lit (.string a.F.Kind), .sl .lVal a.F.Fields], .one (.lit (.int .i64 left))]
  pre := fun (a, left) => [0 ≤ left]
  res := fun (a, left) => ⟨[.one (.lit (.int .i64 (szr left (sizeTimer a))))], true, []⟩
  law := by intro l x h; (try simp only at h); split at h <;> cases h; rfl
def ann_laws_szTimer : con_laws_szTimer.α → Nat → Option (Ann UU) := fun (a, left) => annL []
def use_laws_szTimer : List (FuncId × Con UU) := [(49, con_laws_szFact)]
theorem vc_laws_szTimer (a : DTimer) (left : Int) : goal EE use_laws_szTimer Go.Proofs.Try.f39 con_laws_szTimer ann_laws_szTimer (a, left) = ((0 : Int) ≤ left ∧ bif decide (szr left (sizeFact (DTimer.F a)) < (0 : Int)) then Lf [DV.one (Cell.lit (Value.int IntKind.i64 (-1 : Int)))] [DV.one (Cell.lit (Value.int IntKind.i64 (szr left (sizeTimer a))))] else Lf [DV.one (Cell.lit (Value.int IntKind.i64 (szr left (sizeFact (DTimer.F a)))))] [DV.one (Cell.lit (Value.int IntKind.i64 (szr left (sizeTimer a))))]) := by kernel_rfl
theorem ok_laws_szTimer : Holds EE (39, con_laws_szTimer) := by
  refine holds_of EE_ok Go.Proofs.Try.func39 con_laws_szTimer (by kernel_rfl) rfl use_laws_szTimer (all_cons ok_laws_szFact all_nil) ann_laws_szTimer (fun x hp hb => ?_)
  obtain ⟨a, left⟩ := x
  have hb_a : BdDV (U := UU) (.agg [.lit (.int .i64 a.At), .lit (.string a.F.Kind), .sl .lVal a.F.Fields]) := hb _ (List.mem_cons_self)
  have hl_a_F_Kind : a.F.Kind.size ≤ 9223372036854775807 := Bd.str (hb_a _ (by simp))
  have hl_a_F_Fields : a.F.Fields.length ≤ 9223372036854775807 := Bd.len (U := UU) (τ := .lVal) (xs := a.F.Fields) (hb_a _ (by simp))
  have hb_left : BdDV (U := UU) (.one (.lit (.int .i64 left))) := hb _ (List.mem_cons_of_mem _ (List.mem_cons_self))
  have hl_left := Bd.i64 hb_left
  have hp0 : 0 ≤ left := hp _ (List.mem_cons_self)
  clear hp hb
  rw [vc_laws_szTimer a left]
  refine ⟨by omega, if_cond (fun h => Lf_i (szr_bad' ?_)) (fun h => ?_)⟩
  · have h := szr_neg h; simp only [sizeTimer]; omega
  obtain ⟨e0, h0⟩ := szr_pos h
  rw [e0]
  exact Lf_i (by rw [← szr_ok' (by simp only [sizeTimer]; omega)]; simp only [sizeTimer]; try omega)
def con_laws_toTimer : Con UU where
  α := DTimer
  md := [.ro]
  of := fun | [.agg [.lit (.int .i64 a0), .lit (.string a1), .sl .lVal a2]] => some ⟨a0, ⟨a1, a2⟩⟩ | _ => none
  ds := fun a => [.agg [.lit (.int .i64 a.At), .lit (.string a.F.Kind), .sl .lVal a.F.Fields]]
  pre := fun a => [sizeTimer a ≤ 4294967296]
  res := fun a => ⟨[.agg [.lit (.int .i64 a.At), .lit (.string a.F.Kind), .sl .eVal a.F.Fields]], true, []⟩
  law := by intro l x h; (try simp only at h); split at h <;> cases h; rfl
def ann_laws_toTimer : con_laws_toTimer.α → Nat → Option (Ann UU) := fun a => annL []
def use_laws_toTimer : List (FuncId × Con UU) := [(51, con_laws_toFact)]
theorem vc_laws_toTimer (a : DTimer) : goal EE use_laws_toTimer Go.Proofs.Try.f42 con_laws_toTimer ann_laws_toTimer a = (sizeFact (DTimer.F a) ≤ (4294967296 : Nat) ∧ Lf [DV.agg [Cell.lit (Value.int IntKind.i64 (DTimer.At a)), Cell.lit (Value.string (DFact.Kind (DTimer.F a))), Cell.sl Cd.eVal (DFact.Fields (DTimer.F a))]] [DV.agg [Cell.lit (Value.int IntKind.i64 (DTimer.At a)), Cell.lit (Value.string (DFact.Kind (DTimer.F a))), Cell.sl Cd.eVal (DFact.Fields (DTimer.F a))]]) := by kernel_rfl
theorem ok_laws_toTimer : Holds EE (42, con_laws_toTimer) := by
  refine holds_of EE_ok Go.Proofs.Try.func42 con_laws_toTimer (by kernel_rfl) rfl use_laws_toTimer (all_cons ok_laws_toFact all_nil) ann_laws_toTimer (fun (a : DTimer) hp hb => ?_)
  have hb_a : BdDV (U := UU) (.agg [.lit (.int .i64 a.At), .lit (.string a.F.Kind), .sl .lVal a.F.Fields]) := hb _ (List.mem_cons_self)
  have hl_a_F_Kind : a.F.Kind.size ≤ 9223372036854775807 := Bd.str (hb_a _ (by simp))
  have hl_a_F_Fields : a.F.Fields.length ≤ 9223372036854775807 := Bd.len (U := UU) (τ := .lVal) (xs := a.F.Fields) (hb_a _ (by simp))
  have hp0 : sizeTimer a ≤ 4294967296 := hp _ (List.mem_cons_self)
  clear hp hb
  rw [vc_laws_toTimer a]
  simp only [sizeTimer] at hp0
  repeat' (first | exact Lf_rfl _ | (refine And.intro (by omega) ?_))
def con_laws_eqTimer : Con UU where
  α := DTimer × DTimer
  md := [.ro, .ro]
  of := fun | [.agg [.lit (.int .i64 a0), .lit (.string a1), .sl .eVal a2], .agg [.lit (.int .i64 a3), .lit (.string a4), .sl .eVal a5]] => some (⟨a0, ⟨a1, a2⟩⟩, ⟨a3, ⟨a4, a5⟩⟩) | _ => none
  ds := fun (a, b) => [.agg [.lit (.int .i64 a.At), .lit (.string a.F.Kind), .sl .eVal a.F.Fields], .agg [.lit (.int .i64 b.At), .lit (.string b.F.Kind), .sl .eVal b.F.Fields]]
  pre := fun (a, b) => []
  res := fun (a, b) => ⟨[.one (.lit (.bool (decide (a = b))))], true, []⟩
  law := by intro l x h; (try simp only at h); split at h <;> cases h; rfl
def ann_laws_eqTimer : con_laws_eqTimer.α → Nat → Option (Ann UU) := fun (a, b) => annL []
def use_laws_eqTimer : List (FuncId × Con UU) := [(53, con_laws_eqFact)]
theorem vc_laws_eqTimer (a : DTimer) (b : DTimer) : goal EE use_laws_eqTimer Go.Proofs.Try.f45 con_laws_eqTimer ann_laws_eqTimer (a, b) = (bif DTimer.At a != DTimer.At b then Lf [DV.one (Cell.lit (Value.bool false))] [DV.one (Cell.lit (Value.bool (decide (a = b))))] else bif !decide (DTimer.F a = DTimer.F b) then Lf [DV.one (Cell.lit (Value.bool false))] [DV.one (Cell.lit (Value.bool (decide (a = b))))] else Lf [DV.one (Cell.lit (Value.bool true))] [DV.one (Cell.lit (Value.bool (decide (a = b))))]) := by kernel_rfl
theorem ok_laws_eqTimer : Holds EE (45, con_laws_eqTimer) := by
  refine holds_of EE_ok Go.Proofs.Try.func45 con_laws_eqTimer (by kernel_rfl) rfl use_laws_eqTimer (all_cons ok_laws_eqFact all_nil) ann_laws_eqTimer (fun x hp hb => ?_)
  obtain ⟨a, b⟩ := x
  have hb_a : BdDV (U := UU) (.agg [.lit (.int .i64 a.At), .lit (.string a.F.Kind), .sl .eVal a.F.Fields]) := hb _ (List.mem_cons_self)
  have hl_a_F_Kind : a.F.Kind.size ≤ 9223372036854775807 := Bd.str (hb_a _ (by simp))
  have hl_a_F_Fields : a.F.Fields.length ≤ 9223372036854775807 := Bd.len (U := UU) (τ := .eVal) (xs := a.F.Fields) (hb_a _ (by simp))
  have hb_b : BdDV (U := UU) (.agg [.lit (.int .i64 b.At), .lit (.string b.F.Kind), .sl .eVal b.F.Fields]) := hb _ (List.mem_cons_of_mem _ (List.mem_cons_self))
  have hl_b_F_Kind : b.F.Kind.size ≤ 9223372036854775807 := Bd.str (hb_b _ (by simp))
  have hl_b_F_Fields : b.F.Fields.length ≤ 9223372036854775807 := Bd.len (U := UU) (τ := .eVal) (xs := b.F.Fields) (hb_b _ (by simp))
  clear hp hb
  rw [vc_laws_eqTimer a b]
  obtain ⟨aAt, aF⟩ := a
  obtain ⟨bAt, bF⟩ := b
  repeat' (apply if_cond <;> intro _)
  all_goals (first | apply Lf_t | apply Lf_f) <;> simp_all
def con_laws_szTimerS : Con UU where
  α := (List DTimer) × Int
  md := [.ro, .ro]
  of := fun | [.one (.sl .lTimer a0), .one (.lit (.int .i64 a1))] => some (a0, a1) | _ => none
  ds := fun (a, left) => [.one (.sl .lTimer a), .one (.lit (.int .i64 left))]
  pre := fun (a, left) => [0 ≤ left]
  res := fun (a, left) => ⟨[.one (.lit (.int .i64 (szr left (sizeTimerS a))))], true, []⟩
  law := by intro l x h; (try simp only at h); split at h <;> cases h; rfl
def I_laws_szTimerS_5 (a : (List DTimer)) (left : Int) : Int × Int × Unit → Prop := fun (lf, i, _) => 0 ≤ lf ∧ 0 ≤ i ∧ i ≤ a.length ∧ szr lf ((a.drop i.toNat).map sizeTimer).sum = szr left (sizeTimerS a)
def μ_laws_szTimerS_5 (a : (List DTimer)) (left : Int) : Int × Int × Unit → Nat := fun (lf, i, _) => a.length - i.toNat
def ann_laws_szTimerS : con_laws_szTimerS.α → Nat → Option (Ann UU) := fun (a, left) => annL [(5, annOf [.slot 1 (1, 1024) (.lit (.int .i64)), .slot 5 (5, 1024) (.lit (.int .i64))] (fun _ => I_laws_szTimerS_5 a left) (μ_laws_szTimerS_5 a left))]
def use_laws_szTimerS : List (FuncId × Con UU) := [(39, con_laws_szTimer)]
theorem vc_laws_szTimerS (a : (List DTimer)) (left : Int) : goal EE use_laws_szTimerS Go.Proofs.Try.f38 con_laws_szTimerS ann_laws_szTimerS (a, left) = (bif decide (IntKind.wrap IntKind.i64 (left - (↑(List.length a) : Int)) < (0 : Int)) then Lf [DV.one (Cell.lit (Value.int IntKind.i64 (-1 : Int)))] [DV.one (Cell.lit (Value.int IntKind.i64 (szr left (sizeTimerS a))))] else I_laws_szTimerS_5 a left (IntKind.wrap IntKind.i64 (left - (↑(List.length a) : Int)), (0 : Int), PUnit.unit) ∧ ∀ (y : Int × Int × PUnit), I_laws_szTimerS_5 a left y → bif decide (y.2.1 < (↑(List.length a) : Int)) then (0 : Int) ≤ y.2.1 ∧ Int.toNat y.2.1 < List.length a ∧ (0 : Int) ≤ y.1 ∧ bif decide (szr y.1 (sizeTimer (List.getD a (Int.toNat y.2.1) zTimer)) < (0 : Int)) then Lf [DV.one (Cell.lit (Value.int IntKind.i64 (-1 : Int)))] [DV.one (Cell.lit (Value.int IntKind.i64 (szr left (sizeTimerS a))))] else I_laws_szTimerS_5 a left (szr y.1 (sizeTimer (List.getD a (Int.toNat y.2.1) zTimer)), IntKind.wrap IntKind.i64 (y.2.1 + (1 : Int)), PUnit.unit) ∧ μ_laws_szTimerS_5 a left (szr y.1 (sizeTimer (List.getD a (Int.toNat y.2.1) zTimer)), IntKind.wrap IntKind.i64 (y.2.1 + (1 : Int)), PUnit.unit) < μ_laws_szTimerS_5 a left y else Lf [DV.one (Cell.lit (Value.int IntKind.i64 y.1))] [DV.one (Cell.lit (Value.int IntKind.i64 (szr left (sizeTimerS a))))]) := by kernel_rfl
theorem ok_laws_szTimerS : Holds EE (38, con_laws_szTimerS) := by
  refine holds_of EE_ok Go.Proofs.Try.func38 con_laws_szTimerS (by kernel_rfl) rfl use_laws_szTimerS (all_cons ok_laws_szTimer all_nil) ann_laws_szTimerS (fun x hp hb => ?_)
  obtain ⟨a, left⟩ := x
  have hb_a : BdDV (U := UU) (.one (.sl .lTimer a)) := hb _ (List.mem_cons_self)
  have hl_a : a.length ≤ 9223372036854775807 := Bd.len hb_a
  have hb_left : BdDV (U := UU) (.one (.lit (.int .i64 left))) := hb _ (List.mem_cons_of_mem _ (List.mem_cons_self))
  have hl_left := Bd.i64 hb_left
  have hp0 : 0 ≤ left := hp _ (List.mem_cons_self)
  clear hp hb
  rw [vc_laws_szTimerS a left]
  rw [wrap_i64 (by omega) (by omega)]
  refine if_cond (fun h => Lf_i ?_) (fun h => ⟨?_, ?_⟩)
  · simp [szr, sizeTimerS] at *; omega
  · simp only [I_laws_szTimerS_5, sizeTimerS]; simp at h; have h' : 0 ≤ left - a.length := by omega
    exact ⟨h', by omega, by omega, szr_sub h'⟩
  rintro ⟨lf, i, ⟨⟩⟩ ⟨h0, h1, h2, hR⟩
  refine if_cond (fun hc => ?_) (fun hc => ?_)
  · have hc : i < a.length := by simpa using hc
    rw [drop_step a zTimer h1 hc, List.map_cons, List.sum_cons] at hR
    simp only at *
    rw [wrap_i64 (by omega) (by omega)]
    generalize List.getD a i.toNat zTimer = x at *
    refine ⟨by omega, by omega, by omega, if_cond (fun h => Lf_i ?_) (fun h => ⟨⟨?_, by omega, by omega, ?_⟩, ?_⟩)⟩
    · rw [← hR]; exact (szr_bad (of_decide_eq_true h)).symm
    · simp at h; omega
    · rw [← hR]; simp at h; exact szr_szr h
    · simp only [μ_laws_szTimerS_5]; omega
  · have hc : a.length ≤ i := by simpa using hc
    rw [drop_end a hc] at hR
    apply Lf_i; rw [← hR]; simp [szr, h0]
def con_laws_toTimerS : Con UU where
  α := (List DTimer)
  md := [.ro]
  of := fun | [.one (.sl .lTimer a0)] => some a0 | _ => none
  ds := fun a => [.one (.sl .lTimer a)]
  pre := fun a => [sizeTimerS a ≤ 4294967296]
  res := fun a => ⟨[.one (.sl .eTimer a)], true, []⟩
  law := by intro l x h; (try simp only at h); split at h <;> cases h; rfl
def I_laws_toTimerS_3 (a : (List DTimer)) : List DTimer × Int × Unit → Prop := fun (out, i, _) => 0 ≤ i ∧ i ≤ a.length ∧ out = a.take i.toNat ++ List.replicate (a.length - i.toNat) zTimer
def μ_laws_toTimerS_3 (a : (List DTimer)) : List DTimer × Int × Unit → Nat := fun (out, i, _) => a.length - i.toNat
def ann_laws_toTimerS : con_laws_toTimerS.α → Nat → Option (Ann UU) := fun a => annL [(3, annOf [.slot 3 (3, 1024) (.own .eTimer true), .slot 4 (4, 1024) (.lit (.int .i64))] (fun _ => I_laws_toTimerS_3 a) (μ_laws_toTimerS_3 a))]
def use_laws_toTimerS : List (FuncId × Con UU) := [(42, con_laws_toTimer)]
theorem vc_laws_toTimerS (a : (List DTimer)) : goal EE use_laws_toTimerS Go.Proofs.Try.f41 con_laws_toTimerS ann_laws_toTimerS a = ((0 : Int) ≤ (↑(List.length a) : Int) ∧ (↑(List.length a) : Int) = (↑(List.length a) : Int) ∧ (↑(List.length a) : Int) ≤ (4294967296 : Int) ∧ I_laws_toTimerS_3 a (List.replicate (Int.toNat (↑(List.length a) : Int)) zTimer, (0 : Int), PUnit.unit) ∧ ∀ (y : List DTimer × Int × PUnit), I_laws_toTimerS_3 a y → bif decide (y.2.1 < (↑(List.length a) : Int)) then (0 : Int) ≤ y.2.1 ∧ Int.toNat y.2.1 < List.length a ∧ sizeTimer (List.getD a (Int.toNat y.2.1) zTimer) ≤ (4294967296 : Nat) ∧ (0 : Int) ≤ y.2.1 ∧ Int.toNat y.2.1 < List.length y.1 ∧ Int.toNat y.2.1 < List.length y.1 ∧ I_laws_toTimerS_3 a (List.set y.1 (Int.toNat y.2.1) (List.getD a (Int.toNat y.2.1) zTimer), IntKind.wrap IntKind.i64 (y.2.1 + (1 : Int)), PUnit.unit) ∧ μ_laws_toTimerS_3 a (List.set y.1 (Int.toNat y.2.1) (List.getD a (Int.toNat y.2.1) zTimer), IntKind.wrap IntKind.i64 (y.2.1 + (1 : Int)), PUnit.unit) < μ_laws_toTimerS_3 a y else Lf [DV.one (Cell.sl Cd.eTimer y.1)] [DV.one (Cell.sl Cd.eTimer a)]) := by kernel_rfl
theorem ok_laws_toTimerS : Holds EE (41, con_laws_toTimerS) := by
  refine holds_of EE_ok Go.Proofs.Try.func41 con_laws_toTimerS (by kernel_rfl) rfl use_laws_toTimerS (all_cons ok_laws_toTimer all_nil) ann_laws_toTimerS (fun (a : (List DTimer)) hp hb => ?_)
  have hb_a : BdDV (U := UU) (.one (.sl .lTimer a)) := hb _ (List.mem_cons_self)
  have hl_a : a.length ≤ 9223372036854775807 := Bd.len hb_a
  have hp0 : sizeTimerS a ≤ 4294967296 := hp _ (List.mem_cons_self)
  clear hp hb
  rw [vc_laws_toTimerS a]
  have hlen : a.length ≤ 4294967296 := by simp only [sizeTimerS] at hp0; omega
  refine ⟨by omega, rfl, by omega, ?_, ?_⟩
  · simp [I_laws_toTimerS_3]
  rintro ⟨out, i, ⟨⟩⟩ ⟨h1, h2, rfl⟩
  simp only at *
  refine if_cond (fun hc => ?_) (fun hc => ?_)
  · have hc : i < a.length := by simpa using hc
    rw [wrap_i64 (by omega) (by omega), set_fill a zTimer h1 hc]
    exact ⟨h1, by omega, by exact Nat.le_trans (sum_getD_le sizeTimer a zTimer h1 hc) (by simp only [sizeTimerS] at hp0; omega), h1, by simp; omega, by simp; omega, ⟨by omega, by omega, rfl⟩, by simp only [μ_laws_toTimerS_3]; omega⟩
  · have hc : a.length ≤ i := by simpa using hc
    have e : i.toNat = a.length := by omega
    rw [e]; simp; exact Lf_rfl _
def con_laws_eqTimerS : Con UU where
  α := (List DTimer) × (List DTimer)
  md := [.ro, .ro]
  of := fun | [.one (.sl .eTimer a0), .one (.sl .eTimer a1)] => some (a0, a1) | _ => none
  ds := fun (a, b) => [.one (.sl .eTimer a), .one (.sl .eTimer b)]
  pre := fun (a, b) => []
  res := fun (a, b) => ⟨[.one (.lit (.bool (decide (a = b))))], true, []⟩
  law := by intro l x h; (try simp only at h); split at h <;> cases h; rfl
def I_laws_eqTimerS_4 (a : (List DTimer)) (b : (List DTimer)) : Int × Unit → Prop := fun (i, _) => 0 ≤ i ∧ i ≤ a.length ∧ a.length = b.length ∧ (a.drop i.toNat = b.drop i.toNat ↔ a = b)
def μ_laws_eqTimerS_4 (a : (List DTimer)) (b : (List DTimer)) : Int × Unit → Nat := fun (i, _) => a.length - i.toNat
def ann_laws_eqTimerS : con_laws_eqTimerS.α → Nat → Option (Ann UU) := fun (a, b) => annL [(4, annOf [.slot 5 (5, 1024) (.lit (.int .i64))] (fun _ => I_laws_eqTimerS_4 a b) (μ_laws_eqTimerS_4 a b))]
def use_laws_eqTimerS : List (FuncId × Con UU) := [(45, con_laws_eqTimer)]
theorem vc_laws_eqTimerS (a : (List DTimer)) (b : (List DTimer)) : goal EE use_laws_eqTimerS Go.Proofs.Try.f44 con_laws_eqTimerS ann_laws_eqTimerS (a, b) = (bif (↑(List.length a) : Int) != (↑(List.length b) : Int) then Lf [DV.one (Cell.lit (Value.bool false))] [DV.one (Cell.lit (Value.bool (decide (a = b))))] else I_laws_eqTimerS_4 a b ((0 : Int), PUnit.unit) ∧ ∀ (y : Int × PUnit), I_laws_eqTimerS_4 a b y → bif decide (y.1 < (↑(List.length a) : Int)) then (0 : Int) ≤ y.1 ∧ Int.toNat y.1 < List.length a ∧ (0 : Int) ≤ y.1 ∧ Int.toNat y.1 < List.length b ∧ bif !decide (List.getD a (Int.toNat y.1) zTimer = List.getD b (Int.toNat y.1) zTimer) then Lf [DV.one (Cell.lit (Value.bool false))] [DV.one (Cell.lit (Value.bool (decide (a = b))))] else I_laws_eqTimerS_4 a b (IntKind.wrap IntKind.i64 (y.1 + (1 : Int)), PUnit.unit) ∧ μ_laws_eqTimerS_4 a b (IntKind.wrap IntKind.i64 (y.1 + (1 : Int)), PUnit.unit) < μ_laws_eqTimerS_4 a b y else Lf [DV.one (Cell.lit (Value.bool true))] [DV.one (Cell.lit (Value.bool (decide (a = b))))]) := by kernel_rfl
theorem ok_laws_eqTimerS : Holds EE (44, con_laws_eqTimerS) := by
  refine holds_of EE_ok Go.Proofs.Try.func44 con_laws_eqTimerS (by kernel_rfl) rfl use_laws_eqTimerS (all_cons ok_laws_eqTimer all_nil) ann_laws_eqTimerS (fun x hp hb => ?_)
  obtain ⟨a, b⟩ := x
  have hb_a : BdDV (U := UU) (.one (.sl .eTimer a)) := hb _ (List.mem_cons_self)
  have hl_a : a.length ≤ 9223372036854775807 := Bd.len hb_a
  have hb_b : BdDV (U := UU) (.one (.sl .eTimer b)) := hb _ (List.mem_cons_of_mem _ (List.mem_cons_self))
  have hl_b : b.length ≤ 9223372036854775807 := Bd.len hb_b
  clear hp hb
  rw [vc_laws_eqTimerS a b]
  refine if_cond (fun h => Lf_f ?_) (fun h => ⟨?_, ?_⟩)
  · rintro rfl; simp at h
  · simp [I_laws_eqTimerS_4] at *; omega
  rintro ⟨i, ⟨⟩⟩ ⟨h1, h2, h3, hR⟩
  simp only at *
  refine if_cond (fun hc => ?_) (fun hc => ?_)
  · have hc : i < a.length := by simpa using hc
    rw [drop_step a zTimer h1 hc, drop_step b zTimer h1 (by omega)] at hR
    rw [wrap_i64 (by omega) (by omega)]
    refine ⟨by omega, by omega, by omega, by omega, if_cond (fun h => Lf_f ?_) (fun h => ⟨⟨by omega, by omega, h3, ?_⟩, ?_⟩)⟩
    · rw [← hR]; simp at h; simp [h]
    · rw [← hR]; simp at h; simp [h]
    · simp only [μ_laws_eqTimerS_4]; omega
  · have hc : a.length ≤ i := by simpa using hc
    rw [drop_end a hc, drop_end b (by omega)] at hR
    exact Lf_t (hR.1 rfl)
def con_laws_markTimerS : Con UU where
  α := (List DTimer) × Int
  md := [.wr, .ro]
  of := fun | [.one (.sl .eTimer a0), .one (.lit (.int .i64 a1))] => some (a0, a1) | _ => none
  ds := fun (a, k) => [.one (.sl .eTimer a), .one (.lit (.int .i64 k))]
  pre := fun (a, k) => [0 ≤ k, k + cntTimerS a ≤ 4611686018427387904]
  res := fun (a, k) => ⟨[.one (.lit (.int .i64 (k + cntTimerS a)))], true, [.one (.sl .eTimer (markTimerS a k))]⟩
  law := by intro l x h; (try simp only at h); split at h <;> cases h; rfl
def I_laws_markTimerS_2 (a : (List DTimer)) (k : Int) : List DTimer × Int × Int × Unit → Prop := fun (row, kk, i, _) => 0 ≤ i ∧ i ≤ a.length ∧ row = (mkS markTimer cntTimer a k).take i.toNat ++ a.drop i.toNat ∧ kk = k + ctS cntTimer (a.take i.toNat)
def μ_laws_markTimerS_2 (a : (List DTimer)) (k : Int) : List DTimer × Int × Int × Unit → Nat := fun (row, kk, i, _) => a.length - i.toNat
def ann_laws_markTimerS : con_laws_markTimerS.α → Nat → Option (Ann UU) := fun (a, k) => annL [(2, annOf [.slot 0 (2000000, 0) (.own .eTimer true), .slot 1 (1, 1024) (.lit (.int .i64)), .slot 5 (5, 1024) (.lit (.int .i64))] (fun _ => I_laws_markTimerS_2 a k) (μ_laws_markTimerS_2 a k))]
def use_laws_markTimerS : List (FuncId × Con UU) := [(89, con_laws_markText), (90, con_laws_markValS)]
theorem vc_laws_markTimerS (a : (List DTimer)) (k : Int) : goal EE use_laws_markTimerS Go.Proofs.Try.f46 con_laws_markTimerS ann_laws_markTimerS (a, k) = (I_laws_markTimerS_2 a k (a, k, (0 : Int), PUnit.unit) ∧ ∀ (y : List DTimer × Int × Int × PUnit), I_laws_markTimerS_2 a k y → bif decide (y.2.2.1 < (↑(List.length y.1) : Int)) then (0 : Int) ≤ y.2.2.1 ∧ Int.toNat y.2.2.1 < List.length y.1 ∧ Int.toNat y.2.2.1 < List.length y.1 ∧ IntKind.wrap IntKind.i64 (y.2.1 + (1 : Int)) ≤ (4611686018427387903 : Int) ∧ (0 : Int) ≤ y.2.2.1 ∧ Int.toNat y.2.2.1 < List.length (List.modify y.1 (Int.toNat y.2.2.1) fun (x : DTimer) => { At := y.2.1, F := DTimer.F x }) ∧ Int.toNat y.2.2.1 < List.length (List.modify y.1 (Int.toNat y.2.2.1) fun (x : DTimer) => { At := y.2.1, F := DTimer.F x }) ∧ (0 : Int) ≤ y.2.2.1 ∧ Int.toNat y.2.2.1 < List.length (List.modify (List.modify y.1 (Int.toNat y.2.2.1) fun (x : DTimer) => { At := y.2.1, F := DTimer.F x }) (Int.toNat y.2.2.1) fun (x : DTimer) => { At := DTimer.At x, F := { Kind := markText (IntKind.wrap IntKind.i64 (y.2.1 + (1 : Int))), Fields := DFact.Fields (DTimer.F x) } }) ∧ Int.toNat y.2.2.1 < List.length (List.modify (List.modify y.1 (Int.toNat y.2.2.1) fun (x : DTimer) => { At := y.2.1, F := DTimer.F x }) (Int.toNat y.2.2.1) fun (x : DTimer) => { At := DTimer.At x, F := { Kind := markText (IntKind.wrap IntKind.i64 (y.2.1 + (1 : Int))), Fields := DFact.Fields (DTimer.F x) } }) ∧ Int.toNat y.2.2.1 < List.length (List.modify (List.modify y.1 (Int.toNat y.2.2.1) fun (x : DTimer) => { At := y.2.1, F := DTimer.F x }) (Int.toNat y.2.2.1) fun (x : DTimer) => { At := DTimer.At x, F := { Kind := markText (IntKind.wrap IntKind.i64 (y.2.1 + (1 : Int))), Fields := DFact.Fields (DTimer.F x) } }) ∧ (0 : Int) ≤ IntKind.wrap IntKind.i64 (IntKind.wrap IntKind.i64 (y.2.1 + (1 : Int)) + (1 : Int)) ∧ IntKind.wrap IntKind.i64 (IntKind.wrap IntKind.i64 (y.2.1 + (1 : Int)) + (1 : Int)) + (↑(cntValS (DFact.Fields (DTimer.F (List.getD (List.modify (List.modify y.1 (Int.toNat y.2.2.1) fun (x : DTimer) => { At := y.2.1, F := DTimer.F x }) (Int.toNat y.2.2.1) fun (x : DTimer) => { At := DTimer.At x, F := { Kind := markText (IntKind.wrap IntKind.i64 (y.2.1 + (1 : Int))), Fields := DFact.Fields (DTimer.F x) } }) (Int.toNat y.2.2.1) zTimer)))) : Int) ≤ (4611686018427387904 : Int) ∧ I_laws_markTimerS_2 a k (List.modify (List.modify (List.modify y.1 (Int.toNat y.2.2.1) fun (x : DTimer) => { At := y.2.1, F := DTimer.F x }) (Int.toNat y.2.2.1) fun (x : DTimer) => { At := DTimer.At x, F := { Kind := markText (IntKind.wrap IntKind.i64 (y.2.1 + (1 : Int))), Fields := DFact.Fields (DTimer.F x) } }) (Int.toNat y.2.2.1) fun (x : DTimer) => { At := DTimer.At x, F := { Kind := DFact.Kind (DTimer.F x), Fields := markValS (DFact.Fields (DTimer.F (List.getD (List.modify (List.modify y.1 (Int.toNat y.2.2.1) fun (x : DTimer) => { At := y.2.1, F := DTimer.F x }) (Int.toNat y.2.2.1) fun (x : DTimer) => { At := DTimer.At x, F := { Kind := markText (IntKind.wrap IntKind.i64 (y.2.1 + (1 : Int))), Fields := DFact.Fields (DTimer.F x) } }) (Int.toNat y.2.2.1) zTimer))) (IntKind.wrap IntKind.i64 (IntKind.wrap IntKind.i64 (y.2.1 + (1 : Int)) + (1 : Int))) } }, IntKind.wrap IntKind.i64 (IntKind.wrap IntKind.i64 (y.2.1 + (1 : Int)) + (1 : Int)) + (↑(cntValS (DFact.Fields (DTimer.F (List.getD (List.modify (List.modify y.1 (Int.toNat y.2.2.1) fun (x : DTimer) => { At := y.2.1, F := DTimer.F x }) (Int.toNat y.2.2.1) fun (x : DTimer) => { At := DTimer.At x, F := { Kind := markText (IntKind.wrap IntKind.i64 (y.2.1 + (1 : Int))), Fields := DFact.Fields (DTimer.F x) } }) (Int.toNat y.2.2.1) zTimer)))) : Int), IntKind.wrap IntKind.i64 (y.2.2.1 + (1 : Int)), PUnit.unit) ∧ μ_laws_markTimerS_2 a k (List.modify (List.modify (List.modify y.1 (Int.toNat y.2.2.1) fun (x : DTimer) => { At := y.2.1, F := DTimer.F x }) (Int.toNat y.2.2.1) fun (x : DTimer) => { At := DTimer.At x, F := { Kind := markText (IntKind.wrap IntKind.i64 (y.2.1 + (1 : Int))), Fields := DFact.Fields (DTimer.F x) } }) (Int.toNat y.2.2.1) fun (x : DTimer) => { At := DTimer.At x, F := { Kind := DFact.Kind (DTimer.F x), Fields := markValS (DFact.Fields (DTimer.F (List.getD (List.modify (List.modify y.1 (Int.toNat y.2.2.1) fun (x : DTimer) => { At := y.2.1, F := DTimer.F x }) (Int.toNat y.2.2.1) fun (x : DTimer) => { At := DTimer.At x, F := { Kind := markText (IntKind.wrap IntKind.i64 (y.2.1 + (1 : Int))), Fields := DFact.Fields (DTimer.F x) } }) (Int.toNat y.2.2.1) zTimer))) (IntKind.wrap IntKind.i64 (IntKind.wrap IntKind.i64 (y.2.1 + (1 : Int)) + (1 : Int))) } }, IntKind.wrap IntKind.i64 (IntKind.wrap IntKind.i64 (y.2.1 + (1 : Int)) + (1 : Int)) + (↑(cntValS (DFact.Fields (DTimer.F (List.getD (List.modify (List.modify y.1 (Int.toNat y.2.2.1) fun (x : DTimer) => { At := y.2.1, F := DTimer.F x }) (Int.toNat y.2.2.1) fun (x : DTimer) => { At := DTimer.At x, F := { Kind := markText (IntKind.wrap IntKind.i64 (y.2.1 + (1 : Int))), Fields := DFact.Fields (DTimer.F x) } }) (Int.toNat y.2.2.1) zTimer)))) : Int), IntKind.wrap IntKind.i64 (y.2.2.1 + (1 : Int)), PUnit.unit) < μ_laws_markTimerS_2 a k y else asD [DV.one (Cell.lit (Value.int IntKind.i64 y.2.1))] = asD [DV.one (Cell.lit (Value.int IntKind.i64 (k + (↑(cntTimerS a) : Int))))] ∧ asD [DV.one (Cell.sl Cd.eTimer y.1)] = asD [DV.one (Cell.sl Cd.eTimer (markTimerS a k))]) := by kernel_rfl
theorem ok_laws_markTimerS : Holds EE (46, con_laws_markTimerS) := by
  refine holds_of EE_ok Go.Proofs.Try.func46 con_laws_markTimerS (by kernel_rfl) rfl use_laws_markTimerS (all_cons ok_laws_markText (all_cons ok_laws_markValS all_nil)) ann_laws_markTimerS (fun x hp hb => ?_)
  obtain ⟨a, k⟩ := x
  have hb_a : BdDV (U := UU) (.one (.sl .eTimer a)) := hb _ (List.mem_cons_self)
  have hl_a : a.length ≤ 9223372036854775807 := Bd.len hb_a
  have hb_k : BdDV (U := UU) (.one (.lit (.int .i64 k))) := hb _ (List.mem_cons_of_mem _ (List.mem_cons_self))
  have hl_k := Bd.i64 hb_k
  have hp0 : 0 ≤ k := hp _ (List.mem_cons_self)
  have hp1 : k + cntTimerS a ≤ 4611686018427387904 := hp _ (List.mem_cons_of_mem _ (List.mem_cons_self))
  clear hp hb
  rw [vc_laws_markTimerS a k]
  refine ⟨⟨by omega, by omega, by simp, by simp [ctS]⟩, ?_⟩
  rintro ⟨row, kk, i, ⟨⟩⟩ ⟨h1, h2, rfl, rfl⟩
  simp only
  have hl := mk_rl markTimer cntTimer a k h1 h2
  refine if_cond (fun hc => ?_) (fun hc => ?_)
  · have hc : i < a.length := by have hc := of_decide_eq_true hc; omega
    have hct := ctS_take cntTimer a zTimer h1 hc
    have hle := ctS_take_le cntTimer a (i + 1).toNat
    have hg := mk_getD _ a zTimer (mk_tl markTimer cntTimer a k h1 h2) h1 hc
    have hM := fun F hF => mkS_mod markTimer cntTimer a zTimer k (i := i) F h1 hc hF
    have hq : (cntTimerS a : Int) = ctS cntTimer a := rfl
    generalize List.getD a i.toNat zTimer = x at *
    generalize hkk : k + (ctS cntTimer (a.take i.toNat) : Int) = kk at *
    generalize List.take i.toNat (mkS markTimer cntTimer a k) ++ List.drop i.toNat a = R at *
    simp only [cntTimer] at hct
    simp (disch := first | omega | (simp only [List.length_modify]; omega)) only [List.length_modify, wrap_i64, getD_modify, modify_modify, hg, hl]
    repeat' (first | refine And.intro (by omega) ?_ | fail)
    exact ⟨⟨by omega, by omega, hM _ rfl, by omega⟩, by simp only [μ_laws_markTimerS_2]; omega⟩
  · have hc : a.length ≤ i := by have hc := of_decide_eq_false hc; omega
    rw [mk_done markTimer cntTimer a k hc, ct_done cntTimer a hc]
    exact ⟨rfl, rfl⟩
def con_laws_heldTimerS : Con UU where
  α := (List DTimer) × Int
  md := [.ro, .ro]
  of := fun | [.one (.sl .eTimer a0), .one (.lit (.int .i64 a1))] => some (a0, a1) | _ => none
  ds := fun (a, k) => [.one (.sl .eTimer a), .one (.lit (.int .i64 k))]
  pre := fun (a, k) => [0 ≤ k, k + cntTimerS a ≤ 4611686018427387904]
  res := fun (a, k) => ⟨[.one (.lit (.int .i64 (if markTimerS a k = a then k + cntTimerS a else -1)))], true, []⟩
  law := by intro l x h; (try simp only at h); split at h <;> cases h; rfl
def I_laws_heldTimerS_2 (a : (List DTimer)) (k : Int) : Int × Int × Unit → Prop := fun (kk, i, _) => 0 ≤ i ∧ i ≤ a.length ∧ kk = k + ctS cntTimer (a.take i.toNat) ∧ (mkS markTimer cntTimer (a.drop i.toNat) kk = a.drop i.toNat ↔ mkS markTimer cntTimer a k = a)
def μ_laws_heldTimerS_2 (a : (List DTimer)) (k : Int) : Int × Int × Unit → Nat := fun (kk, i, _) => a.length - i.toNat
def ann_laws_heldTimerS : con_laws_heldTimerS.α → Nat → Option (Ann UU) := fun (a, k) => annL [(2, annOf [.slot 1 (1, 1024) (.lit (.int .i64)), .slot 5 (5, 1024) (.lit (.int .i64))] (fun _ => I_laws_heldTimerS_2 a k) (μ_laws_heldTimerS_2 a k))]
def use_laws_heldTimerS : List (FuncId × Con UU) := [(89, con_laws_markText), (91, con_laws_heldValS)]
theorem vc_laws_heldTimerS (a : (List DTimer)) (k : Int) : goal EE use_laws_heldTimerS Go.Proofs.Try.f48 con_laws_heldTimerS ann_laws_heldTimerS (a, k) = (I_laws_heldTimerS_2 a k (k, (0 : Int), PUnit.unit) ∧ ∀ (y : Int × Int × PUnit), I_laws_heldTimerS_2 a k y → bif decide (y.2.1 < (↑(List.length a) : Int)) then (0 : Int) ≤ y.2.1 ∧ Int.toNat y.2.1 < List.length a ∧ bif DTimer.At (List.getD a (Int.toNat y.2.1) zTimer) != y.1 then Lf [DV.one (Cell.lit (Value.int IntKind.i64 (-1 : Int)))] [DV.one (Cell.lit (Value.int IntKind.i64 (if markTimerS a k = a then k + (↑(cntTimerS a) : Int) else (-1 : Int))))] else (0 : Int) ≤ y.2.1 ∧ Int.toNat y.2.1 < List.length a ∧ IntKind.wrap IntKind.i64 (y.1 + (1 : Int)) ≤ (4611686018427387903 : Int) ∧ bif !ByteArray.toList (DFact.Kind (DTimer.F (List.getD a (Int.toNat y.2.1) zTimer))) == ByteArray.toList (markText (IntKind.wrap IntKind.i64 (y.1 + (1 : Int)))) then Lf [DV.one (Cell.lit (Value.int IntKind.i64 (-1 : Int)))] [DV.one (Cell.lit (Value.int IntKind.i64 (if markTimerS a k = a then k + (↑(cntTimerS a) : Int) else (-1 : Int))))] else (0 : Int) ≤ y.2.1 ∧ Int.toNat y.2.1 < List.length a ∧ (0 : Int) ≤ IntKind.wrap IntKind.i64 (IntKind.wrap IntKind.i64 (y.1 + (1 : Int)) + (1 : Int)) ∧ IntKind.wrap IntKind.i64 (IntKind.wrap IntKind.i64 (y.1 + (1 : Int)) + (1 : Int)) + (↑(cntValS (DFact.Fields (DTimer.F (List.getD a (Int.toNat y.2.1) zTimer)))) : Int) ≤ (4611686018427387904 : Int) ∧ bif decide ((if markValS (DFact.Fields (DTimer.F (List.getD a (Int.toNat y.2.1) zTimer))) (IntKind.wrap IntKind.i64 (IntKind.wrap IntKind.i64 (y.1 + (1 : Int)) + (1 : Int))) = DFact.Fields (DTimer.F (List.getD a (Int.toNat y.2.1) zTimer)) then IntKind.wrap IntKind.i64 (IntKind.wrap IntKind.i64 (y.1 + (1 : Int)) + (1 : Int)) + (↑(cntValS (DFact.Fields (DTimer.F (List.getD a (Int.toNat y.2.1) zTimer)))) : Int) else (-1 : Int)) < (0 : Int)) then Lf [DV.one (Cell.lit (Value.int IntKind.i64 (-1 : Int)))] [DV.one (Cell.lit (Value.int IntKind.i64 (if markTimerS a k = a then k + (↑(cntTimerS a) : Int) else (-1 : Int))))] else I_laws_heldTimerS_2 a k (if markValS (DFact.Fields (DTimer.F (List.getD a (Int.toNat y.2.1) zTimer))) (IntKind.wrap IntKind.i64 (IntKind.wrap IntKind.i64 (y.1 + (1 : Int)) + (1 : Int))) = DFact.Fields (DTimer.F (List.getD a (Int.toNat y.2.1) zTimer)) then IntKind.wrap IntKind.i64 (IntKind.wrap IntKind.i64 (y.1 + (1 : Int)) + (1 : Int)) + (↑(cntValS (DFact.Fields (DTimer.F (List.getD a (Int.toNat y.2.1) zTimer)))) : Int) else (-1 : Int), IntKind.wrap IntKind.i64 (y.2.1 + (1 : Int)), PUnit.unit) ∧ μ_laws_heldTimerS_2 a k (if markValS (DFact.Fields (DTimer.F (List.getD a (Int.toNat y.2.1) zTimer))) (IntKind.wrap IntKind.i64 (IntKind.wrap IntKind.i64 (y.1 + (1 : Int)) + (1 : Int))) = DFact.Fields (DTimer.F (List.getD a (Int.toNat y.2.1) zTimer)) then IntKind.wrap IntKind.i64 (IntKind.wrap IntKind.i64 (y.1 + (1 : Int)) + (1 : Int)) + (↑(cntValS (DFact.Fields (DTimer.F (List.getD a (Int.toNat y.2.1) zTimer)))) : Int) else (-1 : Int), IntKind.wrap IntKind.i64 (y.2.1 + (1 : Int)), PUnit.unit) < μ_laws_heldTimerS_2 a k y else Lf [DV.one (Cell.lit (Value.int IntKind.i64 y.1))] [DV.one (Cell.lit (Value.int IntKind.i64 (if markTimerS a k = a then k + (↑(cntTimerS a) : Int) else (-1 : Int))))]) := by kernel_rfl
theorem ok_laws_heldTimerS : Holds EE (48, con_laws_heldTimerS) := by
  refine holds_of EE_ok Go.Proofs.Try.func48 con_laws_heldTimerS (by kernel_rfl) rfl use_laws_heldTimerS (all_cons ok_laws_markText (all_cons ok_laws_heldValS all_nil)) ann_laws_heldTimerS (fun x hp hb => ?_)
  obtain ⟨a, k⟩ := x
  have hb_a : BdDV (U := UU) (.one (.sl .eTimer a)) := hb _ (List.mem_cons_self)
  have hl_a : a.length ≤ 9223372036854775807 := Bd.len hb_a
  have hb_k : BdDV (U := UU) (.one (.lit (.int .i64 k))) := hb _ (List.mem_cons_of_mem _ (List.mem_cons_self))
  have hl_k := Bd.i64 hb_k
  have hp0 : 0 ≤ k := hp _ (List.mem_cons_self)
  have hp1 : k + cntTimerS a ≤ 4611686018427387904 := hp _ (List.mem_cons_of_mem _ (List.mem_cons_self))
  clear hp hb
  rw [vc_laws_heldTimerS a k]
  refine ⟨⟨by omega, by omega, by simp [ctS], by simp⟩, ?_⟩
  rintro ⟨kk, i, ⟨⟩⟩ ⟨h1, h2, hkk, hR⟩
  simp only
  simp only [markTimerS]
  refine if_cond (fun hc => ?_) (fun hc => ?_)
  · have hc : i < a.length := by have hc := of_decide_eq_true hc; omega
    have hct := ctS_take cntTimer a zTimer h1 hc
    have hle := ctS_take_le cntTimer a (i + 1).toNat
    have hq : (cntTimerS a : Int) = ctS cntTimer a := rfl
    rw [drop_step a zTimer h1 hc] at hR
    generalize List.getD a i.toNat zTimer = x at *
    simp only [mkS, List.cons.injEq] at hR
    have e : kk + (cntTimer x : Int) = kk + 1 + 1 + (cntValS x.F.Fields : Int) := by simp only [cntTimer]; omega
    rw [e] at hR
    simp only [markTimer, cntTimer] at hR hct
    simp (disch := omega) only [wrap_i64, bne_int, toList_beq]
    obtain ⟨x_At, ⟨x_F_Kind, x_F_Fields⟩⟩ := x
    simp only [DFact.mk.injEq, DTimer.mk.injEq] at *
    repeat' (first | refine And.intro (by omega) ?_ | fail)
    refine if_cond (fun h => Lf_no (fun hh => ?_)) (fun h => ?_)
    · have hh := hR.2 hh; simp_all
    have h : x_At = kk := by simpa using h
    subst x_At
    repeat' (first | refine And.intro (by omega) ?_ | fail)
    refine if_cond (fun h => Lf_no (fun hh => ?_)) (fun h => ?_)
    · have hh := hR.2 hh; simp_all
    have h : x_F_Kind = markText (kk + 1) := by simpa using h
    subst x_F_Kind
    repeat' (first | refine And.intro (by omega) ?_ | fail)
    by_cases hm : markValS x_F_Fields (kk + 1 + 1) = x_F_Fields
    rotate_left
    · simp only [if_neg hm]; rw [cond_yes (by decide)]
      exact Lf_no (fun hh => hm (by have hh := hR.2 hh; simp_all))
    simp only [if_pos hm]
    refine if_cond (fun h => absurd (of_decide_eq_true h) (by omega)) (fun h => ?_)
    simp only [hm] at hR
    clear hm
    exact ⟨⟨by omega, by omega, by omega, by simpa using hR⟩, by simp only [μ_laws_heldTimerS_2]; omega⟩
  · have hc : a.length ≤ i := by have hc := of_decide_eq_false hc; omega
    rw [drop_end a hc] at hR
    exact Lf_yes (hR.1 rfl) (by rw [hkk, ct_done _ _ hc]; rfl)
def con_laws_markTimer : Con UU where
  α := DTimer × Int
  md := [.wr, .ro]
  of := fun | [.agg [.lit (.int .i64 a0), .lit (.string a1), .sl .eVal a2], .one (.lit (.int .i64 a3))] => some (⟨a0, ⟨a1, a2⟩⟩, a3) | _ => none
  ds := fun (a, k) => [.agg [.lit (.int .i64 a.At), .lit (.string a.F.Kind), .sl .eVal a.F.Fields], .one (.lit (.int .i64 k))]
  pre := fun (a, k) => [0 ≤ k, k + ctTimer a ≤ 4611686018427387904]
  res := fun (a, k) => ⟨[.one (.lit (.int .i64 (k + ctTimer a)))], true, [.agg [.lit (.int .i64 ((mkTimer a k)).At), .lit (.string (((mkTimer a k)).F).Kind), .sl .eVal (((mkTimer a k)).F).Fields]]⟩
  law := by intro l x h; (try simp only at h); split at h <;> cases h; rfl
def ann_laws_markTimer : con_laws_markTimer.α → Nat → Option (Ann UU) := fun (a, k) => annL []
def use_laws_markTimer : List (FuncId × Con UU) := [(54, con_laws_markFact)]
theorem vc_laws_markTimer (a : DTimer) (k : Int) : goal EE use_laws_markTimer Go.Proofs.Try.f47 con_laws_markTimer ann_laws_markTimer (a, k) = ((0 : Int) ≤ k ∧ k + (↑(ctFact (DTimer.F a)) : Int) ≤ (4611686018427387904 : Int) ∧ asD [DV.one (Cell.lit (Value.int IntKind.i64 (k + (↑(ctFact (DTimer.F a)) : Int))))] = asD [DV.one (Cell.lit (Value.int IntKind.i64 (k + (↑(ctTimer a) : Int))))] ∧ asD [DV.agg [Cell.lit (Value.int IntKind.i64 (DTimer.At a)), Cell.lit (Value.string (DFact.Kind (DTimer.F a))), Cell.sl Cd.eVal (DFact.Fields (mkFact (DTimer.F a) k))]] = asD [DV.agg [Cell.lit (Value.int IntKind.i64 (DTimer.At (mkTimer a k))), Cell.lit (Value.string (DFact.Kind (DTimer.F (mkTimer a k)))), Cell.sl Cd.eVal (DFact.Fields (DTimer.F (mkTimer a k)))]]) := by kernel_rfl
theorem ok_laws_markTimer : Holds EE (47, con_laws_markTimer) := by
  refine holds_of EE_ok Go.Proofs.Try.func47 con_laws_markTimer (by kernel_rfl) rfl use_laws_markTimer (all_cons ok_laws_markFact all_nil) ann_laws_markTimer (fun x hp hb => ?_)
  obtain ⟨a, k⟩ := x
  have hb_a : BdDV (U := UU) (.agg [.lit (.int .i64 a.At), .lit (.string a.F.Kind), .sl .eVal a.F.Fields]) := hb _ (List.mem_cons_self)
  have hl_a_F_Kind : a.F.Kind.size ≤ 9223372036854775807 := Bd.str (hb_a _ (by simp))
  have hl_a_F_Fields : a.F.Fields.length ≤ 9223372036854775807 := Bd.len (U := UU) (τ := .eVal) (xs := a.F.Fields) (hb_a _ (by simp))
  have hb_k : BdDV (U := UU) (.one (.lit (.int .i64 k))) := hb _ (List.mem_cons_of_mem _ (List.mem_cons_self))
  have hl_k := Bd.i64 hb_k
  have hp0 : 0 ≤ k := hp _ (List.mem_cons_self)
  have hp1 : k + ctTimer a ≤ 4611686018427387904 := hp _ (List.mem_cons_of_mem _ (List.mem_cons_self))
  clear hp hb
  rw [vc_laws_markTimer a k]
  simp only [ctTimer] at hp1
  repeat' (first | refine And.intro (by omega) ?_ | fail)
  exact ⟨by simp only [ctTimer, Int.natCast_add, Int.add_assoc], rfl⟩
def con_laws_szTask : Con UU where
  α := DTask × Int
  md := [.ro, .ro]
  of := fun | [.agg [.lit (.string a0), .sl .lVal a1, .lit (.string a2), .lit (.int .i64 a3), .lit (.int .i64 a4), .lit (.int .i64 a5), .lit (.int .i64 a6), .lit (.int .i64 a7), .lit (.string a8)], .one (.lit (.int .i64 a9))] => some (⟨⟨a0, a1⟩, a2, a3, a4, a5, ⟨a6, a7, a8⟩⟩, a9) | _ => none
  ds := fun (a, left) => [.agg [.lit (.string a.F.Kind), .sl .lVal a.F.Fields, .lit (.string a.Undo), .lit (.int .i64 a.State), .lit (.int .i64 a.Tries), .lit (.int .i64 a.Due), .lit (.int .i64 a.V.K), .lit (.int .i64 a.V.N), .lit (.string a.V.S)], .one (.lit (.int .i64 left))]
  pre := fun (a, left) => [0 ≤ left]
  res := fun (a, left) => ⟨[.one (.lit (.int .i64 (szr left (sizeTask a))))], true, []⟩
  law := by intro l x h; (try simp only at h); split at h <;> cases h; rfl
def ann_laws_szTask : con_laws_szTask.α → Nat → Option (Ann UU) := fun (a, left) => annL []
def use_laws_szTask : List (FuncId × Con UU) := [(49, con_laws_szFact), (76, con_laws_szVal)]
theorem vc_laws_szTask (a : DTask) (left : Int) : goal EE use_laws_szTask Go.Proofs.Try.f83 con_laws_szTask ann_laws_szTask (a, left) = ((0 : Int) ≤ left ∧ bif decide (szr left (sizeFact (DTask.F a)) < (0 : Int)) then Lf [DV.one (Cell.lit (Value.int IntKind.i64 (-1 : Int)))] [DV.one (Cell.lit (Value.int IntKind.i64 (szr left (sizeTask a))))] else bif decide (IntKind.wrap IntKind.i64 (szr left (sizeFact (DTask.F a)) - (↑(ByteArray.size (DTask.Undo a)) : Int)) < (0 : Int)) then Lf [DV.one (Cell.lit (Value.int IntKind.i64 (-1 : Int)))] [DV.one (Cell.lit (Value.int IntKind.i64 (szr left (sizeTask a))))] else (0 : Int) ≤ IntKind.wrap IntKind.i64 (szr left (sizeFact (DTask.F a)) - (↑(ByteArray.size (DTask.Undo a)) : Int)) ∧ bif decide (szr (IntKind.wrap IntKind.i64 (szr left (sizeFact (DTask.F a)) - (↑(ByteArray.size (DTask.Undo a)) : Int))) (sizeVal (DTask.V a)) < (0 : Int)) then Lf [DV.one (Cell.lit (Value.int IntKind.i64 (-1 : Int)))] [DV.one (Cell.lit (Value.int IntKind.i64 (szr left (sizeTask a))))] else Lf [DV.one (Cell.lit (Value.int IntKind.i64 (szr (IntKind.wrap IntKind.i64 (szr left (sizeFact (DTask.F a)) - (↑(ByteArray.size (DTask.Undo a)) : Int))) (sizeVal (DTask.V a)))))] [DV.one (Cell.lit (Value.int IntKind.i64 (szr left (sizeTask a))))]) := by kernel_rfl
theorem ok_laws_szTask : Holds EE (83, con_laws_szTask) := by
  refine holds_of EE_ok Go.Proofs.Try.func83 con_laws_szTask (by kernel_rfl) rfl use_laws_szTask (all_cons ok_laws_szFact (all_cons ok_laws_szVal all_nil)) ann_laws_szTask (fun x hp hb => ?_)
  obtain ⟨a, left⟩ := x
  have hb_a : BdDV (U := UU) (.agg [.lit (.string a.F.Kind), .sl .lVal a.F.Fields, .lit (.string a.Undo), .lit (.int .i64 a.State), .lit (.int .i64 a.Tries), .lit (.int .i64 a.Due), .lit (.int .i64 a.V.K), .lit (.int .i64 a.V.N), .lit (.string a.V.S)]) := hb _ (List.mem_cons_self)
  have hl_a_F_Kind : a.F.Kind.size ≤ 9223372036854775807 := Bd.str (hb_a _ (by simp))
  have hl_a_F_Fields : a.F.Fields.length ≤ 9223372036854775807 := Bd.len (U := UU) (τ := .lVal) (xs := a.F.Fields) (hb_a _ (by simp))
  have hl_a_Undo : a.Undo.size ≤ 9223372036854775807 := Bd.str (hb_a _ (by simp))
  have hl_a_V_S : a.V.S.size ≤ 9223372036854775807 := Bd.str (hb_a _ (by simp))
  have hb_left : BdDV (U := UU) (.one (.lit (.int .i64 left))) := hb _ (List.mem_cons_of_mem _ (List.mem_cons_self))
  have hl_left := Bd.i64 hb_left
  have hp0 : 0 ≤ left := hp _ (List.mem_cons_self)
  clear hp hb
  rw [vc_laws_szTask a left]
  refine ⟨by omega, if_cond (fun h => Lf_i (szr_bad' ?_)) (fun h => ?_)⟩
  · have h := szr_neg h; simp only [sizeTask]; omega
  obtain ⟨e0, h0⟩ := szr_pos h
  rw [e0]
  rw [wrap_i64 (by omega) (by omega)]
  refine if_cond (fun h => Lf_i (szr_bad' ?_)) (fun h => ?_)
  · have h := of_decide_eq_true h; simp only [sizeTask]; omega
  have h1 := of_decide_eq_false h
  refine ⟨by omega, if_cond (fun h => Lf_i (szr_bad' ?_)) (fun h => ?_)⟩
  · have h := szr_neg h; simp only [sizeTask]; omega
  obtain ⟨e2, h2⟩ := szr_pos h
  rw [e2]
  exact Lf_i (by rw [← szr_ok' (by simp only [sizeTask]; omega)]; simp only [sizeTask]; try omega)
def con_laws_toTask : Con UU where
  α := DTask
  md := [.ro]
  of := fun | [.agg [.lit (.string a0), .sl .lVal a1, .lit (.string a2), .lit (.int .i64 a3), .lit (.int .i64 a4), .lit (.int .i64 a5), .lit (.int .i64 a6), .lit (.int .i64 a7), .lit (.string a8)]] => some ⟨⟨a0, a1⟩, a2, a3, a4, a5, ⟨a6, a7, a8⟩⟩ | _ => none
  ds := fun a => [.agg [.lit (.string a.F.Kind), .sl .lVal a.F.Fields, .lit (.string a.Undo), .lit (.int .i64 a.State), .lit (.int .i64 a.Tries), .lit (.int .i64 a.Due), .lit (.int .i64 a.V.K), .lit (.int .i64 a.V.N), .lit (.string a.V.S)]]
  pre := fun a => [sizeTask a ≤ 4294967296]
  res := fun a => ⟨[.agg [.lit (.string a.F.Kind), .sl .eVal a.F.Fields, .lit (.string a.Undo), .lit (.int .i64 a.State), .lit (.int .i64 a.Tries), .lit (.int .i64 a.Due), .lit (.int .i64 a.V.K), .lit (.int .i64 a.V.N), .lit (.string a.V.S)]], true, []⟩
  law := by intro l x h; (try simp only at h); split at h <;> cases h; rfl
def ann_laws_toTask : con_laws_toTask.α → Nat → Option (Ann UU) := fun a => annL []
def use_laws_toTask : List (FuncId × Con UU) := [(51, con_laws_toFact), (80, con_laws_toVal)]
theorem vc_laws_toTask (a : DTask) : goal EE use_laws_toTask Go.Proofs.Try.f85 con_laws_toTask ann_laws_toTask a = (sizeFact (DTask.F a) ≤ (4294967296 : Nat) ∧ sizeVal (DTask.V a) ≤ (4294967296 : Nat) ∧ Lf [DV.agg [Cell.lit (Value.string (DFact.Kind (DTask.F a))), Cell.sl Cd.eVal (DFact.Fields (DTask.F a)), Cell.lit (Value.string (DTask.Undo a)), Cell.lit (Value.int IntKind.i64 (DTask.State a)), Cell.lit (Value.int IntKind.i64 (DTask.Tries a)), Cell.lit (Value.int IntKind.i64 (DTask.Due a)), Cell.lit (Value.int IntKind.i64 (DVal.K (DTask.V a))), Cell.lit (Value.int IntKind.i64 (DVal.N (DTask.V a))), Cell.lit (Value.string (DVal.S (DTask.V a)))]] [DV.agg [Cell.lit (Value.string (DFact.Kind (DTask.F a))), Cell.sl Cd.eVal (DFact.Fields (DTask.F a)), Cell.lit (Value.string (DTask.Undo a)), Cell.lit (Value.int IntKind.i64 (DTask.State a)), Cell.lit (Value.int IntKind.i64 (DTask.Tries a)), Cell.lit (Value.int IntKind.i64 (DTask.Due a)), Cell.lit (Value.int IntKind.i64 (DVal.K (DTask.V a))), Cell.lit (Value.int IntKind.i64 (DVal.N (DTask.V a))), Cell.lit (Value.string (DVal.S (DTask.V a)))]]) := by kernel_rfl
theorem ok_laws_toTask : Holds EE (85, con_laws_toTask) := by
  refine holds_of EE_ok Go.Proofs.Try.func85 con_laws_toTask (by kernel_rfl) rfl use_laws_toTask (all_cons ok_laws_toFact (all_cons ok_laws_toVal all_nil)) ann_laws_toTask (fun (a : DTask) hp hb => ?_)
  have hb_a : BdDV (U := UU) (.agg [.lit (.string a.F.Kind), .sl .lVal a.F.Fields, .lit (.string a.Undo), .lit (.int .i64 a.State), .lit (.int .i64 a.Tries), .lit (.int .i64 a.Due), .lit (.int .i64 a.V.K), .lit (.int .i64 a.V.N), .lit (.string a.V.S)]) := hb _ (List.mem_cons_self)
  have hl_a_F_Kind : a.F.Kind.size ≤ 9223372036854775807 := Bd.str (hb_a _ (by simp))
  have hl_a_F_Fields : a.F.Fields.length ≤ 9223372036854775807 := Bd.len (U := UU) (τ := .lVal) (xs := a.F.Fields) (hb_a _ (by simp))
  have hl_a_Undo : a.Undo.size ≤ 9223372036854775807 := Bd.str (hb_a _ (by simp))
  have hl_a_V_S : a.V.S.size ≤ 9223372036854775807 := Bd.str (hb_a _ (by simp))
  have hp0 : sizeTask a ≤ 4294967296 := hp _ (List.mem_cons_self)
  clear hp hb
  rw [vc_laws_toTask a]
  simp only [sizeTask] at hp0
  repeat' (first | exact Lf_rfl _ | (refine And.intro (by omega) ?_))
def con_laws_eqTask : Con UU where
  α := DTask × DTask
  md := [.ro, .ro]
  of := fun | [.agg [.lit (.string a0), .sl .eVal a1, .lit (.string a2), .lit (.int .i64 a3), .lit (.int .i64 a4), .lit (.int .i64 a5), .lit (.int .i64 a6), .lit (.int .i64 a7), .lit (.string a8)], .agg [.lit (.string a9), .sl .eVal a10, .lit (.string a11), .lit (.int .i64 a12), .lit (.int .i64 a13), .lit (.int .i64 a14), .lit (.int .i64 a15), .lit (.int .i64 a16), .lit (.string a17)]] => some (⟨⟨a0, a1⟩, a2, a3, a4, a5, ⟨a6, a7, a8⟩⟩, ⟨⟨a9, a10⟩, a11, a12, a13, a14, ⟨a15, a16, a17⟩⟩) | _ => none
  ds := fun (a, b) => [.agg [.lit (.string a.F.Kind), .sl .eVal a.F.Fields, .lit (.string a.Undo), .lit (.int .i64 a.State), .lit (.int .i64 a.Tries), .lit (.int .i64 a.Due), .lit (.int .i64 a.V.K), .lit (.int .i64 a.V.N), .lit (.string a.V.S)], .agg [.lit (.string b.F.Kind), .sl .eVal b.F.Fields, .lit (.string b.Undo), .lit (.int .i64 b.State), .lit (.int .i64 b.Tries), .lit (.int .i64 b.Due), .lit (.int .i64 b.V.K), .lit (.int .i64 b.V.N), .lit (.string b.V.S)]]
  pre := fun (a, b) => []
  res := fun (a, b) => ⟨[.one (.lit (.bool (decide (a = b))))], true, []⟩
  law := by intro l x h; (try simp only at h); split at h <;> cases h; rfl
def ann_laws_eqTask : con_laws_eqTask.α → Nat → Option (Ann UU) := fun (a, b) => annL []
def use_laws_eqTask : List (FuncId × Con UU) := [(53, con_laws_eqFact), (82, con_laws_eqVal)]
theorem vc_laws_eqTask (a : DTask) (b : DTask) : goal EE use_laws_eqTask Go.Proofs.Try.f88 con_laws_eqTask ann_laws_eqTask (a, b) = (bif !decide (DTask.F a = DTask.F b) then Lf [DV.one (Cell.lit (Value.bool false))] [DV.one (Cell.lit (Value.bool (decide (a = b))))] else bif !ByteArray.toList (DTask.Undo a) == ByteArray.toList (DTask.Undo b) then Lf [DV.one (Cell.lit (Value.bool false))] [DV.one (Cell.lit (Value.bool (decide (a = b))))] else bif DTask.State a != DTask.State b then Lf [DV.one (Cell.lit (Value.bool false))] [DV.one (Cell.lit (Value.bool (decide (a = b))))] else bif DTask.Tries a != DTask.Tries b then Lf [DV.one (Cell.lit (Value.bool false))] [DV.one (Cell.lit (Value.bool (decide (a = b))))] else bif DTask.Due a != DTask.Due b then Lf [DV.one (Cell.lit (Value.bool false))] [DV.one (Cell.lit (Value.bool (decide (a = b))))] else bif !decide (DTask.V a = DTask.V b) then Lf [DV.one (Cell.lit (Value.bool false))] [DV.one (Cell.lit (Value.bool (decide (a = b))))] else Lf [DV.one (Cell.lit (Value.bool true))] [DV.one (Cell.lit (Value.bool (decide (a = b))))]) := by kernel_rfl
theorem ok_laws_eqTask : Holds EE (88, con_laws_eqTask) := by
  refine holds_of EE_ok Go.Proofs.Try.func88 con_laws_eqTask (by kernel_rfl) rfl use_laws_eqTask (all_cons ok_laws_eqFact (all_cons ok_laws_eqVal all_nil)) ann_laws_eqTask (fun x hp hb => ?_)
  obtain ⟨a, b⟩ := x
  have hb_a : BdDV (U := UU) (.agg [.lit (.string a.F.Kind), .sl .eVal a.F.Fields, .lit (.string a.Undo), .lit (.int .i64 a.State), .lit (.int .i64 a.Tries), .lit (.int .i64 a.Due), .lit (.int .i64 a.V.K), .lit (.int .i64 a.V.N), .lit (.string a.V.S)]) := hb _ (List.mem_cons_self)
  have hl_a_F_Kind : a.F.Kind.size ≤ 9223372036854775807 := Bd.str (hb_a _ (by simp))
  have hl_a_F_Fields : a.F.Fields.length ≤ 9223372036854775807 := Bd.len (U := UU) (τ := .eVal) (xs := a.F.Fields) (hb_a _ (by simp))
  have hl_a_Undo : a.Undo.size ≤ 9223372036854775807 := Bd.str (hb_a _ (by simp))
  have hl_a_V_S : a.V.S.size ≤ 9223372036854775807 := Bd.str (hb_a _ (by simp))
  have hb_b : BdDV (U := UU) (.agg [.lit (.string b.F.Kind), .sl .eVal b.F.Fields, .lit (.string b.Undo), .lit (.int .i64 b.State), .lit (.int .i64 b.Tries), .lit (.int .i64 b.Due), .lit (.int .i64 b.V.K), .lit (.int .i64 b.V.N), .lit (.string b.V.S)]) := hb _ (List.mem_cons_of_mem _ (List.mem_cons_self))
  have hl_b_F_Kind : b.F.Kind.size ≤ 9223372036854775807 := Bd.str (hb_b _ (by simp))
  have hl_b_F_Fields : b.F.Fields.length ≤ 9223372036854775807 := Bd.len (U := UU) (τ := .eVal) (xs := b.F.Fields) (hb_b _ (by simp))
  have hl_b_Undo : b.Undo.size ≤ 9223372036854775807 := Bd.str (hb_b _ (by simp))
  have hl_b_V_S : b.V.S.size ≤ 9223372036854775807 := Bd.str (hb_b _ (by simp))
  clear hp hb
  rw [vc_laws_eqTask a b]
  obtain ⟨aF, aUndo, aState, aTries, aDue, aV⟩ := a
  obtain ⟨bF, bUndo, bState, bTries, bDue, bV⟩ := b
  repeat' (apply if_cond <;> intro _)
  all_goals (first | apply Lf_t | apply Lf_f) <;> simp_all
def con_laws_szTaskS : Con UU where
  α := (List DTask) × Int
  md := [.ro, .ro]
  of := fun | [.one (.sl .lTask a0), .one (.lit (.int .i64 a1))] => some (a0, a1) | _ => none
  ds := fun (a, left) => [.one (.sl .lTask a), .one (.lit (.int .i64 left))]
  pre := fun (a, left) => [0 ≤ left]
  res := fun (a, left) => ⟨[.one (.lit (.int .i64 (szr left (sizeTaskS a))))], true, []⟩
  law := by intro l x h; (try simp only at h); split at h <;> cases h; rfl
def I_laws_szTaskS_5 (a : (List DTask)) (left : Int) : Int × Int × Unit → Prop := fun (lf, i, _) => 0 ≤ lf ∧ 0 ≤ i ∧ i ≤ a.length ∧ szr lf ((a.drop i.toNat).map sizeTask).sum = szr left (sizeTaskS a)
def μ_laws_szTaskS_5 (a : (List DTask)) (left : Int) : Int × Int × Unit → Nat := fun (lf, i, _) => a.length - i.toNat
def ann_laws_szTaskS : con_laws_szTaskS.α → Nat → Option (Ann UU) := fun (a, left) => annL [(5, annOf [.slot 1 (1, 1024) (.lit (.int .i64)), .slot 5 (5, 1024) (.lit (.int .i64))] (fun _ => I_laws_szTaskS_5 a left) (μ_laws_szTaskS_5 a left))]
def use_laws_szTaskS : List (FuncId × Con UU) := [(83, con_laws_szTask)]
theorem vc_laws_szTaskS (a : (List DTask)) (left : Int) : goal EE use_laws_szTaskS Go.Proofs.Try.f23 con_laws_szTaskS ann_laws_szTaskS (a, left) = (bif decide (IntKind.wrap IntKind.i64 (left - (↑(List.length a) : Int)) < (0 : Int)) then Lf [DV.one (Cell.lit (Value.int IntKind.i64 (-1 : Int)))] [DV.one (Cell.lit (Value.int IntKind.i64 (szr left (sizeTaskS a))))] else I_laws_szTaskS_5 a left (IntKind.wrap IntKind.i64 (left - (↑(List.length a) : Int)), (0 : Int), PUnit.unit) ∧ ∀ (y : Int × Int × PUnit), I_laws_szTaskS_5 a left y → bif decide (y.2.1 < (↑(List.length a) : Int)) then (0 : Int) ≤ y.2.1 ∧ Int.toNat y.2.1 < List.length a ∧ (0 : Int) ≤ y.1 ∧ bif decide (szr y.1 (sizeTask (List.getD a (Int.toNat y.2.1) zTask)) < (0 : Int)) then Lf [DV.one (Cell.lit (Value.int IntKind.i64 (-1 : Int)))] [DV.one (Cell.lit (Value.int IntKind.i64 (szr left (sizeTaskS a))))] else I_laws_szTaskS_5 a left (szr y.1 (sizeTask (List.getD a (Int.toNat y.2.1) zTask)), IntKind.wrap IntKind.i64 (y.2.1 + (1 : Int)), PUnit.unit) ∧ μ_laws_szTaskS_5 a left (szr y.1 (sizeTask (List.getD a (Int.toNat y.2.1) zTask)), IntKind.wrap IntKind.i64 (y.2.1 + (1 : Int)), PUnit.unit) < μ_laws_szTaskS_5 a left y else Lf [DV.one (Cell.lit (Value.int IntKind.i64 y.1))] [DV.one (Cell.lit (Value.int IntKind.i64 (szr left (sizeTaskS a))))]) := by kernel_rfl
theorem ok_laws_szTaskS : Holds EE (23, con_laws_szTaskS) := by
  refine holds_of EE_ok Go.Proofs.Try.func23 con_laws_szTaskS (by kernel_rfl) rfl use_laws_szTaskS (all_cons ok_laws_szTask all_nil) ann_laws_szTaskS (fun x hp hb => ?_)
  obtain ⟨a, left⟩ := x
  have hb_a : BdDV (U := UU) (.one (.sl .lTask a)) := hb _ (List.mem_cons_self)
  have hl_a : a.length ≤ 9223372036854775807 := Bd.len hb_a
  have hb_left : BdDV (U := UU) (.one (.lit (.int .i64 left))) := hb _ (List.mem_cons_of_mem _ (List.mem_cons_self))
  have hl_left := Bd.i64 hb_left
  have hp0 : 0 ≤ left := hp _ (List.mem_cons_self)
  clear hp hb
  rw [vc_laws_szTaskS a left]
  rw [wrap_i64 (by omega) (by omega)]
  refine if_cond (fun h => Lf_i ?_) (fun h => ⟨?_, ?_⟩)
  · simp [szr, sizeTaskS] at *; omega
  · simp only [I_laws_szTaskS_5, sizeTaskS]; simp at h; have h' : 0 ≤ left - a.length := by omega
    exact ⟨h', by omega, by omega, szr_sub h'⟩
  rintro ⟨lf, i, ⟨⟩⟩ ⟨h0, h1, h2, hR⟩
  refine if_cond (fun hc => ?_) (fun hc => ?_)
  · have hc : i < a.length := by simpa using hc
    rw [drop_step a zTask h1 hc, List.map_cons, List.sum_cons] at hR
    simp only at *
    rw [wrap_i64 (by omega) (by omega)]
    generalize List.getD a i.toNat zTask = x at *
    refine ⟨by omega, by omega, by omega, if_cond (fun h => Lf_i ?_) (fun h => ⟨⟨?_, by omega, by omega, ?_⟩, ?_⟩)⟩
    · rw [← hR]; exact (szr_bad (of_decide_eq_true h)).symm
    · simp at h; omega
    · rw [← hR]; simp at h; exact szr_szr h
    · simp only [μ_laws_szTaskS_5]; omega
  · have hc : a.length ≤ i := by simpa using hc
    rw [drop_end a hc] at hR
    apply Lf_i; rw [← hR]; simp [szr, h0]
def con_laws_toTaskS : Con UU where
  α := (List DTask)
  md := [.ro]
  of := fun | [.one (.sl .lTask a0)] => some a0 | _ => none
  ds := fun a => [.one (.sl .lTask a)]
  pre := fun a => [sizeTaskS a ≤ 4294967296]
  res := fun a => ⟨[.one (.sl .eTask a)], true, []⟩
  law := by intro l x h; (try simp only at h); split at h <;> cases h; rfl
def I_laws_toTaskS_3 (a : (List DTask)) : List DTask × Int × Unit → Prop := fun (out, i, _) => 0 ≤ i ∧ i ≤ a.length ∧ out = a.take i.toNat ++ List.replicate (a.length - i.toNat) zTask
def μ_laws_toTaskS_3 (a : (List DTask)) : List DTask × Int × Unit → Nat := fun (out, i, _) => a.length - i.toNat
def ann_laws_toTaskS : con_laws_toTaskS.α → Nat → Option (Ann UU) := fun a => annL [(3, annOf [.slot 3 (3, 1024) (.own .eTask true), .slot 4 (4, 1024) (.lit (.int .i64))] (fun _ => I_laws_toTaskS_3 a) (μ_laws_toTaskS_3 a))]
def use_laws_toTaskS : List (FuncId × Con UU) := [(85, con_laws_toTask)]
theorem vc_laws_toTaskS (a : (List DTask)) : goal EE use_laws_toTaskS Go.Proofs.Try.f25 con_laws_toTaskS ann_laws_toTaskS a = ((0 : Int) ≤ (↑(List.length a) : Int) ∧ (↑(List.length a) : Int) = (↑(List.length a) : Int) ∧ (↑(List.length a) : Int) ≤ (4294967296 : Int) ∧ I_laws_toTaskS_3 a (List.replicate (Int.toNat (↑(List.length a) : Int)) zTask, (0 : Int), PUnit.unit) ∧ ∀ (y : List DTask × Int × PUnit), I_laws_toTaskS_3 a y → bif decide (y.2.1 < (↑(List.length a) : Int)) then (0 : Int) ≤ y.2.1 ∧ Int.toNat y.2.1 < List.length a ∧ sizeTask (List.getD a (Int.toNat y.2.1) zTask) ≤ (4294967296 : Nat) ∧ (0 : Int) ≤ y.2.1 ∧ Int.toNat y.2.1 < List.length y.1 ∧ Int.toNat y.2.1 < List.length y.1 ∧ I_laws_toTaskS_3 a (List.set y.1 (Int.toNat y.2.1) (List.getD a (Int.toNat y.2.1) zTask), IntKind.wrap IntKind.i64 (y.2.1 + (1 : Int)), PUnit.unit) ∧ μ_laws_toTaskS_3 a (List.set y.1 (Int.toNat y.2.1) (List.getD a (Int.toNat y.2.1) zTask), IntKind.wrap IntKind.i64 (y.2.1 + (1 : Int)), PUnit.unit) < μ_laws_toTaskS_3 a y else Lf [DV.one (Cell.sl Cd.eTask y.1)] [DV.one (Cell.sl Cd.eTask a)]) := by kernel_rfl
theorem ok_laws_toTaskS : Holds EE (25, con_laws_toTaskS) := by
  refine holds_of EE_ok Go.Proofs.Try.func25 con_laws_toTaskS (by kernel_rfl) rfl use_laws_toTaskS (all_cons ok_laws_toTask all_nil) ann_laws_toTaskS (fun (a : (List DTask)) hp hb => ?_)
  have hb_a : BdDV (U := UU) (.one (.sl .lTask a)) := hb _ (List.mem_cons_self)
  have hl_a : a.length ≤ 9223372036854775807 := Bd.len hb_a
  have hp0 : sizeTaskS a ≤ 4294967296 := hp _ (List.mem_cons_self)
  clear hp hb
  rw [vc_laws_toTaskS a]
  have hlen : a.length ≤ 4294967296 := by simp only [sizeTaskS] at hp0; omega
  refine ⟨by omega, rfl, by omega, ?_, ?_⟩
  · simp [I_laws_toTaskS_3]
  rintro ⟨out, i, ⟨⟩⟩ ⟨h1, h2, rfl⟩
  simp only at *
  refine if_cond (fun hc => ?_) (fun hc => ?_)
  · have hc : i < a.length := by simpa using hc
    rw [wrap_i64 (by omega) (by omega), set_fill a zTask h1 hc]
    exact ⟨h1, by omega, by exact Nat.le_trans (sum_getD_le sizeTask a zTask h1 hc) (by simp only [sizeTaskS] at hp0; omega), h1, by simp; omega, by simp; omega, ⟨by omega, by omega, rfl⟩, by simp only [μ_laws_toTaskS_3]; omega⟩
  · have hc : a.length ≤ i := by simpa using hc
    have e : i.toNat = a.length := by omega
    rw [e]; simp; exact Lf_rfl _
def con_laws_eqTaskS : Con UU where
  α := (List DTask) × (List DTask)
  md := [.ro, .ro]
  of := fun | [.one (.sl .eTask a0), .one (.sl .eTask a1)] => some (a0, a1) | _ => none
  ds := fun (a, b) => [.one (.sl .eTask a), .one (.sl .eTask b)]
  pre := fun (a, b) => []
  res := fun (a, b) => ⟨[.one (.lit (.bool (decide (a = b))))], true, []⟩
  law := by intro l x h; (try simp only at h); split at h <;> cases h; rfl
def I_laws_eqTaskS_4 (a : (List DTask)) (b : (List DTask)) : Int × Unit → Prop := fun (i, _) => 0 ≤ i ∧ i ≤ a.length ∧ a.length = b.length ∧ (a.drop i.toNat = b.drop i.toNat ↔ a = b)
def μ_laws_eqTaskS_4 (a : (List DTask)) (b : (List DTask)) : Int × Unit → Nat := fun (i, _) => a.length - i.toNat
def ann_laws_eqTaskS : con_laws_eqTaskS.α → Nat → Option (Ann UU) := fun (a, b) => annL [(4, annOf [.slot 5 (5, 1024) (.lit (.int .i64))] (fun _ => I_laws_eqTaskS_4 a b) (μ_laws_eqTaskS_4 a b))]
def use_laws_eqTaskS : List (FuncId × Con UU) := [(88, con_laws_eqTask)]
theorem vc_laws_eqTaskS (a : (List DTask)) (b : (List DTask)) : goal EE use_laws_eqTaskS Go.Proofs.Try.f27 con_laws_eqTaskS ann_laws_eqTaskS (a, b) = (bif (↑(List.length a) : Int) != (↑(List.length b) : Int) then Lf [DV.one (Cell.lit (Value.bool false))] [DV.one (Cell.lit (Value.bool (decide (a = b))))] else I_laws_eqTaskS_4 a b ((0 : Int), PUnit.unit) ∧ ∀ (y : Int × PUnit), I_laws_eqTaskS_4 a b y → bif decide (y.1 < (↑(List.length a) : Int)) then (0 : Int) ≤ y.1 ∧ Int.toNat y.1 < List.length a ∧ (0 : Int) ≤ y.1 ∧ Int.toNat y.1 < List.length b ∧ bif !decide (List.getD a (Int.toNat y.1) zTask = List.getD b (Int.toNat y.1) zTask) then Lf [DV.one (Cell.lit (Value.bool false))] [DV.one (Cell.lit (Value.bool (decide (a = b))))] else I_laws_eqTaskS_4 a b (IntKind.wrap IntKind.i64 (y.1 + (1 : Int)), PUnit.unit) ∧ μ_laws_eqTaskS_4 a b (IntKind.wrap IntKind.i64 (y.1 + (1 : Int)), PUnit.unit) < μ_laws_eqTaskS_4 a b y else Lf [DV.one (Cell.lit (Value.bool true))] [DV.one (Cell.lit (Value.bool (decide (a = b))))]) := by kernel_rfl
theorem ok_laws_eqTaskS : Holds EE (27, con_laws_eqTaskS) := by
  refine holds_of EE_ok Go.Proofs.Try.func27 con_laws_eqTaskS (by kernel_rfl) rfl use_laws_eqTaskS (all_cons ok_laws_eqTask all_nil) ann_laws_eqTaskS (fun x hp hb => ?_)
  obtain ⟨a, b⟩ := x
  have hb_a : BdDV (U := UU) (.one (.sl .eTask a)) := hb _ (List.mem_cons_self)
  have hl_a : a.length ≤ 9223372036854775807 := Bd.len hb_a
  have hb_b : BdDV (U := UU) (.one (.sl .eTask b)) := hb _ (List.mem_cons_of_mem _ (List.mem_cons_self))
  have hl_b : b.length ≤ 9223372036854775807 := Bd.len hb_b
  clear hp hb
  rw [vc_laws_eqTaskS a b]
  refine if_cond (fun h => Lf_f ?_) (fun h => ⟨?_, ?_⟩)
  · rintro rfl; simp at h
  · simp [I_laws_eqTaskS_4] at *; omega
  rintro ⟨i, ⟨⟩⟩ ⟨h1, h2, h3, hR⟩
  simp only at *
  refine if_cond (fun hc => ?_) (fun hc => ?_)
  · have hc : i < a.length := by simpa using hc
    rw [drop_step a zTask h1 hc, drop_step b zTask h1 (by omega)] at hR
    rw [wrap_i64 (by omega) (by omega)]
    refine ⟨by omega, by omega, by omega, by omega, if_cond (fun h => Lf_f ?_) (fun h => ⟨⟨by omega, by omega, h3, ?_⟩, ?_⟩)⟩
    · rw [← hR]; simp at h; simp [h]
    · rw [← hR]; simp at h; simp [h]
    · simp only [μ_laws_eqTaskS_4]; omega
  · have hc : a.length ≤ i := by simpa using hc
    rw [drop_end a hc, drop_end b (by omega)] at hR
    exact Lf_t (hR.1 rfl)
def con_laws_markTaskS : Con UU where
  α := (List DTask) × Int
  md := [.wr, .ro]
  of := fun | [.one (.sl .eTask a0), .one (.lit (.int .i64 a1))] => some (a0, a1) | _ => none
  ds := fun (a, k) => [.one (.sl .eTask a), .one (.lit (.int .i64 k))]
  pre := fun (a, k) => [0 ≤ k, k + cntTaskS a ≤ 4611686018427387904]
  res := fun (a, k) => ⟨[.one (.lit (.int .i64 (k + cntTaskS a)))], true, [.one (.sl .eTask (markTaskS a k))]⟩
  law := by intro l x h; (try simp only at h); split at h <;> cases h; rfl
def I_laws_markTaskS_2 (a : (List DTask)) (k : Int) : List DTask × Int × Int × Unit → Prop := fun (row, kk, i, _) => 0 ≤ i ∧ i ≤ a.length ∧ row = (mkS markTask cntTask a k).take i.toNat ++ a.drop i.toNat ∧ kk = k + ctS cntTask (a.take i.toNat)
def μ_laws_markTaskS_2 (a : (List DTask)) (k : Int) : List DTask × Int × Int × Unit → Nat := fun (row, kk, i, _) => a.length - i.toNat
def ann_laws_markTaskS : con_laws_markTaskS.α → Nat → Option (Ann UU) := fun (a, k) => annL [(2, annOf [.slot 0 (2000000, 0) (.own .eTask true), .slot 1 (1, 1024) (.lit (.int .i64)), .slot 5 (5, 1024) (.lit (.int .i64))] (fun _ => I_laws_markTaskS_2 a k) (μ_laws_markTaskS_2 a k))]
def use_laws_markTaskS : List (FuncId × Con UU) := [(89, con_laws_markText), (90, con_laws_markValS)]
theorem vc_laws_markTaskS (a : (List DTask)) (k : Int) : goal EE use_laws_markTaskS Go.Proofs.Try.f28 con_laws_markTaskS ann_laws_markTaskS (a, k) = (I_laws_markTaskS_2 a k (a, k, (0 : Int), PUnit.unit) ∧ ∀ (y : List DTask × Int × Int × PUnit), I_laws_markTaskS_2 a k y → bif decide (y.2.2.1 < (↑(List.length y.1) : Int)) then y.2.1 ≤ (4611686018427387903 : Int) ∧ (0 : Int) ≤ y.2.2.1 ∧ Int.toNat y.2.2.1 < List.length y.1 ∧ Int.toNat y.2.2.1 < List.length y.1 ∧ (0 : Int) ≤ y.2.2.1 ∧ Int.toNat y.2.2.1 < List.length (List.modify y.1 (Int.toNat y.2.2.1) fun (x : DTask) => { F := { Kind := markText y.2.1, Fields := DFact.Fields (DTask.F x) }, Undo := DTask.Undo x, State := DTask.State x, Tries := DTask.Tries x, Due := DTask.Due x, V := DTask.V x }) ∧ Int.toNat y.2.2.1 < List.length (List.modify y.1 (Int.toNat y.2.2.1) fun (x : DTask) => { F := { Kind := markText y.2.1, Fields := DFact.Fields (DTask.F x) }, Undo := DTask.Undo x, State := DTask.State x, Tries := DTask.Tries x, Due := DTask.Due x, V := DTask.V x }) ∧ Int.toNat y.2.2.1 < List.length (List.modify y.1 (Int.toNat y.2.2.1) fun (x : DTask) => { F := { Kind := markText y.2.1, Fields := DFact.Fields (DTask.F x) }, Undo := DTask.Undo x, State := DTask.State x, Tries := DTask.Tries x, Due := DTask.Due x, V := DTask.V x }) ∧ (0 : Int) ≤ IntKind.wrap IntKind.i64 (y.2.1 + (1 : Int)) ∧ IntKind.wrap IntKind.i64 (y.2.1 + (1 : Int)) + (↑(cntValS (DFact.Fields (DTask.F (List.getD (List.modify y.1 (Int.toNat y.2.2.1) fun (x : DTask) => { F := { Kind := markText y.2.1, Fields := DFact.Fields (DTask.F x) }, Undo := DTask.Undo x, State := DTask.State x, Tries := DTask.Tries x, Due := DTask.Due x, V := DTask.V x }) (Int.toNat y.2.2.1) zTask)))) : Int) ≤ (4611686018427387904 : Int) ∧ IntKind.wrap IntKind.i64 (y.2.1 + (1 : Int)) + (↑(cntValS (DFact.Fields (DTask.F (List.getD (List.modify y.1 (Int.toNat y.2.2.1) fun (x : DTask) => { F := { Kind := markText y.2.1, Fields := DFact.Fields (DTask.F x) }, Undo := DTask.Undo x, State := DTask.State x, Tries := DTask.Tries x, Due := DTask.Due x, V := DTask.V x }) (Int.toNat y.2.2.1) zTask)))) : Int) ≤ (4611686018427387903 : Int) ∧ (0 : Int) ≤ y.2.2.1 ∧ Int.toNat y.2.2.1 < List.length (List.modify (List.modify y.1 (Int.toNat y.2.2.1) fun (x : DTask) => { F := { Kind := markText y.2.1, Fields := DFact.Fields (DTask.F x) }, Undo := DTask.Undo x, State := DTask.State x, Tries := DTask.Tries x, Due := DTask.Due x, V := DTask.V x }) (Int.toNat y.2.2.1) fun (x : DTask) => { F := { Kind := DFact.Kind (DTask.F x), Fields := markValS (DFact.Fields (DTask.F (List.getD (List.modify y.1 (Int.toNat y.2.2.1) fun (x : DTask) => { F := { Kind := markText y.2.1, Fields := DFact.Fields (DTask.F x) }, Undo := DTask.Undo x, State := DTask.State x, Tries := DTask.Tries x, Due := DTask.Due x, V := DTask.V x }) (Int.toNat y.2.2.1) zTask))) (IntKind.wrap IntKind.i64 (y.2.1 + (1 : Int))) }, Undo := DTask.Undo x, State := DTask.State x, Tries := DTask.Tries x, Due := DTask.Due x, V := DTask.V x }) ∧ Int.toNat y.2.2.1 < List.length (List.modify (List.modify y.1 (Int.toNat y.2.2.1) fun (x : DTask) => { F := { Kind := markText y.2.1, Fields := DFact.Fields (DTask.F x) }, Undo := DTask.Undo x, State := DTask.State x, Tries := DTask.Tries x, Due := DTask.Due x, V := DTask.V x }) (Int.toNat y.2.2.1) fun (x : DTask) => { F := { Kind := DFact.Kind (DTask.F x), Fields := markValS (DFact.Fields (DTask.F (List.getD (List.modify y.1 (Int.toNat y.2.2.1) fun (x : DTask) => { F := { Kind := markText y.2.1, Fields := DFact.Fields (DTask.F x) }, Undo := DTask.Undo x, State := DTask.State x, Tries := DTask.Tries x, Due := DTask.Due x, V := DTask.V x }) (Int.toNat y.2.2.1) zTask))) (IntKind.wrap IntKind.i64 (y.2.1 + (1 : Int))) }, Undo := DTask.Undo x, State := DTask.State x, Tries := DTask.Tries x, Due := DTask.Due x, V := DTask.V x }) ∧ (0 : Int) ≤ y.2.2.1 ∧ Int.toNat y.2.2.1 < List.length (List.modify (List.modify (List.modify y.1 (Int.toNat y.2.2.1) fun (x : DTask) => { F := { Kind := markText y.2.1, Fields := DFact.Fields (DTask.F x) }, Undo := DTask.Undo x, State := DTask.State x, Tries := DTask.Tries x, Due := DTask.Due x, V := DTask.V x }) (Int.toNat y.2.2.1) fun (x : DTask) => { F := { Kind := DFact.Kind (DTask.F x), Fields := markValS (DFact.Fields (DTask.F (List.getD (List.modify y.1 (Int.toNat y.2.2.1) fun (x : DTask) => { F := { Kind := markText y.2.1, Fields := DFact.Fields (DTask.F x) }, Undo := DTask.Undo x, State := DTask.State x, Tries := DTask.Tries x, Due := DTask.Due x, V := DTask.V x }) (Int.toNat y.2.2.1) zTask))) (IntKind.wrap IntKind.i64 (y.2.1 + (1 : Int))) }, Undo := DTask.Undo x, State := DTask.State x, Tries := DTask.Tries x, Due := DTask.Due x, V := DTask.V x }) (Int.toNat y.2.2.1) fun (x : DTask) => { F := DTask.F x, Undo := markText (IntKind.wrap IntKind.i64 (y.2.1 + (1 : Int)) + (↑(cntValS (DFact.Fields (DTask.F (List.getD (List.modify y.1 (Int.toNat y.2.2.1) fun (x : DTask) => { F := { Kind := markText y.2.1, Fields := DFact.Fields (DTask.F x) }, Undo := DTask.Undo x, State := DTask.State x, Tries := DTask.Tries x, Due := DTask.Due x, V := DTask.V x }) (Int.toNat y.2.2.1) zTask)))) : Int)), State := DTask.State x, Tries := DTask.Tries x, Due := DTask.Due x, V := DTask.V x }) ∧ Int.toNat y.2.2.1 < List.length (List.modify (List.modify (List.modify y.1 (Int.toNat y.2.2.1) fun (x : DTask) => { F := { Kind := markText y.2.1, Fields := DFact.Fields (DTask.F x) }, Undo := DTask.Undo x, State := DTask.State x, Tries := DTask.Tries x, Due := DTask.Due x, V := DTask.V x }) (Int.toNat y.2.2.1) fun (x : DTask) => { F := { Kind := DFact.Kind (DTask.F x), Fields := markValS (DFact.Fields (DTask.F (List.getD (List.modify y.1 (Int.toNat y.2.2.1) fun (x : DTask) => { F := { Kind := markText y.2.1, Fields := DFact.Fields (DTask.F x) }, Undo := DTask.Undo x, State := DTask.State x, Tries := DTask.Tries x, Due := DTask.Due x, V := DTask.V x }) (Int.toNat y.2.2.1) zTask))) (IntKind.wrap IntKind.i64 (y.2.1 + (1 : Int))) }, Undo := DTask.Undo x, State := DTask.State x, Tries := DTask.Tries x, Due := DTask.Due x, V := DTask.V x }) (Int.toNat y.2.2.1) fun (x : DTask) => { F := DTask.F x, Undo := markText (IntKind.wrap IntKind.i64 (y.2.1 + (1 : Int)) + (↑(cntValS (DFact.Fields (DTask.F (List.getD (List.modify y.1 (Int.toNat y.2.2.1) fun (x : DTask) => { F := { Kind := markText y.2.1, Fields := DFact.Fields (DTask.F x) }, Undo := DTask.Undo x, State := DTask.State x, Tries := DTask.Tries x, Due := DTask.Due x, V := DTask.V x }) (Int.toNat y.2.2.1) zTask)))) : Int)), State := DTask.State x, Tries := DTask.Tries x, Due := DTask.Due x, V := DTask.V x }) ∧ (0 : Int) ≤ y.2.2.1 ∧ Int.toNat y.2.2.1 < List.length (List.modify (List.modify (List.modify (List.modify y.1 (Int.toNat y.2.2.1) fun (x : DTask) => { F := { Kind := markText y.2.1, Fields := DFact.Fields (DTask.F x) }, Undo := DTask.Undo x, State := DTask.State x, Tries := DTask.Tries x, Due := DTask.Due x, V := DTask.V x }) (Int.toNat y.2.2.1) fun (x : DTask) => { F := { Kind := DFact.Kind (DTask.F x), Fields := markValS (DFact.Fields (DTask.F (List.getD (List.modify y.1 (Int.toNat y.2.2.1) fun (x : DTask) => { F := { Kind := markText y.2.1, Fields := DFact.Fields (DTask.F x) }, Undo := DTask.Undo x, State := DTask.State x, Tries := DTask.Tries x, Due := DTask.Due x, V := DTask.V x }) (Int.toNat y.2.2.1) zTask))) (IntKind.wrap IntKind.i64 (y.2.1 + (1 : Int))) }, Undo := DTask.Undo x, State := DTask.State x, Tries := DTask.Tries x, Due := DTask.Due x, V := DTask.V x }) (Int.toNat y.2.2.1) fun (x : DTask) => { F := DTask.F x, Undo := markText (IntKind.wrap IntKind.i64 (y.2.1 + (1 : Int)) + (↑(cntValS (DFact.Fields (DTask.F (List.getD (List.modify y.1 (Int.toNat y.2.2.1) fun (x : DTask) => { F := { Kind := markText y.2.1, Fields := DFact.Fields (DTask.F x) }, Undo := DTask.Undo x, State := DTask.State x, Tries := DTask.Tries x, Due := DTask.Due x, V := DTask.V x }) (Int.toNat y.2.2.1) zTask)))) : Int)), State := DTask.State x, Tries := DTask.Tries x, Due := DTask.Due x, V := DTask.V x }) (Int.toNat y.2.2.1) fun (x : DTask) => { F := DTask.F x, Undo := DTask.Undo x, State := IntKind.wrap IntKind.i64 (IntKind.wrap IntKind.i64 (y.2.1 + (1 : Int)) + (↑(cntValS (DFact.Fields (DTask.F (List.getD (List.modify y.1 (Int.toNat y.2.2.1) fun (x : DTask) => { F := { Kind := markText y.2.1, Fields := DFact.Fields (DTask.F x) }, Undo := DTask.Undo x, State := DTask.State x, Tries := DTask.Tries x, Due := DTask.Due x, V := DTask.V x }) (Int.toNat y.2.2.1) zTask)))) : Int) + (1 : Int)), Tries := DTask.Tries x, Due := DTask.Due x, V := DTask.V x }) ∧ Int.toNat y.2.2.1 < List.length (List.modify (List.modify (List.modify (List.modify y.1 (Int.toNat y.2.2.1) fun (x : DTask) => { F := { Kind := markText y.2.1, Fields := DFact.Fields (DTask.F x) }, Undo := DTask.Undo x, State := DTask.State x, Tries := DTask.Tries x, Due := DTask.Due x, V := DTask.V x }) (Int.toNat y.2.2.1) fun (x : DTask) => { F := { Kind := DFact.Kind (DTask.F x), Fields := markValS (DFact.Fields (DTask.F (List.getD (List.modify y.1 (Int.toNat y.2.2.1) fun (x : DTask) => { F := { Kind := markText y.2.1, Fields := DFact.Fields (DTask.F x) }, Undo := DTask.Undo x, State := DTask.State x, Tries := DTask.Tries x, Due := DTask.Due x, V := DTask.V x }) (Int.toNat y.2.2.1) zTask))) (IntKind.wrap IntKind.i64 (y.2.1 + (1 : Int))) }, Undo := DTask.Undo x, State := DTask.State x, Tries := DTask.Tries x, Due := DTask.Due x, V := DTask.V x }) (Int.toNat y.2.2.1) fun (x : DTask) => { F := DTask.F x, Undo := markText (IntKind.wrap IntKind.i64 (y.2.1 + (1 : Int)) + (↑(cntValS (DFact.Fields (DTask.F (List.getD (List.modify y.1 (Int.toNat y.2.2.1) fun (x : DTask) => { F := { Kind := markText y.2.1, Fields := DFact.Fields (DTask.F x) }, Undo := DTask.Undo x, State := DTask.State x, Tries := DTask.Tries x, Due := DTask.Due x, V := DTask.V x }) (Int.toNat y.2.2.1) zTask)))) : Int)), State := DTask.State x, Tries := DTask.Tries x, Due := DTask.Due x, V := DTask.V x }) (Int.toNat y.2.2.1) fun (x : DTask) => { F := DTask.F x, Undo := DTask.Undo x, State := IntKind.wrap IntKind.i64 (IntKind.wrap IntKind.i64 (y.2.1 + (1 : Int)) + (↑(cntValS (DFact.Fields (DTask.F (List.getD (List.modify y.1 (Int.toNat y.2.2.1) fun (x : DTask) => { F := { Kind := markText y.2.1, Fields := DFact.Fields (DTask.F x) }, Undo := DTask.Undo x, State := DTask.State x, Tries := DTask.Tries x, Due := DTask.Due x, V := DTask.V x }) (Int.toNat y.2.2.1) zTask)))) : Int) + (1 : Int)), Tries := DTask.Tries x, Due := DTask.Due x, V := DTask.V x }) ∧ (0 : Int) ≤ y.2.2.1 ∧ Int.toNat y.2.2.1 < List.length (List.modify (List.modify (List.modify (List.modify (List.modify y.1 (Int.toNat y.2.2.1) fun (x : DTask) => { F := { Kind := markText y.2.1, Fields := DFact.Fields (DTask.F x) }, Undo := DTask.Undo x, State := DTask.State x, Tries := DTask.Tries x, Due := DTask.Due x, V := DTask.V x }) (Int.toNat y.2.2.1) fun (x : DTask) => { F := { Kind := DFact.Kind (DTask.F x), Fields := markValS (DFact.Fields (DTask.F (List.getD (List.modify y.1 (Int.toNat y.2.2.1) fun (x : DTask) => { F := { Kind := markText y.2.1, Fields := DFact.Fields (DTask.F x) }, Undo := DTask.Undo x, State := DTask.State x, Tries := DTask.Tries x, Due := DTask.Due x, V := DTask.V x }) (Int.toNat y.2.2.1) zTask))) (IntKind.wrap IntKind.i64 (y.2.1 + (1 : Int))) }, Undo := DTask.Undo x, State := DTask.State x, Tries := DTask.Tries x, Due := DTask.Due x, V := DTask.V x }) (Int.toNat y.2.2.1) fun (x : DTask) => { F := DTask.F x, Undo := markText (IntKind.wrap IntKind.i64 (y.2.1 + (1 : Int)) + (↑(cntValS (DFact.Fields (DTask.F (List.getD (List.modify y.1 (Int.toNat y.2.2.1) fun (x : DTask) => { F := { Kind := markText y.2.1, Fields := DFact.Fields (DTask.F x) }, Undo := DTask.Undo x, State := DTask.State x, Tries := DTask.Tries x, Due := DTask.Due x, V := DTask.V x }) (Int.toNat y.2.2.1) zTask)))) : Int)), State := DTask.State x, Tries := DTask.Tries x, Due := DTask.Due x, V := DTask.V x }) (Int.toNat y.2.2.1) fun (x : DTask) => { F := DTask.F x, Undo := DTask.Undo x, State := IntKind.wrap IntKind.i64 (IntKind.wrap IntKind.i64 (y.2.1 + (1 : Int)) + (↑(cntValS (DFact.Fields (DTask.F (List.getD (List.modify y.1 (Int.toNat y.2.2.1) fun (x : DTask) => { F := { Kind := markText y.2.1, Fields := DFact.Fields (DTask.F x) }, Undo := DTask.Undo x, State := DTask.State x, Tries := DTask.Tries x, Due := DTask.Due x, V := DTask.V x }) (Int.toNat y.2.2.1) zTask)))) : Int) + (1 : Int)), Tries := DTask.Tries x, Due := DTask.Due x, V := DTask.V x }) (Int.toNat y.2.2.1) fun (x : DTask) => { F := DTask.F x, Undo := DTask.Undo x, State := DTask.State x, Tries := IntKind.wrap IntKind.i64 (IntKind.wrap IntKind.i64 (IntKind.wrap IntKind.i64 (y.2.1 + (1 : Int)) + (↑(cntValS (DFact.Fields (DTask.F (List.getD (List.modify y.1 (Int.toNat y.2.2.1) fun (x : DTask) => { F := { Kind := markText y.2.1, Fields := DFact.Fields (DTask.F x) }, Undo := DTask.Undo x, State := DTask.State x, Tries := DTask.Tries x, Due := DTask.Due x, V := DTask.V x }) (Int.toNat y.2.2.1) zTask)))) : Int) + (1 : Int)) + (1 : Int)), Due := DTask.Due x, V := DTask.V x }) ∧ Int.toNat y.2.2.1 < List.length (List.modify (List.modify (List.modify (List.modify (List.modify y.1 (Int.toNat y.2.2.1) fun (x : DTask) => { F := { Kind := markText y.2.1, Fields := DFact.Fields (DTask.F x) }, Undo := DTask.Undo x, State := DTask.State x, Tries := DTask.Tries x, Due := DTask.Due x, V := DTask.V x }) (Int.toNat y.2.2.1) fun (x : DTask) => { F := { Kind := DFact.Kind (DTask.F x), Fields := markValS (DFact.Fields (DTask.F (List.getD (List.modify y.1 (Int.toNat y.2.2.1) fun (x : DTask) => { F := { Kind := markText y.2.1, Fields := DFact.Fields (DTask.F x) }, Undo := DTask.Undo x, State := DTask.State x, Tries := DTask.Tries x, Due := DTask.Due x, V := DTask.V x }) (Int.toNat y.2.2.1) zTask))) (IntKind.wrap IntKind.i64 (y.2.1 + (1 : Int))) }, Undo := DTask.Undo x, State := DTask.State x, Tries := DTask.Tries x, Due := DTask.Due x, V := DTask.V x }) (Int.toNat y.2.2.1) fun (x : DTask) => { F := DTask.F x, Undo := markText (IntKind.wrap IntKind.i64 (y.2.1 + (1 : Int)) + (↑(cntValS (DFact.Fields (DTask.F (List.getD (List.modify y.1 (Int.toNat y.2.2.1) fun (x : DTask) => { F := { Kind := markText y.2.1, Fields := DFact.Fields (DTask.F x) }, Undo := DTask.Undo x, State := DTask.State x, Tries := DTask.Tries x, Due := DTask.Due x, V := DTask.V x }) (Int.toNat y.2.2.1) zTask)))) : Int)), State := DTask.State x, Tries := DTask.Tries x, Due := DTask.Due x, V := DTask.V x }) (Int.toNat y.2.2.1) fun (x : DTask) => { F := DTask.F x, Undo := DTask.Undo x, State := IntKind.wrap IntKind.i64 (IntKind.wrap IntKind.i64 (y.2.1 + (1 : Int)) + (↑(cntValS (DFact.Fields (DTask.F (List.getD (List.modify y.1 (Int.toNat y.2.2.1) fun (x : DTask) => { F := { Kind := markText y.2.1, Fields := DFact.Fields (DTask.F x) }, Undo := DTask.Undo x, State := DTask.State x, Tries := DTask.Tries x, Due := DTask.Due x, V := DTask.V x }) (Int.toNat y.2.2.1) zTask)))) : Int) + (1 : Int)), Tries := DTask.Tries x, Due := DTask.Due x, V := DTask.V x }) (Int.toNat y.2.2.1) fun (x : DTask) => { F := DTask.F x, Undo := DTask.Undo x, State := DTask.State x, Tries := IntKind.wrap IntKind.i64 (IntKind.wrap IntKind.i64 (IntKind.wrap IntKind.i64 (y.2.1 + (1 : Int)) + (↑(cntValS (DFact.Fields (DTask.F (List.getD (List.modify y.1 (Int.toNat y.2.2.1) fun (x : DTask) => { F := { Kind := markText y.2.1, Fields := DFact.Fields (DTask.F x) }, Undo := DTask.Undo x, State := DTask.State x, Tries := DTask.Tries x, Due := DTask.Due x, V := DTask.V x }) (Int.toNat y.2.2.1) zTask)))) : Int) + (1 : Int)) + (1 : Int)), Due := DTask.Due x, V := DTask.V x }) ∧ (0 : Int) ≤ y.2.2.1 ∧ Int.toNat y.2.2.1 < List.length (List.modify (List.modify (List.modify (List.modify (List.modify (List.modify y.1 (Int.toNat y.2.2.1) fun (x : DTask) => { F := { Kind := markText y.2.1, Fields := DFact.Fields (DTask.F x) }, Undo := DTask.Undo x, State := DTask.State x, Tries := DTask.Tries x, Due := DTask.Due x, V := DTask.V x }) (Int.toNat y.2.2.1) fun (x : DTask) => { F := { Kind := DFact.Kind (DTask.F x), Fields := markValS (DFact.Fields (DTask.F (List.getD (List.modify y.1 (Int.toNat y.2.2.1) fun (x : DTask) => { F := { Kind := markText y.2.1, Fields := DFact.Fields (DTask.F x) }, Undo := DTask.Undo x, State := DTask.State x, Tries := DTask.Tries x, Due := DTask.Due x, V := DTask.V x }) (Int.toNat y.2.2.1) zTask))) (IntKind.wrap IntKind.i64 (y.2.1 + (1 : Int))) }, Undo := DTask.Undo x, State := DTask.State x, Tries := DTask.Tries x, Due := DTask.Due x, V := DTask.V x }) (Int.toNat y.2.2.1) fun (x : DTask) => { F := DTask.F x, Undo := markText (IntKind.wrap IntKind.i64 (y.2.1 + (1 : Int)) + (↑(cntValS (DFact.Fields (DTask.F (List.getD (List.modify y.1 (Int.toNat y.2.2.1) fun (x : DTask) => { F := { Kind := markText y.2.1, Fields := DFact.Fields (DTask.F x) }, Undo := DTask.Undo x, State := DTask.State x, Tries := DTask.Tries x, Due := DTask.Due x, V := DTask.V x }) (Int.toNat y.2.2.1) zTask)))) : Int)), State := DTask.State x, Tries := DTask.Tries x, Due := DTask.Due x, V := DTask.V x }) (Int.toNat y.2.2.1) fun (x : DTask) => { F := DTask.F x, Undo := DTask.Undo x, State := IntKind.wrap IntKind.i64 (IntKind.wrap IntKind.i64 (y.2.1 + (1 : Int)) + (↑(cntValS (DFact.Fields (DTask.F (List.getD (List.modify y.1 (Int.toNat y.2.2.1) fun (x : DTask) => { F := { Kind := markText y.2.1, Fields := DFact.Fields (DTask.F x) }, Undo := DTask.Undo x, State := DTask.State x, Tries := DTask.Tries x, Due := DTask.Due x, V := DTask.V x }) (Int.toNat y.2.2.1) zTask)))) : Int) + (1 : Int)), Tries := DTask.Tries x, Due := DTask.Due x, V := DTask.V x }) (Int.toNat y.2.2.1) fun (x : DTask) => { F := DTask.F x, Undo := DTask.Undo x, State := DTask.State x, Tries := IntKind.wrap IntKind.i64 (IntKind.wrap IntKind.i64 (IntKind.wrap IntKind.i64 (y.2.1 + (1 : Int)) + (↑(cntValS (DFact.Fields (DTask.F (List.getD (List.modify y.1 (Int.toNat y.2.2.1) fun (x : DTask) => { F := { Kind := markText y.2.1, Fields := DFact.Fields (DTask.F x) }, Undo := DTask.Undo x, State := DTask.State x, Tries := DTask.Tries x, Due := DTask.Due x, V := DTask.V x }) (Int.toNat y.2.2.1) zTask)))) : Int) + (1 : Int)) + (1 : Int)), Due := DTask.Due x, V := DTask.V x }) (Int.toNat y.2.2.1) fun (x : DTask) => { F := DTask.F x, Undo := DTask.Undo x, State := DTask.State x, Tries := DTask.Tries x, Due := IntKind.wrap IntKind.i64 (IntKind.wrap IntKind.i64 (IntKind.wrap IntKind.i64 (IntKind.wrap IntKind.i64 (y.2.1 + (1 : Int)) + (↑(cntValS (DFact.Fields (DTask.F (List.getD (List.modify y.1 (Int.toNat y.2.2.1) fun (x : DTask) => { F := { Kind := markText y.2.1, Fields := DFact.Fields (DTask.F x) }, Undo := DTask.Undo x, State := DTask.State x, Tries := DTask.Tries x, Due := DTask.Due x, V := DTask.V x }) (Int.toNat y.2.2.1) zTask)))) : Int) + (1 : Int)) + (1 : Int)) + (1 : Int)), V := DTask.V x }) ∧ Int.toNat y.2.2.1 < List.length (List.modify (List.modify (List.modify (List.modify (List.modify (List.modify y.1 (Int.toNat y.2.2.1) fun (x : DTask) => { F := { Kind := markText y.2.1, Fields := DFact.Fields (DTask.F x) }, Undo := DTask.Undo x, State := DTask.State x, Tries := DTask.Tries x, Due := DTask.Due x, V := DTask.V x }) (Int.toNat y.2.2.1) fun (x : DTask) => { F := { Kind := DFact.Kind (DTask.F x), Fields := markValS (DFact.Fields (DTask.F (List.getD (List.modify y.1 (Int.toNat y.2.2.1) fun (x : DTask) => { F := { Kind := markText y.2.1, Fields := DFact.Fields (DTask.F x) }, Undo := DTask.Undo x, State := DTask.State x, Tries := DTask.Tries x, Due := DTask.Due x, V := DTask.V x }) (Int.toNat y.2.2.1) zTask))) (IntKind.wrap IntKind.i64 (y.2.1 + (1 : Int))) }, Undo := DTask.Undo x, State := DTask.State x, Tries := DTask.Tries x, Due := DTask.Due x, V := DTask.V x }) (Int.toNat y.2.2.1) fun (x : DTask) => { F := DTask.F x, Undo := markText (IntKind.wrap IntKind.i64 (y.2.1 + (1 : Int)) + (↑(cntValS (DFact.Fields (DTask.F (List.getD (List.modify y.1 (Int.toNat y.2.2.1) fun (x : DTask) => { F := { Kind := markText y.2.1, Fields := DFact.Fields (DTask.F x) }, Undo := DTask.Undo x, State := DTask.State x, Tries := DTask.Tries x, Due := DTask.Due x, V := DTask.V x }) (Int.toNat y.2.2.1) zTask)))) : Int)), State := DTask.State x, Tries := DTask.Tries x, Due := DTask.Due x, V := DTask.V x }) (Int.toNat y.2.2.1) fun (x : DTask) => { F := DTask.F x, Undo := DTask.Undo x, State := IntKind.wrap IntKind.i64 (IntKind.wrap IntKind.i64 (y.2.1 + (1 : Int)) + (↑(cntValS (DFact.Fields (DTask.F (List.getD (List.modify y.1 (Int.toNat y.2.2.1) fun (x : DTask) => { F := { Kind := markText y.2.1, Fields := DFact.Fields (DTask.F x) }, Undo := DTask.Undo x, State := DTask.State x, Tries := DTask.Tries x, Due := DTask.Due x, V := DTask.V x }) (Int.toNat y.2.2.1) zTask)))) : Int) + (1 : Int)), Tries := DTask.Tries x, Due := DTask.Due x, V := DTask.V x }) (Int.toNat y.2.2.1) fun (x : DTask) => { F := DTask.F x, Undo := DTask.Undo x, State := DTask.State x, Tries := IntKind.wrap IntKind.i64 (IntKind.wrap IntKind.i64 (IntKind.wrap IntKind.i64 (y.2.1 + (1 : Int)) + (↑(cntValS (DFact.Fields (DTask.F (List.getD (List.modify y.1 (Int.toNat y.2.2.1) fun (x : DTask) => { F := { Kind := markText y.2.1, Fields := DFact.Fields (DTask.F x) }, Undo := DTask.Undo x, State := DTask.State x, Tries := DTask.Tries x, Due := DTask.Due x, V := DTask.V x }) (Int.toNat y.2.2.1) zTask)))) : Int) + (1 : Int)) + (1 : Int)), Due := DTask.Due x, V := DTask.V x }) (Int.toNat y.2.2.1) fun (x : DTask) => { F := DTask.F x, Undo := DTask.Undo x, State := DTask.State x, Tries := DTask.Tries x, Due := IntKind.wrap IntKind.i64 (IntKind.wrap IntKind.i64 (IntKind.wrap IntKind.i64 (IntKind.wrap IntKind.i64 (y.2.1 + (1 : Int)) + (↑(cntValS (DFact.Fields (DTask.F (List.getD (List.modify y.1 (Int.toNat y.2.2.1) fun (x : DTask) => { F := { Kind := markText y.2.1, Fields := DFact.Fields (DTask.F x) }, Undo := DTask.Undo x, State := DTask.State x, Tries := DTask.Tries x, Due := DTask.Due x, V := DTask.V x }) (Int.toNat y.2.2.1) zTask)))) : Int) + (1 : Int)) + (1 : Int)) + (1 : Int)), V := DTask.V x }) ∧ (0 : Int) ≤ y.2.2.1 ∧ Int.toNat y.2.2.1 < List.length (List.modify (List.modify (List.modify (List.modify (List.modify (List.modify (List.modify y.1 (Int.toNat y.2.2.1) fun (x : DTask) => { F := { Kind := markText y.2.1, Fields := DFact.Fields (DTask.F x) }, Undo := DTask.Undo x, State := DTask.State x, Tries := DTask.Tries x, Due := DTask.Due x, V := DTask.V x }) (Int.toNat y.2.2.1) fun (x : DTask) => { F := { Kind := DFact.Kind (DTask.F x), Fields := markValS (DFact.Fields (DTask.F (List.getD (List.modify y.1 (Int.toNat y.2.2.1) fun (x : DTask) => { F := { Kind := markText y.2.1, Fields := DFact.Fields (DTask.F x) }, Undo := DTask.Undo x, State := DTask.State x, Tries := DTask.Tries x, Due := DTask.Due x, V := DTask.V x }) (Int.toNat y.2.2.1) zTask))) (IntKind.wrap IntKind.i64 (y.2.1 + (1 : Int))) }, Undo := DTask.Undo x, State := DTask.State x, Tries := DTask.Tries x, Due := DTask.Due x, V := DTask.V x }) (Int.toNat y.2.2.1) fun (x : DTask) => { F := DTask.F x, Undo := markText (IntKind.wrap IntKind.i64 (y.2.1 + (1 : Int)) + (↑(cntValS (DFact.Fields (DTask.F (List.getD (List.modify y.1 (Int.toNat y.2.2.1) fun (x : DTask) => { F := { Kind := markText y.2.1, Fields := DFact.Fields (DTask.F x) }, Undo := DTask.Undo x, State := DTask.State x, Tries := DTask.Tries x, Due := DTask.Due x, V := DTask.V x }) (Int.toNat y.2.2.1) zTask)))) : Int)), State := DTask.State x, Tries := DTask.Tries x, Due := DTask.Due x, V := DTask.V x }) (Int.toNat y.2.2.1) fun (x : DTask) => { F := DTask.F x, Undo := DTask.Undo x, State := IntKind.wrap IntKind.i64 (IntKind.wrap IntKind.i64 (y.2.1 + (1 : Int)) + (↑(cntValS (DFact.Fields (DTask.F (List.getD (List.modify y.1 (Int.toNat y.2.2.1) fun (x : DTask) => { F := { Kind := markText y.2.1, Fields := DFact.Fields (DTask.F x) }, Undo := DTask.Undo x, State := DTask.State x, Tries := DTask.Tries x, Due := DTask.Due x, V := DTask.V x }) (Int.toNat y.2.2.1) zTask)))) : Int) + (1 : Int)), Tries := DTask.Tries x, Due := DTask.Due x, V := DTask.V x }) (Int.toNat y.2.2.1) fun (x : DTask) => { F := DTask.F x, Undo := DTask.Undo x, State := DTask.State x, Tries := IntKind.wrap IntKind.i64 (IntKind.wrap IntKind.i64 (IntKind.wrap IntKind.i64 (y.2.1 + (1 : Int)) + (↑(cntValS (DFact.Fields (DTask.F (List.getD (List.modify y.1 (Int.toNat y.2.2.1) fun (x : DTask) => { F := { Kind := markText y.2.1, Fields := DFact.Fields (DTask.F x) }, Undo := DTask.Undo x, State := DTask.State x, Tries := DTask.Tries x, Due := DTask.Due x, V := DTask.V x }) (Int.toNat y.2.2.1) zTask)))) : Int) + (1 : Int)) + (1 : Int)), Due := DTask.Due x, V := DTask.V x }) (Int.toNat y.2.2.1) fun (x : DTask) => { F := DTask.F x, Undo := DTask.Undo x, State := DTask.State x, Tries := DTask.Tries x, Due := IntKind.wrap IntKind.i64 (IntKind.wrap IntKind.i64 (IntKind.wrap IntKind.i64 (IntKind.wrap IntKind.i64 (y.2.1 + (1 : Int)) + (↑(cntValS (DFact.Fields (DTask.F (List.getD (List.modify y.1 (Int.toNat y.2.2.1) fun (x : DTask) => { F := { Kind := markText y.2.1, Fields := DFact.Fields (DTask.F x) }, Undo := DTask.Undo x, State := DTask.State x, Tries := DTask.Tries x, Due := DTask.Due x, V := DTask.V x }) (Int.toNat y.2.2.1) zTask)))) : Int) + (1 : Int)) + (1 : Int)) + (1 : Int)), V := DTask.V x }) (Int.toNat y.2.2.1) fun (x : DTask) => { F := DTask.F x, Undo := DTask.Undo x, State := DTask.State x, Tries := DTask.Tries x, Due := DTask.Due x, V := { K := IntKind.wrap IntKind.i64 (IntKind.wrap IntKind.i64 (IntKind.wrap IntKind.i64 (IntKind.wrap IntKind.i64 (IntKind.wrap IntKind.i64 (y.2.1 + (1 : Int)) + (↑(cntValS (DFact.Fields (DTask.F (List.getD (List.modify y.1 (Int.toNat y.2.2.1) fun (x : DTask) => { F := { Kind := markText y.2.1, Fields := DFact.Fields (DTask.F x) }, Undo := DTask.Undo x, State := DTask.State x, Tries := DTask.Tries x, Due := DTask.Due x, V := DTask.V x }) (Int.toNat y.2.2.1) zTask)))) : Int) + (1 : Int)) + (1 : Int)) + (1 : Int)) + (1 : Int)), N := DVal.N (DTask.V x), S := DVal.S (DTask.V x) } }) ∧ Int.toNat y.2.2.1 < List.length (List.modify (List.modify (List.modify (List.modify (List.modify (List.modify (List.modify y.1 (Int.toNat y.2.2.1) fun (x : DTask) => { F := { Kind := markText y.2.1, Fields := DFact.Fields (DTask.F x) }, Undo := DTask.Undo x, State := DTask.State x, Tries := DTask.Tries x, Due := DTask.Due x, V := DTask.V x }) (Int.toNat y.2.2.1) fun (x : DTask) => { F := { Kind := DFact.Kind (DTask.F x), Fields := markValS (DFact.Fields (DTask.F (List.getD (List.modify y.1 (Int.toNat y.2.2.1) fun (x : DTask) => { F := { Kind := markText y.2.1, Fields := DFact.Fields (DTask.F x) }, Undo := DTask.Undo x, State := DTask.State x, Tries := DTask.Tries x, Due := DTask.Due x, V := DTask.V x }) (Int.toNat y.2.2.1) zTask))) (IntKind.wrap IntKind.i64 (y.2.1 + (1 : Int))) }, Undo := DTask.Undo x, State := DTask.State x, Tries := DTask.Tries x, Due := DTask.Due x, V := DTask.V x }) (Int.toNat y.2.2.1) fun (x : DTask) => { F := DTask.F x, Undo := markText (IntKind.wrap IntKind.i64 (y.2.1 + (1 : Int)) + (↑(cntValS (DFact.Fields (DTask.F (List.getD (List.modify y.1 (Int.toNat y.2.2.1) fun (x : DTask) => { F := { Kind := markText y.2.1, Fields := DFact.Fields (DTask.F x) }, Undo := DTask.Undo x, State := DTask.State x, Tries := DTask.Tries x, Due := DTask.Due x, V := DTask.V x }) (Int.toNat y.2.2.1) zTask)))) : Int)), State := DTask.State x, Tries := DTask.Tries x, Due := DTask.Due x, V := DTask.V x }) (Int.toNat y.2.2.1) fun (x : DTask) => { F := DTask.F x, Undo := DTask.Undo x, State := IntKind.wrap IntKind.i64 (IntKind.wrap IntKind.i64 (y.2.1 + (1 : Int)) + (↑(cntValS (DFact.Fields (DTask.F (List.getD (List.modify y.1 (Int.toNat y.2.2.1) fun (x : DTask) => { F := { Kind := markText y.2.1, Fields := DFact.Fields (DTask.F x) }, Undo := DTask.Undo x, State := DTask.State x, Tries := DTask.Tries x, Due := DTask.Due x, V := DTask.V x }) (Int.toNat y.2.2.1) zTask)))) : Int) + (1 : Int)), Tries := DTask.Tries x, Due := DTask.Due x, V := DTask.V x }) (Int.toNat y.2.2.1) fun (x : DTask) => { F := DTask.F x, Undo := DTask.Undo x, State := DTask.State x, Tries := IntKind.wrap IntKind.i64 (IntKind.wrap IntKind.i64 (IntKind.wrap IntKind.i64 (y.2.1 + (1 : Int)) + (↑(cntValS (DFact.Fields (DTask.F (List.getD (List.modify y.1 (Int.toNat y.2.2.1) fun (x : DTask) => { F := { Kind := markText y.2.1, Fields := DFact.Fields (DTask.F x) }, Undo := DTask.Undo x, State := DTask.State x, Tries := DTask.Tries x, Due := DTask.Due x, V := DTask.V x }) (Int.toNat y.2.2.1) zTask)))) : Int) + (1 : Int)) + (1 : Int)), Due := DTask.Due x, V := DTask.V x }) (Int.toNat y.2.2.1) fun (x : DTask) => { F := DTask.F x, Undo := DTask.Undo x, State := DTask.State x, Tries := DTask.Tries x, Due := IntKind.wrap IntKind.i64 (IntKind.wrap IntKind.i64 (IntKind.wrap IntKind.i64 (IntKind.wrap IntKind.i64 (y.2.1 + (1 : Int)) + (↑(cntValS (DFact.Fields (DTask.F (List.getD (List.modify y.1 (Int.toNat y.2.2.1) fun (x : DTask) => { F := { Kind := markText y.2.1, Fields := DFact.Fields (DTask.F x) }, Undo := DTask.Undo x, State := DTask.State x, Tries := DTask.Tries x, Due := DTask.Due x, V := DTask.V x }) (Int.toNat y.2.2.1) zTask)))) : Int) + (1 : Int)) + (1 : Int)) + (1 : Int)), V := DTask.V x }) (Int.toNat y.2.2.1) fun (x : DTask) => { F := DTask.F x, Undo := DTask.Undo x, State := DTask.State x, Tries := DTask.Tries x, Due := DTask.Due x, V := { K := IntKind.wrap IntKind.i64 (IntKind.wrap IntKind.i64 (IntKind.wrap IntKind.i64 (IntKind.wrap IntKind.i64 (IntKind.wrap IntKind.i64 (y.2.1 + (1 : Int)) + (↑(cntValS (DFact.Fields (DTask.F (List.getD (List.modify y.1 (Int.toNat y.2.2.1) fun (x : DTask) => { F := { Kind := markText y.2.1, Fields := DFact.Fields (DTask.F x) }, Undo := DTask.Undo x, State := DTask.State x, Tries := DTask.Tries x, Due := DTask.Due x, V := DTask.V x }) (Int.toNat y.2.2.1) zTask)))) : Int) + (1 : Int)) + (1 : Int)) + (1 : Int)) + (1 : Int)), N := DVal.N (DTask.V x), S := DVal.S (DTask.V x) } }) ∧ IntKind.wrap IntKind.i64 (IntKind.wrap IntKind.i64 (IntKind.wrap IntKind.i64 (IntKind.wrap IntKind.i64 (IntKind.wrap IntKind.i64 (IntKind.wrap IntKind.i64 (IntKind.wrap IntKind.i64 (y.2.1 + (1 : Int)) + (↑(cntValS (DFact.Fields (DTask.F (List.getD (List.modify y.1 (Int.toNat y.2.2.1) fun (x : DTask) => { F := { Kind := markText y.2.1, Fields := DFact.Fields (DTask.F x) }, Undo := DTask.Undo x, State := DTask.State x, Tries := DTask.Tries x, Due := DTask.Due x, V := DTask.V x }) (Int.toNat y.2.2.1) zTask)))) : Int) + (1 : Int)) + (1 : Int)) + (1 : Int)) + (1 : Int)) + (1 : Int)) + (1 : Int)) ≤ (4611686018427387903 : Int) ∧ (0 : Int) ≤ y.2.2.1 ∧ Int.toNat y.2.2.1 < List.length (List.modify (List.modify (List.modify (List.modify (List.modify (List.modify (List.modify (List.modify y.1 (Int.toNat y.2.2.1) fun (x : DTask) => { F := { Kind := markText y.2.1, Fields := DFact.Fields (DTask.F x) }, Undo := DTask.Undo x, State := DTask.State x, Tries := DTask.Tries x, Due := DTask.Due x, V := DTask.V x }) (Int.toNat y.2.2.1) fun (x : DTask) => { F := { Kind := DFact.Kind (DTask.F x), Fields := markValS (DFact.Fields (DTask.F (List.getD (List.modify y.1 (Int.toNat y.2.2.1) fun (x : DTask) => { F := { Kind := markText y.2.1, Fields := DFact.Fields (DTask.F x) }, Undo := DTask.Undo x, State := DTask.State x, Tries := DTask.Tries x, Due := DTask.Due x, V := DTask.V x }) (Int.toNat y.2.2.1) zTask))) (IntKind.wrap IntKind.i64 (y.2.1 + (1 : Int))) }, Undo := DTask.Undo x, State := DTask.State x, Tries := DTask.Tries x, Due := DTask.Due x, V := DTask.V x }) (Int.toNat y.2.2.1) fun (x : DTask) => { F := DTask.F x, Undo := markText (IntKind.wrap IntKind.i64 (y.2.1 + (1 : Int)) + (↑(cntValS (DFact.Fields (DTask.F (List.getD (List.modify y.1 (Int.toNat y.2.2.1) fun (x : DTask) => { F := { Kind := markText y.2.1, Fields := DFact.Fields (DTask.F x) }, Undo := DTask.Undo x, State := DTask.State x, Tries := DTask.Tries x, Due := DTask.Due x, V := DTask.V x }) (Int.toNat y.2.2.1) zTask)))) : Int)), State := DTask.State x, Tries := DTask.Tries x, Due := DTask.Due x, V := DTask.V x }) (Int.toNat y.2.2.1) fun (x : DTask) => { F := DTask.F x, Undo := DTask.Undo x, State := IntKind.wrap IntKind.i64 (IntKind.wrap IntKind.i64 (y.2.1 + (1 : Int)) + (↑(cntValS (DFact.Fields (DTask.F (List.getD (List.modify y.1 (Int.toNat y.2.2.1) fun (x : DTask) => { F := { Kind := markText y.2.1, Fields := DFact.Fields (DTask.F x) }, Undo := DTask.Undo x, State := DTask.State x, Tries := DTask.Tries x, Due := DTask.Due x, V := DTask.V x }) (Int.toNat y.2.2.1) zTask)))) : Int) + (1 : Int)), Tries := DTask.Tries x, Due := DTask.Due x, V := DTask.V x }) (Int.toNat y.2.2.1) fun (x : DTask) => { F := DTask.F x, Undo := DTask.Undo x, State := DTask.State x, Tries := IntKind.wrap IntKind.i64 (IntKind.wrap IntKind.i64 (IntKind.wrap IntKind.i64 (y.2.1 + (1 : Int)) + (↑(cntValS (DFact.Fields (DTask.F (List.getD (List.modify y.1 (Int.toNat y.2.2.1) fun (x : DTask) => { F := { Kind := markText y.2.1, Fields := DFact.Fields (DTask.F x) }, Undo := DTask.Undo x, State := DTask.State x, Tries := DTask.Tries x, Due := DTask.Due x, V := DTask.V x }) (Int.toNat y.2.2.1) zTask)))) : Int) + (1 : Int)) + (1 : Int)), Due := DTask.Due x, V := DTask.V x }) (Int.toNat y.2.2.1) fun (x : DTask) => { F := DTask.F x, Undo := DTask.Undo x, State := DTask.State x, Tries := DTask.Tries x, Due := IntKind.wrap IntKind.i64 (IntKind.wrap IntKind.i64 (IntKind.wrap IntKind.i64 (IntKind.wrap IntKind.i64 (y.2.1 + (1 : Int)) + (↑(cntValS (DFact.Fields (DTask.F (List.getD (List.modify y.1 (Int.toNat y.2.2.1) fun (x : DTask) => { F := { Kind := markText y.2.1, Fields := DFact.Fields (DTask.F x) }, Undo := DTask.Undo x, State := DTask.State x, Tries := DTask.Tries x, Due := DTask.Due x, V := DTask.V x }) (Int.toNat y.2.2.1) zTask)))) : Int) + (1 : Int)) + (1 : Int)) + (1 : Int)), V := DTask.V x }) (Int.toNat y.2.2.1) fun (x : DTask) => { F := DTask.F x, Undo := DTask.Undo x, State := DTask.State x, Tries := DTask.Tries x, Due := DTask.Due x, V := { K := IntKind.wrap IntKind.i64 (IntKind.wrap IntKind.i64 (IntKind.wrap IntKind.i64 (IntKind.wrap IntKind.i64 (IntKind.wrap IntKind.i64 (y.2.1 + (1 : Int)) + (↑(cntValS (DFact.Fields (DTask.F (List.getD (List.modify y.1 (Int.toNat y.2.2.1) fun (x : DTask) => { F := { Kind := markText y.2.1, Fields := DFact.Fields (DTask.F x) }, Undo := DTask.Undo x, State := DTask.State x, Tries := DTask.Tries x, Due := DTask.Due x, V := DTask.V x }) (Int.toNat y.2.2.1) zTask)))) : Int) + (1 : Int)) + (1 : Int)) + (1 : Int)) + (1 : Int)), N := DVal.N (DTask.V x), S := DVal.S (DTask.V x) } }) (Int.toNat y.2.2.1) fun (x : DTask) => { F := DTask.F x, Undo := DTask.Undo x, State := DTask.State x, Tries := DTask.Tries x, Due := DTask.Due x, V := { K := DVal.K (DTask.V x), N := IntKind.wrap IntKind.i64 (IntKind.wrap IntKind.i64 (IntKind.wrap IntKind.i64 (IntKind.wrap IntKind.i64 (IntKind.wrap IntKind.i64 (IntKind.wrap IntKind.i64 (y.2.1 + (1 : Int)) + (↑(cntValS (DFact.Fields (DTask.F (List.getD (List.modify y.1 (Int.toNat y.2.2.1) fun (x : DTask) => { F := { Kind := markText y.2.1, Fields := DFact.Fields (DTask.F x) }, Undo := DTask.Undo x, State := DTask.State x, Tries := DTask.Tries x, Due := DTask.Due x, V := DTask.V x }) (Int.toNat y.2.2.1) zTask)))) : Int) + (1 : Int)) + (1 : Int)) + (1 : Int)) + (1 : Int)) + (1 : Int)), S := DVal.S (DTask.V x) } }) ∧ Int.toNat y.2.2.1 < List.length (List.modify (List.modify (List.modify (List.modify (List.modify (List.modify (List.modify (List.modify y.1 (Int.toNat y.2.2.1) fun (x : DTask) => { F := { Kind := markText y.2.1, Fields := DFact.Fields (DTask.F x) }, Undo := DTask.Undo x, State := DTask.State x, Tries := DTask.Tries x, Due := DTask.Due x, V := DTask.V x }) (Int.toNat y.2.2.1) fun (x : DTask) => { F := { Kind := DFact.Kind (DTask.F x), Fields := markValS (DFact.Fields (DTask.F (List.getD (List.modify y.1 (Int.toNat y.2.2.1) fun (x : DTask) => { F := { Kind := markText y.2.1, Fields := DFact.Fields (DTask.F x) }, Undo := DTask.Undo x, State := DTask.State x, Tries := DTask.Tries x, Due := DTask.Due x, V := DTask.V x }) (Int.toNat y.2.2.1) zTask))) (IntKind.wrap IntKind.i64 (y.2.1 + (1 : Int))) }, Undo := DTask.Undo x, State := DTask.State x, Tries := DTask.Tries x, Due := DTask.Due x, V := DTask.V x }) (Int.toNat y.2.2.1) fun (x : DTask) => { F := DTask.F x, Undo := markText (IntKind.wrap IntKind.i64 (y.2.1 + (1 : Int)) + (↑(cntValS (DFact.Fields (DTask.F (List.getD (List.modify y.1 (Int.toNat y.2.2.1) fun (x : DTask) => { F := { Kind := markText y.2.1, Fields := DFact.Fields (DTask.F x) }, Undo := DTask.Undo x, State := DTask.State x, Tries := DTask.Tries x, Due := DTask.Due x, V := DTask.V x }) (Int.toNat y.2.2.1) zTask)))) : Int)), State := DTask.State x, Tries := DTask.Tries x, Due := DTask.Due x, V := DTask.V x }) (Int.toNat y.2.2.1) fun (x : DTask) => { F := DTask.F x, Undo := DTask.Undo x, State := IntKind.wrap IntKind.i64 (IntKind.wrap IntKind.i64 (y.2.1 + (1 : Int)) + (↑(cntValS (DFact.Fields (DTask.F (List.getD (List.modify y.1 (Int.toNat y.2.2.1) fun (x : DTask) => { F := { Kind := markText y.2.1, Fields := DFact.Fields (DTask.F x) }, Undo := DTask.Undo x, State := DTask.State x, Tries := DTask.Tries x, Due := DTask.Due x, V := DTask.V x }) (Int.toNat y.2.2.1) zTask)))) : Int) + (1 : Int)), Tries := DTask.Tries x, Due := DTask.Due x, V := DTask.V x }) (Int.toNat y.2.2.1) fun (x : DTask) => { F := DTask.F x, Undo := DTask.Undo x, State := DTask.State x, Tries := IntKind.wrap IntKind.i64 (IntKind.wrap IntKind.i64 (IntKind.wrap IntKind.i64 (y.2.1 + (1 : Int)) + (↑(cntValS (DFact.Fields (DTask.F (List.getD (List.modify y.1 (Int.toNat y.2.2.1) fun (x : DTask) => { F := { Kind := markText y.2.1, Fields := DFact.Fields (DTask.F x) }, Undo := DTask.Undo x, State := DTask.State x, Tries := DTask.Tries x, Due := DTask.Due x, V := DTask.V x }) (Int.toNat y.2.2.1) zTask)))) : Int) + (1 : Int)) + (1 : Int)), Due := DTask.Due x, V := DTask.V x }) (Int.toNat y.2.2.1) fun (x : DTask) => { F := DTask.F x, Undo := DTask.Undo x, State := DTask.State x, Tries := DTask.Tries x, Due := IntKind.wrap IntKind.i64 (IntKind.wrap IntKind.i64 (IntKind.wrap IntKind.i64 (IntKind.wrap IntKind.i64 (y.2.1 + (1 : Int)) + (↑(cntValS (DFact.Fields (DTask.F (List.getD (List.modify y.1 (Int.toNat y.2.2.1) fun (x : DTask) => { F := { Kind := markText y.2.1, Fields := DFact.Fields (DTask.F x) }, Undo := DTask.Undo x, State := DTask.State x, Tries := DTask.Tries x, Due := DTask.Due x, V := DTask.V x }) (Int.toNat y.2.2.1) zTask)))) : Int) + (1 : Int)) + (1 : Int)) + (1 : Int)), V := DTask.V x }) (Int.toNat y.2.2.1) fun (x : DTask) => { F := DTask.F x, Undo := DTask.Undo x, State := DTask.State x, Tries := DTask.Tries x, Due := DTask.Due x, V := { K := IntKind.wrap IntKind.i64 (IntKind.wrap IntKind.i64 (IntKind.wrap IntKind.i64 (IntKind.wrap IntKind.i64 (IntKind.wrap IntKind.i64 (y.2.1 + (1 : Int)) + (↑(cntValS (DFact.Fields (DTask.F (List.getD (List.modify y.1 (Int.toNat y.2.2.1) fun (x : DTask) => { F := { Kind := markText y.2.1, Fields := DFact.Fields (DTask.F x) }, Undo := DTask.Undo x, State := DTask.State x, Tries := DTask.Tries x, Due := DTask.Due x, V := DTask.V x }) (Int.toNat y.2.2.1) zTask)))) : Int) + (1 : Int)) + (1 : Int)) + (1 : Int)) + (1 : Int)), N := DVal.N (DTask.V x), S := DVal.S (DTask.V x) } }) (Int.toNat y.2.2.1) fun (x : DTask) => { F := DTask.F x, Undo := DTask.Undo x, State := DTask.State x, Tries := DTask.Tries x, Due := DTask.Due x, V := { K := DVal.K (DTask.V x), N := IntKind.wrap IntKind.i64 (IntKind.wrap IntKind.i64 (IntKind.wrap IntKind.i64 (IntKind.wrap IntKind.i64 (IntKind.wrap IntKind.i64 (IntKind.wrap IntKind.i64 (y.2.1 + (1 : Int)) + (↑(cntValS (DFact.Fields (DTask.F (List.getD (List.modify y.1 (Int.toNat y.2.2.1) fun (x : DTask) => { F := { Kind := markText y.2.1, Fields := DFact.Fields (DTask.F x) }, Undo := DTask.Undo x, State := DTask.State x, Tries := DTask.Tries x, Due := DTask.Due x, V := DTask.V x }) (Int.toNat y.2.2.1) zTask)))) : Int) + (1 : Int)) + (1 : Int)) + (1 : Int)) + (1 : Int)) + (1 : Int)), S := DVal.S (DTask.V x) } }) ∧ I_laws_markTaskS_2 a k (List.modify (List.modify (List.modify (List.modify (List.modify (List.modify (List.modify (List.modify (List.modify y.1 (Int.toNat y.2.2.1) fun (x : DTask) => { F := { Kind := markText y.2.1, Fields := DFact.Fields (DTask.F x) }, Undo := DTask.Undo x, State := DTask.State x, Tries := DTask.Tries x, Due := DTask.Due x, V := DTask.V x }) (Int.toNat y.2.2.1) fun (x : DTask) => { F := { Kind := DFact.Kind (DTask.F x), Fields := markValS (DFact.Fields (DTask.F (List.getD (List.modify y.1 (Int.toNat y.2.2.1) fun (x : DTask) => { F := { Kind := markText y.2.1, Fields := DFact.Fields (DTask.F x) }, Undo := DTask.Undo x, State := DTask.State x, Tries := DTask.Tries x, Due := DTask.Due x, V := DTask.V x }) (Int.toNat y.2.2.1) zTask))) (IntKind.wrap IntKind.i64 (y.2.1 + (1 : Int))) }, Undo := DTask.Undo x, State := DTask.State x, Tries := DTask.Tries x, Due := DTask.Due x, V := DTask.V x }) (Int.toNat y.2.2.1) fun (x : DTask) => { F := DTask.F x, Undo := markText (IntKind.wrap IntKind.i64 (y.2.1 + (1 : Int)) + (↑(cntValS (DFact.Fields (DTask.F (List.getD (List.modify y.1 (Int.toNat y.2.2.1) fun (x : DTask) => { F := { Kind := markText y.2.1, Fields := DFact.Fields (DTask.F x) }, Undo := DTask.Undo x, State := DTask.State x, Tries := DTask.Tries x, Due := DTask.Due x, V := DTask.V x }) (Int.toNat y.2.2.1) zTask)))) : Int)), State := DTask.State x, Tries := DTask.Tries x, Due := DTask.Due x, V := DTask.V x }) (Int.toNat y.2.2.1) fun (x : DTask) => { F := DTask.F x, Undo := DTask.Undo x, State := IntKind.wrap IntKind.i64 (IntKind.wrap IntKind.i64 (y.2.1 + (1 : Int)) + (↑(cntValS (DFact.Fields (DTask.F (List.getD (List.modify y.1 (Int.toNat y.2.2.1) fun (x : DTask) => { F := { Kind := markText y.2.1, Fields := DFact.Fields (DTask.F x) }, Undo := DTask.Undo x, State := DTask.State x, Tries := DTask.Tries x, Due := DTask.Due x, V := DTask.V x }) (Int.toNat y.2.2.1) zTask)))) : Int) + (1 : Int)), Tries := DTask.Tries x, Due := DTask.Due x, V := DTask.V x }) (Int.toNat y.2.2.1) fun (x : DTask) => { F := DTask.F x, Undo := DTask.Undo x, State := DTask.State x, Tries := IntKind.wrap IntKind.i64 (IntKind.wrap IntKind.i64 (IntKind.wrap IntKind.i64 (y.2.1 + (1 : Int)) + (↑(cntValS (DFact.Fields (DTask.F (List.getD (List.modify y.1 (Int.toNat y.2.2.1) fun (x : DTask) => { F := { Kind := markText y.2.1, Fields := DFact.Fields (DTask.F x) }, Undo := DTask.Undo x, State := DTask.State x, Tries := DTask.Tries x, Due := DTask.Due x, V := DTask.V x }) (Int.toNat y.2.2.1) zTask)))) : Int) + (1 : Int)) + (1 : Int)), Due := DTask.Due x, V := DTask.V x }) (Int.toNat y.2.2.1) fun (x : DTask) => { F := DTask.F x, Undo := DTask.Undo x, State := DTask.State x, Tries := DTask.Tries x, Due := IntKind.wrap IntKind.i64 (IntKind.wrap IntKind.i64 (IntKind.wrap IntKind.i64 (IntKind.wrap IntKind.i64 (y.2.1 + (1 : Int)) + (↑(cntValS (DFact.Fields (DTask.F (List.getD (List.modify y.1 (Int.toNat y.2.2.1) fun (x : DTask) => { F := { Kind := markText y.2.1, Fields := DFact.Fields (DTask.F x) }, Undo := DTask.Undo x, State := DTask.State x, Tries := DTask.Tries x, Due := DTask.Due x, V := DTask.V x }) (Int.toNat y.2.2.1) zTask)))) : Int) + (1 : Int)) + (1 : Int)) + (1 : Int)), V := DTask.V x }) (Int.toNat y.2.2.1) fun (x : DTask) => { F := DTask.F x, Undo := DTask.Undo x, State := DTask.State x, Tries := DTask.Tries x, Due := DTask.Due x, V := { K := IntKind.wrap IntKind.i64 (IntKind.wrap IntKind.i64 (IntKind.wrap IntKind.i64 (IntKind.wrap IntKind.i64 (IntKind.wrap IntKind.i64 (y.2.1 + (1 : Int)) + (↑(cntValS (DFact.Fields (DTask.F (List.getD (List.modify y.1 (Int.toNat y.2.2.1) fun (x : DTask) => { F := { Kind := markText y.2.1, Fields := DFact.Fields (DTask.F x) }, Undo := DTask.Undo x, State := DTask.State x, Tries := DTask.Tries x, Due := DTask.Due x, V := DTask.V x }) (Int.toNat y.2.2.1) zTask)))) : Int) + (1 : Int)) + (1 : Int)) + (1 : Int)) + (1 : Int)), N := DVal.N (DTask.V x), S := DVal.S (DTask.V x) } }) (Int.toNat y.2.2.1) fun (x : DTask) => { F := DTask.F x, Undo := DTask.Undo x, State := DTask.State x, Tries := DTask.Tries x, Due := DTask.Due x, V := { K := DVal.K (DTask.V x), N := IntKind.wrap IntKind.i64 (IntKind.wrap IntKind.i64 (IntKind.wrap IntKind.i64 (IntKind.wrap IntKind.i64 (IntKind.wrap IntKind.i64 (IntKind.wrap IntKind.i64 (y.2.1 + (1 : Int)) + (↑(cntValS (DFact.Fields (DTask.F (List.getD (List.modify y.1 (Int.toNat y.2.2.1) fun (x : DTask) => { F := { Kind := markText y.2.1, Fields := DFact.Fields (DTask.F x) }, Undo := DTask.Undo x, State := DTask.State x, Tries := DTask.Tries x, Due := DTask.Due x, V := DTask.V x }) (Int.toNat y.2.2.1) zTask)))) : Int) + (1 : Int)) + (1 : Int)) + (1 : Int)) + (1 : Int)) + (1 : Int)), S := DVal.S (DTask.V x) } }) (Int.toNat y.2.2.1) fun (x : DTask) => { F := DTask.F x, Undo := DTask.Undo x, State := DTask.State x, Tries := DTask.Tries x, Due := DTask.Due x, V := { K := DVal.K (DTask.V x), N := DVal.N (DTask.V x), S := markText (IntKind.wrap IntKind.i64 (IntKind.wrap IntKind.i64 (IntKind.wrap IntKind.i64 (IntKind.wrap IntKind.i64 (IntKind.wrap IntKind.i64 (IntKind.wrap IntKind.i64 (IntKind.wrap IntKind.i64 (y.2.1 + (1 : Int)) + (↑(cntValS (DFact.Fields (DTask.F (List.getD (List.modify y.1 (Int.toNat y.2.2.1) fun (x : DTask) => { F := { Kind := markText y.2.1, Fields := DFact.Fields (DTask.F x) }, Undo := DTask.Undo x, State := DTask.State x, Tries := DTask.Tries x, Due := DTask.Due x, V := DTask.V x }) (Int.toNat y.2.2.1) zTask)))) : Int) + (1 : Int)) + (1 : Int)) + (1 : Int)) + (1 : Int)) + (1 : Int)) + (1 : Int))) } }, IntKind.wrap IntKind.i64 (IntKind.wrap IntKind.i64 (IntKind.wrap IntKind.i64 (IntKind.wrap IntKind.i64 (IntKind.wrap IntKind.i64 (IntKind.wrap IntKind.i64 (IntKind.wrap IntKind.i64 (IntKind.wrap IntKind.i64 (y.2.1 + (1 : Int)) + (↑(cntValS (DFact.Fields (DTask.F (List.getD (List.modify y.1 (Int.toNat y.2.2.1) fun (x : DTask) => { F := { Kind := markText y.2.1, Fields := DFact.Fields (DTask.F x) }, Undo := DTask.Undo x, State := DTask.State x, Tries := DTask.Tries x, Due := DTask.Due x, V := DTask.V x }) (Int.toNat y.2.2.1) zTask)))) : Int) + (1 : Int)) + (1 : Int)) + (1 : Int)) + (1 : Int)) + (1 : Int)) + (1 : Int)) + (1 : Int)), IntKind.wrap IntKind.i64 (y.2.2.1 + (1 : Int)), PUnit.unit) ∧ μ_laws_markTaskS_2 a k (List.modify (List.modify (List.modify (List.modify (List.modify (List.modify (List.modify (List.modify (List.modify y.1 (Int.toNat y.2.2.1) fun (x : DTask) => { F := { Kind := markText y.2.1, Fields := DFact.Fields (DTask.F x) }, Undo := DTask.Undo x, State := DTask.State x, Tries := DTask.Tries x, Due := DTask.Due x, V := DTask.V x }) (Int.toNat y.2.2.1) fun (x : DTask) => { F := { Kind := DFact.Kind (DTask.F x), Fields := markValS (DFact.Fields (DTask.F (List.getD (List.modify y.1 (Int.toNat y.2.2.1) fun (x : DTask) => { F := { Kind := markText y.2.1, Fields := DFact.Fields (DTask.F x) }, Undo := DTask.Undo x, State := DTask.State x, Tries := DTask.Tries x, Due := DTask.Due x, V := DTask.V x }) (Int.toNat y.2.2.1) zTask))) (IntKind.wrap IntKind.i64 (y.2.1 + (1 : Int))) }, Undo := DTask.Undo x, State := DTask.State x, Tries := DTask.Tries x, Due := DTask.Due x, V := DTask.V x }) (Int.toNat y.2.2.1) fun (x : DTask) => { F := DTask.F x, Undo := markText (IntKind.wrap IntKind.i64 (y.2.1 + (1 : Int)) + (↑(cntValS (DFact.Fields (DTask.F (List.getD (List.modify y.1 (Int.toNat y.2.2.1) fun (x : DTask) => { F := { Kind := markText y.2.1, Fields := DFact.Fields (DTask.F x) }, Undo := DTask.Undo x, State := DTask.State x, Tries := DTask.Tries x, Due := DTask.Due x, V := DTask.V x }) (Int.toNat y.2.2.1) zTask)))) : Int)), State := DTask.State x, Tries := DTask.Tries x, Due := DTask.Due x, V := DTask.V x }) (Int.toNat y.2.2.1) fun (x : DTask) => { F := DTask.F x, Undo := DTask.Undo x, State := IntKind.wrap IntKind.i64 (IntKind.wrap IntKind.i64 (y.2.1 + (1 : Int)) + (↑(cntValS (DFact.Fields (DTask.F (List.getD (List.modify y.1 (Int.toNat y.2.2.1) fun (x : DTask) => { F := { Kind := markText y.2.1, Fields := DFact.Fields (DTask.F x) }, Undo := DTask.Undo x, State := DTask.State x, Tries := DTask.Tries x, Due := DTask.Due x, V := DTask.V x }) (Int.toNat y.2.2.1) zTask)))) : Int) + (1 : Int)), Tries := DTask.Tries x, Due := DTask.Due x, V := DTask.V x }) (Int.toNat y.2.2.1) fun (x : DTask) => { F := DTask.F x, Undo := DTask.Undo x, State := DTask.State x, Tries := IntKind.wrap IntKind.i64 (IntKind.wrap IntKind.i64 (IntKind.wrap IntKind.i64 (y.2.1 + (1 : Int)) + (↑(cntValS (DFact.Fields (DTask.F (List.getD (List.modify y.1 (Int.toNat y.2.2.1) fun (x : DTask) => { F := { Kind := markText y.2.1, Fields := DFact.Fields (DTask.F x) }, Undo := DTask.Undo x, State := DTask.State x, Tries := DTask.Tries x, Due := DTask.Due x, V := DTask.V x }) (Int.toNat y.2.2.1) zTask)))) : Int) + (1 : Int)) + (1 : Int)), Due := DTask.Due x, V := DTask.V x }) (Int.toNat y.2.2.1) fun (x : DTask) => { F := DTask.F x, Undo := DTask.Undo x, State := DTask.State x, Tries := DTask.Tries x, Due := IntKind.wrap IntKind.i64 (IntKind.wrap IntKind.i64 (IntKind.wrap IntKind.i64 (IntKind.wrap IntKind.i64 (y.2.1 + (1 : Int)) + (↑(cntValS (DFact.Fields (DTask.F (List.getD (List.modify y.1 (Int.toNat y.2.2.1) fun (x : DTask) => { F := { Kind := markText y.2.1, Fields := DFact.Fields (DTask.F x) }, Undo := DTask.Undo x, State := DTask.State x, Tries := DTask.Tries x, Due := DTask.Due x, V := DTask.V x }) (Int.toNat y.2.2.1) zTask)))) : Int) + (1 : Int)) + (1 : Int)) + (1 : Int)), V := DTask.V x }) (Int.toNat y.2.2.1) fun (x : DTask) => { F := DTask.F x, Undo := DTask.Undo x, State := DTask.State x, Tries := DTask.Tries x, Due := DTask.Due x, V := { K := IntKind.wrap IntKind.i64 (IntKind.wrap IntKind.i64 (IntKind.wrap IntKind.i64 (IntKind.wrap IntKind.i64 (IntKind.wrap IntKind.i64 (y.2.1 + (1 : Int)) + (↑(cntValS (DFact.Fields (DTask.F (List.getD (List.modify y.1 (Int.toNat y.2.2.1) fun (x : DTask) => { F := { Kind := markText y.2.1, Fields := DFact.Fields (DTask.F x) }, Undo := DTask.Undo x, State := DTask.State x, Tries := DTask.Tries x, Due := DTask.Due x, V := DTask.V x }) (Int.toNat y.2.2.1) zTask)))) : Int) + (1 : Int)) + (1 : Int)) + (1 : Int)) + (1 : Int)), N := DVal.N (DTask.V x), S := DVal.S (DTask.V x) } }) (Int.toNat y.2.2.1) fun (x : DTask) => { F := DTask.F x, Undo := DTask.Undo x, State := DTask.State x, Tries := DTask.Tries x, Due := DTask.Due x, V := { K := DVal.K (DTask.V x), N := IntKind.wrap IntKind.i64 (IntKind.wrap IntKind.i64 (IntKind.wrap IntKind.i64 (IntKind.wrap IntKind.i64 (IntKind.wrap IntKind.i64 (IntKind.wrap IntKind.i64 (y.2.1 + (1 : Int)) + (↑(cntValS (DFact.Fields (DTask.F (List.getD (List.modify y.1 (Int.toNat y.2.2.1) fun (x : DTask) => { F := { Kind := markText y.2.1, Fields := DFact.Fields (DTask.F x) }, Undo := DTask.Undo x, State := DTask.State x, Tries := DTask.Tries x, Due := DTask.Due x, V := DTask.V x }) (Int.toNat y.2.2.1) zTask)))) : Int) + (1 : Int)) + (1 : Int)) + (1 : Int)) + (1 : Int)) + (1 : Int)), S := DVal.S (DTask.V x) } }) (Int.toNat y.2.2.1) fun (x : DTask) => { F := DTask.F x, Undo := DTask.Undo x, State := DTask.State x, Tries := DTask.Tries x, Due := DTask.Due x, V := { K := DVal.K (DTask.V x), N := DVal.N (DTask.V x), S := markText (IntKind.wrap IntKind.i64 (IntKind.wrap IntKind.i64 (IntKind.wrap IntKind.i64 (IntKind.wrap IntKind.i64 (IntKind.wrap IntKind.i64 (IntKind.wrap IntKind.i64 (IntKind.wrap IntKind.i64 (y.2.1 + (1 : Int)) + (↑(cntValS (DFact.Fields (DTask.F (List.getD (List.modify y.1 (Int.toNat y.2.2.1) fun (x : DTask) => { F := { Kind := markText y.2.1, Fields := DFact.Fields (DTask.F x) }, Undo := DTask.Undo x, State := DTask.State x, Tries := DTask.Tries x, Due := DTask.Due x, V := DTask.V x }) (Int.toNat y.2.2.1) zTask)))) : Int) + (1 : Int)) + (1 : Int)) + (1 : Int)) + (1 : Int)) + (1 : Int)) + (1 : Int))) } }, IntKind.wrap IntKind.i64 (IntKind.wrap IntKind.i64 (IntKind.wrap IntKind.i64 (IntKind.wrap IntKind.i64 (IntKind.wrap IntKind.i64 (IntKind.wrap IntKind.i64 (IntKind.wrap IntKind.i64 (IntKind.wrap IntKind.i64 (y.2.1 + (1 : Int)) + (↑(cntValS (DFact.Fields (DTask.F (List.getD (List.modify y.1 (Int.toNat y.2.2.1) fun (x : DTask) => { F := { Kind := markText y.2.1, Fields := DFact.Fields (DTask.F x) }, Undo := DTask.Undo x, State := DTask.State x, Tries := DTask.Tries x, Due := DTask.Due x, V := DTask.V x }) (Int.toNat y.2.2.1) zTask)))) : Int) + (1 : Int)) + (1 : Int)) + (1 : Int)) + (1 : Int)) + (1 : Int)) + (1 : Int)) + (1 : Int)), IntKind.wrap IntKind.i64 (y.2.2.1 + (1 : Int)), PUnit.unit) < μ_laws_markTaskS_2 a k y else asD [DV.one (Cell.lit (Value.int IntKind.i64 y.2.1))] = asD [DV.one (Cell.lit (Value.int IntKind.i64 (k + (↑(cntTaskS a) : Int))))] ∧ asD [DV.one (Cell.sl Cd.eTask y.1)] = asD [DV.one (Cell.sl Cd.eTask (markTaskS a k))]) := by kernel_rfl
theorem ok_laws_markTaskS : Holds EE (28, con_laws_markTaskS) := by
  refine holds_of EE_ok Go.Proofs.Try.func28 con_laws_markTaskS (by kernel_rfl) rfl use_laws_markTaskS (all_cons ok_laws_markText (all_cons ok_laws_markValS all_nil)) ann_laws_markTaskS (fun x hp hb => ?_)
  obtain ⟨a, k⟩ := x
  have hb_a : BdDV (U := UU) (.one (.sl .eTask a)) := hb _ (List.mem_cons_self)
  have hl_a : a.length ≤ 9223372036854775807 := Bd.len hb_a
  have hb_k : BdDV (U := UU) (.one (.lit (.int .i64 k))) := hb _ (List.mem_cons_of_mem _ (List.mem_cons_self))
  have hl_k := Bd.i64 hb_k
  have hp0 : 0 ≤ k := hp _ (List.mem_cons_self)
  have hp1 : k + cntTaskS a ≤ 4611686018427387904 := hp _ (List.mem_cons_of_mem _ (List.mem_cons_self))
  clear hp hb
  rw [vc_laws_markTaskS a k]
  refine ⟨⟨by omega, by omega, by simp, by simp [ctS]⟩, ?_⟩
  rintro ⟨row, kk, i, ⟨⟩⟩ ⟨h1, h2, rfl, rfl⟩
  simp only
  have hl := mk_rl markTask cntTask a k h1 h2
  refine if_cond (fun hc => ?_) (fun hc => ?_)
  · have hc : i < a.length := by have hc := of_decide_eq_true hc; omega
    have hct := ctS_take cntTask a zTask h1 hc
    have hle := ctS_take_le cntTask a (i + 1).toNat
    have hg := mk_getD _ a zTask (mk_tl markTask cntTask a k h1 h2) h1 hc
    have hM := fun F hF => mkS_mod markTask cntTask a zTask k (i := i) F h1 hc hF
    have hq : (cntTaskS a : Int) = ctS cntTask a := rfl
    generalize List.getD a i.toNat zTask = x at *
    generalize hkk : k + (ctS cntTask (a.take i.toNat) : Int) = kk at *
    generalize List.take i.toNat (mkS markTask cntTask a k) ++ List.drop i.toNat a = R at *
    simp only [cntTask] at hct
    simp (disch := first | omega | (simp only [List.length_modify]; omega)) only [List.length_modify, wrap_i64, getD_modify, modify_modify, hg, hl]
    repeat' (first | refine And.intro (by omega) ?_ | fail)
    exact ⟨⟨by omega, by omega, hM _ rfl, by omega⟩, by simp only [μ_laws_markTaskS_2]; omega⟩
  · have hc : a.length ≤ i := by have hc := of_decide_eq_false hc; omega
    rw [mk_done markTask cntTask a k hc, ct_done cntTask a hc]
    exact ⟨rfl, rfl⟩
def con_laws_heldTaskS : Con UU where
  α := (List DTask) × Int
  md := [.ro, .ro]
  of := fun | [.one (.sl .eTask a0), .one (.lit (.int .i64 a1))] => some (a0, a1) | _ => none
  ds := fun (a, k) => [.one (.sl .eTask a), .one (.lit (.int .i64 k))]
  pre := fun (a, k) => [0 ≤ k, k + cntTaskS a ≤ 4611686018427387904]
  res := fun (a, k) => ⟨[.one (.lit (.int .i64 (if markTaskS a k = a then k + cntTaskS a else -1)))], true, []⟩
  law := by intro l x h; (try simp only at h); split at h <;> cases h; rfl
def I_laws_heldTaskS_2 (a : (List DTask)) (k : Int) : Int × Int × Unit → Prop := fun (kk, i, _) => 0 ≤ i ∧ i ≤ a.length ∧ kk = k + ctS cntTask (a.take i.toNat) ∧ (mkS markTask cntTask (a.drop i.toNat) kk = a.drop i.toNat ↔ mkS markTask cntTask a k = a)
def μ_laws_heldTaskS_2 (a : (List DTask)) (k : Int) : Int × Int × Unit → Nat := fun (kk, i, _) => a.length - i.toNat
def ann_laws_heldTaskS : con_laws_heldTaskS.α → Nat → Option (Ann UU) := fun (a, k) => annL [(2, annOf [.slot 1 (1, 1024) (.lit (.int .i64)), .slot 5 (5, 1024) (.lit (.int .i64))] (fun _ => I_laws_heldTaskS_2 a k) (μ_laws_heldTaskS_2 a k))]
def use_laws_heldTaskS : List (FuncId × Con UU) := [(89, con_laws_markText), (91, con_laws_heldValS)]
theorem vc_laws_heldTaskS (a : (List DTask)) (k : Int) : goal EE use_laws_heldTaskS Go.Proofs.Try.f29 con_laws_heldTaskS ann_laws_heldTaskS (a, k) = (I_laws_heldTaskS_2 a k (k, (0 : Int), PUnit.unit) ∧ ∀ (y : Int × Int × PUnit), I_laws_heldTaskS_2 a k y → bif decide (y.2.1 < (↑(List.length a) : Int)) then (0 : Int) ≤ y.2.1 ∧ Int.toNat y.2.1 < List.length a ∧ y.1 ≤ (4611686018427387903 : Int) ∧ bif !ByteArray.toList (DFact.Kind (DTask.F (List.getD a (Int.toNat y.2.1) zTask))) == ByteArray.toList (markText y.1) then Lf [DV.one (Cell.lit (Value.int IntKind.i64 (-1 : Int)))] [DV.one (Cell.lit (Value.int IntKind.i64 (if markTaskS a k = a then k + (↑(cntTaskS a) : Int) else (-1 : Int))))] else (0 : Int) ≤ y.2.1 ∧ Int.toNat y.2.1 < List.length a ∧ (0 : Int) ≤ IntKind.wrap IntKind.i64 (y.1 + (1 : Int)) ∧ IntKind.wrap IntKind.i64 (y.1 + (1 : Int)) + (↑(cntValS (DFact.Fields (DTask.F (List.getD a (Int.toNat y.2.1) zTask)))) : Int) ≤ (4611686018427387904 : Int) ∧ bif decide ((if markValS (DFact.Fields (DTask.F (List.getD a (Int.toNat y.2.1) zTask))) (IntKind.wrap IntKind.i64 (y.1 + (1 : Int))) = DFact.Fields (DTask.F (List.getD a (Int.toNat y.2.1) zTask)) then IntKind.wrap IntKind.i64 (y.1 + (1 : Int)) + (↑(cntValS (DFact.Fields (DTask.F (List.getD a (Int.toNat y.2.1) zTask)))) : Int) else (-1 : Int)) < (0 : Int)) then Lf [DV.one (Cell.lit (Value.int IntKind.i64 (-1 : Int)))] [DV.one (Cell.lit (Value.int IntKind.i64 (if markTaskS a k = a then k + (↑(cntTaskS a) : Int) else (-1 : Int))))] else (0 : Int) ≤ y.2.1 ∧ Int.toNat y.2.1 < List.length a ∧ (if markValS (DFact.Fields (DTask.F (List.getD a (Int.toNat y.2.1) zTask))) (IntKind.wrap IntKind.i64 (y.1 + (1 : Int))) = DFact.Fields (DTask.F (List.getD a (Int.toNat y.2.1) zTask)) then IntKind.wrap IntKind.i64 (y.1 + (1 : Int)) + (↑(cntValS (DFact.Fields (DTask.F (List.getD a (Int.toNat y.2.1) zTask)))) : Int) else (-1 : Int)) ≤ (4611686018427387903 : Int) ∧ bif !ByteArray.toList (DTask.Undo (List.getD a (Int.toNat y.2.1) zTask)) == ByteArray.toList (markText (if markValS (DFact.Fields (DTask.F (List.getD a (Int.toNat y.2.1) zTask))) (IntKind.wrap IntKind.i64 (y.1 + (1 : Int))) = DFact.Fields (DTask.F (List.getD a (Int.toNat y.2.1) zTask)) then IntKind.wrap IntKind.i64 (y.1 + (1 : Int)) + (↑(cntValS (DFact.Fields (DTask.F (List.getD a (Int.toNat y.2.1) zTask)))) : Int) else (-1 : Int))) then Lf [DV.one (Cell.lit (Value.int IntKind.i64 (-1 : Int)))] [DV.one (Cell.lit (Value.int IntKind.i64 (if markTaskS a k = a then k + (↑(cntTaskS a) : Int) else (-1 : Int))))] else (0 : Int) ≤ y.2.1 ∧ Int.toNat y.2.1 < List.length a ∧ bif DTask.State (List.getD a (Int.toNat y.2.1) zTask) != IntKind.wrap IntKind.i64 ((if markValS (DFact.Fields (DTask.F (List.getD a (Int.toNat y.2.1) zTask))) (IntKind.wrap IntKind.i64 (y.1 + (1 : Int))) = DFact.Fields (DTask.F (List.getD a (Int.toNat y.2.1) zTask)) then IntKind.wrap IntKind.i64 (y.1 + (1 : Int)) + (↑(cntValS (DFact.Fields (DTask.F (List.getD a (Int.toNat y.2.1) zTask)))) : Int) else (-1 : Int)) + (1 : Int)) then Lf [DV.one (Cell.lit (Value.int IntKind.i64 (-1 : Int)))] [DV.one (Cell.lit (Value.int IntKind.i64 (if markTaskS a k = a then k + (↑(cntTaskS a) : Int) else (-1 : Int))))] else (0 : Int) ≤ y.2.1 ∧ Int.toNat y.2.1 < List.length a ∧ bif DTask.Tries (List.getD a (Int.toNat y.2.1) zTask) != IntKind.wrap IntKind.i64 (IntKind.wrap IntKind.i64 ((if markValS (DFact.Fields (DTask.F (List.getD a (Int.toNat y.2.1) zTask))) (IntKind.wrap IntKind.i64 (y.1 + (1 : Int))) = DFact.Fields (DTask.F (List.getD a (Int.toNat y.2.1) zTask)) then IntKind.wrap IntKind.i64 (y.1 + (1 : Int)) + (↑(cntValS (DFact.Fields (DTask.F (List.getD a (Int.toNat y.2.1) zTask)))) : Int) else (-1 : Int)) + (1 : Int)) + (1 : Int)) then Lf [DV.one (Cell.lit (Value.int IntKind.i64 (-1 : Int)))] [DV.one (Cell.lit (Value.int IntKind.i64 (if markTaskS a k = a then k + (↑(cntTaskS a) : Int) else (-1 : Int))))] else (0 : Int) ≤ y.2.1 ∧ Int.toNat y.2.1 < List.length a ∧ bif DTask.Due (List.getD a (Int.toNat y.2.1) zTask) != IntKind.wrap IntKind.i64 (IntKind.wrap IntKind.i64 (IntKind.wrap IntKind.i64 ((if markValS (DFact.Fields (DTask.F (List.getD a (Int.toNat y.2.1) zTask))) (IntKind.wrap IntKind.i64 (y.1 + (1 : Int))) = DFact.Fields (DTask.F (List.getD a (Int.toNat y.2.1) zTask)) then IntKind.wrap IntKind.i64 (y.1 + (1 : Int)) + (↑(cntValS (DFact.Fields (DTask.F (List.getD a (Int.toNat y.2.1) zTask)))) : Int) else (-1 : Int)) + (1 : Int)) + (1 : Int)) + (1 : Int)) then Lf [DV.one (Cell.lit (Value.int IntKind.i64 (-1 : Int)))] [DV.one (Cell.lit (Value.int IntKind.i64 (if markTaskS a k = a then k + (↑(cntTaskS a) : Int) else (-1 : Int))))] else (0 : Int) ≤ y.2.1 ∧ Int.toNat y.2.1 < List.length a ∧ bif DVal.K (DTask.V (List.getD a (Int.toNat y.2.1) zTask)) != IntKind.wrap IntKind.i64 (IntKind.wrap IntKind.i64 (IntKind.wrap IntKind.i64 (IntKind.wrap IntKind.i64 ((if markValS (DFact.Fields (DTask.F (List.getD a (Int.toNat y.2.1) zTask))) (IntKind.wrap IntKind.i64 (y.1 + (1 : Int))) = DFact.Fields (DTask.F (List.getD a (Int.toNat y.2.1) zTask)) then IntKind.wrap IntKind.i64 (y.1 + (1 : Int)) + (↑(cntValS (DFact.Fields (DTask.F (List.getD a (Int.toNat y.2.1) zTask)))) : Int) else (-1 : Int)) + (1 : Int)) + (1 : Int)) + (1 : Int)) + (1 : Int)) then Lf [DV.one (Cell.lit (Value.int IntKind.i64 (-1 : Int)))] [DV.one (Cell.lit (Value.int IntKind.i64 (if markTaskS a k = a then k + (↑(cntTaskS a) : Int) else (-1 : Int))))] else (0 : Int) ≤ y.2.1 ∧ Int.toNat y.2.1 < List.length a ∧ bif DVal.N (DTask.V (List.getD a (Int.toNat y.2.1) zTask)) != IntKind.wrap IntKind.i64 (IntKind.wrap IntKind.i64 (IntKind.wrap IntKind.i64 (IntKind.wrap IntKind.i64 (IntKind.wrap IntKind.i64 ((if markValS (DFact.Fields (DTask.F (List.getD a (Int.toNat y.2.1) zTask))) (IntKind.wrap IntKind.i64 (y.1 + (1 : Int))) = DFact.Fields (DTask.F (List.getD a (Int.toNat y.2.1) zTask)) then IntKind.wrap IntKind.i64 (y.1 + (1 : Int)) + (↑(cntValS (DFact.Fields (DTask.F (List.getD a (Int.toNat y.2.1) zTask)))) : Int) else (-1 : Int)) + (1 : Int)) + (1 : Int)) + (1 : Int)) + (1 : Int)) + (1 : Int)) then Lf [DV.one (Cell.lit (Value.int IntKind.i64 (-1 : Int)))] [DV.one (Cell.lit (Value.int IntKind.i64 (if markTaskS a k = a then k + (↑(cntTaskS a) : Int) else (-1 : Int))))] else (0 : Int) ≤ y.2.1 ∧ Int.toNat y.2.1 < List.length a ∧ IntKind.wrap IntKind.i64 (IntKind.wrap IntKind.i64 (IntKind.wrap IntKind.i64 (IntKind.wrap IntKind.i64 (IntKind.wrap IntKind.i64 (IntKind.wrap IntKind.i64 ((if markValS (DFact.Fields (DTask.F (List.getD a (Int.toNat y.2.1) zTask))) (IntKind.wrap IntKind.i64 (y.1 + (1 : Int))) = DFact.Fields (DTask.F (List.getD a (Int.toNat y.2.1) zTask)) then IntKind.wrap IntKind.i64 (y.1 + (1 : Int)) + (↑(cntValS (DFact.Fields (DTask.F (List.getD a (Int.toNat y.2.1) zTask)))) : Int) else (-1 : Int)) + (1 : Int)) + (1 : Int)) + (1 : Int)) + (1 : Int)) + (1 : Int)) + (1 : Int)) ≤ (4611686018427387903 : Int) ∧ bif !ByteArray.toList (DVal.S (DTask.V (List.getD a (Int.toNat y.2.1) zTask))) == ByteArray.toList (markText (IntKind.wrap IntKind.i64 (IntKind.wrap IntKind.i64 (IntKind.wrap IntKind.i64 (IntKind.wrap IntKind.i64 (IntKind.wrap IntKind.i64 (IntKind.wrap IntKind.i64 ((if markValS (DFact.Fields (DTask.F (List.getD a (Int.toNat y.2.1) zTask))) (IntKind.wrap IntKind.i64 (y.1 + (1 : Int))) = DFact.Fields (DTask.F (List.getD a (Int.toNat y.2.1) zTask)) then IntKind.wrap IntKind.i64 (y.1 + (1 : Int)) + (↑(cntValS (DFact.Fields (DTask.F (List.getD a (Int.toNat y.2.1) zTask)))) : Int) else (-1 : Int)) + (1 : Int)) + (1 : Int)) + (1 : Int)) + (1 : Int)) + (1 : Int)) + (1 : Int)))) then Lf [DV.one (Cell.lit (Value.int IntKind.i64 (-1 : Int)))] [DV.one (Cell.lit (Value.int IntKind.i64 (if markTaskS a k = a then k + (↑(cntTaskS a) : Int) else (-1 : Int))))] else I_laws_heldTaskS_2 a k (IntKind.wrap IntKind.i64 (IntKind.wrap IntKind.i64 (IntKind.wrap IntKind.i64 (IntKind.wrap IntKind.i64 (IntKind.wrap IntKind.i64 (IntKind.wrap IntKind.i64 (IntKind.wrap IntKind.i64 ((if markValS (DFact.Fields (DTask.F (List.getD a (Int.toNat y.2.1) zTask))) (IntKind.wrap IntKind.i64 (y.1 + (1 : Int))) = DFact.Fields (DTask.F (List.getD a (Int.toNat y.2.1) zTask)) then IntKind.wrap IntKind.i64 (y.1 + (1 : Int)) + (↑(cntValS (DFact.Fields (DTask.F (List.getD a (Int.toNat y.2.1) zTask)))) : Int) else (-1 : Int)) + (1 : Int)) + (1 : Int)) + (1 : Int)) + (1 : Int)) + (1 : Int)) + (1 : Int)) + (1 : Int)), IntKind.wrap IntKind.i64 (y.2.1 + (1 : Int)), PUnit.unit) ∧ μ_laws_heldTaskS_2 a k (IntKind.wrap IntKind.i64 (IntKind.wrap IntKind.i64 (IntKind.wrap IntKind.i64 (IntKind.wrap IntKind.i64 (IntKind.wrap IntKind.i64 (IntKind.wrap IntKind.i64 (IntKind.wrap IntKind.i64 ((if markValS (DFact.Fields (DTask.F (List.getD a (Int.toNat y.2.1) zTask))) (IntKind.wrap IntKind.i64 (y.1 + (1 : Int))) = DFact.Fields (DTask.F (List.getD a (Int.toNat y.2.1) zTask)) then IntKind.wrap IntKind.i64 (y.1 + (1 : Int)) + (↑(cntValS (DFact.Fields (DTask.F (List.getD a (Int.toNat y.2.1) zTask)))) : Int) else (-1 : Int)) + (1 : Int)) + (1 : Int)) + (1 : Int)) + (1 : Int)) + (1 : Int)) + (1 : Int)) + (1 : Int)), IntKind.wrap IntKind.i64 (y.2.1 + (1 : Int)), PUnit.unit) < μ_laws_heldTaskS_2 a k y else Lf [DV.one (Cell.lit (Value.int IntKind.i64 y.1))] [DV.one (Cell.lit (Value.int IntKind.i64 (if markTaskS a k = a then k + (↑(cntTaskS a) : Int) else (-1 : Int))))]) := by kernel_rfl
theorem ok_laws_heldTaskS : Holds EE (29, con_laws_heldTaskS) := by
  refine holds_of EE_ok Go.Proofs.Try.func29 con_laws_heldTaskS (by kernel_rfl) rfl use_laws_heldTaskS (all_cons ok_laws_markText (all_cons ok_laws_heldValS all_nil)) ann_laws_heldTaskS (fun x hp hb => ?_)
  obtain ⟨a, k⟩ := x
  have hb_a : BdDV (U := UU) (.one (.sl .eTask a)) := hb _ (List.mem_cons_self)
  have hl_a : a.length ≤ 9223372036854775807 := Bd.len hb_a
  have hb_k : BdDV (U := UU) (.one (.lit (.int .i64 k))) := hb _ (List.mem_cons_of_mem _ (List.mem_cons_self))
  have hl_k := Bd.i64 hb_k
  have hp0 : 0 ≤ k := hp _ (List.mem_cons_self)
  have hp1 : k + cntTaskS a ≤ 4611686018427387904 := hp _ (List.mem_cons_of_mem _ (List.mem_cons_self))
  clear hp hb
  rw [vc_laws_heldTaskS a k]
  refine ⟨⟨by omega, by omega, by simp [ctS], by simp⟩, ?_⟩
  rintro ⟨kk, i, ⟨⟩⟩ ⟨h1, h2, hkk, hR⟩
  simp only
  simp only [markTaskS]
  refine if_cond (fun hc => ?_) (fun hc => ?_)
  · have hc : i < a.length := by have hc := of_decide_eq_true hc; omega
    have hct := ctS_take cntTask a zTask h1 hc
    have hle := ctS_take_le cntTask a (i + 1).toNat
    have hq : (cntTaskS a : Int) = ctS cntTask a := rfl
    rw [drop_step a zTask h1 hc] at hR
    generalize List.getD a i.toNat zTask = x at *
    simp only [mkS, List.cons.injEq] at hR
    have e : kk + (cntTask x : Int) = kk + 1 + (cntValS x.F.Fields : Int) + 1 + 1 + 1 + 1 + 1 + 1 + 1 := by simp only [cntTask]; omega
    rw [e] at hR
    simp only [markTask, cntTask] at hR hct
    simp (disch := omega) only [wrap_i64, bne_int, toList_beq]
    obtain ⟨⟨x_F_Kind, x_F_Fields⟩, x_Undo, x_State, x_Tries, x_Due, ⟨x_V_K, x_V_N, x_V_S⟩⟩ := x
    simp only [DFact.mk.injEq, DTask.mk.injEq, DVal.mk.injEq] at *
    repeat' (first | refine And.intro (by omega) ?_ | fail)
    refine if_cond (fun h => Lf_no (fun hh => ?_)) (fun h => ?_)
    · have hh := hR.2 hh; simp_all
    have h : x_F_Kind = markText (kk) := by simpa using h
    subst x_F_Kind
    repeat' (first | refine And.intro (by omega) ?_ | fail)
    by_cases hm : markValS x_F_Fields (kk + 1) = x_F_Fields
    rotate_left
    · simp only [if_neg hm]; rw [cond_yes (by decide)]
      exact Lf_no (fun hh => hm (by have hh := hR.2 hh; simp_all))
    simp only [if_pos hm]
    refine if_cond (fun h => absurd (of_decide_eq_true h) (by omega)) (fun h => ?_)
    simp only [hm] at hR
    clear hm
    repeat' (first | refine And.intro (by omega) ?_ | fail)
    refine if_cond (fun h => Lf_no (fun hh => ?_)) (fun h => ?_)
    · have hh := hR.2 hh; simp_all
    have h : x_Undo = markText (kk + 1 + cntValS x_F_Fields) := by simpa using h
    subst x_Undo
    repeat' (first | refine And.intro (by omega) ?_ | fail)
    refine if_cond (fun h => Lf_no (fun hh => ?_)) (fun h => ?_)
    · have hh := hR.2 hh; simp_all
    have h : x_State = kk + 1 + cntValS x_F_Fields + 1 := by simpa using h
    subst x_State
    repeat' (first | refine And.intro (by omega) ?_ | fail)
    refine if_cond (fun h => Lf_no (fun hh => ?_)) (fun h => ?_)
    · have hh := hR.2 hh; simp_all
    have h : x_Tries = kk + 1 + cntValS x_F_Fields + 1 + 1 := by simpa using h
    subst x_Tries
    repeat' (first | refine And.intro (by omega) ?_ | fail)
    refine if_cond (fun h => Lf_no (fun hh => ?_)) (fun h => ?_)
    · have hh := hR.2 hh; simp_all
    have h : x_Due = kk + 1 + cntValS x_F_Fields + 1 + 1 + 1 := by simpa using h
    subst x_Due
    repeat' (first | refine And.intro (by omega) ?_ | fail)
    refine if_cond (fun h => Lf_no (fun hh => ?_)) (fun h => ?_)
    · have hh := hR.2 hh; simp_all
    have h : x_V_K = kk + 1 + cntValS x_F_Fields + 1 + 1 + 1 + 1 := by simpa using h
    subst x_V_K
    repeat' (first | refine And.intro (by omega) ?_ | fail)
    refine if_cond (fun h => Lf_no (fun hh => ?_)) (fun h => ?_)
    · have hh := hR.2 hh; simp_all
    have h : x_V_N = kk + 1 + cntValS x_F_Fields + 1 + 1 + 1 + 1 + 1 := by simpa using h
    subst x_V_N
    repeat' (first | refine And.intro (by omega) ?_ | fail)
    refine if_cond (fun h => Lf_no (fun hh => ?_)) (fun h => ?_)
    · have hh := hR.2 hh; simp_all
    have h : x_V_S = markText (kk + 1 + cntValS x_F_Fields + 1 + 1 + 1 + 1 + 1 + 1) := by simpa using h
    subst x_V_S
    exact ⟨⟨by omega, by omega, by omega, by simpa using hR⟩, by simp only [μ_laws_heldTaskS_2]; omega⟩
  · have hc : a.length ≤ i := by have hc := of_decide_eq_false hc; omega
    rw [drop_end a hc] at hR
    exact Lf_yes (hR.1 rfl) (by rw [hkk, ct_done _ _ hc]; rfl)
def con_laws_szUndo : Con UU where
  α := DUndo × Int
  md := [.ro, .ro]
  of := fun | [.agg [.lit (.string a0), .lit (.string a1), .sl .lVal a2], .one (.lit (.int .i64 a3))] => some (⟨a0, ⟨a1, a2⟩⟩, a3) | _ => none
  ds := fun (a, left) => [.agg [.lit (.string a.Key), .lit (.string a.F.Kind), .sl .lVal a.F.Fields], .one (.lit (.int .i64 left))]
  pre := fun (a, left) => [0 ≤ left]
  res := fun (a, left) => ⟨[.one (.lit (.int .i64 (szr left (sizeUndo a))))], true, []⟩
  law := by intro l x h; (try simp only at h); split at h <;> cases h; rfl
def ann_laws_szUndo : con_laws_szUndo.α → Nat → Option (Ann UU) := fun (a, left) => annL []
def use_laws_szUndo : List (FuncId × Con UU) := [(49, con_laws_szFact)]
theorem vc_laws_szUndo (a : DUndo) (left : Int) : goal EE use_laws_szUndo Go.Proofs.Try.f68 con_laws_szUndo ann_laws_szUndo (a, left) = (bif decide (IntKind.wrap IntKind.i64 (left - (↑(ByteArray.size (DUndo.Key a)) : Int)) < (0 : Int)) then Lf [DV.one (Cell.lit (Value.int IntKind.i64 (-1 : Int)))] [DV.one (Cell.lit (Value.int IntKind.i64 (szr left (sizeUndo a))))] else (0 : Int) ≤ IntKind.wrap IntKind.i64 (left - (↑(ByteArray.size (DUndo.Key a)) : Int)) ∧ bif decide (szr (IntKind.wrap IntKind.i64 (left - (↑(ByteArray.size (DUndo.Key a)) : Int))) (sizeFact (DUndo.F a)) < (0 : Int)) then Lf [DV.one (Cell.lit (Value.int IntKind.i64 (-1 : Int)))] [DV.one (Cell.lit (Value.int IntKind.i64 (szr left (sizeUndo a))))] else Lf [DV.one (Cell.lit (Value.int IntKind.i64 (szr (IntKind.wrap IntKind.i64 (left - (↑(ByteArray.size (DUndo.Key a)) : Int))) (sizeFact (DUndo.F a)))))] [DV.one (Cell.lit (Value.int IntKind.i64 (szr left (sizeUndo a))))]) := by kernel_rfl
theorem ok_laws_szUndo : Holds EE (68, con_laws_szUndo) := by
  refine holds_of EE_ok Go.Proofs.Try.func68 con_laws_szUndo (by kernel_rfl) rfl use_laws_szUndo (all_cons ok_laws_szFact all_nil) ann_laws_szUndo (fun x hp hb => ?_)
  obtain ⟨a, left⟩ := x
  have hb_a : BdDV (U := UU) (.agg [.lit (.string a.Key), .lit (.string a.F.Kind), .sl .lVal a.F.Fields]) := hb _ (List.mem_cons_self)
  have hl_a_Key : a.Key.size ≤ 9223372036854775807 := Bd.str (hb_a _ (by simp))
  have hl_a_F_Kind : a.F.Kind.size ≤ 9223372036854775807 := Bd.str (hb_a _ (by simp))
  have hl_a_F_Fields : a.F.Fields.length ≤ 9223372036854775807 := Bd.len (U := UU) (τ := .lVal) (xs := a.F.Fields) (hb_a _ (by simp))
  have hb_left : BdDV (U := UU) (.one (.lit (.int .i64 left))) := hb _ (List.mem_cons_of_mem _ (List.mem_cons_self))
  have hl_left := Bd.i64 hb_left
  have hp0 : 0 ≤ left := hp _ (List.mem_cons_self)
  clear hp hb
  rw [vc_laws_szUndo a left]
  rw [wrap_i64 (by omega) (by omega)]
  refine if_cond (fun h => Lf_i (szr_bad' ?_)) (fun h => ?_)
  · have h := of_decide_eq_true h; simp only [sizeUndo]; omega
  have h0 := of_decide_eq_false h
  refine ⟨by omega, if_cond (fun h => Lf_i (szr_bad' ?_)) (fun h => ?_)⟩
  · have h := szr_neg h; simp only [sizeUndo]; omega
  obtain ⟨e1, h1⟩ := szr_pos h
  rw [e1]
  exact Lf_i (by rw [← szr_ok' (by simp only [sizeUndo]; omega)]; simp only [sizeUndo]; try omega)
def con_laws_toUndo : Con UU where
  α := DUndo
  md := [.ro]
  of := fun | [.agg [.lit (.string a0), .lit (.string a1), .sl .lVal a2]] => some ⟨a0, ⟨a1, a2⟩⟩ | _ => none
  ds := fun a => [.agg [.lit (.string a.Key), .lit (.string a.F.Kind), .sl .lVal a.F.Fields]]
  pre := fun a => [sizeUndo a ≤ 4294967296]
  res := fun a => ⟨[.agg [.lit (.string a.Key), .lit (.string a.F.Kind), .sl .eVal a.F.Fields]], true, []⟩
  law := by intro l x h; (try simp only at h); split at h <;> cases h; rfl
def ann_laws_toUndo : con_laws_toUndo.α → Nat → Option (Ann UU) := fun a => annL []
def use_laws_toUndo : List (FuncId × Con UU) := [(51, con_laws_toFact)]
theorem vc_laws_toUndo (a : DUndo) : goal EE use_laws_toUndo Go.Proofs.Try.f71 con_laws_toUndo ann_laws_toUndo a = (sizeFact (DUndo.F a) ≤ (4294967296 : Nat) ∧ Lf [DV.agg [Cell.lit (Value.string (DUndo.Key a)), Cell.lit (Value.string (DFact.Kind (DUndo.F a))), Cell.sl Cd.eVal (DFact.Fields (DUndo.F a))]] [DV.agg [Cell.lit (Value.string (DUndo.Key a)), Cell.lit (Value.string (DFact.Kind (DUndo.F a))), Cell.sl Cd.eVal (DFact.Fields (DUndo.F a))]]) := by kernel_rfl
theorem ok_laws_toUndo : Holds EE (71, con_laws_toUndo) := by
  refine holds_of EE_ok Go.Proofs.Try.func71 con_laws_toUndo (by kernel_rfl) rfl use_laws_toUndo (all_cons ok_laws_toFact all_nil) ann_laws_toUndo (fun (a : DUndo) hp hb => ?_)
  have hb_a : BdDV (U := UU) (.agg [.lit (.string a.Key), .lit (.string a.F.Kind), .sl .lVal a.F.Fields]) := hb _ (List.mem_cons_self)
  have hl_a_Key : a.Key.size ≤ 9223372036854775807 := Bd.str (hb_a _ (by simp))
  have hl_a_F_Kind : a.F.Kind.size ≤ 9223372036854775807 := Bd.str (hb_a _ (by simp))
  have hl_a_F_Fields : a.F.Fields.length ≤ 9223372036854775807 := Bd.len (U := UU) (τ := .lVal) (xs := a.F.Fields) (hb_a _ (by simp))
  have hp0 : sizeUndo a ≤ 4294967296 := hp _ (List.mem_cons_self)
  clear hp hb
  rw [vc_laws_toUndo a]
  simp only [sizeUndo] at hp0
  repeat' (first | exact Lf_rfl _ | (refine And.intro (by omega) ?_))
def con_laws_eqUndo : Con UU where
  α := DUndo × DUndo
  md := [.ro, .ro]
  of := fun | [.agg [.lit (.string a0), .lit (.string a1), .sl .eVal a2], .agg [.lit (.string a3), .lit (.string a4), .sl .eVal a5]] => some (⟨a0, ⟨a1, a2⟩⟩, ⟨a3, ⟨a4, a5⟩⟩) | _ => none
  ds := fun (a, b) => [.agg [.lit (.string a.Key), .lit (.string a.F.Kind), .sl .eVal a.F.Fields], .agg [.lit (.string b.Key), .lit (.string b.F.Kind), .sl .eVal b.F.Fields]]
  pre := fun (a, b) => []
  res := fun (a, b) => ⟨[.one (.lit (.bool (decide (a = b))))], true, []⟩
  law := by intro l x h; (try simp only at h); split at h <;> cases h; rfl
def ann_laws_eqUndo : con_laws_eqUndo.α → Nat → Option (Ann UU) := fun (a, b) => annL []
def use_laws_eqUndo : List (FuncId × Con UU) := [(53, con_laws_eqFact)]
theorem vc_laws_eqUndo (a : DUndo) (b : DUndo) : goal EE use_laws_eqUndo Go.Proofs.Try.f75 con_laws_eqUndo ann_laws_eqUndo (a, b) = (bif !ByteArray.toList (DUndo.Key a) == ByteArray.toList (DUndo.Key b) then Lf [DV.one (Cell.lit (Value.bool false))] [DV.one (Cell.lit (Value.bool (decide (a = b))))] else bif !decide (DUndo.F a = DUndo.F b) then Lf [DV.one (Cell.lit (Value.bool false))] [DV.one (Cell.lit (Value.bool (decide (a = b))))] else Lf [DV.one (Cell.lit (Value.bool true))] [DV.one (Cell.lit (Value.bool (decide (a = b))))]) := by kernel_rfl
theorem ok_laws_eqUndo : Holds EE (75, con_laws_eqUndo) := by
  refine holds_of EE_ok Go.Proofs.Try.func75 con_laws_eqUndo (by kernel_rfl) rfl use_laws_eqUndo (all_cons ok_laws_eqFact all_nil) ann_laws_eqUndo (fun x hp hb => ?_)
  obtain ⟨a, b⟩ := x
  have hb_a : BdDV (U := UU) (.agg [.lit (.string a.Key), .lit (.string a.F.Kind), .sl .eVal a.F.Fields]) := hb _ (List.mem_cons_self)
  have hl_a_Key : a.Key.size ≤ 9223372036854775807 := Bd.str (hb_a _ (by simp))
  have hl_a_F_Kind : a.F.Kind.size ≤ 9223372036854775807 := Bd.str (hb_a _ (by simp))
  have hl_a_F_Fields : a.F.Fields.length ≤ 9223372036854775807 := Bd.len (U := UU) (τ := .eVal) (xs := a.F.Fields) (hb_a _ (by simp))
  have hb_b : BdDV (U := UU) (.agg [.lit (.string b.Key), .lit (.string b.F.Kind), .sl .eVal b.F.Fields]) := hb _ (List.mem_cons_of_mem _ (List.mem_cons_self))
  have hl_b_Key : b.Key.size ≤ 9223372036854775807 := Bd.str (hb_b _ (by simp))
  have hl_b_F_Kind : b.F.Kind.size ≤ 9223372036854775807 := Bd.str (hb_b _ (by simp))
  have hl_b_F_Fields : b.F.Fields.length ≤ 9223372036854775807 := Bd.len (U := UU) (τ := .eVal) (xs := b.F.Fields) (hb_b _ (by simp))
  clear hp hb
  rw [vc_laws_eqUndo a b]
  obtain ⟨aKey, aF⟩ := a
  obtain ⟨bKey, bF⟩ := b
  repeat' (apply if_cond <;> intro _)
  all_goals (first | apply Lf_t | apply Lf_f) <;> simp_all
def con_laws_szUndoS : Con UU where
  α := (List DUndo) × Int
  md := [.ro, .ro]
  of := fun | [.one (.sl .lUndo a0), .one (.lit (.int .i64 a1))] => some (a0, a1) | _ => none
  ds := fun (a, left) => [.one (.sl .lUndo a), .one (.lit (.int .i64 left))]
  pre := fun (a, left) => [0 ≤ left]
  res := fun (a, left) => ⟨[.one (.lit (.int .i64 (szr left (sizeUndoS a))))], true, []⟩
  law := by intro l x h; (try simp only at h); split at h <;> cases h; rfl
def I_laws_szUndoS_5 (a : (List DUndo)) (left : Int) : Int × Int × Unit → Prop := fun (lf, i, _) => 0 ≤ lf ∧ 0 ≤ i ∧ i ≤ a.length ∧ szr lf ((a.drop i.toNat).map sizeUndo).sum = szr left (sizeUndoS a)
def μ_laws_szUndoS_5 (a : (List DUndo)) (left : Int) : Int × Int × Unit → Nat := fun (lf, i, _) => a.length - i.toNat
def ann_laws_szUndoS : con_laws_szUndoS.α → Nat → Option (Ann UU) := fun (a, left) => annL [(5, annOf [.slot 1 (1, 1024) (.lit (.int .i64)), .slot 5 (5, 1024) (.lit (.int .i64))] (fun _ => I_laws_szUndoS_5 a left) (μ_laws_szUndoS_5 a left))]
def use_laws_szUndoS : List (FuncId × Con UU) := [(68, con_laws_szUndo)]
theorem vc_laws_szUndoS (a : (List DUndo)) (left : Int) : goal EE use_laws_szUndoS Go.Proofs.Try.f13 con_laws_szUndoS ann_laws_szUndoS (a, left) = (bif decide (IntKind.wrap IntKind.i64 (left - (↑(List.length a) : Int)) < (0 : Int)) then Lf [DV.one (Cell.lit (Value.int IntKind.i64 (-1 : Int)))] [DV.one (Cell.lit (Value.int IntKind.i64 (szr left (sizeUndoS a))))] else I_laws_szUndoS_5 a left (IntKind.wrap IntKind.i64 (left - (↑(List.length a) : Int)), (0 : Int), PUnit.unit) ∧ ∀ (y : Int × Int × PUnit), I_laws_szUndoS_5 a left y → bif decide (y.2.1 < (↑(List.length a) : Int)) then (0 : Int) ≤ y.2.1 ∧ Int.toNat y.2.1 < List.length a ∧ (0 : Int) ≤ y.1 ∧ bif decide (szr y.1 (sizeUndo (List.getD a (Int.toNat y.2.1) zUndo)) < (0 : Int)) then Lf [DV.one (Cell.lit (Value.int IntKind.i64 (-1 : Int)))] [DV.one (Cell.lit (Value.int IntKind.i64 (szr left (sizeUndoS a))))] else I_laws_szUndoS_5 a left (szr y.1 (sizeUndo (List.getD a (Int.toNat y.2.1) zUndo)), IntKind.wrap IntKind.i64 (y.2.1 + (1 : Int)), PUnit.unit) ∧ μ_laws_szUndoS_5 a left (szr y.1 (sizeUndo (List.getD a (Int.toNat y.2.1) zUndo)), IntKind.wrap IntKind.i64 (y.2.1 + (1 : Int)), PUnit.unit) < μ_laws_szUndoS_5 a left y else Lf [DV.one (Cell.lit (Value.int IntKind.i64 y.1))] [DV.one (Cell.lit (Value.int IntKind.i64 (szr left (sizeUndoS a))))]) := by kernel_rfl
theorem ok_laws_szUndoS : Holds EE (13, con_laws_szUndoS) := by
  refine holds_of EE_ok Go.Proofs.Try.func13 con_laws_szUndoS (by kernel_rfl) rfl use_laws_szUndoS (all_cons ok_laws_szUndo all_nil) ann_laws_szUndoS (fun x hp hb => ?_)
  obtain ⟨a, left⟩ := x
  have hb_a : BdDV (U := UU) (.one (.sl .lUndo a)) := hb _ (List.mem_cons_self)
  have hl_a : a.length ≤ 9223372036854775807 := Bd.len hb_a
  have hb_left : BdDV (U := UU) (.one (.lit (.int .i64 left))) := hb _ (List.mem_cons_of_mem _ (List.mem_cons_self))
  have hl_left := Bd.i64 hb_left
  have hp0 : 0 ≤ left := hp _ (List.mem_cons_self)
  clear hp hb
  rw [vc_laws_szUndoS a left]
  rw [wrap_i64 (by omega) (by omega)]
  refine if_cond (fun h => Lf_i ?_) (fun h => ⟨?_, ?_⟩)
  · simp [szr, sizeUndoS] at *; omega
  · simp only [I_laws_szUndoS_5, sizeUndoS]; simp at h; have h' : 0 ≤ left - a.length := by omega
    exact ⟨h', by omega, by omega, szr_sub h'⟩
  rintro ⟨lf, i, ⟨⟩⟩ ⟨h0, h1, h2, hR⟩
  refine if_cond (fun hc => ?_) (fun hc => ?_)
  · have hc : i < a.length := by simpa using hc
    rw [drop_step a zUndo h1 hc, List.map_cons, List.sum_cons] at hR
    simp only at *
    rw [wrap_i64 (by omega) (by omega)]
    generalize List.getD a i.toNat zUndo = x at *
    refine ⟨by omega, by omega, by omega, if_cond (fun h => Lf_i ?_) (fun h => ⟨⟨?_, by omega, by omega, ?_⟩, ?_⟩)⟩
    · rw [← hR]; exact (szr_bad (of_decide_eq_true h)).symm
    · simp at h; omega
    · rw [← hR]; simp at h; exact szr_szr h
    · simp only [μ_laws_szUndoS_5]; omega
  · have hc : a.length ≤ i := by simpa using hc
    rw [drop_end a hc] at hR
    apply Lf_i; rw [← hR]; simp [szr, h0]
def con_laws_toUndoS : Con UU where
  α := (List DUndo)
  md := [.ro]
  of := fun | [.one (.sl .lUndo a0)] => some a0 | _ => none
  ds := fun a => [.one (.sl .lUndo a)]
  pre := fun a => [sizeUndoS a ≤ 4294967296]
  res := fun a => ⟨[.one (.sl .eUndo a)], true, []⟩
  law := by intro l x h; (try simp only at h); split at h <;> cases h; rfl
def I_laws_toUndoS_3 (a : (List DUndo)) : List DUndo × Int × Unit → Prop := fun (out, i, _) => 0 ≤ i ∧ i ≤ a.length ∧ out = a.take i.toNat ++ List.replicate (a.length - i.toNat) zUndo
def μ_laws_toUndoS_3 (a : (List DUndo)) : List DUndo × Int × Unit → Nat := fun (out, i, _) => a.length - i.toNat
def ann_laws_toUndoS : con_laws_toUndoS.α → Nat → Option (Ann UU) := fun a => annL [(3, annOf [.slot 3 (3, 1024) (.own .eUndo true), .slot 4 (4, 1024) (.lit (.int .i64))] (fun _ => I_laws_toUndoS_3 a) (μ_laws_toUndoS_3 a))]
def use_laws_toUndoS : List (FuncId × Con UU) := [(71, con_laws_toUndo)]
theorem vc_laws_toUndoS (a : (List DUndo)) : goal EE use_laws_toUndoS Go.Proofs.Try.f15 con_laws_toUndoS ann_laws_toUndoS a = ((0 : Int) ≤ (↑(List.length a) : Int) ∧ (↑(List.length a) : Int) = (↑(List.length a) : Int) ∧ (↑(List.length a) : Int) ≤ (4294967296 : Int) ∧ I_laws_toUndoS_3 a (List.replicate (Int.toNat (↑(List.length a) : Int)) zUndo, (0 : Int), PUnit.unit) ∧ ∀ (y : List DUndo × Int × PUnit), I_laws_toUndoS_3 a y → bif decide (y.2.1 < (↑(List.length a) : Int)) then (0 : Int) ≤ y.2.1 ∧ Int.toNat y.2.1 < List.length a ∧ sizeUndo (List.getD a (Int.toNat y.2.1) zUndo) ≤ (4294967296 : Nat) ∧ (0 : Int) ≤ y.2.1 ∧ Int.toNat y.2.1 < List.length y.1 ∧ Int.toNat y.2.1 < List.length y.1 ∧ I_laws_toUndoS_3 a (List.set y.1 (Int.toNat y.2.1) (List.getD a (Int.toNat y.2.1) zUndo), IntKind.wrap IntKind.i64 (y.2.1 + (1 : Int)), PUnit.unit) ∧ μ_laws_toUndoS_3 a (List.set y.1 (Int.toNat y.2.1) (List.getD a (Int.toNat y.2.1) zUndo), IntKind.wrap IntKind.i64 (y.2.1 + (1 : Int)), PUnit.unit) < μ_laws_toUndoS_3 a y else Lf [DV.one (Cell.sl Cd.eUndo y.1)] [DV.one (Cell.sl Cd.eUndo a)]) := by kernel_rfl
theorem ok_laws_toUndoS : Holds EE (15, con_laws_toUndoS) := by
  refine holds_of EE_ok Go.Proofs.Try.func15 con_laws_toUndoS (by kernel_rfl) rfl use_laws_toUndoS (all_cons ok_laws_toUndo all_nil) ann_laws_toUndoS (fun (a : (List DUndo)) hp hb => ?_)
  have hb_a : BdDV (U := UU) (.one (.sl .lUndo a)) := hb _ (List.mem_cons_self)
  have hl_a : a.length ≤ 9223372036854775807 := Bd.len hb_a
  have hp0 : sizeUndoS a ≤ 4294967296 := hp _ (List.mem_cons_self)
  clear hp hb
  rw [vc_laws_toUndoS a]
  have hlen : a.length ≤ 4294967296 := by simp only [sizeUndoS] at hp0; omega
  refine ⟨by omega, rfl, by omega, ?_, ?_⟩
  · simp [I_laws_toUndoS_3]
  rintro ⟨out, i, ⟨⟩⟩ ⟨h1, h2, rfl⟩
  simp only at *
  refine if_cond (fun hc => ?_) (fun hc => ?_)
  · have hc : i < a.length := by simpa using hc
    rw [wrap_i64 (by omega) (by omega), set_fill a zUndo h1 hc]
    exact ⟨h1, by omega, by exact Nat.le_trans (sum_getD_le sizeUndo a zUndo h1 hc) (by simp only [sizeUndoS] at hp0; omega), h1, by simp; omega, by simp; omega, ⟨by omega, by omega, rfl⟩, by simp only [μ_laws_toUndoS_3]; omega⟩
  · have hc : a.length ≤ i := by simpa using hc
    have e : i.toNat = a.length := by omega
    rw [e]; simp; exact Lf_rfl _
def con_laws_eqUndoS : Con UU where
  α := (List DUndo) × (List DUndo)
  md := [.ro, .ro]
  of := fun | [.one (.sl .eUndo a0), .one (.sl .eUndo a1)] => some (a0, a1) | _ => none
  ds := fun (a, b) => [.one (.sl .eUndo a), .one (.sl .eUndo b)]
  pre := fun (a, b) => []
  res := fun (a, b) => ⟨[.one (.lit (.bool (decide (a = b))))], true, []⟩
  law := by intro l x h; (try simp only at h); split at h <;> cases h; rfl
def I_laws_eqUndoS_4 (a : (List DUndo)) (b : (List DUndo)) : Int × Unit → Prop := fun (i, _) => 0 ≤ i ∧ i ≤ a.length ∧ a.length = b.length ∧ (a.drop i.toNat = b.drop i.toNat ↔ a = b)
def μ_laws_eqUndoS_4 (a : (List DUndo)) (b : (List DUndo)) : Int × Unit → Nat := fun (i, _) => a.length - i.toNat
def ann_laws_eqUndoS : con_laws_eqUndoS.α → Nat → Option (Ann UU) := fun (a, b) => annL [(4, annOf [.slot 5 (5, 1024) (.lit (.int .i64))] (fun _ => I_laws_eqUndoS_4 a b) (μ_laws_eqUndoS_4 a b))]
def use_laws_eqUndoS : List (FuncId × Con UU) := [(75, con_laws_eqUndo)]
theorem vc_laws_eqUndoS (a : (List DUndo)) (b : (List DUndo)) : goal EE use_laws_eqUndoS Go.Proofs.Try.f17 con_laws_eqUndoS ann_laws_eqUndoS (a, b) = (bif (↑(List.length a) : Int) != (↑(List.length b) : Int) then Lf [DV.one (Cell.lit (Value.bool false))] [DV.one (Cell.lit (Value.bool (decide (a = b))))] else I_laws_eqUndoS_4 a b ((0 : Int), PUnit.unit) ∧ ∀ (y : Int × PUnit), I_laws_eqUndoS_4 a b y → bif decide (y.1 < (↑(List.length a) : Int)) then (0 : Int) ≤ y.1 ∧ Int.toNat y.1 < List.length a ∧ (0 : Int) ≤ y.1 ∧ Int.toNat y.1 < List.length b ∧ bif !decide (List.getD a (Int.toNat y.1) zUndo = List.getD b (Int.toNat y.1) zUndo) then Lf [DV.one (Cell.lit (Value.bool false))] [DV.one (Cell.lit (Value.bool (decide (a = b))))] else I_laws_eqUndoS_4 a b (IntKind.wrap IntKind.i64 (y.1 + (1 : Int)), PUnit.unit) ∧ μ_laws_eqUndoS_4 a b (IntKind.wrap IntKind.i64 (y.1 + (1 : Int)), PUnit.unit) < μ_laws_eqUndoS_4 a b y else Lf [DV.one (Cell.lit (Value.bool true))] [DV.one (Cell.lit (Value.bool (decide (a = b))))]) := by kernel_rfl
theorem ok_laws_eqUndoS : Holds EE (17, con_laws_eqUndoS) := by
  refine holds_of EE_ok Go.Proofs.Try.func17 con_laws_eqUndoS (by kernel_rfl) rfl use_laws_eqUndoS (all_cons ok_laws_eqUndo all_nil) ann_laws_eqUndoS (fun x hp hb => ?_)
  obtain ⟨a, b⟩ := x
  have hb_a : BdDV (U := UU) (.one (.sl .eUndo a)) := hb _ (List.mem_cons_self)
  have hl_a : a.length ≤ 9223372036854775807 := Bd.len hb_a
  have hb_b : BdDV (U := UU) (.one (.sl .eUndo b)) := hb _ (List.mem_cons_of_mem _ (List.mem_cons_self))
  have hl_b : b.length ≤ 9223372036854775807 := Bd.len hb_b
  clear hp hb
  rw [vc_laws_eqUndoS a b]
  refine if_cond (fun h => Lf_f ?_) (fun h => ⟨?_, ?_⟩)
  · rintro rfl; simp at h
  · simp [I_laws_eqUndoS_4] at *; omega
  rintro ⟨i, ⟨⟩⟩ ⟨h1, h2, h3, hR⟩
  simp only at *
  refine if_cond (fun hc => ?_) (fun hc => ?_)
  · have hc : i < a.length := by simpa using hc
    rw [drop_step a zUndo h1 hc, drop_step b zUndo h1 (by omega)] at hR
    rw [wrap_i64 (by omega) (by omega)]
    refine ⟨by omega, by omega, by omega, by omega, if_cond (fun h => Lf_f ?_) (fun h => ⟨⟨by omega, by omega, h3, ?_⟩, ?_⟩)⟩
    · rw [← hR]; simp at h; simp [h]
    · rw [← hR]; simp at h; simp [h]
    · simp only [μ_laws_eqUndoS_4]; omega
  · have hc : a.length ≤ i := by simpa using hc
    rw [drop_end a hc, drop_end b (by omega)] at hR
    exact Lf_t (hR.1 rfl)
def con_laws_markUndoS : Con UU where
  α := (List DUndo) × Int
  md := [.wr, .ro]
  of := fun | [.one (.sl .eUndo a0), .one (.lit (.int .i64 a1))] => some (a0, a1) | _ => none
  ds := fun (a, k) => [.one (.sl .eUndo a), .one (.lit (.int .i64 k))]
  pre := fun (a, k) => [0 ≤ k, k + cntUndoS a ≤ 4611686018427387904]
  res := fun (a, k) => ⟨[.one (.lit (.int .i64 (k + cntUndoS a)))], true, [.one (.sl .eUndo (markUndoS a k))]⟩
  law := by intro l x h; (try simp only at h); split at h <;> cases h; rfl
def I_laws_markUndoS_2 (a : (List DUndo)) (k : Int) : List DUndo × Int × Int × Unit → Prop := fun (row, kk, i, _) => 0 ≤ i ∧ i ≤ a.length ∧ row = (mkS markUndo cntUndo a k).take i.toNat ++ a.drop i.toNat ∧ kk = k + ctS cntUndo (a.take i.toNat)
def μ_laws_markUndoS_2 (a : (List DUndo)) (k : Int) : List DUndo × Int × Int × Unit → Nat := fun (row, kk, i, _) => a.length - i.toNat
def ann_laws_markUndoS : con_laws_markUndoS.α → Nat → Option (Ann UU) := fun (a, k) => annL [(2, annOf [.slot 0 (2000000, 0) (.own .eUndo true), .slot 1 (1, 1024) (.lit (.int .i64)), .slot 5 (5, 1024) (.lit (.int .i64))] (fun _ => I_laws_markUndoS_2 a k) (μ_laws_markUndoS_2 a k))]
def use_laws_markUndoS : List (FuncId × Con UU) := [(89, con_laws_markText), (90, con_laws_markValS)]
theorem vc_laws_markUndoS (a : (List DUndo)) (k : Int) : goal EE use_laws_markUndoS Go.Proofs.Try.f125 con_laws_markUndoS ann_laws_markUndoS (a, k) = (I_laws_markUndoS_2 a k (a, k, (0 : Int), PUnit.unit) ∧ ∀ (y : List DUndo × Int × Int × PUnit), I_laws_markUndoS_2 a k y → bif decide (y.2.2.1 < (↑(List.length y.1) : Int)) then y.2.1 ≤ (4611686018427387903 : Int) ∧ (0 : Int) ≤ y.2.2.1 ∧ Int.toNat y.2.2.1 < List.length y.1 ∧ Int.toNat y.2.2.1 < List.length y.1 ∧ IntKind.wrap IntKind.i64 (y.2.1 + (1 : Int)) ≤ (4611686018427387903 : Int) ∧ (0 : Int) ≤ y.2.2.1 ∧ Int.toNat y.2.2.1 < List.length (List.modify y.1 (Int.toNat y.2.2.1) fun (x : DUndo) => { Key := markText y.2.1, F := DUndo.F x }) ∧ Int.toNat y.2.2.1 < List.length (List.modify y.1 (Int.toNat y.2.2.1) fun (x : DUndo) => { Key := markText y.2.1, F := DUndo.F x }) ∧ (0 : Int) ≤ y.2.2.1 ∧ Int.toNat y.2.2.1 < List.length (List.modify (List.modify y.1 (Int.toNat y.2.2.1) fun (x : DUndo) => { Key := markText y.2.1, F := DUndo.F x }) (Int.toNat y.2.2.1) fun (x : DUndo) => { Key := DUndo.Key x, F := { Kind := markText (IntKind.wrap IntKind.i64 (y.2.1 + (1 : Int))), Fields := DFact.Fields (DUndo.F x) } }) ∧ Int.toNat y.2.2.1 < List.length (List.modify (List.modify y.1 (Int.toNat y.2.2.1) fun (x : DUndo) => { Key := markText y.2.1, F := DUndo.F x }) (Int.toNat y.2.2.1) fun (x : DUndo) => { Key := DUndo.Key x, F := { Kind := markText (IntKind.wrap IntKind.i64 (y.2.1 + (1 : Int))), Fields := DFact.Fields (DUndo.F x) } }) ∧ Int.toNat y.2.2.1 < List.length (List.modify (List.modify y.1 (Int.toNat y.2.2.1) fun (x : DUndo) => { Key := markText y.2.1, F := DUndo.F x }) (Int.toNat y.2.2.1) fun (x : DUndo) => { Key := DUndo.Key x, F := { Kind := markText (IntKind.wrap IntKind.i64 (y.2.1 + (1 : Int))), Fields := DFact.Fields (DUndo.F x) } }) ∧ (0 : Int) ≤ IntKind.wrap IntKind.i64 (IntKind.wrap IntKind.i64 (y.2.1 + (1 : Int)) + (1 : Int)) ∧ IntKind.wrap IntKind.i64 (IntKind.wrap IntKind.i64 (y.2.1 + (1 : Int)) + (1 : Int)) + (↑(cntValS (DFact.Fields (DUndo.F (List.getD (List.modify (List.modify y.1 (Int.toNat y.2.2.1) fun (x : DUndo) => { Key := markText y.2.1, F := DUndo.F x }) (Int.toNat y.2.2.1) fun (x : DUndo) => { Key := DUndo.Key x, F := { Kind := markText (IntKind.wrap IntKind.i64 (y.2.1 + (1 : Int))), Fields := DFact.Fields (DUndo.F x) } }) (Int.toNat y.2.2.1) zUndo)))) : Int) ≤ (4611686018427387904 : Int) ∧ I_laws_markUndoS_2 a k (List.modify (List.modify (List.modify y.1 (Int.toNat y.2.2.1) fun (x : DUndo) => { Key := markText y.2.1, F := DUndo.F x }) (Int.toNat y.2.2.1) fun (x : DUndo) => { Key := DUndo.Key x, F := { Kind := markText (IntKind.wrap IntKind.i64 (y.2.1 + (1 : Int))), Fields := DFact.Fields (DUndo.F x) } }) (Int.toNat y.2.2.1) fun (x : DUndo) => { Key := DUndo.Key x, F := { Kind := DFact.Kind (DUndo.F x), Fields := markValS (DFact.Fields (DUndo.F (List.getD (List.modify (List.modify y.1 (Int.toNat y.2.2.1) fun (x : DUndo) => { Key := markText y.2.1, F := DUndo.F x }) (Int.toNat y.2.2.1) fun (x : DUndo) => { Key := DUndo.Key x, F := { Kind := markText (IntKind.wrap IntKind.i64 (y.2.1 + (1 : Int))), Fields := DFact.Fields (DUndo.F x) } }) (Int.toNat y.2.2.1) zUndo))) (IntKind.wrap IntKind.i64 (IntKind.wrap IntKind.i64 (y.2.1 + (1 : Int)) + (1 : Int))) } }, IntKind.wrap IntKind.i64 (IntKind.wrap IntKind.i64 (y.2.1 + (1 : Int)) + (1 : Int)) + (↑(cntValS (DFact.Fields (DUndo.F (List.getD (List.modify (List.modify y.1 (Int.toNat y.2.2.1) fun (x : DUndo) => { Key := markText y.2.1, F := DUndo.F x }) (Int.toNat y.2.2.1) fun (x : DUndo) => { Key := DUndo.Key x, F := { Kind := markText (IntKind.wrap IntKind.i64 (y.2.1 + (1 : Int))), Fields := DFact.Fields (DUndo.F x) } }) (Int.toNat y.2.2.1) zUndo)))) : Int), IntKind.wrap IntKind.i64 (y.2.2.1 + (1 : Int)), PUnit.unit) ∧ μ_laws_markUndoS_2 a k (List.modify (List.modify (List.modify y.1 (Int.toNat y.2.2.1) fun (x : DUndo) => { Key := markText y.2.1, F := DUndo.F x }) (Int.toNat y.2.2.1) fun (x : DUndo) => { Key := DUndo.Key x, F := { Kind := markText (IntKind.wrap IntKind.i64 (y.2.1 + (1 : Int))), Fields := DFact.Fields (DUndo.F x) } }) (Int.toNat y.2.2.1) fun (x : DUndo) => { Key := DUndo.Key x, F := { Kind := DFact.Kind (DUndo.F x), Fields := markValS (DFact.Fields (DUndo.F (List.getD (List.modify (List.modify y.1 (Int.toNat y.2.2.1) fun (x : DUndo) => { Key := markText y.2.1, F := DUndo.F x }) (Int.toNat y.2.2.1) fun (x : DUndo) => { Key := DUndo.Key x, F := { Kind := markText (IntKind.wrap IntKind.i64 (y.2.1 + (1 : Int))), Fields := DFact.Fields (DUndo.F x) } }) (Int.toNat y.2.2.1) zUndo))) (IntKind.wrap IntKind.i64 (IntKind.wrap IntKind.i64 (y.2.1 + (1 : Int)) + (1 : Int))) } }, IntKind.wrap IntKind.i64 (IntKind.wrap IntKind.i64 (y.2.1 + (1 : Int)) + (1 : Int)) + (↑(cntValS (DFact.Fields (DUndo.F (List.getD (List.modify (List.modify y.1 (Int.toNat y.2.2.1) fun (x : DUndo) => { Key := markText y.2.1, F := DUndo.F x }) (Int.toNat y.2.2.1) fun (x : DUndo) => { Key := DUndo.Key x, F := { Kind := markText (IntKind.wrap IntKind.i64 (y.2.1 + (1 : Int))), Fields := DFact.Fields (DUndo.F x) } }) (Int.toNat y.2.2.1) zUndo)))) : Int), IntKind.wrap IntKind.i64 (y.2.2.1 + (1 : Int)), PUnit.unit) < μ_laws_markUndoS_2 a k y else asD [DV.one (Cell.lit (Value.int IntKind.i64 y.2.1))] = asD [DV.one (Cell.lit (Value.int IntKind.i64 (k + (↑(cntUndoS a) : Int))))] ∧ asD [DV.one (Cell.sl Cd.eUndo y.1)] = asD [DV.one (Cell.sl Cd.eUndo (markUndoS a k))]) := by kernel_rfl
theorem ok_laws_markUndoS : Holds EE (125, con_laws_markUndoS) := by
  refine holds_of EE_ok Go.Proofs.Try.func125 con_laws_markUndoS (by kernel_rfl) rfl use_laws_markUndoS (all_cons ok_laws_markText (all_cons ok_laws_markValS all_nil)) ann_laws_markUndoS (fun x hp hb => ?_)
  obtain ⟨a, k⟩ := x
  have hb_a : BdDV (U := UU) (.one (.sl .eUndo a)) := hb _ (List.mem_cons_self)
  have hl_a : a.length ≤ 9223372036854775807 := Bd.len hb_a
  have hb_k : BdDV (U := UU) (.one (.lit (.int .i64 k))) := hb _ (List.mem_cons_of_mem _ (List.mem_cons_self))
  have hl_k := Bd.i64 hb_k
  have hp0 : 0 ≤ k := hp _ (List.mem_cons_self)
  have hp1 : k + cntUndoS a ≤ 4611686018427387904 := hp _ (List.mem_cons_of_mem _ (List.mem_cons_self))
  clear hp hb
  rw [vc_laws_markUndoS a k]
  refine ⟨⟨by omega, by omega, by simp, by simp [ctS]⟩, ?_⟩
  rintro ⟨row, kk, i, ⟨⟩⟩ ⟨h1, h2, rfl, rfl⟩
  simp only
  have hl := mk_rl markUndo cntUndo a k h1 h2
  refine if_cond (fun hc => ?_) (fun hc => ?_)
  · have hc : i < a.length := by have hc := of_decide_eq_true hc; omega
    have hct := ctS_take cntUndo a zUndo h1 hc
    have hle := ctS_take_le cntUndo a (i + 1).toNat
    have hg := mk_getD _ a zUndo (mk_tl markUndo cntUndo a k h1 h2) h1 hc
    have hM := fun F hF => mkS_mod markUndo cntUndo a zUndo k (i := i) F h1 hc hF
    have hq : (cntUndoS a : Int) = ctS cntUndo a := rfl
    generalize List.getD a i.toNat zUndo = x at *
    generalize hkk : k + (ctS cntUndo (a.take i.toNat) : Int) = kk at *
    generalize List.take i.toNat (mkS markUndo cntUndo a k) ++ List.drop i.toNat a = R at *
    simp only [cntUndo] at hct
    simp (disch := first | omega | (simp only [List.length_modify]; omega)) only [List.length_modify, wrap_i64, getD_modify, modify_modify, hg, hl]
    repeat' (first | refine And.intro (by omega) ?_ | fail)
    exact ⟨⟨by omega, by omega, hM _ rfl, by omega⟩, by simp only [μ_laws_markUndoS_2]; omega⟩
  · have hc : a.length ≤ i := by have hc := of_decide_eq_false hc; omega
    rw [mk_done markUndo cntUndo a k hc, ct_done cntUndo a hc]
    exact ⟨rfl, rfl⟩
def con_laws_heldUndoS : Con UU where
  α := (List DUndo) × Int
  md := [.ro, .ro]
  of := fun | [.one (.sl .eUndo a0), .one (.lit (.int .i64 a1))] => some (a0, a1) | _ => none
  ds := fun (a, k) => [.one (.sl .eUndo a), .one (.lit (.int .i64 k))]
  pre := fun (a, k) => [0 ≤ k, k + cntUndoS a ≤ 4611686018427387904]
  res := fun (a, k) => ⟨[.one (.lit (.int .i64 (if markUndoS a k = a then k + cntUndoS a else -1)))], true, []⟩
  law := by intro l x h; (try simp only at h); split at h <;> cases h; rfl
def I_laws_heldUndoS_2 (a : (List DUndo)) (k : Int) : Int × Int × Unit → Prop := fun (kk, i, _) => 0 ≤ i ∧ i ≤ a.length ∧ kk = k + ctS cntUndo (a.take i.toNat) ∧ (mkS markUndo cntUndo (a.drop i.toNat) kk = a.drop i.toNat ↔ mkS markUndo cntUndo a k = a)
def μ_laws_heldUndoS_2 (a : (List DUndo)) (k : Int) : Int × Int × Unit → Nat := fun (kk, i, _) => a.length - i.toNat
def ann_laws_heldUndoS : con_laws_heldUndoS.α → Nat → Option (Ann UU) := fun (a, k) => annL [(2, annOf [.slot 1 (1, 1024) (.lit (.int .i64)), .slot 5 (5, 1024) (.lit (.int .i64))] (fun _ => I_laws_heldUndoS_2 a k) (μ_laws_heldUndoS_2 a k))]
def use_laws_heldUndoS : List (FuncId × Con UU) := [(89, con_laws_markText), (91, con_laws_heldValS)]
theorem vc_laws_heldUndoS (a : (List DUndo)) (k : Int) : goal EE use_laws_heldUndoS Go.Proofs.Try.f128 con_laws_heldUndoS ann_laws_heldUndoS (a, k) = (I_laws_heldUndoS_2 a k (k, (0 : Int), PUnit.unit) ∧ ∀ (y : Int × Int × PUnit), I_laws_heldUndoS_2 a k y → bif decide (y.2.1 < (↑(List.length a) : Int)) then (0 : Int) ≤ y.2.1 ∧ Int.toNat y.2.1 < List.length a ∧ y.1 ≤ (4611686018427387903 : Int) ∧ bif !ByteArray.toList (DUndo.Key (List.getD a (Int.toNat y.2.1) zUndo)) == ByteArray.toList (markText y.1) then Lf [DV.one (Cell.lit (Value.int IntKind.i64 (-1 : Int)))] [DV.one (Cell.lit (Value.int IntKind.i64 (if markUndoS a k = a then k + (↑(cntUndoS a) : Int) else (-1 : Int))))] else (0 : Int) ≤ y.2.1 ∧ Int.toNat y.2.1 < List.length a ∧ IntKind.wrap IntKind.i64 (y.1 + (1 : Int)) ≤ (4611686018427387903 : Int) ∧ bif !ByteArray.toList (DFact.Kind (DUndo.F (List.getD a (Int.toNat y.2.1) zUndo))) == ByteArray.toList (markText (IntKind.wrap IntKind.i64 (y.1 + (1 : Int)))) then Lf [DV.one (Cell.lit (Value.int IntKind.i64 (-1 : Int)))] [DV.one (Cell.lit (Value.int IntKind.i64 (if markUndoS a k = a then k + (↑(cntUndoS a) : Int) else (-1 : Int))))] else (0 : Int) ≤ y.2.1 ∧ Int.toNat y.2.1 < List.length a ∧ (0 : Int) ≤ IntKind.wrap IntKind.i64 (IntKind.wrap IntKind.i64 (y.1 + (1 : Int)) + (1 : Int)) ∧ IntKind.wrap IntKind.i64 (IntKind.wrap IntKind.i64 (y.1 + (1 : Int)) + (1 : Int)) + (↑(cntValS (DFact.Fields (DUndo.F (List.getD a (Int.toNat y.2.1) zUndo)))) : Int) ≤ (4611686018427387904 : Int) ∧ bif decide ((if markValS (DFact.Fields (DUndo.F (List.getD a (Int.toNat y.2.1) zUndo))) (IntKind.wrap IntKind.i64 (IntKind.wrap IntKind.i64 (y.1 + (1 : Int)) + (1 : Int))) = DFact.Fields (DUndo.F (List.getD a (Int.toNat y.2.1) zUndo)) then IntKind.wrap IntKind.i64 (IntKind.wrap IntKind.i64 (y.1 + (1 : Int)) + (1 : Int)) + (↑(cntValS (DFact.Fields (DUndo.F (List.getD a (Int.toNat y.2.1) zUndo)))) : Int) else (-1 : Int)) < (0 : Int)) then Lf [DV.one (Cell.lit (Value.int IntKind.i64 (-1 : Int)))] [DV.one (Cell.lit (Value.int IntKind.i64 (if markUndoS a k = a then k + (↑(cntUndoS a) : Int) else (-1 : Int))))] else I_laws_heldUndoS_2 a k (if markValS (DFact.Fields (DUndo.F (List.getD a (Int.toNat y.2.1) zUndo))) (IntKind.wrap IntKind.i64 (IntKind.wrap IntKind.i64 (y.1 + (1 : Int)) + (1 : Int))) = DFact.Fields (DUndo.F (List.getD a (Int.toNat y.2.1) zUndo)) then IntKind.wrap IntKind.i64 (IntKind.wrap IntKind.i64 (y.1 + (1 : Int)) + (1 : Int)) + (↑(cntValS (DFact.Fields (DUndo.F (List.getD a (Int.toNat y.2.1) zUndo)))) : Int) else (-1 : Int), IntKind.wrap IntKind.i64 (y.2.1 + (1 : Int)), PUnit.unit) ∧ μ_laws_heldUndoS_2 a k (if markValS (DFact.Fields (DUndo.F (List.getD a (Int.toNat y.2.1) zUndo))) (IntKind.wrap IntKind.i64 (IntKind.wrap IntKind.i64 (y.1 + (1 : Int)) + (1 : Int))) = DFact.Fields (DUndo.F (List.getD a (Int.toNat y.2.1) zUndo)) then IntKind.wrap IntKind.i64 (IntKind.wrap IntKind.i64 (y.1 + (1 : Int)) + (1 : Int)) + (↑(cntValS (DFact.Fields (DUndo.F (List.getD a (Int.toNat y.2.1) zUndo)))) : Int) else (-1 : Int), IntKind.wrap IntKind.i64 (y.2.1 + (1 : Int)), PUnit.unit) < μ_laws_heldUndoS_2 a k y else Lf [DV.one (Cell.lit (Value.int IntKind.i64 y.1))] [DV.one (Cell.lit (Value.int IntKind.i64 (if markUndoS a k = a then k + (↑(cntUndoS a) : Int) else (-1 : Int))))]) := by kernel_rfl
theorem ok_laws_heldUndoS : Holds EE (128, con_laws_heldUndoS) := by
  refine holds_of EE_ok Go.Proofs.Try.func128 con_laws_heldUndoS (by kernel_rfl) rfl use_laws_heldUndoS (all_cons ok_laws_markText (all_cons ok_laws_heldValS all_nil)) ann_laws_heldUndoS (fun x hp hb => ?_)
  obtain ⟨a, k⟩ := x
  have hb_a : BdDV (U := UU) (.one (.sl .eUndo a)) := hb _ (List.mem_cons_self)
  have hl_a : a.length ≤ 9223372036854775807 := Bd.len hb_a
  have hb_k : BdDV (U := UU) (.one (.lit (.int .i64 k))) := hb _ (List.mem_cons_of_mem _ (List.mem_cons_self))
  have hl_k := Bd.i64 hb_k
  have hp0 : 0 ≤ k := hp _ (List.mem_cons_self)
  have hp1 : k + cntUndoS a ≤ 4611686018427387904 := hp _ (List.mem_cons_of_mem _ (List.mem_cons_self))
  clear hp hb
  rw [vc_laws_heldUndoS a k]
  refine ⟨⟨by omega, by omega, by simp [ctS], by simp⟩, ?_⟩
  rintro ⟨kk, i, ⟨⟩⟩ ⟨h1, h2, hkk, hR⟩
  simp only
  simp only [markUndoS]
  refine if_cond (fun hc => ?_) (fun hc => ?_)
  · have hc : i < a.length := by have hc := of_decide_eq_true hc; omega
    have hct := ctS_take cntUndo a zUndo h1 hc
    have hle := ctS_take_le cntUndo a (i + 1).toNat
    have hq : (cntUndoS a : Int) = ctS cntUndo a := rfl
    rw [drop_step a zUndo h1 hc] at hR
    generalize List.getD a i.toNat zUndo = x at *
    simp only [mkS, List.cons.injEq] at hR
    have e : kk + (cntUndo x : Int) = kk + 1 + 1 + (cntValS x.F.Fields : Int) := by simp only [cntUndo]; omega
    rw [e] at hR
    simp only [markUndo, cntUndo] at hR hct
    simp (disch := omega) only [wrap_i64, bne_int, toList_beq]
    obtain ⟨x_Key, ⟨x_F_Kind, x_F_Fields⟩⟩ := x
    simp only [DFact.mk.injEq, DUndo.mk.injEq] at *
    repeat' (first | refine And.intro (by omega) ?_ | fail)
    refine if_cond (fun h => Lf_no (fun hh => ?_)) (fun h => ?_)
    · have hh := hR.2 hh; simp_all
    have h : x_Key = markText (kk) := by simpa using h
    subst x_Key
    repeat' (first | refine And.intro (by omega) ?_ | fail)
    refine if_cond (fun h => Lf_no (fun hh => ?_)) (fun h => ?_)
    · have hh := hR.2 hh; simp_all
    have h : x_F_Kind = markText (kk + 1) := by simpa using h
    subst x_F_Kind
    repeat' (first | refine And.intro (by omega) ?_ | fail)
    by_cases hm : markValS x_F_Fields (kk + 1 + 1) = x_F_Fields
    rotate_left
    · simp only [if_neg hm]; rw [cond_yes (by decide)]
      exact Lf_no (fun hh => hm (by have hh := hR.2 hh; simp_all))
    simp only [if_pos hm]
    refine if_cond (fun h => absurd (of_decide_eq_true h) (by omega)) (fun h => ?_)
    simp only [hm] at hR
    clear hm
    exact ⟨⟨by omega, by omega, by omega, by simpa using hR⟩, by simp only [μ_laws_heldUndoS_2]; omega⟩
  · have hc : a.length ≤ i := by have hc := of_decide_eq_false hc; omega
    rw [drop_end a hc] at hR
    exact Lf_yes (hR.1 rfl) (by rw [hkk, ct_done _ _ hc]; rfl)
end
end AM
