/- Functions of the program with their contracts: put together by gen/link.py for FnExactInstNew. -/
import Derived.Test.YtdpgbnahacdkeaaAmLib
import Derived.Test.YtdpgbnahacdkeaaAmModels
namespace AM
open Go
set_option linter.unusedVariables false
set_option linter.unusedSimpArgs false
set_option maxRecDepth 100000
noncomputable section
def smallB (b : Int) : Bool := decide (97 ≤ b ∧ b ≤ 122)
def wordB (b : Int) : Bool := smallB b || decide (48 ≤ b ∧ b ≤ 57) || decide (b = 95)
def wordS (s : ByteArray) : Bool := (bs s).all (byteP wordB)
def nameOk (s : ByteArray) : Bool := decide (1 ≤ s.size ∧ s.size ≤ 12) && smallB (List.getD (bs s) 0 0).toNat && wordS s
def valOk (v : DVal) : Bool := bif decide (v.K = 1) then decide (-1000000000 ≤ v.N ∧ v.N ≤ 1000000000) && decide (v.S = noBytes) else bif decide (v.K = 2) then decide (v.N = 0) && decide (v.S.size ≤ 20) && wordS v.S else false
def factOk (f : DFact) : Bool := nameOk f.Kind && decide (f.Fields.length ≤ 5) && f.Fields.all valOk
def con_impl_inRange : Con UU where
  α := Int × Int × Int
  md := [.ro, .ro, .ro]
  of := fun | [.one (.lit (.int .i64 a0)), .one (.lit (.int .i64 a1)), .one (.lit (.int .i64 a2))] => some (a0, a1, a2) | _ => none
  ds := fun (n, least, most) => [.one (.lit (.int .i64 n)), .one (.lit (.int .i64 least)), .one (.lit (.int .i64 most))]
  pre := fun (n, least, most) => []
  res := fun (n, least, most) => ⟨[.one (.lit (.bool (decide (least ≤ n ∧ n ≤ most))))], true, []⟩
  law := by intro l x h; (try simp only at h); split at h <;> cases h; rfl
def ann_impl_inRange : con_impl_inRange.α → Nat → Option (Ann UU) := fun (n, least, most) => annL []
def use_impl_inRange : List (FuncId × Con UU) := []
theorem vc_impl_inRange (n : Int) (least : Int) (most : Int) : goal EE use_impl_inRange Go.Proofs.Try.f146 con_impl_inRange ann_impl_inRange (n, least, most) = (bif decide (n ≥ least) then Lf [DV.one (Cell.lit (Value.bool (decide (n ≤ most))))] [DV.one (Cell.lit (Value.bool (decide (least ≤ n ∧ n ≤ most))))] else Lf [DV.one (Cell.lit (Value.bool false))] [DV.one (Cell.lit (Value.bool (decide (least ≤ n ∧ n ≤ most))))]) := by kernel_rfl
theorem ok_impl_inRange : Holds EE (146, con_impl_inRange) := by
  refine holds_of EE_ok Go.Proofs.Try.func146 con_impl_inRange (by kernel_rfl) rfl use_impl_inRange all_nil ann_impl_inRange (fun x hp hb => ?_)
  obtain ⟨n, least, most⟩ := x
  have hb_n : BdDV (U := UU) (.one (.lit (.int .i64 n))) := hb _ (List.mem_cons_self)
  have hl_n := Bd.i64 hb_n
  have hb_least : BdDV (U := UU) (.one (.lit (.int .i64 least))) := hb _ (List.mem_cons_of_mem _ (List.mem_cons_self))
  have hl_least := Bd.i64 hb_least
  have hb_most : BdDV (U := UU) (.one (.lit (.int .i64 most))) := hb _ (List.mem_cons_of_mem _ (List.mem_cons_of_mem _ (List.mem_cons_self)))
  have hl_most := Bd.i64 hb_most
  clear hp hb
  rw [vc_impl_inRange n least most]
  refine if_cond (fun h => Lf_b ?_) (fun h => Lf_b ?_) <;> grind
def con_spec_l1In : Con UU where
  α := Int × Int × Int
  md := [.ro, .ro, .ro]
  of := fun | [.one (.lit (.int .i64 a0)), .one (.lit (.int .i64 a1)), .one (.lit (.int .i64 a2))] => some (a0, a1, a2) | _ => none
  ds := fun (x, least, most) => [.one (.lit (.int .i64 x)), .one (.lit (.int .i64 least)), .one (.lit (.int .i64 most))]
  pre := fun (x, least, most) => []
  res := fun (x, least, most) => ⟨[.one (.lit (.bool (decide (least ≤ x ∧ x ≤ most))))], true, []⟩
  law := by intro l x h; (try simp only at h); split at h <;> cases h; rfl
def ann_spec_l1In : con_spec_l1In.α → Nat → Option (Ann UU) := fun (x, least, most) => annL []
def use_spec_l1In : List (FuncId × Con UU) := []
theorem vc_spec_l1In (x : Int) (least : Int) (most : Int) : goal EE use_spec_l1In Go.Proofs.Try.f69 con_spec_l1In ann_spec_l1In (x, least, most) = (bif decide (x ≥ least) then Lf [DV.one (Cell.lit (Value.bool (decide (x ≤ most))))] [DV.one (Cell.lit (Value.bool (decide (least ≤ x ∧ x ≤ most))))] else Lf [DV.one (Cell.lit (Value.bool false))] [DV.one (Cell.lit (Value.bool (decide (least ≤ x ∧ x ≤ most))))]) := by kernel_rfl
theorem ok_spec_l1In : Holds EE (69, con_spec_l1In) := by
  refine holds_of EE_ok Go.Proofs.Try.func69 con_spec_l1In (by kernel_rfl) rfl use_spec_l1In all_nil ann_spec_l1In (fun x hp hb => ?_)
  obtain ⟨x, least, most⟩ := x
  have hb_x : BdDV (U := UU) (.one (.lit (.int .i64 x))) := hb _ (List.mem_cons_self)
  have hl_x := Bd.i64 hb_x
  have hb_least : BdDV (U := UU) (.one (.lit (.int .i64 least))) := hb _ (List.mem_cons_of_mem _ (List.mem_cons_self))
  have hl_least := Bd.i64 hb_least
  have hb_most : BdDV (U := UU) (.one (.lit (.int .i64 most))) := hb _ (List.mem_cons_of_mem _ (List.mem_cons_of_mem _ (List.mem_cons_self)))
  have hl_most := Bd.i64 hb_most
  clear hp hb
  rw [vc_spec_l1In x least most]
  refine if_cond (fun h => Lf_b ?_) (fun h => Lf_b ?_) <;> grind
def con_laws_markText : Con UU where
  α := Int
  md := [.ro]
  of := fun | [.one (.lit (.int .i64 a0))] => some a0 | _ => none
  ds := fun k => [.one (.lit (.int .i64 k))]
  pre := fun k => [k ≤ 4611686018427387903]
  res := fun k => ⟨[.one (.lit (.string (markText k)))], true, []⟩
  law := by intro l x h; (try simp only at h); split at h <;> cases h; rfl
def I_laws_markText_4 (k : Int) : Int × ByteArray × Unit → Prop := fun (j, out, _) => 0 ≤ j ∧ j ≤ k ∧ (∃ l d, out = ⟨l.toArray⟩ ∧ j.toNat ≤ d ∧ mtl d j.toNat l = mtl k.toNat k.toNat [] ∧ l.length ≤ k - j)
def μ_laws_markText_4 (k : Int) : Int × ByteArray × Unit → Nat := fun (j, out, _) => j.toNat
def ann_laws_markText : con_laws_markText.α → Nat → Option (Ann UU) := fun k => annL [(4, annOf [.slot 0 (0, 1024) (.lit (.int .i64)), .slot 3 (3, 1024) (.lit .str)] (fun _ => I_laws_markText_4 k) (μ_laws_markText_4 k))]
def use_laws_markText : List (FuncId × Con UU) := []
theorem vc_laws_markText (k : Int) : goal EE use_laws_markText Go.Proofs.Try.f89 con_laws_markText ann_laws_markText k = (bif decide (k ≤ (0 : Int)) then Lf [DV.one (Cell.lit (Value.string { data := #[(109 : UInt8), (48 : UInt8)] : ByteArray }))] [DV.one (Cell.lit (Value.string (markText k)))]
else
  I_laws_markText_4 k (k, { data := #[] : ByteArray }, PUnit.unit) ∧
    ∀ (y : Int × ByteArray × PUnit),
      let x0 : Nat := ByteArray.size y.2.1;
      let x1 : ByteArray := strOfNums (List.map (fun (x : Cd.T Cd.byte) => x) [IntKind.wrap IntKind.u8 (IntKind.wrap IntKind.i64 ((48 : Int) + Int.tmod y.1 (10 : Int)))]);
      I_laws_markText_4 k y → bif decide (y.1 > (0 : Int)) then (10 : Int) ≠ (0 : Int) ∧ ByteArray.size x1 + x0 ≤ (4611686018427387904 : Nat) ∧ (10 : Int) ≠ (0 : Int) ∧ I_laws_markText_4 k (IntKind.wrap IntKind.i64 (Int.tdiv y.1 (10 : Int)), x1 ++ y.2.1, PUnit.unit) ∧ μ_laws_markText_4 k (IntKind.wrap IntKind.i64 (Int.tdiv y.1 (10 : Int)), x1 ++ y.2.1, PUnit.unit) < μ_laws_markText_4 k y else ByteArray.size { data := #[(109 : UInt8)] : ByteArray } + x0 ≤ (4611686018427387904 : Nat) ∧ Lf [DV.one (Cell.lit (Value.string ({ data := #[(109 : UInt8)] : ByteArray } ++ y.2.1)))] [DV.one (Cell.lit (Value.string (markText k)))]) := by kernel_rfl
theorem ok_laws_markText : Holds EE (89, con_laws_markText) := by
  refine holds_of EE_ok Go.Proofs.Try.func89 con_laws_markText (by kernel_rfl) rfl use_laws_markText all_nil ann_laws_markText (fun (k : Int) hp hb => ?_)
  have hb_k : BdDV (U := UU) (.one (.lit (.int .i64 k))) := hb _ (List.mem_cons_self)
  have hl_k := Bd.i64 hb_k
  have hp0 : k ≤ 4611686018427387903 := hp _ (List.mem_cons_self)
  clear hp hb
  rw [vc_laws_markText k]
  dsimp only
  refine if_cond (fun h => Lf_s ?_) (fun h => ?_)
  · have h := of_decide_eq_true h; simp only [markText]; rw [if_pos h]
  have h0 := of_decide_eq_false h
  refine ⟨⟨by omega, by omega, [], k.toNat, rfl, Nat.le_refl _, rfl, by simp⟩, ?_⟩
  rintro ⟨j, out, ⟨⟩⟩ ⟨h1, h2, l, d, rfl, hd, hm, hl⟩
  simp only
  have hz : ∀ l : List UInt8, (ByteArray.mk l.toArray).size = l.length := fun l => by simp [ByteArray.size]
  refine if_cond (fun h => ?_) (fun h => ?_)
  · have h := of_decide_eq_true h
    have ht : Int.tmod j 10 = j % 10 := Int.tmod_eq_emod_of_nonneg h1
    have hq : Int.tdiv j 10 = j / 10 := Int.tdiv_eq_ediv_of_nonneg h1
    have hu : IntKind.wrap .u8 (48 + j % 10) = 48 + j % 10 := by simp only [IntKind.wrap]; simp [IntKind.bits, IntKind.signed]; omega
    rw [ht, hq, wrap_i64 (by omega) (by omega), wrap_i64 (by omega) (by omega), hu]
    have hs : ∀ l : List UInt8, strOfNums (List.map (fun (x : Int) => x) [48 + j % 10]) ++ (⟨l.toArray⟩ : ByteArray) = ⟨((UInt8.ofNat (48 + j.toNat % 10)) :: l).toArray⟩ := fun l => by
      have e : (48 + j % 10).toNat = 48 + j.toNat % 10 := by omega
      simp only [strOfNums, List.map_cons, List.map_nil, e]
      apply ByteArray.ext
      simp
    have hs1 : (strOfNums (List.map (fun (x : Int) => x) [48 + j % 10])).size = 1 := rfl
    refine ⟨by omega, by erw [hs1]; rw [hz]; omega, by omega, ⟨by omega, by omega, _, d - 1, hs l, by omega, ?_, by simp only [List.length_cons]; omega⟩, by simp only [μ_laws_markText_4]; omega⟩
    rw [← hm]
    obtain ⟨d, rfl⟩ : ∃ e, d = e + 1 := ⟨d - 1, by omega⟩
    have e : (j / 10).toNat = j.toNat / 10 := by omega
    rw [e]
    simp only [Nat.add_sub_cancel, mtl]
    rw [if_neg (by omega)]
  · have h := of_decide_eq_false h
    have hj : j.toNat = 0 := by omega
    rw [hj, mtl_zero] at hm
    refine ⟨by rw [hz]; simp [ByteArray.size]; omega, Lf_s ?_⟩
    simp only [markText]
    rw [if_neg h0, ← hm]
    apply ByteArray.ext
    simp
def con_laws_eqIntS : Con UU where
  α := (List Int) × (List Int)
  md := [.ro, .ro]
  of := fun | [.one (.sl .int a0), .one (.sl .int a1)] => some (a0, a1) | _ => none
  ds := fun (a, b) => [.one (.sl .int a), .one (.sl .int b)]
  pre := fun (a, b) => []
  res := fun (a, b) => ⟨[.one (.lit (.bool (decide (a = b))))], true, []⟩
  law := by intro l x h; (try simp only at h); split at h <;> cases h; rfl
def I_laws_eqIntS_4 (a : (List Int)) (b : (List Int)) : Int × Unit → Prop := fun (i, _) => 0 ≤ i ∧ i ≤ a.length ∧ a.length = b.length ∧ (a.drop i.toNat = b.drop i.toNat ↔ a = b)
def μ_laws_eqIntS_4 (a : (List Int)) (b : (List Int)) : Int × Unit → Nat := fun (i, _) => a.length - i.toNat
def ann_laws_eqIntS : con_laws_eqIntS.α → Nat → Option (Ann UU) := fun (a, b) => annL [(4, annOf [.slot 5 (5, 1024) (.lit (.int .i64))] (fun _ => I_laws_eqIntS_4 a b) (μ_laws_eqIntS_4 a b))]
def use_laws_eqIntS : List (FuncId × Con UU) := []
theorem vc_laws_eqIntS (a : (List Int)) (b : (List Int)) : goal EE use_laws_eqIntS Go.Proofs.Try.f184 con_laws_eqIntS ann_laws_eqIntS (a, b) = (bif (↑(List.length a) : Int) != (↑(List.length b) : Int) then Lf [DV.one (Cell.lit (Value.bool false))] [DV.one (Cell.lit (Value.bool (decide (a = b))))] else I_laws_eqIntS_4 a b ((0 : Int), PUnit.unit) ∧ ∀ (y : Int × PUnit), I_laws_eqIntS_4 a b y → bif decide (y.1 < (↑(List.length a) : Int)) then (0 : Int) ≤ y.1 ∧ Int.toNat y.1 < List.length a ∧ (0 : Int) ≤ y.1 ∧ Int.toNat y.1 < List.length b ∧ bif List.getD a (Int.toNat y.1) (0 : Int) != List.getD b (Int.toNat y.1) (0 : Int) then Lf [DV.one (Cell.lit (Value.bool false))] [DV.one (Cell.lit (Value.bool (decide (a = b))))] else I_laws_eqIntS_4 a b (IntKind.wrap IntKind.i64 (y.1 + (1 : Int)), PUnit.unit) ∧ μ_laws_eqIntS_4 a b (IntKind.wrap IntKind.i64 (y.1 + (1 : Int)), PUnit.unit) < μ_laws_eqIntS_4 a b y else Lf [DV.one (Cell.lit (Value.bool true))] [DV.one (Cell.lit (Value.bool (decide (a = b))))]) := by kernel_rfl
theorem ok_laws_eqIntS : Holds EE (184, con_laws_eqIntS) := by
  refine holds_of EE_ok Go.Proofs.Try.func184 con_laws_eqIntS (by kernel_rfl) rfl use_laws_eqIntS all_nil ann_laws_eqIntS (fun x hp hb => ?_)
  obtain ⟨a, b⟩ := x
  have hb_a : BdDV (U := UU) (.one (.sl .int a)) := hb _ (List.mem_cons_self)
  have hl_a : a.length ≤ 9223372036854775807 := Bd.len hb_a
  have hb_b : BdDV (U := UU) (.one (.sl .int b)) := hb _ (List.mem_cons_of_mem _ (List.mem_cons_self))
  have hl_b : b.length ≤ 9223372036854775807 := Bd.len hb_b
  clear hp hb
  rw [vc_laws_eqIntS a b]
  refine if_cond (fun h => Lf_f ?_) (fun h => ⟨?_, ?_⟩)
  · rintro rfl; simp at h
  · simp [I_laws_eqIntS_4] at *; omega
  rintro ⟨i, ⟨⟩⟩ ⟨h1, h2, h3, hR⟩
  simp only at *
  refine if_cond (fun hc => ?_) (fun hc => ?_)
  · have hc : i < a.length := by simpa using hc
    rw [drop_step a (0 : Int) h1 hc, drop_step b (0 : Int) h1 (by omega)] at hR
    rw [wrap_i64 (by omega) (by omega)]
    refine ⟨by omega, by omega, by omega, by omega, if_cond (fun h => Lf_f ?_) (fun h => ⟨⟨by omega, by omega, h3, ?_⟩, ?_⟩)⟩
    · rw [← hR]; simp at h; simp [h]
    · rw [← hR]; simp at h; simp [h]
    · simp only [μ_laws_eqIntS_4]; omega
  · have hc : a.length ≤ i := by simpa using hc
    rw [drop_end a hc, drop_end b (by omega)] at hR
    exact Lf_t (hR.1 rfl)
def con_laws_markIntS : Con UU where
  α := (List Int) × Int
  md := [.wr, .ro]
  of := fun | [.one (.sl .int a0), .one (.lit (.int .i64 a1))] => some (a0, a1) | _ => none
  ds := fun (a, k) => [.one (.sl .int a), .one (.lit (.int .i64 k))]
  pre := fun (a, k) => [0 ≤ k, k + cntIntS a ≤ 4611686018427387904]
  res := fun (a, k) => ⟨[.one (.lit (.int .i64 (k + cntIntS a)))], true, [.one (.sl .int (markIntS a k))]⟩
  law := by intro l x h; (try simp only at h); split at h <;> cases h; rfl
def I_laws_markIntS_2 (a : (List Int)) (k : Int) : List Int × Int × Int × Unit → Prop := fun (row, kk, i, _) => 0 ≤ i ∧ i ≤ a.length ∧ row = (mkS (fun _ k => k) (fun _ => 1) a k).take i.toNat ++ a.drop i.toNat ∧ kk = k + ctS (fun _ => 1) (a.take i.toNat)
def μ_laws_markIntS_2 (a : (List Int)) (k : Int) : List Int × Int × Int × Unit → Nat := fun (row, kk, i, _) => a.length - i.toNat
def ann_laws_markIntS : con_laws_markIntS.α → Nat → Option (Ann UU) := fun (a, k) => annL [(2, annOf [.slot 0 (2000000, 0) (.own .int true), .slot 1 (1, 1024) (.lit (.int .i64)), .slot 5 (5, 1024) (.lit (.int .i64))] (fun _ => I_laws_markIntS_2 a k) (μ_laws_markIntS_2 a k))]
def use_laws_markIntS : List (FuncId × Con UU) := []
theorem vc_laws_markIntS (a : (List Int)) (k : Int) : goal EE use_laws_markIntS Go.Proofs.Try.f164 con_laws_markIntS ann_laws_markIntS (a, k) = (I_laws_markIntS_2 a k (a, k, (0 : Int), PUnit.unit) ∧
  ∀ (y : List Int × Int × Int × PUnit),
    let x0 : Nat := Int.toNat y.2.2.1;
    I_laws_markIntS_2 a k y → bif decide (y.2.2.1 < (↑(List.length y.1) : Int)) then (0 : Int) ≤ y.2.2.1 ∧ x0 < List.length y.1 ∧ x0 < List.length y.1 ∧ I_laws_markIntS_2 a k (List.set y.1 x0 y.2.1, IntKind.wrap IntKind.i64 (y.2.1 + (1 : Int)), IntKind.wrap IntKind.i64 (y.2.2.1 + (1 : Int)), PUnit.unit) ∧ μ_laws_markIntS_2 a k (List.set y.1 x0 y.2.1, IntKind.wrap IntKind.i64 (y.2.1 + (1 : Int)), IntKind.wrap IntKind.i64 (y.2.2.1 + (1 : Int)), PUnit.unit) < μ_laws_markIntS_2 a k y else asD [DV.one (Cell.lit (Value.int IntKind.i64 y.2.1))] = asD [DV.one (Cell.lit (Value.int IntKind.i64 (k + (↑(cntIntS a) : Int))))] ∧ asD [DV.one (Cell.sl Cd.int y.1)] = asD [DV.one (Cell.sl Cd.int (markIntS a k))]) := by kernel_rfl
theorem ok_laws_markIntS : Holds EE (164, con_laws_markIntS) := by
  refine holds_of EE_ok Go.Proofs.Try.func164 con_laws_markIntS (by kernel_rfl) rfl use_laws_markIntS all_nil ann_laws_markIntS (fun x hp hb => ?_)
  obtain ⟨a, k⟩ := x
  have hb_a : BdDV (U := UU) (.one (.sl .int a)) := hb _ (List.mem_cons_self)
  have hl_a : a.length ≤ 9223372036854775807 := Bd.len hb_a
  have hb_k : BdDV (U := UU) (.one (.lit (.int .i64 k))) := hb _ (List.mem_cons_of_mem _ (List.mem_cons_self))
  have hl_k := Bd.i64 hb_k
  have hp0 : 0 ≤ k := hp _ (List.mem_cons_self)
  have hp1 : k + cntIntS a ≤ 4611686018427387904 := hp _ (List.mem_cons_of_mem _ (List.mem_cons_self))
  clear hp hb
  rw [vc_laws_markIntS a k]
  dsimp only
  refine ⟨⟨by omega, by omega, by simp, by simp [ctS]⟩, ?_⟩
  rintro ⟨row, kk, i, ⟨⟩⟩ ⟨h1, h2, rfl, rfl⟩
  simp only
  have hl := mk_rl (fun _ k => k) (fun _ => 1) a k h1 h2
  refine if_cond (fun hc => ?_) (fun hc => ?_)
  · have hc : i < a.length := by have hc := of_decide_eq_true hc; omega
    have hct := ctS_take (fun _ => 1) a (0 : Int) h1 hc
    have hle := ctS_take_le (fun _ => 1) a (i + 1).toNat
    have hg := mk_getD _ a (0 : Int) (mk_tl (fun _ k => k) (fun _ => 1) a k h1 h2) h1 hc
    have hM := mkS_step (fun _ k => k) (fun _ => 1) a (0 : Int) k h1 hc
    have hq : (cntIntS a : Int) = ctS (fun _ => 1) a := rfl
    generalize List.getD a i.toNat (0 : Int) = x at *
    generalize hkk : k + (ctS (fun _ => 1) (a.take i.toNat) : Int) = kk at *
    generalize List.take i.toNat (mkS (fun _ k => k) (fun _ => 1) a k) ++ List.drop i.toNat a = R at *
    simp (disch := first | omega | (simp only [List.length_modify]; omega)) only [List.length_modify, wrap_i64, getD_modify, modify_modify, hg, hl]
    repeat' (first | refine And.intro (by omega) ?_ | fail)
    exact ⟨⟨by omega, by omega, hM, by omega⟩, by simp only [μ_laws_markIntS_2]; omega⟩
  · have hc : a.length ≤ i := by have hc := of_decide_eq_false hc; omega
    rw [mk_done (fun _ k => k) (fun _ => 1) a k hc, ct_done (fun _ => 1) a hc]
    exact ⟨rfl, rfl⟩
def con_laws_heldIntS : Con UU where
  α := (List Int) × Int
  md := [.ro, .ro]
  of := fun | [.one (.sl .int a0), .one (.lit (.int .i64 a1))] => some (a0, a1) | _ => none
  ds := fun (a, k) => [.one (.sl .int a), .one (.lit (.int .i64 k))]
  pre := fun (a, k) => [0 ≤ k, k + cntIntS a ≤ 4611686018427387904]
  res := fun (a, k) => ⟨[.one (.lit (.int .i64 (if markIntS a k = a then k + cntIntS a else -1)))], true, []⟩
  law := by intro l x h; (try simp only at h); split at h <;> cases h; rfl
def I_laws_heldIntS_2 (a : (List Int)) (k : Int) : Int × Int × Unit → Prop := fun (kk, i, _) => 0 ≤ i ∧ i ≤ a.length ∧ kk = k + ctS (fun _ => 1) (a.take i.toNat) ∧ (mkS (fun _ k => k) (fun _ => 1) (a.drop i.toNat) kk = a.drop i.toNat ↔ mkS (fun _ k => k) (fun _ => 1) a k = a)
def μ_laws_heldIntS_2 (a : (List Int)) (k : Int) : Int × Int × Unit → Nat := fun (kk, i, _) => a.length - i.toNat
def ann_laws_heldIntS : con_laws_heldIntS.α → Nat → Option (Ann UU) := fun (a, k) => annL [(2, annOf [.slot 1 (1, 1024) (.lit (.int .i64)), .slot 5 (5, 1024) (.lit (.int .i64))] (fun _ => I_laws_heldIntS_2 a k) (μ_laws_heldIntS_2 a k))]
def use_laws_heldIntS : List (FuncId × Con UU) := []
theorem vc_laws_heldIntS (a : (List Int)) (k : Int) : goal EE use_laws_heldIntS Go.Proofs.Try.f167 con_laws_heldIntS ann_laws_heldIntS (a, k) = (I_laws_heldIntS_2 a k (k, (0 : Int), PUnit.unit) ∧
  ∀ (y : Int × Int × PUnit),
    let x0 : Nat := Int.toNat y.2.1;
    I_laws_heldIntS_2 a k y → bif decide (y.2.1 < (↑(List.length a) : Int)) then (0 : Int) ≤ y.2.1 ∧ x0 < List.length a ∧ bif List.getD a x0 (0 : Int) != y.1 then Lf [DV.one (Cell.lit (Value.int IntKind.i64 (-1 : Int)))] [DV.one (Cell.lit (Value.int IntKind.i64 (if markIntS a k = a then k + (↑(cntIntS a) : Int) else (-1 : Int))))] else I_laws_heldIntS_2 a k (IntKind.wrap IntKind.i64 (y.1 + (1 : Int)), IntKind.wrap IntKind.i64 (y.2.1 + (1 : Int)), PUnit.unit) ∧ μ_laws_heldIntS_2 a k (IntKind.wrap IntKind.i64 (y.1 + (1 : Int)), IntKind.wrap IntKind.i64 (y.2.1 + (1 : Int)), PUnit.unit) < μ_laws_heldIntS_2 a k y else Lf [DV.one (Cell.lit (Value.int IntKind.i64 y.1))] [DV.one (Cell.lit (Value.int IntKind.i64 (if markIntS a k = a then k + (↑(cntIntS a) : Int) else (-1 : Int))))]) := by kernel_rfl
theorem ok_laws_heldIntS : Holds EE (167, con_laws_heldIntS) := by
  refine holds_of EE_ok Go.Proofs.Try.func167 con_laws_heldIntS (by kernel_rfl) rfl use_laws_heldIntS all_nil ann_laws_heldIntS (fun x hp hb => ?_)
  obtain ⟨a, k⟩ := x
  have hb_a : BdDV (U := UU) (.one (.sl .int a)) := hb _ (List.mem_cons_self)
  have hl_a : a.length ≤ 9223372036854775807 := Bd.len hb_a
  have hb_k : BdDV (U := UU) (.one (.lit (.int .i64 k))) := hb _ (List.mem_cons_of_mem _ (List.mem_cons_self))
  have hl_k := Bd.i64 hb_k
  have hp0 : 0 ≤ k := hp _ (List.mem_cons_self)
  have hp1 : k + cntIntS a ≤ 4611686018427387904 := hp _ (List.mem_cons_of_mem _ (List.mem_cons_self))
  clear hp hb
  rw [vc_laws_heldIntS a k]
  dsimp only
  refine ⟨⟨by omega, by omega, by simp [ctS], by simp⟩, ?_⟩
  rintro ⟨kk, i, ⟨⟩⟩ ⟨h1, h2, hkk, hR⟩
  simp only
  simp only [markIntS]
  refine if_cond (fun hc => ?_) (fun hc => ?_)
  · have hc : i < a.length := by have hc := of_decide_eq_true hc; omega
    have hct := ctS_take (fun _ => 1) a (0 : Int) h1 hc
    have hle := ctS_take_le (fun _ => 1) a (i + 1).toNat
    have hq : (cntIntS a : Int) = ctS (fun _ => 1) a := rfl
    rw [drop_step a (0 : Int) h1 hc] at hR
    generalize List.getD a i.toNat (0 : Int) = x at *
    simp only [mkS, List.cons.injEq] at hR
    have e : kk + (((1 : Nat) : Int) : Int) = kk + 1 := by rfl
    rw [e] at hR
    skip
    simp (disch := omega) only [wrap_i64, bne_int, toList_beq]
    repeat' (first | refine And.intro (by omega) ?_ | fail)
    refine if_cond (fun h => Lf_no (fun hh => ?_)) (fun h => ?_)
    · have hh := hR.2 hh; simp_all
    have h : x = kk := by simpa using h
    subst x
    exact ⟨⟨by omega, by omega, by omega, by simpa using hR⟩, by simp only [μ_laws_heldIntS_2]; omega⟩
  · have hc : a.length ≤ i := by have hc := of_decide_eq_false hc; omega
    rw [drop_end a hc] at hR
    exact Lf_yes (hR.1 rfl) (by rw [hkk, ct_done _ _ hc]; rfl)
def con_laws_eqVal : Con UU where
  α := DVal × DVal
  md := [.ro, .ro]
  of := fun | [.agg [.lit (.int .i64 a0), .lit (.int .i64 a1), .lit (.string a2)], .agg [.lit (.int .i64 a3), .lit (.int .i64 a4), .lit (.string a5)]] => some (⟨a0, a1, a2⟩, ⟨a3, a4, a5⟩) | _ => none
  ds := fun (a, b) => [.agg [.lit (.int .i64 a.K), .lit (.int .i64 a.N), .lit (.string a.S)], .agg [.lit (.int .i64 b.K), .lit (.int .i64 b.N), .lit (.string b.S)]]
  pre := fun (a, b) => []
  res := fun (a, b) => ⟨[.one (.lit (.bool (decide (a = b))))], true, []⟩
  law := by intro l x h; (try simp only at h); split at h <;> cases h; rfl
def ann_laws_eqVal : con_laws_eqVal.α → Nat → Option (Ann UU) := fun (a, b) => annL []
def use_laws_eqVal : List (FuncId × Con UU) := []
theorem vc_laws_eqVal (a : DVal) (b : DVal) : goal EE use_laws_eqVal Go.Proofs.Try.f82 con_laws_eqVal ann_laws_eqVal (a, b) = (bif a.K != b.K then Lf [DV.one (Cell.lit (Value.bool false))] [DV.one (Cell.lit (Value.bool (decide (a = b))))] else bif a.N != b.N then Lf [DV.one (Cell.lit (Value.bool false))] [DV.one (Cell.lit (Value.bool (decide (a = b))))] else bif !ByteArray.toList a.S == ByteArray.toList b.S then Lf [DV.one (Cell.lit (Value.bool false))] [DV.one (Cell.lit (Value.bool (decide (a = b))))] else Lf [DV.one (Cell.lit (Value.bool true))] [DV.one (Cell.lit (Value.bool (decide (a = b))))]) := by kernel_rfl
theorem ok_laws_eqVal : Holds EE (82, con_laws_eqVal) := by
  refine holds_of EE_ok Go.Proofs.Try.func82 con_laws_eqVal (by kernel_rfl) rfl use_laws_eqVal all_nil ann_laws_eqVal (fun x hp hb => ?_)
  obtain ⟨a, b⟩ := x
  have hb_a : BdDV (U := UU) (.agg [.lit (.int .i64 a.K), .lit (.int .i64 a.N), .lit (.string a.S)]) := hb _ (List.mem_cons_self)
  have hl_a_S : a.S.size ≤ 9223372036854775807 := Bd.str (hb_a _ (by simp))
  have hb_b : BdDV (U := UU) (.agg [.lit (.int .i64 b.K), .lit (.int .i64 b.N), .lit (.string b.S)]) := hb _ (List.mem_cons_of_mem _ (List.mem_cons_self))
  have hl_b_S : b.S.size ≤ 9223372036854775807 := Bd.str (hb_b _ (by simp))
  clear hp hb
  rw [vc_laws_eqVal a b]
  obtain ⟨aK, aN, aS⟩ := a
  obtain ⟨bK, bN, bS⟩ := b
  repeat' (apply if_cond <;> intro _)
  all_goals (first | apply Lf_t | apply Lf_f) <;> simp_all
def con_laws_eqValS : Con UU where
  α := (List DVal) × (List DVal)
  md := [.ro, .ro]
  of := fun | [.one (.sl .eVal a0), .one (.sl .eVal a1)] => some (a0, a1) | _ => none
  ds := fun (a, b) => [.one (.sl .eVal a), .one (.sl .eVal b)]
  pre := fun (a, b) => []
  res := fun (a, b) => ⟨[.one (.lit (.bool (decide (a = b))))], true, []⟩
  law := by intro l x h; (try simp only at h); split at h <;> cases h; rfl
def I_laws_eqValS_4 (a : (List DVal)) (b : (List DVal)) : Int × Unit → Prop := fun (i, _) => 0 ≤ i ∧ i ≤ a.length ∧ a.length = b.length ∧ (a.drop i.toNat = b.drop i.toNat ↔ a = b)
def μ_laws_eqValS_4 (a : (List DVal)) (b : (List DVal)) : Int × Unit → Nat := fun (i, _) => a.length - i.toNat
def ann_laws_eqValS : con_laws_eqValS.α → Nat → Option (Ann UU) := fun (a, b) => annL [(4, annOf [.slot 5 (5, 1024) (.lit (.int .i64))] (fun _ => I_laws_eqValS_4 a b) (μ_laws_eqValS_4 a b))]
def use_laws_eqValS : List (FuncId × Con UU) := [(82, con_laws_eqVal)]
theorem vc_laws_eqValS (a : (List DVal)) (b : (List DVal)) : goal EE use_laws_eqValS Go.Proofs.Try.f120 con_laws_eqValS ann_laws_eqValS (a, b) = (bif (↑(List.length a) : Int) != (↑(List.length b) : Int) then Lf [DV.one (Cell.lit (Value.bool false))] [DV.one (Cell.lit (Value.bool (decide (a = b))))] else I_laws_eqValS_4 a b ((0 : Int), PUnit.unit) ∧ ∀ (y : Int × PUnit), I_laws_eqValS_4 a b y → bif decide (y.1 < (↑(List.length a) : Int)) then (0 : Int) ≤ y.1 ∧ Int.toNat y.1 < List.length a ∧ (0 : Int) ≤ y.1 ∧ Int.toNat y.1 < List.length b ∧ bif !decide (List.getD a (Int.toNat y.1) zVal = List.getD b (Int.toNat y.1) zVal) then Lf [DV.one (Cell.lit (Value.bool false))] [DV.one (Cell.lit (Value.bool (decide (a = b))))] else I_laws_eqValS_4 a b (IntKind.wrap IntKind.i64 (y.1 + (1 : Int)), PUnit.unit) ∧ μ_laws_eqValS_4 a b (IntKind.wrap IntKind.i64 (y.1 + (1 : Int)), PUnit.unit) < μ_laws_eqValS_4 a b y else Lf [DV.one (Cell.lit (Value.bool true))] [DV.one (Cell.lit (Value.bool (decide (a = b))))]) := by kernel_rfl
theorem ok_laws_eqValS : Holds EE (120, con_laws_eqValS) := by
  refine holds_of EE_ok Go.Proofs.Try.func120 con_laws_eqValS (by kernel_rfl) rfl use_laws_eqValS (all_cons ok_laws_eqVal all_nil) ann_laws_eqValS (fun x hp hb => ?_)
  obtain ⟨a, b⟩ := x
  have hb_a : BdDV (U := UU) (.one (.sl .eVal a)) := hb _ (List.mem_cons_self)
  have hl_a : a.length ≤ 9223372036854775807 := Bd.len hb_a
  have hb_b : BdDV (U := UU) (.one (.sl .eVal b)) := hb _ (List.mem_cons_of_mem _ (List.mem_cons_self))
  have hl_b : b.length ≤ 9223372036854775807 := Bd.len hb_b
  clear hp hb
  rw [vc_laws_eqValS a b]
  refine if_cond (fun h => Lf_f ?_) (fun h => ⟨?_, ?_⟩)
  · rintro rfl; simp at h
  · simp [I_laws_eqValS_4] at *; omega
  rintro ⟨i, ⟨⟩⟩ ⟨h1, h2, h3, hR⟩
  simp only at *
  refine if_cond (fun hc => ?_) (fun hc => ?_)
  · have hc : i < a.length := by simpa using hc
    rw [drop_step a zVal h1 hc, drop_step b zVal h1 (by omega)] at hR
    rw [wrap_i64 (by omega) (by omega)]
    refine ⟨by omega, by omega, by omega, by omega, if_cond (fun h => Lf_f ?_) (fun h => ⟨⟨by omega, by omega, h3, ?_⟩, ?_⟩)⟩
    · rw [← hR]; simp at h; simp [h]
    · rw [← hR]; simp at h; simp [h]
    · simp only [μ_laws_eqValS_4]; omega
  · have hc : a.length ≤ i := by simpa using hc
    rw [drop_end a hc, drop_end b (by omega)] at hR
    exact Lf_t (hR.1 rfl)
def con_laws_markValS : Con UU where
  α := (List DVal) × Int
  md := [.wr, .ro]
  of := fun | [.one (.sl .eVal a0), .one (.lit (.int .i64 a1))] => some (a0, a1) | _ => none
  ds := fun (a, k) => [.one (.sl .eVal a), .one (.lit (.int .i64 k))]
  pre := fun (a, k) => [0 ≤ k, k + cntValS a ≤ 4611686018427387904]
  res := fun (a, k) => ⟨[.one (.lit (.int .i64 (k + cntValS a)))], true, [.one (.sl .eVal (markValS a k))]⟩
  law := by intro l x h; (try simp only at h); split at h <;> cases h; rfl
def I_laws_markValS_2 (a : (List DVal)) (k : Int) : List DVal × Int × Int × Unit → Prop := fun (row, kk, i, _) => 0 ≤ i ∧ i ≤ a.length ∧ row = (mkS markVal cntVal a k).take i.toNat ++ a.drop i.toNat ∧ kk = k + ctS cntVal (a.take i.toNat)
def μ_laws_markValS_2 (a : (List DVal)) (k : Int) : List DVal × Int × Int × Unit → Nat := fun (row, kk, i, _) => a.length - i.toNat
def ann_laws_markValS : con_laws_markValS.α → Nat → Option (Ann UU) := fun (a, k) => annL [(2, annOf [.slot 0 (2000000, 0) (.own .eVal true), .slot 1 (1, 1024) (.lit (.int .i64)), .slot 5 (5, 1024) (.lit (.int .i64))] (fun _ => I_laws_markValS_2 a k) (μ_laws_markValS_2 a k))]
def use_laws_markValS : List (FuncId × Con UU) := [(89, con_laws_markText)]
theorem vc_laws_markValS (a : (List DVal)) (k : Int) : goal EE use_laws_markValS Go.Proofs.Try.f90 con_laws_markValS ann_laws_markValS (a, k) = (I_laws_markValS_2 a k (a, k, (0 : Int), PUnit.unit) ∧
  ∀ (y : List DVal × Int × Int × PUnit),
    let x0 : Nat := Int.toNat y.2.2.1;
    let x1 : Int := IntKind.wrap IntKind.i64 (IntKind.wrap IntKind.i64 (y.2.1 + (1 : Int)) + (1 : Int));
    let x2 : List DVal := List.modify (List.modify y.1 x0 fun (x : DVal) => { K := y.2.1, N := x.N, S := x.S : DVal }) x0 fun (x : DVal) => { K := x.K, N := IntKind.wrap IntKind.i64 (y.2.1 + (1 : Int)), S := x.S : DVal };
    I_laws_markValS_2 a k y → bif decide (y.2.2.1 < (↑(List.length y.1) : Int)) then (0 : Int) ≤ y.2.2.1 ∧ x0 < List.length y.1 ∧ x0 < List.length y.1 ∧ (0 : Int) ≤ y.2.2.1 ∧ x0 < List.length (List.modify y.1 x0 fun (x : DVal) => { K := y.2.1, N := x.N, S := x.S : DVal }) ∧ x0 < List.length (List.modify y.1 x0 fun (x : DVal) => { K := y.2.1, N := x.N, S := x.S : DVal }) ∧ x1 ≤ (4611686018427387903 : Int) ∧ (0 : Int) ≤ y.2.2.1 ∧ x0 < List.length x2 ∧ x0 < List.length x2 ∧ I_laws_markValS_2 a k (List.modify x2 x0 fun (x : DVal) => { K := x.K, N := x.N, S := markText x1 : DVal }, IntKind.wrap IntKind.i64 (x1 + (1 : Int)), IntKind.wrap IntKind.i64 (y.2.2.1 + (1 : Int)), PUnit.unit) ∧ μ_laws_markValS_2 a k (List.modify x2 x0 fun (x : DVal) => { K := x.K, N := x.N, S := markText x1 : DVal }, IntKind.wrap IntKind.i64 (x1 + (1 : Int)), IntKind.wrap IntKind.i64 (y.2.2.1 + (1 : Int)), PUnit.unit) < μ_laws_markValS_2 a k y else asD [DV.one (Cell.lit (Value.int IntKind.i64 y.2.1))] = asD [DV.one (Cell.lit (Value.int IntKind.i64 (k + (↑(cntValS a) : Int))))] ∧ asD [DV.one (Cell.sl Cd.eVal y.1)] = asD [DV.one (Cell.sl Cd.eVal (markValS a k))]) := by kernel_rfl
theorem ok_laws_markValS : Holds EE (90, con_laws_markValS) := by
  refine holds_of EE_ok Go.Proofs.Try.func90 con_laws_markValS (by kernel_rfl) rfl use_laws_markValS (all_cons ok_laws_markText all_nil) ann_laws_markValS (fun x hp hb => ?_)
  obtain ⟨a, k⟩ := x
  have hb_a : BdDV (U := UU) (.one (.sl .eVal a)) := hb _ (List.mem_cons_self)
  have hl_a : a.length ≤ 9223372036854775807 := Bd.len hb_a
  have hb_k : BdDV (U := UU) (.one (.lit (.int .i64 k))) := hb _ (List.mem_cons_of_mem _ (List.mem_cons_self))
  have hl_k := Bd.i64 hb_k
  have hp0 : 0 ≤ k := hp _ (List.mem_cons_self)
  have hp1 : k + cntValS a ≤ 4611686018427387904 := hp _ (List.mem_cons_of_mem _ (List.mem_cons_self))
  clear hp hb
  rw [vc_laws_markValS a k]
  dsimp only
  refine ⟨⟨by omega, by omega, by simp, by simp [ctS]⟩, ?_⟩
  rintro ⟨row, kk, i, ⟨⟩⟩ ⟨h1, h2, rfl, rfl⟩
  simp only
  have hl := mk_rl markVal cntVal a k h1 h2
  refine if_cond (fun hc => ?_) (fun hc => ?_)
  · have hc : i < a.length := by have hc := of_decide_eq_true hc; omega
    have hct := ctS_take cntVal a zVal h1 hc
    have hle := ctS_take_le cntVal a (i + 1).toNat
    have hg := mk_getD _ a zVal (mk_tl markVal cntVal a k h1 h2) h1 hc
    have hM := fun F hF => mkS_mod markVal cntVal a zVal k (i := i) F h1 hc hF
    have hq : (cntValS a : Int) = ctS cntVal a := rfl
    generalize List.getD a i.toNat zVal = x at *
    generalize hkk : k + (ctS cntVal (a.take i.toNat) : Int) = kk at *
    generalize List.take i.toNat (mkS markVal cntVal a k) ++ List.drop i.toNat a = R at *
    simp only [cntVal] at hct
    simp (disch := first | omega | (simp only [List.length_modify]; omega)) only [List.length_modify, wrap_i64, getD_modify, modify_modify, hg, hl]
    repeat' (first | refine And.intro (by omega) ?_ | fail)
    exact ⟨⟨by omega, by omega, hM _ rfl, by omega⟩, by simp only [μ_laws_markValS_2]; omega⟩
  · have hc : a.length ≤ i := by have hc := of_decide_eq_false hc; omega
    rw [mk_done markVal cntVal a k hc, ct_done cntVal a hc]
    exact ⟨rfl, rfl⟩
def con_laws_heldValS : Con UU where
  α := (List DVal) × Int
  md := [.ro, .ro]
  of := fun | [.one (.sl .eVal a0), .one (.lit (.int .i64 a1))] => some (a0, a1) | _ => none
  ds := fun (a, k) => [.one (.sl .eVal a), .one (.lit (.int .i64 k))]
  pre := fun (a, k) => [0 ≤ k, k + cntValS a ≤ 4611686018427387904]
  res := fun (a, k) => ⟨[.one (.lit (.int .i64 (if markValS a k = a then k + cntValS a else -1)))], true, []⟩
  law := by intro l x h; (try simp only at h); split at h <;> cases h; rfl
def I_laws_heldValS_2 (a : (List DVal)) (k : Int) : Int × Int × Unit → Prop := fun (kk, i, _) => 0 ≤ i ∧ i ≤ a.length ∧ kk = k + ctS cntVal (a.take i.toNat) ∧ (mkS markVal cntVal (a.drop i.toNat) kk = a.drop i.toNat ↔ mkS markVal cntVal a k = a)
def μ_laws_heldValS_2 (a : (List DVal)) (k : Int) : Int × Int × Unit → Nat := fun (kk, i, _) => a.length - i.toNat
def ann_laws_heldValS : con_laws_heldValS.α → Nat → Option (Ann UU) := fun (a, k) => annL [(2, annOf [.slot 1 (1, 1024) (.lit (.int .i64)), .slot 5 (5, 1024) (.lit (.int .i64))] (fun _ => I_laws_heldValS_2 a k) (μ_laws_heldValS_2 a k))]
def use_laws_heldValS : List (FuncId × Con UU) := [(89, con_laws_markText)]
theorem vc_laws_heldValS (a : (List DVal)) (k : Int) : goal EE use_laws_heldValS Go.Proofs.Try.f91 con_laws_heldValS ann_laws_heldValS (a, k) = (I_laws_heldValS_2 a k (k, (0 : Int), PUnit.unit) ∧
  ∀ (y : Int × Int × PUnit),
    let x0 : DVal := List.getD a (Int.toNat y.2.1) zVal;
    let x1 : Int := IntKind.wrap IntKind.i64 (IntKind.wrap IntKind.i64 (y.1 + (1 : Int)) + (1 : Int));
    I_laws_heldValS_2 a k y → bif decide (y.2.1 < (↑(List.length a) : Int)) then (0 : Int) ≤ y.2.1 ∧ Int.toNat y.2.1 < List.length a ∧ bif x0.K != y.1 then Lf [DV.one (Cell.lit (Value.int IntKind.i64 (-1 : Int)))] [DV.one (Cell.lit (Value.int IntKind.i64 (if markValS a k = a then k + (↑(cntValS a) : Int) else (-1 : Int))))] else (0 : Int) ≤ y.2.1 ∧ Int.toNat y.2.1 < List.length a ∧ bif x0.N != IntKind.wrap IntKind.i64 (y.1 + (1 : Int)) then Lf [DV.one (Cell.lit (Value.int IntKind.i64 (-1 : Int)))] [DV.one (Cell.lit (Value.int IntKind.i64 (if markValS a k = a then k + (↑(cntValS a) : Int) else (-1 : Int))))] else (0 : Int) ≤ y.2.1 ∧ Int.toNat y.2.1 < List.length a ∧ x1 ≤ (4611686018427387903 : Int) ∧ bif !ByteArray.toList x0.S == ByteArray.toList (markText x1) then Lf [DV.one (Cell.lit (Value.int IntKind.i64 (-1 : Int)))] [DV.one (Cell.lit (Value.int IntKind.i64 (if markValS a k = a then k + (↑(cntValS a) : Int) else (-1 : Int))))] else I_laws_heldValS_2 a k (IntKind.wrap IntKind.i64 (x1 + (1 : Int)), IntKind.wrap IntKind.i64 (y.2.1 + (1 : Int)), PUnit.unit) ∧ μ_laws_heldValS_2 a k (IntKind.wrap IntKind.i64 (x1 + (1 : Int)), IntKind.wrap IntKind.i64 (y.2.1 + (1 : Int)), PUnit.unit) < μ_laws_heldValS_2 a k y else Lf [DV.one (Cell.lit (Value.int IntKind.i64 y.1))] [DV.one (Cell.lit (Value.int IntKind.i64 (if markValS a k = a then k + (↑(cntValS a) : Int) else (-1 : Int))))]) := by kernel_rfl
theorem ok_laws_heldValS : Holds EE (91, con_laws_heldValS) := by
  refine holds_of EE_ok Go.Proofs.Try.func91 con_laws_heldValS (by kernel_rfl) rfl use_laws_heldValS (all_cons ok_laws_markText all_nil) ann_laws_heldValS (fun x hp hb => ?_)
  obtain ⟨a, k⟩ := x
  have hb_a : BdDV (U := UU) (.one (.sl .eVal a)) := hb _ (List.mem_cons_self)
  have hl_a : a.length ≤ 9223372036854775807 := Bd.len hb_a
  have hb_k : BdDV (U := UU) (.one (.lit (.int .i64 k))) := hb _ (List.mem_cons_of_mem _ (List.mem_cons_self))
  have hl_k := Bd.i64 hb_k
  have hp0 : 0 ≤ k := hp _ (List.mem_cons_self)
  have hp1 : k + cntValS a ≤ 4611686018427387904 := hp _ (List.mem_cons_of_mem _ (List.mem_cons_self))
  clear hp hb
  rw [vc_laws_heldValS a k]
  dsimp only
  refine ⟨⟨by omega, by omega, by simp [ctS], by simp⟩, ?_⟩
  rintro ⟨kk, i, ⟨⟩⟩ ⟨h1, h2, hkk, hR⟩
  simp only
  simp only [markValS]
  refine if_cond (fun hc => ?_) (fun hc => ?_)
  · have hc : i < a.length := by have hc := of_decide_eq_true hc; omega
    have hct := ctS_take cntVal a zVal h1 hc
    have hle := ctS_take_le cntVal a (i + 1).toNat
    have hq : (cntValS a : Int) = ctS cntVal a := rfl
    rw [drop_step a zVal h1 hc] at hR
    generalize List.getD a i.toNat zVal = x at *
    simp only [mkS, List.cons.injEq] at hR
    have e : kk + (cntVal x : Int) = kk + 1 + 1 + 1 := by simp only [cntVal]; omega
    rw [e] at hR
    simp only [markVal, cntVal] at hR hct
    simp (disch := omega) only [wrap_i64, bne_int, toList_beq]
    obtain ⟨x_K, x_N, x_S⟩ := x
    simp only [DVal.mk.injEq] at *
    repeat' (first | refine And.intro (by omega) ?_ | fail)
    refine if_cond (fun h => Lf_no (fun hh => ?_)) (fun h => ?_)
    · have hh := hR.2 hh; simp_all
    have h : x_K = kk := by simpa using h
    subst x_K
    repeat' (first | refine And.intro (by omega) ?_ | fail)
    refine if_cond (fun h => Lf_no (fun hh => ?_)) (fun h => ?_)
    · have hh := hR.2 hh; simp_all
    have h : x_N = kk + 1 := by simpa using h
    subst x_N
    repeat' (first | refine And.intro (by omega) ?_ | fail)
    refine if_cond (fun h => Lf_no (fun hh => ?_)) (fun h => ?_)
    · have hh := hR.2 hh; simp_all
    have h : x_S = markText (kk + 1 + 1) := by simpa using h
    subst x_S
    exact ⟨⟨by omega, by omega, by omega, by simpa using hR⟩, by simp only [μ_laws_heldValS_2]; omega⟩
  · have hc : a.length ≤ i := by have hc := of_decide_eq_false hc; omega
    rw [drop_end a hc] at hR
    exact Lf_yes (hR.1 rfl) (by rw [hkk, ct_done _ _ hc]; rfl)
def con_laws_eqFact : Con UU where
  α := DFact × DFact
  md := [.ro, .ro]
  of := fun | [.agg [.lit (.string a0), .sl .eVal a1], .agg [.lit (.string a2), .sl .eVal a3]] => some (⟨a0, a1⟩, ⟨a2, a3⟩) | _ => none
  ds := fun (a, b) => [.agg [.lit (.string a.Kind), .sl .eVal a.Fields], .agg [.lit (.string b.Kind), .sl .eVal b.Fields]]
  pre := fun (a, b) => []
  res := fun (a, b) => ⟨[.one (.lit (.bool (decide (a = b))))], true, []⟩
  law := by intro l x h; (try simp only at h); split at h <;> cases h; rfl
def ann_laws_eqFact : con_laws_eqFact.α → Nat → Option (Ann UU) := fun (a, b) => annL []
def use_laws_eqFact : List (FuncId × Con UU) := [(120, con_laws_eqValS)]
theorem vc_laws_eqFact (a : DFact) (b : DFact) : goal EE use_laws_eqFact Go.Proofs.Try.f53 con_laws_eqFact ann_laws_eqFact (a, b) = (bif !ByteArray.toList a.Kind == ByteArray.toList b.Kind then Lf [DV.one (Cell.lit (Value.bool false))] [DV.one (Cell.lit (Value.bool (decide (a = b))))] else bif !decide (a.Fields = b.Fields) then Lf [DV.one (Cell.lit (Value.bool false))] [DV.one (Cell.lit (Value.bool (decide (a = b))))] else Lf [DV.one (Cell.lit (Value.bool true))] [DV.one (Cell.lit (Value.bool (decide (a = b))))]) := by kernel_rfl
theorem ok_laws_eqFact : Holds EE (53, con_laws_eqFact) := by
  refine holds_of EE_ok Go.Proofs.Try.func53 con_laws_eqFact (by kernel_rfl) rfl use_laws_eqFact (all_cons ok_laws_eqValS all_nil) ann_laws_eqFact (fun x hp hb => ?_)
  obtain ⟨a, b⟩ := x
  have hb_a : BdDV (U := UU) (.agg [.lit (.string a.Kind), .sl .eVal a.Fields]) := hb _ (List.mem_cons_self)
  have hl_a_Kind : a.Kind.size ≤ 9223372036854775807 := Bd.str (hb_a _ (by simp))
  have hl_a_Fields : a.Fields.length ≤ 9223372036854775807 := Bd.len (U := UU) (τ := .eVal) (xs := a.Fields) (hb_a _ (by simp))
  have hb_b : BdDV (U := UU) (.agg [.lit (.string b.Kind), .sl .eVal b.Fields]) := hb _ (List.mem_cons_of_mem _ (List.mem_cons_self))
  have hl_b_Kind : b.Kind.size ≤ 9223372036854775807 := Bd.str (hb_b _ (by simp))
  have hl_b_Fields : b.Fields.length ≤ 9223372036854775807 := Bd.len (U := UU) (τ := .eVal) (xs := b.Fields) (hb_b _ (by simp))
  clear hp hb
  rw [vc_laws_eqFact a b]
  obtain ⟨aKind, aFields⟩ := a
  obtain ⟨bKind, bFields⟩ := b
  repeat' (apply if_cond <;> intro _)
  all_goals (first | apply Lf_t | apply Lf_f) <;> simp_all
def con_laws_eqTimer : Con UU where
  α := DTimer × DTimer
  md := [.ro, .ro]
  of := fun | [.agg [.lit (.int .i64 a0), .lit (.string a1), .sl .eVal a2], .agg [.lit (.int .i64 a3), .lit (.string a4), .sl .eVal a5]] => some (⟨a0, ⟨a1, a2⟩⟩, ⟨a3, ⟨a4, a5⟩⟩) | _ => none
  ds := fun (a, b) => [.agg [.lit (.int .i64 a.At), .lit (.string a.F.Kind), .sl .eVal a.F.Fields], .agg [.lit (.int .i64 b.At), .lit (.string b.F.Kind), .sl .eVal b.F.Fields]]
  pre := fun (a, b) => []
  res := fun (a, b) => ⟨[.one (.lit (.bool (decide (a = b))))], true, []⟩
  law := by intro l x h; (try simp only at h); split at h <;> cases h; rfl
def ann_laws_eqTimer : con_laws_eqTimer.α → Nat → Option (Ann UU) := fun (a, b) => annL []
def use_laws_eqTimer : List (FuncId × Con UU) := [(53, con_laws_eqFact)]
theorem vc_laws_eqTimer (a : DTimer) (b : DTimer) : goal EE use_laws_eqTimer Go.Proofs.Try.f45 con_laws_eqTimer ann_laws_eqTimer (a, b) = (bif a.At != b.At then Lf [DV.one (Cell.lit (Value.bool false))] [DV.one (Cell.lit (Value.bool (decide (a = b))))] else bif !decide (a.F = b.F) then Lf [DV.one (Cell.lit (Value.bool false))] [DV.one (Cell.lit (Value.bool (decide (a = b))))] else Lf [DV.one (Cell.lit (Value.bool true))] [DV.one (Cell.lit (Value.bool (decide (a = b))))]) := by kernel_rfl
theorem ok_laws_eqTimer : Holds EE (45, con_laws_eqTimer) := by
  refine holds_of EE_ok Go.Proofs.Try.func45 con_laws_eqTimer (by kernel_rfl) rfl use_laws_eqTimer (all_cons ok_laws_eqFact all_nil) ann_laws_eqTimer (fun x hp hb => ?_)
  obtain ⟨a, b⟩ := x
  have hb_a : BdDV (U := UU) (.agg [.lit (.int .i64 a.At), .lit (.string a.F.Kind), .sl .eVal a.F.Fields]) := hb _ (List.mem_cons_self)
  have hl_a_F_Kind : a.F.Kind.size ≤ 9223372036854775807 := Bd.str (hb_a _ (by simp))
  have hl_a_F_Fields : a.F.Fields.length ≤ 9223372036854775807 := Bd.len (U := UU) (τ := .eVal) (xs := a.F.Fields) (hb_a _ (by simp))
  have hb_b : BdDV (U := UU) (.agg [.lit (.int .i64 b.At), .lit (.string b.F.Kind), .sl .eVal b.F.Fields]) := hb _ (List.mem_cons_of_mem _ (List.mem_cons_self))
  have hl_b_F_Kind : b.F.Kind.size ≤ 9223372036854775807 := Bd.str (hb_b _ (by simp))
  have hl_b_F_Fields : b.F.Fields.length ≤ 9223372036854775807 := Bd.len (U := UU) (τ := .eVal) (xs := b.F.Fields) (hb_b _ (by simp))
  clear hp hb
  rw [vc_laws_eqTimer a b]
  obtain ⟨aAt, aF⟩ := a
  obtain ⟨bAt, bF⟩ := b
  repeat' (apply if_cond <;> intro _)
  all_goals (first | apply Lf_t | apply Lf_f) <;> simp_all
def con_laws_eqTimerS : Con UU where
  α := (List DTimer) × (List DTimer)
  md := [.ro, .ro]
  of := fun | [.one (.sl .eTimer a0), .one (.sl .eTimer a1)] => some (a0, a1) | _ => none
  ds := fun (a, b) => [.one (.sl .eTimer a), .one (.sl .eTimer b)]
  pre := fun (a, b) => []
  res := fun (a, b) => ⟨[.one (.lit (.bool (decide (a = b))))], true, []⟩
  law := by intro l x h; (try simp only at h); split at h <;> cases h; rfl
def I_laws_eqTimerS_4 (a : (List DTimer)) (b : (List DTimer)) : Int × Unit → Prop := fun (i, _) => 0 ≤ i ∧ i ≤ a.length ∧ a.length = b.length ∧ (a.drop i.toNat = b.drop i.toNat ↔ a = b)
def μ_laws_eqTimerS_4 (a : (List DTimer)) (b : (List DTimer)) : Int × Unit → Nat := fun (i, _) => a.length - i.toNat
def ann_laws_eqTimerS : con_laws_eqTimerS.α → Nat → Option (Ann UU) := fun (a, b) => annL [(4, annOf [.slot 5 (5, 1024) (.lit (.int .i64))] (fun _ => I_laws_eqTimerS_4 a b) (μ_laws_eqTimerS_4 a b))]
def use_laws_eqTimerS : List (FuncId × Con UU) := [(45, con_laws_eqTimer)]
theorem vc_laws_eqTimerS (a : (List DTimer)) (b : (List DTimer)) : goal EE use_laws_eqTimerS Go.Proofs.Try.f44 con_laws_eqTimerS ann_laws_eqTimerS (a, b) = (bif (↑(List.length a) : Int) != (↑(List.length b) : Int) then Lf [DV.one (Cell.lit (Value.bool false))] [DV.one (Cell.lit (Value.bool (decide (a = b))))] else I_laws_eqTimerS_4 a b ((0 : Int), PUnit.unit) ∧ ∀ (y : Int × PUnit), I_laws_eqTimerS_4 a b y → bif decide (y.1 < (↑(List.length a) : Int)) then (0 : Int) ≤ y.1 ∧ Int.toNat y.1 < List.length a ∧ (0 : Int) ≤ y.1 ∧ Int.toNat y.1 < List.length b ∧ bif !decide (List.getD a (Int.toNat y.1) zTimer = List.getD b (Int.toNat y.1) zTimer) then Lf [DV.one (Cell.lit (Value.bool false))] [DV.one (Cell.lit (Value.bool (decide (a = b))))] else I_laws_eqTimerS_4 a b (IntKind.wrap IntKind.i64 (y.1 + (1 : Int)), PUnit.unit) ∧ μ_laws_eqTimerS_4 a b (IntKind.wrap IntKind.i64 (y.1 + (1 : Int)), PUnit.unit) < μ_laws_eqTimerS_4 a b y else Lf [DV.one (Cell.lit (Value.bool true))] [DV.one (Cell.lit (Value.bool (decide (a = b))))]) := by kernel_rfl
theorem ok_laws_eqTimerS : Holds EE (44, con_laws_eqTimerS) := by
  refine holds_of EE_ok Go.Proofs.Try.func44 con_laws_eqTimerS (by kernel_rfl) rfl use_laws_eqTimerS (all_cons ok_laws_eqTimer all_nil) ann_laws_eqTimerS (fun x hp hb => ?_)
  obtain ⟨a, b⟩ := x
  have hb_a : BdDV (U := UU) (.one (.sl .eTimer a)) := hb _ (List.mem_cons_self)
  have hl_a : a.length ≤ 9223372036854775807 := Bd.len hb_a
  have hb_b : BdDV (U := UU) (.one (.sl .eTimer b)) := hb _ (List.mem_cons_of_mem _ (List.mem_cons_self))
  have hl_b : b.length ≤ 9223372036854775807 := Bd.len hb_b
  clear hp hb
  rw [vc_laws_eqTimerS a b]
  refine if_cond (fun h => Lf_f ?_) (fun h => ⟨?_, ?_⟩)
  · rintro rfl; simp at h
  · simp [I_laws_eqTimerS_4] at *; omega
  rintro ⟨i, ⟨⟩⟩ ⟨h1, h2, h3, hR⟩
  simp only at *
  refine if_cond (fun hc => ?_) (fun hc => ?_)
  · have hc : i < a.length := by simpa using hc
    rw [drop_step a zTimer h1 hc, drop_step b zTimer h1 (by omega)] at hR
    rw [wrap_i64 (by omega) (by omega)]
    refine ⟨by omega, by omega, by omega, by omega, if_cond (fun h => Lf_f ?_) (fun h => ⟨⟨by omega, by omega, h3, ?_⟩, ?_⟩)⟩
    · rw [← hR]; simp at h; simp [h]
    · rw [← hR]; simp at h; simp [h]
    · simp only [μ_laws_eqTimerS_4]; omega
  · have hc : a.length ≤ i := by simpa using hc
    rw [drop_end a hc, drop_end b (by omega)] at hR
    exact Lf_t (hR.1 rfl)
def con_laws_markTimerS : Con UU where
  α := (List DTimer) × Int
  md := [.wr, .ro]
  of := fun | [.one (.sl .eTimer a0), .one (.lit (.int .i64 a1))] => some (a0, a1) | _ => none
  ds := fun (a, k) => [.one (.sl .eTimer a), .one (.lit (.int .i64 k))]
  pre := fun (a, k) => [0 ≤ k, k + cntTimerS a ≤ 4611686018427387904]
  res := fun (a, k) => ⟨[.one (.lit (.int .i64 (k + cntTimerS a)))], true, [.one (.sl .eTimer (markTimerS a k))]⟩
  law := by intro l x h; (try simp only at h); split at h <;> cases h; rfl
def I_laws_markTimerS_2 (a : (List DTimer)) (k : Int) : List DTimer × Int × Int × Unit → Prop := fun (row, kk, i, _) => 0 ≤ i ∧ i ≤ a.length ∧ row = (mkS markTimer cntTimer a k).take i.toNat ++ a.drop i.toNat ∧ kk = k + ctS cntTimer (a.take i.toNat)
def μ_laws_markTimerS_2 (a : (List DTimer)) (k : Int) : List DTimer × Int × Int × Unit → Nat := fun (row, kk, i, _) => a.length - i.toNat
def ann_laws_markTimerS : con_laws_markTimerS.α → Nat → Option (Ann UU) := fun (a, k) => annL [(2, annOf [.slot 0 (2000000, 0) (.own .eTimer true), .slot 1 (1, 1024) (.lit (.int .i64)), .slot 5 (5, 1024) (.lit (.int .i64))] (fun _ => I_laws_markTimerS_2 a k) (μ_laws_markTimerS_2 a k))]
def use_laws_markTimerS : List (FuncId × Con UU) := [(89, con_laws_markText), (90, con_laws_markValS)]
theorem vc_laws_markTimerS (a : (List DTimer)) (k : Int) : goal EE use_laws_markTimerS Go.Proofs.Try.f46 con_laws_markTimerS ann_laws_markTimerS (a, k) = (I_laws_markTimerS_2 a k (a, k, (0 : Int), PUnit.unit) ∧
  ∀ (y : List DTimer × Int × Int × PUnit),
    let x0 : List DTimer := List.modify (List.modify y.1 (Int.toNat y.2.2.1) fun (x : DTimer) => { At := y.2.1, F := x.F : DTimer }) (Int.toNat y.2.2.1) fun (x : DTimer) => { At := x.At, F := { Kind := markText (IntKind.wrap IntKind.i64 (y.2.1 + (1 : Int))), Fields := x.F.Fields : DFact } : DTimer };
    let x1 : Nat := Int.toNat y.2.2.1;
    let x2 : Int := IntKind.wrap IntKind.i64 (IntKind.wrap IntKind.i64 (y.2.1 + (1 : Int)) + (1 : Int));
    let x3 : Int := x2 + (↑(cntValS (List.getD x0 x1 zTimer).F.Fields) : Int);
    I_laws_markTimerS_2 a k y → bif decide (y.2.2.1 < (↑(List.length y.1) : Int)) then (0 : Int) ≤ y.2.2.1 ∧ x1 < List.length y.1 ∧ x1 < List.length y.1 ∧ IntKind.wrap IntKind.i64 (y.2.1 + (1 : Int)) ≤ (4611686018427387903 : Int) ∧ (0 : Int) ≤ y.2.2.1 ∧ x1 < List.length (List.modify y.1 x1 fun (x : DTimer) => { At := y.2.1, F := x.F : DTimer }) ∧ x1 < List.length (List.modify y.1 x1 fun (x : DTimer) => { At := y.2.1, F := x.F : DTimer }) ∧ (0 : Int) ≤ y.2.2.1 ∧ x1 < List.length x0 ∧ x1 < List.length x0 ∧ x1 < List.length x0 ∧ (0 : Int) ≤ x2 ∧ x3 ≤ (4611686018427387904 : Int) ∧ I_laws_markTimerS_2 a k (List.modify x0 x1 fun (x : DTimer) => { At := x.At, F := { Kind := x.F.Kind, Fields := markValS (List.getD x0 x1 zTimer).F.Fields x2 : DFact } : DTimer }, x3, IntKind.wrap IntKind.i64 (y.2.2.1 + (1 : Int)), PUnit.unit) ∧ μ_laws_markTimerS_2 a k (List.modify x0 x1 fun (x : DTimer) => { At := x.At, F := { Kind := x.F.Kind, Fields := markValS (List.getD x0 x1 zTimer).F.Fields x2 : DFact } : DTimer }, x3, IntKind.wrap IntKind.i64 (y.2.2.1 + (1 : Int)), PUnit.unit) < μ_laws_markTimerS_2 a k y else asD [DV.one (Cell.lit (Value.int IntKind.i64 y.2.1))] = asD [DV.one (Cell.lit (Value.int IntKind.i64 (k + (↑(cntTimerS a) : Int))))] ∧ asD [DV.one (Cell.sl Cd.eTimer y.1)] = asD [DV.one (Cell.sl Cd.eTimer (markTimerS a k))]) := by kernel_rfl
theorem ok_laws_markTimerS : Holds EE (46, con_laws_markTimerS) := by
  refine holds_of EE_ok Go.Proofs.Try.func46 con_laws_markTimerS (by kernel_rfl) rfl use_laws_markTimerS (all_cons ok_laws_markText (all_cons ok_laws_markValS all_nil)) ann_laws_markTimerS (fun x hp hb => ?_)
  obtain ⟨a, k⟩ := x
  have hb_a : BdDV (U := UU) (.one (.sl .eTimer a)) := hb _ (List.mem_cons_self)
  have hl_a : a.length ≤ 9223372036854775807 := Bd.len hb_a
  have hb_k : BdDV (U := UU) (.one (.lit (.int .i64 k))) := hb _ (List.mem_cons_of_mem _ (List.mem_cons_self))
  have hl_k := Bd.i64 hb_k
  have hp0 : 0 ≤ k := hp _ (List.mem_cons_self)
  have hp1 : k + cntTimerS a ≤ 4611686018427387904 := hp _ (List.mem_cons_of_mem _ (List.mem_cons_self))
  clear hp hb
  rw [vc_laws_markTimerS a k]
  dsimp only
  refine ⟨⟨by omega, by omega, by simp, by simp [ctS]⟩, ?_⟩
  rintro ⟨row, kk, i, ⟨⟩⟩ ⟨h1, h2, rfl, rfl⟩
  simp only
  have hl := mk_rl markTimer cntTimer a k h1 h2
  refine if_cond (fun hc => ?_) (fun hc => ?_)
  · have hc : i < a.length := by have hc := of_decide_eq_true hc; omega
    have hct := ctS_take cntTimer a zTimer h1 hc
    have hle := ctS_take_le cntTimer a (i + 1).toNat
    have hg := mk_getD _ a zTimer (mk_tl markTimer cntTimer a k h1 h2) h1 hc
    have hM := fun F hF => mkS_mod markTimer cntTimer a zTimer k (i := i) F h1 hc hF
    have hq : (cntTimerS a : Int) = ctS cntTimer a := rfl
    generalize List.getD a i.toNat zTimer = x at *
    generalize hkk : k + (ctS cntTimer (a.take i.toNat) : Int) = kk at *
    generalize List.take i.toNat (mkS markTimer cntTimer a k) ++ List.drop i.toNat a = R at *
    simp only [cntTimer] at hct
    simp (disch := first | omega | (simp only [List.length_modify]; omega)) only [List.length_modify, wrap_i64, getD_modify, modify_modify, hg, hl]
    repeat' (first | refine And.intro (by omega) ?_ | fail)
    exact ⟨⟨by omega, by omega, hM _ rfl, by omega⟩, by simp only [μ_laws_markTimerS_2]; omega⟩
  · have hc : a.length ≤ i := by have hc := of_decide_eq_false hc; omega
    rw [mk_done markTimer cntTimer a k hc, ct_done cntTimer a hc]
    exact ⟨rfl, rfl⟩
def con_laws_heldTimerS : Con UU where
  α := (List DTimer) × Int
  md := [.ro, .ro]
  of := fun | [.one (.sl .eTimer a0), .one (.lit (.int .i64 a1))] => some (a0, a1) | _ => none
  ds := fun (a, k) => [.one (.sl .eTimer a), .one (.lit (.int .i64 k))]
  pre := fun (a, k) => [0 ≤ k, k + cntTimerS a ≤ 4611686018427387904]
  res := fun (a, k) => ⟨[.one (.lit (.int .i64 (if markTimerS a k = a then k + cntTimerS a else -1)))], true, []⟩
  law := by intro l x h; (try simp only at h); split at h <;> cases h; rfl
def I_laws_heldTimerS_2 (a : (List DTimer)) (k : Int) : Int × Int × Unit → Prop := fun (kk, i, _) => 0 ≤ i ∧ i ≤ a.length ∧ kk = k + ctS cntTimer (a.take i.toNat) ∧ (mkS markTimer cntTimer (a.drop i.toNat) kk = a.drop i.toNat ↔ mkS markTimer cntTimer a k = a)
def μ_laws_heldTimerS_2 (a : (List DTimer)) (k : Int) : Int × Int × Unit → Nat := fun (kk, i, _) => a.length - i.toNat
def ann_laws_heldTimerS : con_laws_heldTimerS.α → Nat → Option (Ann UU) := fun (a, k) => annL [(2, annOf [.slot 1 (1, 1024) (.lit (.int .i64)), .slot 5 (5, 1024) (.lit (.int .i64))] (fun _ => I_laws_heldTimerS_2 a k) (μ_laws_heldTimerS_2 a k))]
def use_laws_heldTimerS : List (FuncId × Con UU) := [(89, con_laws_markText), (91, con_laws_heldValS)]
theorem vc_laws_heldTimerS (a : (List DTimer)) (k : Int) : goal EE use_laws_heldTimerS Go.Proofs.Try.f48 con_laws_heldTimerS ann_laws_heldTimerS (a, k) = (I_laws_heldTimerS_2 a k (k, (0 : Int), PUnit.unit) ∧
  ∀ (y : Int × Int × PUnit),
    let x0 : Int := if markValS (List.getD a (Int.toNat y.2.1) zTimer).F.Fields (IntKind.wrap IntKind.i64 (IntKind.wrap IntKind.i64 (y.1 + (1 : Int)) + (1 : Int))) = (List.getD a (Int.toNat y.2.1) zTimer).F.Fields then IntKind.wrap IntKind.i64 (IntKind.wrap IntKind.i64 (y.1 + (1 : Int)) + (1 : Int)) + (↑(cntValS (List.getD a (Int.toNat y.2.1) zTimer).F.Fields) : Int) else (-1 : Int);
    let x1 : DFact := (List.getD a (Int.toNat y.2.1) zTimer).F;
    let x2 : Nat := Int.toNat y.2.1;
    let x3 : Int := IntKind.wrap IntKind.i64 (y.1 + (1 : Int));
    I_laws_heldTimerS_2 a k y → bif decide (y.2.1 < (↑(List.length a) : Int)) then (0 : Int) ≤ y.2.1 ∧ x2 < List.length a ∧ bif (List.getD a x2 zTimer).At != y.1 then Lf [DV.one (Cell.lit (Value.int IntKind.i64 (-1 : Int)))] [DV.one (Cell.lit (Value.int IntKind.i64 (if markTimerS a k = a then k + (↑(cntTimerS a) : Int) else (-1 : Int))))] else (0 : Int) ≤ y.2.1 ∧ x2 < List.length a ∧ x3 ≤ (4611686018427387903 : Int) ∧ bif !ByteArray.toList x1.Kind == ByteArray.toList (markText x3) then Lf [DV.one (Cell.lit (Value.int IntKind.i64 (-1 : Int)))] [DV.one (Cell.lit (Value.int IntKind.i64 (if markTimerS a k = a then k + (↑(cntTimerS a) : Int) else (-1 : Int))))] else (0 : Int) ≤ y.2.1 ∧ x2 < List.length a ∧ (0 : Int) ≤ IntKind.wrap IntKind.i64 (x3 + (1 : Int)) ∧ IntKind.wrap IntKind.i64 (x3 + (1 : Int)) + (↑(cntValS x1.Fields) : Int) ≤ (4611686018427387904 : Int) ∧ bif decide (x0 < (0 : Int)) then Lf [DV.one (Cell.lit (Value.int IntKind.i64 (-1 : Int)))] [DV.one (Cell.lit (Value.int IntKind.i64 (if markTimerS a k = a then k + (↑(cntTimerS a) : Int) else (-1 : Int))))] else I_laws_heldTimerS_2 a k (x0, IntKind.wrap IntKind.i64 (y.2.1 + (1 : Int)), PUnit.unit) ∧ μ_laws_heldTimerS_2 a k (x0, IntKind.wrap IntKind.i64 (y.2.1 + (1 : Int)), PUnit.unit) < μ_laws_heldTimerS_2 a k y else Lf [DV.one (Cell.lit (Value.int IntKind.i64 y.1))] [DV.one (Cell.lit (Value.int IntKind.i64 (if markTimerS a k = a then k + (↑(cntTimerS a) : Int) else (-1 : Int))))]) := by kernel_rfl
theorem ok_laws_heldTimerS : Holds EE (48, con_laws_heldTimerS) := by
  refine holds_of EE_ok Go.Proofs.Try.func48 con_laws_heldTimerS (by kernel_rfl) rfl use_laws_heldTimerS (all_cons ok_laws_markText (all_cons ok_laws_heldValS all_nil)) ann_laws_heldTimerS (fun x hp hb => ?_)
  obtain ⟨a, k⟩ := x
  have hb_a : BdDV (U := UU) (.one (.sl .eTimer a)) := hb _ (List.mem_cons_self)
  have hl_a : a.length ≤ 9223372036854775807 := Bd.len hb_a
  have hb_k : BdDV (U := UU) (.one (.lit (.int .i64 k))) := hb _ (List.mem_cons_of_mem _ (List.mem_cons_self))
  have hl_k := Bd.i64 hb_k
  have hp0 : 0 ≤ k := hp _ (List.mem_cons_self)
  have hp1 : k + cntTimerS a ≤ 4611686018427387904 := hp _ (List.mem_cons_of_mem _ (List.mem_cons_self))
  clear hp hb
  rw [vc_laws_heldTimerS a k]
  dsimp only
  refine ⟨⟨by omega, by omega, by simp [ctS], by simp⟩, ?_⟩
  rintro ⟨kk, i, ⟨⟩⟩ ⟨h1, h2, hkk, hR⟩
  simp only
  simp only [markTimerS]
  refine if_cond (fun hc => ?_) (fun hc => ?_)
  · have hc : i < a.length := by have hc := of_decide_eq_true hc; omega
    have hct := ctS_take cntTimer a zTimer h1 hc
    have hle := ctS_take_le cntTimer a (i + 1).toNat
    have hq : (cntTimerS a : Int) = ctS cntTimer a := rfl
    rw [drop_step a zTimer h1 hc] at hR
    generalize List.getD a i.toNat zTimer = x at *
    simp only [mkS, List.cons.injEq] at hR
    have e : kk + (cntTimer x : Int) = kk + 1 + 1 + (cntValS x.F.Fields : Int) := by simp only [cntTimer]; omega
    rw [e] at hR
    simp only [markTimer, cntTimer] at hR hct
    simp (disch := omega) only [wrap_i64, bne_int, toList_beq]
    obtain ⟨x_At, ⟨x_F_Kind, x_F_Fields⟩⟩ := x
    simp only [DFact.mk.injEq, DTimer.mk.injEq] at *
    repeat' (first | refine And.intro (by omega) ?_ | fail)
    refine if_cond (fun h => Lf_no (fun hh => ?_)) (fun h => ?_)
    · have hh := hR.2 hh; simp_all
    have h : x_At = kk := by simpa using h
    subst x_At
    repeat' (first | refine And.intro (by omega) ?_ | fail)
    refine if_cond (fun h => Lf_no (fun hh => ?_)) (fun h => ?_)
    · have hh := hR.2 hh; simp_all
    have h : x_F_Kind = markText (kk + 1) := by simpa using h
    subst x_F_Kind
    repeat' (first | refine And.intro (by omega) ?_ | fail)
    by_cases hm : markValS x_F_Fields (kk + 1 + 1) = x_F_Fields
    rotate_left
    · simp only [if_neg hm]; rw [cond_yes (by decide)]
      exact Lf_no (fun hh => hm (by have hh := hR.2 hh; simp_all))
    simp only [if_pos hm]
    refine if_cond (fun h => absurd (of_decide_eq_true h) (by omega)) (fun h => ?_)
    simp only [hm] at hR
    clear hm
    exact ⟨⟨by omega, by omega, by omega, by simpa using hR⟩, by simp only [μ_laws_heldTimerS_2]; omega⟩
  · have hc : a.length ≤ i := by have hc := of_decide_eq_false hc; omega
    rw [drop_end a hc] at hR
    exact Lf_yes (hR.1 rfl) (by rw [hkk, ct_done _ _ hc]; rfl)
def con_laws_eqTask : Con UU where
  α := DTask × DTask
  md := [.ro, .ro]
  of := fun | [.agg [.lit (.string a0), .sl .eVal a1, .lit (.string a2), .lit (.int .i64 a3), .lit (.int .i64 a4), .lit (.int .i64 a5), .lit (.int .i64 a6), .lit (.int .i64 a7), .lit (.string a8)], .agg [.lit (.string a9), .sl .eVal a10, .lit (.string a11), .lit (.int .i64 a12), .lit (.int .i64 a13), .lit (.int .i64 a14), .lit (.int .i64 a15), .lit (.int .i64 a16), .lit (.string a17)]] => some (⟨⟨a0, a1⟩, a2, a3, a4, a5, ⟨a6, a7, a8⟩⟩, ⟨⟨a9, a10⟩, a11, a12, a13, a14, ⟨a15, a16, a17⟩⟩) | _ => none
  ds := fun (a, b) => [.agg [.lit (.string a.F.Kind), .sl .eVal a.F.Fields, .lit (.string a.Undo), .lit (.int .i64 a.State), .lit (.int .i64 a.Tries), .lit (.int .i64 a.Due), .lit (.int .i64 a.V.K), .lit (.int .i64 a.V.N), .lit (.string a.V.S)], .agg [.lit (.string b.F.Kind), .sl .eVal b.F.Fields, .lit (.string b.Undo), .lit (.int .i64 b.State), .lit (.int .i64 b.Tries), .lit (.int .i64 b.Due), .lit (.int .i64 b.V.K), .lit (.int .i64 b.V.N), .lit (.string b.V.S)]]
  pre := fun (a, b) => []
  res := fun (a, b) => ⟨[.one (.lit (.bool (decide (a = b))))], true, []⟩
  law := by intro l x h; (try simp only at h); split at h <;> cases h; rfl
def ann_laws_eqTask : con_laws_eqTask.α → Nat → Option (Ann UU) := fun (a, b) => annL []
def use_laws_eqTask : List (FuncId × Con UU) := [(53, con_laws_eqFact), (82, con_laws_eqVal)]
theorem vc_laws_eqTask (a : DTask) (b : DTask) : goal EE use_laws_eqTask Go.Proofs.Try.f88 con_laws_eqTask ann_laws_eqTask (a, b) = (bif !decide (a.F = b.F) then Lf [DV.one (Cell.lit (Value.bool false))] [DV.one (Cell.lit (Value.bool (decide (a = b))))] else bif !ByteArray.toList a.Undo == ByteArray.toList b.Undo then Lf [DV.one (Cell.lit (Value.bool false))] [DV.one (Cell.lit (Value.bool (decide (a = b))))] else bif a.State != b.State then Lf [DV.one (Cell.lit (Value.bool false))] [DV.one (Cell.lit (Value.bool (decide (a = b))))] else bif a.Tries != b.Tries then Lf [DV.one (Cell.lit (Value.bool false))] [DV.one (Cell.lit (Value.bool (decide (a = b))))] else bif a.Due != b.Due then Lf [DV.one (Cell.lit (Value.bool false))] [DV.one (Cell.lit (Value.bool (decide (a = b))))] else bif !decide (a.V = b.V) then Lf [DV.one (Cell.lit (Value.bool false))] [DV.one (Cell.lit (Value.bool (decide (a = b))))] else Lf [DV.one (Cell.lit (Value.bool true))] [DV.one (Cell.lit (Value.bool (decide (a = b))))]) := by kernel_rfl
theorem ok_laws_eqTask : Holds EE (88, con_laws_eqTask) := by
  refine holds_of EE_ok Go.Proofs.Try.func88 con_laws_eqTask (by kernel_rfl) rfl use_laws_eqTask (all_cons ok_laws_eqFact (all_cons ok_laws_eqVal all_nil)) ann_laws_eqTask (fun x hp hb => ?_)
  obtain ⟨a, b⟩ := x
  have hb_a : BdDV (U := UU) (.agg [.lit (.string a.F.Kind), .sl .eVal a.F.Fields, .lit (.string a.Undo), .lit (.int .i64 a.State), .lit (.int .i64 a.Tries), .lit (.int .i64 a.Due), .lit (.int .i64 a.V.K), .lit (.int .i64 a.V.N), .lit (.string a.V.S)]) := hb _ (List.mem_cons_self)
  have hl_a_F_Kind : a.F.Kind.size ≤ 9223372036854775807 := Bd.str (hb_a _ (by simp))
  have hl_a_F_Fields : a.F.Fields.length ≤ 9223372036854775807 := Bd.len (U := UU) (τ := .eVal) (xs := a.F.Fields) (hb_a _ (by simp))
  have hl_a_Undo : a.Undo.size ≤ 9223372036854775807 := Bd.str (hb_a _ (by simp))
  have hl_a_V_S : a.V.S.size ≤ 9223372036854775807 := Bd.str (hb_a _ (by simp))
  have hb_b : BdDV (U := UU) (.agg [.lit (.string b.F.Kind), .sl .eVal b.F.Fields, .lit (.string b.Undo), .lit (.int .i64 b.State), .lit (.int .i64 b.Tries), .lit (.int .i64 b.Due), .lit (.int .i64 b.V.K), .lit (.int .i64 b.V.N), .lit (.string b.V.S)]) := hb _ (List.mem_cons_of_mem _ (List.mem_cons_self))
  have hl_b_F_Kind : b.F.Kind.size ≤ 9223372036854775807 := Bd.str (hb_b _ (by simp))
  have hl_b_F_Fields : b.F.Fields.length ≤ 9223372036854775807 := Bd.len (U := UU) (τ := .eVal) (xs := b.F.Fields) (hb_b _ (by simp))
  have hl_b_Undo : b.Undo.size ≤ 9223372036854775807 := Bd.str (hb_b _ (by simp))
  have hl_b_V_S : b.V.S.size ≤ 9223372036854775807 := Bd.str (hb_b _ (by simp))
  clear hp hb
  rw [vc_laws_eqTask a b]
  obtain ⟨aF, aUndo, aState, aTries, aDue, aV⟩ := a
  obtain ⟨bF, bUndo, bState, bTries, bDue, bV⟩ := b
  repeat' (apply if_cond <;> intro _)
  all_goals (first | apply Lf_t | apply Lf_f) <;> simp_all
def con_laws_eqTaskS : Con UU where
  α := (List DTask) × (List DTask)
  md := [.ro, .ro]
  of := fun | [.one (.sl .eTask a0), .one (.sl .eTask a1)] => some (a0, a1) | _ => none
  ds := fun (a, b) => [.one (.sl .eTask a), .one (.sl .eTask b)]
  pre := fun (a, b) => []
  res := fun (a, b) => ⟨[.one (.lit (.bool (decide (a = b))))], true, []⟩
  law := by intro l x h; (try simp only at h); split at h <;> cases h; rfl
def I_laws_eqTaskS_4 (a : (List DTask)) (b : (List DTask)) : Int × Unit → Prop := fun (i, _) => 0 ≤ i ∧ i ≤ a.length ∧ a.length = b.length ∧ (a.drop i.toNat = b.drop i.toNat ↔ a = b)
def μ_laws_eqTaskS_4 (a : (List DTask)) (b : (List DTask)) : Int × Unit → Nat := fun (i, _) => a.length - i.toNat
def ann_laws_eqTaskS : con_laws_eqTaskS.α → Nat → Option (Ann UU) := fun (a, b) => annL [(4, annOf [.slot 5 (5, 1024) (.lit (.int .i64))] (fun _ => I_laws_eqTaskS_4 a b) (μ_laws_eqTaskS_4 a b))]
def use_laws_eqTaskS : List (FuncId × Con UU) := [(88, con_laws_eqTask)]
theorem vc_laws_eqTaskS (a : (List DTask)) (b : (List DTask)) : goal EE use_laws_eqTaskS Go.Proofs.Try.f27 con_laws_eqTaskS ann_laws_eqTaskS (a, b) = (bif (↑(List.length a) : Int) != (↑(List.length b) : Int) then Lf [DV.one (Cell.lit (Value.bool false))] [DV.one (Cell.lit (Value.bool (decide (a = b))))] else I_laws_eqTaskS_4 a b ((0 : Int), PUnit.unit) ∧ ∀ (y : Int × PUnit), I_laws_eqTaskS_4 a b y → bif decide (y.1 < (↑(List.length a) : Int)) then (0 : Int) ≤ y.1 ∧ Int.toNat y.1 < List.length a ∧ (0 : Int) ≤ y.1 ∧ Int.toNat y.1 < List.length b ∧ bif !decide (List.getD a (Int.toNat y.1) zTask = List.getD b (Int.toNat y.1) zTask) then Lf [DV.one (Cell.lit (Value.bool false))] [DV.one (Cell.lit (Value.bool (decide (a = b))))] else I_laws_eqTaskS_4 a b (IntKind.wrap IntKind.i64 (y.1 + (1 : Int)), PUnit.unit) ∧ μ_laws_eqTaskS_4 a b (IntKind.wrap IntKind.i64 (y.1 + (1 : Int)), PUnit.unit) < μ_laws_eqTaskS_4 a b y else Lf [DV.one (Cell.lit (Value.bool true))] [DV.one (Cell.lit (Value.bool (decide (a = b))))]) := by kernel_rfl
theorem ok_laws_eqTaskS : Holds EE (27, con_laws_eqTaskS) := by
  refine holds_of EE_ok Go.Proofs.Try.func27 con_laws_eqTaskS (by kernel_rfl) rfl use_laws_eqTaskS (all_cons ok_laws_eqTask all_nil) ann_laws_eqTaskS (fun x hp hb => ?_)
  obtain ⟨a, b⟩ := x
  have hb_a : BdDV (U := UU) (.one (.sl .eTask a)) := hb _ (List.mem_cons_self)
  have hl_a : a.length ≤ 9223372036854775807 := Bd.len hb_a
  have hb_b : BdDV (U := UU) (.one (.sl .eTask b)) := hb _ (List.mem_cons_of_mem _ (List.mem_cons_self))
  have hl_b : b.length ≤ 9223372036854775807 := Bd.len hb_b
  clear hp hb
  rw [vc_laws_eqTaskS a b]
  refine if_cond (fun h => Lf_f ?_) (fun h => ⟨?_, ?_⟩)
  · rintro rfl; simp at h
  · simp [I_laws_eqTaskS_4] at *; omega
  rintro ⟨i, ⟨⟩⟩ ⟨h1, h2, h3, hR⟩
  simp only at *
  refine if_cond (fun hc => ?_) (fun hc => ?_)
  · have hc : i < a.length := by simpa using hc
    rw [drop_step a zTask h1 hc, drop_step b zTask h1 (by omega)] at hR
    rw [wrap_i64 (by omega) (by omega)]
    refine ⟨by omega, by omega, by omega, by omega, if_cond (fun h => Lf_f ?_) (fun h => ⟨⟨by omega, by omega, h3, ?_⟩, ?_⟩)⟩
    · rw [← hR]; simp at h; simp [h]
    · rw [← hR]; simp at h; simp [h]
    · simp only [μ_laws_eqTaskS_4]; omega
  · have hc : a.length ≤ i := by simpa using hc
    rw [drop_end a hc, drop_end b (by omega)] at hR
    exact Lf_t (hR.1 rfl)
def con_laws_markTaskS : Con UU where
  α := (List DTask) × Int
  md := [.wr, .ro]
  of := fun | [.one (.sl .eTask a0), .one (.lit (.int .i64 a1))] => some (a0, a1) | _ => none
  ds := fun (a, k) => [.one (.sl .eTask a), .one (.lit (.int .i64 k))]
  pre := fun (a, k) => [0 ≤ k, k + cntTaskS a ≤ 4611686018427387904]
  res := fun (a, k) => ⟨[.one (.lit (.int .i64 (k + cntTaskS a)))], true, [.one (.sl .eTask (markTaskS a k))]⟩
  law := by intro l x h; (try simp only at h); split at h <;> cases h; rfl
def I_laws_markTaskS_2 (a : (List DTask)) (k : Int) : List DTask × Int × Int × Unit → Prop := fun (row, kk, i, _) => 0 ≤ i ∧ i ≤ a.length ∧ row = (mkS markTask cntTask a k).take i.toNat ++ a.drop i.toNat ∧ kk = k + ctS cntTask (a.take i.toNat)
def μ_laws_markTaskS_2 (a : (List DTask)) (k : Int) : List DTask × Int × Int × Unit → Nat := fun (row, kk, i, _) => a.length - i.toNat
def ann_laws_markTaskS : con_laws_markTaskS.α → Nat → Option (Ann UU) := fun (a, k) => annL [(2, annOf [.slot 0 (2000000, 0) (.own .eTask true), .slot 1 (1, 1024) (.lit (.int .i64)), .slot 5 (5, 1024) (.lit (.int .i64))] (fun _ => I_laws_markTaskS_2 a k) (μ_laws_markTaskS_2 a k))]
def use_laws_markTaskS : List (FuncId × Con UU) := [(89, con_laws_markText), (90, con_laws_markValS)]
theorem vc_laws_markTaskS (a : (List DTask)) (k : Int) : goal EE use_laws_markTaskS Go.Proofs.Try.f28 con_laws_markTaskS ann_laws_markTaskS (a, k) = (I_laws_markTaskS_2 a k (a, k, (0 : Int), PUnit.unit) ∧
  ∀ (y : List DTask × Int × Int × PUnit),
    let x0 : List DTask := List.modify (List.modify (List.modify (List.modify (List.modify (List.modify (List.modify (List.modify y.1 (Int.toNat y.2.2.1) fun (x : DTask) => { F := { Kind := markText y.2.1, Fields := x.F.Fields : DFact }, Undo := x.Undo, State := x.State, Tries := x.Tries, Due := x.Due, V := x.V : DTask }) (Int.toNat y.2.2.1) fun (x : DTask) => { F := { Kind := x.F.Kind, Fields := markValS (List.getD (List.modify y.1 (Int.toNat y.2.2.1) fun (x : DTask) => { F := { Kind := markText y.2.1, Fields := x.F.Fields : DFact }, Undo := x.Undo, State := x.State, Tries := x.Tries, Due := x.Due, V := x.V : DTask }) (Int.toNat y.2.2.1) zTask).F.Fields (IntKind.wrap IntKind.i64 (y.2.1 + (1 : Int))) : DFact }, Undo := x.Undo, State := x.State, Tries := x.Tries, Due := x.Due, V := x.V : DTask }) (Int.toNat y.2.2.1) fun (x : DTask) => { F := x.F, Undo := markText (IntKind.wrap IntKind.i64 (y.2.1 + (1 : Int)) + (↑(cntValS (List.getD (List.modify y.1 (Int.toNat y.2.2.1) fun (x : DTask) => { F := { Kind := markText y.2.1, Fields := x.F.Fields : DFact }, Undo := x.Undo, State := x.State, Tries := x.Tries, Due := x.Due, V := x.V : DTask }) (Int.toNat y.2.2.1) zTask).F.Fields) : Int)), State := x.State, Tries := x.Tries, Due := x.Due, V := x.V : DTask }) (Int.toNat y.2.2.1) fun (x : DTask) => { F := x.F, Undo := x.Undo, State := IntKind.wrap IntKind.i64 (IntKind.wrap IntKind.i64 (y.2.1 + (1 : Int)) + (↑(cntValS (List.getD (List.modify y.1 (Int.toNat y.2.2.1) fun (x : DTask) => { F := { Kind := markText y.2.1, Fields := x.F.Fields : DFact }, Undo := x.Undo, State := x.State, Tries := x.Tries, Due := x.Due, V := x.V : DTask }) (Int.toNat y.2.2.1) zTask).F.Fields) : Int) + (1 : Int)), Tries := x.Tries, Due := x.Due, V := x.V : DTask }) (Int.toNat y.2.2.1) fun (x : DTask) => { F := x.F, Undo := x.Undo, State := x.State, Tries := IntKind.wrap IntKind.i64 (IntKind.wrap IntKind.i64 (IntKind.wrap IntKind.i64 (y.2.1 + (1 : Int)) + (↑(cntValS (List.getD (List.modify y.1 (Int.toNat y.2.2.1) fun (x : DTask) => { F := { Kind := markText y.2.1, Fields := x.F.Fields : DFact }, Undo := x.Undo, State := x.State, Tries := x.Tries, Due := x.Due, V := x.V : DTask }) (Int.toNat y.2.2.1) zTask).F.Fields) : Int) + (1 : Int)) + (1 : Int)), Due := x.Due, V := x.V : DTask }) (Int.toNat y.2.2.1) fun (x : DTask) => { F := x.F, Undo := x.Undo, State := x.State, Tries := x.Tries, Due := IntKind.wrap IntKind.i64 (IntKind.wrap IntKind.i64 (IntKind.wrap IntKind.i64 (IntKind.wrap IntKind.i64 (y.2.1 + (1 : Int)) + (↑(cntValS (List.getD (List.modify y.1 (Int.toNat y.2.2.1) fun (x : DTask) => { F := { Kind := markText y.2.1, Fields := x.F.Fields : DFact }, Undo := x.Undo, State := x.State, Tries := x.Tries, Due := x.Due, V := x.V : DTask }) (Int.toNat y.2.2.1) zTask).F.Fields) : Int) + (1 : Int)) + (1 : Int)) + (1 : Int)), V := x.V : DTask }) (Int.toNat y.2.2.1) fun (x : DTask) => { F := x.F, Undo := x.Undo, State := x.State, Tries := x.Tries, Due := x.Due, V := { K := IntKind.wrap IntKind.i64 (IntKind.wrap IntKind.i64 (IntKind.wrap IntKind.i64 (IntKind.wrap IntKind.i64 (IntKind.wrap IntKind.i64 (y.2.1 + (1 : Int)) + (↑(cntValS (List.getD (List.modify y.1 (Int.toNat y.2.2.1) fun (x : DTask) => { F := { Kind := markText y.2.1, Fields := x.F.Fields : DFact }, Undo := x.Undo, State := x.State, Tries := x.Tries, Due := x.Due, V := x.V : DTask }) (Int.toNat y.2.2.1) zTask).F.Fields) : Int) + (1 : Int)) + (1 : Int)) + (1 : Int)) + (1 : Int)), N := x.V.N, S := x.V.S : DVal } : DTask }) (Int.toNat y.2.2.1) fun (x : DTask) => { F := x.F, Undo := x.Undo, State := x.State, Tries := x.Tries, Due := x.Due, V := { K := x.V.K, N := IntKind.wrap IntKind.i64 (IntKind.wrap IntKind.i64 (IntKind.wrap IntKind.i64 (IntKind.wrap IntKind.i64 (IntKind.wrap IntKind.i64 (IntKind.wrap IntKind.i64 (y.2.1 + (1 : Int)) + (↑(cntValS (List.getD (List.modify y.1 (Int.toNat y.2.2.1) fun (x : DTask) => { F := { Kind := markText y.2.1, Fields := x.F.Fields : DFact }, Undo := x.Undo, State := x.State, Tries := x.Tries, Due := x.Due, V := x.V : DTask }) (Int.toNat y.2.2.1) zTask).F.Fields) : Int) + (1 : Int)) + (1 : Int)) + (1 : Int)) + (1 : Int)) + (1 : Int)), S := x.V.S : DVal } : DTask };
    let x1 : List DTask := List.modify (List.modify (List.modify (List.modify (List.modify (List.modify y.1 (Int.toNat y.2.2.1) fun (x : DTask) => { F := { Kind := markText y.2.1, Fields := x.F.Fields : DFact }, Undo := x.Undo, State := x.State, Tries := x.Tries, Due := x.Due, V := x.V : DTask }) (Int.toNat y.2.2.1) fun (x : DTask) => { F := { Kind := x.F.Kind, Fields := markValS (List.getD (List.modify y.1 (Int.toNat y.2.2.1) fun (x : DTask) => { F := { Kind := markText y.2.1, Fields := x.F.Fields : DFact }, Undo := x.Undo, State := x.State, Tries := x.Tries, Due := x.Due, V := x.V : DTask }) (Int.toNat y.2.2.1) zTask).F.Fields (IntKind.wrap IntKind.i64 (y.2.1 + (1 : Int))) : DFact }, Undo := x.Undo, State := x.State, Tries := x.Tries, Due := x.Due, V := x.V : DTask }) (Int.toNat y.2.2.1) fun (x : DTask) => { F := x.F, Undo := markText (IntKind.wrap IntKind.i64 (y.2.1 + (1 : Int)) + (↑(cntValS (List.getD (List.modify y.1 (Int.toNat y.2.2.1) fun (x : DTask) => { F := { Kind := markText y.2.1, Fields := x.F.Fields : DFact }, Undo := x.Undo, State := x.State, Tries := x.Tries, Due := x.Due, V := x.V : DTask }) (Int.toNat y.2.2.1) zTask).F.Fields) : Int)), State := x.State, Tries := x.Tries, Due := x.Due, V := x.V : DTask }) (Int.toNat y.2.2.1) fun (x : DTask) => { F := x.F, Undo := x.Undo, State := IntKind.wrap IntKind.i64 (IntKind.wrap IntKind.i64 (y.2.1 + (1 : Int)) + (↑(cntValS (List.getD (List.modify y.1 (Int.toNat y.2.2.1) fun (x : DTask) => { F := { Kind := markText y.2.1, Fields := x.F.Fields : DFact }, Undo := x.Undo, State := x.State, Tries := x.Tries, Due := x.Due, V := x.V : DTask }) (Int.toNat y.2.2.1) zTask).F.Fields) : Int) + (1 : Int)), Tries := x.Tries, Due := x.Due, V := x.V : DTask }) (Int.toNat y.2.2.1) fun (x : DTask) => { F := x.F, Undo := x.Undo, State := x.State, Tries := IntKind.wrap IntKind.i64 (IntKind.wrap IntKind.i64 (IntKind.wrap IntKind.i64 (y.2.1 + (1 : Int)) + (↑(cntValS (List.getD (List.modify y.1 (Int.toNat y.2.2.1) fun (x : DTask) => { F := { Kind := markText y.2.1, Fields := x.F.Fields : DFact }, Undo := x.Undo, State := x.State, Tries := x.Tries, Due := x.Due, V := x.V : DTask }) (Int.toNat y.2.2.1) zTask).F.Fields) : Int) + (1 : Int)) + (1 : Int)), Due := x.Due, V := x.V : DTask }) (Int.toNat y.2.2.1) fun (x : DTask) => { F := x.F, Undo := x.Undo, State := x.State, Tries := x.Tries, Due := IntKind.wrap IntKind.i64 (IntKind.wrap IntKind.i64 (IntKind.wrap IntKind.i64 (IntKind.wrap IntKind.i64 (y.2.1 + (1 : Int)) + (↑(cntValS (List.getD (List.modify y.1 (Int.toNat y.2.2.1) fun (x : DTask) => { F := { Kind := markText y.2.1, Fields := x.F.Fields : DFact }, Undo := x.Undo, State := x.State, Tries := x.Tries, Due := x.Due, V := x.V : DTask }) (Int.toNat y.2.2.1) zTask).F.Fields) : Int) + (1 : Int)) + (1 : Int)) + (1 : Int)), V := x.V : DTask };
    let x2 : Nat := Int.toNat y.2.2.1;
    let x3 : List DTask := List.modify (List.modify (List.modify (List.modify y.1 x2 fun (x : DTask) => { F := { Kind := markText y.2.1, Fields := x.F.Fields : DFact }, Undo := x.Undo, State := x.State, Tries := x.Tries, Due := x.Due, V := x.V : DTask }) x2 fun (x : DTask) => { F := { Kind := x.F.Kind, Fields := markValS (List.getD (List.modify y.1 x2 fun (x : DTask) => { F := { Kind := markText y.2.1, Fields := x.F.Fields : DFact }, Undo := x.Undo, State := x.State, Tries := x.Tries, Due := x.Due, V := x.V : DTask }) x2 zTask).F.Fields (IntKind.wrap IntKind.i64 (y.2.1 + (1 : Int))) : DFact }, Undo := x.Undo, State := x.State, Tries := x.Tries, Due := x.Due, V := x.V : DTask }) x2 fun (x : DTask) => { F := x.F, Undo := markText (IntKind.wrap IntKind.i64 (y.2.1 + (1 : Int)) + (↑(cntValS (List.getD (List.modify y.1 x2 fun (x : DTask) => { F := { Kind := markText y.2.1, Fields := x.F.Fields : DFact }, Undo := x.Undo, State := x.State, Tries := x.Tries, Due := x.Due, V := x.V : DTask }) x2 zTask).F.Fields) : Int)), State := x.State, Tries := x.Tries, Due := x.Due, V := x.V : DTask }) x2 fun (x : DTask) => { F := x.F, Undo := x.Undo, State := IntKind.wrap IntKind.i64 (IntKind.wrap IntKind.i64 (y.2.1 + (1 : Int)) + (↑(cntValS (List.getD (List.modify y.1 x2 fun (x : DTask) => { F := { Kind := markText y.2.1, Fields := x.F.Fields : DFact }, Undo := x.Undo, State := x.State, Tries := x.Tries, Due := x.Due, V := x.V : DTask }) x2 zTask).F.Fields) : Int) + (1 : Int)), Tries := x.Tries, Due := x.Due, V := x.V : DTask };
    let x4 : Int := IntKind.wrap IntKind.i64 (y.2.1 + (1 : Int)) + (↑(cntValS (List.getD (List.modify y.1 x2 fun (x : DTask) => { F := { Kind := markText y.2.1, Fields := x.F.Fields : DFact }, Undo := x.Undo, State := x.State, Tries := x.Tries, Due := x.Due, V := x.V : DTask }) x2 zTask).F.Fields) : Int);
    let x5 : List DTask := List.modify (List.modify y.1 x2 fun (x : DTask) => { F := { Kind := markText y.2.1, Fields := x.F.Fields : DFact }, Undo := x.Undo, State := x.State, Tries := x.Tries, Due := x.Due, V := x.V : DTask }) x2 fun (x : DTask) => { F := { Kind := x.F.Kind, Fields := markValS (List.getD (List.modify y.1 x2 fun (x : DTask) => { F := { Kind := markText y.2.1, Fields := x.F.Fields : DFact }, Undo := x.Undo, State := x.State, Tries := x.Tries, Due := x.Due, V := x.V : DTask }) x2 zTask).F.Fields (IntKind.wrap IntKind.i64 (y.2.1 + (1 : Int))) : DFact }, Undo := x.Undo, State := x.State, Tries := x.Tries, Due := x.Due, V := x.V : DTask };
    let x6 : Int := IntKind.wrap IntKind.i64 (IntKind.wrap IntKind.i64 (IntKind.wrap IntKind.i64 (IntKind.wrap IntKind.i64 (IntKind.wrap IntKind.i64 (IntKind.wrap IntKind.i64 (x4 + (1 : Int)) + (1 : Int)) + (1 : Int)) + (1 : Int)) + (1 : Int)) + (1 : Int));
    let x7 : Int := IntKind.wrap IntKind.i64 (IntKind.wrap IntKind.i64 (x4 + (1 : Int)) + (1 : Int));
    I_laws_markTaskS_2 a k y → bif decide (y.2.2.1 < (↑(List.length y.1) : Int)) then y.2.1 ≤ (4611686018427387903 : Int) ∧ (0 : Int) ≤ y.2.2.1 ∧ x2 < List.length y.1 ∧ x2 < List.length y.1 ∧ (0 : Int) ≤ y.2.2.1 ∧ x2 < List.length (List.modify y.1 x2 fun (x : DTask) => { F := { Kind := markText y.2.1, Fields := x.F.Fields : DFact }, Undo := x.Undo, State := x.State, Tries := x.Tries, Due := x.Due, V := x.V : DTask }) ∧ x2 < List.length (List.modify y.1 x2 fun (x : DTask) => { F := { Kind := markText y.2.1, Fields := x.F.Fields : DFact }, Undo := x.Undo, State := x.State, Tries := x.Tries, Due := x.Due, V := x.V : DTask }) ∧ x2 < List.length (List.modify y.1 x2 fun (x : DTask) => { F := { Kind := markText y.2.1, Fields := x.F.Fields : DFact }, Undo := x.Undo, State := x.State, Tries := x.Tries, Due := x.Due, V := x.V : DTask }) ∧ (0 : Int) ≤ IntKind.wrap IntKind.i64 (y.2.1 + (1 : Int)) ∧ x4 ≤ (4611686018427387904 : Int) ∧ x4 ≤ (4611686018427387903 : Int) ∧ (0 : Int) ≤ y.2.2.1 ∧ x2 < List.length x5 ∧ x2 < List.length x5 ∧ (0 : Int) ≤ y.2.2.1 ∧ x2 < List.length (List.modify x5 x2 fun (x : DTask) => { F := x.F, Undo := markText x4, State := x.State, Tries := x.Tries, Due := x.Due, V := x.V : DTask }) ∧ x2 < List.length (List.modify x5 x2 fun (x : DTask) => { F := x.F, Undo := markText x4, State := x.State, Tries := x.Tries, Due := x.Due, V := x.V : DTask }) ∧ (0 : Int) ≤ y.2.2.1 ∧ x2 < List.length x3 ∧ x2 < List.length x3 ∧ (0 : Int) ≤ y.2.2.1 ∧ x2 < List.length (List.modify x3 x2 fun (x : DTask) => { F := x.F, Undo := x.Undo, State := x.State, Tries := x7, Due := x.Due, V := x.V : DTask }) ∧ x2 < List.length (List.modify x3 x2 fun (x : DTask) => { F := x.F, Undo := x.Undo, State := x.State, Tries := x7, Due := x.Due, V := x.V : DTask }) ∧ (0 : Int) ≤ y.2.2.1 ∧ x2 < List.length x1 ∧ x2 < List.length x1 ∧ (0 : Int) ≤ y.2.2.1 ∧ x2 < List.length (List.modify x1 x2 fun (x : DTask) => { F := x.F, Undo := x.Undo, State := x.State, Tries := x.Tries, Due := x.Due, V := { K := IntKind.wrap IntKind.i64 (IntKind.wrap IntKind.i64 (x7 + (1 : Int)) + (1 : Int)), N := x.V.N, S := x.V.S : DVal } : DTask }) ∧ x2 < List.length (List.modify x1 x2 fun (x : DTask) => { F := x.F, Undo := x.Undo, State := x.State, Tries := x.Tries, Due := x.Due, V := { K := IntKind.wrap IntKind.i64 (IntKind.wrap IntKind.i64 (x7 + (1 : Int)) + (1 : Int)), N := x.V.N, S := x.V.S : DVal } : DTask }) ∧ x6 ≤ (4611686018427387903 : Int) ∧ (0 : Int) ≤ y.2.2.1 ∧ x2 < List.length x0 ∧ x2 < List.length x0 ∧ I_laws_markTaskS_2 a k (List.modify x0 x2 fun (x : DTask) => { F := x.F, Undo := x.Undo, State := x.State, Tries := x.Tries, Due := x.Due, V := { K := x.V.K, N := x.V.N, S := markText x6 : DVal } : DTask }, IntKind.wrap IntKind.i64 (x6 + (1 : Int)), IntKind.wrap IntKind.i64 (y.2.2.1 + (1 : Int)), PUnit.unit) ∧ μ_laws_markTaskS_2 a k (List.modify x0 x2 fun (x : DTask) => { F := x.F, Undo := x.Undo, State := x.State, Tries := x.Tries, Due := x.Due, V := { K := x.V.K, N := x.V.N, S := markText x6 : DVal } : DTask }, IntKind.wrap IntKind.i64 (x6 + (1 : Int)), IntKind.wrap IntKind.i64 (y.2.2.1 + (1 : Int)), PUnit.unit) < μ_laws_markTaskS_2 a k y else asD [DV.one (Cell.lit (Value.int IntKind.i64 y.2.1))] = asD [DV.one (Cell.lit (Value.int IntKind.i64 (k + (↑(cntTaskS a) : Int))))] ∧ asD [DV.one (Cell.sl Cd.eTask y.1)] = asD [DV.one (Cell.sl Cd.eTask (markTaskS a k))]) := by kernel_rfl
theorem ok_laws_markTaskS : Holds EE (28, con_laws_markTaskS) := by
  refine holds_of EE_ok Go.Proofs.Try.func28 con_laws_markTaskS (by kernel_rfl) rfl use_laws_markTaskS (all_cons ok_laws_markText (all_cons ok_laws_markValS all_nil)) ann_laws_markTaskS (fun x hp hb => ?_)
  obtain ⟨a, k⟩ := x
  have hb_a : BdDV (U := UU) (.one (.sl .eTask a)) := hb _ (List.mem_cons_self)
  have hl_a : a.length ≤ 9223372036854775807 := Bd.len hb_a
  have hb_k : BdDV (U := UU) (.one (.lit (.int .i64 k))) := hb _ (List.mem_cons_of_mem _ (List.mem_cons_self))
  have hl_k := Bd.i64 hb_k
  have hp0 : 0 ≤ k := hp _ (List.mem_cons_self)
  have hp1 : k + cntTaskS a ≤ 4611686018427387904 := hp _ (List.mem_cons_of_mem _ (List.mem_cons_self))
  clear hp hb
  rw [vc_laws_markTaskS a k]
  dsimp only
  refine ⟨⟨by omega, by omega, by simp, by simp [ctS]⟩, ?_⟩
  rintro ⟨row, kk, i, ⟨⟩⟩ ⟨h1, h2, rfl, rfl⟩
  simp only
  have hl := mk_rl markTask cntTask a k h1 h2
  refine if_cond (fun hc => ?_) (fun hc => ?_)
  · have hc : i < a.length := by have hc := of_decide_eq_true hc; omega
    have hct := ctS_take cntTask a zTask h1 hc
    have hle := ctS_take_le cntTask a (i + 1).toNat
    have hg := mk_getD _ a zTask (mk_tl markTask cntTask a k h1 h2) h1 hc
    have hM := fun F hF => mkS_mod markTask cntTask a zTask k (i := i) F h1 hc hF
    have hq : (cntTaskS a : Int) = ctS cntTask a := rfl
    generalize List.getD a i.toNat zTask = x at *
    generalize hkk : k + (ctS cntTask (a.take i.toNat) : Int) = kk at *
    generalize List.take i.toNat (mkS markTask cntTask a k) ++ List.drop i.toNat a = R at *
    simp only [cntTask] at hct
    simp (disch := first | omega | (simp only [List.length_modify]; omega)) only [List.length_modify, wrap_i64, getD_modify, modify_modify, hg, hl]
    repeat' (first | refine And.intro (by omega) ?_ | fail)
    exact ⟨⟨by omega, by omega, hM _ rfl, by omega⟩, by simp only [μ_laws_markTaskS_2]; omega⟩
  · have hc : a.length ≤ i := by have hc := of_decide_eq_false hc; omega
    rw [mk_done markTask cntTask a k hc, ct_done cntTask a hc]
    exact ⟨rfl, rfl⟩
def con_laws_heldTaskS : Con UU where
  α := (List DTask) × Int
  md := [.ro, .ro]
  of := fun | [.one (.sl .eTask a0), .one (.lit (.int .i64 a1))] => some (a0, a1) | _ => none
  ds := fun (a, k) => [.one (.sl .eTask a), .one (.lit (.int .i64 k))]
  pre := fun (a, k) => [0 ≤ k, k + cntTaskS a ≤ 4611686018427387904]
  res := fun (a, k) => ⟨[.one (.lit (.int .i64 (if markTaskS a k = a then k + cntTaskS a else -1)))], true, []⟩
  law := by intro l x h; (try simp only at h); split at h <;> cases h; rfl
def I_laws_heldTaskS_2 (a : (List DTask)) (k : Int) : Int × Int × Unit → Prop := fun (kk, i, _) => 0 ≤ i ∧ i ≤ a.length ∧ kk = k + ctS cntTask (a.take i.toNat) ∧ (mkS markTask cntTask (a.drop i.toNat) kk = a.drop i.toNat ↔ mkS markTask cntTask a k = a)
def μ_laws_heldTaskS_2 (a : (List DTask)) (k : Int) : Int × Int × Unit → Nat := fun (kk, i, _) => a.length - i.toNat
def ann_laws_heldTaskS : con_laws_heldTaskS.α → Nat → Option (Ann UU) := fun (a, k) => annL [(2, annOf [.slot 1 (1, 1024) (.lit (.int .i64)), .slot 5 (5, 1024) (.lit (.int .i64))] (fun _ => I_laws_heldTaskS_2 a k) (μ_laws_heldTaskS_2 a k))]
def use_laws_heldTaskS : List (FuncId × Con UU) := [(89, con_laws_markText), (91, con_laws_heldValS)]
theorem vc_laws_heldTaskS (a : (List DTask)) (k : Int) : goal EE use_laws_heldTaskS Go.Proofs.Try.f29 con_laws_heldTaskS ann_laws_heldTaskS (a, k) = (I_laws_heldTaskS_2 a k (k, (0 : Int), PUnit.unit) ∧
  ∀ (y : Int × Int × PUnit),
    let x0 : Int := if markValS (List.getD a (Int.toNat y.2.1) zTask).F.Fields (IntKind.wrap IntKind.i64 (y.1 + (1 : Int))) = (List.getD a (Int.toNat y.2.1) zTask).F.Fields then IntKind.wrap IntKind.i64 (y.1 + (1 : Int)) + (↑(cntValS (List.getD a (Int.toNat y.2.1) zTask).F.Fields) : Int) else (-1 : Int);
    let x1 : DTask := List.getD a (Int.toNat y.2.1) zTask;
    let x2 : Int := IntKind.wrap IntKind.i64 (IntKind.wrap IntKind.i64 (IntKind.wrap IntKind.i64 (IntKind.wrap IntKind.i64 (IntKind.wrap IntKind.i64 (IntKind.wrap IntKind.i64 (x0 + (1 : Int)) + (1 : Int)) + (1 : Int)) + (1 : Int)) + (1 : Int)) + (1 : Int));
    let x3 : Int := IntKind.wrap IntKind.i64 (IntKind.wrap IntKind.i64 (IntKind.wrap IntKind.i64 (IntKind.wrap IntKind.i64 (x0 + (1 : Int)) + (1 : Int)) + (1 : Int)) + (1 : Int));
    let x4 : Int := IntKind.wrap IntKind.i64 (IntKind.wrap IntKind.i64 (x0 + (1 : Int)) + (1 : Int));
    I_laws_heldTaskS_2 a k y → bif decide (y.2.1 < (↑(List.length a) : Int)) then (0 : Int) ≤ y.2.1 ∧ Int.toNat y.2.1 < List.length a ∧ y.1 ≤ (4611686018427387903 : Int) ∧ bif !ByteArray.toList x1.F.Kind == ByteArray.toList (markText y.1) then Lf [DV.one (Cell.lit (Value.int IntKind.i64 (-1 : Int)))] [DV.one (Cell.lit (Value.int IntKind.i64 (if markTaskS a k = a then k + (↑(cntTaskS a) : Int) else (-1 : Int))))] else (0 : Int) ≤ y.2.1 ∧ Int.toNat y.2.1 < List.length a ∧ (0 : Int) ≤ IntKind.wrap IntKind.i64 (y.1 + (1 : Int)) ∧ IntKind.wrap IntKind.i64 (y.1 + (1 : Int)) + (↑(cntValS x1.F.Fields) : Int) ≤ (4611686018427387904 : Int) ∧ bif decide (x0 < (0 : Int)) then Lf [DV.one (Cell.lit (Value.int IntKind.i64 (-1 : Int)))] [DV.one (Cell.lit (Value.int IntKind.i64 (if markTaskS a k = a then k + (↑(cntTaskS a) : Int) else (-1 : Int))))] else (0 : Int) ≤ y.2.1 ∧ Int.toNat y.2.1 < List.length a ∧ x0 ≤ (4611686018427387903 : Int) ∧ bif !ByteArray.toList x1.Undo == ByteArray.toList (markText x0) then Lf [DV.one (Cell.lit (Value.int IntKind.i64 (-1 : Int)))] [DV.one (Cell.lit (Value.int IntKind.i64 (if markTaskS a k = a then k + (↑(cntTaskS a) : Int) else (-1 : Int))))] else (0 : Int) ≤ y.2.1 ∧ Int.toNat y.2.1 < List.length a ∧ bif x1.State != IntKind.wrap IntKind.i64 (x0 + (1 : Int)) then Lf [DV.one (Cell.lit (Value.int IntKind.i64 (-1 : Int)))] [DV.one (Cell.lit (Value.int IntKind.i64 (if markTaskS a k = a then k + (↑(cntTaskS a) : Int) else (-1 : Int))))] else (0 : Int) ≤ y.2.1 ∧ Int.toNat y.2.1 < List.length a ∧ bif x1.Tries != x4 then Lf [DV.one (Cell.lit (Value.int IntKind.i64 (-1 : Int)))] [DV.one (Cell.lit (Value.int IntKind.i64 (if markTaskS a k = a then k + (↑(cntTaskS a) : Int) else (-1 : Int))))] else (0 : Int) ≤ y.2.1 ∧ Int.toNat y.2.1 < List.length a ∧ bif x1.Due != IntKind.wrap IntKind.i64 (x4 + (1 : Int)) then Lf [DV.one (Cell.lit (Value.int IntKind.i64 (-1 : Int)))] [DV.one (Cell.lit (Value.int IntKind.i64 (if markTaskS a k = a then k + (↑(cntTaskS a) : Int) else (-1 : Int))))] else (0 : Int) ≤ y.2.1 ∧ Int.toNat y.2.1 < List.length a ∧ bif x1.V.K != x3 then Lf [DV.one (Cell.lit (Value.int IntKind.i64 (-1 : Int)))] [DV.one (Cell.lit (Value.int IntKind.i64 (if markTaskS a k = a then k + (↑(cntTaskS a) : Int) else (-1 : Int))))] else (0 : Int) ≤ y.2.1 ∧ Int.toNat y.2.1 < List.length a ∧ bif x1.V.N != IntKind.wrap IntKind.i64 (x3 + (1 : Int)) then Lf [DV.one (Cell.lit (Value.int IntKind.i64 (-1 : Int)))] [DV.one (Cell.lit (Value.int IntKind.i64 (if markTaskS a k = a then k + (↑(cntTaskS a) : Int) else (-1 : Int))))] else (0 : Int) ≤ y.2.1 ∧ Int.toNat y.2.1 < List.length a ∧ x2 ≤ (4611686018427387903 : Int) ∧ bif !ByteArray.toList x1.V.S == ByteArray.toList (markText x2) then Lf [DV.one (Cell.lit (Value.int IntKind.i64 (-1 : Int)))] [DV.one (Cell.lit (Value.int IntKind.i64 (if markTaskS a k = a then k + (↑(cntTaskS a) : Int) else (-1 : Int))))] else I_laws_heldTaskS_2 a k (IntKind.wrap IntKind.i64 (x2 + (1 : Int)), IntKind.wrap IntKind.i64 (y.2.1 + (1 : Int)), PUnit.unit) ∧ μ_laws_heldTaskS_2 a k (IntKind.wrap IntKind.i64 (x2 + (1 : Int)), IntKind.wrap IntKind.i64 (y.2.1 + (1 : Int)), PUnit.unit) < μ_laws_heldTaskS_2 a k y else Lf [DV.one (Cell.lit (Value.int IntKind.i64 y.1))] [DV.one (Cell.lit (Value.int IntKind.i64 (if markTaskS a k = a then k + (↑(cntTaskS a) : Int) else (-1 : Int))))]) := by kernel_rfl
theorem ok_laws_heldTaskS : Holds EE (29, con_laws_heldTaskS) := by
  refine holds_of EE_ok Go.Proofs.Try.func29 con_laws_heldTaskS (by kernel_rfl) rfl use_laws_heldTaskS (all_cons ok_laws_markText (all_cons ok_laws_heldValS all_nil)) ann_laws_heldTaskS (fun x hp hb => ?_)
  obtain ⟨a, k⟩ := x
  have hb_a : BdDV (U := UU) (.one (.sl .eTask a)) := hb _ (List.mem_cons_self)
  have hl_a : a.length ≤ 9223372036854775807 := Bd.len hb_a
  have hb_k : BdDV (U := UU) (.one (.lit (.int .i64 k))) := hb _ (List.mem_cons_of_mem _ (List.mem_cons_self))
  have hl_k := Bd.i64 hb_k
  have hp0 : 0 ≤ k := hp _ (List.mem_cons_self)
  have hp1 : k + cntTaskS a ≤ 4611686018427387904 := hp _ (List.mem_cons_of_mem _ (List.mem_cons_self))
  clear hp hb
  rw [vc_laws_heldTaskS a k]
  dsimp only
  refine ⟨⟨by omega, by omega, by simp [ctS], by simp⟩, ?_⟩
  rintro ⟨kk, i, ⟨⟩⟩ ⟨h1, h2, hkk, hR⟩
  simp only
  simp only [markTaskS]
  refine if_cond (fun hc => ?_) (fun hc => ?_)
  · have hc : i < a.length := by have hc := of_decide_eq_true hc; omega
    have hct := ctS_take cntTask a zTask h1 hc
    have hle := ctS_take_le cntTask a (i + 1).toNat
    have hq : (cntTaskS a : Int) = ctS cntTask a := rfl
    rw [drop_step a zTask h1 hc] at hR
    generalize List.getD a i.toNat zTask = x at *
    simp only [mkS, List.cons.injEq] at hR
    have e : kk + (cntTask x : Int) = kk + 1 + (cntValS x.F.Fields : Int) + 1 + 1 + 1 + 1 + 1 + 1 + 1 := by simp only [cntTask]; omega
    rw [e] at hR
    simp only [markTask, cntTask] at hR hct
    simp (disch := omega) only [wrap_i64, bne_int, toList_beq]
    obtain ⟨⟨x_F_Kind, x_F_Fields⟩, x_Undo, x_State, x_Tries, x_Due, ⟨x_V_K, x_V_N, x_V_S⟩⟩ := x
    simp only [DFact.mk.injEq, DTask.mk.injEq, DVal.mk.injEq] at *
    repeat' (first | refine And.intro (by omega) ?_ | fail)
    refine if_cond (fun h => Lf_no (fun hh => ?_)) (fun h => ?_)
    · have hh := hR.2 hh; simp_all
    have h : x_F_Kind = markText (kk) := by simpa using h
    subst x_F_Kind
    repeat' (first | refine And.intro (by omega) ?_ | fail)
    by_cases hm : markValS x_F_Fields (kk + 1) = x_F_Fields
    rotate_left
    · simp only [if_neg hm]; rw [cond_yes (by decide)]
      exact Lf_no (fun hh => hm (by have hh := hR.2 hh; simp_all))
    simp only [if_pos hm]
    refine if_cond (fun h => absurd (of_decide_eq_true h) (by omega)) (fun h => ?_)
    simp only [hm] at hR
    clear hm
    repeat' (first | refine And.intro (by omega) ?_ | fail)
    refine if_cond (fun h => Lf_no (fun hh => ?_)) (fun h => ?_)
    · have hh := hR.2 hh; simp_all
    have h : x_Undo = markText (kk + 1 + cntValS x_F_Fields) := by simpa using h
    subst x_Undo
    repeat' (first | refine And.intro (by omega) ?_ | fail)
    refine if_cond (fun h => Lf_no (fun hh => ?_)) (fun h => ?_)
    · have hh := hR.2 hh; simp_all
    have h : x_State = kk + 1 + cntValS x_F_Fields + 1 := by simpa using h
    subst x_State
    repeat' (first | refine And.intro (by omega) ?_ | fail)
    refine if_cond (fun h => Lf_no (fun hh => ?_)) (fun h => ?_)
    · have hh := hR.2 hh; simp_all
    have h : x_Tries = kk + 1 + cntValS x_F_Fields + 1 + 1 := by simpa using h
    subst x_Tries
    repeat' (first | refine And.intro (by omega) ?_ | fail)
    refine if_cond (fun h => Lf_no (fun hh => ?_)) (fun h => ?_)
    · have hh := hR.2 hh; simp_all
    have h : x_Due = kk + 1 + cntValS x_F_Fields + 1 + 1 + 1 := by simpa using h
    subst x_Due
    repeat' (first | refine And.intro (by omega) ?_ | fail)
    refine if_cond (fun h => Lf_no (fun hh => ?_)) (fun h => ?_)
    · have hh := hR.2 hh; simp_all
    have h : x_V_K = kk + 1 + cntValS x_F_Fields + 1 + 1 + 1 + 1 := by simpa using h
    subst x_V_K
    repeat' (first | refine And.intro (by omega) ?_ | fail)
    refine if_cond (fun h => Lf_no (fun hh => ?_)) (fun h => ?_)
    · have hh := hR.2 hh; simp_all
    have h : x_V_N = kk + 1 + cntValS x_F_Fields + 1 + 1 + 1 + 1 + 1 := by simpa using h
    subst x_V_N
    repeat' (first | refine And.intro (by omega) ?_ | fail)
    refine if_cond (fun h => Lf_no (fun hh => ?_)) (fun h => ?_)
    · have hh := hR.2 hh; simp_all
    have h : x_V_S = markText (kk + 1 + cntValS x_F_Fields + 1 + 1 + 1 + 1 + 1 + 1) := by simpa using h
    subst x_V_S
    exact ⟨⟨by omega, by omega, by omega, by simpa using hR⟩, by simp only [μ_laws_heldTaskS_2]; omega⟩
  · have hc : a.length ≤ i := by have hc := of_decide_eq_false hc; omega
    rw [drop_end a hc] at hR
    exact Lf_yes (hR.1 rfl) (by rw [hkk, ct_done _ _ hc]; rfl)
def con_laws_eqUndo : Con UU where
  α := DUndo × DUndo
  md := [.ro, .ro]
  of := fun | [.agg [.lit (.string a0), .lit (.string a1), .sl .eVal a2], .agg [.lit (.string a3), .lit (.string a4), .sl .eVal a5]] => some (⟨a0, ⟨a1, a2⟩⟩, ⟨a3, ⟨a4, a5⟩⟩) | _ => none
  ds := fun (a, b) => [.agg [.lit (.string a.Key), .lit (.string a.F.Kind), .sl .eVal a.F.Fields], .agg [.lit (.string b.Key), .lit (.string b.F.Kind), .sl .eVal b.F.Fields]]
  pre := fun (a, b) => []
  res := fun (a, b) => ⟨[.one (.lit (.bool (decide (a = b))))], true, []⟩
  law := by intro l x h; (try simp only at h); split at h <;> cases h; rfl
def ann_laws_eqUndo : con_laws_eqUndo.α → Nat → Option (Ann UU) := fun (a, b) => annL []
def use_laws_eqUndo : List (FuncId × Con UU) := [(53, con_laws_eqFact)]
theorem vc_laws_eqUndo (a : DUndo) (b : DUndo) : goal EE use_laws_eqUndo Go.Proofs.Try.f75 con_laws_eqUndo ann_laws_eqUndo (a, b) = (bif !ByteArray.toList a.Key == ByteArray.toList b.Key then Lf [DV.one (Cell.lit (Value.bool false))] [DV.one (Cell.lit (Value.bool (decide (a = b))))] else bif !decide (a.F = b.F) then Lf [DV.one (Cell.lit (Value.bool false))] [DV.one (Cell.lit (Value.bool (decide (a = b))))] else Lf [DV.one (Cell.lit (Value.bool true))] [DV.one (Cell.lit (Value.bool (decide (a = b))))]) := by kernel_rfl
theorem ok_laws_eqUndo : Holds EE (75, con_laws_eqUndo) := by
  refine holds_of EE_ok Go.Proofs.Try.func75 con_laws_eqUndo (by kernel_rfl) rfl use_laws_eqUndo (all_cons ok_laws_eqFact all_nil) ann_laws_eqUndo (fun x hp hb => ?_)
  obtain ⟨a, b⟩ := x
  have hb_a : BdDV (U := UU) (.agg [.lit (.string a.Key), .lit (.string a.F.Kind), .sl .eVal a.F.Fields]) := hb _ (List.mem_cons_self)
  have hl_a_Key : a.Key.size ≤ 9223372036854775807 := Bd.str (hb_a _ (by simp))
  have hl_a_F_Kind : a.F.Kind.size ≤ 9223372036854775807 := Bd.str (hb_a _ (by simp))
  have hl_a_F_Fields : a.F.Fields.length ≤ 9223372036854775807 := Bd.len (U := UU) (τ := .eVal) (xs := a.F.Fields) (hb_a _ (by simp))
  have hb_b : BdDV (U := UU) (.agg [.lit (.string b.Key), .lit (.string b.F.Kind), .sl .eVal b.F.Fields]) := hb _ (List.mem_cons_of_mem _ (List.mem_cons_self))
  have hl_b_Key : b.Key.size ≤ 9223372036854775807 := Bd.str (hb_b _ (by simp))
  have hl_b_F_Kind : b.F.Kind.size ≤ 9223372036854775807 := Bd.str (hb_b _ (by simp))
  have hl_b_F_Fields : b.F.Fields.length ≤ 9223372036854775807 := Bd.len (U := UU) (τ := .eVal) (xs := b.F.Fields) (hb_b _ (by simp))
  clear hp hb
  rw [vc_laws_eqUndo a b]
  obtain ⟨aKey, aF⟩ := a
  obtain ⟨bKey, bF⟩ := b
  repeat' (apply if_cond <;> intro _)
  all_goals (first | apply Lf_t | apply Lf_f) <;> simp_all
def con_laws_eqUndoS : Con UU where
  α := (List DUndo) × (List DUndo)
  md := [.ro, .ro]
  of := fun | [.one (.sl .eUndo a0), .one (.sl .eUndo a1)] => some (a0, a1) | _ => none
  ds := fun (a, b) => [.one (.sl .eUndo a), .one (.sl .eUndo b)]
  pre := fun (a, b) => []
  res := fun (a, b) => ⟨[.one (.lit (.bool (decide (a = b))))], true, []⟩
  law := by intro l x h; (try simp only at h); split at h <;> cases h; rfl
def I_laws_eqUndoS_4 (a : (List DUndo)) (b : (List DUndo)) : Int × Unit → Prop := fun (i, _) => 0 ≤ i ∧ i ≤ a.length ∧ a.length = b.length ∧ (a.drop i.toNat = b.drop i.toNat ↔ a = b)
def μ_laws_eqUndoS_4 (a : (List DUndo)) (b : (List DUndo)) : Int × Unit → Nat := fun (i, _) => a.length - i.toNat
def ann_laws_eqUndoS : con_laws_eqUndoS.α → Nat → Option (Ann UU) := fun (a, b) => annL [(4, annOf [.slot 5 (5, 1024) (.lit (.int .i64))] (fun _ => I_laws_eqUndoS_4 a b) (μ_laws_eqUndoS_4 a b))]
def use_laws_eqUndoS : List (FuncId × Con UU) := [(75, con_laws_eqUndo)]
theorem vc_laws_eqUndoS (a : (List DUndo)) (b : (List DUndo)) : goal EE use_laws_eqUndoS Go.Proofs.Try.f17 con_laws_eqUndoS ann_laws_eqUndoS (a, b) = (bif (↑(List.length a) : Int) != (↑(List.length b) : Int) then Lf [DV.one (Cell.lit (Value.bool false))] [DV.one (Cell.lit (Value.bool (decide (a = b))))] else I_laws_eqUndoS_4 a b ((0 : Int), PUnit.unit) ∧ ∀ (y : Int × PUnit), I_laws_eqUndoS_4 a b y → bif decide (y.1 < (↑(List.length a) : Int)) then (0 : Int) ≤ y.1 ∧ Int.toNat y.1 < List.length a ∧ (0 : Int) ≤ y.1 ∧ Int.toNat y.1 < List.length b ∧ bif !decide (List.getD a (Int.toNat y.1) zUndo = List.getD b (Int.toNat y.1) zUndo) then Lf [DV.one (Cell.lit (Value.bool false))] [DV.one (Cell.lit (Value.bool (decide (a = b))))] else I_laws_eqUndoS_4 a b (IntKind.wrap IntKind.i64 (y.1 + (1 : Int)), PUnit.unit) ∧ μ_laws_eqUndoS_4 a b (IntKind.wrap IntKind.i64 (y.1 + (1 : Int)), PUnit.unit) < μ_laws_eqUndoS_4 a b y else Lf [DV.one (Cell.lit (Value.bool true))] [DV.one (Cell.lit (Value.bool (decide (a = b))))]) := by kernel_rfl
theorem ok_laws_eqUndoS : Holds EE (17, con_laws_eqUndoS) := by
  refine holds_of EE_ok Go.Proofs.Try.func17 con_laws_eqUndoS (by kernel_rfl) rfl use_laws_eqUndoS (all_cons ok_laws_eqUndo all_nil) ann_laws_eqUndoS (fun x hp hb => ?_)
  obtain ⟨a, b⟩ := x
  have hb_a : BdDV (U := UU) (.one (.sl .eUndo a)) := hb _ (List.mem_cons_self)
  have hl_a : a.length ≤ 9223372036854775807 := Bd.len hb_a
  have hb_b : BdDV (U := UU) (.one (.sl .eUndo b)) := hb _ (List.mem_cons_of_mem _ (List.mem_cons_self))
  have hl_b : b.length ≤ 9223372036854775807 := Bd.len hb_b
  clear hp hb
  rw [vc_laws_eqUndoS a b]
  refine if_cond (fun h => Lf_f ?_) (fun h => ⟨?_, ?_⟩)
  · rintro rfl; simp at h
  · simp [I_laws_eqUndoS_4] at *; omega
  rintro ⟨i, ⟨⟩⟩ ⟨h1, h2, h3, hR⟩
  simp only at *
  refine if_cond (fun hc => ?_) (fun hc => ?_)
  · have hc : i < a.length := by simpa using hc
    rw [drop_step a zUndo h1 hc, drop_step b zUndo h1 (by omega)] at hR
    rw [wrap_i64 (by omega) (by omega)]
    refine ⟨by omega, by omega, by omega, by omega, if_cond (fun h => Lf_f ?_) (fun h => ⟨⟨by omega, by omega, h3, ?_⟩, ?_⟩)⟩
    · rw [← hR]; simp at h; simp [h]
    · rw [← hR]; simp at h; simp [h]
    · simp only [μ_laws_eqUndoS_4]; omega
  · have hc : a.length ≤ i := by simpa using hc
    rw [drop_end a hc, drop_end b (by omega)] at hR
    exact Lf_t (hR.1 rfl)
def con_laws_markUndoS : Con UU where
  α := (List DUndo) × Int
  md := [.wr, .ro]
  of := fun | [.one (.sl .eUndo a0), .one (.lit (.int .i64 a1))] => some (a0, a1) | _ => none
  ds := fun (a, k) => [.one (.sl .eUndo a), .one (.lit (.int .i64 k))]
  pre := fun (a, k) => [0 ≤ k, k + cntUndoS a ≤ 4611686018427387904]
  res := fun (a, k) => ⟨[.one (.lit (.int .i64 (k + cntUndoS a)))], true, [.one (.sl .eUndo (markUndoS a k))]⟩
  law := by intro l x h; (try simp only at h); split at h <;> cases h; rfl
def I_laws_markUndoS_2 (a : (List DUndo)) (k : Int) : List DUndo × Int × Int × Unit → Prop := fun (row, kk, i, _) => 0 ≤ i ∧ i ≤ a.length ∧ row = (mkS markUndo cntUndo a k).take i.toNat ++ a.drop i.toNat ∧ kk = k + ctS cntUndo (a.take i.toNat)
def μ_laws_markUndoS_2 (a : (List DUndo)) (k : Int) : List DUndo × Int × Int × Unit → Nat := fun (row, kk, i, _) => a.length - i.toNat
def ann_laws_markUndoS : con_laws_markUndoS.α → Nat → Option (Ann UU) := fun (a, k) => annL [(2, annOf [.slot 0 (2000000, 0) (.own .eUndo true), .slot 1 (1, 1024) (.lit (.int .i64)), .slot 5 (5, 1024) (.lit (.int .i64))] (fun _ => I_laws_markUndoS_2 a k) (μ_laws_markUndoS_2 a k))]
def use_laws_markUndoS : List (FuncId × Con UU) := [(89, con_laws_markText), (90, con_laws_markValS)]
theorem vc_laws_markUndoS (a : (List DUndo)) (k : Int) : goal EE use_laws_markUndoS Go.Proofs.Try.f125 con_laws_markUndoS ann_laws_markUndoS (a, k) = (I_laws_markUndoS_2 a k (a, k, (0 : Int), PUnit.unit) ∧
  ∀ (y : List DUndo × Int × Int × PUnit),
    let x0 : List DUndo := List.modify (List.modify y.1 (Int.toNat y.2.2.1) fun (x : DUndo) => { Key := markText y.2.1, F := x.F : DUndo }) (Int.toNat y.2.2.1) fun (x : DUndo) => { Key := x.Key, F := { Kind := markText (IntKind.wrap IntKind.i64 (y.2.1 + (1 : Int))), Fields := x.F.Fields : DFact } : DUndo };
    let x1 : Nat := Int.toNat y.2.2.1;
    let x2 : Int := IntKind.wrap IntKind.i64 (IntKind.wrap IntKind.i64 (y.2.1 + (1 : Int)) + (1 : Int));
    let x3 : Int := x2 + (↑(cntValS (List.getD x0 x1 zUndo).F.Fields) : Int);
    I_laws_markUndoS_2 a k y → bif decide (y.2.2.1 < (↑(List.length y.1) : Int)) then y.2.1 ≤ (4611686018427387903 : Int) ∧ (0 : Int) ≤ y.2.2.1 ∧ x1 < List.length y.1 ∧ x1 < List.length y.1 ∧ IntKind.wrap IntKind.i64 (y.2.1 + (1 : Int)) ≤ (4611686018427387903 : Int) ∧ (0 : Int) ≤ y.2.2.1 ∧ x1 < List.length (List.modify y.1 x1 fun (x : DUndo) => { Key := markText y.2.1, F := x.F : DUndo }) ∧ x1 < List.length (List.modify y.1 x1 fun (x : DUndo) => { Key := markText y.2.1, F := x.F : DUndo }) ∧ (0 : Int) ≤ y.2.2.1 ∧ x1 < List.length x0 ∧ x1 < List.length x0 ∧ x1 < List.length x0 ∧ (0 : Int) ≤ x2 ∧ x3 ≤ (4611686018427387904 : Int) ∧ I_laws_markUndoS_2 a k (List.modify x0 x1 fun (x : DUndo) => { Key := x.Key, F := { Kind := x.F.Kind, Fields := markValS (List.getD x0 x1 zUndo).F.Fields x2 : DFact } : DUndo }, x3, IntKind.wrap IntKind.i64 (y.2.2.1 + (1 : Int)), PUnit.unit) ∧ μ_laws_markUndoS_2 a k (List.modify x0 x1 fun (x : DUndo) => { Key := x.Key, F := { Kind := x.F.Kind, Fields := markValS (List.getD x0 x1 zUndo).F.Fields x2 : DFact } : DUndo }, x3, IntKind.wrap IntKind.i64 (y.2.2.1 + (1 : Int)), PUnit.unit) < μ_laws_markUndoS_2 a k y else asD [DV.one (Cell.lit (Value.int IntKind.i64 y.2.1))] = asD [DV.one (Cell.lit (Value.int IntKind.i64 (k + (↑(cntUndoS a) : Int))))] ∧ asD [DV.one (Cell.sl Cd.eUndo y.1)] = asD [DV.one (Cell.sl Cd.eUndo (markUndoS a k))]) := by kernel_rfl
theorem ok_laws_markUndoS : Holds EE (125, con_laws_markUndoS) := by
  refine holds_of EE_ok Go.Proofs.Try.func125 con_laws_markUndoS (by kernel_rfl) rfl use_laws_markUndoS (all_cons ok_laws_markText (all_cons ok_laws_markValS all_nil)) ann_laws_markUndoS (fun x hp hb => ?_)
  obtain ⟨a, k⟩ := x
  have hb_a : BdDV (U := UU) (.one (.sl .eUndo a)) := hb _ (List.mem_cons_self)
  have hl_a : a.length ≤ 9223372036854775807 := Bd.len hb_a
  have hb_k : BdDV (U := UU) (.one (.lit (.int .i64 k))) := hb _ (List.mem_cons_of_mem _ (List.mem_cons_self))
  have hl_k := Bd.i64 hb_k
  have hp0 : 0 ≤ k := hp _ (List.mem_cons_self)
  have hp1 : k + cntUndoS a ≤ 4611686018427387904 := hp _ (List.mem_cons_of_mem _ (List.mem_cons_self))
  clear hp hb
  rw [vc_laws_markUndoS a k]
  dsimp only
  refine ⟨⟨by omega, by omega, by simp, by simp [ctS]⟩, ?_⟩
  rintro ⟨row, kk, i, ⟨⟩⟩ ⟨h1, h2, rfl, rfl⟩
  simp only
  have hl := mk_rl markUndo cntUndo a k h1 h2
  refine if_cond (fun hc => ?_) (fun hc => ?_)
  · have hc : i < a.length := by have hc := of_decide_eq_true hc; omega
    have hct := ctS_take cntUndo a zUndo h1 hc
    have hle := ctS_take_le cntUndo a (i + 1).toNat
    have hg := mk_getD _ a zUndo (mk_tl markUndo cntUndo a k h1 h2) h1 hc
    have hM := fun F hF => mkS_mod markUndo cntUndo a zUndo k (i := i) F h1 hc hF
    have hq : (cntUndoS a : Int) = ctS cntUndo a := rfl
    generalize List.getD a i.toNat zUndo = x at *
    generalize hkk : k + (ctS cntUndo (a.take i.toNat) : Int) = kk at *
    generalize List.take i.toNat (mkS markUndo cntUndo a k) ++ List.drop i.toNat a = R at *
    simp only [cntUndo] at hct
    simp (disch := first | omega | (simp only [List.length_modify]; omega)) only [List.length_modify, wrap_i64, getD_modify, modify_modify, hg, hl]
    repeat' (first | refine And.intro (by omega) ?_ | fail)
    exact ⟨⟨by omega, by omega, hM _ rfl, by omega⟩, by simp only [μ_laws_markUndoS_2]; omega⟩
  · have hc : a.length ≤ i := by have hc := of_decide_eq_false hc; omega
    rw [mk_done markUndo cntUndo a k hc, ct_done cntUndo a hc]
    exact ⟨rfl, rfl⟩
def con_laws_heldUndoS : Con UU where
  α := (List DUndo) × Int
  md := [.ro, .ro]
  of := fun | [.one (.sl .eUndo a0), .one (.lit (.int .i64 a1))] => some (a0, a1) | _ => none
  ds := fun (a, k) => [.one (.sl .eUndo a), .one (.lit (.int .i64 k))]
  pre := fun (a, k) => [0 ≤ k, k + cntUndoS a ≤ 4611686018427387904]
  res := fun (a, k) => ⟨[.one (.lit (.int .i64 (if markUndoS a k = a then k + cntUndoS a else -1)))], true, []⟩
  law := by intro l x h; (try simp only at h); split at h <;> cases h; rfl
def I_laws_heldUndoS_2 (a : (List DUndo)) (k : Int) : Int × Int × Unit → Prop := fun (kk, i, _) => 0 ≤ i ∧ i ≤ a.length ∧ kk = k + ctS cntUndo (a.take i.toNat) ∧ (mkS markUndo cntUndo (a.drop i.toNat) kk = a.drop i.toNat ↔ mkS markUndo cntUndo a k = a)
def μ_laws_heldUndoS_2 (a : (List DUndo)) (k : Int) : Int × Int × Unit → Nat := fun (kk, i, _) => a.length - i.toNat
def ann_laws_heldUndoS : con_laws_heldUndoS.α → Nat → Option (Ann UU) := fun (a, k) => annL [(2, annOf [.slot 1 (1, 1024) (.lit (.int .i64)), .slot 5 (5, 1024) (.lit (.int .i64))] (fun _ => I_laws_heldUndoS_2 a k) (μ_laws_heldUndoS_2 a k))]
def use_laws_heldUndoS : List (FuncId × Con UU) := [(89, con_laws_markText), (91, con_laws_heldValS)]
theorem vc_laws_heldUndoS (a : (List DUndo)) (k : Int) : goal EE use_laws_heldUndoS Go.Proofs.Try.f128 con_laws_heldUndoS ann_laws_heldUndoS (a, k) = (I_laws_heldUndoS_2 a k (k, (0 : Int), PUnit.unit) ∧
  ∀ (y : Int × Int × PUnit),
    let x0 : Int := if markValS (List.getD a (Int.toNat y.2.1) zUndo).F.Fields (IntKind.wrap IntKind.i64 (IntKind.wrap IntKind.i64 (y.1 + (1 : Int)) + (1 : Int))) = (List.getD a (Int.toNat y.2.1) zUndo).F.Fields then IntKind.wrap IntKind.i64 (IntKind.wrap IntKind.i64 (y.1 + (1 : Int)) + (1 : Int)) + (↑(cntValS (List.getD a (Int.toNat y.2.1) zUndo).F.Fields) : Int) else (-1 : Int);
    let x1 : DFact := (List.getD a (Int.toNat y.2.1) zUndo).F;
    let x2 : Nat := Int.toNat y.2.1;
    let x3 : Int := IntKind.wrap IntKind.i64 (y.1 + (1 : Int));
    I_laws_heldUndoS_2 a k y → bif decide (y.2.1 < (↑(List.length a) : Int)) then (0 : Int) ≤ y.2.1 ∧ x2 < List.length a ∧ y.1 ≤ (4611686018427387903 : Int) ∧ bif !ByteArray.toList (List.getD a x2 zUndo).Key == ByteArray.toList (markText y.1) then Lf [DV.one (Cell.lit (Value.int IntKind.i64 (-1 : Int)))] [DV.one (Cell.lit (Value.int IntKind.i64 (if markUndoS a k = a then k + (↑(cntUndoS a) : Int) else (-1 : Int))))] else (0 : Int) ≤ y.2.1 ∧ x2 < List.length a ∧ x3 ≤ (4611686018427387903 : Int) ∧ bif !ByteArray.toList x1.Kind == ByteArray.toList (markText x3) then Lf [DV.one (Cell.lit (Value.int IntKind.i64 (-1 : Int)))] [DV.one (Cell.lit (Value.int IntKind.i64 (if markUndoS a k = a then k + (↑(cntUndoS a) : Int) else (-1 : Int))))] else (0 : Int) ≤ y.2.1 ∧ x2 < List.length a ∧ (0 : Int) ≤ IntKind.wrap IntKind.i64 (x3 + (1 : Int)) ∧ IntKind.wrap IntKind.i64 (x3 + (1 : Int)) + (↑(cntValS x1.Fields) : Int) ≤ (4611686018427387904 : Int) ∧ bif decide (x0 < (0 : Int)) then Lf [DV.one (Cell.lit (Value.int IntKind.i64 (-1 : Int)))] [DV.one (Cell.lit (Value.int IntKind.i64 (if markUndoS a k = a then k + (↑(cntUndoS a) : Int) else (-1 : Int))))] else I_laws_heldUndoS_2 a k (x0, IntKind.wrap IntKind.i64 (y.2.1 + (1 : Int)), PUnit.unit) ∧ μ_laws_heldUndoS_2 a k (x0, IntKind.wrap IntKind.i64 (y.2.1 + (1 : Int)), PUnit.unit) < μ_laws_heldUndoS_2 a k y else Lf [DV.one (Cell.lit (Value.int IntKind.i64 y.1))] [DV.one (Cell.lit (Value.int IntKind.i64 (if markUndoS a k = a then k + (↑(cntUndoS a) : Int) else (-1 : Int))))]) := by kernel_rfl
theorem ok_laws_heldUndoS : Holds EE (128, con_laws_heldUndoS) := by
  refine holds_of EE_ok Go.Proofs.Try.func128 con_laws_heldUndoS (by kernel_rfl) rfl use_laws_heldUndoS (all_cons ok_laws_markText (all_cons ok_laws_heldValS all_nil)) ann_laws_heldUndoS (fun x hp hb => ?_)
  obtain ⟨a, k⟩ := x
  have hb_a : BdDV (U := UU) (.one (.sl .eUndo a)) := hb _ (List.mem_cons_self)
  have hl_a : a.length ≤ 9223372036854775807 := Bd.len hb_a
  have hb_k : BdDV (U := UU) (.one (.lit (.int .i64 k))) := hb _ (List.mem_cons_of_mem _ (List.mem_cons_self))
  have hl_k := Bd.i64 hb_k
  have hp0 : 0 ≤ k := hp _ (List.mem_cons_self)
  have hp1 : k + cntUndoS a ≤ 4611686018427387904 := hp _ (List.mem_cons_of_mem _ (List.mem_cons_self))
  clear hp hb
  rw [vc_laws_heldUndoS a k]
  dsimp only
  refine ⟨⟨by omega, by omega, by simp [ctS], by simp⟩, ?_⟩
  rintro ⟨kk, i, ⟨⟩⟩ ⟨h1, h2, hkk, hR⟩
  simp only
  simp only [markUndoS]
  refine if_cond (fun hc => ?_) (fun hc => ?_)
  · have hc : i < a.length := by have hc := of_decide_eq_true hc; omega
    have hct := ctS_take cntUndo a zUndo h1 hc
    have hle := ctS_take_le cntUndo a (i + 1).toNat
    have hq : (cntUndoS a : Int) = ctS cntUndo a := rfl
    rw [drop_step a zUndo h1 hc] at hR
    generalize List.getD a i.toNat zUndo = x at *
    simp only [mkS, List.cons.injEq] at hR
    have e : kk + (cntUndo x : Int) = kk + 1 + 1 + (cntValS x.F.Fields : Int) := by simp only [cntUndo]; omega
    rw [e] at hR
    simp only [markUndo, cntUndo] at hR hct
    simp (disch := omega) only [wrap_i64, bne_int, toList_beq]
    obtain ⟨x_Key, ⟨x_F_Kind, x_F_Fields⟩⟩ := x
    simp only [DFact.mk.injEq, DUndo.mk.injEq] at *
    repeat' (first | refine And.intro (by omega) ?_ | fail)
    refine if_cond (fun h => Lf_no (fun hh => ?_)) (fun h => ?_)
    · have hh := hR.2 hh; simp_all
    have h : x_Key = markText (kk) := by simpa using h
    subst x_Key
    repeat' (first | refine And.intro (by omega) ?_ | fail)
    refine if_cond (fun h => Lf_no (fun hh => ?_)) (fun h => ?_)
    · have hh := hR.2 hh; simp_all
    have h : x_F_Kind = markText (kk + 1) := by simpa using h
    subst x_F_Kind
    repeat' (first | refine And.intro (by omega) ?_ | fail)
    by_cases hm : markValS x_F_Fields (kk + 1 + 1) = x_F_Fields
    rotate_left
    · simp only [if_neg hm]; rw [cond_yes (by decide)]
      exact Lf_no (fun hh => hm (by have hh := hR.2 hh; simp_all))
    simp only [if_pos hm]
    refine if_cond (fun h => absurd (of_decide_eq_true h) (by omega)) (fun h => ?_)
    simp only [hm] at hR
    clear hm
    exact ⟨⟨by omega, by omega, by omega, by simpa using hR⟩, by simp only [μ_laws_heldUndoS_2]; omega⟩
  · have hc : a.length ≤ i := by have hc := of_decide_eq_false hc; omega
    rw [drop_end a hc] at hR
    exact Lf_yes (hR.1 rfl) (by rw [hkk, ct_done _ _ hc]; rfl)
def allI (n : Nat) (p : Nat → Bool) : Bool := (List.range n).all p
theorem allI_true {n : Nat} {p : Nat → Bool} (h : ∀ j, j < n → p j = true) : allI n p = true := by simpa [allI] using h
theorem allI_false {n : Nat} {p : Nat → Bool} {j : Nat} (h : j < n) (hj : p j = false) : allI n p = false := by
  simp only [allI, List.all_eq_false, List.mem_range]
  exact ⟨j, h, by simp [hj]⟩
theorem upto_step {i : Int} {p : Nat → Bool} (h0 : 0 ≤ i) (h : ∀ j : Nat, (j : Int) < i → p j = true) (hi : p i.toNat = true) : ∀ j : Nat, (j : Int) < i + 1 → p j = true := by
  intro j hj
  by_cases hji : (j : Int) < i
  · exact h j hji
  · have : j = i.toNat := by omega
    subst this; exact hi
def timerOk (x : DTimer) : Bool := decide (0 ≤ x.At ∧ x.At ≤ 1000000000) && factOk x.F
def timerAt (l : List DTimer) (i : Nat) : Bool := timerOk (List.getD l i zTimer) && (decide (i = 0) || decide ((List.getD l (i - 1) zTimer).At ≤ (List.getD l i zTimer).At))
def timersOk (l : List DTimer) : Bool := decide (l.length ≤ 30) && allI l.length (timerAt l)
def con_impl_isTime : Con UU where
  α := Int
  md := [.ro]
  of := fun | [.one (.lit (.int .i64 a0))] => some a0 | _ => none
  ds := fun n => [.one (.lit (.int .i64 n))]
  pre := fun n => []
  res := fun n => ⟨[.one (.lit (.bool (decide (0 ≤ n ∧ n ≤ 1000000000))))], true, []⟩
  law := by intro l x h; (try simp only at h); split at h <;> cases h; rfl
def ann_impl_isTime : con_impl_isTime.α → Nat → Option (Ann UU) := fun n => annL []
def use_impl_isTime : List (FuncId × Con UU) := [(146, con_impl_inRange)]
theorem vc_impl_isTime (n : Int) : goal EE use_impl_isTime Go.Proofs.Try.f119 con_impl_isTime ann_impl_isTime n = (Lf [DV.one (Cell.lit (Value.bool (decide ((0 : Int) ≤ n ∧ n ≤ (1000000000 : Int)))))] [DV.one (Cell.lit (Value.bool (decide ((0 : Int) ≤ n ∧ n ≤ (1000000000 : Int)))))]) := by kernel_rfl
theorem ok_impl_isTime : Holds EE (119, con_impl_isTime) := by
  refine holds_of EE_ok Go.Proofs.Try.func119 con_impl_isTime (by kernel_rfl) rfl use_impl_isTime (all_cons ok_impl_inRange all_nil) ann_impl_isTime (fun (n : Int) hp hb => ?_)
  have hb_n : BdDV (U := UU) (.one (.lit (.int .i64 n))) := hb _ (List.mem_cons_self)
  have hl_n := Bd.i64 hb_n
  clear hp hb
  rw [vc_impl_isTime n]
  exact Lf_rfl _
/-- The first place where p holds; -1. -/
def idxI (n : Nat) (p : Nat → Bool) : Int := match (List.range n).find? p with | some i => i | none => -1
def anyI (n : Nat) (p : Nat → Bool) : Bool := (List.range n).any p
theorem idxI_found {n i : Nat} {p : Nat → Bool} (h : i < n) (hp : p i = true) (hj : ∀ j, j < i → p j = false) : idxI n p = i := by
  have : (List.range n).find? p = some i := by
    rw [List.find?_range_eq_some]
    exact ⟨hp, List.mem_range.2 h, fun j hj' => by simp [hj j hj']⟩
  simp [idxI, this]
theorem idxI_none {n : Nat} {p : Nat → Bool} (hj : ∀ j, j < n → p j = false) : idxI n p = -1 := by
  have : (List.range n).find? p = none := by
    rw [List.find?_eq_none]
    intro j hj'
    simp [hj j (List.mem_range.1 hj')]
  simp [idxI, this]
theorem idxI_cases (n : Nat) (p : Nat → Bool) : (idxI n p = -1 ∧ ∀ j, j < n → p j = false) ∨ ∃ i, i < n ∧ idxI n p = (i : Int) ∧ p i = true ∧ ∀ j, j < i → p j = false := by
  cases h : (List.range n).find? p with
  | none =>
    refine .inl ⟨by simp [idxI, h], fun j hj => ?_⟩
    have := List.find?_eq_none.1 h j (List.mem_range.2 hj)
    simpa using this
  | some i =>
    rw [List.find?_range_eq_some] at h
    obtain ⟨h1, h2, h3⟩ := h
    exact .inr ⟨i, List.mem_range.1 h2, idxI_found (List.mem_range.1 h2) h1 (fun j hj => by simpa using h3 j hj), h1, fun j hj => by simpa using h3 j hj⟩
theorem idxI_congr {n : Nat} {p q : Nat → Bool} (h : ∀ j, j < n → p j = q j) : idxI n p = idxI n q := by
  rcases idxI_cases n q with ⟨h1, h2⟩ | ⟨i, h1, h2, h3, h4⟩
  · rw [h1, idxI_none (fun j hj => by rw [h j hj, h2 j hj])]
  · rw [h2, idxI_found h1 (by rw [h i h1, h3]) (fun j hj => by rw [h j (by omega), h4 j hj])]
theorem anyI_true {n j : Nat} {p : Nat → Bool} (h : j < n) (hp : p j = true) : anyI n p = true := by
  simp only [anyI, List.any_eq_true, List.mem_range]
  exact ⟨j, h, hp⟩
theorem anyI_false {n : Nat} {p : Nat → Bool} (h : ∀ j, j < n → p j = false) : anyI n p = false := by
  simp only [anyI, List.any_eq_false, List.mem_range]
  exact fun j hj => by simp [h j hj]
theorem anyI_iff {n : Nat} {p : Nat → Bool} : anyI n p = true ↔ ∃ j, j < n ∧ p j = true := by
  simp only [anyI, List.any_eq_true, List.mem_range]
theorem anyI_not {n : Nat} {p : Nat → Bool} : anyI n p = false ↔ ∀ j, j < n → p j = false := by
  simp only [anyI, List.any_eq_false, List.mem_range, Bool.not_eq_true]
theorem allI_iff {n : Nat} {p : Nat → Bool} : allI n p = true ↔ ∀ j, j < n → p j = true := by
  simp only [allI, List.all_eq_true, List.mem_range]
theorem allI_not {n : Nat} {p : Nat → Bool} : allI n p = false ↔ ∃ j, j < n ∧ p j = false := by
  simp only [allI, List.all_eq_false, List.mem_range, Bool.not_eq_true]
theorem anyI_congr {n : Nat} {p q : Nat → Bool} (h : ∀ j, j < n → p j = q j) : anyI n p = anyI n q := by
  rw [Bool.eq_iff_iff, anyI_iff, anyI_iff]
  exact ⟨fun ⟨j, h1, h2⟩ => ⟨j, h1, by rw [← h j h1]; exact h2⟩, fun ⟨j, h1, h2⟩ => ⟨j, h1, by rw [h j h1]; exact h2⟩⟩
theorem allI_congr {n : Nat} {p q : Nat → Bool} (h : ∀ j, j < n → p j = q j) : allI n p = allI n q := by
  rw [Bool.eq_iff_iff, allI_iff, allI_iff]
  exact ⟨fun g j hj => by rw [← h j hj]; exact g j hj, fun g j hj => by rw [h j hj]; exact g j hj⟩
theorem idxI_ge {n : Nat} {p : Nat → Bool} : decide (0 ≤ idxI n p) = anyI n p := by
  rcases idxI_cases n p with ⟨h1, h2⟩ | ⟨i, h1, h2, h3, h4⟩
  · rw [h1, anyI_false h2]; rfl
  · rw [h2, anyI_true h1 h3]; simp
theorem getD_take {α : Type} (l : List α) (z : α) {i j : Nat} (h : j < i) : List.getD (l.take i) j z = List.getD l j z := by
  rw [List.getD_eq_getElem?_getD, List.getD_eq_getElem?_getD, List.getElem?_take, if_pos h]
/-- What a closure answers. -/
theorem closP_of {k : Con UU} {caps : List (DV UU)} {ds : List (DA UU)} {x : k.α} {v : Value} (h : k.of (ds.map DA.dv ++ caps) = some x) (hv : (k.res x).val = [.one (.lit v)]) (hm : (k.res x).muts = [])
    (hl : k.md.length = ds.length + caps.length) (hp : ∀ p ∈ k.pre x, p) : closP k caps ds = some v := by
  unfold closP
  simp only [h, hv, hm]
  rw [if_pos ⟨hl, hp⟩]
theorem val_beq (a b : DVal) : (a.K == b.K && (a.N == b.N && (ByteArray.toList a.S == ByteArray.toList b.S && true))) = decide (a = b) := by
  obtain ⟨K, N, S⟩ := a
  obtain ⟨K', N', S'⟩ := b
  simp only [toList_beq, Bool.and_true]
  rw [Bool.eq_iff_iff]
  simp only [Bool.and_eq_true, beq_iff_eq, decide_eq_true_eq, DVal.mk.injEq]
/-- The end of a search. -/
theorem upto_no {i : Int} {p : Nat → Bool} (h0 : 0 ≤ i) (h : ∀ j : Nat, (j : Int) < i → p j = false) (hi : p i.toNat = false) : ∀ j : Nat, (j : Int) < i + 1 → p j = false := by
  intro j hj
  by_cases hji : (j : Int) < i
  · exact h j hji
  · have : j = i.toNat := by omega
    subst this; exact hi
def daUndo (x : DUndo) : DA UU := ⟨true, [.lit (.string x.Key), .lit (.string x.F.Kind), .sl .eVal x.F.Fields]⟩
def undoAt (l : List DUndo) (i : Nat) : Bool := decide (1 ≤ (List.getD l i zUndo).Key.size ∧ (List.getD l i zUndo).Key.size ≤ 200) && factOk (List.getD l i zUndo).F && !(anyI i fun k => decide ((List.getD l k zUndo).Key = (List.getD l i zUndo).Key))
def undosOk (l : List DUndo) : Bool := decide (l.length ≤ 30) && allI l.length (undoAt l)
def hasKey (l : List DUndo) (key : ByteArray) : Bool := anyI l.length fun k => decide ((List.getD l k zUndo).Key = key)
def undoLast (l : List DUndo) : DFact := if l = [] then zFact else (List.getD l (l.length - 1) zUndo).F
theorem undoLast_ct (l : List DUndo) : ctFact (undoLast l) ≤ 20 * sizeUndoS l := by
  unfold undoLast
  split
  · exact Nat.zero_le _
  · rename_i hl
    have h0 : 0 < l.length := List.length_pos_iff.2 hl
    have h1 : (l.length - 1 : Int).toNat = l.length - 1 := by omega
    have hs := sum_getD_le sizeUndo l zUndo (i := l.length - 1) (by omega) (by omega)
    rw [h1] at hs
    have := ctFact_le (List.getD l (l.length - 1) zUndo).F
    simp only [sizeUndo] at hs
    simp only [sizeUndoS, sizeUndo]
    omega
theorem sum_take_le {α : Type} (f : α → Nat) (l : List α) (n : Nat) : ((l.take n).map f).sum ≤ (l.map f).sum := by
  have h := congrArg (fun q => (q.map f).sum) (List.take_append_drop n l)
  simp only [List.map_append, List.sum_append] at h
  omega
theorem sizeUndoS_take (l : List DUndo) (n : Nat) : sizeUndoS (l.take n) ≤ sizeUndoS l := by
  have := sum_take_le sizeUndo l n
  simp only [sizeUndoS, List.length_take]
  omega
def undoOk (s : ByteArray) : Bool := decide (s = noBytes) || nameOk s
def taskOk (t : DTask) : Bool := factOk t.F && undoOk t.Undo && decide (1 ≤ t.State ∧ t.State ≤ 4) && decide (0 ≤ t.Tries ∧ t.Tries ≤ 4) && decide (0 ≤ t.Due ∧ t.Due ≤ 1000001000) && (decide (t.V = zVal) || valOk t.V) && decide ((t.State = 1 → t.Tries = 0) ∧ (t.State = 2 → t.Tries ≠ 0))
def taskAt (l : List DTask) (i : Nat) : Bool := taskOk (List.getD l i zTask) && !(anyI i fun k => decide ((List.getD l k zTask).F = (List.getD l i zTask).F))
def tasksOk (l : List DTask) : Bool := decide (l.length ≤ 30) && allI l.length (taskAt l)
def placeOf (l : List DTask) (f : DFact) : Int := idxI l.length fun k => decide ((List.getD l k zTask).F = f)
def isOpen (t : DTask) : Bool := decide (t.State = 1 ∨ t.State = 2)
def giveUp1 (t : DTask) : DTask := if t.State = 1 ∨ t.State = 2 then ⟨t.F, t.Undo, 4, t.Tries, t.Due, t.V⟩ else t
def giveUp (l : List DTask) : List DTask := l.map giveUp1
def daTask (x : DTask) : DA UU := ⟨true, [.lit (.string x.F.Kind), .sl .eVal x.F.Fields, .lit (.string x.Undo), .lit (.int .i64 x.State), .lit (.int .i64 x.Tries), .lit (.int .i64 x.Due), .lit (.int .i64 x.V.K), .lit (.int .i64 x.V.N), .lit (.string x.V.S)]⟩
theorem fact_ext {a b : DFact} : a = b ↔ a.Kind = b.Kind ∧ a.Fields = b.Fields := by
  obtain ⟨k, f⟩ := a; obtain ⟨k', f'⟩ := b; simp
theorem map_mod {α : Type} (f : α → α) (l : List α) (z : α) {i : Int} (F : α → α) (h0 : 0 ≤ i) (h : i < l.length) (hF : F (List.getD l i.toNat z) = f (List.getD l i.toNat z)) :
    ((l.map f).take i.toNat ++ l.drop i.toNat).modify i.toNat F = (l.map f).take (i + 1).toNat ++ l.drop (i + 1).toNat := by
  have hn : i.toNat < l.length := by omega
  have e : (i + 1).toNat = i.toNat + 1 := by omega
  have ht : ((l.map f).take i.toNat).length = i.toNat := by rw [List.length_take, List.length_map]; omega
  rw [modify_set _ z, mk_getD _ l z ht h0 h, hF, drop_step l z h0 h, List.set_append_right _ _ (by rw [ht]; exact Nat.le_refl _), ht, Nat.sub_self, List.set_cons_zero, e, List.take_succ_eq_append_getElem (by simpa using hn), List.append_assoc, List.getElem_map]
  rw [List.getD_eq_getElem?_getD, List.getElem?_eq_getElem hn]
  rfl
theorem map_skip {α : Type} (f : α → α) (l : List α) (z : α) {i : Int} (h0 : 0 ≤ i) (h : i < l.length) (hF : List.getD l i.toNat z = f (List.getD l i.toNat z)) :
    (l.map f).take i.toNat ++ l.drop i.toNat = (l.map f).take (i + 1).toNat ++ l.drop (i + 1).toNat := by
  rw [← map_mod f l z (fun x => x) h0 h hF]
  have : ∀ (m : List α) (n : Nat), m.modify n (fun x => x) = m := by
    intro m n
    refine List.ext_getElem? fun j => ?_
    rw [List.getElem?_modify]
    cases m[j]? <;> simp
  rw [this]
theorem map_row {α : Type} (f : α → α) (l : List α) {i : Int} (h0 : 0 ≤ i) (h : i ≤ l.length) : ((l.map f).take i.toNat ++ l.drop i.toNat).length = l.length := by
  rw [List.length_append, List.length_take, List.length_map, List.length_drop]; omega
theorem map_tl {α : Type} (f : α → α) (l : List α) {i : Int} (h0 : 0 ≤ i) (h : i ≤ l.length) : ((l.map f).take i.toNat).length = i.toNat := by
  rw [List.length_take, List.length_map]; omega
theorem map_done {α : Type} (f : α → α) (l : List α) {i : Int} (h : l.length ≤ i) : (l.map f).take i.toNat ++ l.drop i.toNat = l.map f := by
  rw [List.drop_eq_nil_of_le (by omega), List.append_nil, List.take_of_length_le (by rw [List.length_map]; omega)]
theorem size_map_giveUp (l : List DTask) : cntTaskS (giveUp l) = cntTaskS l := by
  unfold cntTaskS giveUp ctS
  rw [List.map_map]
  congr 1
  refine List.map_congr_left fun t _ => ?_
  simp only [Function.comp, giveUp1]
  split <;> rfl
def instNew (now : Int) : DInst := if 0 ≤ now ∧ now ≤ 1000000000 then ⟨⟨[], 1⟩, [], [], [], [], 1, now⟩ else zInst
theorem instNew_ct (n : Int) : ctInst (instNew n) = 0 := by unfold instNew; split <;> rfl
def con_spec_InstNew : Con UU where
  α := Int
  md := [.ro]
  of := fun | [.one (.lit (.int .i64 a0))] => some a0 | _ => none
  ds := fun now => [.one (.lit (.int .i64 now))]
  pre := fun now => []
  res := fun now => ⟨[.agg [.sl .eItem (((instNew now)).S).Items, .lit (.int .i64 (((instNew now)).S).Next), .sl .eMatch ((instNew now)).Fired, .sl .eTask ((instNew now)).Tasks, .sl .eTimer ((instNew now)).Timers, .sl .eUndo ((instNew now)).Undos, .lit (.int .i64 ((instNew now)).State), .lit (.int .i64 ((instNew now)).Now)]], true, []⟩
  law := by intro l x h; (try simp only at h); split at h <;> cases h; rfl
def ann_spec_InstNew : con_spec_InstNew.α → Nat → Option (Ann UU) := fun now => annL []
def use_spec_InstNew : List (FuncId × Con UU) := [(69, con_spec_l1In)]
theorem vc_spec_InstNew (now : Int) : goal EE use_spec_InstNew Go.Proofs.Try.f55 con_spec_InstNew ann_spec_InstNew now = (bif !decide ((0 : Int) ≤ now ∧ now ≤ (1000000000 : Int)) then Lf [DV.agg [Cell.sl Cd.eItem [], Cell.lit (Value.int IntKind.i64 (0 : Int)), Cell.sl Cd.eMatch [], Cell.sl Cd.eTask [], Cell.sl Cd.eTimer [], Cell.sl Cd.eUndo [], Cell.lit (Value.int IntKind.i64 (0 : Int)), Cell.lit (Value.int IntKind.i64 (0 : Int))]] [DV.agg [Cell.sl Cd.eItem (instNew now).S.Items, Cell.lit (Value.int IntKind.i64 (instNew now).S.Next), Cell.sl Cd.eMatch (instNew now).Fired, Cell.sl Cd.eTask (instNew now).Tasks, Cell.sl Cd.eTimer (instNew now).Timers, Cell.sl Cd.eUndo (instNew now).Undos, Cell.lit (Value.int IntKind.i64 (instNew now).State), Cell.lit (Value.int IntKind.i64 (instNew now).Now)]] else Lf [DV.agg [Cell.sl Cd.eItem [], Cell.lit (Value.int IntKind.i64 (1 : Int)), Cell.sl Cd.eMatch [], Cell.sl Cd.eTask [], Cell.sl Cd.eTimer [], Cell.sl Cd.eUndo [], Cell.lit (Value.int IntKind.i64 (1 : Int)), Cell.lit (Value.int IntKind.i64 now)]] [DV.agg [Cell.sl Cd.eItem (instNew now).S.Items, Cell.lit (Value.int IntKind.i64 (instNew now).S.Next), Cell.sl Cd.eMatch (instNew now).Fired, Cell.sl Cd.eTask (instNew now).Tasks, Cell.sl Cd.eTimer (instNew now).Timers, Cell.sl Cd.eUndo (instNew now).Undos, Cell.lit (Value.int IntKind.i64 (instNew now).State), Cell.lit (Value.int IntKind.i64 (instNew now).Now)]]) := by kernel_rfl
theorem ok_spec_InstNew : Holds EE (55, con_spec_InstNew) := by
  refine holds_of EE_ok Go.Proofs.Try.func55 con_spec_InstNew (by kernel_rfl) rfl use_spec_InstNew (all_cons ok_spec_l1In all_nil) ann_spec_InstNew (fun (now : Int) hp hb => ?_)
  have hb_now : BdDV (U := UU) (.one (.lit (.int .i64 now))) := hb _ (List.mem_cons_self)
  have hl_now := Bd.i64 hb_now
  clear hp hb
  rw [vc_spec_InstNew now]
  unfold instNew
  refine if_cond (fun h => Lf_r ?_) (fun h => Lf_r ?_)
  · rw [if_neg (by grind)]; rfl
  · rw [if_pos (by grind)]; rfl
def con_impl_InstNew : Con UU where
  α := Int
  md := [.ro]
  of := fun | [.one (.lit (.int .i64 a0))] => some a0 | _ => none
  ds := fun now => [.one (.lit (.int .i64 now))]
  pre := fun now => []
  res := fun now => ⟨[.agg [.sl .eItem (((instNew now)).S).Items, .lit (.int .i64 (((instNew now)).S).Next), .sl .eMatch ((instNew now)).Fired, .sl .eTask ((instNew now)).Tasks, .sl .eTimer ((instNew now)).Timers, .sl .eUndo ((instNew now)).Undos, .lit (.int .i64 ((instNew now)).State), .lit (.int .i64 ((instNew now)).Now)]], true, []⟩
  law := by intro l x h; (try simp only at h); split at h <;> cases h; rfl
def ann_impl_InstNew : con_impl_InstNew.α → Nat → Option (Ann UU) := fun now => annL []
def use_impl_InstNew : List (FuncId × Con UU) := [(119, con_impl_isTime)]
theorem vc_impl_InstNew (now : Int) : goal EE use_impl_InstNew Go.Proofs.Try.f56 con_impl_InstNew ann_impl_InstNew now = (bif !decide ((0 : Int) ≤ now ∧ now ≤ (1000000000 : Int)) then Lf [DV.agg [Cell.sl Cd.eItem [], Cell.lit (Value.int IntKind.i64 (0 : Int)), Cell.sl Cd.eMatch [], Cell.sl Cd.eTask [], Cell.sl Cd.eTimer [], Cell.sl Cd.eUndo [], Cell.lit (Value.int IntKind.i64 (0 : Int)), Cell.lit (Value.int IntKind.i64 (0 : Int))]] [DV.agg [Cell.sl Cd.eItem (instNew now).S.Items, Cell.lit (Value.int IntKind.i64 (instNew now).S.Next), Cell.sl Cd.eMatch (instNew now).Fired, Cell.sl Cd.eTask (instNew now).Tasks, Cell.sl Cd.eTimer (instNew now).Timers, Cell.sl Cd.eUndo (instNew now).Undos, Cell.lit (Value.int IntKind.i64 (instNew now).State), Cell.lit (Value.int IntKind.i64 (instNew now).Now)]] else Lf [DV.agg [Cell.sl Cd.eItem [], Cell.lit (Value.int IntKind.i64 (1 : Int)), Cell.sl Cd.eMatch [], Cell.sl Cd.eTask [], Cell.sl Cd.eTimer [], Cell.sl Cd.eUndo [], Cell.lit (Value.int IntKind.i64 (1 : Int)), Cell.lit (Value.int IntKind.i64 now)]] [DV.agg [Cell.sl Cd.eItem (instNew now).S.Items, Cell.lit (Value.int IntKind.i64 (instNew now).S.Next), Cell.sl Cd.eMatch (instNew now).Fired, Cell.sl Cd.eTask (instNew now).Tasks, Cell.sl Cd.eTimer (instNew now).Timers, Cell.sl Cd.eUndo (instNew now).Undos, Cell.lit (Value.int IntKind.i64 (instNew now).State), Cell.lit (Value.int IntKind.i64 (instNew now).Now)]]) := by kernel_rfl
theorem ok_impl_InstNew : Holds EE (56, con_impl_InstNew) := by
  refine holds_of EE_ok Go.Proofs.Try.func56 con_impl_InstNew (by kernel_rfl) rfl use_impl_InstNew (all_cons ok_impl_isTime all_nil) ann_impl_InstNew (fun (now : Int) hp hb => ?_)
  have hb_now : BdDV (U := UU) (.one (.lit (.int .i64 now))) := hb _ (List.mem_cons_self)
  have hl_now := Bd.i64 hb_now
  clear hp hb
  rw [vc_impl_InstNew now]
  unfold instNew
  refine if_cond (fun h => Lf_r ?_) (fun h => Lf_r ?_)
  · rw [if_neg (by grind)]; rfl
  · rw [if_pos (by grind)]; rfl
def con_laws_eqItem : Con UU where
  α := DItem × DItem
  md := [.ro, .ro]
  of := fun | [.agg [.lit (.int .i64 a0), .lit (.string a1), .sl .eVal a2], .agg [.lit (.int .i64 a3), .lit (.string a4), .sl .eVal a5]] => some (⟨a0, ⟨a1, a2⟩⟩, ⟨a3, ⟨a4, a5⟩⟩) | _ => none
  ds := fun (a, b) => [.agg [.lit (.int .i64 a.Id), .lit (.string a.F.Kind), .sl .eVal a.F.Fields], .agg [.lit (.int .i64 b.Id), .lit (.string b.F.Kind), .sl .eVal b.F.Fields]]
  pre := fun (a, b) => []
  res := fun (a, b) => ⟨[.one (.lit (.bool (decide (a = b))))], true, []⟩
  law := by intro l x h; (try simp only at h); split at h <;> cases h; rfl
def ann_laws_eqItem : con_laws_eqItem.α → Nat → Option (Ann UU) := fun (a, b) => annL []
def use_laws_eqItem : List (FuncId × Con UU) := [(53, con_laws_eqFact)]
theorem vc_laws_eqItem (a : DItem) (b : DItem) : goal EE use_laws_eqItem Go.Proofs.Try.f183 con_laws_eqItem ann_laws_eqItem (a, b) = (bif a.Id != b.Id then Lf [DV.one (Cell.lit (Value.bool false))] [DV.one (Cell.lit (Value.bool (decide (a = b))))] else bif !decide (a.F = b.F) then Lf [DV.one (Cell.lit (Value.bool false))] [DV.one (Cell.lit (Value.bool (decide (a = b))))] else Lf [DV.one (Cell.lit (Value.bool true))] [DV.one (Cell.lit (Value.bool (decide (a = b))))]) := by kernel_rfl
theorem ok_laws_eqItem : Holds EE (183, con_laws_eqItem) := by
  refine holds_of EE_ok Go.Proofs.Try.func183 con_laws_eqItem (by kernel_rfl) rfl use_laws_eqItem (all_cons ok_laws_eqFact all_nil) ann_laws_eqItem (fun x hp hb => ?_)
  obtain ⟨a, b⟩ := x
  have hb_a : BdDV (U := UU) (.agg [.lit (.int .i64 a.Id), .lit (.string a.F.Kind), .sl .eVal a.F.Fields]) := hb _ (List.mem_cons_self)
  have hl_a_F_Kind : a.F.Kind.size ≤ 9223372036854775807 := Bd.str (hb_a _ (by simp))
  have hl_a_F_Fields : a.F.Fields.length ≤ 9223372036854775807 := Bd.len (U := UU) (τ := .eVal) (xs := a.F.Fields) (hb_a _ (by simp))
  have hb_b : BdDV (U := UU) (.agg [.lit (.int .i64 b.Id), .lit (.string b.F.Kind), .sl .eVal b.F.Fields]) := hb _ (List.mem_cons_of_mem _ (List.mem_cons_self))
  have hl_b_F_Kind : b.F.Kind.size ≤ 9223372036854775807 := Bd.str (hb_b _ (by simp))
  have hl_b_F_Fields : b.F.Fields.length ≤ 9223372036854775807 := Bd.len (U := UU) (τ := .eVal) (xs := b.F.Fields) (hb_b _ (by simp))
  clear hp hb
  rw [vc_laws_eqItem a b]
  obtain ⟨aId, aF⟩ := a
  obtain ⟨bId, bF⟩ := b
  repeat' (apply if_cond <;> intro _)
  all_goals (first | apply Lf_t | apply Lf_f) <;> simp_all
def con_laws_eqItemS : Con UU where
  α := (List DItem) × (List DItem)
  md := [.ro, .ro]
  of := fun | [.one (.sl .eItem a0), .one (.sl .eItem a1)] => some (a0, a1) | _ => none
  ds := fun (a, b) => [.one (.sl .eItem a), .one (.sl .eItem b)]
  pre := fun (a, b) => []
  res := fun (a, b) => ⟨[.one (.lit (.bool (decide (a = b))))], true, []⟩
  law := by intro l x h; (try simp only at h); split at h <;> cases h; rfl
def I_laws_eqItemS_4 (a : (List DItem)) (b : (List DItem)) : Int × Unit → Prop := fun (i, _) => 0 ≤ i ∧ i ≤ a.length ∧ a.length = b.length ∧ (a.drop i.toNat = b.drop i.toNat ↔ a = b)
def μ_laws_eqItemS_4 (a : (List DItem)) (b : (List DItem)) : Int × Unit → Nat := fun (i, _) => a.length - i.toNat
def ann_laws_eqItemS : con_laws_eqItemS.α → Nat → Option (Ann UU) := fun (a, b) => annL [(4, annOf [.slot 5 (5, 1024) (.lit (.int .i64))] (fun _ => I_laws_eqItemS_4 a b) (μ_laws_eqItemS_4 a b))]
def use_laws_eqItemS : List (FuncId × Con UU) := [(183, con_laws_eqItem)]
theorem vc_laws_eqItemS (a : (List DItem)) (b : (List DItem)) : goal EE use_laws_eqItemS Go.Proofs.Try.f161 con_laws_eqItemS ann_laws_eqItemS (a, b) = (bif (↑(List.length a) : Int) != (↑(List.length b) : Int) then Lf [DV.one (Cell.lit (Value.bool false))] [DV.one (Cell.lit (Value.bool (decide (a = b))))] else I_laws_eqItemS_4 a b ((0 : Int), PUnit.unit) ∧ ∀ (y : Int × PUnit), I_laws_eqItemS_4 a b y → bif decide (y.1 < (↑(List.length a) : Int)) then (0 : Int) ≤ y.1 ∧ Int.toNat y.1 < List.length a ∧ (0 : Int) ≤ y.1 ∧ Int.toNat y.1 < List.length b ∧ bif !decide (List.getD a (Int.toNat y.1) zItem = List.getD b (Int.toNat y.1) zItem) then Lf [DV.one (Cell.lit (Value.bool false))] [DV.one (Cell.lit (Value.bool (decide (a = b))))] else I_laws_eqItemS_4 a b (IntKind.wrap IntKind.i64 (y.1 + (1 : Int)), PUnit.unit) ∧ μ_laws_eqItemS_4 a b (IntKind.wrap IntKind.i64 (y.1 + (1 : Int)), PUnit.unit) < μ_laws_eqItemS_4 a b y else Lf [DV.one (Cell.lit (Value.bool true))] [DV.one (Cell.lit (Value.bool (decide (a = b))))]) := by kernel_rfl
theorem ok_laws_eqItemS : Holds EE (161, con_laws_eqItemS) := by
  refine holds_of EE_ok Go.Proofs.Try.func161 con_laws_eqItemS (by kernel_rfl) rfl use_laws_eqItemS (all_cons ok_laws_eqItem all_nil) ann_laws_eqItemS (fun x hp hb => ?_)
  obtain ⟨a, b⟩ := x
  have hb_a : BdDV (U := UU) (.one (.sl .eItem a)) := hb _ (List.mem_cons_self)
  have hl_a : a.length ≤ 9223372036854775807 := Bd.len hb_a
  have hb_b : BdDV (U := UU) (.one (.sl .eItem b)) := hb _ (List.mem_cons_of_mem _ (List.mem_cons_self))
  have hl_b : b.length ≤ 9223372036854775807 := Bd.len hb_b
  clear hp hb
  rw [vc_laws_eqItemS a b]
  refine if_cond (fun h => Lf_f ?_) (fun h => ⟨?_, ?_⟩)
  · rintro rfl; simp at h
  · simp [I_laws_eqItemS_4] at *; omega
  rintro ⟨i, ⟨⟩⟩ ⟨h1, h2, h3, hR⟩
  simp only at *
  refine if_cond (fun hc => ?_) (fun hc => ?_)
  · have hc : i < a.length := by simpa using hc
    rw [drop_step a zItem h1 hc, drop_step b zItem h1 (by omega)] at hR
    rw [wrap_i64 (by omega) (by omega)]
    refine ⟨by omega, by omega, by omega, by omega, if_cond (fun h => Lf_f ?_) (fun h => ⟨⟨by omega, by omega, h3, ?_⟩, ?_⟩)⟩
    · rw [← hR]; simp at h; simp [h]
    · rw [← hR]; simp at h; simp [h]
    · simp only [μ_laws_eqItemS_4]; omega
  · have hc : a.length ≤ i := by simpa using hc
    rw [drop_end a hc, drop_end b (by omega)] at hR
    exact Lf_t (hR.1 rfl)
def con_laws_markItemS : Con UU where
  α := (List DItem) × Int
  md := [.wr, .ro]
  of := fun | [.one (.sl .eItem a0), .one (.lit (.int .i64 a1))] => some (a0, a1) | _ => none
  ds := fun (a, k) => [.one (.sl .eItem a), .one (.lit (.int .i64 k))]
  pre := fun (a, k) => [0 ≤ k, k + cntItemS a ≤ 4611686018427387904]
  res := fun (a, k) => ⟨[.one (.lit (.int .i64 (k + cntItemS a)))], true, [.one (.sl .eItem (markItemS a k))]⟩
  law := by intro l x h; (try simp only at h); split at h <;> cases h; rfl
def I_laws_markItemS_2 (a : (List DItem)) (k : Int) : List DItem × Int × Int × Unit → Prop := fun (row, kk, i, _) => 0 ≤ i ∧ i ≤ a.length ∧ row = (mkS markItem cntItem a k).take i.toNat ++ a.drop i.toNat ∧ kk = k + ctS cntItem (a.take i.toNat)
def μ_laws_markItemS_2 (a : (List DItem)) (k : Int) : List DItem × Int × Int × Unit → Nat := fun (row, kk, i, _) => a.length - i.toNat
def ann_laws_markItemS : con_laws_markItemS.α → Nat → Option (Ann UU) := fun (a, k) => annL [(2, annOf [.slot 0 (2000000, 0) (.own .eItem true), .slot 1 (1, 1024) (.lit (.int .i64)), .slot 5 (5, 1024) (.lit (.int .i64))] (fun _ => I_laws_markItemS_2 a k) (μ_laws_markItemS_2 a k))]
def use_laws_markItemS : List (FuncId × Con UU) := [(89, con_laws_markText), (90, con_laws_markValS)]
theorem vc_laws_markItemS (a : (List DItem)) (k : Int) : goal EE use_laws_markItemS Go.Proofs.Try.f163 con_laws_markItemS ann_laws_markItemS (a, k) = (I_laws_markItemS_2 a k (a, k, (0 : Int), PUnit.unit) ∧
  ∀ (y : List DItem × Int × Int × PUnit),
    let x0 : List DItem := List.modify (List.modify y.1 (Int.toNat y.2.2.1) fun (x : DItem) => { Id := y.2.1, F := x.F : DItem }) (Int.toNat y.2.2.1) fun (x : DItem) => { Id := x.Id, F := { Kind := markText (IntKind.wrap IntKind.i64 (y.2.1 + (1 : Int))), Fields := x.F.Fields : DFact } : DItem };
    let x1 : Nat := Int.toNat y.2.2.1;
    let x2 : Int := IntKind.wrap IntKind.i64 (IntKind.wrap IntKind.i64 (y.2.1 + (1 : Int)) + (1 : Int));
    let x3 : Int := x2 + (↑(cntValS (List.getD x0 x1 zItem).F.Fields) : Int);
    I_laws_markItemS_2 a k y → bif decide (y.2.2.1 < (↑(List.length y.1) : Int)) then (0 : Int) ≤ y.2.2.1 ∧ x1 < List.length y.1 ∧ x1 < List.length y.1 ∧ IntKind.wrap IntKind.i64 (y.2.1 + (1 : Int)) ≤ (4611686018427387903 : Int) ∧ (0 : Int) ≤ y.2.2.1 ∧ x1 < List.length (List.modify y.1 x1 fun (x : DItem) => { Id := y.2.1, F := x.F : DItem }) ∧ x1 < List.length (List.modify y.1 x1 fun (x : DItem) => { Id := y.2.1, F := x.F : DItem }) ∧ (0 : Int) ≤ y.2.2.1 ∧ x1 < List.length x0 ∧ x1 < List.length x0 ∧ x1 < List.length x0 ∧ (0 : Int) ≤ x2 ∧ x3 ≤ (4611686018427387904 : Int) ∧ I_laws_markItemS_2 a k (List.modify x0 x1 fun (x : DItem) => { Id := x.Id, F := { Kind := x.F.Kind, Fields := markValS (List.getD x0 x1 zItem).F.Fields x2 : DFact } : DItem }, x3, IntKind.wrap IntKind.i64 (y.2.2.1 + (1 : Int)), PUnit.unit) ∧ μ_laws_markItemS_2 a k (List.modify x0 x1 fun (x : DItem) => { Id := x.Id, F := { Kind := x.F.Kind, Fields := markValS (List.getD x0 x1 zItem).F.Fields x2 : DFact } : DItem }, x3, IntKind.wrap IntKind.i64 (y.2.2.1 + (1 : Int)), PUnit.unit) < μ_laws_markItemS_2 a k y else asD [DV.one (Cell.lit (Value.int IntKind.i64 y.2.1))] = asD [DV.one (Cell.lit (Value.int IntKind.i64 (k + (↑(cntItemS a) : Int))))] ∧ asD [DV.one (Cell.sl Cd.eItem y.1)] = asD [DV.one (Cell.sl Cd.eItem (markItemS a k))]) := by kernel_rfl
theorem ok_laws_markItemS : Holds EE (163, con_laws_markItemS) := by
  refine holds_of EE_ok Go.Proofs.Try.func163 con_laws_markItemS (by kernel_rfl) rfl use_laws_markItemS (all_cons ok_laws_markText (all_cons ok_laws_markValS all_nil)) ann_laws_markItemS (fun x hp hb => ?_)
  obtain ⟨a, k⟩ := x
  have hb_a : BdDV (U := UU) (.one (.sl .eItem a)) := hb _ (List.mem_cons_self)
  have hl_a : a.length ≤ 9223372036854775807 := Bd.len hb_a
  have hb_k : BdDV (U := UU) (.one (.lit (.int .i64 k))) := hb _ (List.mem_cons_of_mem _ (List.mem_cons_self))
  have hl_k := Bd.i64 hb_k
  have hp0 : 0 ≤ k := hp _ (List.mem_cons_self)
  have hp1 : k + cntItemS a ≤ 4611686018427387904 := hp _ (List.mem_cons_of_mem _ (List.mem_cons_self))
  clear hp hb
  rw [vc_laws_markItemS a k]
  dsimp only
  refine ⟨⟨by omega, by omega, by simp, by simp [ctS]⟩, ?_⟩
  rintro ⟨row, kk, i, ⟨⟩⟩ ⟨h1, h2, rfl, rfl⟩
  simp only
  have hl := mk_rl markItem cntItem a k h1 h2
  refine if_cond (fun hc => ?_) (fun hc => ?_)
  · have hc : i < a.length := by have hc := of_decide_eq_true hc; omega
    have hct := ctS_take cntItem a zItem h1 hc
    have hle := ctS_take_le cntItem a (i + 1).toNat
    have hg := mk_getD _ a zItem (mk_tl markItem cntItem a k h1 h2) h1 hc
    have hM := fun F hF => mkS_mod markItem cntItem a zItem k (i := i) F h1 hc hF
    have hq : (cntItemS a : Int) = ctS cntItem a := rfl
    generalize List.getD a i.toNat zItem = x at *
    generalize hkk : k + (ctS cntItem (a.take i.toNat) : Int) = kk at *
    generalize List.take i.toNat (mkS markItem cntItem a k) ++ List.drop i.toNat a = R at *
    simp only [cntItem] at hct
    simp (disch := first | omega | (simp only [List.length_modify]; omega)) only [List.length_modify, wrap_i64, getD_modify, modify_modify, hg, hl]
    repeat' (first | refine And.intro (by omega) ?_ | fail)
    exact ⟨⟨by omega, by omega, hM _ rfl, by omega⟩, by simp only [μ_laws_markItemS_2]; omega⟩
  · have hc : a.length ≤ i := by have hc := of_decide_eq_false hc; omega
    rw [mk_done markItem cntItem a k hc, ct_done cntItem a hc]
    exact ⟨rfl, rfl⟩
def con_laws_heldItemS : Con UU where
  α := (List DItem) × Int
  md := [.ro, .ro]
  of := fun | [.one (.sl .eItem a0), .one (.lit (.int .i64 a1))] => some (a0, a1) | _ => none
  ds := fun (a, k) => [.one (.sl .eItem a), .one (.lit (.int .i64 k))]
  pre := fun (a, k) => [0 ≤ k, k + cntItemS a ≤ 4611686018427387904]
  res := fun (a, k) => ⟨[.one (.lit (.int .i64 (if markItemS a k = a then k + cntItemS a else -1)))], true, []⟩
  law := by intro l x h; (try simp only at h); split at h <;> cases h; rfl
def I_laws_heldItemS_2 (a : (List DItem)) (k : Int) : Int × Int × Unit → Prop := fun (kk, i, _) => 0 ≤ i ∧ i ≤ a.length ∧ kk = k + ctS cntItem (a.take i.toNat) ∧ (mkS markItem cntItem (a.drop i.toNat) kk = a.drop i.toNat ↔ mkS markItem cntItem a k = a)
def μ_laws_heldItemS_2 (a : (List DItem)) (k : Int) : Int × Int × Unit → Nat := fun (kk, i, _) => a.length - i.toNat
def ann_laws_heldItemS : con_laws_heldItemS.α → Nat → Option (Ann UU) := fun (a, k) => annL [(2, annOf [.slot 1 (1, 1024) (.lit (.int .i64)), .slot 5 (5, 1024) (.lit (.int .i64))] (fun _ => I_laws_heldItemS_2 a k) (μ_laws_heldItemS_2 a k))]
def use_laws_heldItemS : List (FuncId × Con UU) := [(89, con_laws_markText), (91, con_laws_heldValS)]
theorem vc_laws_heldItemS (a : (List DItem)) (k : Int) : goal EE use_laws_heldItemS Go.Proofs.Try.f166 con_laws_heldItemS ann_laws_heldItemS (a, k) = (I_laws_heldItemS_2 a k (k, (0 : Int), PUnit.unit) ∧
  ∀ (y : Int × Int × PUnit),
    let x0 : Int := if markValS (List.getD a (Int.toNat y.2.1) zItem).F.Fields (IntKind.wrap IntKind.i64 (IntKind.wrap IntKind.i64 (y.1 + (1 : Int)) + (1 : Int))) = (List.getD a (Int.toNat y.2.1) zItem).F.Fields then IntKind.wrap IntKind.i64 (IntKind.wrap IntKind.i64 (y.1 + (1 : Int)) + (1 : Int)) + (↑(cntValS (List.getD a (Int.toNat y.2.1) zItem).F.Fields) : Int) else (-1 : Int);
    let x1 : DFact := (List.getD a (Int.toNat y.2.1) zItem).F;
    let x2 : Nat := Int.toNat y.2.1;
    let x3 : Int := IntKind.wrap IntKind.i64 (y.1 + (1 : Int));
    I_laws_heldItemS_2 a k y → bif decide (y.2.1 < (↑(List.length a) : Int)) then (0 : Int) ≤ y.2.1 ∧ x2 < List.length a ∧ bif (List.getD a x2 zItem).Id != y.1 then Lf [DV.one (Cell.lit (Value.int IntKind.i64 (-1 : Int)))] [DV.one (Cell.lit (Value.int IntKind.i64 (if markItemS a k = a then k + (↑(cntItemS a) : Int) else (-1 : Int))))] else (0 : Int) ≤ y.2.1 ∧ x2 < List.length a ∧ x3 ≤ (4611686018427387903 : Int) ∧ bif !ByteArray.toList x1.Kind == ByteArray.toList (markText x3) then Lf [DV.one (Cell.lit (Value.int IntKind.i64 (-1 : Int)))] [DV.one (Cell.lit (Value.int IntKind.i64 (if markItemS a k = a then k + (↑(cntItemS a) : Int) else (-1 : Int))))] else (0 : Int) ≤ y.2.1 ∧ x2 < List.length a ∧ (0 : Int) ≤ IntKind.wrap IntKind.i64 (x3 + (1 : Int)) ∧ IntKind.wrap IntKind.i64 (x3 + (1 : Int)) + (↑(cntValS x1.Fields) : Int) ≤ (4611686018427387904 : Int) ∧ bif decide (x0 < (0 : Int)) then Lf [DV.one (Cell.lit (Value.int IntKind.i64 (-1 : Int)))] [DV.one (Cell.lit (Value.int IntKind.i64 (if markItemS a k = a then k + (↑(cntItemS a) : Int) else (-1 : Int))))] else I_laws_heldItemS_2 a k (x0, IntKind.wrap IntKind.i64 (y.2.1 + (1 : Int)), PUnit.unit) ∧ μ_laws_heldItemS_2 a k (x0, IntKind.wrap IntKind.i64 (y.2.1 + (1 : Int)), PUnit.unit) < μ_laws_heldItemS_2 a k y else Lf [DV.one (Cell.lit (Value.int IntKind.i64 y.1))] [DV.one (Cell.lit (Value.int IntKind.i64 (if markItemS a k = a then k + (↑(cntItemS a) : Int) else (-1 : Int))))]) := by kernel_rfl
theorem ok_laws_heldItemS : Holds EE (166, con_laws_heldItemS) := by
  refine holds_of EE_ok Go.Proofs.Try.func166 con_laws_heldItemS (by kernel_rfl) rfl use_laws_heldItemS (all_cons ok_laws_markText (all_cons ok_laws_heldValS all_nil)) ann_laws_heldItemS (fun x hp hb => ?_)
  obtain ⟨a, k⟩ := x
  have hb_a : BdDV (U := UU) (.one (.sl .eItem a)) := hb _ (List.mem_cons_self)
  have hl_a : a.length ≤ 9223372036854775807 := Bd.len hb_a
  have hb_k : BdDV (U := UU) (.one (.lit (.int .i64 k))) := hb _ (List.mem_cons_of_mem _ (List.mem_cons_self))
  have hl_k := Bd.i64 hb_k
  have hp0 : 0 ≤ k := hp _ (List.mem_cons_self)
  have hp1 : k + cntItemS a ≤ 4611686018427387904 := hp _ (List.mem_cons_of_mem _ (List.mem_cons_self))
  clear hp hb
  rw [vc_laws_heldItemS a k]
  dsimp only
  refine ⟨⟨by omega, by omega, by simp [ctS], by simp⟩, ?_⟩
  rintro ⟨kk, i, ⟨⟩⟩ ⟨h1, h2, hkk, hR⟩
  simp only
  simp only [markItemS]
  refine if_cond (fun hc => ?_) (fun hc => ?_)
  · have hc : i < a.length := by have hc := of_decide_eq_true hc; omega
    have hct := ctS_take cntItem a zItem h1 hc
    have hle := ctS_take_le cntItem a (i + 1).toNat
    have hq : (cntItemS a : Int) = ctS cntItem a := rfl
    rw [drop_step a zItem h1 hc] at hR
    generalize List.getD a i.toNat zItem = x at *
    simp only [mkS, List.cons.injEq] at hR
    have e : kk + (cntItem x : Int) = kk + 1 + 1 + (cntValS x.F.Fields : Int) := by simp only [cntItem]; omega
    rw [e] at hR
    simp only [markItem, cntItem] at hR hct
    simp (disch := omega) only [wrap_i64, bne_int, toList_beq]
    obtain ⟨x_Id, ⟨x_F_Kind, x_F_Fields⟩⟩ := x
    simp only [DFact.mk.injEq, DItem.mk.injEq] at *
    repeat' (first | refine And.intro (by omega) ?_ | fail)
    refine if_cond (fun h => Lf_no (fun hh => ?_)) (fun h => ?_)
    · have hh := hR.2 hh; simp_all
    have h : x_Id = kk := by simpa using h
    subst x_Id
    repeat' (first | refine And.intro (by omega) ?_ | fail)
    refine if_cond (fun h => Lf_no (fun hh => ?_)) (fun h => ?_)
    · have hh := hR.2 hh; simp_all
    have h : x_F_Kind = markText (kk + 1) := by simpa using h
    subst x_F_Kind
    repeat' (first | refine And.intro (by omega) ?_ | fail)
    by_cases hm : markValS x_F_Fields (kk + 1 + 1) = x_F_Fields
    rotate_left
    · simp only [if_neg hm]; rw [cond_yes (by decide)]
      exact Lf_no (fun hh => hm (by have hh := hR.2 hh; simp_all))
    simp only [if_pos hm]
    refine if_cond (fun h => absurd (of_decide_eq_true h) (by omega)) (fun h => ?_)
    simp only [hm] at hR
    clear hm
    exact ⟨⟨by omega, by omega, by omega, by simpa using hR⟩, by simp only [μ_laws_heldItemS_2]; omega⟩
  · have hc : a.length ≤ i := by have hc := of_decide_eq_false hc; omega
    rw [drop_end a hc] at hR
    exact Lf_yes (hR.1 rfl) (by rw [hkk, ct_done _ _ hc]; rfl)
def con_laws_eqStore : Con UU where
  α := DStore × DStore
  md := [.ro, .ro]
  of := fun | [.agg [.sl .eItem a0, .lit (.int .i64 a1)], .agg [.sl .eItem a2, .lit (.int .i64 a3)]] => some (⟨a0, a1⟩, ⟨a2, a3⟩) | _ => none
  ds := fun (a, b) => [.agg [.sl .eItem a.Items, .lit (.int .i64 a.Next)], .agg [.sl .eItem b.Items, .lit (.int .i64 b.Next)]]
  pre := fun (a, b) => []
  res := fun (a, b) => ⟨[.one (.lit (.bool (decide (a = b))))], true, []⟩
  law := by intro l x h; (try simp only at h); split at h <;> cases h; rfl
def ann_laws_eqStore : con_laws_eqStore.α → Nat → Option (Ann UU) := fun (a, b) => annL []
def use_laws_eqStore : List (FuncId × Con UU) := [(161, con_laws_eqItemS)]
theorem vc_laws_eqStore (a : DStore) (b : DStore) : goal EE use_laws_eqStore Go.Proofs.Try.f121 con_laws_eqStore ann_laws_eqStore (a, b) = (bif !decide (a.Items = b.Items) then Lf [DV.one (Cell.lit (Value.bool false))] [DV.one (Cell.lit (Value.bool (decide (a = b))))] else bif a.Next != b.Next then Lf [DV.one (Cell.lit (Value.bool false))] [DV.one (Cell.lit (Value.bool (decide (a = b))))] else Lf [DV.one (Cell.lit (Value.bool true))] [DV.one (Cell.lit (Value.bool (decide (a = b))))]) := by kernel_rfl
theorem ok_laws_eqStore : Holds EE (121, con_laws_eqStore) := by
  refine holds_of EE_ok Go.Proofs.Try.func121 con_laws_eqStore (by kernel_rfl) rfl use_laws_eqStore (all_cons ok_laws_eqItemS all_nil) ann_laws_eqStore (fun x hp hb => ?_)
  obtain ⟨a, b⟩ := x
  have hb_a : BdDV (U := UU) (.agg [.sl .eItem a.Items, .lit (.int .i64 a.Next)]) := hb _ (List.mem_cons_self)
  have hl_a_Items : a.Items.length ≤ 9223372036854775807 := Bd.len (U := UU) (τ := .eItem) (xs := a.Items) (hb_a _ (by simp))
  have hb_b : BdDV (U := UU) (.agg [.sl .eItem b.Items, .lit (.int .i64 b.Next)]) := hb _ (List.mem_cons_of_mem _ (List.mem_cons_self))
  have hl_b_Items : b.Items.length ≤ 9223372036854775807 := Bd.len (U := UU) (τ := .eItem) (xs := b.Items) (hb_b _ (by simp))
  clear hp hb
  rw [vc_laws_eqStore a b]
  obtain ⟨aItems, aNext⟩ := a
  obtain ⟨bItems, bNext⟩ := b
  repeat' (apply if_cond <;> intro _)
  all_goals (first | apply Lf_t | apply Lf_f) <;> simp_all
def con_laws_markStore : Con UU where
  α := DStore × Int
  md := [.wr, .ro]
  of := fun | [.agg [.sl .eItem a0, .lit (.int .i64 a1)], .one (.lit (.int .i64 a2))] => some (⟨a0, a1⟩, a2) | _ => none
  ds := fun (a, k) => [.agg [.sl .eItem a.Items, .lit (.int .i64 a.Next)], .one (.lit (.int .i64 k))]
  pre := fun (a, k) => [0 ≤ k, k + ctStore a ≤ 4611686018427387904]
  res := fun (a, k) => ⟨[.one (.lit (.int .i64 (k + ctStore a)))], true, [.agg [.sl .eItem ((mkStore a k)).Items, .lit (.int .i64 ((mkStore a k)).Next)]]⟩
  law := by intro l x h; (try simp only at h); split at h <;> cases h; rfl
def ann_laws_markStore : con_laws_markStore.α → Nat → Option (Ann UU) := fun (a, k) => annL []
def use_laws_markStore : List (FuncId × Con UU) := [(163, con_laws_markItemS)]
theorem vc_laws_markStore (a : DStore) (k : Int) : goal EE use_laws_markStore Go.Proofs.Try.f123 con_laws_markStore ann_laws_markStore (a, k) = ((0 : Int) ≤ k ∧ k + (↑(cntItemS a.Items) : Int) ≤ (4611686018427387904 : Int) ∧ asD [DV.one (Cell.lit (Value.int IntKind.i64 (k + (↑(cntItemS a.Items) : Int))))] = asD [DV.one (Cell.lit (Value.int IntKind.i64 (k + (↑(ctStore a) : Int))))] ∧ asD [DV.agg [Cell.sl Cd.eItem (markItemS a.Items k), Cell.lit (Value.int IntKind.i64 a.Next)]] = asD [DV.agg [Cell.sl Cd.eItem (mkStore a k).Items, Cell.lit (Value.int IntKind.i64 (mkStore a k).Next)]]) := by kernel_rfl
theorem ok_laws_markStore : Holds EE (123, con_laws_markStore) := by
  refine holds_of EE_ok Go.Proofs.Try.func123 con_laws_markStore (by kernel_rfl) rfl use_laws_markStore (all_cons ok_laws_markItemS all_nil) ann_laws_markStore (fun x hp hb => ?_)
  obtain ⟨a, k⟩ := x
  have hb_a : BdDV (U := UU) (.agg [.sl .eItem a.Items, .lit (.int .i64 a.Next)]) := hb _ (List.mem_cons_self)
  have hl_a_Items : a.Items.length ≤ 9223372036854775807 := Bd.len (U := UU) (τ := .eItem) (xs := a.Items) (hb_a _ (by simp))
  have hb_k : BdDV (U := UU) (.one (.lit (.int .i64 k))) := hb _ (List.mem_cons_of_mem _ (List.mem_cons_self))
  have hl_k := Bd.i64 hb_k
  have hp0 : 0 ≤ k := hp _ (List.mem_cons_self)
  have hp1 : k + ctStore a ≤ 4611686018427387904 := hp _ (List.mem_cons_of_mem _ (List.mem_cons_self))
  clear hp hb
  rw [vc_laws_markStore a k]
  simp only [ctStore] at hp1
  repeat' (first | refine And.intro (by omega) ?_ | fail)
  exact ⟨by simp only [ctStore, Int.natCast_add, Int.add_assoc], rfl⟩
def con_laws_heldStore : Con UU where
  α := DStore × Int
  md := [.ro, .ro]
  of := fun | [.agg [.sl .eItem a0, .lit (.int .i64 a1)], .one (.lit (.int .i64 a2))] => some (⟨a0, a1⟩, a2) | _ => none
  ds := fun (a, k) => [.agg [.sl .eItem a.Items, .lit (.int .i64 a.Next)], .one (.lit (.int .i64 k))]
  pre := fun (a, k) => [0 ≤ k, k + ctStore a ≤ 4611686018427387904]
  res := fun (a, k) => ⟨[.one (.lit (.int .i64 (if mkStore a k = a then k + ctStore a else -1)))], true, []⟩
  law := by intro l x h; (try simp only at h); split at h <;> cases h; rfl
def ann_laws_heldStore : con_laws_heldStore.α → Nat → Option (Ann UU) := fun (a, k) => annL []
def use_laws_heldStore : List (FuncId × Con UU) := [(166, con_laws_heldItemS)]
theorem vc_laws_heldStore (a : DStore) (k : Int) : goal EE use_laws_heldStore Go.Proofs.Try.f126 con_laws_heldStore ann_laws_heldStore (a, k) = (let x0 : Int := if markItemS a.Items k = a.Items then k + (↑(cntItemS a.Items) : Int) else (-1 : Int);
(0 : Int) ≤ k ∧ k + (↑(cntItemS a.Items) : Int) ≤ (4611686018427387904 : Int) ∧ bif decide (x0 < (0 : Int)) then Lf [DV.one (Cell.lit (Value.int IntKind.i64 (-1 : Int)))] [DV.one (Cell.lit (Value.int IntKind.i64 (if mkStore a k = a then k + (↑(ctStore a) : Int) else (-1 : Int))))] else Lf [DV.one (Cell.lit (Value.int IntKind.i64 x0))] [DV.one (Cell.lit (Value.int IntKind.i64 (if mkStore a k = a then k + (↑(ctStore a) : Int) else (-1 : Int))))]) := by kernel_rfl
theorem ok_laws_heldStore : Holds EE (126, con_laws_heldStore) := by
  refine holds_of EE_ok Go.Proofs.Try.func126 con_laws_heldStore (by kernel_rfl) rfl use_laws_heldStore (all_cons ok_laws_heldItemS all_nil) ann_laws_heldStore (fun x hp hb => ?_)
  obtain ⟨a, k⟩ := x
  have hb_a : BdDV (U := UU) (.agg [.sl .eItem a.Items, .lit (.int .i64 a.Next)]) := hb _ (List.mem_cons_self)
  have hl_a_Items : a.Items.length ≤ 9223372036854775807 := Bd.len (U := UU) (τ := .eItem) (xs := a.Items) (hb_a _ (by simp))
  have hb_k : BdDV (U := UU) (.one (.lit (.int .i64 k))) := hb _ (List.mem_cons_of_mem _ (List.mem_cons_self))
  have hl_k := Bd.i64 hb_k
  have hp0 : 0 ≤ k := hp _ (List.mem_cons_self)
  have hp1 : k + ctStore a ≤ 4611686018427387904 := hp _ (List.mem_cons_of_mem _ (List.mem_cons_self))
  clear hp hb
  rw [vc_laws_heldStore a k]
  dsimp only
  simp only [ctStore] at hp1
  repeat' (first | refine And.intro (by omega) ?_ | fail)
  by_cases hm1 : markItemS a.Items (k) = a.Items
  rotate_left
  · simp only [if_neg hm1]; rw [cond_yes (by decide)]
    exact Lf_no (fun hh => hm1 (congrArg (fun t : DStore => t.Items) hh))
  simp only [if_pos hm1]
  refine if_cond (fun h => absurd (of_decide_eq_true h) (by omega)) (fun h => ?_)
  exact Lf_yes (by simp only [mkStore, hm1]) (by simp only [ctStore]; try omega)
def con_laws_eqBind : Con UU where
  α := DBind × DBind
  md := [.ro, .ro]
  of := fun | [.agg [.lit (.string a0), .lit (.int .i64 a1), .lit (.int .i64 a2), .lit (.string a3)], .agg [.lit (.string a4), .lit (.int .i64 a5), .lit (.int .i64 a6), .lit (.string a7)]] => some (⟨a0, ⟨a1, a2, a3⟩⟩, ⟨a4, ⟨a5, a6, a7⟩⟩) | _ => none
  ds := fun (a, b) => [.agg [.lit (.string a.Name), .lit (.int .i64 a.V.K), .lit (.int .i64 a.V.N), .lit (.string a.V.S)], .agg [.lit (.string b.Name), .lit (.int .i64 b.V.K), .lit (.int .i64 b.V.N), .lit (.string b.V.S)]]
  pre := fun (a, b) => []
  res := fun (a, b) => ⟨[.one (.lit (.bool (decide (a = b))))], true, []⟩
  law := by intro l x h; (try simp only at h); split at h <;> cases h; rfl
def ann_laws_eqBind : con_laws_eqBind.α → Nat → Option (Ann UU) := fun (a, b) => annL []
def use_laws_eqBind : List (FuncId × Con UU) := [(82, con_laws_eqVal)]
theorem vc_laws_eqBind (a : DBind) (b : DBind) : goal EE use_laws_eqBind Go.Proofs.Try.f194 con_laws_eqBind ann_laws_eqBind (a, b) = (bif !ByteArray.toList a.Name == ByteArray.toList b.Name then Lf [DV.one (Cell.lit (Value.bool false))] [DV.one (Cell.lit (Value.bool (decide (a = b))))] else bif !decide (a.V = b.V) then Lf [DV.one (Cell.lit (Value.bool false))] [DV.one (Cell.lit (Value.bool (decide (a = b))))] else Lf [DV.one (Cell.lit (Value.bool true))] [DV.one (Cell.lit (Value.bool (decide (a = b))))]) := by kernel_rfl
theorem ok_laws_eqBind : Holds EE (194, con_laws_eqBind) := by
  refine holds_of EE_ok Go.Proofs.Try.func194 con_laws_eqBind (by kernel_rfl) rfl use_laws_eqBind (all_cons ok_laws_eqVal all_nil) ann_laws_eqBind (fun x hp hb => ?_)
  obtain ⟨a, b⟩ := x
  have hb_a : BdDV (U := UU) (.agg [.lit (.string a.Name), .lit (.int .i64 a.V.K), .lit (.int .i64 a.V.N), .lit (.string a.V.S)]) := hb _ (List.mem_cons_self)
  have hl_a_Name : a.Name.size ≤ 9223372036854775807 := Bd.str (hb_a _ (by simp))
  have hl_a_V_S : a.V.S.size ≤ 9223372036854775807 := Bd.str (hb_a _ (by simp))
  have hb_b : BdDV (U := UU) (.agg [.lit (.string b.Name), .lit (.int .i64 b.V.K), .lit (.int .i64 b.V.N), .lit (.string b.V.S)]) := hb _ (List.mem_cons_of_mem _ (List.mem_cons_self))
  have hl_b_Name : b.Name.size ≤ 9223372036854775807 := Bd.str (hb_b _ (by simp))
  have hl_b_V_S : b.V.S.size ≤ 9223372036854775807 := Bd.str (hb_b _ (by simp))
  clear hp hb
  rw [vc_laws_eqBind a b]
  obtain ⟨aName, aV⟩ := a
  obtain ⟨bName, bV⟩ := b
  repeat' (apply if_cond <;> intro _)
  all_goals (first | apply Lf_t | apply Lf_f) <;> simp_all
def con_laws_eqBindS : Con UU where
  α := (List DBind) × (List DBind)
  md := [.ro, .ro]
  of := fun | [.one (.sl .eBind a0), .one (.sl .eBind a1)] => some (a0, a1) | _ => none
  ds := fun (a, b) => [.one (.sl .eBind a), .one (.sl .eBind b)]
  pre := fun (a, b) => []
  res := fun (a, b) => ⟨[.one (.lit (.bool (decide (a = b))))], true, []⟩
  law := by intro l x h; (try simp only at h); split at h <;> cases h; rfl
def I_laws_eqBindS_4 (a : (List DBind)) (b : (List DBind)) : Int × Unit → Prop := fun (i, _) => 0 ≤ i ∧ i ≤ a.length ∧ a.length = b.length ∧ (a.drop i.toNat = b.drop i.toNat ↔ a = b)
def μ_laws_eqBindS_4 (a : (List DBind)) (b : (List DBind)) : Int × Unit → Nat := fun (i, _) => a.length - i.toNat
def ann_laws_eqBindS : con_laws_eqBindS.α → Nat → Option (Ann UU) := fun (a, b) => annL [(4, annOf [.slot 5 (5, 1024) (.lit (.int .i64))] (fun _ => I_laws_eqBindS_4 a b) (μ_laws_eqBindS_4 a b))]
def use_laws_eqBindS : List (FuncId × Con UU) := [(194, con_laws_eqBind)]
theorem vc_laws_eqBindS (a : (List DBind)) (b : (List DBind)) : goal EE use_laws_eqBindS Go.Proofs.Try.f185 con_laws_eqBindS ann_laws_eqBindS (a, b) = (bif (↑(List.length a) : Int) != (↑(List.length b) : Int) then Lf [DV.one (Cell.lit (Value.bool false))] [DV.one (Cell.lit (Value.bool (decide (a = b))))] else I_laws_eqBindS_4 a b ((0 : Int), PUnit.unit) ∧ ∀ (y : Int × PUnit), I_laws_eqBindS_4 a b y → bif decide (y.1 < (↑(List.length a) : Int)) then (0 : Int) ≤ y.1 ∧ Int.toNat y.1 < List.length a ∧ (0 : Int) ≤ y.1 ∧ Int.toNat y.1 < List.length b ∧ bif !decide (List.getD a (Int.toNat y.1) zBind = List.getD b (Int.toNat y.1) zBind) then Lf [DV.one (Cell.lit (Value.bool false))] [DV.one (Cell.lit (Value.bool (decide (a = b))))] else I_laws_eqBindS_4 a b (IntKind.wrap IntKind.i64 (y.1 + (1 : Int)), PUnit.unit) ∧ μ_laws_eqBindS_4 a b (IntKind.wrap IntKind.i64 (y.1 + (1 : Int)), PUnit.unit) < μ_laws_eqBindS_4 a b y else Lf [DV.one (Cell.lit (Value.bool true))] [DV.one (Cell.lit (Value.bool (decide (a = b))))]) := by kernel_rfl
theorem ok_laws_eqBindS : Holds EE (185, con_laws_eqBindS) := by
  refine holds_of EE_ok Go.Proofs.Try.func185 con_laws_eqBindS (by kernel_rfl) rfl use_laws_eqBindS (all_cons ok_laws_eqBind all_nil) ann_laws_eqBindS (fun x hp hb => ?_)
  obtain ⟨a, b⟩ := x
  have hb_a : BdDV (U := UU) (.one (.sl .eBind a)) := hb _ (List.mem_cons_self)
  have hl_a : a.length ≤ 9223372036854775807 := Bd.len hb_a
  have hb_b : BdDV (U := UU) (.one (.sl .eBind b)) := hb _ (List.mem_cons_of_mem _ (List.mem_cons_self))
  have hl_b : b.length ≤ 9223372036854775807 := Bd.len hb_b
  clear hp hb
  rw [vc_laws_eqBindS a b]
  refine if_cond (fun h => Lf_f ?_) (fun h => ⟨?_, ?_⟩)
  · rintro rfl; simp at h
  · simp [I_laws_eqBindS_4] at *; omega
  rintro ⟨i, ⟨⟩⟩ ⟨h1, h2, h3, hR⟩
  simp only at *
  refine if_cond (fun hc => ?_) (fun hc => ?_)
  · have hc : i < a.length := by simpa using hc
    rw [drop_step a zBind h1 hc, drop_step b zBind h1 (by omega)] at hR
    rw [wrap_i64 (by omega) (by omega)]
    refine ⟨by omega, by omega, by omega, by omega, if_cond (fun h => Lf_f ?_) (fun h => ⟨⟨by omega, by omega, h3, ?_⟩, ?_⟩)⟩
    · rw [← hR]; simp at h; simp [h]
    · rw [← hR]; simp at h; simp [h]
    · simp only [μ_laws_eqBindS_4]; omega
  · have hc : a.length ≤ i := by simpa using hc
    rw [drop_end a hc, drop_end b (by omega)] at hR
    exact Lf_t (hR.1 rfl)
def con_laws_markBindS : Con UU where
  α := (List DBind) × Int
  md := [.wr, .ro]
  of := fun | [.one (.sl .eBind a0), .one (.lit (.int .i64 a1))] => some (a0, a1) | _ => none
  ds := fun (a, k) => [.one (.sl .eBind a), .one (.lit (.int .i64 k))]
  pre := fun (a, k) => [0 ≤ k, k + cntBindS a ≤ 4611686018427387904]
  res := fun (a, k) => ⟨[.one (.lit (.int .i64 (k + cntBindS a)))], true, [.one (.sl .eBind (markBindS a k))]⟩
  law := by intro l x h; (try simp only at h); split at h <;> cases h; rfl
def I_laws_markBindS_2 (a : (List DBind)) (k : Int) : List DBind × Int × Int × Unit → Prop := fun (row, kk, i, _) => 0 ≤ i ∧ i ≤ a.length ∧ row = (mkS markBind cntBind a k).take i.toNat ++ a.drop i.toNat ∧ kk = k + ctS cntBind (a.take i.toNat)
def μ_laws_markBindS_2 (a : (List DBind)) (k : Int) : List DBind × Int × Int × Unit → Nat := fun (row, kk, i, _) => a.length - i.toNat
def ann_laws_markBindS : con_laws_markBindS.α → Nat → Option (Ann UU) := fun (a, k) => annL [(2, annOf [.slot 0 (2000000, 0) (.own .eBind true), .slot 1 (1, 1024) (.lit (.int .i64)), .slot 5 (5, 1024) (.lit (.int .i64))] (fun _ => I_laws_markBindS_2 a k) (μ_laws_markBindS_2 a k))]
def use_laws_markBindS : List (FuncId × Con UU) := [(89, con_laws_markText)]
theorem vc_laws_markBindS (a : (List DBind)) (k : Int) : goal EE use_laws_markBindS Go.Proofs.Try.f165 con_laws_markBindS ann_laws_markBindS (a, k) = (I_laws_markBindS_2 a k (a, k, (0 : Int), PUnit.unit) ∧
  ∀ (y : List DBind × Int × Int × PUnit),
    let x0 : Nat := Int.toNat y.2.2.1;
    let x1 : List DBind := List.modify (List.modify (List.modify y.1 x0 fun (x : DBind) => { Name := markText y.2.1, V := x.V : DBind }) x0 fun (x : DBind) => { Name := x.Name, V := { K := IntKind.wrap IntKind.i64 (y.2.1 + (1 : Int)), N := x.V.N, S := x.V.S : DVal } : DBind }) x0 fun (x : DBind) => { Name := x.Name, V := { K := x.V.K, N := IntKind.wrap IntKind.i64 (IntKind.wrap IntKind.i64 (y.2.1 + (1 : Int)) + (1 : Int)), S := x.V.S : DVal } : DBind };
    let x2 : Int := IntKind.wrap IntKind.i64 (IntKind.wrap IntKind.i64 (IntKind.wrap IntKind.i64 (y.2.1 + (1 : Int)) + (1 : Int)) + (1 : Int));
    let x3 : List DBind := List.modify y.1 x0 fun (x : DBind) => { Name := markText y.2.1, V := x.V : DBind };
    I_laws_markBindS_2 a k y → bif decide (y.2.2.1 < (↑(List.length y.1) : Int)) then y.2.1 ≤ (4611686018427387903 : Int) ∧ (0 : Int) ≤ y.2.2.1 ∧ x0 < List.length y.1 ∧ x0 < List.length y.1 ∧ (0 : Int) ≤ y.2.2.1 ∧ x0 < List.length x3 ∧ x0 < List.length x3 ∧ (0 : Int) ≤ y.2.2.1 ∧ x0 < List.length (List.modify x3 x0 fun (x : DBind) => { Name := x.Name, V := { K := IntKind.wrap IntKind.i64 (y.2.1 + (1 : Int)), N := x.V.N, S := x.V.S : DVal } : DBind }) ∧ x0 < List.length (List.modify x3 x0 fun (x : DBind) => { Name := x.Name, V := { K := IntKind.wrap IntKind.i64 (y.2.1 + (1 : Int)), N := x.V.N, S := x.V.S : DVal } : DBind }) ∧ x2 ≤ (4611686018427387903 : Int) ∧ (0 : Int) ≤ y.2.2.1 ∧ x0 < List.length x1 ∧ x0 < List.length x1 ∧ I_laws_markBindS_2 a k (List.modify x1 x0 fun (x : DBind) => { Name := x.Name, V := { K := x.V.K, N := x.V.N, S := markText x2 : DVal } : DBind }, IntKind.wrap IntKind.i64 (x2 + (1 : Int)), IntKind.wrap IntKind.i64 (y.2.2.1 + (1 : Int)), PUnit.unit) ∧ μ_laws_markBindS_2 a k (List.modify x1 x0 fun (x : DBind) => { Name := x.Name, V := { K := x.V.K, N := x.V.N, S := markText x2 : DVal } : DBind }, IntKind.wrap IntKind.i64 (x2 + (1 : Int)), IntKind.wrap IntKind.i64 (y.2.2.1 + (1 : Int)), PUnit.unit) < μ_laws_markBindS_2 a k y else asD [DV.one (Cell.lit (Value.int IntKind.i64 y.2.1))] = asD [DV.one (Cell.lit (Value.int IntKind.i64 (k + (↑(cntBindS a) : Int))))] ∧ asD [DV.one (Cell.sl Cd.eBind y.1)] = asD [DV.one (Cell.sl Cd.eBind (markBindS a k))]) := by kernel_rfl
theorem ok_laws_markBindS : Holds EE (165, con_laws_markBindS) := by
  refine holds_of EE_ok Go.Proofs.Try.func165 con_laws_markBindS (by kernel_rfl) rfl use_laws_markBindS (all_cons ok_laws_markText all_nil) ann_laws_markBindS (fun x hp hb => ?_)
  obtain ⟨a, k⟩ := x
  have hb_a : BdDV (U := UU) (.one (.sl .eBind a)) := hb _ (List.mem_cons_self)
  have hl_a : a.length ≤ 9223372036854775807 := Bd.len hb_a
  have hb_k : BdDV (U := UU) (.one (.lit (.int .i64 k))) := hb _ (List.mem_cons_of_mem _ (List.mem_cons_self))
  have hl_k := Bd.i64 hb_k
  have hp0 : 0 ≤ k := hp _ (List.mem_cons_self)
  have hp1 : k + cntBindS a ≤ 4611686018427387904 := hp _ (List.mem_cons_of_mem _ (List.mem_cons_self))
  clear hp hb
  rw [vc_laws_markBindS a k]
  dsimp only
  refine ⟨⟨by omega, by omega, by simp, by simp [ctS]⟩, ?_⟩
  rintro ⟨row, kk, i, ⟨⟩⟩ ⟨h1, h2, rfl, rfl⟩
  simp only
  have hl := mk_rl markBind cntBind a k h1 h2
  refine if_cond (fun hc => ?_) (fun hc => ?_)
  · have hc : i < a.length := by have hc := of_decide_eq_true hc; omega
    have hct := ctS_take cntBind a zBind h1 hc
    have hle := ctS_take_le cntBind a (i + 1).toNat
    have hg := mk_getD _ a zBind (mk_tl markBind cntBind a k h1 h2) h1 hc
    have hM := fun F hF => mkS_mod markBind cntBind a zBind k (i := i) F h1 hc hF
    have hq : (cntBindS a : Int) = ctS cntBind a := rfl
    generalize List.getD a i.toNat zBind = x at *
    generalize hkk : k + (ctS cntBind (a.take i.toNat) : Int) = kk at *
    generalize List.take i.toNat (mkS markBind cntBind a k) ++ List.drop i.toNat a = R at *
    simp only [cntBind] at hct
    simp (disch := first | omega | (simp only [List.length_modify]; omega)) only [List.length_modify, wrap_i64, getD_modify, modify_modify, hg, hl]
    repeat' (first | refine And.intro (by omega) ?_ | fail)
    exact ⟨⟨by omega, by omega, hM _ rfl, by omega⟩, by simp only [μ_laws_markBindS_2]; omega⟩
  · have hc : a.length ≤ i := by have hc := of_decide_eq_false hc; omega
    rw [mk_done markBind cntBind a k hc, ct_done cntBind a hc]
    exact ⟨rfl, rfl⟩
def con_laws_heldBindS : Con UU where
  α := (List DBind) × Int
  md := [.ro, .ro]
  of := fun | [.one (.sl .eBind a0), .one (.lit (.int .i64 a1))] => some (a0, a1) | _ => none
  ds := fun (a, k) => [.one (.sl .eBind a), .one (.lit (.int .i64 k))]
  pre := fun (a, k) => [0 ≤ k, k + cntBindS a ≤ 4611686018427387904]
  res := fun (a, k) => ⟨[.one (.lit (.int .i64 (if markBindS a k = a then k + cntBindS a else -1)))], true, []⟩
  law := by intro l x h; (try simp only at h); split at h <;> cases h; rfl
def I_laws_heldBindS_2 (a : (List DBind)) (k : Int) : Int × Int × Unit → Prop := fun (kk, i, _) => 0 ≤ i ∧ i ≤ a.length ∧ kk = k + ctS cntBind (a.take i.toNat) ∧ (mkS markBind cntBind (a.drop i.toNat) kk = a.drop i.toNat ↔ mkS markBind cntBind a k = a)
def μ_laws_heldBindS_2 (a : (List DBind)) (k : Int) : Int × Int × Unit → Nat := fun (kk, i, _) => a.length - i.toNat
def ann_laws_heldBindS : con_laws_heldBindS.α → Nat → Option (Ann UU) := fun (a, k) => annL [(2, annOf [.slot 1 (1, 1024) (.lit (.int .i64)), .slot 5 (5, 1024) (.lit (.int .i64))] (fun _ => I_laws_heldBindS_2 a k) (μ_laws_heldBindS_2 a k))]
def use_laws_heldBindS : List (FuncId × Con UU) := [(89, con_laws_markText)]
theorem vc_laws_heldBindS (a : (List DBind)) (k : Int) : goal EE use_laws_heldBindS Go.Proofs.Try.f168 con_laws_heldBindS ann_laws_heldBindS (a, k) = (I_laws_heldBindS_2 a k (k, (0 : Int), PUnit.unit) ∧
  ∀ (y : Int × Int × PUnit),
    let x0 : DVal := (List.getD a (Int.toNat y.2.1) zBind).V;
    let x1 : Int := IntKind.wrap IntKind.i64 (IntKind.wrap IntKind.i64 (IntKind.wrap IntKind.i64 (y.1 + (1 : Int)) + (1 : Int)) + (1 : Int));
    let x2 : Nat := Int.toNat y.2.1;
    I_laws_heldBindS_2 a k y → bif decide (y.2.1 < (↑(List.length a) : Int)) then (0 : Int) ≤ y.2.1 ∧ x2 < List.length a ∧ y.1 ≤ (4611686018427387903 : Int) ∧ bif !ByteArray.toList (List.getD a x2 zBind).Name == ByteArray.toList (markText y.1) then Lf [DV.one (Cell.lit (Value.int IntKind.i64 (-1 : Int)))] [DV.one (Cell.lit (Value.int IntKind.i64 (if markBindS a k = a then k + (↑(cntBindS a) : Int) else (-1 : Int))))] else (0 : Int) ≤ y.2.1 ∧ x2 < List.length a ∧ bif x0.K != IntKind.wrap IntKind.i64 (y.1 + (1 : Int)) then Lf [DV.one (Cell.lit (Value.int IntKind.i64 (-1 : Int)))] [DV.one (Cell.lit (Value.int IntKind.i64 (if markBindS a k = a then k + (↑(cntBindS a) : Int) else (-1 : Int))))] else (0 : Int) ≤ y.2.1 ∧ x2 < List.length a ∧ bif x0.N != IntKind.wrap IntKind.i64 (IntKind.wrap IntKind.i64 (y.1 + (1 : Int)) + (1 : Int)) then Lf [DV.one (Cell.lit (Value.int IntKind.i64 (-1 : Int)))] [DV.one (Cell.lit (Value.int IntKind.i64 (if markBindS a k = a then k + (↑(cntBindS a) : Int) else (-1 : Int))))] else (0 : Int) ≤ y.2.1 ∧ x2 < List.length a ∧ x1 ≤ (4611686018427387903 : Int) ∧ bif !ByteArray.toList x0.S == ByteArray.toList (markText x1) then Lf [DV.one (Cell.lit (Value.int IntKind.i64 (-1 : Int)))] [DV.one (Cell.lit (Value.int IntKind.i64 (if markBindS a k = a then k + (↑(cntBindS a) : Int) else (-1 : Int))))] else I_laws_heldBindS_2 a k (IntKind.wrap IntKind.i64 (x1 + (1 : Int)), IntKind.wrap IntKind.i64 (y.2.1 + (1 : Int)), PUnit.unit) ∧ μ_laws_heldBindS_2 a k (IntKind.wrap IntKind.i64 (x1 + (1 : Int)), IntKind.wrap IntKind.i64 (y.2.1 + (1 : Int)), PUnit.unit) < μ_laws_heldBindS_2 a k y else Lf [DV.one (Cell.lit (Value.int IntKind.i64 y.1))] [DV.one (Cell.lit (Value.int IntKind.i64 (if markBindS a k = a then k + (↑(cntBindS a) : Int) else (-1 : Int))))]) := by kernel_rfl
theorem ok_laws_heldBindS : Holds EE (168, con_laws_heldBindS) := by
  refine holds_of EE_ok Go.Proofs.Try.func168 con_laws_heldBindS (by kernel_rfl) rfl use_laws_heldBindS (all_cons ok_laws_markText all_nil) ann_laws_heldBindS (fun x hp hb => ?_)
  obtain ⟨a, k⟩ := x
  have hb_a : BdDV (U := UU) (.one (.sl .eBind a)) := hb _ (List.mem_cons_self)
  have hl_a : a.length ≤ 9223372036854775807 := Bd.len hb_a
  have hb_k : BdDV (U := UU) (.one (.lit (.int .i64 k))) := hb _ (List.mem_cons_of_mem _ (List.mem_cons_self))
  have hl_k := Bd.i64 hb_k
  have hp0 : 0 ≤ k := hp _ (List.mem_cons_self)
  have hp1 : k + cntBindS a ≤ 4611686018427387904 := hp _ (List.mem_cons_of_mem _ (List.mem_cons_self))
  clear hp hb
  rw [vc_laws_heldBindS a k]
  dsimp only
  refine ⟨⟨by omega, by omega, by simp [ctS], by simp⟩, ?_⟩
  rintro ⟨kk, i, ⟨⟩⟩ ⟨h1, h2, hkk, hR⟩
  simp only
  simp only [markBindS]
  refine if_cond (fun hc => ?_) (fun hc => ?_)
  · have hc : i < a.length := by have hc := of_decide_eq_true hc; omega
    have hct := ctS_take cntBind a zBind h1 hc
    have hle := ctS_take_le cntBind a (i + 1).toNat
    have hq : (cntBindS a : Int) = ctS cntBind a := rfl
    rw [drop_step a zBind h1 hc] at hR
    generalize List.getD a i.toNat zBind = x at *
    simp only [mkS, List.cons.injEq] at hR
    have e : kk + (cntBind x : Int) = kk + 1 + 1 + 1 + 1 := by simp only [cntBind]; omega
    rw [e] at hR
    simp only [markBind, cntBind] at hR hct
    simp (disch := omega) only [wrap_i64, bne_int, toList_beq]
    obtain ⟨x_Name, ⟨x_V_K, x_V_N, x_V_S⟩⟩ := x
    simp only [DBind.mk.injEq, DVal.mk.injEq] at *
    repeat' (first | refine And.intro (by omega) ?_ | fail)
    refine if_cond (fun h => Lf_no (fun hh => ?_)) (fun h => ?_)
    · have hh := hR.2 hh; simp_all
    have h : x_Name = markText (kk) := by simpa using h
    subst x_Name
    repeat' (first | refine And.intro (by omega) ?_ | fail)
    refine if_cond (fun h => Lf_no (fun hh => ?_)) (fun h => ?_)
    · have hh := hR.2 hh; simp_all
    have h : x_V_K = kk + 1 := by simpa using h
    subst x_V_K
    repeat' (first | refine And.intro (by omega) ?_ | fail)
    refine if_cond (fun h => Lf_no (fun hh => ?_)) (fun h => ?_)
    · have hh := hR.2 hh; simp_all
    have h : x_V_N = kk + 1 + 1 := by simpa using h
    subst x_V_N
    repeat' (first | refine And.intro (by omega) ?_ | fail)
    refine if_cond (fun h => Lf_no (fun hh => ?_)) (fun h => ?_)
    · have hh := hR.2 hh; simp_all
    have h : x_V_S = markText (kk + 1 + 1 + 1) := by simpa using h
    subst x_V_S
    exact ⟨⟨by omega, by omega, by omega, by simpa using hR⟩, by simp only [μ_laws_heldBindS_2]; omega⟩
  · have hc : a.length ≤ i := by have hc := of_decide_eq_false hc; omega
    rw [drop_end a hc] at hR
    exact Lf_yes (hR.1 rfl) (by rw [hkk, ct_done _ _ hc]; rfl)
def con_laws_eqMatch : Con UU where
  α := DMatch × DMatch
  md := [.ro, .ro]
  of := fun | [.agg [.lit (.int .i64 a0), .sl .int a1, .sl .eBind a2], .agg [.lit (.int .i64 a3), .sl .int a4, .sl .eBind a5]] => some (⟨a0, a1, a2⟩, ⟨a3, a4, a5⟩) | _ => none
  ds := fun (a, b) => [.agg [.lit (.int .i64 a.Rule), .sl .int a.Ids, .sl .eBind a.Binds], .agg [.lit (.int .i64 b.Rule), .sl .int b.Ids, .sl .eBind b.Binds]]
  pre := fun (a, b) => []
  res := fun (a, b) => ⟨[.one (.lit (.bool (decide (a = b))))], true, []⟩
  law := by intro l x h; (try simp only at h); split at h <;> cases h; rfl
def ann_laws_eqMatch : con_laws_eqMatch.α → Nat → Option (Ann UU) := fun (a, b) => annL []
def use_laws_eqMatch : List (FuncId × Con UU) := [(184, con_laws_eqIntS), (185, con_laws_eqBindS)]
theorem vc_laws_eqMatch (a : DMatch) (b : DMatch) : goal EE use_laws_eqMatch Go.Proofs.Try.f162 con_laws_eqMatch ann_laws_eqMatch (a, b) = (bif a.Rule != b.Rule then Lf [DV.one (Cell.lit (Value.bool false))] [DV.one (Cell.lit (Value.bool (decide (a = b))))] else bif !decide (a.Ids = b.Ids) then Lf [DV.one (Cell.lit (Value.bool false))] [DV.one (Cell.lit (Value.bool (decide (a = b))))] else bif !decide (a.Binds = b.Binds) then Lf [DV.one (Cell.lit (Value.bool false))] [DV.one (Cell.lit (Value.bool (decide (a = b))))] else Lf [DV.one (Cell.lit (Value.bool true))] [DV.one (Cell.lit (Value.bool (decide (a = b))))]) := by kernel_rfl
theorem ok_laws_eqMatch : Holds EE (162, con_laws_eqMatch) := by
  refine holds_of EE_ok Go.Proofs.Try.func162 con_laws_eqMatch (by kernel_rfl) rfl use_laws_eqMatch (all_cons ok_laws_eqIntS (all_cons ok_laws_eqBindS all_nil)) ann_laws_eqMatch (fun x hp hb => ?_)
  obtain ⟨a, b⟩ := x
  have hb_a : BdDV (U := UU) (.agg [.lit (.int .i64 a.Rule), .sl .int a.Ids, .sl .eBind a.Binds]) := hb _ (List.mem_cons_self)
  have hl_a_Ids : a.Ids.length ≤ 9223372036854775807 := Bd.len (U := UU) (τ := .int) (xs := a.Ids) (hb_a _ (by simp))
  have hl_a_Binds : a.Binds.length ≤ 9223372036854775807 := Bd.len (U := UU) (τ := .eBind) (xs := a.Binds) (hb_a _ (by simp))
  have hb_b : BdDV (U := UU) (.agg [.lit (.int .i64 b.Rule), .sl .int b.Ids, .sl .eBind b.Binds]) := hb _ (List.mem_cons_of_mem _ (List.mem_cons_self))
  have hl_b_Ids : b.Ids.length ≤ 9223372036854775807 := Bd.len (U := UU) (τ := .int) (xs := b.Ids) (hb_b _ (by simp))
  have hl_b_Binds : b.Binds.length ≤ 9223372036854775807 := Bd.len (U := UU) (τ := .eBind) (xs := b.Binds) (hb_b _ (by simp))
  clear hp hb
  rw [vc_laws_eqMatch a b]
  obtain ⟨aRule, aIds, aBinds⟩ := a
  obtain ⟨bRule, bIds, bBinds⟩ := b
  repeat' (apply if_cond <;> intro _)
  all_goals (first | apply Lf_t | apply Lf_f) <;> simp_all
def con_laws_eqMatchS : Con UU where
  α := (List DMatch) × (List DMatch)
  md := [.ro, .ro]
  of := fun | [.one (.sl .eMatch a0), .one (.sl .eMatch a1)] => some (a0, a1) | _ => none
  ds := fun (a, b) => [.one (.sl .eMatch a), .one (.sl .eMatch b)]
  pre := fun (a, b) => []
  res := fun (a, b) => ⟨[.one (.lit (.bool (decide (a = b))))], true, []⟩
  law := by intro l x h; (try simp only at h); split at h <;> cases h; rfl
def I_laws_eqMatchS_4 (a : (List DMatch)) (b : (List DMatch)) : Int × Unit → Prop := fun (i, _) => 0 ≤ i ∧ i ≤ a.length ∧ a.length = b.length ∧ (a.drop i.toNat = b.drop i.toNat ↔ a = b)
def μ_laws_eqMatchS_4 (a : (List DMatch)) (b : (List DMatch)) : Int × Unit → Nat := fun (i, _) => a.length - i.toNat
def ann_laws_eqMatchS : con_laws_eqMatchS.α → Nat → Option (Ann UU) := fun (a, b) => annL [(4, annOf [.slot 5 (5, 1024) (.lit (.int .i64))] (fun _ => I_laws_eqMatchS_4 a b) (μ_laws_eqMatchS_4 a b))]
def use_laws_eqMatchS : List (FuncId × Con UU) := [(162, con_laws_eqMatch)]
theorem vc_laws_eqMatchS (a : (List DMatch)) (b : (List DMatch)) : goal EE use_laws_eqMatchS Go.Proofs.Try.f122 con_laws_eqMatchS ann_laws_eqMatchS (a, b) = (bif (↑(List.length a) : Int) != (↑(List.length b) : Int) then Lf [DV.one (Cell.lit (Value.bool false))] [DV.one (Cell.lit (Value.bool (decide (a = b))))] else I_laws_eqMatchS_4 a b ((0 : Int), PUnit.unit) ∧ ∀ (y : Int × PUnit), I_laws_eqMatchS_4 a b y → bif decide (y.1 < (↑(List.length a) : Int)) then (0 : Int) ≤ y.1 ∧ Int.toNat y.1 < List.length a ∧ (0 : Int) ≤ y.1 ∧ Int.toNat y.1 < List.length b ∧ bif !decide (List.getD a (Int.toNat y.1) zMatch = List.getD b (Int.toNat y.1) zMatch) then Lf [DV.one (Cell.lit (Value.bool false))] [DV.one (Cell.lit (Value.bool (decide (a = b))))] else I_laws_eqMatchS_4 a b (IntKind.wrap IntKind.i64 (y.1 + (1 : Int)), PUnit.unit) ∧ μ_laws_eqMatchS_4 a b (IntKind.wrap IntKind.i64 (y.1 + (1 : Int)), PUnit.unit) < μ_laws_eqMatchS_4 a b y else Lf [DV.one (Cell.lit (Value.bool true))] [DV.one (Cell.lit (Value.bool (decide (a = b))))]) := by kernel_rfl
theorem ok_laws_eqMatchS : Holds EE (122, con_laws_eqMatchS) := by
  refine holds_of EE_ok Go.Proofs.Try.func122 con_laws_eqMatchS (by kernel_rfl) rfl use_laws_eqMatchS (all_cons ok_laws_eqMatch all_nil) ann_laws_eqMatchS (fun x hp hb => ?_)
  obtain ⟨a, b⟩ := x
  have hb_a : BdDV (U := UU) (.one (.sl .eMatch a)) := hb _ (List.mem_cons_self)
  have hl_a : a.length ≤ 9223372036854775807 := Bd.len hb_a
  have hb_b : BdDV (U := UU) (.one (.sl .eMatch b)) := hb _ (List.mem_cons_of_mem _ (List.mem_cons_self))
  have hl_b : b.length ≤ 9223372036854775807 := Bd.len hb_b
  clear hp hb
  rw [vc_laws_eqMatchS a b]
  refine if_cond (fun h => Lf_f ?_) (fun h => ⟨?_, ?_⟩)
  · rintro rfl; simp at h
  · simp [I_laws_eqMatchS_4] at *; omega
  rintro ⟨i, ⟨⟩⟩ ⟨h1, h2, h3, hR⟩
  simp only at *
  refine if_cond (fun hc => ?_) (fun hc => ?_)
  · have hc : i < a.length := by simpa using hc
    rw [drop_step a zMatch h1 hc, drop_step b zMatch h1 (by omega)] at hR
    rw [wrap_i64 (by omega) (by omega)]
    refine ⟨by omega, by omega, by omega, by omega, if_cond (fun h => Lf_f ?_) (fun h => ⟨⟨by omega, by omega, h3, ?_⟩, ?_⟩)⟩
    · rw [← hR]; simp at h; simp [h]
    · rw [← hR]; simp at h; simp [h]
    · simp only [μ_laws_eqMatchS_4]; omega
  · have hc : a.length ≤ i := by simpa using hc
    rw [drop_end a hc, drop_end b (by omega)] at hR
    exact Lf_t (hR.1 rfl)
def con_laws_markMatchS : Con UU where
  α := (List DMatch) × Int
  md := [.wr, .ro]
  of := fun | [.one (.sl .eMatch a0), .one (.lit (.int .i64 a1))] => some (a0, a1) | _ => none
  ds := fun (a, k) => [.one (.sl .eMatch a), .one (.lit (.int .i64 k))]
  pre := fun (a, k) => [0 ≤ k, k + cntMatchS a ≤ 4611686018427387904]
  res := fun (a, k) => ⟨[.one (.lit (.int .i64 (k + cntMatchS a)))], true, [.one (.sl .eMatch (markMatchS a k))]⟩
  law := by intro l x h; (try simp only at h); split at h <;> cases h; rfl
def I_laws_markMatchS_2 (a : (List DMatch)) (k : Int) : List DMatch × Int × Int × Unit → Prop := fun (row, kk, i, _) => 0 ≤ i ∧ i ≤ a.length ∧ row = (mkS markMatch cntMatch a k).take i.toNat ++ a.drop i.toNat ∧ kk = k + ctS cntMatch (a.take i.toNat)
def μ_laws_markMatchS_2 (a : (List DMatch)) (k : Int) : List DMatch × Int × Int × Unit → Nat := fun (row, kk, i, _) => a.length - i.toNat
def ann_laws_markMatchS : con_laws_markMatchS.α → Nat → Option (Ann UU) := fun (a, k) => annL [(2, annOf [.slot 0 (2000000, 0) (.own .eMatch true), .slot 1 (1, 1024) (.lit (.int .i64)), .slot 5 (5, 1024) (.lit (.int .i64))] (fun _ => I_laws_markMatchS_2 a k) (μ_laws_markMatchS_2 a k))]
def use_laws_markMatchS : List (FuncId × Con UU) := [(164, con_laws_markIntS), (165, con_laws_markBindS)]
theorem vc_laws_markMatchS (a : (List DMatch)) (k : Int) : goal EE use_laws_markMatchS Go.Proofs.Try.f124 con_laws_markMatchS ann_laws_markMatchS (a, k) = (I_laws_markMatchS_2 a k (a, k, (0 : Int), PUnit.unit) ∧
  ∀ (y : List DMatch × Int × Int × PUnit),
    let x0 : List DMatch := List.modify (List.modify y.1 (Int.toNat y.2.2.1) fun (x : DMatch) => { Rule := y.2.1, Ids := x.Ids, Binds := x.Binds : DMatch }) (Int.toNat y.2.2.1) fun (x : DMatch) => { Rule := x.Rule, Ids := markIntS (List.getD (List.modify y.1 (Int.toNat y.2.2.1) fun (x : DMatch) => { Rule := y.2.1, Ids := x.Ids, Binds := x.Binds : DMatch }) (Int.toNat y.2.2.1) zMatch).Ids (IntKind.wrap IntKind.i64 (y.2.1 + (1 : Int))), Binds := x.Binds : DMatch };
    let x1 : Int := IntKind.wrap IntKind.i64 (y.2.1 + (1 : Int)) + (↑(cntIntS (List.getD (List.modify y.1 (Int.toNat y.2.2.1) fun (x : DMatch) => { Rule := y.2.1, Ids := x.Ids, Binds := x.Binds : DMatch }) (Int.toNat y.2.2.1) zMatch).Ids) : Int);
    let x2 : Nat := Int.toNat y.2.2.1;
    let x3 : Int := x1 + (↑(cntBindS (List.getD x0 x2 zMatch).Binds) : Int);
    I_laws_markMatchS_2 a k y → bif decide (y.2.2.1 < (↑(List.length y.1) : Int)) then (0 : Int) ≤ y.2.2.1 ∧ x2 < List.length y.1 ∧ x2 < List.length y.1 ∧ (0 : Int) ≤ y.2.2.1 ∧ x2 < List.length (List.modify y.1 x2 fun (x : DMatch) => { Rule := y.2.1, Ids := x.Ids, Binds := x.Binds : DMatch }) ∧ x2 < List.length (List.modify y.1 x2 fun (x : DMatch) => { Rule := y.2.1, Ids := x.Ids, Binds := x.Binds : DMatch }) ∧ x2 < List.length (List.modify y.1 x2 fun (x : DMatch) => { Rule := y.2.1, Ids := x.Ids, Binds := x.Binds : DMatch }) ∧ (0 : Int) ≤ IntKind.wrap IntKind.i64 (y.2.1 + (1 : Int)) ∧ x1 ≤ (4611686018427387904 : Int) ∧ (0 : Int) ≤ y.2.2.1 ∧ x2 < List.length x0 ∧ x2 < List.length x0 ∧ x2 < List.length x0 ∧ (0 : Int) ≤ x1 ∧ x3 ≤ (4611686018427387904 : Int) ∧ I_laws_markMatchS_2 a k (List.modify x0 x2 fun (x : DMatch) => { Rule := x.Rule, Ids := x.Ids, Binds := markBindS (List.getD x0 x2 zMatch).Binds x1 : DMatch }, x3, IntKind.wrap IntKind.i64 (y.2.2.1 + (1 : Int)), PUnit.unit) ∧ μ_laws_markMatchS_2 a k (List.modify x0 x2 fun (x : DMatch) => { Rule := x.Rule, Ids := x.Ids, Binds := markBindS (List.getD x0 x2 zMatch).Binds x1 : DMatch }, x3, IntKind.wrap IntKind.i64 (y.2.2.1 + (1 : Int)), PUnit.unit) < μ_laws_markMatchS_2 a k y else asD [DV.one (Cell.lit (Value.int IntKind.i64 y.2.1))] = asD [DV.one (Cell.lit (Value.int IntKind.i64 (k + (↑(cntMatchS a) : Int))))] ∧ asD [DV.one (Cell.sl Cd.eMatch y.1)] = asD [DV.one (Cell.sl Cd.eMatch (markMatchS a k))]) := by kernel_rfl
theorem ok_laws_markMatchS : Holds EE (124, con_laws_markMatchS) := by
  refine holds_of EE_ok Go.Proofs.Try.func124 con_laws_markMatchS (by kernel_rfl) rfl use_laws_markMatchS (all_cons ok_laws_markIntS (all_cons ok_laws_markBindS all_nil)) ann_laws_markMatchS (fun x hp hb => ?_)
  obtain ⟨a, k⟩ := x
  have hb_a : BdDV (U := UU) (.one (.sl .eMatch a)) := hb _ (List.mem_cons_self)
  have hl_a : a.length ≤ 9223372036854775807 := Bd.len hb_a
  have hb_k : BdDV (U := UU) (.one (.lit (.int .i64 k))) := hb _ (List.mem_cons_of_mem _ (List.mem_cons_self))
  have hl_k := Bd.i64 hb_k
  have hp0 : 0 ≤ k := hp _ (List.mem_cons_self)
  have hp1 : k + cntMatchS a ≤ 4611686018427387904 := hp _ (List.mem_cons_of_mem _ (List.mem_cons_self))
  clear hp hb
  rw [vc_laws_markMatchS a k]
  dsimp only
  refine ⟨⟨by omega, by omega, by simp, by simp [ctS]⟩, ?_⟩
  rintro ⟨row, kk, i, ⟨⟩⟩ ⟨h1, h2, rfl, rfl⟩
  simp only
  have hl := mk_rl markMatch cntMatch a k h1 h2
  refine if_cond (fun hc => ?_) (fun hc => ?_)
  · have hc : i < a.length := by have hc := of_decide_eq_true hc; omega
    have hct := ctS_take cntMatch a zMatch h1 hc
    have hle := ctS_take_le cntMatch a (i + 1).toNat
    have hg := mk_getD _ a zMatch (mk_tl markMatch cntMatch a k h1 h2) h1 hc
    have hM := fun F hF => mkS_mod markMatch cntMatch a zMatch k (i := i) F h1 hc hF
    have hq : (cntMatchS a : Int) = ctS cntMatch a := rfl
    generalize List.getD a i.toNat zMatch = x at *
    generalize hkk : k + (ctS cntMatch (a.take i.toNat) : Int) = kk at *
    generalize List.take i.toNat (mkS markMatch cntMatch a k) ++ List.drop i.toNat a = R at *
    simp only [cntMatch] at hct
    simp (disch := first | omega | (simp only [List.length_modify]; omega)) only [List.length_modify, wrap_i64, getD_modify, modify_modify, hg, hl]
    repeat' (first | refine And.intro (by omega) ?_ | fail)
    exact ⟨⟨by omega, by omega, hM _ rfl, by omega⟩, by simp only [μ_laws_markMatchS_2]; omega⟩
  · have hc : a.length ≤ i := by have hc := of_decide_eq_false hc; omega
    rw [mk_done markMatch cntMatch a k hc, ct_done cntMatch a hc]
    exact ⟨rfl, rfl⟩
def con_laws_heldMatchS : Con UU where
  α := (List DMatch) × Int
  md := [.ro, .ro]
  of := fun | [.one (.sl .eMatch a0), .one (.lit (.int .i64 a1))] => some (a0, a1) | _ => none
  ds := fun (a, k) => [.one (.sl .eMatch a), .one (.lit (.int .i64 k))]
  pre := fun (a, k) => [0 ≤ k, k + cntMatchS a ≤ 4611686018427387904]
  res := fun (a, k) => ⟨[.one (.lit (.int .i64 (if markMatchS a k = a then k + cntMatchS a else -1)))], true, []⟩
  law := by intro l x h; (try simp only at h); split at h <;> cases h; rfl
def I_laws_heldMatchS_2 (a : (List DMatch)) (k : Int) : Int × Int × Unit → Prop := fun (kk, i, _) => 0 ≤ i ∧ i ≤ a.length ∧ kk = k + ctS cntMatch (a.take i.toNat) ∧ (mkS markMatch cntMatch (a.drop i.toNat) kk = a.drop i.toNat ↔ mkS markMatch cntMatch a k = a)
def μ_laws_heldMatchS_2 (a : (List DMatch)) (k : Int) : Int × Int × Unit → Nat := fun (kk, i, _) => a.length - i.toNat
def ann_laws_heldMatchS : con_laws_heldMatchS.α → Nat → Option (Ann UU) := fun (a, k) => annL [(2, annOf [.slot 1 (1, 1024) (.lit (.int .i64)), .slot 5 (5, 1024) (.lit (.int .i64))] (fun _ => I_laws_heldMatchS_2 a k) (μ_laws_heldMatchS_2 a k))]
def use_laws_heldMatchS : List (FuncId × Con UU) := [(167, con_laws_heldIntS), (168, con_laws_heldBindS)]
theorem vc_laws_heldMatchS (a : (List DMatch)) (k : Int) : goal EE use_laws_heldMatchS Go.Proofs.Try.f127 con_laws_heldMatchS ann_laws_heldMatchS (a, k) = (let x0 : Int := (-1 : Int);
I_laws_heldMatchS_2 a k (k, (0 : Int), PUnit.unit) ∧
  ∀ (y : Int × Int × PUnit),
    let x1 : Int := if markBindS (List.getD a (Int.toNat y.2.1) zMatch).Binds (if markIntS (List.getD a (Int.toNat y.2.1) zMatch).Ids (IntKind.wrap IntKind.i64 (y.1 + (1 : Int))) = (List.getD a (Int.toNat y.2.1) zMatch).Ids then IntKind.wrap IntKind.i64 (y.1 + (1 : Int)) + (↑(cntIntS (List.getD a (Int.toNat y.2.1) zMatch).Ids) : Int) else x0) = (List.getD a (Int.toNat y.2.1) zMatch).Binds then (if markIntS (List.getD a (Int.toNat y.2.1) zMatch).Ids (IntKind.wrap IntKind.i64 (y.1 + (1 : Int))) = (List.getD a (Int.toNat y.2.1) zMatch).Ids then IntKind.wrap IntKind.i64 (y.1 + (1 : Int)) + (↑(cntIntS (List.getD a (Int.toNat y.2.1) zMatch).Ids) : Int) else x0) + (↑(cntBindS (List.getD a (Int.toNat y.2.1) zMatch).Binds) : Int) else x0;
    let x2 : Int := if markIntS (List.getD a (Int.toNat y.2.1) zMatch).Ids (IntKind.wrap IntKind.i64 (y.1 + (1 : Int))) = (List.getD a (Int.toNat y.2.1) zMatch).Ids then IntKind.wrap IntKind.i64 (y.1 + (1 : Int)) + (↑(cntIntS (List.getD a (Int.toNat y.2.1) zMatch).Ids) : Int) else x0;
    let x3 : DMatch := List.getD a (Int.toNat y.2.1) zMatch;
    I_laws_heldMatchS_2 a k y → bif decide (y.2.1 < (↑(List.length a) : Int)) then (0 : Int) ≤ y.2.1 ∧ Int.toNat y.2.1 < List.length a ∧ bif x3.Rule != y.1 then Lf [DV.one (Cell.lit (Value.int IntKind.i64 x0))] [DV.one (Cell.lit (Value.int IntKind.i64 (if markMatchS a k = a then k + (↑(cntMatchS a) : Int) else x0)))] else (0 : Int) ≤ y.2.1 ∧ Int.toNat y.2.1 < List.length a ∧ (0 : Int) ≤ IntKind.wrap IntKind.i64 (y.1 + (1 : Int)) ∧ IntKind.wrap IntKind.i64 (y.1 + (1 : Int)) + (↑(cntIntS x3.Ids) : Int) ≤ (4611686018427387904 : Int) ∧ bif decide (x2 < (0 : Int)) then Lf [DV.one (Cell.lit (Value.int IntKind.i64 x0))] [DV.one (Cell.lit (Value.int IntKind.i64 (if markMatchS a k = a then k + (↑(cntMatchS a) : Int) else x0)))] else (0 : Int) ≤ y.2.1 ∧ Int.toNat y.2.1 < List.length a ∧ (0 : Int) ≤ x2 ∧ x2 + (↑(cntBindS x3.Binds) : Int) ≤ (4611686018427387904 : Int) ∧ bif decide (x1 < (0 : Int)) then Lf [DV.one (Cell.lit (Value.int IntKind.i64 x0))] [DV.one (Cell.lit (Value.int IntKind.i64 (if markMatchS a k = a then k + (↑(cntMatchS a) : Int) else x0)))] else I_laws_heldMatchS_2 a k (x1, IntKind.wrap IntKind.i64 (y.2.1 + (1 : Int)), PUnit.unit) ∧ μ_laws_heldMatchS_2 a k (x1, IntKind.wrap IntKind.i64 (y.2.1 + (1 : Int)), PUnit.unit) < μ_laws_heldMatchS_2 a k y else Lf [DV.one (Cell.lit (Value.int IntKind.i64 y.1))] [DV.one (Cell.lit (Value.int IntKind.i64 (if markMatchS a k = a then k + (↑(cntMatchS a) : Int) else x0)))]) := by kernel_rfl
theorem ok_laws_heldMatchS : Holds EE (127, con_laws_heldMatchS) := by
  refine holds_of EE_ok Go.Proofs.Try.func127 con_laws_heldMatchS (by kernel_rfl) rfl use_laws_heldMatchS (all_cons ok_laws_heldIntS (all_cons ok_laws_heldBindS all_nil)) ann_laws_heldMatchS (fun x hp hb => ?_)
  obtain ⟨a, k⟩ := x
  have hb_a : BdDV (U := UU) (.one (.sl .eMatch a)) := hb _ (List.mem_cons_self)
  have hl_a : a.length ≤ 9223372036854775807 := Bd.len hb_a
  have hb_k : BdDV (U := UU) (.one (.lit (.int .i64 k))) := hb _ (List.mem_cons_of_mem _ (List.mem_cons_self))
  have hl_k := Bd.i64 hb_k
  have hp0 : 0 ≤ k := hp _ (List.mem_cons_self)
  have hp1 : k + cntMatchS a ≤ 4611686018427387904 := hp _ (List.mem_cons_of_mem _ (List.mem_cons_self))
  clear hp hb
  rw [vc_laws_heldMatchS a k]
  dsimp only
  refine ⟨⟨by omega, by omega, by simp [ctS], by simp⟩, ?_⟩
  rintro ⟨kk, i, ⟨⟩⟩ ⟨h1, h2, hkk, hR⟩
  simp only
  simp only [markMatchS]
  refine if_cond (fun hc => ?_) (fun hc => ?_)
  · have hc : i < a.length := by have hc := of_decide_eq_true hc; omega
    have hct := ctS_take cntMatch a zMatch h1 hc
    have hle := ctS_take_le cntMatch a (i + 1).toNat
    have hq : (cntMatchS a : Int) = ctS cntMatch a := rfl
    rw [drop_step a zMatch h1 hc] at hR
    generalize List.getD a i.toNat zMatch = x at *
    simp only [mkS, List.cons.injEq] at hR
    have e : kk + (cntMatch x : Int) = kk + 1 + (cntIntS x.Ids : Int) + (cntBindS x.Binds : Int) := by simp only [cntMatch]; omega
    rw [e] at hR
    simp only [markMatch, cntMatch] at hR hct
    simp (disch := omega) only [wrap_i64, bne_int, toList_beq]
    obtain ⟨x_Rule, x_Ids, x_Binds⟩ := x
    simp only [DMatch.mk.injEq] at *
    repeat' (first | refine And.intro (by omega) ?_ | fail)
    refine if_cond (fun h => Lf_no (fun hh => ?_)) (fun h => ?_)
    · have hh := hR.2 hh; simp_all
    have h : x_Rule = kk := by simpa using h
    subst x_Rule
    repeat' (first | refine And.intro (by omega) ?_ | fail)
    by_cases hm : markIntS x_Ids (kk + 1) = x_Ids
    rotate_left
    · simp only [if_neg hm]; rw [cond_yes (by decide)]
      exact Lf_no (fun hh => hm (by have hh := hR.2 hh; simp_all))
    simp only [if_pos hm]
    refine if_cond (fun h => absurd (of_decide_eq_true h) (by omega)) (fun h => ?_)
    simp only [hm] at hR
    clear hm
    repeat' (first | refine And.intro (by omega) ?_ | fail)
    by_cases hm : markBindS x_Binds (kk + 1 + cntIntS x_Ids) = x_Binds
    rotate_left
    · simp only [if_neg hm]; rw [cond_yes (by decide)]
      exact Lf_no (fun hh => hm (by have hh := hR.2 hh; simp_all))
    simp only [if_pos hm]
    refine if_cond (fun h => absurd (of_decide_eq_true h) (by omega)) (fun h => ?_)
    simp only [hm] at hR
    clear hm
    exact ⟨⟨by omega, by omega, by omega, by simpa using hR⟩, by simp only [μ_laws_heldMatchS_2]; omega⟩
  · have hc : a.length ≤ i := by have hc := of_decide_eq_false hc; omega
    rw [drop_end a hc] at hR
    exact Lf_yes (hR.1 rfl) (by rw [hkk, ct_done _ _ hc]; rfl)
def con_laws_eqInst : Con UU where
  α := DInst × DInst
  md := [.ro, .ro]
  of := fun | [.agg [.sl .eItem a0, .lit (.int .i64 a1), .sl .eMatch a2, .sl .eTask a3, .sl .eTimer a4, .sl .eUndo a5, .lit (.int .i64 a6), .lit (.int .i64 a7)], .agg [.sl .eItem a8, .lit (.int .i64 a9), .sl .eMatch a10, .sl .eTask a11, .sl .eTimer a12, .sl .eUndo a13, .lit (.int .i64 a14), .lit (.int .i64 a15)]] => some (⟨⟨a0, a1⟩, a2, a3, a4, a5, a6, a7⟩, ⟨⟨a8, a9⟩, a10, a11, a12, a13, a14, a15⟩) | _ => none
  ds := fun (a, b) => [.agg [.sl .eItem a.S.Items, .lit (.int .i64 a.S.Next), .sl .eMatch a.Fired, .sl .eTask a.Tasks, .sl .eTimer a.Timers, .sl .eUndo a.Undos, .lit (.int .i64 a.State), .lit (.int .i64 a.Now)], .agg [.sl .eItem b.S.Items, .lit (.int .i64 b.S.Next), .sl .eMatch b.Fired, .sl .eTask b.Tasks, .sl .eTimer b.Timers, .sl .eUndo b.Undos, .lit (.int .i64 b.State), .lit (.int .i64 b.Now)]]
  pre := fun (a, b) => []
  res := fun (a, b) => ⟨[.one (.lit (.bool (decide (a = b))))], true, []⟩
  law := by intro l x h; (try simp only at h); split at h <;> cases h; rfl
def ann_laws_eqInst : con_laws_eqInst.α → Nat → Option (Ann UU) := fun (a, b) => annL []
def use_laws_eqInst : List (FuncId × Con UU) := [(121, con_laws_eqStore), (122, con_laws_eqMatchS), (27, con_laws_eqTaskS), (44, con_laws_eqTimerS), (17, con_laws_eqUndoS)]
theorem vc_laws_eqInst (a : DInst) (b : DInst) : goal EE use_laws_eqInst Go.Proofs.Try.f57 con_laws_eqInst ann_laws_eqInst (a, b) = (bif !decide (a.S = b.S) then Lf [DV.one (Cell.lit (Value.bool false))] [DV.one (Cell.lit (Value.bool (decide (a = b))))] else bif !decide (a.Fired = b.Fired) then Lf [DV.one (Cell.lit (Value.bool false))] [DV.one (Cell.lit (Value.bool (decide (a = b))))] else bif !decide (a.Tasks = b.Tasks) then Lf [DV.one (Cell.lit (Value.bool false))] [DV.one (Cell.lit (Value.bool (decide (a = b))))] else bif !decide (a.Timers = b.Timers) then Lf [DV.one (Cell.lit (Value.bool false))] [DV.one (Cell.lit (Value.bool (decide (a = b))))] else bif !decide (a.Undos = b.Undos) then Lf [DV.one (Cell.lit (Value.bool false))] [DV.one (Cell.lit (Value.bool (decide (a = b))))] else bif a.State != b.State then Lf [DV.one (Cell.lit (Value.bool false))] [DV.one (Cell.lit (Value.bool (decide (a = b))))] else bif a.Now != b.Now then Lf [DV.one (Cell.lit (Value.bool false))] [DV.one (Cell.lit (Value.bool (decide (a = b))))] else Lf [DV.one (Cell.lit (Value.bool true))] [DV.one (Cell.lit (Value.bool (decide (a = b))))]) := by kernel_rfl
theorem ok_laws_eqInst : Holds EE (57, con_laws_eqInst) := by
  refine holds_of EE_ok Go.Proofs.Try.func57 con_laws_eqInst (by kernel_rfl) rfl use_laws_eqInst (all_cons ok_laws_eqStore (all_cons ok_laws_eqMatchS (all_cons ok_laws_eqTaskS (all_cons ok_laws_eqTimerS (all_cons ok_laws_eqUndoS all_nil))))) ann_laws_eqInst (fun x hp hb => ?_)
  obtain ⟨a, b⟩ := x
  have hb_a : BdDV (U := UU) (.agg [.sl .eItem a.S.Items, .lit (.int .i64 a.S.Next), .sl .eMatch a.Fired, .sl .eTask a.Tasks, .sl .eTimer a.Timers, .sl .eUndo a.Undos, .lit (.int .i64 a.State), .lit (.int .i64 a.Now)]) := hb _ (List.mem_cons_self)
  have hl_a_S_Items : a.S.Items.length ≤ 9223372036854775807 := Bd.len (U := UU) (τ := .eItem) (xs := a.S.Items) (hb_a _ (by simp))
  have hl_a_Fired : a.Fired.length ≤ 9223372036854775807 := Bd.len (U := UU) (τ := .eMatch) (xs := a.Fired) (hb_a _ (by simp))
  have hl_a_Tasks : a.Tasks.length ≤ 9223372036854775807 := Bd.len (U := UU) (τ := .eTask) (xs := a.Tasks) (hb_a _ (by simp))
  have hl_a_Timers : a.Timers.length ≤ 9223372036854775807 := Bd.len (U := UU) (τ := .eTimer) (xs := a.Timers) (hb_a _ (by simp))
  have hl_a_Undos : a.Undos.length ≤ 9223372036854775807 := Bd.len (U := UU) (τ := .eUndo) (xs := a.Undos) (hb_a _ (by simp))
  have hb_b : BdDV (U := UU) (.agg [.sl .eItem b.S.Items, .lit (.int .i64 b.S.Next), .sl .eMatch b.Fired, .sl .eTask b.Tasks, .sl .eTimer b.Timers, .sl .eUndo b.Undos, .lit (.int .i64 b.State), .lit (.int .i64 b.Now)]) := hb _ (List.mem_cons_of_mem _ (List.mem_cons_self))
  have hl_b_S_Items : b.S.Items.length ≤ 9223372036854775807 := Bd.len (U := UU) (τ := .eItem) (xs := b.S.Items) (hb_b _ (by simp))
  have hl_b_Fired : b.Fired.length ≤ 9223372036854775807 := Bd.len (U := UU) (τ := .eMatch) (xs := b.Fired) (hb_b _ (by simp))
  have hl_b_Tasks : b.Tasks.length ≤ 9223372036854775807 := Bd.len (U := UU) (τ := .eTask) (xs := b.Tasks) (hb_b _ (by simp))
  have hl_b_Timers : b.Timers.length ≤ 9223372036854775807 := Bd.len (U := UU) (τ := .eTimer) (xs := b.Timers) (hb_b _ (by simp))
  have hl_b_Undos : b.Undos.length ≤ 9223372036854775807 := Bd.len (U := UU) (τ := .eUndo) (xs := b.Undos) (hb_b _ (by simp))
  clear hp hb
  rw [vc_laws_eqInst a b]
  obtain ⟨aS, aFired, aTasks, aTimers, aUndos, aState, aNow⟩ := a
  obtain ⟨bS, bFired, bTasks, bTimers, bUndos, bState, bNow⟩ := b
  repeat' (apply if_cond <;> intro _)
  all_goals (first | apply Lf_t | apply Lf_f) <;> simp_all
def con_laws_markInst : Con UU where
  α := DInst × Int
  md := [.wr, .ro]
  of := fun | [.agg [.sl .eItem a0, .lit (.int .i64 a1), .sl .eMatch a2, .sl .eTask a3, .sl .eTimer a4, .sl .eUndo a5, .lit (.int .i64 a6), .lit (.int .i64 a7)], .one (.lit (.int .i64 a8))] => some (⟨⟨a0, a1⟩, a2, a3, a4, a5, a6, a7⟩, a8) | _ => none
  ds := fun (a, k) => [.agg [.sl .eItem a.S.Items, .lit (.int .i64 a.S.Next), .sl .eMatch a.Fired, .sl .eTask a.Tasks, .sl .eTimer a.Timers, .sl .eUndo a.Undos, .lit (.int .i64 a.State), .lit (.int .i64 a.Now)], .one (.lit (.int .i64 k))]
  pre := fun (a, k) => [0 ≤ k, k + ctInst a ≤ 4611686018427387904]
  res := fun (a, k) => ⟨[.one (.lit (.int .i64 (k + ctInst a)))], true, [.agg [.sl .eItem (((mkInst a k)).S).Items, .lit (.int .i64 (((mkInst a k)).S).Next), .sl .eMatch ((mkInst a k)).Fired, .sl .eTask ((mkInst a k)).Tasks, .sl .eTimer ((mkInst a k)).Timers, .sl .eUndo ((mkInst a k)).Undos, .lit (.int .i64 ((mkInst a k)).State), .lit (.int .i64 ((mkInst a k)).Now)]]⟩
  law := by intro l x h; (try simp only at h); split at h <;> cases h; rfl
def ann_laws_markInst : con_laws_markInst.α → Nat → Option (Ann UU) := fun (a, k) => annL []
def use_laws_markInst : List (FuncId × Con UU) := [(123, con_laws_markStore), (124, con_laws_markMatchS), (28, con_laws_markTaskS), (46, con_laws_markTimerS), (125, con_laws_markUndoS)]
theorem vc_laws_markInst (a : DInst) (k : Int) : goal EE use_laws_markInst Go.Proofs.Try.f58 con_laws_markInst ann_laws_markInst (a, k) = (let x0 : Int := k + (↑(ctStore a.S) : Int) + (↑(cntMatchS a.Fired) : Int) + (↑(cntTaskS a.Tasks) : Int) + (↑(cntTimerS a.Timers) : Int);
let x1 : Int := k + (↑(ctStore a.S) : Int) + (↑(cntMatchS a.Fired) : Int);
let x2 : Int := x1 + (↑(cntTaskS a.Tasks) : Int);
let x3 : Int := k + (↑(ctStore a.S) : Int);
(0 : Int) ≤ k ∧ x3 ≤ (4611686018427387904 : Int) ∧ (0 : Int) ≤ x3 ∧ x1 ≤ (4611686018427387904 : Int) ∧ (0 : Int) ≤ x1 ∧ x2 ≤ (4611686018427387904 : Int) ∧ (0 : Int) ≤ x2 ∧ x0 ≤ (4611686018427387904 : Int) ∧ (0 : Int) ≤ x0 ∧ x0 + (↑(cntUndoS a.Undos) : Int) ≤ (4611686018427387904 : Int) ∧ asD [DV.one (Cell.lit (Value.int IntKind.i64 (x0 + (↑(cntUndoS a.Undos) : Int))))] = asD [DV.one (Cell.lit (Value.int IntKind.i64 (k + (↑(ctInst a) : Int))))] ∧ asD [DV.agg [Cell.sl Cd.eItem (mkStore a.S k).Items, Cell.lit (Value.int IntKind.i64 a.S.Next), Cell.sl Cd.eMatch (markMatchS a.Fired x3), Cell.sl Cd.eTask (markTaskS a.Tasks x1), Cell.sl Cd.eTimer (markTimerS a.Timers x2), Cell.sl Cd.eUndo (markUndoS a.Undos x0), Cell.lit (Value.int IntKind.i64 a.State), Cell.lit (Value.int IntKind.i64 a.Now)]] = asD [DV.agg [Cell.sl Cd.eItem (mkInst a k).S.Items, Cell.lit (Value.int IntKind.i64 (mkInst a k).S.Next), Cell.sl Cd.eMatch (mkInst a k).Fired, Cell.sl Cd.eTask (mkInst a k).Tasks, Cell.sl Cd.eTimer (mkInst a k).Timers, Cell.sl Cd.eUndo (mkInst a k).Undos, Cell.lit (Value.int IntKind.i64 (mkInst a k).State), Cell.lit (Value.int IntKind.i64 (mkInst a k).Now)]]) := by kernel_rfl
theorem ok_laws_markInst : Holds EE (58, con_laws_markInst) := by
  refine holds_of EE_ok Go.Proofs.Try.func58 con_laws_markInst (by kernel_rfl) rfl use_laws_markInst (all_cons ok_laws_markStore (all_cons ok_laws_markMatchS (all_cons ok_laws_markTaskS (all_cons ok_laws_markTimerS (all_cons ok_laws_markUndoS all_nil))))) ann_laws_markInst (fun x hp hb => ?_)
  obtain ⟨a, k⟩ := x
  have hb_a : BdDV (U := UU) (.agg [.sl .eItem a.S.Items, .lit (.int .i64 a.S.Next), .sl .eMatch a.Fired, .sl .eTask a.Tasks, .sl .eTimer a.Timers, .sl .eUndo a.Undos, .lit (.int .i64 a.State), .lit (.int .i64 a.Now)]) := hb _ (List.mem_cons_self)
  have hl_a_S_Items : a.S.Items.length ≤ 9223372036854775807 := Bd.len (U := UU) (τ := .eItem) (xs := a.S.Items) (hb_a _ (by simp))
  have hl_a_Fired : a.Fired.length ≤ 9223372036854775807 := Bd.len (U := UU) (τ := .eMatch) (xs := a.Fired) (hb_a _ (by simp))
  have hl_a_Tasks : a.Tasks.length ≤ 9223372036854775807 := Bd.len (U := UU) (τ := .eTask) (xs := a.Tasks) (hb_a _ (by simp))
  have hl_a_Timers : a.Timers.length ≤ 9223372036854775807 := Bd.len (U := UU) (τ := .eTimer) (xs := a.Timers) (hb_a _ (by simp))
  have hl_a_Undos : a.Undos.length ≤ 9223372036854775807 := Bd.len (U := UU) (τ := .eUndo) (xs := a.Undos) (hb_a _ (by simp))
  have hb_k : BdDV (U := UU) (.one (.lit (.int .i64 k))) := hb _ (List.mem_cons_of_mem _ (List.mem_cons_self))
  have hl_k := Bd.i64 hb_k
  have hp0 : 0 ≤ k := hp _ (List.mem_cons_self)
  have hp1 : k + ctInst a ≤ 4611686018427387904 := hp _ (List.mem_cons_of_mem _ (List.mem_cons_self))
  clear hp hb
  rw [vc_laws_markInst a k]
  dsimp only
  simp only [ctInst] at hp1
  repeat' (first | refine And.intro (by omega) ?_ | fail)
  exact ⟨by simp only [ctInst, Int.natCast_add, Int.add_assoc], rfl⟩
def con_laws_heldInst : Con UU where
  α := DInst × Int
  md := [.ro, .ro]
  of := fun | [.agg [.sl .eItem a0, .lit (.int .i64 a1), .sl .eMatch a2, .sl .eTask a3, .sl .eTimer a4, .sl .eUndo a5, .lit (.int .i64 a6), .lit (.int .i64 a7)], .one (.lit (.int .i64 a8))] => some (⟨⟨a0, a1⟩, a2, a3, a4, a5, a6, a7⟩, a8) | _ => none
  ds := fun (a, k) => [.agg [.sl .eItem a.S.Items, .lit (.int .i64 a.S.Next), .sl .eMatch a.Fired, .sl .eTask a.Tasks, .sl .eTimer a.Timers, .sl .eUndo a.Undos, .lit (.int .i64 a.State), .lit (.int .i64 a.Now)], .one (.lit (.int .i64 k))]
  pre := fun (a, k) => [0 ≤ k, k + ctInst a ≤ 4611686018427387904]
  res := fun (a, k) => ⟨[.one (.lit (.int .i64 (if mkInst a k = a then k + ctInst a else -1)))], true, []⟩
  law := by intro l x h; (try simp only at h); split at h <;> cases h; rfl
def ann_laws_heldInst : con_laws_heldInst.α → Nat → Option (Ann UU) := fun (a, k) => annL []
def use_laws_heldInst : List (FuncId × Con UU) := [(126, con_laws_heldStore), (127, con_laws_heldMatchS), (29, con_laws_heldTaskS), (48, con_laws_heldTimerS), (128, con_laws_heldUndoS)]
theorem vc_laws_heldInst (a : DInst) (k : Int) : goal EE use_laws_heldInst Go.Proofs.Try.f59 con_laws_heldInst ann_laws_heldInst (a, k) = (let x0 : Int := if markUndoS a.Undos (if markTimerS a.Timers (if markTaskS a.Tasks (if markMatchS a.Fired (if mkStore a.S k = a.S then k + (↑(ctStore a.S) : Int) else (-1 : Int)) = a.Fired then (if mkStore a.S k = a.S then k + (↑(ctStore a.S) : Int) else (-1 : Int)) + (↑(cntMatchS a.Fired) : Int) else (-1 : Int)) = a.Tasks then (if markMatchS a.Fired (if mkStore a.S k = a.S then k + (↑(ctStore a.S) : Int) else (-1 : Int)) = a.Fired then (if mkStore a.S k = a.S then k + (↑(ctStore a.S) : Int) else (-1 : Int)) + (↑(cntMatchS a.Fired) : Int) else (-1 : Int)) + (↑(cntTaskS a.Tasks) : Int) else (-1 : Int)) = a.Timers then (if markTaskS a.Tasks (if markMatchS a.Fired (if mkStore a.S k = a.S then k + (↑(ctStore a.S) : Int) else (-1 : Int)) = a.Fired then (if mkStore a.S k = a.S then k + (↑(ctStore a.S) : Int) else (-1 : Int)) + (↑(cntMatchS a.Fired) : Int) else (-1 : Int)) = a.Tasks then (if markMatchS a.Fired (if mkStore a.S k = a.S then k + (↑(ctStore a.S) : Int) else (-1 : Int)) = a.Fired then (if mkStore a.S k = a.S then k + (↑(ctStore a.S) : Int) else (-1 : Int)) + (↑(cntMatchS a.Fired) : Int) else (-1 : Int)) + (↑(cntTaskS a.Tasks) : Int) else (-1 : Int)) + (↑(cntTimerS a.Timers) : Int) else (-1 : Int)) = a.Undos then (if markTimerS a.Timers (if markTaskS a.Tasks (if markMatchS a.Fired (if mkStore a.S k = a.S then k + (↑(ctStore a.S) : Int) else (-1 : Int)) = a.Fired then (if mkStore a.S k = a.S then k + (↑(ctStore a.S) : Int) else (-1 : Int)) + (↑(cntMatchS a.Fired) : Int) else (-1 : Int)) = a.Tasks then (if markMatchS a.Fired (if mkStore a.S k = a.S then k + (↑(ctStore a.S) : Int) else (-1 : Int)) = a.Fired then (if mkStore a.S k = a.S then k + (↑(ctStore a.S) : Int) else (-1 : Int)) + (↑(cntMatchS a.Fired) : Int) else (-1 : Int)) + (↑(cntTaskS a.Tasks) : Int) else (-1 : Int)) = a.Timers then (if markTaskS a.Tasks (if markMatchS a.Fired (if mkStore a.S k = a.S then k + (↑(ctStore a.S) : Int) else (-1 : Int)) = a.Fired then (if mkStore a.S k = a.S then k + (↑(ctStore a.S) : Int) else (-1 : Int)) + (↑(cntMatchS a.Fired) : Int) else (-1 : Int)) = a.Tasks then (if markMatchS a.Fired (if mkStore a.S k = a.S then k + (↑(ctStore a.S) : Int) else (-1 : Int)) = a.Fired then (if mkStore a.S k = a.S then k + (↑(ctStore a.S) : Int) else (-1 : Int)) + (↑(cntMatchS a.Fired) : Int) else (-1 : Int)) + (↑(cntTaskS a.Tasks) : Int) else (-1 : Int)) + (↑(cntTimerS a.Timers) : Int) else (-1 : Int)) + (↑(cntUndoS a.Undos) : Int) else (-1 : Int);
let x1 : Int := if markTimerS a.Timers (if markTaskS a.Tasks (if markMatchS a.Fired (if mkStore a.S k = a.S then k + (↑(ctStore a.S) : Int) else (-1 : Int)) = a.Fired then (if mkStore a.S k = a.S then k + (↑(ctStore a.S) : Int) else (-1 : Int)) + (↑(cntMatchS a.Fired) : Int) else (-1 : Int)) = a.Tasks then (if markMatchS a.Fired (if mkStore a.S k = a.S then k + (↑(ctStore a.S) : Int) else (-1 : Int)) = a.Fired then (if mkStore a.S k = a.S then k + (↑(ctStore a.S) : Int) else (-1 : Int)) + (↑(cntMatchS a.Fired) : Int) else (-1 : Int)) + (↑(cntTaskS a.Tasks) : Int) else (-1 : Int)) = a.Timers then (if markTaskS a.Tasks (if markMatchS a.Fired (if mkStore a.S k = a.S then k + (↑(ctStore a.S) : Int) else (-1 : Int)) = a.Fired then (if mkStore a.S k = a.S then k + (↑(ctStore a.S) : Int) else (-1 : Int)) + (↑(cntMatchS a.Fired) : Int) else (-1 : Int)) = a.Tasks then (if markMatchS a.Fired (if mkStore a.S k = a.S then k + (↑(ctStore a.S) : Int) else (-1 : Int)) = a.Fired then (if mkStore a.S k = a.S then k + (↑(ctStore a.S) : Int) else (-1 : Int)) + (↑(cntMatchS a.Fired) : Int) else (-1 : Int)) + (↑(cntTaskS a.Tasks) : Int) else (-1 : Int)) + (↑(cntTimerS a.Timers) : Int) else (-1 : Int);
let x2 : Int := if markTaskS a.Tasks (if markMatchS a.Fired (if mkStore a.S k = a.S then k + (↑(ctStore a.S) : Int) else (-1 : Int)) = a.Fired then (if mkStore a.S k = a.S then k + (↑(ctStore a.S) : Int) else (-1 : Int)) + (↑(cntMatchS a.Fired) : Int) else (-1 : Int)) = a.Tasks then (if markMatchS a.Fired (if mkStore a.S k = a.S then k + (↑(ctStore a.S) : Int) else (-1 : Int)) = a.Fired then (if mkStore a.S k = a.S then k + (↑(ctStore a.S) : Int) else (-1 : Int)) + (↑(cntMatchS a.Fired) : Int) else (-1 : Int)) + (↑(cntTaskS a.Tasks) : Int) else (-1 : Int);
let x3 : Int := if markMatchS a.Fired (if mkStore a.S k = a.S then k + (↑(ctStore a.S) : Int) else (-1 : Int)) = a.Fired then (if mkStore a.S k = a.S then k + (↑(ctStore a.S) : Int) else (-1 : Int)) + (↑(cntMatchS a.Fired) : Int) else (-1 : Int);
let x4 : Int := if mkStore a.S k = a.S then k + (↑(ctStore a.S) : Int) else (-1 : Int);
(0 : Int) ≤ k ∧ k + (↑(ctStore a.S) : Int) ≤ (4611686018427387904 : Int) ∧ bif decide (x4 < (0 : Int)) then Lf [DV.one (Cell.lit (Value.int IntKind.i64 (-1 : Int)))] [DV.one (Cell.lit (Value.int IntKind.i64 (if mkInst a k = a then k + (↑(ctInst a) : Int) else (-1 : Int))))] else (0 : Int) ≤ x4 ∧ x4 + (↑(cntMatchS a.Fired) : Int) ≤ (4611686018427387904 : Int) ∧ bif decide (x3 < (0 : Int)) then Lf [DV.one (Cell.lit (Value.int IntKind.i64 (-1 : Int)))] [DV.one (Cell.lit (Value.int IntKind.i64 (if mkInst a k = a then k + (↑(ctInst a) : Int) else (-1 : Int))))] else (0 : Int) ≤ x3 ∧ x3 + (↑(cntTaskS a.Tasks) : Int) ≤ (4611686018427387904 : Int) ∧ bif decide (x2 < (0 : Int)) then Lf [DV.one (Cell.lit (Value.int IntKind.i64 (-1 : Int)))] [DV.one (Cell.lit (Value.int IntKind.i64 (if mkInst a k = a then k + (↑(ctInst a) : Int) else (-1 : Int))))] else (0 : Int) ≤ x2 ∧ x2 + (↑(cntTimerS a.Timers) : Int) ≤ (4611686018427387904 : Int) ∧ bif decide (x1 < (0 : Int)) then Lf [DV.one (Cell.lit (Value.int IntKind.i64 (-1 : Int)))] [DV.one (Cell.lit (Value.int IntKind.i64 (if mkInst a k = a then k + (↑(ctInst a) : Int) else (-1 : Int))))] else (0 : Int) ≤ x1 ∧ x1 + (↑(cntUndoS a.Undos) : Int) ≤ (4611686018427387904 : Int) ∧ bif decide (x0 < (0 : Int)) then Lf [DV.one (Cell.lit (Value.int IntKind.i64 (-1 : Int)))] [DV.one (Cell.lit (Value.int IntKind.i64 (if mkInst a k = a then k + (↑(ctInst a) : Int) else (-1 : Int))))] else Lf [DV.one (Cell.lit (Value.int IntKind.i64 x0))] [DV.one (Cell.lit (Value.int IntKind.i64 (if mkInst a k = a then k + (↑(ctInst a) : Int) else (-1 : Int))))]) := by kernel_rfl
theorem ok_laws_heldInst : Holds EE (59, con_laws_heldInst) := by
  refine holds_of EE_ok Go.Proofs.Try.func59 con_laws_heldInst (by kernel_rfl) rfl use_laws_heldInst (all_cons ok_laws_heldStore (all_cons ok_laws_heldMatchS (all_cons ok_laws_heldTaskS (all_cons ok_laws_heldTimerS (all_cons ok_laws_heldUndoS all_nil))))) ann_laws_heldInst (fun x hp hb => ?_)
  obtain ⟨a, k⟩ := x
  have hb_a : BdDV (U := UU) (.agg [.sl .eItem a.S.Items, .lit (.int .i64 a.S.Next), .sl .eMatch a.Fired, .sl .eTask a.Tasks, .sl .eTimer a.Timers, .sl .eUndo a.Undos, .lit (.int .i64 a.State), .lit (.int .i64 a.Now)]) := hb _ (List.mem_cons_self)
  have hl_a_S_Items : a.S.Items.length ≤ 9223372036854775807 := Bd.len (U := UU) (τ := .eItem) (xs := a.S.Items) (hb_a _ (by simp))
  have hl_a_Fired : a.Fired.length ≤ 9223372036854775807 := Bd.len (U := UU) (τ := .eMatch) (xs := a.Fired) (hb_a _ (by simp))
  have hl_a_Tasks : a.Tasks.length ≤ 9223372036854775807 := Bd.len (U := UU) (τ := .eTask) (xs := a.Tasks) (hb_a _ (by simp))
  have hl_a_Timers : a.Timers.length ≤ 9223372036854775807 := Bd.len (U := UU) (τ := .eTimer) (xs := a.Timers) (hb_a _ (by simp))
  have hl_a_Undos : a.Undos.length ≤ 9223372036854775807 := Bd.len (U := UU) (τ := .eUndo) (xs := a.Undos) (hb_a _ (by simp))
  have hb_k : BdDV (U := UU) (.one (.lit (.int .i64 k))) := hb _ (List.mem_cons_of_mem _ (List.mem_cons_self))
  have hl_k := Bd.i64 hb_k
  have hp0 : 0 ≤ k := hp _ (List.mem_cons_self)
  have hp1 : k + ctInst a ≤ 4611686018427387904 := hp _ (List.mem_cons_of_mem _ (List.mem_cons_self))
  clear hp hb
  rw [vc_laws_heldInst a k]
  dsimp only
  simp only [ctInst] at hp1
  repeat' (first | refine And.intro (by omega) ?_ | fail)
  by_cases hm1 : mkStore a.S (k) = a.S
  rotate_left
  · simp only [if_neg hm1]; rw [cond_yes (by decide)]
    exact Lf_no (fun hh => hm1 (congrArg (fun t : DInst => t.S) hh))
  simp only [if_pos hm1]
  refine if_cond (fun h => absurd (of_decide_eq_true h) (by omega)) (fun h => ?_)
  repeat' (first | refine And.intro (by omega) ?_ | fail)
  by_cases hm2 : markMatchS a.Fired (k + ctStore a.S) = a.Fired
  rotate_left
  · simp only [if_neg hm2]; rw [cond_yes (by decide)]
    exact Lf_no (fun hh => hm2 (congrArg (fun t : DInst => t.Fired) hh))
  simp only [if_pos hm2]
  refine if_cond (fun h => absurd (of_decide_eq_true h) (by omega)) (fun h => ?_)
  repeat' (first | refine And.intro (by omega) ?_ | fail)
  by_cases hm3 : markTaskS a.Tasks (k + ctStore a.S + cntMatchS a.Fired) = a.Tasks
  rotate_left
  · simp only [if_neg hm3]; rw [cond_yes (by decide)]
    exact Lf_no (fun hh => hm3 (congrArg (fun t : DInst => t.Tasks) hh))
  simp only [if_pos hm3]
  refine if_cond (fun h => absurd (of_decide_eq_true h) (by omega)) (fun h => ?_)
  repeat' (first | refine And.intro (by omega) ?_ | fail)
  by_cases hm4 : markTimerS a.Timers (k + ctStore a.S + cntMatchS a.Fired + cntTaskS a.Tasks) = a.Timers
  rotate_left
  · simp only [if_neg hm4]; rw [cond_yes (by decide)]
    exact Lf_no (fun hh => hm4 (congrArg (fun t : DInst => t.Timers) hh))
  simp only [if_pos hm4]
  refine if_cond (fun h => absurd (of_decide_eq_true h) (by omega)) (fun h => ?_)
  repeat' (first | refine And.intro (by omega) ?_ | fail)
  by_cases hm5 : markUndoS a.Undos (k + ctStore a.S + cntMatchS a.Fired + cntTaskS a.Tasks + cntTimerS a.Timers) = a.Undos
  rotate_left
  · simp only [if_neg hm5]; rw [cond_yes (by decide)]
    exact Lf_no (fun hh => hm5 (congrArg (fun t : DInst => t.Undos) hh))
  simp only [if_pos hm5]
  refine if_cond (fun h => absurd (of_decide_eq_true h) (by omega)) (fun h => ?_)
  exact Lf_yes (by simp only [mkInst, hm1, hm2, hm3, hm4, hm5]) (by simp only [ctInst]; try omega)
def con_laws_FnExactInstNew : Con UU where
  α := Int
  md := [.ro]
  of := fun | [.one (.lit (.int .i64 a0))] => some a0 | _ => none
  ds := fun aNow => [.one (.lit (.int .i64 aNow))]
  pre := fun aNow => []
  res := fun aNow => ⟨[.one (.lit (.bool true))], true, []⟩
  law := by intro l x h; (try simp only at h); split at h <;> cases h; rfl
def ann_laws_FnExactInstNew : con_laws_FnExactInstNew.α → Nat → Option (Ann UU) := fun aNow => annL []
def use_laws_FnExactInstNew : List (FuncId × Con UU) := [(55, con_spec_InstNew), (56, con_impl_InstNew), (57, con_laws_eqInst), (58, con_laws_markInst), (59, con_laws_heldInst)]
theorem vc_laws_FnExactInstNew (aNow : Int) : goal EE use_laws_FnExactInstNew Go.Proofs.Try.f10 con_laws_FnExactInstNew ann_laws_FnExactInstNew aNow = (let x0 : Bool := decide ((if mkInst { S := { Items := (mkInst (instNew aNow) (1 : Int)).S.Items, Next := (instNew aNow).S.Next : DStore }, Fired := (mkInst (instNew aNow) (1 : Int)).Fired, Tasks := (mkInst (instNew aNow) (1 : Int)).Tasks, Timers := (mkInst (instNew aNow) (1 : Int)).Timers, Undos := (mkInst (instNew aNow) (1 : Int)).Undos, State := (instNew aNow).State, Now := (instNew aNow).Now : DInst } (1 : Int) = { S := { Items := (mkInst (instNew aNow) (1 : Int)).S.Items, Next := (instNew aNow).S.Next : DStore }, Fired := (mkInst (instNew aNow) (1 : Int)).Fired, Tasks := (mkInst (instNew aNow) (1 : Int)).Tasks, Timers := (mkInst (instNew aNow) (1 : Int)).Timers, Undos := (mkInst (instNew aNow) (1 : Int)).Undos, State := (instNew aNow).State, Now := (instNew aNow).Now : DInst } then (1 : Int) + (↑(ctInst { S := { Items := (mkInst (instNew aNow) (1 : Int)).S.Items, Next := (instNew aNow).S.Next : DStore }, Fired := (mkInst (instNew aNow) (1 : Int)).Fired, Tasks := (mkInst (instNew aNow) (1 : Int)).Tasks, Timers := (mkInst (instNew aNow) (1 : Int)).Timers, Undos := (mkInst (instNew aNow) (1 : Int)).Undos, State := (instNew aNow).State, Now := (instNew aNow).Now : DInst }) : Int) else (-1 : Int)) < (0 : Int));
let x1 : Bool := (if mkInst { S := { Items := (mkInst (instNew aNow) (1 : Int)).S.Items, Next := (instNew aNow).S.Next : DStore }, Fired := (mkInst (instNew aNow) (1 : Int)).Fired, Tasks := (mkInst (instNew aNow) (1 : Int)).Tasks, Timers := (mkInst (instNew aNow) (1 : Int)).Timers, Undos := (mkInst (instNew aNow) (1 : Int)).Undos, State := (instNew aNow).State, Now := (instNew aNow).Now : DInst } (1 : Int) = { S := { Items := (mkInst (instNew aNow) (1 : Int)).S.Items, Next := (instNew aNow).S.Next : DStore }, Fired := (mkInst (instNew aNow) (1 : Int)).Fired, Tasks := (mkInst (instNew aNow) (1 : Int)).Tasks, Timers := (mkInst (instNew aNow) (1 : Int)).Timers, Undos := (mkInst (instNew aNow) (1 : Int)).Undos, State := (instNew aNow).State, Now := (instNew aNow).Now : DInst } then (1 : Int) + (↑(ctInst { S := { Items := (mkInst (instNew aNow) (1 : Int)).S.Items, Next := (instNew aNow).S.Next : DStore }, Fired := (mkInst (instNew aNow) (1 : Int)).Fired, Tasks := (mkInst (instNew aNow) (1 : Int)).Tasks, Timers := (mkInst (instNew aNow) (1 : Int)).Timers, Undos := (mkInst (instNew aNow) (1 : Int)).Undos, State := (instNew aNow).State, Now := (instNew aNow).Now : DInst }) : Int) else (-1 : Int)) != (1 : Int) + (↑(ctInst (instNew aNow)) : Int);
bif !decide (instNew aNow = instNew aNow) then Lf [DV.one (Cell.lit (Value.bool false))] [DV.one (Cell.lit (Value.bool true))] else (0 : Int) ≤ (1 : Int) ∧ (1 : Int) + (↑(ctInst (instNew aNow)) : Int) ≤ (4611686018427387904 : Int) ∧ (0 : Int) ≤ (1 : Int) ∧ (1 : Int) + (↑(ctInst { S := { Items := (mkInst (instNew aNow) (1 : Int)).S.Items, Next := (instNew aNow).S.Next : DStore }, Fired := (mkInst (instNew aNow) (1 : Int)).Fired, Tasks := (mkInst (instNew aNow) (1 : Int)).Tasks, Timers := (mkInst (instNew aNow) (1 : Int)).Timers, Undos := (mkInst (instNew aNow) (1 : Int)).Undos, State := (instNew aNow).State, Now := (instNew aNow).Now : DInst }) : Int) ≤ (4611686018427387904 : Int) ∧ bif x0 then Lf [DV.one (Cell.lit (Value.bool false))] [DV.one (Cell.lit (Value.bool true))] else bif x1 then Lf [DV.one (Cell.lit (Value.bool false))] [DV.one (Cell.lit (Value.bool true))] else bif !decide (instNew aNow = instNew aNow) then Lf [DV.one (Cell.lit (Value.bool false))] [DV.one (Cell.lit (Value.bool true))] else (0 : Int) ≤ (1 : Int) ∧ (1 : Int) + (↑(ctInst { S := { Items := (mkInst (instNew aNow) (1 : Int)).S.Items, Next := (instNew aNow).S.Next : DStore }, Fired := (mkInst (instNew aNow) (1 : Int)).Fired, Tasks := (mkInst (instNew aNow) (1 : Int)).Tasks, Timers := (mkInst (instNew aNow) (1 : Int)).Timers, Undos := (mkInst (instNew aNow) (1 : Int)).Undos, State := (instNew aNow).State, Now := (instNew aNow).Now : DInst }) : Int) ≤ (4611686018427387904 : Int) ∧ bif x0 then Lf [DV.one (Cell.lit (Value.bool false))] [DV.one (Cell.lit (Value.bool true))] else bif x1 then Lf [DV.one (Cell.lit (Value.bool false))] [DV.one (Cell.lit (Value.bool true))] else Lf [DV.one (Cell.lit (Value.bool true))] [DV.one (Cell.lit (Value.bool true))]) := by kernel_rfl
theorem ok_laws_FnExactInstNew : Holds EE (10, con_laws_FnExactInstNew) := by
  refine holds_of EE_ok Go.Proofs.Try.func10 con_laws_FnExactInstNew (by kernel_rfl) rfl use_laws_FnExactInstNew (all_cons ok_spec_InstNew (all_cons ok_impl_InstNew (all_cons ok_laws_eqInst (all_cons ok_laws_markInst (all_cons ok_laws_heldInst all_nil))))) ann_laws_FnExactInstNew (fun (aNow : Int) hp hb => ?_)
  have hb_aNow : BdDV (U := UU) (.one (.lit (.int .i64 aNow))) := hb _ (List.mem_cons_self)
  have hl_aNow := Bd.i64 hb_aNow
  clear hp hb
  rw [vc_laws_FnExactInstNew aNow]
  dsimp only
  have e := instNew_ct aNow
  simp only [mkInst_eta, mkInst_idem, mkInst_ct, if_true]
  repeat' (first | exact Lf_rfl _ | refine And.intro (by omega) ?_ | refine if_cond (fun h => absurd h (by first | (simp; done) | (simp; omega))) (fun h => ?_) | fail)
end
end AM
