/- Functions of the program with their contracts: put together by gen/link.py for FnBackoff. -/
import Derived.Test.YtimjefebolgkjaaAmLib
import Derived.Test.YtimjefebolgkjaaAmModels
namespace AM
open Go
set_option linter.unusedVariables false
set_option linter.unusedSimpArgs false
set_option maxRecDepth 100000
noncomputable section
def smallB (b : Int) : Bool := decide (97 ≤ b ∧ b ≤ 122)
def wordB (b : Int) : Bool := smallB b || decide (48 ≤ b ∧ b ≤ 57) || decide (b = 95)
def wordS (s : ByteArray) : Bool := (bs s).all (byteP wordB)
def nameOk (s : ByteArray) : Bool := decide (1 ≤ s.size ∧ s.size ≤ 12) && smallB (List.getD (bs s) 0 0).toNat && wordS s
def valOk (v : DVal) : Bool := bif decide (v.K = 1) then decide (-1000000000 ≤ v.N ∧ v.N ≤ 1000000000) && decide (v.S = noBytes) else bif decide (v.K = 2) then decide (v.N = 0) && decide (v.S.size ≤ 20) && wordS v.S else false
def factOk (f : DFact) : Bool := nameOk f.Kind && decide (f.Fields.length ≤ 5) && f.Fields.all valOk
def con_impl_inRange : Con UU where
  α := Int × Int × Int
  md := [.ro, .ro, .ro]
  of := fun | [.one (.lit (.int .i64 a0)), .one (.lit (.int .i64 a1)), .one (.lit (.int .i64 a2))] => some (a0, a1, a2) | _ => none
  ds := fun (n, least, most) => [.one (.lit (.int .i64 n)), .one (.lit (.int .i64 least)), .one (.lit (.int .i64 most))]
  pre := fun (n, least, most) => []
  res := fun (n, least, most) => ⟨[.one (.lit (.bool (decide (least ≤ n ∧ n ≤ most))))], true, []⟩
  law := by intro l x h; (try simp only at h); split at h <;> cases h; rfl
def ann_impl_inRange : con_impl_inRange.α → Nat → Option (Ann UU) := fun (n, least, most) => annL []
def use_impl_inRange : List (FuncId × Con UU) := []
theorem vc_impl_inRange (n : Int) (least : Int) (most : Int) : goal EE use_impl_inRange Go.Proofs.Try.f41 con_impl_inRange ann_impl_inRange (n, least, most) = (bif decide (n ≥ least) then Lf [DV.one (Cell.lit (Value.bool (decide (n ≤ most))))] [DV.one (Cell.lit (Value.bool (decide (least ≤ n ∧ n ≤ most))))] else Lf [DV.one (Cell.lit (Value.bool false))] [DV.one (Cell.lit (Value.bool (decide (least ≤ n ∧ n ≤ most))))]) := by kernel_rfl
theorem ok_impl_inRange : Holds EE (41, con_impl_inRange) := by
  refine holds_of EE_ok Go.Proofs.Try.func41 con_impl_inRange (by kernel_rfl) use_impl_inRange all_nil ann_impl_inRange (fun x hp hb => ?_)
  obtain ⟨n, least, most⟩ := x
  have hb_n : BdDV (U := UU) (.one (.lit (.int .i64 n))) := hb _ (List.mem_cons_self)
  have hl_n := Bd.i64 hb_n
  have hb_least : BdDV (U := UU) (.one (.lit (.int .i64 least))) := hb _ (List.mem_cons_of_mem _ (List.mem_cons_self))
  have hl_least := Bd.i64 hb_least
  have hb_most : BdDV (U := UU) (.one (.lit (.int .i64 most))) := hb _ (List.mem_cons_of_mem _ (List.mem_cons_of_mem _ (List.mem_cons_self)))
  have hl_most := Bd.i64 hb_most
  clear hp hb
  rw [vc_impl_inRange n least most]
  refine if_cond (fun h => Lf_b ?_) (fun h => Lf_b ?_) <;> grind
def con_spec_l1In : Con UU where
  α := Int × Int × Int
  md := [.ro, .ro, .ro]
  of := fun | [.one (.lit (.int .i64 a0)), .one (.lit (.int .i64 a1)), .one (.lit (.int .i64 a2))] => some (a0, a1, a2) | _ => none
  ds := fun (x, least, most) => [.one (.lit (.int .i64 x)), .one (.lit (.int .i64 least)), .one (.lit (.int .i64 most))]
  pre := fun (x, least, most) => []
  res := fun (x, least, most) => ⟨[.one (.lit (.bool (decide (least ≤ x ∧ x ≤ most))))], true, []⟩
  law := by intro l x h; (try simp only at h); split at h <;> cases h; rfl
def ann_spec_l1In : con_spec_l1In.α → Nat → Option (Ann UU) := fun (x, least, most) => annL []
def use_spec_l1In : List (FuncId × Con UU) := []
theorem vc_spec_l1In (x : Int) (least : Int) (most : Int) : goal EE use_spec_l1In Go.Proofs.Try.f40 con_spec_l1In ann_spec_l1In (x, least, most) = (bif decide (x ≥ least) then Lf [DV.one (Cell.lit (Value.bool (decide (x ≤ most))))] [DV.one (Cell.lit (Value.bool (decide (least ≤ x ∧ x ≤ most))))] else Lf [DV.one (Cell.lit (Value.bool false))] [DV.one (Cell.lit (Value.bool (decide (least ≤ x ∧ x ≤ most))))]) := by kernel_rfl
theorem ok_spec_l1In : Holds EE (40, con_spec_l1In) := by
  refine holds_of EE_ok Go.Proofs.Try.func40 con_spec_l1In (by kernel_rfl) use_spec_l1In all_nil ann_spec_l1In (fun x hp hb => ?_)
  obtain ⟨x, least, most⟩ := x
  have hb_x : BdDV (U := UU) (.one (.lit (.int .i64 x))) := hb _ (List.mem_cons_self)
  have hl_x := Bd.i64 hb_x
  have hb_least : BdDV (U := UU) (.one (.lit (.int .i64 least))) := hb _ (List.mem_cons_of_mem _ (List.mem_cons_self))
  have hl_least := Bd.i64 hb_least
  have hb_most : BdDV (U := UU) (.one (.lit (.int .i64 most))) := hb _ (List.mem_cons_of_mem _ (List.mem_cons_of_mem _ (List.mem_cons_self)))
  have hl_most := Bd.i64 hb_most
  clear hp hb
  rw [vc_spec_l1In x least most]
  refine if_cond (fun h => Lf_b ?_) (fun h => Lf_b ?_) <;> grind
def backN (most : Int) : Nat → Int → Int
  | 0, n => n
  | k + 1, n => if n < most then backN most k (2 * n) else n
def backoff (base k most : Int) : Int := if 1 ≤ base ∧ base ≤ 100000 ∧ 1 ≤ most ∧ most ≤ 100000 ∧ 0 ≤ k then (if backN most k.toNat base < most then backN most k.toNat base else most) else 0
theorem backN_ge {most n : Int} (h : ¬ n < most) : ∀ k : Nat, backN most k n = n
  | 0 => rfl
  | k + 1 => by rw [backN, if_neg h]
theorem backN_step {most n k i : Int} (h0 : 0 ≤ i) (h : i < k) (hn : n < most) : backN most (k - i).toNat n = backN most (k - (i + 1)).toNat (2 * n) := by
  obtain ⟨m, hm⟩ : ∃ m : Nat, (k - i).toNat = m + 1 := ⟨(k - i).toNat - 1, by omega⟩
  have h2 : (k - (i + 1)).toNat = m := by omega
  rw [hm, h2, backN, if_pos hn]
theorem backN_end {most n k i : Int} (h : ¬ (i < k ∧ n < most)) : backN most (k - i).toNat n = n := by
  by_cases hk : i < k
  · exact backN_ge (fun hn => h ⟨hk, hn⟩) _
  · rw [show (k - i).toNat = 0 by omega]; rfl
def con_spec_Backoff : Con UU where
  α := Int × Int × Int
  md := [.ro, .ro, .ro]
  of := fun | [.one (.lit (.int .i64 a0)), .one (.lit (.int .i64 a1)), .one (.lit (.int .i64 a2))] => some (a0, a1, a2) | _ => none
  ds := fun (base, k, most) => [.one (.lit (.int .i64 base)), .one (.lit (.int .i64 k)), .one (.lit (.int .i64 most))]
  pre := fun (base, k, most) => []
  res := fun (base, k, most) => ⟨[.one (.lit (.int .i64 (backoff base k most)))], true, []⟩
  law := by intro l x h; (try simp only at h); split at h <;> cases h; rfl
def I_spec_Backoff_5 (base : Int) (k : Int) (most : Int) : Int × Int × Unit → Prop := fun (n, i, _) => 0 ≤ i ∧ i ≤ k ∧ 1 ≤ n ∧ n ≤ 200000 ∧ backN most (k - i).toNat n = backN most k.toNat base
def μ_spec_Backoff_5 (base : Int) (k : Int) (most : Int) : Int × Int × Unit → Nat := fun (n, i, _) => (k - i).toNat
def ann_spec_Backoff : con_spec_Backoff.α → Nat → Option (Ann UU) := fun (base, k, most) => annL [(5, annOf [.slot 7 (7, 1024) (.lit (.int .i64)), .slot 8 (8, 1024) (.lit (.int .i64))] (fun _ => I_spec_Backoff_5 base k most) (μ_spec_Backoff_5 base k most))]
def use_spec_Backoff : List (FuncId × Con UU) := [(40, con_spec_l1In)]
theorem vc_spec_Backoff (base : Int) (k : Int) (most : Int) : goal EE use_spec_Backoff Go.Proofs.Try.f10 con_spec_Backoff ann_spec_Backoff (base, k, most) = (bif !decide ((1 : Int) ≤ base ∧ base ≤ (100000 : Int)) then Lf [DV.one (Cell.lit (Value.int IntKind.i64 (0 : Int)))] [DV.one (Cell.lit (Value.int IntKind.i64 (backoff base k most)))] else bif !decide ((1 : Int) ≤ most ∧ most ≤ (100000 : Int)) then Lf [DV.one (Cell.lit (Value.int IntKind.i64 (0 : Int)))] [DV.one (Cell.lit (Value.int IntKind.i64 (backoff base k most)))] else bif decide (k < (0 : Int)) then Lf [DV.one (Cell.lit (Value.int IntKind.i64 (0 : Int)))] [DV.one (Cell.lit (Value.int IntKind.i64 (backoff base k most)))] else I_spec_Backoff_5 base k most (base, (0 : Int), PUnit.unit) ∧ ∀ (y : Int × Int × PUnit), I_spec_Backoff_5 base k most y → bif decide (y.2.1 < k) then bif decide (y.1 < most) then I_spec_Backoff_5 base k most (IntKind.wrap IntKind.i64 ((2 : Int) * y.1), IntKind.wrap IntKind.i64 (y.2.1 + (1 : Int)), PUnit.unit) ∧ μ_spec_Backoff_5 base k most (IntKind.wrap IntKind.i64 ((2 : Int) * y.1), IntKind.wrap IntKind.i64 (y.2.1 + (1 : Int)), PUnit.unit) < μ_spec_Backoff_5 base k most y else bif decide (y.1 > most) then Lf [DV.one (Cell.lit (Value.int IntKind.i64 most))] [DV.one (Cell.lit (Value.int IntKind.i64 (backoff base k most)))] else Lf [DV.one (Cell.lit (Value.int IntKind.i64 y.1))] [DV.one (Cell.lit (Value.int IntKind.i64 (backoff base k most)))] else bif decide (y.1 > most) then Lf [DV.one (Cell.lit (Value.int IntKind.i64 most))] [DV.one (Cell.lit (Value.int IntKind.i64 (backoff base k most)))] else Lf [DV.one (Cell.lit (Value.int IntKind.i64 y.1))] [DV.one (Cell.lit (Value.int IntKind.i64 (backoff base k most)))]) := by kernel_rfl
theorem ok_spec_Backoff : Holds EE (10, con_spec_Backoff) := by
  refine holds_of EE_ok Go.Proofs.Try.func10 con_spec_Backoff (by kernel_rfl) use_spec_Backoff (all_cons ok_spec_l1In all_nil) ann_spec_Backoff (fun x hp hb => ?_)
  obtain ⟨base, k, most⟩ := x
  have hb_base : BdDV (U := UU) (.one (.lit (.int .i64 base))) := hb _ (List.mem_cons_self)
  have hl_base := Bd.i64 hb_base
  have hb_k : BdDV (U := UU) (.one (.lit (.int .i64 k))) := hb _ (List.mem_cons_of_mem _ (List.mem_cons_self))
  have hl_k := Bd.i64 hb_k
  have hb_most : BdDV (U := UU) (.one (.lit (.int .i64 most))) := hb _ (List.mem_cons_of_mem _ (List.mem_cons_of_mem _ (List.mem_cons_self)))
  have hl_most := Bd.i64 hb_most
  clear hp hb
  rw [vc_spec_Backoff base k most]
  have hN : ¬ (1 ≤ base ∧ base ≤ 100000 ∧ 1 ≤ most ∧ most ≤ 100000 ∧ 0 ≤ k) → Lf [.one (.lit (.int .i64 0))] [.one (.lit (.int .i64 (backoff base k most)))] := fun h => Lf_i (by rw [backoff, if_neg h])
  refine if_cond (fun h => hN ?_) (fun h => if_cond (fun h2 => hN ?_) (fun h2 => if_cond (fun h3 => hN ?_) (fun h3 => ?_)))
  · simp at h; omega
  · simp at h2; omega
  · simp at h3; omega
  have hg : 1 ≤ base ∧ base ≤ 100000 ∧ 1 ≤ most ∧ most ≤ 100000 ∧ 0 ≤ k := by simp at h h2 h3; omega
  have hE : ∀ {n i : Int}, backN most (k - i).toNat n = backN most k.toNat base → ¬ (i < k ∧ n < most) → (if n < most then n else most) = backoff base k most := fun hR hn => by rw [backoff, if_pos hg, ← hR, backN_end hn]
  refine ⟨⟨by omega, by omega, by omega, by omega, by rw [Int.sub_zero]⟩, ?_⟩
  rintro ⟨n, i, ⟨⟩⟩ ⟨h4, h5, h6, h7, hR⟩
  simp only
  refine if_cond (fun hc => if_cond (fun hd => ?_) (fun hd => ?_)) (fun hc => ?_)
  · have hc := of_decide_eq_true hc; have hd := of_decide_eq_true hd
    rw [wrap_i64 (by omega) (by omega), wrap_i64 (by omega) (by omega)]
    refine ⟨⟨by omega, by omega, by omega, by omega, ?_⟩, by simp only [μ_spec_Backoff_5]; omega⟩
    rw [← backN_step h4 hc hd]; exact hR
  · have hd := of_decide_eq_false hd
    have e := hE hR (fun hh => hd hh.2)
    refine if_cond (fun hm => Lf_i ?_) (fun hm => Lf_i ?_)
    · have hm := of_decide_eq_true hm; rw [← e]; split <;> omega
    · have hm := of_decide_eq_false hm; rw [← e]; split <;> omega
  · have hc := of_decide_eq_false hc
    have e := hE hR (fun hh => hc hh.1)
    refine if_cond (fun hm => Lf_i ?_) (fun hm => Lf_i ?_)
    · have hm := of_decide_eq_true hm; rw [← e]; split <;> omega
    · have hm := of_decide_eq_false hm; rw [← e]; split <;> omega
def con_impl_Backoff : Con UU where
  α := Int × Int × Int
  md := [.ro, .ro, .ro]
  of := fun | [.one (.lit (.int .i64 a0)), .one (.lit (.int .i64 a1)), .one (.lit (.int .i64 a2))] => some (a0, a1, a2) | _ => none
  ds := fun (base, k, most) => [.one (.lit (.int .i64 base)), .one (.lit (.int .i64 k)), .one (.lit (.int .i64 most))]
  pre := fun (base, k, most) => []
  res := fun (base, k, most) => ⟨[.one (.lit (.int .i64 (backoff base k most)))], true, []⟩
  law := by intro l x h; (try simp only at h); split at h <;> cases h; rfl
def I_impl_Backoff_4 (base : Int) (k : Int) (most : Int) : Int × Int × Unit → Prop := fun (n, i, _) => 0 ≤ i ∧ i ≤ k ∧ 1 ≤ n ∧ n ≤ 200000 ∧ backN most (k - i).toNat n = backN most k.toNat base
def μ_impl_Backoff_4 (base : Int) (k : Int) (most : Int) : Int × Int × Unit → Nat := fun (n, i, _) => (k - i).toNat
def ann_impl_Backoff : con_impl_Backoff.α → Nat → Option (Ann UU) := fun (base, k, most) => annL [(4, annOf [.slot 0 (0, 1024) (.lit (.int .i64)), .slot 7 (7, 1024) (.lit (.int .i64))] (fun _ => I_impl_Backoff_4 base k most) (μ_impl_Backoff_4 base k most))]
def use_impl_Backoff : List (FuncId × Con UU) := [(41, con_impl_inRange)]
theorem vc_impl_Backoff (base : Int) (k : Int) (most : Int) : goal EE use_impl_Backoff Go.Proofs.Try.f11 con_impl_Backoff ann_impl_Backoff (base, k, most) = (bif !decide ((1 : Int) ≤ base ∧ base ≤ (100000 : Int)) then Lf [DV.one (Cell.lit (Value.int IntKind.i64 (0 : Int)))] [DV.one (Cell.lit (Value.int IntKind.i64 (backoff base k most)))] else bif !decide ((1 : Int) ≤ most ∧ most ≤ (100000 : Int)) then Lf [DV.one (Cell.lit (Value.int IntKind.i64 (0 : Int)))] [DV.one (Cell.lit (Value.int IntKind.i64 (backoff base k most)))] else bif decide (k < (0 : Int)) then Lf [DV.one (Cell.lit (Value.int IntKind.i64 (0 : Int)))] [DV.one (Cell.lit (Value.int IntKind.i64 (backoff base k most)))] else I_impl_Backoff_4 base k most (base, (0 : Int), PUnit.unit) ∧ ∀ (y : Int × Int × PUnit), I_impl_Backoff_4 base k most y → bif decide (y.2.1 < k) then bif decide (y.1 < most) then I_impl_Backoff_4 base k most (IntKind.wrap IntKind.i64 (y.1 * (2 : Int)), IntKind.wrap IntKind.i64 (y.2.1 + (1 : Int)), PUnit.unit) ∧ μ_impl_Backoff_4 base k most (IntKind.wrap IntKind.i64 (y.1 * (2 : Int)), IntKind.wrap IntKind.i64 (y.2.1 + (1 : Int)), PUnit.unit) < μ_impl_Backoff_4 base k most y else Lf [DV.one (Cell.lit (Value.int IntKind.i64 (if most < y.1 then most else y.1)))] [DV.one (Cell.lit (Value.int IntKind.i64 (backoff base k most)))] else Lf [DV.one (Cell.lit (Value.int IntKind.i64 (if most < y.1 then most else y.1)))] [DV.one (Cell.lit (Value.int IntKind.i64 (backoff base k most)))]) := by kernel_rfl
theorem ok_impl_Backoff : Holds EE (11, con_impl_Backoff) := by
  refine holds_of EE_ok Go.Proofs.Try.func11 con_impl_Backoff (by kernel_rfl) use_impl_Backoff (all_cons ok_impl_inRange all_nil) ann_impl_Backoff (fun x hp hb => ?_)
  obtain ⟨base, k, most⟩ := x
  have hb_base : BdDV (U := UU) (.one (.lit (.int .i64 base))) := hb _ (List.mem_cons_self)
  have hl_base := Bd.i64 hb_base
  have hb_k : BdDV (U := UU) (.one (.lit (.int .i64 k))) := hb _ (List.mem_cons_of_mem _ (List.mem_cons_self))
  have hl_k := Bd.i64 hb_k
  have hb_most : BdDV (U := UU) (.one (.lit (.int .i64 most))) := hb _ (List.mem_cons_of_mem _ (List.mem_cons_of_mem _ (List.mem_cons_self)))
  have hl_most := Bd.i64 hb_most
  clear hp hb
  rw [vc_impl_Backoff base k most]
  have hN : ¬ (1 ≤ base ∧ base ≤ 100000 ∧ 1 ≤ most ∧ most ≤ 100000 ∧ 0 ≤ k) → Lf [.one (.lit (.int .i64 0))] [.one (.lit (.int .i64 (backoff base k most)))] := fun h => Lf_i (by rw [backoff, if_neg h])
  refine if_cond (fun h => hN ?_) (fun h => if_cond (fun h2 => hN ?_) (fun h2 => if_cond (fun h3 => hN ?_) (fun h3 => ?_)))
  · simp at h; omega
  · simp at h2; omega
  · simp at h3; omega
  have hg : 1 ≤ base ∧ base ≤ 100000 ∧ 1 ≤ most ∧ most ≤ 100000 ∧ 0 ≤ k := by simp at h h2 h3; omega
  have hE : ∀ {n i : Int}, backN most (k - i).toNat n = backN most k.toNat base → ¬ (i < k ∧ n < most) → (if n < most then n else most) = backoff base k most := fun hR hn => by rw [backoff, if_pos hg, ← hR, backN_end hn]
  refine ⟨⟨by omega, by omega, by omega, by omega, by rw [Int.sub_zero]⟩, ?_⟩
  rintro ⟨n, i, ⟨⟩⟩ ⟨h4, h5, h6, h7, hR⟩
  simp only
  refine if_cond (fun hc => if_cond (fun hd => ?_) (fun hd => ?_)) (fun hc => ?_)
  · have hc := of_decide_eq_true hc; have hd := of_decide_eq_true hd
    rw [wrap_i64 (by omega) (by omega), wrap_i64 (by omega) (by omega)]
    refine ⟨⟨by omega, by omega, by omega, by omega, ?_⟩, by simp only [μ_impl_Backoff_4]; omega⟩
    rw [Int.mul_comm, ← backN_step h4 hc hd]; exact hR
  · have hd := of_decide_eq_false hd
    have e := hE hR (fun hh => hd hh.2)
    refine Lf_i ?_
    rw [← e]; split <;> (try split) <;> omega
  · have hc := of_decide_eq_false hc
    have e := hE hR (fun hh => hc hh.1)
    refine Lf_i ?_
    rw [← e]; split <;> (try split) <;> omega
structure DCur where
  b : List Int
  i : Int
  h : Int
def mixB (h : Int) (x : Int) : Int := IntKind.wrap .i64 (((BitVec.ofInt (IntKind.bits .i64) (IntKind.wrap .i64 (IntKind.wrap .i64 (IntKind.wrap .i64 (h * 137) + IntKind.wrap .i64 x) + 11)) &&& BitVec.ofInt (IntKind.bits .i64) 1073741823).toNat : Nat) : Int)
def seedB (code : List Int) : Int := (code.take 4000).foldl mixB (354354 + code.length)
def newCur (code : List Int) : DCur := ⟨code, 0, seedB code⟩
def nextH (h : Int) : Int := IntKind.wrap .i64 (IntKind.wrap .i64 (h * 6364136223846793005) + 1442695040888963407)
def and255 (x : Int) : Int := IntKind.wrap .i64 (((BitVec.ofInt (IntKind.bits .i64) x &&& BitVec.ofInt (IntKind.bits .i64) 255).toNat : Nat) : Int)
def mixX (h : Int) : Int := and255 (IntKind.wrap .i64 (((BitVec.ofInt (IntKind.bits .i64) (Int.fdiv h ((2 : Int) ^ min (Int.toNat 33) (IntKind.bits .i64))) ^^^ BitVec.ofInt (IntKind.bits .i64) (Int.fdiv h ((2 : Int) ^ min (Int.toNat 47) (IntKind.bits .i64)))).toNat : Nat) : Int))
def byteV (c : DCur) : Int := if c.i < c.b.length then and255 (IntKind.wrap .i64 (mixX (nextH c.h) + IntKind.wrap .i64 (List.getD c.b c.i.toNat 0))) else mixX (nextH c.h)
def byteC (c : DCur) : DCur := ⟨c.b, if c.i < c.b.length then c.i + 1 else c.i, nextH c.h⟩
theorem and255_le (x : Int) : 0 ≤ and255 x ∧ and255 x ≤ 255 := by
  unfold and255
  have h : (BitVec.ofInt 64 x &&& BitVec.ofInt 64 255).toNat ≤ 255 := by
    rw [BitVec.toNat_and]
    exact Nat.le_trans Nat.and_le_right (by decide)
  have h' : (BitVec.ofInt (IntKind.bits .i64) x &&& BitVec.ofInt (IntKind.bits .i64) 255).toNat ≤ 255 := h
  rw [wrap_i64 (by omega) (by omega)]
  omega
theorem byteV_le (c : DCur) : 0 ≤ byteV c ∧ byteV c ≤ 255 := by
  unfold byteV
  split
  · exact and255_le _
  · exact and255_le _
theorem byteC_i {c : DCur} (h : 0 ≤ c.i) : 0 ≤ (byteC c).i := by
  simp only [byteC]; split <;> omega
def belowV (c : DCur) (n : Int) : Int := if n ≤ 0 then 0 else if n ≤ 256 then Int.tmod (byteV c) n else Int.tmod (byteV c * 65536 + byteV (byteC c) * 256 + byteV (byteC (byteC c))) n
def belowC (c : DCur) (n : Int) : DCur := if n ≤ 0 then c else if n ≤ 256 then byteC c else byteC (byteC (byteC c))
theorem belowC_i {c : DCur} (h : 0 ≤ c.i) (n : Int) : 0 ≤ (belowC c n).i := by
  unfold belowC
  split
  · exact h
  · split
    · exact byteC_i h
    · exact byteC_i (byteC_i (byteC_i h))
theorem belowV_lt {c : DCur} {n : Int} (h : 0 < n) : 0 ≤ belowV c n ∧ belowV c n < n := by
  have h1 := byteV_le c; have h2 := byteV_le (byteC c); have h3 := byteV_le (byteC (byteC c))
  unfold belowV
  rw [if_neg (by omega)]
  split
  · rw [Int.tmod_eq_emod_of_nonneg (by omega)]; exact ⟨Int.emod_nonneg _ (by omega), Int.emod_lt_of_pos _ h⟩
  · rw [Int.tmod_eq_emod_of_nonneg (by omega)]; exact ⟨Int.emod_nonneg _ (by omega), Int.emod_lt_of_pos _ h⟩
def con_spec_l1New : Con UU where
  α := (List Int)
  md := [.ro]
  of := fun | [.one (.sl .byte a0)] => some a0 | _ => none
  ds := fun code => [.one (.sl .byte code)]
  pre := fun code => [code.length ≤ 4294967296]
  res := fun code => ⟨[.box [.sl .byte ((newCur code)).b, .lit (.int .i64 ((newCur code)).i), .lit (.int .i64 ((newCur code)).h)]], true, []⟩
  law := by intro l x h; (try simp only at h); split at h <;> cases h; rfl
def I_spec_l1New_3 (code : (List Int)) : Int × Int × Unit → Prop := fun (h, i, _) => 0 ≤ i ∧ i ≤ code.length ∧ i ≤ 4000 ∧ h = (code.take i.toNat).foldl mixB (354354 + code.length)
def μ_spec_l1New_3 (code : (List Int)) : Int × Int × Unit → Nat := fun (h, i, _) => code.length - i.toNat
def ann_spec_l1New : con_spec_l1New.α → Nat → Option (Ann UU) := fun code => annL [(3, annOf [.slot 3 (3, 1024) (.lit (.int .i64)), .slot 4 (4, 1024) (.lit (.int .i64))] (fun _ => I_spec_l1New_3 code) (μ_spec_l1New_3 code))]
def use_spec_l1New : List (FuncId × Con UU) := []
theorem vc_spec_l1New (code : (List Int)) : goal EE use_spec_l1New Go.Proofs.Try.f42 con_spec_l1New ann_spec_l1New code = (I_spec_l1New_3 code (IntKind.wrap IntKind.i64 ((354354 : Int) + (↑(List.length code) : Int)), (0 : Int), PUnit.unit) ∧
  ∀ (y : Int × Int × PUnit),
    let x0 : Nat := Int.toNat y.2.1;
    I_spec_l1New_3 code y → bif decide (y.2.1 < (↑(List.length code) : Int)) then bif decide (y.2.1 < (4000 : Int)) then (0 : Int) ≤ y.2.1 ∧ x0 < List.length code ∧ I_spec_l1New_3 code (IntKind.wrap IntKind.i64 (↑(BitVec.toNat (BitVec.ofInt (IntKind.bits IntKind.i64) (IntKind.wrap IntKind.i64 (IntKind.wrap IntKind.i64 (IntKind.wrap IntKind.i64 (y.1 * (137 : Int)) + IntKind.wrap IntKind.i64 (List.getD code x0 (0 : Int))) + (11 : Int))) &&& BitVec.ofInt (IntKind.bits IntKind.i64) (1073741823 : Int))) : Int), IntKind.wrap IntKind.i64 (y.2.1 + (1 : Int)), PUnit.unit) ∧ μ_spec_l1New_3 code (IntKind.wrap IntKind.i64 (↑(BitVec.toNat (BitVec.ofInt (IntKind.bits IntKind.i64) (IntKind.wrap IntKind.i64 (IntKind.wrap IntKind.i64 (IntKind.wrap IntKind.i64 (y.1 * (137 : Int)) + IntKind.wrap IntKind.i64 (List.getD code x0 (0 : Int))) + (11 : Int))) &&& BitVec.ofInt (IntKind.bits IntKind.i64) (1073741823 : Int))) : Int), IntKind.wrap IntKind.i64 (y.2.1 + (1 : Int)), PUnit.unit) < μ_spec_l1New_3 code y else Lf [DV.box [Cell.sl Cd.byte code, Cell.lit (Value.int IntKind.i64 (0 : Int)), Cell.lit (Value.int IntKind.i64 y.1)]] [DV.box [Cell.sl Cd.byte (newCur code).b, Cell.lit (Value.int IntKind.i64 (newCur code).i), Cell.lit (Value.int IntKind.i64 (newCur code).h)]] else Lf [DV.box [Cell.sl Cd.byte code, Cell.lit (Value.int IntKind.i64 (0 : Int)), Cell.lit (Value.int IntKind.i64 y.1)]] [DV.box [Cell.sl Cd.byte (newCur code).b, Cell.lit (Value.int IntKind.i64 (newCur code).i), Cell.lit (Value.int IntKind.i64 (newCur code).h)]]) := by kernel_rfl
theorem ok_spec_l1New : Holds EE (42, con_spec_l1New) := by
  refine holds_of EE_ok Go.Proofs.Try.func42 con_spec_l1New (by kernel_rfl) use_spec_l1New all_nil ann_spec_l1New (fun (code : (List Int)) hp hb => ?_)
  have hb_code : BdDV (U := UU) (.one (.sl .byte code)) := hb _ (List.mem_cons_self)
  have hl_code : code.length ≤ 9223372036854775807 := Bd.len hb_code
  have hp0 : code.length ≤ 4294967296 := hp _ (List.mem_cons_self)
  clear hp hb
  rw [vc_spec_l1New code]
  dsimp only
  refine ⟨⟨by omega, by omega, by omega, by rw [wrap_i64 (by omega) (by omega)]; rfl⟩, ?_⟩
  rintro ⟨h, i, ⟨⟩⟩ ⟨h1, h2, h3, rfl⟩
  simp only
  have hE : (i = code.length ∨ i = 4000) → (code.take i.toNat).foldl mixB (354354 + code.length) = (newCur code).h := by
    intro hh
    show _ = (code.take 4000).foldl mixB (354354 + code.length)
    rcases hh with hh | hh
    · rw [List.take_of_length_le (by omega), List.take_of_length_le (by omega)]
    · rw [hh]; rfl
  refine if_cond (fun hc => if_cond (fun hd => ?_) (fun hd => ?_)) (fun hc => ?_)
  · have hc := of_decide_eq_true hc; have hd := of_decide_eq_true hd
    rw [wrap_i64 (n := i + 1) (by omega) (by omega)]
    refine ⟨h1, by omega, ⟨by omega, by omega, by omega, ?_⟩, by simp only [μ_spec_l1New_3]; omega⟩
    rw [← take_step code 0 h1 (by omega), List.foldl_append]
    rfl
  · have hc := of_decide_eq_true hc; have hd := of_decide_eq_false hd
    rw [hE (by omega)]; exact Lf_rfl _
  · have hc := of_decide_eq_false hc
    rw [hE (by omega)]; exact Lf_rfl _
def con_spec_l1Byte : Con UU where
  α := DCur
  md := [.box false]
  of := fun | [.box [.sl .byte a0, .lit (.int .i64 a1), .lit (.int .i64 a2)]] => some ⟨a0, a1, a2⟩ | _ => none
  ds := fun c => [.box [.sl .byte c.b, .lit (.int .i64 c.i), .lit (.int .i64 c.h)]]
  pre := fun c => [0 ≤ c.i, c.b.length ≤ 4294967296]
  res := fun c => ⟨[.one (.lit (.int .i64 (byteV c)))], true, [.box [.sl .byte ((byteC c)).b, .lit (.int .i64 ((byteC c)).i), .lit (.int .i64 ((byteC c)).h)]]⟩
  law := by intro l x h; (try simp only at h); split at h <;> cases h; rfl
def ann_spec_l1Byte : con_spec_l1Byte.α → Nat → Option (Ann UU) := fun c => annL []
def use_spec_l1Byte : List (FuncId × Con UU) := []
theorem vc_spec_l1Byte (c : DCur) : goal EE use_spec_l1Byte Go.Proofs.Try.f70 con_spec_l1Byte ann_spec_l1Byte c = (let x0 : Int := IntKind.wrap IntKind.i64 (↑(BitVec.toNat (BitVec.ofInt (IntKind.bits IntKind.i64) (IntKind.wrap IntKind.i64 (↑(BitVec.toNat (BitVec.ofInt (IntKind.bits IntKind.i64) (Int.fdiv (IntKind.wrap IntKind.i64 (IntKind.wrap IntKind.i64 (c.h * (6364136223846793005 : Int)) + (1442695040888963407 : Int))) ((2 : Int) ^ min (Int.toNat (33 : Int)) (IntKind.bits IntKind.i64))) ^^^ BitVec.ofInt (IntKind.bits IntKind.i64) (Int.fdiv (IntKind.wrap IntKind.i64 (IntKind.wrap IntKind.i64 (c.h * (6364136223846793005 : Int)) + (1442695040888963407 : Int))) ((2 : Int) ^ min (Int.toNat (47 : Int)) (IntKind.bits IntKind.i64))))) : Int)) &&& BitVec.ofInt (IntKind.bits IntKind.i64) (255 : Int))) : Int);
(0 : Int) ≤ (33 : Int) ∧ (0 : Int) ≤ (47 : Int) ∧ bif decide (c.i < (↑(List.length c.b) : Int)) then (0 : Int) ≤ c.i ∧ Int.toNat c.i < List.length c.b ∧ (0 : Nat) = (0 : Nat) ∧ asD [DV.one (Cell.lit (Value.int IntKind.i64 (IntKind.wrap IntKind.i64 (↑(BitVec.toNat (BitVec.ofInt (IntKind.bits IntKind.i64) (IntKind.wrap IntKind.i64 (x0 + IntKind.wrap IntKind.i64 (List.getD c.b (Int.toNat c.i) (0 : Int)))) &&& BitVec.ofInt (IntKind.bits IntKind.i64) (255 : Int))) : Int))))] = asD [DV.one (Cell.lit (Value.int IntKind.i64 (byteV c)))] ∧ asD [DV.box [Cell.sl Cd.byte c.b, Cell.lit (Value.int IntKind.i64 (IntKind.wrap IntKind.i64 (c.i + (1 : Int)))), Cell.lit (Value.int IntKind.i64 (IntKind.wrap IntKind.i64 (IntKind.wrap IntKind.i64 (c.h * (6364136223846793005 : Int)) + (1442695040888963407 : Int))))]] = asD [DV.box [Cell.sl Cd.byte (byteC c).b, Cell.lit (Value.int IntKind.i64 (byteC c).i), Cell.lit (Value.int IntKind.i64 (byteC c).h)]] else (0 : Nat) = (0 : Nat) ∧ asD [DV.one (Cell.lit (Value.int IntKind.i64 x0))] = asD [DV.one (Cell.lit (Value.int IntKind.i64 (byteV c)))] ∧ asD [DV.box [Cell.sl Cd.byte c.b, Cell.lit (Value.int IntKind.i64 c.i), Cell.lit (Value.int IntKind.i64 (IntKind.wrap IntKind.i64 (IntKind.wrap IntKind.i64 (c.h * (6364136223846793005 : Int)) + (1442695040888963407 : Int))))]] = asD [DV.box [Cell.sl Cd.byte (byteC c).b, Cell.lit (Value.int IntKind.i64 (byteC c).i), Cell.lit (Value.int IntKind.i64 (byteC c).h)]]) := by kernel_rfl
theorem ok_spec_l1Byte : Holds EE (70, con_spec_l1Byte) := by
  refine holds_of EE_ok Go.Proofs.Try.func70 con_spec_l1Byte (by kernel_rfl) use_spec_l1Byte all_nil ann_spec_l1Byte (fun (c : DCur) hp hb => ?_)
  have hb_c : BdDV (U := UU) (.box [.sl .byte c.b, .lit (.int .i64 c.i), .lit (.int .i64 c.h)]) := hb _ (List.mem_cons_self)
  have hl_c_b : c.b.length ≤ 9223372036854775807 := Bd.len (U := UU) (τ := .byte) (xs := c.b) (hb_c _ (by simp))
  have hp0 : 0 ≤ c.i := hp _ (List.mem_cons_self)
  have hp1 : c.b.length ≤ 4294967296 := hp _ (List.mem_cons_of_mem _ (List.mem_cons_self))
  clear hp hb
  rw [vc_spec_l1Byte c]
  dsimp only
  refine ⟨by omega, by omega, if_cond (fun h => ?_) (fun h => ?_)⟩
  · have h := of_decide_eq_true h
    have e1 : byteV c = and255 (IntKind.wrap .i64 (mixX (nextH c.h) + IntKind.wrap .i64 (List.getD c.b c.i.toNat 0))) := if_pos h
    have e2 : (byteC c).i = c.i + 1 := if_pos h
    rw [e1, e2, wrap_i64 (n := c.i + 1) (by omega) (by omega)]
    exact ⟨hp0, by omega, rfl, rfl, rfl⟩
  · have h := of_decide_eq_false h
    have e1 : byteV c = mixX (nextH c.h) := if_neg h
    have e2 : (byteC c).i = c.i := if_neg h
    rw [e1, e2]
    exact ⟨rfl, rfl, rfl⟩
def con_spec_l1Below : Con UU where
  α := DCur × Int
  md := [.box false, .ro]
  of := fun | [.box [.sl .byte a0, .lit (.int .i64 a1), .lit (.int .i64 a2)], .one (.lit (.int .i64 a3))] => some (⟨a0, a1, a2⟩, a3) | _ => none
  ds := fun (c, n) => [.box [.sl .byte c.b, .lit (.int .i64 c.i), .lit (.int .i64 c.h)], .one (.lit (.int .i64 n))]
  pre := fun (c, n) => [0 ≤ c.i, c.b.length ≤ 4294967296]
  res := fun (c, n) => ⟨[.one (.lit (.int .i64 (belowV c n)))], true, [.box [.sl .byte ((belowC c n)).b, .lit (.int .i64 ((belowC c n)).i), .lit (.int .i64 ((belowC c n)).h)]]⟩
  law := by intro l x h; (try simp only at h); split at h <;> cases h; rfl
def ann_spec_l1Below : con_spec_l1Below.α → Nat → Option (Ann UU) := fun (c, n) => annL []
def use_spec_l1Below : List (FuncId × Con UU) := [(70, con_spec_l1Byte)]
theorem vc_spec_l1Below (c : DCur) (n : Int) : goal EE use_spec_l1Below Go.Proofs.Try.f62 con_spec_l1Below ann_spec_l1Below (c, n) = (bif decide (n ≤ (0 : Int)) then (0 : Nat) = (0 : Nat) ∧ asD [DV.one (Cell.lit (Value.int IntKind.i64 (0 : Int)))] = asD [DV.one (Cell.lit (Value.int IntKind.i64 (belowV c n)))] ∧ asD [DV.box [Cell.sl Cd.byte c.b, Cell.lit (Value.int IntKind.i64 c.i), Cell.lit (Value.int IntKind.i64 c.h)]] = asD [DV.box [Cell.sl Cd.byte (belowC c n).b, Cell.lit (Value.int IntKind.i64 (belowC c n).i), Cell.lit (Value.int IntKind.i64 (belowC c n).h)]] else bif decide (n ≤ (256 : Int)) then (0 : Int) ≤ c.i ∧ List.length c.b ≤ (4294967296 : Nat) ∧ n ≠ (0 : Int) ∧ (0 : Nat) = (0 : Nat) ∧ asD [DV.one (Cell.lit (Value.int IntKind.i64 (Int.tmod (byteV c) n)))] = asD [DV.one (Cell.lit (Value.int IntKind.i64 (belowV c n)))] ∧ asD [DV.box [Cell.sl Cd.byte (byteC c).b, Cell.lit (Value.int IntKind.i64 (byteC c).i), Cell.lit (Value.int IntKind.i64 (byteC c).h)]] = asD [DV.box [Cell.sl Cd.byte (belowC c n).b, Cell.lit (Value.int IntKind.i64 (belowC c n).i), Cell.lit (Value.int IntKind.i64 (belowC c n).h)]] else (0 : Int) ≤ c.i ∧ List.length c.b ≤ (4294967296 : Nat) ∧ (0 : Int) ≤ (byteC c).i ∧ List.length (byteC c).b ≤ (4294967296 : Nat) ∧ (0 : Int) ≤ (byteC (byteC c)).i ∧ List.length (byteC (byteC c)).b ≤ (4294967296 : Nat) ∧ n ≠ (0 : Int) ∧ (0 : Nat) = (0 : Nat) ∧ asD [DV.one (Cell.lit (Value.int IntKind.i64 (Int.tmod (IntKind.wrap IntKind.i64 (IntKind.wrap IntKind.i64 (IntKind.wrap IntKind.i64 (byteV c * (65536 : Int)) + IntKind.wrap IntKind.i64 (byteV (byteC c) * (256 : Int))) + byteV (byteC (byteC c)))) n)))] = asD [DV.one (Cell.lit (Value.int IntKind.i64 (belowV c n)))] ∧ asD [DV.box [Cell.sl Cd.byte (byteC (byteC (byteC c))).b, Cell.lit (Value.int IntKind.i64 (byteC (byteC (byteC c))).i), Cell.lit (Value.int IntKind.i64 (byteC (byteC (byteC c))).h)]] = asD [DV.box [Cell.sl Cd.byte (belowC c n).b, Cell.lit (Value.int IntKind.i64 (belowC c n).i), Cell.lit (Value.int IntKind.i64 (belowC c n).h)]]) := by kernel_rfl
theorem ok_spec_l1Below : Holds EE (62, con_spec_l1Below) := by
  refine holds_of EE_ok Go.Proofs.Try.func62 con_spec_l1Below (by kernel_rfl) use_spec_l1Below (all_cons ok_spec_l1Byte all_nil) ann_spec_l1Below (fun x hp hb => ?_)
  obtain ⟨c, n⟩ := x
  have hb_c : BdDV (U := UU) (.box [.sl .byte c.b, .lit (.int .i64 c.i), .lit (.int .i64 c.h)]) := hb _ (List.mem_cons_self)
  have hl_c_b : c.b.length ≤ 9223372036854775807 := Bd.len (U := UU) (τ := .byte) (xs := c.b) (hb_c _ (by simp))
  have hb_n : BdDV (U := UU) (.one (.lit (.int .i64 n))) := hb _ (List.mem_cons_of_mem _ (List.mem_cons_self))
  have hl_n := Bd.i64 hb_n
  have hp0 : 0 ≤ c.i := hp _ (List.mem_cons_self)
  have hp1 : c.b.length ≤ 4294967296 := hp _ (List.mem_cons_of_mem _ (List.mem_cons_self))
  clear hp hb
  rw [vc_spec_l1Below c n]
  have b1 := byteV_le c; have b2 := byteV_le (byteC c); have b3 := byteV_le (byteC (byteC c))
  refine if_cond (fun h => ?_) (fun h => if_cond (fun h2 => ?_) (fun h2 => ?_))
  · have h := of_decide_eq_true h
    have e1 : belowV c n = 0 := if_pos h
    have e2 : belowC c n = c := if_pos h
    rw [e1, e2]; exact ⟨rfl, rfl, rfl⟩
  · have h := of_decide_eq_false h; have h2 := of_decide_eq_true h2
    have e1 : belowV c n = Int.tmod (byteV c) n := by rw [belowV, if_neg h, if_pos h2]
    have e2 : belowC c n = byteC c := by rw [belowC, if_neg h, if_pos h2]
    rw [e1, e2]; exact ⟨hp0, hp1, by omega, rfl, rfl, rfl⟩
  · have h := of_decide_eq_false h; have h2 := of_decide_eq_false h2
    have e1 : belowV c n = Int.tmod (byteV c * 65536 + byteV (byteC c) * 256 + byteV (byteC (byteC c))) n := by rw [belowV, if_neg h, if_neg h2]
    have e2 : belowC c n = byteC (byteC (byteC c)) := by rw [belowC, if_neg h, if_neg h2]
    have w1 : IntKind.wrap .i64 (byteV c * 65536) = byteV c * 65536 := wrap_i64 (by omega) (by omega)
    have w2 : IntKind.wrap .i64 (byteV (byteC c) * 256) = byteV (byteC c) * 256 := wrap_i64 (by omega) (by omega)
    rw [w1, w2, e1, e2, wrap_i64 (n := byteV c * 65536 + byteV (byteC c) * 256) (by omega) (by omega), wrap_i64 (n := byteV c * 65536 + byteV (byteC c) * 256 + byteV (byteC (byteC c))) (by omega) (by omega)]
    exact ⟨hp0, hp1, byteC_i hp0, hp1, byteC_i (byteC_i hp0), hp1, by omega, rfl, rfl, rfl⟩
def con_spec_l1Int : Con UU where
  α := DCur × (List Int)
  md := [.box false, .ro]
  of := fun | [.box [.sl .byte a0, .lit (.int .i64 a1), .lit (.int .i64 a2)], .one (.sl .int a3)] => some (⟨a0, a1, a2⟩, a3) | _ => none
  ds := fun (c, list) => [.box [.sl .byte c.b, .lit (.int .i64 c.i), .lit (.int .i64 c.h)], .one (.sl .int list)]
  pre := fun (c, list) => [0 ≤ c.i, c.b.length ≤ 4294967296, 1 ≤ list.length]
  res := fun (c, list) => ⟨[.one (.lit (.int .i64 (List.getD list (belowV c list.length).toNat 0)))], true, [.box [.sl .byte ((belowC c list.length)).b, .lit (.int .i64 ((belowC c list.length)).i), .lit (.int .i64 ((belowC c list.length)).h)]]⟩
  law := by intro l x h; (try simp only at h); split at h <;> cases h; rfl
def ann_spec_l1Int : con_spec_l1Int.α → Nat → Option (Ann UU) := fun (c, list) => annL []
def use_spec_l1Int : List (FuncId × Con UU) := [(62, con_spec_l1Below)]
theorem vc_spec_l1Int (c : DCur) (list : (List Int)) : goal EE use_spec_l1Int Go.Proofs.Try.f43 con_spec_l1Int ann_spec_l1Int (c, list) = (let x0 : DCur := belowC c (↑(List.length list) : Int);
(0 : Int) ≤ c.i ∧ List.length c.b ≤ (4294967296 : Nat) ∧ (0 : Int) ≤ belowV c (↑(List.length list) : Int) ∧ Int.toNat (belowV c (↑(List.length list) : Int)) < List.length list ∧ (0 : Nat) = (0 : Nat) ∧ asD [DV.one (Cell.lit (Value.int IntKind.i64 (List.getD list (Int.toNat (belowV c (↑(List.length list) : Int))) (0 : Int))))] = asD [DV.one (Cell.lit (Value.int IntKind.i64 (List.getD list (Int.toNat (belowV c (↑(List.length list) : Int))) (0 : Int))))] ∧ asD [DV.box [Cell.sl Cd.byte x0.b, Cell.lit (Value.int IntKind.i64 x0.i), Cell.lit (Value.int IntKind.i64 x0.h)]] = asD [DV.box [Cell.sl Cd.byte x0.b, Cell.lit (Value.int IntKind.i64 x0.i), Cell.lit (Value.int IntKind.i64 x0.h)]]) := by kernel_rfl
theorem ok_spec_l1Int : Holds EE (43, con_spec_l1Int) := by
  refine holds_of EE_ok Go.Proofs.Try.func43 con_spec_l1Int (by kernel_rfl) use_spec_l1Int (all_cons ok_spec_l1Below all_nil) ann_spec_l1Int (fun x hp hb => ?_)
  obtain ⟨c, list⟩ := x
  have hb_c : BdDV (U := UU) (.box [.sl .byte c.b, .lit (.int .i64 c.i), .lit (.int .i64 c.h)]) := hb _ (List.mem_cons_self)
  have hl_c_b : c.b.length ≤ 9223372036854775807 := Bd.len (U := UU) (τ := .byte) (xs := c.b) (hb_c _ (by simp))
  have hb_list : BdDV (U := UU) (.one (.sl .int list)) := hb _ (List.mem_cons_of_mem _ (List.mem_cons_self))
  have hl_list : list.length ≤ 9223372036854775807 := Bd.len hb_list
  have hp0 : 0 ≤ c.i := hp _ (List.mem_cons_self)
  have hp1 : c.b.length ≤ 4294967296 := hp _ (List.mem_cons_of_mem _ (List.mem_cons_self))
  have hp2 : 1 ≤ list.length := hp _ (List.mem_cons_of_mem _ (List.mem_cons_of_mem _ (List.mem_cons_self)))
  clear hp hb
  rw [vc_spec_l1Int c list]
  dsimp only
  have hb := belowV_lt (c := c) (n := list.length) (by omega)
  exact ⟨hp0, hp1, hb.1, by omega, rfl, rfl, rfl⟩
def lB1 : List Int := [1, 2, 3, 100000, 0, 100001]
def lB2 : List Int := [0, 1, 2, 5, 70, -1, 9223372036854775807]
def lB3 : List Int := [1, 10, 60, 100000, 0, 100001]
def cB1 (code : List Int) : DCur := belowC (newCur code) 6
def cB2 (code : List Int) : DCur := belowC (cB1 code) 7
def dB1 (code : List Int) : Int := List.getD lB1 (belowV (newCur code) 6).toNat 0
def dB2 (code : List Int) : Int := List.getD lB2 (belowV (cB1 code) 7).toNat 0
def dB3 (code : List Int) : Int := List.getD lB3 (belowV (cB2 code) 6).toNat 0
theorem belowC_b (c : DCur) (n : Int) : (belowC c n).b = c.b := by
  unfold belowC
  split
  · rfl
  · split <;> rfl
theorem lB2_le : ∀ i : Nat, List.getD lB2 i 0 ≤ 9223372036854775807
  | 0 => by decide
  | 1 => by decide
  | 2 => by decide
  | 3 => by decide
  | 4 => by decide
  | 5 => by decide
  | 6 => by decide
  | n + 7 => by simp [lB2, List.getD]
theorem backN_mono (m : Int) : ∀ (k : Nat) (n : Int), 1 ≤ n → backN m k n ≤ backN m (k + 1) n ∧ backN m (k + 1) n ≤ 2 * backN m k n ∧ n ≤ backN m k n
  | 0, n, h => by
    have e1 : backN m 0 n = n := rfl
    have e2 : backN m (0 + 1) n = if n < m then backN m 0 (2 * n) else n := rfl
    have e3 : backN m 0 (2 * n) = 2 * n := rfl
    rw [e1, e2, e3]
    split <;> omega
  | k + 1, n, h => by
    have e1 : backN m (k + 1) n = if n < m then backN m k (2 * n) else n := rfl
    have e2 : backN m (k + 1 + 1) n = if n < m then backN m (k + 1) (2 * n) else n := rfl
    have ih := backN_mono m k (2 * n) (by omega)
    rw [e2, e1]
    split <;> omega
theorem backoff_ok {b k m : Int} (h : 1 ≤ b ∧ b ≤ 100000 ∧ 1 ≤ m ∧ m ≤ 100000 ∧ 0 ≤ k) :
    1 ≤ backoff b k m ∧ backoff b k m ≤ m ∧ (b ≤ backoff b k m ∨ backoff b k m = m) ∧ backoff b k m ≤ backoff b (k + 1) m ∧ backoff b (k + 1) m ≤ 2 * backoff b k m := by
  have e : (k + 1).toNat = k.toNat + 1 := by omega
  have hm := backN_mono m k.toNat b (by omega)
  have h' : 1 ≤ b ∧ b ≤ 100000 ∧ 1 ≤ m ∧ m ≤ 100000 ∧ 0 ≤ k + 1 := by omega
  rw [backoff, backoff, if_pos h, if_pos h', e]
  generalize backN m k.toNat b = x at *
  generalize backN m (k.toNat + 1) b = y at *
  split <;> (try split) <;> omega
def con_spec_DrawBackoff : Con UU where
  α := (List Int)
  md := [.ro]
  of := fun | [.one (.sl .byte a0)] => some a0 | _ => none
  ds := fun code => [.one (.sl .byte code)]
  pre := fun code => [code.length ≤ 4294967296]
  res := fun code => ⟨[.one (.lit (.int .i64 (dB1 code))), .one (.lit (.int .i64 (dB2 code))), .one (.lit (.int .i64 (dB3 code)))], true, []⟩
  law := by intro l x h; (try simp only at h); split at h <;> cases h; rfl
def ann_spec_DrawBackoff : con_spec_DrawBackoff.α → Nat → Option (Ann UU) := fun code => annL []
def use_spec_DrawBackoff : List (FuncId × Con UU) := [(42, con_spec_l1New), (43, con_spec_l1Int)]
theorem vc_spec_DrawBackoff (code : (List Int)) : goal EE use_spec_DrawBackoff Go.Proofs.Try.f13 con_spec_DrawBackoff ann_spec_DrawBackoff code = (let x0 : DCur := belowC (belowC (newCur code) (↑(List.length [(1 : Int), (2 : Int), (3 : Int), (100000 : Int), (0 : Int), (100001 : Int)]) : Int)) (↑(List.length [(0 : Int), (1 : Int), (2 : Int), (5 : Int), (70 : Int), (-1 : Int), (9223372036854775807 : Int)]) : Int);
let x1 : DCur := belowC (newCur code) (↑(List.length [(1 : Int), (2 : Int), (3 : Int), (100000 : Int), (0 : Int), (100001 : Int)]) : Int);
let x2 : Nat := List.length [(0 : Int), (1 : Int), (2 : Int), (5 : Int), (70 : Int), (-1 : Int), (9223372036854775807 : Int)];
let x3 : Nat := List.length [(1 : Int), (10 : Int), (60 : Int), (100000 : Int), (0 : Int), (100001 : Int)];
let x4 : Nat := List.length [(1 : Int), (2 : Int), (3 : Int), (100000 : Int), (0 : Int), (100001 : Int)];
let x5 : List Int := [(100000 : Int), (0 : Int), (100001 : Int)];
List.length code ≤ (4294967296 : Nat) ∧ (0 : Int) ≤ (newCur code).i ∧ List.length (newCur code).b ≤ (4294967296 : Nat) ∧ (1 : Nat) ≤ x4 ∧ (0 : Int) ≤ x1.i ∧ List.length x1.b ≤ (4294967296 : Nat) ∧ (1 : Nat) ≤ x2 ∧ (0 : Int) ≤ x0.i ∧ List.length x0.b ≤ (4294967296 : Nat) ∧ (1 : Nat) ≤ x3 ∧ Lf [DV.one (Cell.lit (Value.int IntKind.i64 (List.getD ((1 : Int) :: (2 : Int) :: (3 : Int) :: x5) (Int.toNat (belowV (newCur code) (↑x4 : Int))) (0 : Int)))), DV.one (Cell.lit (Value.int IntKind.i64 (List.getD [(0 : Int), (1 : Int), (2 : Int), (5 : Int), (70 : Int), (-1 : Int), (9223372036854775807 : Int)] (Int.toNat (belowV x1 (↑x2 : Int))) (0 : Int)))), DV.one (Cell.lit (Value.int IntKind.i64 (List.getD ((1 : Int) :: (10 : Int) :: (60 : Int) :: x5) (Int.toNat (belowV x0 (↑x3 : Int))) (0 : Int))))] [DV.one (Cell.lit (Value.int IntKind.i64 (dB1 code))), DV.one (Cell.lit (Value.int IntKind.i64 (dB2 code))), DV.one (Cell.lit (Value.int IntKind.i64 (dB3 code)))]) := by kernel_rfl
theorem ok_spec_DrawBackoff : Holds EE (13, con_spec_DrawBackoff) := by
  refine holds_of EE_ok Go.Proofs.Try.func13 con_spec_DrawBackoff (by kernel_rfl) use_spec_DrawBackoff (all_cons ok_spec_l1New (all_cons ok_spec_l1Int all_nil)) ann_spec_DrawBackoff (fun (code : (List Int)) hp hb => ?_)
  have hb_code : BdDV (U := UU) (.one (.sl .byte code)) := hb _ (List.mem_cons_self)
  have hl_code : code.length ≤ 9223372036854775807 := Bd.len hb_code
  have hp0 : code.length ≤ 4294967296 := hp _ (List.mem_cons_self)
  clear hp hb
  rw [vc_spec_DrawBackoff code]
  dsimp only
  have h0 : 0 ≤ (newCur code).i := Int.le_refl 0
  have h1 := belowC_i h0 6
  have h2 := belowC_i h1 7
  have b1 := belowC_b (newCur code) 6
  have b2 := belowC_b (belowC (newCur code) 6) 7
  exact ⟨hp0, h0, hp0, by decide, h1, by first | (rw [b1]; exact hp0) | (show (belowC (newCur code) 6).b.length ≤ _; rw [b1]; exact hp0), by decide, h2, by show (belowC (belowC (newCur code) 6) 7).b.length ≤ _; rw [b2, b1]; exact hp0, by decide, Lf_rfl _⟩
def con_laws_big : Con UU where
  α := (List Int)
  md := [.ro]
  of := fun | [.one (.sl .byte a0)] => some a0 | _ => none
  ds := fun code => [.one (.sl .byte code)]
  pre := fun code => []
  res := fun code => ⟨[.one (.lit (.bool (decide (code.length > 1048576))))], true, []⟩
  law := by intro l x h; (try simp only at h); split at h <;> cases h; rfl
def ann_laws_big : con_laws_big.α → Nat → Option (Ann UU) := fun code => annL []
def use_laws_big : List (FuncId × Con UU) := []
theorem vc_laws_big (code : (List Int)) : goal EE use_laws_big Go.Proofs.Try.f12 con_laws_big ann_laws_big code = (Lf [DV.one (Cell.lit (Value.bool (decide ((↑(List.length code) : Int) > (1048576 : Int)))))] [DV.one (Cell.lit (Value.bool (decide (List.length code > (1048576 : Nat)))))]) := by kernel_rfl
theorem ok_laws_big : Holds EE (12, con_laws_big) := by
  refine holds_of EE_ok Go.Proofs.Try.func12 con_laws_big (by kernel_rfl) use_laws_big all_nil ann_laws_big (fun (code : (List Int)) hp hb => ?_)
  have hb_code : BdDV (U := UU) (.one (.sl .byte code)) := hb _ (List.mem_cons_self)
  have hl_code : code.length ≤ 9223372036854775807 := Bd.len hb_code
  clear hp hb
  rw [vc_laws_big code]
  exact Lf_b (decide_eq_decide.2 (by omega))
def con_laws_FnBackoff : Con UU where
  α := (List Int)
  md := [.ro]
  of := fun | [.one (.sl .byte a0)] => some a0 | _ => none
  ds := fun code => [.one (.sl .byte code)]
  pre := fun code => []
  res := fun code => ⟨[.one (.lit (.bool true))], true, []⟩
  law := by intro l x h; (try simp only at h); split at h <;> cases h; rfl
def ann_laws_FnBackoff : con_laws_FnBackoff.α → Nat → Option (Ann UU) := fun code => annL []
def use_laws_FnBackoff : List (FuncId × Con UU) := [(12, con_laws_big), (13, con_spec_DrawBackoff), (11, con_impl_Backoff), (10, con_spec_Backoff)]
theorem vc_laws_FnBackoff (code : (List Int)) : goal EE use_laws_FnBackoff Go.Proofs.Try.f4 con_laws_FnBackoff ann_laws_FnBackoff code = (let x0 : Int := backoff (dB1 code) (dB2 code) (dB3 code);
let x1 : Int := backoff (dB1 code) (IntKind.wrap IntKind.i64 (dB2 code + (1 : Int))) (dB3 code);
bif decide (List.length code > (1048576 : Nat)) then Lf [DV.one (Cell.lit (Value.bool true))] [DV.one (Cell.lit (Value.bool true))] else List.length code ≤ (4294967296 : Nat) ∧ bif x0 != x0 then Lf [DV.one (Cell.lit (Value.bool false))] [DV.one (Cell.lit (Value.bool true))] else bif decide (dB1 code < (1 : Int)) then Lf [DV.one (Cell.lit (Value.bool (x0 == (0 : Int))))] [DV.one (Cell.lit (Value.bool true))] else bif decide (dB1 code > (100000 : Int)) then Lf [DV.one (Cell.lit (Value.bool (x0 == (0 : Int))))] [DV.one (Cell.lit (Value.bool true))] else bif decide (dB3 code < (1 : Int)) then Lf [DV.one (Cell.lit (Value.bool (x0 == (0 : Int))))] [DV.one (Cell.lit (Value.bool true))] else bif decide (dB3 code > (100000 : Int)) then Lf [DV.one (Cell.lit (Value.bool (x0 == (0 : Int))))] [DV.one (Cell.lit (Value.bool true))] else bif decide (dB2 code < (0 : Int)) then Lf [DV.one (Cell.lit (Value.bool (x0 == (0 : Int))))] [DV.one (Cell.lit (Value.bool true))] else bif decide (x0 > dB3 code) then Lf [DV.one (Cell.lit (Value.bool false))] [DV.one (Cell.lit (Value.bool true))] else bif decide (x0 < (1 : Int)) then Lf [DV.one (Cell.lit (Value.bool false))] [DV.one (Cell.lit (Value.bool true))] else bif decide (x0 < dB1 code) then bif x0 != dB3 code then Lf [DV.one (Cell.lit (Value.bool false))] [DV.one (Cell.lit (Value.bool true))] else bif dB2 code == (9223372036854775807 : Int) then Lf [DV.one (Cell.lit (Value.bool true))] [DV.one (Cell.lit (Value.bool true))] else bif decide (x1 ≥ x0) then Lf [DV.one (Cell.lit (Value.bool (decide (x1 ≤ IntKind.wrap IntKind.i64 ((2 : Int) * x0)))))] [DV.one (Cell.lit (Value.bool true))] else Lf [DV.one (Cell.lit (Value.bool false))] [DV.one (Cell.lit (Value.bool true))] else bif dB2 code == (9223372036854775807 : Int) then Lf [DV.one (Cell.lit (Value.bool true))] [DV.one (Cell.lit (Value.bool true))] else bif decide (x1 ≥ x0) then Lf [DV.one (Cell.lit (Value.bool (decide (x1 ≤ IntKind.wrap IntKind.i64 ((2 : Int) * x0)))))] [DV.one (Cell.lit (Value.bool true))] else Lf [DV.one (Cell.lit (Value.bool false))] [DV.one (Cell.lit (Value.bool true))]) := by kernel_rfl
theorem ok_laws_FnBackoff : Holds EE (4, con_laws_FnBackoff) := by
  refine holds_of EE_ok Go.Proofs.Try.func4 con_laws_FnBackoff (by kernel_rfl) use_laws_FnBackoff (all_cons ok_laws_big (all_cons ok_spec_DrawBackoff (all_cons ok_impl_Backoff (all_cons ok_spec_Backoff all_nil)))) ann_laws_FnBackoff (fun (code : (List Int)) hp hb => ?_)
  have hb_code : BdDV (U := UU) (.one (.sl .byte code)) := hb _ (List.mem_cons_self)
  have hl_code : code.length ≤ 9223372036854775807 := Bd.len hb_code
  clear hp hb
  rw [vc_laws_FnBackoff code]
  dsimp only
  have hk : dB2 code ≤ 9223372036854775807 := lB2_le _
  generalize dB1 code = b at *
  generalize dB2 code = k at *
  generalize dB3 code = m at *
  refine if_cond (fun h => Lf_rfl _) (fun h => ?_)
  have h := of_decide_eq_false h
  refine ⟨by omega, if_cond (fun h1 => absurd h1 (by simp)) (fun h1 => ?_)⟩
  have hz : ¬ (1 ≤ b ∧ b ≤ 100000 ∧ 1 ≤ m ∧ m ≤ 100000 ∧ 0 ≤ k) → Lf [.one (.lit (.bool (backoff b k m == 0)))] [.one (.lit (.bool true))] := fun hh => Lf_b (by rw [backoff, if_neg hh]; rfl)
  refine if_cond (fun a1 => hz ?_) (fun a1 => if_cond (fun a2 => hz ?_) (fun a2 => if_cond (fun a3 => hz ?_) (fun a3 => if_cond (fun a4 => hz ?_) (fun a4 => if_cond (fun a5 => hz ?_) (fun a5 => ?_)))))
  · have a := of_decide_eq_true a1; omega
  · have a := of_decide_eq_true a2; omega
  · have a := of_decide_eq_true a3; omega
  · have a := of_decide_eq_true a4; omega
  · have a := of_decide_eq_true a5; omega
  have a1 := of_decide_eq_false a1; have a2 := of_decide_eq_false a2; have a3 := of_decide_eq_false a3; have a4 := of_decide_eq_false a4; have a5 := of_decide_eq_false a5
  obtain ⟨p1, p2, p3, p4, p5⟩ := backoff_ok (b := b) (k := k) (m := m) (by omega)
  have tail : (bif k == 9223372036854775807 then Lf [.one (.lit (.bool true))] [.one (.lit (.bool true))] else bif decide (backoff b (IntKind.wrap .i64 (k + 1)) m ≥ backoff b k m) then Lf [.one (.lit (.bool (decide (backoff b (IntKind.wrap .i64 (k + 1)) m ≤ IntKind.wrap .i64 (2 * backoff b k m)))))] [.one (.lit (.bool true))] else Lf [.one (.lit (.bool false))] [.one (.lit (.bool true))]) := by
    refine if_cond (fun _ => Lf_rfl _) (fun hk2 => ?_)
    have hk2 : k ≠ 9223372036854775807 := by simpa using hk2
    rw [wrap_i64 (n := k + 1) (by omega) (by omega), wrap_i64 (n := 2 * backoff b k m) (by omega) (by omega)]
    exact if_cond (fun _ => Lf_b (decide_eq_true p5)) (fun q => absurd p4 (of_decide_eq_false q))
  refine if_cond (fun q => absurd (of_decide_eq_true q) (by omega)) (fun _ => if_cond (fun q => absurd (of_decide_eq_true q) (by omega)) (fun _ => if_cond (fun q => if_cond (fun q2 => ?_) (fun _ => tail)) (fun _ => tail)))
  have q := of_decide_eq_true q
  have q2 : backoff b k m ≠ m := by simpa using q2
  omega
end
end AM
