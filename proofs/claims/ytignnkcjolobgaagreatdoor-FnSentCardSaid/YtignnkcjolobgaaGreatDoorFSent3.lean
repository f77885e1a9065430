/- Functions of the program with their contracts: put together by gen/link.py for FnSent. -/
import Derived.Test.YtignnkcjolobgaaGreatDoorAmLib
import Derived.Test.YtignnkcjolobgaaGreatDoorAmModels
import Derived.Test.YtignnkcjolobgaaGreatDoorFSent2
import Derived.Lib.ItoaLen
import Derived.Lib.Join
import Derived.Test.YtignnkcjolobgaaGreatDoorShelf
namespace AM
open Go
set_option linter.unusedVariables false
set_option linter.unusedSimpArgs false
set_option maxRecDepth 100000
noncomputable section
def con_laws_sameCalls : Con UU where
  α := (List DCall) × (List DCall)
  md := [.ro, .ro]
  of := fun | [.one (.sl .eCall a0), .one (.sl .eCall a1)] => some (a0, a1) | _ => none
  ds := fun (a, b) => [.one (.sl .eCall a), .one (.sl .eCall b)]
  pre := fun (a, b) => []
  res := fun (a, b) => ⟨[.one (.lit (.bool (decide (a = b))))], true, []⟩
  law := by intro l x h; (try simp only at h); split at h <;> cases h; rfl
def I_laws_sameCalls_4 (a : (List DCall)) (b : (List DCall)) : Int × Unit → Prop := fun (i, _) => 0 ≤ i ∧ i ≤ a.length ∧ a.length = b.length ∧ (a.drop i.toNat = b.drop i.toNat ↔ a = b)
def μ_laws_sameCalls_4 (a : (List DCall)) (b : (List DCall)) : Int × Unit → Nat := fun (i, _) => a.length - i.toNat
def ann_laws_sameCalls : con_laws_sameCalls.α → Nat → Option (Ann UU) := fun (a, b) => annL [(4, annOf [.slot 5 (5, 1024) (.lit (.int .i64))] (fun _ => I_laws_sameCalls_4 a b) (μ_laws_sameCalls_4 a b))]
def use_laws_sameCalls : List (FuncId × Con UU) := [(54, con_impl_SameFact)]
theorem vc_laws_sameCalls (a : (List DCall)) (b : (List DCall)) : goal EE use_laws_sameCalls Go.Proofs.Tryz.f20 con_laws_sameCalls ann_laws_sameCalls (a, b) = (bif (↑(List.length a) : Int) != (↑(List.length b) : Int) then Lf [DV.one (Cell.lit (Value.bool false))] [DV.one (Cell.lit (Value.bool (decide (a = b))))]
else
  I_laws_sameCalls_4 a b ((0 : Int), PUnit.unit) ∧
    ∀ (y : Int × PUnit),
      let x0 : DCall := List.getD a (Int.toNat y.1) zCall;
      let x1 : DCall := List.getD b (Int.toNat y.1) zCall;
      I_laws_sameCalls_4 a b y → bif decide (y.1 < (↑(List.length a) : Int)) then (0 : Int) ≤ y.1 ∧ Int.toNat y.1 < List.length a ∧ (0 : Int) ≤ y.1 ∧ Int.toNat y.1 < List.length b ∧ bif !ByteArray.toList x0.Key == ByteArray.toList x1.Key then Lf [DV.one (Cell.lit (Value.bool false))] [DV.one (Cell.lit (Value.bool (decide (a = b))))] else (0 : Int) ≤ y.1 ∧ Int.toNat y.1 < List.length a ∧ (0 : Int) ≤ y.1 ∧ Int.toNat y.1 < List.length b ∧ bif x0.Try != x1.Try then Lf [DV.one (Cell.lit (Value.bool false))] [DV.one (Cell.lit (Value.bool (decide (a = b))))] else (0 : Int) ≤ y.1 ∧ Int.toNat y.1 < List.length a ∧ (0 : Int) ≤ y.1 ∧ Int.toNat y.1 < List.length b ∧ bif !decide (x0.F = x1.F) then Lf [DV.one (Cell.lit (Value.bool false))] [DV.one (Cell.lit (Value.bool (decide (a = b))))] else I_laws_sameCalls_4 a b (IntKind.wrap IntKind.i64 (y.1 + (1 : Int)), PUnit.unit) ∧ μ_laws_sameCalls_4 a b (IntKind.wrap IntKind.i64 (y.1 + (1 : Int)), PUnit.unit) < μ_laws_sameCalls_4 a b y else Lf [DV.one (Cell.lit (Value.bool true))] [DV.one (Cell.lit (Value.bool (decide (a = b))))]) := by kernel_rfl
theorem ok_laws_sameCalls : Holds EE (20, con_laws_sameCalls) := by
  refine holds_of EE_ok Go.Proofs.Tryz.func20 con_laws_sameCalls (by kernel_rfl) use_laws_sameCalls (all_cons ok_impl_SameFact all_nil) ann_laws_sameCalls (fun x hp hb => ?_)
  obtain ⟨a, b⟩ := x
  have hb_a : BdDV (U := UU) (.one (.sl .eCall a)) := hb _ (List.mem_cons_self)
  have hl_a : a.length ≤ 9223372036854775807 := Bd.len hb_a
  have hb_b : BdDV (U := UU) (.one (.sl .eCall b)) := hb _ (List.mem_cons_of_mem _ (List.mem_cons_self))
  have hl_b : b.length ≤ 9223372036854775807 := Bd.len hb_b
  clear hp hb
  rw [vc_laws_sameCalls a b]
  dsimp only
  refine if_cond (fun h => Lf_f (ne_len (by simpa using h))) (fun h => ⟨⟨by omega, by omega, (len_eq (a := a) (b := b) (by assumption)), by simp⟩, ?_⟩)
  rintro ⟨i, ⟨⟩⟩ ⟨h1, h2, h3, hR⟩
  simp only
  refine if_cond (fun hc => ?_) (fun hc => ?_)
  · have hc : i < a.length := of_decide_eq_true hc
    rw [wrap_i64 (by omega) (by omega)]
    try simp only [toList_beq]
    have hz : _ := eq_Call (List.getD a i.toNat zCall) (List.getD b i.toNat zCall)
    repeat' (first | refine And.intro (by omega) ?_ | refine if_cond (fun h => ?_) (fun h => ?_))
    all_goals first | exact Lf_f (dr_ne zCall h1 hc (by omega) hR (by first | grind | (rw [hz]; grind))) | exact ⟨⟨by omega, by omega, h3, dr_eq zCall h1 hc (by omega) hR (by first | grind | (rw [hz]; grind))⟩, by simp only [μ_laws_sameCalls_4]; omega⟩
  · have hc : a.length ≤ i := by have := of_decide_eq_false hc; omega
    exact Lf_t (dr_end hc (by omega) hR)
def con_laws_sameTexts : Con UU where
  α := (List ByteArray) × (List ByteArray)
  md := [.ro, .ro]
  of := fun | [.one (.sl .str a0), .one (.sl .str a1)] => some (a0, a1) | _ => none
  ds := fun (a, b) => [.one (.sl .str a), .one (.sl .str b)]
  pre := fun (a, b) => []
  res := fun (a, b) => ⟨[.one (.lit (.bool (decide (a = b))))], true, []⟩
  law := by intro l x h; (try simp only at h); split at h <;> cases h; rfl
def I_laws_sameTexts_4 (a : (List ByteArray)) (b : (List ByteArray)) : Int × Unit → Prop := fun (i, _) => 0 ≤ i ∧ i ≤ a.length ∧ a.length = b.length ∧ (a.drop i.toNat = b.drop i.toNat ↔ a = b)
def μ_laws_sameTexts_4 (a : (List ByteArray)) (b : (List ByteArray)) : Int × Unit → Nat := fun (i, _) => a.length - i.toNat
def ann_laws_sameTexts : con_laws_sameTexts.α → Nat → Option (Ann UU) := fun (a, b) => annL [(4, annOf [.slot 5 (5, 1024) (.lit (.int .i64))] (fun _ => I_laws_sameTexts_4 a b) (μ_laws_sameTexts_4 a b))]
def use_laws_sameTexts : List (FuncId × Con UU) := []
theorem vc_laws_sameTexts (a : (List ByteArray)) (b : (List ByteArray)) : goal EE use_laws_sameTexts Go.Proofs.Tryz.f21 con_laws_sameTexts ann_laws_sameTexts (a, b) = (bif (↑(List.length a) : Int) != (↑(List.length b) : Int) then Lf [DV.one (Cell.lit (Value.bool false))] [DV.one (Cell.lit (Value.bool (decide (a = b))))] else I_laws_sameTexts_4 a b ((0 : Int), PUnit.unit) ∧ ∀ (y : Int × PUnit), I_laws_sameTexts_4 a b y → bif decide (y.1 < (↑(List.length a) : Int)) then (0 : Int) ≤ y.1 ∧ Int.toNat y.1 < List.length a ∧ (0 : Int) ≤ y.1 ∧ Int.toNat y.1 < List.length b ∧ bif !ByteArray.toList (List.getD a (Int.toNat y.1) noBytes) == ByteArray.toList (List.getD b (Int.toNat y.1) noBytes) then Lf [DV.one (Cell.lit (Value.bool false))] [DV.one (Cell.lit (Value.bool (decide (a = b))))] else I_laws_sameTexts_4 a b (IntKind.wrap IntKind.i64 (y.1 + (1 : Int)), PUnit.unit) ∧ μ_laws_sameTexts_4 a b (IntKind.wrap IntKind.i64 (y.1 + (1 : Int)), PUnit.unit) < μ_laws_sameTexts_4 a b y else Lf [DV.one (Cell.lit (Value.bool true))] [DV.one (Cell.lit (Value.bool (decide (a = b))))]) := by kernel_rfl
theorem ok_laws_sameTexts : Holds EE (21, con_laws_sameTexts) := by
  refine holds_of EE_ok Go.Proofs.Tryz.func21 con_laws_sameTexts (by kernel_rfl) use_laws_sameTexts all_nil ann_laws_sameTexts (fun x hp hb => ?_)
  obtain ⟨a, b⟩ := x
  have hb_a : BdDV (U := UU) (.one (.sl .str a)) := hb _ (List.mem_cons_self)
  have hl_a : a.length ≤ 9223372036854775807 := Bd.len hb_a
  have hb_b : BdDV (U := UU) (.one (.sl .str b)) := hb _ (List.mem_cons_of_mem _ (List.mem_cons_self))
  have hl_b : b.length ≤ 9223372036854775807 := Bd.len hb_b
  clear hp hb
  rw [vc_laws_sameTexts a b]
  refine if_cond (fun h => Lf_f (ne_len (by simpa using h))) (fun h => ⟨⟨by omega, by omega, (len_eq (a := a) (b := b) (by assumption)), by simp⟩, ?_⟩)
  rintro ⟨i, ⟨⟩⟩ ⟨h1, h2, h3, hR⟩
  simp only
  refine if_cond (fun hc => ?_) (fun hc => ?_)
  · have hc : i < a.length := of_decide_eq_true hc
    rw [wrap_i64 (by omega) (by omega)]
    try simp only [toList_beq]
    have hz : True := trivial
    repeat' (first | refine And.intro (by omega) ?_ | refine if_cond (fun h => ?_) (fun h => ?_))
    all_goals first | exact Lf_f (dr_ne noBytes h1 hc (by omega) hR (by first | grind | (rw [hz]; grind))) | exact ⟨⟨by omega, by omega, h3, dr_eq noBytes h1 hc (by omega) hR (by first | grind | (rw [hz]; grind))⟩, by simp only [μ_laws_sameTexts_4]; omega⟩
  · have hc : a.length ≤ i := by have := of_decide_eq_false hc; omega
    exact Lf_t (dr_end hc (by omega) hR)
theorem getD_send {l : List DTask} (now : Int) {i : Nat} (h : i < l.length) : List.getD (l.map (send1 now)) i zTask = send1 now (List.getD l i zTask) := by
  rw [List.getD_eq_getElem?_getD, List.getD_eq_getElem?_getD, List.getElem?_map, List.getElem?_eq_getElem h]; rfl
theorem backs_pos {k : Int} (h : 1 ≤ k ∧ k ≤ 4) : 0 < backoff 2 k 60 := by
  have : k = 1 ∨ k = 2 ∨ k = 3 ∨ k = 4 := by omega
  rcases this with rfl | rfl | rfl | rfl <;> decide
theorem due_again {now : Int} {t : DTask} (h : taskOk t = true) : due now (send1 now t) = false := by
  obtain ⟨a1, a2, a3, a4, a5, a6, a7⟩ := taskOk_iff.1 h
  unfold send1; split
  · split
    · rfl
    · have := backs_pos (k := t.Tries + 1) (by omega)
      simp only [due, Bool.and_eq_false_iff, decide_eq_false_iff_not]; right; omega
  · rename_i hd; simpa using hd
theorem calls_again {now : Int} {l : List DTask} (h : ∀ t ∈ l, taskOk t = true) : (l.map (send1 now)).flatMap (call1 now) = [] ∧ (l.map (send1 now)).flatMap (fail1 now) = [] := by
  constructor
  · rw [List.flatMap_eq_nil_iff]
    intro t ht
    obtain ⟨t0, h0, rfl⟩ := List.mem_map.1 ht
    simp only [call1, due_again (h t0 h0)]; rfl
  · rw [List.flatMap_eq_nil_iff]
    intro t ht
    obtain ⟨t0, h0, rfl⟩ := List.mem_map.1 ht
    simp only [fail1, due_again (h t0 h0)]; rfl
/-- What a call tells of its task. -/
theorem call_of {now : Int} {l : List DTask} (hok : tasksOk l = true) (h0 : 0 ≤ now) (h1 : now ≤ 1000000000) {c : DCall} (hc : c ∈ l.flatMap (call1 now)) :
    ∃ k : Nat, k < l.length ∧ taskAtKey (l.map (send1 now)) c.Key = k ∧ c.Try = (List.getD (l.map (send1 now)) k zTask).Tries ∧ (List.getD (l.map (send1 now)) k zTask).State = 2 ∧ now < (List.getD (l.map (send1 now)) k zTask).Due ∧ 1 ≤ c.Try ∧ c.Try ≤ 4 := by
  obtain ⟨t, ht, hct⟩ := List.mem_flatMap.1 hc
  obtain ⟨k, hk, rfl⟩ := List.getElem_of_mem ht
  have hg : List.getD l k zTask = l[k] := by rw [List.getD_eq_getElem?_getD, List.getElem?_eq_getElem hk]; rfl
  have hto := (tasksOk_iff.1 hok).2.1 _ ht
  obtain ⟨a1, a2, a3, a4, a5, a6, a7⟩ := taskOk_iff.1 hto
  unfold call1 at hct
  split at hct
  · rename_i hd
    rw [List.mem_singleton.1 hct]
    have hs : send1 now l[k] = ⟨l[k].F, l[k].Undo, 2, l[k].Tries + 1, now + backoff 2 (l[k].Tries + 1) 60, l[k].V⟩ := by rw [send1, if_pos hd.1, if_neg hd.2]
    have hb := backs_pos (k := l[k].Tries + 1) (by omega)
    have hks := key_is (tasksOk_send h0 h1 hok) (i := k) (by simpa using hk)
    rw [getD_send now hk, hg, send1_F] at hks
    refine ⟨k, hk, hks, ?_⟩
    rw [getD_send now hk, hg, hs]
    dsimp only
    omega
  · simp at hct
def con_laws_FnSent : Con UU where
  α := (List Int)
  md := [.ro]
  of := fun | [.one (.sl .byte a0)] => some a0 | _ => none
  ds := fun code => [.one (.sl .byte code)]
  pre := fun code => []
  res := fun code => ⟨[.one (.lit (.bool true))], true, []⟩
  law := by intro l x h; (try simp only at h); split at h <;> cases h; rfl
def I_laws_FnSent_11 (code : (List Int)) : List DTask × List DCall × Int × Unit → Prop := fun (x, cs, i, _) => x = (anyT (newCur code)).map (send1 (intV (anyTC (newCur code)) iLnow)) ∧ cs = (anyT (newCur code)).flatMap (call1 (intV (anyTC (newCur code)) iLnow)) ∧ 0 ≤ i ∧ i ≤ cs.length
def μ_laws_FnSent_11 (code : (List Int)) : List DTask × List DCall × Int × Unit → Nat := fun (x, cs, i, _) => cs.length - i.toNat
def ann_laws_FnSent : con_laws_FnSent.α → Nat → Option (Ann UU) := fun code => annL [(11, annOf [.slot 5 (5, 1024) (.own .eTask true), .slot 6 (6, 1024) (.own .eCall true), .slot 11 (11, 1024) (.lit (.int .i64))] (fun _ => I_laws_FnSent_11 code) (μ_laws_FnSent_11 code))]
def use_laws_FnSent : List (FuncId × Con UU) := [(6, con_laws_big), (17, con_spec_DrawSendDue), (18, con_impl_SendDue), (19, con_spec_SendDue), (20, con_laws_sameCalls), (21, con_laws_sameTexts), (13, con_impl_TasksOk), (22, con_spec_TasksOk), (10, con_laws_sameTasks), (11, con_impl_TaskAt)]
theorem vc_laws_FnSent (code : (List Int)) : goal EE use_laws_FnSent Go.Proofs.Tryz.f5 con_laws_FnSent ann_laws_FnSent code = (let x0 : List DCall := if tasksOk (anyT (newCur code)) = true ∧ (0 : Int) ≤ intV (anyTC (newCur code)) iLnow ∧ intV (anyTC (newCur code)) iLnow ≤ (1000000000 : Int) then List.flatMap (call1 (intV (anyTC (newCur code)) iLnow)) (anyT (newCur code)) else [];
let x1 : List DTask := if tasksOk (anyT (newCur code)) = true ∧ (0 : Int) ≤ intV (anyTC (newCur code)) iLnow ∧ intV (anyTC (newCur code)) iLnow ≤ (1000000000 : Int) then List.map (send1 (intV (anyTC (newCur code)) iLnow)) (anyT (newCur code)) else anyT (newCur code);
let x2 : List ByteArray := if tasksOk (anyT (newCur code)) = true ∧ (0 : Int) ≤ intV (anyTC (newCur code)) iLnow ∧ intV (anyTC (newCur code)) iLnow ≤ (1000000000 : Int) then List.flatMap (fail1 (intV (anyTC (newCur code)) iLnow)) (anyT (newCur code)) else [];
let x3 : Int := intV (anyTC (newCur code)) iLnow;
bif decide (List.length code > (1048576 : Nat)) then Lf [DV.one (Cell.lit (Value.bool true))] [DV.one (Cell.lit (Value.bool true))]
else
  List.length code ≤ (4294967296 : Nat) ∧
    sizeTaskS (anyT (newCur code)) ≤ (4294967296 : Nat) ∧
      sizeTaskS (anyT (newCur code)) ≤ (4294967296 : Nat) ∧
        bif !decide (x0 = x0) then Lf [DV.one (Cell.lit (Value.bool false))] [DV.one (Cell.lit (Value.bool true))]
        else
          bif !decide (x2 = x2) then Lf [DV.one (Cell.lit (Value.bool false))] [DV.one (Cell.lit (Value.bool true))]
          else
            bif (↑(List.length x1) : Int) != (↑(List.length (anyT (newCur code))) : Int) then Lf [DV.one (Cell.lit (Value.bool false))] [DV.one (Cell.lit (Value.bool true))]
            else
              bif !tasksOk (anyT (newCur code)) then bif (↑(List.length x0) : Int) == (0 : Int) then bif (↑(List.length x2) : Int) == (0 : Int) then Lf [DV.one (Cell.lit (Value.bool (decide (x1 = anyT (newCur code)))))] [DV.one (Cell.lit (Value.bool true))] else Lf [DV.one (Cell.lit (Value.bool false))] [DV.one (Cell.lit (Value.bool true))] else Lf [DV.one (Cell.lit (Value.bool false))] [DV.one (Cell.lit (Value.bool true))]
              else
                bif decide (x3 < (0 : Int)) then bif (↑(List.length x0) : Int) == (0 : Int) then bif (↑(List.length x2) : Int) == (0 : Int) then Lf [DV.one (Cell.lit (Value.bool (decide (x1 = anyT (newCur code)))))] [DV.one (Cell.lit (Value.bool true))] else Lf [DV.one (Cell.lit (Value.bool false))] [DV.one (Cell.lit (Value.bool true))] else Lf [DV.one (Cell.lit (Value.bool false))] [DV.one (Cell.lit (Value.bool true))]
                else
                  bif decide (x3 > (1000000000 : Int)) then bif (↑(List.length x0) : Int) == (0 : Int) then bif (↑(List.length x2) : Int) == (0 : Int) then Lf [DV.one (Cell.lit (Value.bool (decide (x1 = anyT (newCur code)))))] [DV.one (Cell.lit (Value.bool true))] else Lf [DV.one (Cell.lit (Value.bool false))] [DV.one (Cell.lit (Value.bool true))] else Lf [DV.one (Cell.lit (Value.bool false))] [DV.one (Cell.lit (Value.bool true))]
                  else
                    I_laws_FnSent_11 code (x1, x0, (0 : Int), PUnit.unit) ∧
                      ∀ (y : List DTask × List DCall × Int × PUnit),
                        let x4 : Int := (List.getD y.2.1 (Int.toNat y.2.2.1) zCall).Try;
                        let x5 : Int := taskAtKey y.1 (List.getD y.2.1 (Int.toNat y.2.2.1) zCall).Key;
                        let x6 : Int := (↑(List.length y.2.1) : Int);
                        let x7 : DTask := List.getD y.1 (Int.toNat x5) zTask;
                        I_laws_FnSent_11 code y → bif decide (y.2.2.1 < x6) then (0 : Int) ≤ y.2.2.1 ∧ Int.toNat y.2.2.1 < List.length y.2.1 ∧ Int.toNat y.2.2.1 < List.length y.2.1 ∧ bif decide (x5 < (0 : Int)) then Lf [DV.one (Cell.lit (Value.bool false))] [DV.one (Cell.lit (Value.bool true))] else (0 : Int) ≤ y.2.2.1 ∧ Int.toNat y.2.2.1 < List.length y.2.1 ∧ Int.toNat y.2.2.1 < List.length y.2.1 ∧ (0 : Int) ≤ x5 ∧ Int.toNat x5 < List.length y.1 ∧ Int.toNat x5 < List.length y.1 ∧ bif x4 != x7.Tries then Lf [DV.one (Cell.lit (Value.bool false))] [DV.one (Cell.lit (Value.bool true))] else (0 : Int) ≤ x5 ∧ Int.toNat x5 < List.length y.1 ∧ Int.toNat x5 < List.length y.1 ∧ bif x7.State != (2 : Int) then Lf [DV.one (Cell.lit (Value.bool false))] [DV.one (Cell.lit (Value.bool true))] else (0 : Int) ≤ x5 ∧ Int.toNat x5 < List.length y.1 ∧ Int.toNat x5 < List.length y.1 ∧ bif decide (x7.Due ≤ x3) then Lf [DV.one (Cell.lit (Value.bool false))] [DV.one (Cell.lit (Value.bool true))] else (0 : Int) ≤ y.2.2.1 ∧ Int.toNat y.2.2.1 < List.length y.2.1 ∧ Int.toNat y.2.2.1 < List.length y.2.1 ∧ bif decide (x4 < (1 : Int)) then Lf [DV.one (Cell.lit (Value.bool false))] [DV.one (Cell.lit (Value.bool true))] else (0 : Int) ≤ y.2.2.1 ∧ Int.toNat y.2.2.1 < List.length y.2.1 ∧ Int.toNat y.2.2.1 < List.length y.2.1 ∧ bif decide (x4 > (4 : Int)) then Lf [DV.one (Cell.lit (Value.bool false))] [DV.one (Cell.lit (Value.bool true))] else I_laws_FnSent_11 code (y.1, y.2.1, IntKind.wrap IntKind.i64 (y.2.2.1 + (1 : Int)), PUnit.unit) ∧ μ_laws_FnSent_11 code (y.1, y.2.1, IntKind.wrap IntKind.i64 (y.2.2.1 + (1 : Int)), PUnit.unit) < μ_laws_FnSent_11 code y else sizeTaskS y.1 ≤ (4294967296 : Nat) ∧ bif (↑(List.length (if tasksOk y.1 = true ∧ (0 : Int) ≤ x3 ∧ x3 ≤ (1000000000 : Int) then List.flatMap (call1 x3) y.1 else [])) : Int) == (0 : Int) then bif (↑(List.length (if tasksOk y.1 = true ∧ (0 : Int) ≤ x3 ∧ x3 ≤ (1000000000 : Int) then List.flatMap (fail1 x3) y.1 else [])) : Int) == (0 : Int) then Lf [DV.one (Cell.lit (Value.bool (tasksOk y.1)))] [DV.one (Cell.lit (Value.bool true))] else Lf [DV.one (Cell.lit (Value.bool false))] [DV.one (Cell.lit (Value.bool true))] else Lf [DV.one (Cell.lit (Value.bool false))] [DV.one (Cell.lit (Value.bool true))]) := by kernel_rfl
theorem ok_laws_FnSent : Holds EE (5, con_laws_FnSent) := by
  refine holds_of EE_ok Go.Proofs.Tryz.func5 con_laws_FnSent (by kernel_rfl) use_laws_FnSent (all_cons ok_laws_big (all_cons ok_spec_DrawSendDue (all_cons ok_impl_SendDue (all_cons ok_spec_SendDue (all_cons ok_laws_sameCalls (all_cons ok_laws_sameTexts (all_cons ok_impl_TasksOk (all_cons ok_spec_TasksOk (all_cons ok_laws_sameTasks (all_cons ok_impl_TaskAt all_nil)))))))))) ann_laws_FnSent (fun (code : (List Int)) hp hb => ?_)
  have hb_code : BdDV (U := UU) (.one (.sl .byte code)) := hb _ (List.mem_cons_self)
  have hl_code : code.length ≤ 9223372036854775807 := Bd.len hb_code
  clear hp hb
  rw [vc_laws_FnSent code]
  dsimp only
  refine if_cond (fun h => Lf_rfl _) (fun h => ?_)
  have hcode := of_decide_eq_false h
  obtain ⟨_, hT, hlen⟩ := anyT_ok (cOk_new (code := code) (by omega))
  generalize hLe : anyT (newCur code) = L at hT hlen ⊢
  generalize hNe : intV (anyTC (newCur code)) iLnow = n
  have hs := taskS_size hT
  refine ⟨by omega, by omega, by omega, ?_⟩
  by_cases hC : tasksOk L = true ∧ 0 ≤ n ∧ n ≤ 1000000000
  · simp only [if_pos hC]
    obtain ⟨c1, c2, c3⟩ := hC
    have hok := tasksOk_send c2 c3 c1
    have hml : (L.map (send1 n)).length = L.length := by simp
    have hs2 := taskS_size (l := L.map (send1 n)) (fun t ht => tFit_of ((tasksOk_iff.1 hok).2.1 t ht))
    rw [hml] at hs2
    have hcl := flat_len (call1 n) (call1_len n) L
    refine if_cond (fun g => absurd g (by simp)) (fun _ => if_cond (fun g => absurd g (by simp)) (fun _ => if_cond (fun g => absurd g (by simp)) (fun _ => if_cond (fun g => absurd g (by rw [c1]; simp)) (fun _ => if_cond (fun g => absurd (of_decide_eq_true g) (by omega)) (fun _ => if_cond (fun g => absurd (of_decide_eq_true g) (by omega)) (fun _ => ⟨⟨by rw [hLe, hNe], by rw [hLe, hNe], by omega, by omega⟩, ?_⟩))))))
    rintro ⟨x, cs, i, ⟨⟩⟩ ⟨q1, q2, q3, q4⟩
    rw [hLe, hNe] at q1 q2
    dsimp only at q3 q4 ⊢
    subst q1 q2
    refine if_cond (fun hd => ?_) (fun hd => ?_)
    · have hd := of_decide_eq_true hd
      have hm := getD_mem (L.flatMap (call1 n)) zCall (i := i) (by omega) hd
      obtain ⟨k, k1, k2, k3, k4, k5, k6, k7⟩ := call_of c1 c2 c3 hm
      have e : (k : Int).toNat = k := by omega
      rw [k3] at k6 k7
      rw [k2, k3, e, k4, wrap_i64 (n := i + 1) (by omega) (by omega)]
      have fin : I_laws_FnSent_11 code (L.map (send1 n), L.flatMap (call1 n), i + 1, PUnit.unit) ∧ μ_laws_FnSent_11 code (L.map (send1 n), L.flatMap (call1 n), i + 1, PUnit.unit) < μ_laws_FnSent_11 code (L.map (send1 n), L.flatMap (call1 n), i, PUnit.unit) :=
        ⟨⟨by rw [hLe, hNe], by rw [hLe, hNe], by omega, by omega⟩, by simp only [μ_laws_FnSent_11]; omega⟩
      repeat' (first | exact fin | refine And.intro (by omega) ?_ | refine if_cond (fun g => absurd (of_decide_eq_true g) (by omega)) (fun _ => ?_) | refine if_cond (fun g => absurd g (by simp)) (fun _ => ?_))
    · have hC2 : tasksOk (L.map (send1 n)) = true ∧ 0 ≤ n ∧ n ≤ 1000000000 := ⟨hok, c2, c3⟩
      obtain ⟨a1, a2⟩ := calls_again (now := n) (l := L) (fun t ht => (tasksOk_iff.1 c1).2.1 t ht)
      simp only [if_pos hC2, a1, a2]
      refine ⟨by omega, if_cond (fun _ => if_cond (fun _ => Lf_b hok) (fun g => absurd g (by decide))) (fun g => absurd g (by decide))⟩
  · simp only [if_neg hC]
    have hB : (bif ((([] : List DCall).length : Int)) == 0 then bif ((([] : List ByteArray).length : Int)) == 0 then Lf [.one (.lit (.bool (decide True)))] [.one (.lit (.bool true))] else Lf [.one (.lit (.bool false))] [.one (.lit (.bool true))] else Lf [.one (.lit (.bool false))] [.one (.lit (.bool true))]) := Lf_b (by simp)
    refine if_cond (fun g => absurd g (by simp)) (fun _ => if_cond (fun g => absurd g (by simp)) (fun _ => if_cond (fun g => absurd g (by simp)) (fun _ => if_cond (fun _ => hB) (fun g1 => if_cond (fun _ => hB) (fun g2 => if_cond (fun _ => hB) (fun g3 => ?_))))))
    exfalso
    have g2 := of_decide_eq_false g2
    have g3 := of_decide_eq_false g3
    exact hC ⟨by simpa using g1, by omega, by omega⟩
end
end AM
