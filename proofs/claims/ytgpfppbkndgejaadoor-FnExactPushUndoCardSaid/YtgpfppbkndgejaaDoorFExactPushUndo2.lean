/- Functions of the program with their contracts: put together by gen/link.py for FnExactPushUndo. -/
import Derived.Test.YtgpfppbkndgejaaDoorAmLib
import Derived.Test.YtgpfppbkndgejaaDoorAmModels
import Derived.Test.YtgpfppbkndgejaaDoorFExactPushUndo
import Derived.Lib.ItoaLen
import Derived.Lib.Join
import Derived.Test.YtgpfppbkndgejaaDoorShelf
namespace AM
open Go
set_option linter.unusedVariables false
set_option linter.unusedSimpArgs false
set_option maxRecDepth 100000
noncomputable section
def con_impl_TaskKey : Con UU where
  α := DFact
  md := [.ro]
  of := fun | [.agg [.lit (.string a0), .sl .eVal a1]] => some ⟨a0, a1⟩ | _ => none
  ds := fun f => [.agg [.lit (.string f.Kind), .sl .eVal f.Fields]]
  pre := fun f => []
  res := fun f => ⟨[.one (.lit (.string (factText f)))], true, []⟩
  law := by intro l x h; (try simp only at h); split at h <;> cases h; rfl
def ann_impl_TaskKey : con_impl_TaskKey.α → Nat → Option (Ann UU) := fun f => annL []
def use_impl_TaskKey : List (FuncId × Con UU) := [(78, con_impl_FactText)]
theorem vc_impl_TaskKey (f : DFact) : goal EE use_impl_TaskKey Go.Proofs.Tryd.f44 con_impl_TaskKey ann_impl_TaskKey f = (Lf [DV.one (Cell.lit (Value.string (factText f)))] [DV.one (Cell.lit (Value.string (factText f)))]) := by kernel_rfl
theorem ok_impl_TaskKey : Holds EE (44, con_impl_TaskKey) := by
  refine holds_of EE_ok Go.Proofs.Tryd.func44 con_impl_TaskKey (by kernel_rfl) rfl use_impl_TaskKey (all_cons ok_impl_FactText all_nil) ann_impl_TaskKey (fun (f : DFact) hp hb => ?_)
  have hb_f : BdDV (U := UU) (.agg [.lit (.string f.Kind), .sl .eVal f.Fields]) := hb _ (List.mem_cons_self)
  have hl_f_Kind : f.Kind.size ≤ 9223372036854775807 := Bd.str (hb_f _ (by simp))
  have hl_f_Fields : f.Fields.length ≤ 9223372036854775807 := Bd.len (U := UU) (τ := .eVal) (xs := f.Fields) (hb_f _ (by simp))
  clear hp hb
  rw [vc_impl_TaskKey f]
  exact Lf_rfl _
theorem size_map_giveUp (l : List DTask) : cntTaskS (giveUp l) = cntTaskS l := by
  unfold cntTaskS giveUp ctS
  rw [List.map_map]
  congr 1
  refine List.map_congr_left fun t _ => ?_
  simp only [Function.comp, giveUp1]
  split <;> rfl
def instNew (now : Int) : DInst := if 0 ≤ now ∧ now ≤ 1000000000 then ⟨⟨[], 1⟩, [], [], [], [], 1, now⟩ else zInst
theorem instNew_ct (n : Int) : ctInst (instNew n) = 0 := by unfold instNew; split <;> rfl
def backN (most : Int) : Nat → Int → Int
  | 0, n => n
  | k + 1, n => if n < most then backN most k (2 * n) else n
def backoff (base k most : Int) : Int := if 1 ≤ base ∧ base ≤ 100000 ∧ 1 ≤ most ∧ most ≤ 100000 ∧ 0 ≤ k then (if backN most k.toNat base < most then backN most k.toNat base else most) else 0
theorem backN_ge {most n : Int} (h : ¬ n < most) : ∀ k : Nat, backN most k n = n
  | 0 => rfl
  | k + 1 => by rw [backN, if_neg h]
theorem backN_step {most n k i : Int} (h0 : 0 ≤ i) (h : i < k) (hn : n < most) : backN most (k - i).toNat n = backN most (k - (i + 1)).toNat (2 * n) := by
  obtain ⟨m, hm⟩ : ∃ m : Nat, (k - i).toNat = m + 1 := ⟨(k - i).toNat - 1, by omega⟩
  have h2 : (k - (i + 1)).toNat = m := by omega
  rw [hm, h2, backN, if_pos hn]
theorem backN_end {most n k i : Int} (h : ¬ (i < k ∧ n < most)) : backN most (k - i).toNat n = n := by
  by_cases hk : i < k
  · exact backN_ge (fun hn => h ⟨hk, hn⟩) _
  · rw [show (k - i).toNat = 0 by omega]; rfl
def hasUndo (l : List DUndo) (key : ByteArray) : Bool := hasKey l key
def canPush (l : List DUndo) (t : DTask) : Bool := undosOk l && factOk t.F && nameOk t.Undo && !hasKey l (factText t.F) && !decide (30 ≤ l.length)
def pushUndo (l : List DUndo) (t : DTask) : List DUndo × Bool := if canPush l t = true then (l ++ [⟨factText t.F, ⟨t.Undo, t.F.Fields⟩⟩], true) else (l, false)
def replied (ok : Bool) (v : DVal) (t : DTask) : DTask := ⟨t.F, t.Undo, if ok = true then 3 else 4, t.Tries, t.Due, v⟩
def replyTask (l : List DTask) (key : ByteArray) (ok : Bool) (v : DVal) : List DTask × Int :=
  if tasksOk l = true ∧ valOk v = true ∧ 0 ≤ taskAtKey l key ∧ (List.getD l (taskAtKey l key).toNat zTask).State ≠ 1 then
    (if (List.getD l (taskAtKey l key).toNat zTask).State = 2 then (l.modify (taskAtKey l key).toNat (replied ok v), 1) else (l, 2)) else (l, 3)
def due (now : Int) (t : DTask) : Bool := isOpen t && decide (t.Due ≤ now)
def send1 (now : Int) (t : DTask) : DTask := if due now t = true then (if t.Tries = 4 then ⟨t.F, t.Undo, 4, t.Tries, t.Due, t.V⟩ else ⟨t.F, t.Undo, 2, t.Tries + 1, now + backoff 2 (t.Tries + 1) 60, t.V⟩) else t
def call1 (now : Int) (t : DTask) : List DCall := if due now t = true ∧ t.Tries ≠ 4 then [⟨factText t.F, t.F, t.Tries + 1⟩] else []
def fail1 (now : Int) (t : DTask) : List ByteArray := if due now t = true ∧ t.Tries = 4 then [factText t.F] else []
theorem undosOk_len {l : List DUndo} (h : undosOk l = true) : l.length ≤ 30 := by
  simp only [undosOk, Bool.and_eq_true, decide_eq_true_eq] at h; exact h.1
theorem tasksOk_len' {l : List DTask} (h : tasksOk l = true) : l.length ≤ 30 := by
  simp only [tasksOk, Bool.and_eq_true, decide_eq_true_eq] at h; exact h.1
theorem tasksOk_at {l : List DTask} (h : tasksOk l = true) {k : Nat} (hk : k < l.length) : taskOk (List.getD l k zTask) = true := by
  simp only [tasksOk, Bool.and_eq_true] at h
  have := allI_iff.1 h.2 k hk
  simp only [taskAt, Bool.and_eq_true] at this
  exact this.1
theorem taskOk_st {t : DTask} (h : taskOk t = true) : (1 ≤ t.State ∧ t.State ≤ 4) ∧ (0 ≤ t.Tries ∧ t.Tries ≤ 4) ∧ (0 ≤ t.Due ∧ t.Due ≤ 1000001000) ∧ ((t.State = 1 → t.Tries = 0) ∧ (t.State = 2 → t.Tries ≠ 0)) ∧ t.F.Fields.length ≤ 5 := by
  simp only [taskOk, Bool.and_eq_true, decide_eq_true_eq] at h
  obtain ⟨⟨⟨⟨⟨⟨h1, h2⟩, h3⟩, h4⟩, h5⟩, h6⟩, h7⟩ := h
  refine ⟨h3, h4, h5, h7, ?_⟩
  simp only [factOk, Bool.and_eq_true, decide_eq_true_eq] at h1
  first | exact h1.1.2 | exact h1.2.1 | omega
theorem taskAtKey_lt {l : List DTask} {key : ByteArray} (h : 0 ≤ taskAtKey l key) : (taskAtKey l key).toNat < l.length := by
  unfold taskAtKey at *
  rcases idxI_cases l.length (fun k => decide (factText (List.getD l k zTask).F = key)) with ⟨h1, h2⟩ | ⟨i, h1, h2, h3, h4⟩
  · rw [h1] at h; omega
  · rw [h2]; omega
theorem reply_none {l : List DTask} {key : ByteArray} {ok : Bool} {v : DVal} (h : ¬ (tasksOk l = true ∧ valOk v = true ∧ 0 ≤ taskAtKey l key ∧ (List.getD l (taskAtKey l key).toNat zTask).State ≠ 1)) : replyTask l key ok v = (l, 3) := if_neg h
theorem reply_old {l : List DTask} {key : ByteArray} {ok : Bool} {v : DVal} (h : tasksOk l = true ∧ valOk v = true ∧ 0 ≤ taskAtKey l key ∧ (List.getD l (taskAtKey l key).toNat zTask).State ≠ 1) (h2 : (List.getD l (taskAtKey l key).toNat zTask).State ≠ 2) : replyTask l key ok v = (l, 2) := by rw [replyTask, if_pos h, if_neg h2]
theorem reply_new {l : List DTask} {key : ByteArray} {ok : Bool} {v : DVal} (h : tasksOk l = true ∧ valOk v = true ∧ 0 ≤ taskAtKey l key ∧ (List.getD l (taskAtKey l key).toNat zTask).State ≠ 1) (h2 : (List.getD l (taskAtKey l key).toNat zTask).State = 2) : replyTask l key ok v = (l.modify (taskAtKey l key).toNat (replied ok v), 1) := by rw [replyTask, if_pos h, if_pos h2]
theorem reply_t (l : List DTask) (k : Nat) (v : DVal) : (((l.modify k fun x => ⟨x.F, x.Undo, 4, x.Tries, x.Due, x.V⟩).modify k fun x => ⟨x.F, x.Undo, 3, x.Tries, x.Due, x.V⟩).modify k fun x => ⟨x.F, x.Undo, x.State, x.Tries, x.Due, v⟩) = l.modify k (replied true v) := by
  rw [modify_modify, modify_modify]; rfl
theorem reply_f (l : List DTask) (k : Nat) (v : DVal) : ((l.modify k fun x => ⟨x.F, x.Undo, 4, x.Tries, x.Due, x.V⟩).modify k fun x => ⟨x.F, x.Undo, x.State, x.Tries, x.Due, v⟩) = l.modify k (replied false v) := by
  rw [modify_modify]; rfl
theorem Lf3 {a a' : List DTask} {b b' : List DCall} {c c' : List ByteArray} (h1 : a = a') (h2 : b = b') (h3 : c = c') : Lf [.one (.sl .eTask a), .one (.sl .eCall b), .one (.sl .str c)] [.one (.sl .eTask a'), .one (.sl .eCall b'), .one (.sl .str c')] := by
  subst h1 h2 h3; exact Lf_rfl _
theorem Lf_row {a a' : List DTask} {n : Int} (h : a = a') : Lf [.one (.sl .eTask a), .one (.lit (.int .i64 n))] [.one (.sl .eTask a'), .one (.lit (.int .i64 n))] := by
  subst h; exact Lf_rfl _
theorem asD_row {a a' : List DTask} (h : a = a') : asD ([DV.one (Cell.sl Cd.eTask a)] : List (DV UU)) = asD ([DV.one (Cell.sl Cd.eTask a')] : List (DV UU)) := by rw [h]
theorem flat_step {α β : Type} (f : α → List β) (l : List α) (z : α) {i : Int} (h0 : 0 ≤ i) (h : i < l.length) : (l.take i.toNat).flatMap f ++ f (List.getD l i.toNat z) = (l.take (i + 1).toNat).flatMap f := by
  rw [← take_step l z h0 h, List.flatMap_append]; simp
theorem flat_len {α β : Type} (f : α → List β) (hf : ∀ x, (f x).length ≤ 1) : ∀ l : List α, (l.flatMap f).length ≤ l.length
  | [] => by simp
  | x :: l => by
    rw [List.flatMap_cons, List.length_append]
    have h1 := flat_len f hf l
    have h2 := hf x
    simp only [List.length_cons]; omega
theorem call1_len (now : Int) (t : DTask) : (call1 now t).length ≤ 1 := by unfold call1; split <;> simp
theorem fail1_len (now : Int) (t : DTask) : (fail1 now t).length ≤ 1 := by unfold fail1; split <;> simp
theorem backN_pos (most : Int) : ∀ (k : Nat) (n : Int), 0 ≤ n → 0 ≤ backN most k n
  | 0, n, h => h
  | k + 1, n, h => by rw [backN]; split; exact backN_pos most k (2 * n) (by omega); exact h
theorem backoff_le (k : Int) : 0 ≤ backoff 2 k 60 ∧ backoff 2 k 60 ≤ 60 := by
  have := backN_pos 60 k.toNat 2 (by omega)
  unfold backoff
  split
  · split <;> omega
  · omega
def con_spec_PushUndo : Con UU where
  α := (List DUndo) × DTask
  md := [.ro, .ro]
  of := fun | [.one (.sl .eUndo a0), .agg [.lit (.string a1), .sl .eVal a2, .lit (.string a3), .lit (.int .i64 a4), .lit (.int .i64 a5), .lit (.int .i64 a6), .lit (.int .i64 a7), .lit (.int .i64 a8), .lit (.string a9)]] => some (a0, ⟨⟨a1, a2⟩, a3, a4, a5, a6, ⟨a7, a8, a9⟩⟩) | _ => none
  ds := fun (l, t) => [.one (.sl .eUndo l), .agg [.lit (.string t.F.Kind), .sl .eVal t.F.Fields, .lit (.string t.Undo), .lit (.int .i64 t.State), .lit (.int .i64 t.Tries), .lit (.int .i64 t.Due), .lit (.int .i64 t.V.K), .lit (.int .i64 t.V.N), .lit (.string t.V.S)]]
  pre := fun (l, t) => [sizeUndoS l ≤ 4294967296, t.F.Fields.length ≤ 4294967296]
  res := fun (l, t) => ⟨[.one (.sl .eUndo ((pushUndo l t).1)), .one (.lit (.bool ((pushUndo l t).2)))], true, []⟩
  law := by intro l x h; (try simp only at h); split at h <;> cases h; rfl
def I_spec_PushUndo_6 (l : (List DUndo)) (t : DTask) : List DUndo × Int × (ByteArray × List DVal × ByteArray × Int × Int × Int × Int × Int × ByteArray × Unit) × Unit → Prop := fun (row, i, fb, _) => row = l ∧ fb = (t.F.Kind, t.F.Fields, t.Undo, t.State, t.Tries, t.Due, t.V.K, t.V.N, t.V.S, ()) ∧ 0 ≤ i ∧ i ≤ l.length ∧ ∀ j : Nat, (j : Int) < i → decide ((List.getD l j zUndo).Key = factText t.F) = false
def μ_spec_PushUndo_6 (l : (List DUndo)) (t : DTask) : List DUndo × Int × (ByteArray × List DVal × ByteArray × Int × Int × Int × Int × Int × ByteArray × Unit) × Unit → Nat := fun (row, i, fb, _) => l.length - i.toNat
def ann_spec_PushUndo : con_spec_PushUndo.α → Nat → Option (Ann UU) := fun (l, t) => annL [(6, annOf [.slot 6 (6, 1024) (.own .eUndo true), .slot 8 (8, 1024) (.lit (.int .i64)), .box 3 (3, 1024) [.lit .str, .shr .eVal, .lit .str, .lit (.int .i64), .lit (.int .i64), .lit (.int .i64), .lit (.int .i64), .lit (.int .i64), .lit .str]] (fun _ => I_spec_PushUndo_6 l t) (μ_spec_PushUndo_6 l t))]
def use_spec_PushUndo : List (FuncId × Con UU) := [(36, con_spec_l19Copy), (37, con_spec_UndosOk), (38, con_spec_FactOk), (39, con_spec_NameOk), (40, con_spec_TaskKey)]
theorem vc_spec_PushUndo (l : (List DUndo)) (t : DTask) : goal EE use_spec_PushUndo Go.Proofs.Tryd.f8 con_spec_PushUndo ann_spec_PushUndo (l, t) = (let x0 : Int := (↑(List.length l) : Int);
sizeUndoS l ≤ (4294967296 : Nat) ∧
  bif !undosOk l then Lf [DV.one (Cell.sl Cd.eUndo l), DV.one (Cell.lit (Value.bool false))] [DV.one (Cell.sl Cd.eUndo (pushUndo l t).1), DV.one (Cell.lit (Value.bool (pushUndo l t).2))]
  else
    bif !factOk t.F then Lf [DV.one (Cell.sl Cd.eUndo l), DV.one (Cell.lit (Value.bool false))] [DV.one (Cell.sl Cd.eUndo (pushUndo l t).1), DV.one (Cell.lit (Value.bool (pushUndo l t).2))]
    else
      bif !nameOk t.Undo then Lf [DV.one (Cell.sl Cd.eUndo l), DV.one (Cell.lit (Value.bool false))] [DV.one (Cell.sl Cd.eUndo (pushUndo l t).1), DV.one (Cell.lit (Value.bool (pushUndo l t).2))]
      else
        bif decide (x0 ≥ (30 : Int)) then Lf [DV.one (Cell.sl Cd.eUndo l), DV.one (Cell.lit (Value.bool false))] [DV.one (Cell.sl Cd.eUndo (pushUndo l t).1), DV.one (Cell.lit (Value.bool (pushUndo l t).2))]
        else
          I_spec_PushUndo_6 l t (l, (0 : Int), (t.F.Kind, t.F.Fields, t.Undo, t.State, t.Tries, t.Due, t.V.K, t.V.N, t.V.S, PUnit.unit), PUnit.unit) ∧
            ∀ (y : List DUndo × Int × (ByteArray × List DVal × ByteArray × Int × Int × Int × Int × Int × ByteArray × PUnit) × PUnit),
              let x1 : List DUndo := [{ Key := factText t.F, F := { Kind := y.2.2.1.2.2.1, Fields := [] ++ y.2.2.1.2.1 : DFact } : DUndo }];
              let x2 : Nat := Int.toNat y.2.1;
              I_spec_PushUndo_6 l t y → bif decide (y.2.1 < x0) then (0 : Int) ≤ y.2.1 ∧ x2 < List.length l ∧ bif ByteArray.toList (List.getD l x2 zUndo).Key == ByteArray.toList (factText t.F) then Lf [DV.one (Cell.sl Cd.eUndo y.1), DV.one (Cell.lit (Value.bool false))] [DV.one (Cell.sl Cd.eUndo (pushUndo l t).1), DV.one (Cell.lit (Value.bool (pushUndo l t).2))] else I_spec_PushUndo_6 l t (y.1, IntKind.wrap IntKind.i64 (y.2.1 + (1 : Int)), (y.2.2.1.1, y.2.2.1.2.1, y.2.2.1.2.2.1, y.2.2.1.2.2.2.1, y.2.2.1.2.2.2.2.1, y.2.2.1.2.2.2.2.2.1, y.2.2.1.2.2.2.2.2.2.1, y.2.2.1.2.2.2.2.2.2.2.1, y.2.2.1.2.2.2.2.2.2.2.2.1, PUnit.unit), PUnit.unit) ∧ μ_spec_PushUndo_6 l t (y.1, IntKind.wrap IntKind.i64 (y.2.1 + (1 : Int)), (y.2.2.1.1, y.2.2.1.2.1, y.2.2.1.2.2.1, y.2.2.1.2.2.2.1, y.2.2.1.2.2.2.2.1, y.2.2.1.2.2.2.2.2.1, y.2.2.1.2.2.2.2.2.2.1, y.2.2.1.2.2.2.2.2.2.2.1, y.2.2.1.2.2.2.2.2.2.2.2.1, PUnit.unit), PUnit.unit) < μ_spec_PushUndo_6 l t y else (0 : Nat) + List.length y.2.2.1.2.1 ≤ (4294967296 : Nat) ∧ List.length y.1 + List.length x1 ≤ (4294967296 : Nat) ∧ Lf [DV.one (Cell.sl Cd.eUndo (y.1 ++ x1)), DV.one (Cell.lit (Value.bool true))] [DV.one (Cell.sl Cd.eUndo (pushUndo l t).1), DV.one (Cell.lit (Value.bool (pushUndo l t).2))]) := by kernel_rfl
theorem ok_spec_PushUndo : Holds EE (8, con_spec_PushUndo) := by
  refine holds_of EE_ok Go.Proofs.Tryd.func8 con_spec_PushUndo (by kernel_rfl) rfl use_spec_PushUndo (all_cons ok_spec_l19Copy (all_cons ok_spec_UndosOk (all_cons ok_spec_FactOk (all_cons ok_spec_NameOk (all_cons ok_spec_TaskKey all_nil))))) ann_spec_PushUndo (fun x hp hb => ?_)
  obtain ⟨l, t⟩ := x
  have hb_l : BdDV (U := UU) (.one (.sl .eUndo l)) := hb _ (List.mem_cons_self)
  have hl_l : l.length ≤ 9223372036854775807 := Bd.len hb_l
  have hb_t : BdDV (U := UU) (.agg [.lit (.string t.F.Kind), .sl .eVal t.F.Fields, .lit (.string t.Undo), .lit (.int .i64 t.State), .lit (.int .i64 t.Tries), .lit (.int .i64 t.Due), .lit (.int .i64 t.V.K), .lit (.int .i64 t.V.N), .lit (.string t.V.S)]) := hb _ (List.mem_cons_of_mem _ (List.mem_cons_self))
  have hl_t_F_Kind : t.F.Kind.size ≤ 9223372036854775807 := Bd.str (hb_t _ (by simp))
  have hl_t_F_Fields : t.F.Fields.length ≤ 9223372036854775807 := Bd.len (U := UU) (τ := .eVal) (xs := t.F.Fields) (hb_t _ (by simp))
  have hl_t_Undo : t.Undo.size ≤ 9223372036854775807 := Bd.str (hb_t _ (by simp))
  have hl_t_V_S : t.V.S.size ≤ 9223372036854775807 := Bd.str (hb_t _ (by simp))
  have hp0 : sizeUndoS l ≤ 4294967296 := hp _ (List.mem_cons_self)
  have hp1 : t.F.Fields.length ≤ 4294967296 := hp _ (List.mem_cons_of_mem _ (List.mem_cons_self))
  clear hp hb
  rw [vc_spec_PushUndo l t]
  dsimp only
  have hN : canPush l t = false → Lf [.one (.sl .eUndo l), .one (.lit (.bool false))] [.one (.sl .eUndo (pushUndo l t).1), .one (.lit (.bool (pushUndo l t).2))] := fun h => by
    simp only [pushUndo, h]; exact Lf_rfl _
  have hlen : undosOk l = true → l.length ≤ 30 := undosOk_len
  refine ⟨hp0, if_cond (fun h1 => hN ?_) (fun h1 => if_cond (fun h2 => hN ?_) (fun h2 => if_cond (fun h3 => hN ?_) (fun h3 => if_cond (fun h4 => hN ?_) (fun h4 => ⟨⟨rfl, rfl, by omega, by omega, by intro j hj; omega⟩, ?_⟩))))⟩
  · simp only [canPush]; grind
  · simp only [canPush]; grind
  · simp only [canPush]; grind
  · simp only [canPush]; grind
  rintro ⟨row, i, fb, ⟨⟩⟩ ⟨rfl, rfl, h5, h6, hR⟩
  have h4 := of_decide_eq_false h4
  simp only
  refine if_cond (fun hc => ?_) (fun hc => ?_)
  · have hc : i < row.length := of_decide_eq_true hc
    simp (disch := omega) only [wrap_i64, toList_beq]
    refine ⟨by omega, by omega, if_cond (fun h => ?_) (fun h => ⟨⟨rfl, rfl, by omega, by omega, upto_no (p := fun j => decide ((List.getD row j zUndo).Key = factText t.F)) h5 hR h⟩, by simp only [μ_spec_PushUndo_6]; omega⟩)⟩
    have ha : hasKey row (factText t.F) = true := anyI_true (j := i.toNat) (by omega) h
    exact hN (by simp only [canPush, ha]; simp)
  · have hc : ¬ i < row.length := of_decide_eq_false hc
    have ha : hasKey row (factText t.F) = false := anyI_false fun j hj => hR j (by omega)
    have hy : canPush row t = true := by simp only [canPush, ha]; grind
    refine ⟨by simpa using hp1, by simp; omega, ?_⟩
    simp only [pushUndo, hy, if_true, List.nil_append]; exact Lf_rfl _
def con_impl_PushUndo : Con UU where
  α := (List DUndo) × DTask
  md := [.ro, .ro]
  of := fun | [.one (.sl .eUndo a0), .agg [.lit (.string a1), .sl .eVal a2, .lit (.string a3), .lit (.int .i64 a4), .lit (.int .i64 a5), .lit (.int .i64 a6), .lit (.int .i64 a7), .lit (.int .i64 a8), .lit (.string a9)]] => some (a0, ⟨⟨a1, a2⟩, a3, a4, a5, a6, ⟨a7, a8, a9⟩⟩) | _ => none
  ds := fun (l, t) => [.one (.sl .eUndo l), .agg [.lit (.string t.F.Kind), .sl .eVal t.F.Fields, .lit (.string t.Undo), .lit (.int .i64 t.State), .lit (.int .i64 t.Tries), .lit (.int .i64 t.Due), .lit (.int .i64 t.V.K), .lit (.int .i64 t.V.N), .lit (.string t.V.S)]]
  pre := fun (l, t) => [sizeUndoS l ≤ 4294967296, t.F.Fields.length ≤ 4294967296]
  res := fun (l, t) => ⟨[.one (.sl .eUndo ((pushUndo l t).1)), .one (.lit (.bool ((pushUndo l t).2)))], true, []⟩
  law := by intro l x h; (try simp only at h); split at h <;> cases h; rfl
def ann_impl_PushUndo : con_impl_PushUndo.α → Nat → Option (Ann UU) := fun (l, t) => annL []
def use_impl_PushUndo : List (FuncId × Con UU) := [(43, con_impl_copyUndos), (44, con_impl_TaskKey), (45, con_impl_UndosOk), (46, con_impl_FactOk), (47, con_impl_NameOk), (48, con_impl_hasKey), (49, con_slices_CloneVal)]
theorem vc_impl_PushUndo (l : (List DUndo)) (t : DTask) : goal EE use_impl_PushUndo Go.Proofs.Tryd.f11 con_impl_PushUndo ann_impl_PushUndo (l, t) = (let x0 : List DUndo := [{ Key := factText t.F, F := { Kind := t.Undo, Fields := t.F.Fields : DFact } : DUndo }];
sizeUndoS l ≤ (4294967296 : Nat) ∧ bif !undosOk l then Lf [DV.one (Cell.sl Cd.eUndo l), DV.one (Cell.lit (Value.bool false))] [DV.one (Cell.sl Cd.eUndo (pushUndo l t).1), DV.one (Cell.lit (Value.bool (pushUndo l t).2))] else bif !factOk t.F then Lf [DV.one (Cell.sl Cd.eUndo l), DV.one (Cell.lit (Value.bool false))] [DV.one (Cell.sl Cd.eUndo (pushUndo l t).1), DV.one (Cell.lit (Value.bool (pushUndo l t).2))] else bif !nameOk t.Undo then Lf [DV.one (Cell.sl Cd.eUndo l), DV.one (Cell.lit (Value.bool false))] [DV.one (Cell.sl Cd.eUndo (pushUndo l t).1), DV.one (Cell.lit (Value.bool (pushUndo l t).2))] else bif hasKey l (factText t.F) then Lf [DV.one (Cell.sl Cd.eUndo l), DV.one (Cell.lit (Value.bool false))] [DV.one (Cell.sl Cd.eUndo (pushUndo l t).1), DV.one (Cell.lit (Value.bool (pushUndo l t).2))] else bif (↑(List.length l) : Int) == (30 : Int) then Lf [DV.one (Cell.sl Cd.eUndo l), DV.one (Cell.lit (Value.bool false))] [DV.one (Cell.sl Cd.eUndo (pushUndo l t).1), DV.one (Cell.lit (Value.bool (pushUndo l t).2))] else List.length t.F.Fields ≤ (4294967296 : Nat) ∧ List.length l + List.length x0 ≤ (4294967296 : Nat) ∧ Lf [DV.one (Cell.sl Cd.eUndo (l ++ x0)), DV.one (Cell.lit (Value.bool true))] [DV.one (Cell.sl Cd.eUndo (pushUndo l t).1), DV.one (Cell.lit (Value.bool (pushUndo l t).2))]) := by kernel_rfl
theorem ok_impl_PushUndo : Holds EE (11, con_impl_PushUndo) := by
  refine holds_of EE_ok Go.Proofs.Tryd.func11 con_impl_PushUndo (by kernel_rfl) rfl use_impl_PushUndo (all_cons ok_impl_copyUndos (all_cons ok_impl_TaskKey (all_cons ok_impl_UndosOk (all_cons ok_impl_FactOk (all_cons ok_impl_NameOk (all_cons ok_impl_hasKey (all_cons ok_slices_CloneVal all_nil))))))) ann_impl_PushUndo (fun x hp hb => ?_)
  obtain ⟨l, t⟩ := x
  have hb_l : BdDV (U := UU) (.one (.sl .eUndo l)) := hb _ (List.mem_cons_self)
  have hl_l : l.length ≤ 9223372036854775807 := Bd.len hb_l
  have hb_t : BdDV (U := UU) (.agg [.lit (.string t.F.Kind), .sl .eVal t.F.Fields, .lit (.string t.Undo), .lit (.int .i64 t.State), .lit (.int .i64 t.Tries), .lit (.int .i64 t.Due), .lit (.int .i64 t.V.K), .lit (.int .i64 t.V.N), .lit (.string t.V.S)]) := hb _ (List.mem_cons_of_mem _ (List.mem_cons_self))
  have hl_t_F_Kind : t.F.Kind.size ≤ 9223372036854775807 := Bd.str (hb_t _ (by simp))
  have hl_t_F_Fields : t.F.Fields.length ≤ 9223372036854775807 := Bd.len (U := UU) (τ := .eVal) (xs := t.F.Fields) (hb_t _ (by simp))
  have hl_t_Undo : t.Undo.size ≤ 9223372036854775807 := Bd.str (hb_t _ (by simp))
  have hl_t_V_S : t.V.S.size ≤ 9223372036854775807 := Bd.str (hb_t _ (by simp))
  have hp0 : sizeUndoS l ≤ 4294967296 := hp _ (List.mem_cons_self)
  have hp1 : t.F.Fields.length ≤ 4294967296 := hp _ (List.mem_cons_of_mem _ (List.mem_cons_self))
  clear hp hb
  rw [vc_impl_PushUndo l t]
  dsimp only
  have hN : canPush l t = false → Lf [.one (.sl .eUndo l), .one (.lit (.bool false))] [.one (.sl .eUndo (pushUndo l t).1), .one (.lit (.bool (pushUndo l t).2))] := fun h => by
    simp only [pushUndo, h]; exact Lf_rfl _
  have hlen : undosOk l = true → l.length ≤ 30 := undosOk_len
  refine ⟨hp0, if_cond (fun h1 => hN ?_) (fun h1 => if_cond (fun h2 => hN ?_) (fun h2 => if_cond (fun h3 => hN ?_) (fun h3 => if_cond (fun h4 => hN ?_) (fun h4 => if_cond (fun h5 => hN ?_) (fun h5 => ?_)))))⟩
  · simp only [canPush]; grind
  · simp only [canPush]; grind
  · simp only [canPush]; grind
  · simp only [canPush]; grind
  · simp only [canPush]; simp at h5; grind
  have hl := hlen (by simpa using h1)
  have h5 : l.length ≠ 30 := by simp at h5; omega
  have hy : canPush l t = true := by simp only [canPush]; grind
  refine ⟨hp1, by simp; omega, ?_⟩
  simp only [pushUndo, hy, if_true]; exact Lf_rfl _
theorem ctS_flat {α β : Type} (c' : β → Nat) (c : α → Nat) (f : α → List β) (h : ∀ x, ctS c' (f x) ≤ c x) : ∀ l : List α, ctS c' (l.flatMap f) ≤ ctS c l
  | [] => by simp [ctS]
  | x :: l => by
    rw [List.flatMap_cons, ctS_append, ctS_cons]
    have h1 := h x
    have h2 := ctS_flat c' c f h l
    omega
theorem ctS_modify {α : Type} (c : α → Nat) (f : α → α) (h : ∀ x, c (f x) = c x) : ∀ (l : List α) (i : Nat), ctS c (l.modify i f) = ctS c l
  | [], i => by simp
  | x :: l, 0 => by rw [List.modify_zero_cons, ctS_cons, ctS_cons, h]
  | x :: l, i + 1 => by rw [List.modify_succ_cons, ctS_cons, ctS_cons, ctS_modify c f h l i]
theorem ctS_mapc {α : Type} (c : α → Nat) (f : α → α) (h : ∀ x, c (f x) = c x) : ∀ l : List α, ctS c (l.map f) = ctS c l
  | [] => rfl
  | x :: l => by rw [List.map_cons, ctS_cons, ctS_cons, h, ctS_mapc c f h l]
theorem pushUndo_ct (l : List DUndo) (t : DTask) : cntUndoS (pushUndo l t).1 ≤ cntUndoS l + 20 * sizeTask t + 20 := by
  unfold pushUndo
  split
  · show ctS cntUndo (l ++ [⟨factText t.F, ⟨t.Undo, t.F.Fields⟩⟩]) ≤ _
    rw [ctS_append]
    have h1 := cntValS_le t.F.Fields
    have h2 : ctS cntUndo [⟨factText t.F, ⟨t.Undo, t.F.Fields⟩⟩] = cntUndo ⟨factText t.F, ⟨t.Undo, t.F.Fields⟩⟩ := by simp [ctS]
    have h3 : cntUndoS l = ctS cntUndo l := rfl
    rw [h2, h3]
    simp only [cntUndo, sizeTask, sizeFact] at *
    omega
  · show cntUndoS l ≤ _; omega
theorem replyTask_ct (l : List DTask) (key : ByteArray) (ok : Bool) (v : DVal) : cntTaskS (replyTask l key ok v).1 = cntTaskS l := by
  unfold replyTask
  split
  · split
    · exact ctS_modify cntTask (replied ok v) (fun _ => rfl) l _
    · rfl
  · rfl
theorem send1_ct (now : Int) (l : List DTask) : cntTaskS (l.map (send1 now)) = cntTaskS l := ctS_mapc cntTask (send1 now) (fun x => by unfold send1; split; split; rfl; rfl; rfl) l
theorem call1_ct (now : Int) (l : List DTask) : cntCallS (l.flatMap (call1 now)) ≤ cntTaskS l := ctS_flat cntCall cntTask (call1 now) (fun x => by
  unfold call1
  split
  · have : ctS cntCall [⟨factText x.F, x.F, x.Tries + 1⟩] = cntCall ⟨factText x.F, x.F, x.Tries + 1⟩ := by simp [ctS]
    rw [this]; simp only [cntCall, cntTask]; omega
  · simp [ctS]) l
theorem fail1_ct (now : Int) (l : List DTask) : cntStringS (l.flatMap (fail1 now)) ≤ cntTaskS l := ctS_flat (fun _ => 1) cntTask (fail1 now) (fun x => by
  unfold fail1
  split
  · have : ctS (fun _ : ByteArray => 1) [factText x.F] = 1 := by simp [ctS]
    rw [this]; simp only [cntTask]; omega
  · simp [ctS]) l
def con_laws_FnExactPushUndo : Con UU where
  α := (List DUndo) × DTask
  md := [.ro, .ro]
  of := fun | [.one (.sl .lUndo a0), .agg [.lit (.string a1), .sl .lVal a2, .lit (.string a3), .lit (.int .i64 a4), .lit (.int .i64 a5), .lit (.int .i64 a6), .lit (.int .i64 a7), .lit (.int .i64 a8), .lit (.string a9)]] => some (a0, ⟨⟨a1, a2⟩, a3, a4, a5, a6, ⟨a7, a8, a9⟩⟩) | _ => none
  ds := fun (aL, aT) => [.one (.sl .lUndo aL), .agg [.lit (.string aT.F.Kind), .sl .lVal aT.F.Fields, .lit (.string aT.Undo), .lit (.int .i64 aT.State), .lit (.int .i64 aT.Tries), .lit (.int .i64 aT.Due), .lit (.int .i64 aT.V.K), .lit (.int .i64 aT.V.N), .lit (.string aT.V.S)]]
  pre := fun (aL, aT) => []
  res := fun (aL, aT) => ⟨[.one (.lit (.bool true))], true, []⟩
  law := by intro l x h; (try simp only at h); split at h <;> cases h; rfl
def ann_laws_FnExactPushUndo : con_laws_FnExactPushUndo.α → Nat → Option (Ann UU) := fun (aL, aT) => annL []
def use_laws_FnExactPushUndo : List (FuncId × Con UU) := [(6, con_laws_szUndoS), (7, con_laws_szTask), (9, con_laws_toUndoS), (10, con_laws_toTask), (8, con_spec_PushUndo), (11, con_impl_PushUndo), (12, con_laws_eqUndoS), (13, con_laws_eqTask), (14, con_laws_markUndoS), (15, con_laws_markTask), (16, con_laws_heldUndoS)]
theorem vc_laws_FnExactPushUndo (aL : (List DUndo)) (aT : DTask) : goal EE use_laws_FnExactPushUndo Go.Proofs.Tryd.f3 con_laws_FnExactPushUndo ann_laws_FnExactPushUndo (aL, aT) = (let x0 : Bool := decide ((if markUndoS (markUndoS (pushUndo { τ := Cd.eUndo, xs := aL : Arr UU }.xs { F := { Kind := aT.F.Kind, Fields := { τ := Cd.eVal, xs := aT.F.Fields : Arr UU }.xs : DFact }, Undo := aT.Undo, State := aT.State, Tries := aT.Tries, Due := aT.Due, V := { K := aT.V.K, N := aT.V.N, S := aT.V.S : DVal } : DTask }).1 (1 : Int)) (1 : Int) = markUndoS (pushUndo { τ := Cd.eUndo, xs := aL : Arr UU }.xs { F := { Kind := aT.F.Kind, Fields := { τ := Cd.eVal, xs := aT.F.Fields : Arr UU }.xs : DFact }, Undo := aT.Undo, State := aT.State, Tries := aT.Tries, Due := aT.Due, V := { K := aT.V.K, N := aT.V.N, S := aT.V.S : DVal } : DTask }).1 (1 : Int) then (1 : Int) + (↑(cntUndoS (markUndoS (pushUndo { τ := Cd.eUndo, xs := aL : Arr UU }.xs { F := { Kind := aT.F.Kind, Fields := { τ := Cd.eVal, xs := aT.F.Fields : Arr UU }.xs : DFact }, Undo := aT.Undo, State := aT.State, Tries := aT.Tries, Due := aT.Due, V := { K := aT.V.K, N := aT.V.N, S := aT.V.S : DVal } : DTask }).1 (1 : Int))) : Int) else (-1 : Int)) < (0 : Int));
let x1 : Bool := (if markUndoS (markUndoS (pushUndo { τ := Cd.eUndo, xs := aL : Arr UU }.xs { F := { Kind := aT.F.Kind, Fields := { τ := Cd.eVal, xs := aT.F.Fields : Arr UU }.xs : DFact }, Undo := aT.Undo, State := aT.State, Tries := aT.Tries, Due := aT.Due, V := { K := aT.V.K, N := aT.V.N, S := aT.V.S : DVal } : DTask }).1 (1 : Int)) (1 : Int) = markUndoS (pushUndo { τ := Cd.eUndo, xs := aL : Arr UU }.xs { F := { Kind := aT.F.Kind, Fields := { τ := Cd.eVal, xs := aT.F.Fields : Arr UU }.xs : DFact }, Undo := aT.Undo, State := aT.State, Tries := aT.Tries, Due := aT.Due, V := { K := aT.V.K, N := aT.V.N, S := aT.V.S : DVal } : DTask }).1 (1 : Int) then (1 : Int) + (↑(cntUndoS (markUndoS (pushUndo { τ := Cd.eUndo, xs := aL : Arr UU }.xs { F := { Kind := aT.F.Kind, Fields := { τ := Cd.eVal, xs := aT.F.Fields : Arr UU }.xs : DFact }, Undo := aT.Undo, State := aT.State, Tries := aT.Tries, Due := aT.Due, V := { K := aT.V.K, N := aT.V.N, S := aT.V.S : DVal } : DTask }).1 (1 : Int))) : Int) else (-1 : Int)) != (1 : Int) + (↑(cntUndoS (pushUndo { τ := Cd.eUndo, xs := aL : Arr UU }.xs { F := { Kind := aT.F.Kind, Fields := { τ := Cd.eVal, xs := aT.F.Fields : Arr UU }.xs : DFact }, Undo := aT.Undo, State := aT.State, Tries := aT.Tries, Due := aT.Due, V := { K := aT.V.K, N := aT.V.N, S := aT.V.S : DVal } : DTask }).1) : Int);
let x2 : Bool := !decide ((pushUndo { τ := Cd.eUndo, xs := aL : Arr UU }.xs { F := { Kind := aT.F.Kind, Fields := { τ := Cd.eVal, xs := aT.F.Fields : Arr UU }.xs : DFact }, Undo := aT.Undo, State := aT.State, Tries := aT.Tries, Due := aT.Due, V := { K := aT.V.K, N := aT.V.N, S := aT.V.S : DVal } : DTask }).1 = (pushUndo { τ := Cd.eUndo, xs := aL : Arr UU }.xs { F := { Kind := aT.F.Kind, Fields := { τ := Cd.eVal, xs := aT.F.Fields : Arr UU }.xs : DFact }, Undo := aT.Undo, State := aT.State, Tries := aT.Tries, Due := aT.Due, V := { K := aT.V.K, N := aT.V.N, S := aT.V.S : DVal } : DTask }).1);
let x3 : Bool := !(pushUndo { τ := Cd.eUndo, xs := aL : Arr UU }.xs { F := { Kind := aT.F.Kind, Fields := { τ := Cd.eVal, xs := aT.F.Fields : Arr UU }.xs : DFact }, Undo := aT.Undo, State := aT.State, Tries := aT.Tries, Due := aT.Due, V := { K := aT.V.K, N := aT.V.N, S := aT.V.S : DVal } : DTask }).2 == (pushUndo { τ := Cd.eUndo, xs := aL : Arr UU }.xs { F := { Kind := aT.F.Kind, Fields := { τ := Cd.eVal, xs := aT.F.Fields : Arr UU }.xs : DFact }, Undo := aT.Undo, State := aT.State, Tries := aT.Tries, Due := aT.Due, V := { K := aT.V.K, N := aT.V.N, S := aT.V.S : DVal } : DTask }).2;
let x4 : Int := (1 : Int) + (↑(cntUndoS aL) : Int);
let x5 : Int := szr (1048576 : Int) (sizeUndoS aL);
(0 : Int) ≤ (1048576 : Int) ∧ bif decide (x5 < (0 : Int)) then Lf [DV.one (Cell.lit (Value.bool true))] [DV.one (Cell.lit (Value.bool true))] else (0 : Int) ≤ x5 ∧ bif decide (szr x5 (sizeTask aT) < (0 : Int)) then Lf [DV.one (Cell.lit (Value.bool true))] [DV.one (Cell.lit (Value.bool true))] else sizeUndoS aL ≤ (4294967296 : Nat) ∧ sizeTask aT ≤ (4294967296 : Nat) ∧ sizeUndoS aL ≤ (4294967296 : Nat) ∧ List.length aT.F.Fields ≤ (4294967296 : Nat) ∧ sizeUndoS aL ≤ (4294967296 : Nat) ∧ sizeTask aT ≤ (4294967296 : Nat) ∧ sizeUndoS aL ≤ (4294967296 : Nat) ∧ List.length aT.F.Fields ≤ (4294967296 : Nat) ∧ bif x2 then Lf [DV.one (Cell.lit (Value.bool false))] [DV.one (Cell.lit (Value.bool true))] else bif x3 then Lf [DV.one (Cell.lit (Value.bool false))] [DV.one (Cell.lit (Value.bool true))] else sizeUndoS aL ≤ (4294967296 : Nat) ∧ bif !decide (aL = aL) then Lf [DV.one (Cell.lit (Value.bool false))] [DV.one (Cell.lit (Value.bool true))] else sizeTask aT ≤ (4294967296 : Nat) ∧ bif !decide (aT = aT) then Lf [DV.one (Cell.lit (Value.bool false))] [DV.one (Cell.lit (Value.bool true))] else (0 : Int) ≤ (1 : Int) ∧ x4 ≤ (4611686018427387904 : Int) ∧ (0 : Int) ≤ x4 ∧ x4 + (↑(ctTask aT) : Int) ≤ (4611686018427387904 : Int) ∧ bif x2 then Lf [DV.one (Cell.lit (Value.bool false))] [DV.one (Cell.lit (Value.bool true))] else bif x3 then Lf [DV.one (Cell.lit (Value.bool false))] [DV.one (Cell.lit (Value.bool true))] else (0 : Int) ≤ (1 : Int) ∧ (1 : Int) + (↑(cntUndoS (pushUndo { τ := Cd.eUndo, xs := aL : Arr UU }.xs { F := { Kind := aT.F.Kind, Fields := { τ := Cd.eVal, xs := aT.F.Fields : Arr UU }.xs : DFact }, Undo := aT.Undo, State := aT.State, Tries := aT.Tries, Due := aT.Due, V := { K := aT.V.K, N := aT.V.N, S := aT.V.S : DVal } : DTask }).1) : Int) ≤ (4611686018427387904 : Int) ∧ (0 : Int) ≤ (1 : Int) ∧ (1 : Int) + (↑(cntUndoS (markUndoS (pushUndo { τ := Cd.eUndo, xs := aL : Arr UU }.xs { F := { Kind := aT.F.Kind, Fields := { τ := Cd.eVal, xs := aT.F.Fields : Arr UU }.xs : DFact }, Undo := aT.Undo, State := aT.State, Tries := aT.Tries, Due := aT.Due, V := { K := aT.V.K, N := aT.V.N, S := aT.V.S : DVal } : DTask }).1 (1 : Int))) : Int) ≤ (4611686018427387904 : Int) ∧ bif x0 then Lf [DV.one (Cell.lit (Value.bool false))] [DV.one (Cell.lit (Value.bool true))] else bif x1 then Lf [DV.one (Cell.lit (Value.bool false))] [DV.one (Cell.lit (Value.bool true))] else sizeUndoS aL ≤ (4294967296 : Nat) ∧ sizeTask aT ≤ (4294967296 : Nat) ∧ sizeUndoS aL ≤ (4294967296 : Nat) ∧ List.length aT.F.Fields ≤ (4294967296 : Nat) ∧ bif x2 then Lf [DV.one (Cell.lit (Value.bool false))] [DV.one (Cell.lit (Value.bool true))] else bif x3 then Lf [DV.one (Cell.lit (Value.bool false))] [DV.one (Cell.lit (Value.bool true))] else (0 : Int) ≤ (1 : Int) ∧ (1 : Int) + (↑(cntUndoS (markUndoS (pushUndo { τ := Cd.eUndo, xs := aL : Arr UU }.xs { F := { Kind := aT.F.Kind, Fields := { τ := Cd.eVal, xs := aT.F.Fields : Arr UU }.xs : DFact }, Undo := aT.Undo, State := aT.State, Tries := aT.Tries, Due := aT.Due, V := { K := aT.V.K, N := aT.V.N, S := aT.V.S : DVal } : DTask }).1 (1 : Int))) : Int) ≤ (4611686018427387904 : Int) ∧ bif x0 then Lf [DV.one (Cell.lit (Value.bool false))] [DV.one (Cell.lit (Value.bool true))] else bif x1 then Lf [DV.one (Cell.lit (Value.bool false))] [DV.one (Cell.lit (Value.bool true))] else Lf [DV.one (Cell.lit (Value.bool true))] [DV.one (Cell.lit (Value.bool true))]) := by kernel_rfl
theorem ok_laws_FnExactPushUndo : Holds EE (3, con_laws_FnExactPushUndo) := by
  refine holds_of EE_ok Go.Proofs.Tryd.func3 con_laws_FnExactPushUndo (by kernel_rfl) rfl use_laws_FnExactPushUndo (all_cons ok_laws_szUndoS (all_cons ok_laws_szTask (all_cons ok_laws_toUndoS (all_cons ok_laws_toTask (all_cons ok_spec_PushUndo (all_cons ok_impl_PushUndo (all_cons ok_laws_eqUndoS (all_cons ok_laws_eqTask (all_cons ok_laws_markUndoS (all_cons ok_laws_markTask (all_cons ok_laws_heldUndoS all_nil))))))))))) ann_laws_FnExactPushUndo (fun x hp hb => ?_)
  obtain ⟨aL, aT⟩ := x
  have hb_aL : BdDV (U := UU) (.one (.sl .lUndo aL)) := hb _ (List.mem_cons_self)
  have hl_aL : aL.length ≤ 9223372036854775807 := Bd.len hb_aL
  have hb_aT : BdDV (U := UU) (.agg [.lit (.string aT.F.Kind), .sl .lVal aT.F.Fields, .lit (.string aT.Undo), .lit (.int .i64 aT.State), .lit (.int .i64 aT.Tries), .lit (.int .i64 aT.Due), .lit (.int .i64 aT.V.K), .lit (.int .i64 aT.V.N), .lit (.string aT.V.S)]) := hb _ (List.mem_cons_of_mem _ (List.mem_cons_self))
  have hl_aT_F_Kind : aT.F.Kind.size ≤ 9223372036854775807 := Bd.str (hb_aT _ (by simp))
  have hl_aT_F_Fields : aT.F.Fields.length ≤ 9223372036854775807 := Bd.len (U := UU) (τ := .lVal) (xs := aT.F.Fields) (hb_aT _ (by simp))
  have hl_aT_Undo : aT.Undo.size ≤ 9223372036854775807 := Bd.str (hb_aT _ (by simp))
  have hl_aT_V_S : aT.V.S.size ≤ 9223372036854775807 := Bd.str (hb_aT _ (by simp))
  clear hp hb
  rw [vc_laws_FnExactPushUndo aL aT]
  dsimp only
  obtain ⟨⟨fk, ff⟩, un, st, tr, du, ⟨vk, vn, vs⟩⟩ := aT
  dsimp only at hb_aT hl_aT_F_Kind hl_aT_F_Fields hl_aT_Undo hl_aT_V_S ⊢
  refine ⟨by omega, if_cond (fun h => Lf_rfl _) (fun h => ?_)⟩
  obtain ⟨e0, h0⟩ := szr_pos h
  rw [e0]
  refine ⟨by omega, if_cond (fun h => Lf_rfl _) (fun h => ?_)⟩
  obtain ⟨e1, h1⟩ := szr_pos h
  have hc := cntUndoS_le aL
  have hc2 := pushUndo_ct aL (⟨⟨fk, ff⟩, un, st, tr, du, ⟨vk, vn, vs⟩⟩ : DTask)
  have hc3 := ctTask_le (⟨⟨fk, ff⟩, un, st, tr, du, ⟨vk, vn, vs⟩⟩ : DTask)
  have hf : ff.length ≤ sizeTask (⟨⟨fk, ff⟩, un, st, tr, du, ⟨vk, vn, vs⟩⟩ : DTask) := by simp only [sizeTask, sizeFact, sizeValS]; omega
  simp only [mkTask_eta, mkTask_idem, mkTask_ct, markUndoS_idem, markUndoS_ct, if_true]
  repeat' (first | exact Lf_rfl _ | refine And.intro (by omega) ?_ | refine if_cond (fun h => absurd h (by first | (simp; done) | (simp; omega))) (fun h => ?_) | fail)
end
end AM
