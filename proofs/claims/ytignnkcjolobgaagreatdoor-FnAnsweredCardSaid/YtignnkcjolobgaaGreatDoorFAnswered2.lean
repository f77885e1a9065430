/- Functions of the program with their contracts: put together by gen/link.py for FnAnswered. -/
import Derived.Test.YtignnkcjolobgaaGreatDoorAmLib
import Derived.Test.YtignnkcjolobgaaGreatDoorAmModels
import Derived.Test.YtignnkcjolobgaaGreatDoorFAnswered
import Derived.Lib.ItoaLen
import Derived.Lib.Join
import Derived.Test.YtignnkcjolobgaaGreatDoorShelf
namespace AM
open Go
set_option linter.unusedVariables false
set_option linter.unusedSimpArgs false
set_option maxRecDepth 100000
noncomputable section
theorem undosOk_len {l : List DUndo} (h : undosOk l = true) : l.length ≤ 30 := by
  simp only [undosOk, Bool.and_eq_true, decide_eq_true_eq] at h; exact h.1
theorem tasksOk_len' {l : List DTask} (h : tasksOk l = true) : l.length ≤ 30 := by
  simp only [tasksOk, Bool.and_eq_true, decide_eq_true_eq] at h; exact h.1
theorem tasksOk_at {l : List DTask} (h : tasksOk l = true) {k : Nat} (hk : k < l.length) : taskOk (List.getD l k zTask) = true := by
  simp only [tasksOk, Bool.and_eq_true] at h
  have := allI_iff.1 h.2 k hk
  simp only [taskAt, Bool.and_eq_true] at this
  exact this.1
theorem taskOk_st {t : DTask} (h : taskOk t = true) : (1 ≤ t.State ∧ t.State ≤ 4) ∧ (0 ≤ t.Tries ∧ t.Tries ≤ 4) ∧ (0 ≤ t.Due ∧ t.Due ≤ 1000001000) ∧ ((t.State = 1 → t.Tries = 0) ∧ (t.State = 2 → t.Tries ≠ 0)) ∧ t.F.Fields.length ≤ 5 := by
  simp only [taskOk, Bool.and_eq_true, decide_eq_true_eq] at h
  obtain ⟨⟨⟨⟨⟨⟨h1, h2⟩, h3⟩, h4⟩, h5⟩, h6⟩, h7⟩ := h
  refine ⟨h3, h4, h5, h7, ?_⟩
  simp only [factOk, Bool.and_eq_true, decide_eq_true_eq] at h1
  first | exact h1.1.2 | exact h1.2.1 | omega
theorem taskAtKey_lt {l : List DTask} {key : ByteArray} (h : 0 ≤ taskAtKey l key) : (taskAtKey l key).toNat < l.length := by
  unfold taskAtKey at *
  rcases idxI_cases l.length (fun k => decide (factText (List.getD l k zTask).F = key)) with ⟨h1, h2⟩ | ⟨i, h1, h2, h3, h4⟩
  · rw [h1] at h; omega
  · rw [h2]; omega
theorem reply_none {l : List DTask} {key : ByteArray} {ok : Bool} {v : DVal} (h : ¬ (tasksOk l = true ∧ valOk v = true ∧ 0 ≤ taskAtKey l key ∧ (List.getD l (taskAtKey l key).toNat zTask).State ≠ 1)) : replyTask l key ok v = (l, 3) := if_neg h
theorem reply_old {l : List DTask} {key : ByteArray} {ok : Bool} {v : DVal} (h : tasksOk l = true ∧ valOk v = true ∧ 0 ≤ taskAtKey l key ∧ (List.getD l (taskAtKey l key).toNat zTask).State ≠ 1) (h2 : (List.getD l (taskAtKey l key).toNat zTask).State ≠ 2) : replyTask l key ok v = (l, 2) := by rw [replyTask, if_pos h, if_neg h2]
theorem reply_new {l : List DTask} {key : ByteArray} {ok : Bool} {v : DVal} (h : tasksOk l = true ∧ valOk v = true ∧ 0 ≤ taskAtKey l key ∧ (List.getD l (taskAtKey l key).toNat zTask).State ≠ 1) (h2 : (List.getD l (taskAtKey l key).toNat zTask).State = 2) : replyTask l key ok v = (l.modify (taskAtKey l key).toNat (replied ok v), 1) := by rw [replyTask, if_pos h, if_pos h2]
theorem reply_t (l : List DTask) (k : Nat) (v : DVal) : (((l.modify k fun x => ⟨x.F, x.Undo, 4, x.Tries, x.Due, x.V⟩).modify k fun x => ⟨x.F, x.Undo, 3, x.Tries, x.Due, x.V⟩).modify k fun x => ⟨x.F, x.Undo, x.State, x.Tries, x.Due, v⟩) = l.modify k (replied true v) := by
  rw [modify_modify, modify_modify]; rfl
theorem reply_f (l : List DTask) (k : Nat) (v : DVal) : ((l.modify k fun x => ⟨x.F, x.Undo, 4, x.Tries, x.Due, x.V⟩).modify k fun x => ⟨x.F, x.Undo, x.State, x.Tries, x.Due, v⟩) = l.modify k (replied false v) := by
  rw [modify_modify]; rfl
theorem Lf3 {a a' : List DTask} {b b' : List DCall} {c c' : List ByteArray} (h1 : a = a') (h2 : b = b') (h3 : c = c') : Lf [.one (.sl .eTask a), .one (.sl .eCall b), .one (.sl .str c)] [.one (.sl .eTask a'), .one (.sl .eCall b'), .one (.sl .str c')] := by
  subst h1 h2 h3; exact Lf_rfl _
theorem Lf_row {a a' : List DTask} {n : Int} (h : a = a') : Lf [.one (.sl .eTask a), .one (.lit (.int .i64 n))] [.one (.sl .eTask a'), .one (.lit (.int .i64 n))] := by
  subst h; exact Lf_rfl _
theorem asD_row {a a' : List DTask} (h : a = a') : asD ([DV.one (Cell.sl Cd.eTask a)] : List (DV UU)) = asD ([DV.one (Cell.sl Cd.eTask a')] : List (DV UU)) := by rw [h]
theorem flat_step {α β : Type} (f : α → List β) (l : List α) (z : α) {i : Int} (h0 : 0 ≤ i) (h : i < l.length) : (l.take i.toNat).flatMap f ++ f (List.getD l i.toNat z) = (l.take (i + 1).toNat).flatMap f := by
  rw [← take_step l z h0 h, List.flatMap_append]; simp
theorem flat_len {α β : Type} (f : α → List β) (hf : ∀ x, (f x).length ≤ 1) : ∀ l : List α, (l.flatMap f).length ≤ l.length
  | [] => by simp
  | x :: l => by
    rw [List.flatMap_cons, List.length_append]
    have h1 := flat_len f hf l
    have h2 := hf x
    simp only [List.length_cons]; omega
theorem call1_len (now : Int) (t : DTask) : (call1 now t).length ≤ 1 := by unfold call1; split <;> simp
theorem fail1_len (now : Int) (t : DTask) : (fail1 now t).length ≤ 1 := by unfold fail1; split <;> simp
theorem backN_pos (most : Int) : ∀ (k : Nat) (n : Int), 0 ≤ n → 0 ≤ backN most k n
  | 0, n, h => h
  | k + 1, n, h => by rw [backN]; split; exact backN_pos most k (2 * n) (by omega); exact h
theorem backoff_le (k : Int) : 0 ≤ backoff 2 k 60 ∧ backoff 2 k 60 ≤ 60 := by
  have := backN_pos 60 k.toNat 2 (by omega)
  unfold backoff
  split
  · split <;> omega
  · omega
def con_spec_l18Reply : Con UU where
  α := (List DTask) × ByteArray × Bool × DVal
  md := [.wr, .ro, .ro, .ro]
  of := fun | [.one (.sl .eTask a0), .one (.lit (.string a1)), .one (.lit (.bool a2)), .agg [.lit (.int .i64 a3), .lit (.int .i64 a4), .lit (.string a5)]] => some (a0, a1, a2, ⟨a3, a4, a5⟩) | _ => none
  ds := fun (l, key, ok, v) => [.one (.sl .eTask l), .one (.lit (.string key)), .one (.lit (.bool ok)), .agg [.lit (.int .i64 v.K), .lit (.int .i64 v.N), .lit (.string v.S)]]
  pre := fun (l, key, ok, v) => [tasksOk l = true, valOk v = true]
  res := fun (l, key, ok, v) => ⟨[.one (.lit (.int .i64 ((replyTask l key ok v).2)))], true, [.one (.sl .eTask ((replyTask l key ok v).1))]⟩
  law := by intro l x h; (try simp only at h); split at h <;> cases h; rfl
def ann_spec_l18Reply : con_spec_l18Reply.α → Nat → Option (Ann UU) := fun (l, key, ok, v) => annL []
def use_spec_l18Reply : List (FuncId × Con UU) := [(74, con_spec_TaskAt)]
theorem vc_spec_l18Reply (l : (List DTask)) (key : ByteArray) (ok : Bool) (v : DVal) : goal EE use_spec_l18Reply Go.Proofs.Tryz.f50 con_spec_l18Reply ann_spec_l18Reply (l, key, ok, v) = (let x0 : List DTask := List.modify l (Int.toNat (taskAtKey l key)) fun (x : DTask) => { F := x.F, Undo := x.Undo, State := (4 : Int), Tries := x.Tries, Due := x.Due, V := x.V : DTask };
let x1 : List DTask := List.modify x0 (Int.toNat (taskAtKey l key)) fun (x : DTask) => { F := x.F, Undo := x.Undo, State := (3 : Int), Tries := x.Tries, Due := x.Due, V := x.V : DTask };
bif decide (taskAtKey l key < (0 : Int)) then asD [DV.one (Cell.lit (Value.int IntKind.i64 (3 : Int)))] = asD [DV.one (Cell.lit (Value.int IntKind.i64 (replyTask l key ok v).2))] ∧ asD [DV.one (Cell.sl Cd.eTask l)] = asD [DV.one (Cell.sl Cd.eTask (replyTask l key ok v).1)] else (0 : Int) ≤ taskAtKey l key ∧ Int.toNat (taskAtKey l key) < List.length l ∧ Int.toNat (taskAtKey l key) < List.length l ∧ bif (List.getD l (Int.toNat (taskAtKey l key)) zTask).State == (3 : Int) then asD [DV.one (Cell.lit (Value.int IntKind.i64 (2 : Int)))] = asD [DV.one (Cell.lit (Value.int IntKind.i64 (replyTask l key ok v).2))] ∧ asD [DV.one (Cell.sl Cd.eTask l)] = asD [DV.one (Cell.sl Cd.eTask (replyTask l key ok v).1)] else Int.toNat (taskAtKey l key) < List.length l ∧ bif (List.getD l (Int.toNat (taskAtKey l key)) zTask).State == (4 : Int) then asD [DV.one (Cell.lit (Value.int IntKind.i64 (2 : Int)))] = asD [DV.one (Cell.lit (Value.int IntKind.i64 (replyTask l key ok v).2))] ∧ asD [DV.one (Cell.sl Cd.eTask l)] = asD [DV.one (Cell.sl Cd.eTask (replyTask l key ok v).1)] else Int.toNat (taskAtKey l key) < List.length l ∧ bif (List.getD l (Int.toNat (taskAtKey l key)) zTask).Tries == (0 : Int) then asD [DV.one (Cell.lit (Value.int IntKind.i64 (3 : Int)))] = asD [DV.one (Cell.lit (Value.int IntKind.i64 (replyTask l key ok v).2))] ∧ asD [DV.one (Cell.sl Cd.eTask l)] = asD [DV.one (Cell.sl Cd.eTask (replyTask l key ok v).1)] else Int.toNat (taskAtKey l key) < List.length l ∧ bif ok then Int.toNat (taskAtKey l key) < List.length x0 ∧ Int.toNat (taskAtKey l key) < List.length x1 ∧ asD [DV.one (Cell.lit (Value.int IntKind.i64 (1 : Int)))] = asD [DV.one (Cell.lit (Value.int IntKind.i64 (replyTask l key ok v).2))] ∧ asD [DV.one (Cell.sl Cd.eTask (List.modify x1 (Int.toNat (taskAtKey l key)) fun (x : DTask) => { F := x.F, Undo := x.Undo, State := x.State, Tries := x.Tries, Due := x.Due, V := v : DTask }))] = asD [DV.one (Cell.sl Cd.eTask (replyTask l key ok v).1)] else Int.toNat (taskAtKey l key) < List.length x0 ∧ asD [DV.one (Cell.lit (Value.int IntKind.i64 (1 : Int)))] = asD [DV.one (Cell.lit (Value.int IntKind.i64 (replyTask l key ok v).2))] ∧ asD [DV.one (Cell.sl Cd.eTask (List.modify x0 (Int.toNat (taskAtKey l key)) fun (x : DTask) => { F := x.F, Undo := x.Undo, State := x.State, Tries := x.Tries, Due := x.Due, V := v : DTask }))] = asD [DV.one (Cell.sl Cd.eTask (replyTask l key ok v).1)]) := by kernel_rfl
theorem ok_spec_l18Reply : Holds EE (50, con_spec_l18Reply) := by
  refine holds_of EE_ok Go.Proofs.Tryz.func50 con_spec_l18Reply (by kernel_rfl) use_spec_l18Reply (all_cons ok_spec_TaskAt all_nil) ann_spec_l18Reply (fun x hp hb => ?_)
  obtain ⟨l, key, ok, v⟩ := x
  have hb_l : BdDV (U := UU) (.one (.sl .eTask l)) := hb _ (List.mem_cons_self)
  have hl_l : l.length ≤ 9223372036854775807 := Bd.len hb_l
  have hb_key : BdDV (U := UU) (.one (.lit (.string key))) := hb _ (List.mem_cons_of_mem _ (List.mem_cons_self))
  have hl_key : key.size ≤ 9223372036854775807 := Bd.str hb_key
  have hb_ok : BdDV (U := UU) (.one (.lit (.bool ok))) := hb _ (List.mem_cons_of_mem _ (List.mem_cons_of_mem _ (List.mem_cons_self)))
  have hb_v : BdDV (U := UU) (.agg [.lit (.int .i64 v.K), .lit (.int .i64 v.N), .lit (.string v.S)]) := hb _ (List.mem_cons_of_mem _ (List.mem_cons_of_mem _ (List.mem_cons_of_mem _ (List.mem_cons_self))))
  have hl_v_S : v.S.size ≤ 9223372036854775807 := Bd.str (hb_v _ (by simp))
  have hp0 : tasksOk l = true := hp _ (List.mem_cons_self)
  have hp1 : valOk v = true := hp _ (List.mem_cons_of_mem _ (List.mem_cons_self))
  clear hp hb
  rw [vc_spec_l18Reply l key ok v]
  dsimp only
  refine if_cond (fun h => ?_) (fun h => ?_)
  · have h := of_decide_eq_true h
    rw [reply_none (fun hh => absurd hh.2.2.1 (by omega))]; exact ⟨rfl, rfl⟩
  have h := of_decide_eq_false h
  have hk := taskAtKey_lt (l := l) (key := key) (by omega)
  obtain ⟨s1, s2, s3, s4, s5⟩ := taskOk_st (tasksOk_at hp0 hk)
  refine ⟨by omega, hk, hk, if_cond (fun h1 => ?_) (fun h1 => ⟨hk, if_cond (fun h2 => ?_) (fun h2 => ⟨hk, if_cond (fun h3 => ?_) (fun h3 => ⟨hk, if_cond (fun h4 => ?_) (fun h4 => ?_)⟩)⟩)⟩)⟩
  · have h1 := eq_of_beq h1
    rw [reply_old ⟨hp0, hp1, by omega, by omega⟩ (by omega)]; exact ⟨rfl, rfl⟩
  · have h2 := eq_of_beq h2
    rw [reply_old ⟨hp0, hp1, by omega, by omega⟩ (by omega)]; exact ⟨rfl, rfl⟩
  · have h3 := eq_of_beq h3
    simp only [beq_eq_false_iff_ne, ne_eq] at h1 h2
    rw [reply_none (fun hh => absurd hh.2.2.2 (by omega))]; exact ⟨rfl, rfl⟩
  · subst h4
    simp only [beq_eq_false_iff_ne, ne_eq] at h1 h2 h3
    rw [reply_new ⟨hp0, hp1, by omega, by omega⟩ (by omega)]
    exact ⟨by simp only [List.length_modify]; exact hk, by simp only [List.length_modify]; exact hk, rfl, asD_row (reply_t _ _ _)⟩
  · subst h4
    simp only [beq_eq_false_iff_ne, ne_eq] at h1 h2 h3
    rw [reply_new ⟨hp0, hp1, by omega, by omega⟩ (by omega)]
    exact ⟨by simp only [List.length_modify]; exact hk, rfl, asD_row (reply_f _ _ _)⟩
def con_spec_ReplyTask : Con UU where
  α := (List DTask) × ByteArray × Bool × DVal
  md := [.ro, .ro, .ro, .ro]
  of := fun | [.one (.sl .eTask a0), .one (.lit (.string a1)), .one (.lit (.bool a2)), .agg [.lit (.int .i64 a3), .lit (.int .i64 a4), .lit (.string a5)]] => some (a0, a1, a2, ⟨a3, a4, a5⟩) | _ => none
  ds := fun (l, key, ok, v) => [.one (.sl .eTask l), .one (.lit (.string key)), .one (.lit (.bool ok)), .agg [.lit (.int .i64 v.K), .lit (.int .i64 v.N), .lit (.string v.S)]]
  pre := fun (l, key, ok, v) => [sizeTaskS l ≤ 4294967296]
  res := fun (l, key, ok, v) => ⟨[.one (.sl .eTask ((replyTask l key ok v).1)), .one (.lit (.int .i64 ((replyTask l key ok v).2)))], true, []⟩
  law := by intro l x h; (try simp only at h); split at h <;> cases h; rfl
def ann_spec_ReplyTask : con_spec_ReplyTask.α → Nat → Option (Ann UU) := fun (l, key, ok, v) => annL []
def use_spec_ReplyTask : List (FuncId × Con UU) := [(37, con_spec_l18Copy), (22, con_spec_TasksOk), (49, con_spec_ValOk), (50, con_spec_l18Reply)]
theorem vc_spec_ReplyTask (l : (List DTask)) (key : ByteArray) (ok : Bool) (v : DVal) : goal EE use_spec_ReplyTask Go.Proofs.Tryz.f16 con_spec_ReplyTask ann_spec_ReplyTask (l, key, ok, v) = (sizeTaskS l ≤ (4294967296 : Nat) ∧ bif !tasksOk l then Lf [DV.one (Cell.sl Cd.eTask l), DV.one (Cell.lit (Value.int IntKind.i64 (3 : Int)))] [DV.one (Cell.sl Cd.eTask (replyTask l key ok v).1), DV.one (Cell.lit (Value.int IntKind.i64 (replyTask l key ok v).2))] else bif !valOk v then Lf [DV.one (Cell.sl Cd.eTask l), DV.one (Cell.lit (Value.int IntKind.i64 (3 : Int)))] [DV.one (Cell.sl Cd.eTask (replyTask l key ok v).1), DV.one (Cell.lit (Value.int IntKind.i64 (replyTask l key ok v).2))] else tasksOk l = true ∧ valOk v = true ∧ Lf [DV.one (Cell.sl Cd.eTask (replyTask { τ := Cd.eTask, xs := l : Arr UU }.xs key ok { K := v.K, N := v.N, S := v.S : DVal }).1), DV.one (Cell.lit (Value.int IntKind.i64 (replyTask { τ := Cd.eTask, xs := l : Arr UU }.xs key ok { K := v.K, N := v.N, S := v.S : DVal }).2))] [DV.one (Cell.sl Cd.eTask (replyTask l key ok v).1), DV.one (Cell.lit (Value.int IntKind.i64 (replyTask l key ok v).2))]) := by kernel_rfl
theorem ok_spec_ReplyTask : Holds EE (16, con_spec_ReplyTask) := by
  refine holds_of EE_ok Go.Proofs.Tryz.func16 con_spec_ReplyTask (by kernel_rfl) use_spec_ReplyTask (all_cons ok_spec_l18Copy (all_cons ok_spec_TasksOk (all_cons ok_spec_ValOk (all_cons ok_spec_l18Reply all_nil)))) ann_spec_ReplyTask (fun x hp hb => ?_)
  obtain ⟨l, key, ok, v⟩ := x
  have hb_l : BdDV (U := UU) (.one (.sl .eTask l)) := hb _ (List.mem_cons_self)
  have hl_l : l.length ≤ 9223372036854775807 := Bd.len hb_l
  have hb_key : BdDV (U := UU) (.one (.lit (.string key))) := hb _ (List.mem_cons_of_mem _ (List.mem_cons_self))
  have hl_key : key.size ≤ 9223372036854775807 := Bd.str hb_key
  have hb_ok : BdDV (U := UU) (.one (.lit (.bool ok))) := hb _ (List.mem_cons_of_mem _ (List.mem_cons_of_mem _ (List.mem_cons_self)))
  have hb_v : BdDV (U := UU) (.agg [.lit (.int .i64 v.K), .lit (.int .i64 v.N), .lit (.string v.S)]) := hb _ (List.mem_cons_of_mem _ (List.mem_cons_of_mem _ (List.mem_cons_of_mem _ (List.mem_cons_self))))
  have hl_v_S : v.S.size ≤ 9223372036854775807 := Bd.str (hb_v _ (by simp))
  have hp0 : sizeTaskS l ≤ 4294967296 := hp _ (List.mem_cons_self)
  clear hp hb
  rw [vc_spec_ReplyTask l key ok v]
  refine ⟨hp0, if_cond (fun h => ?_) (fun h => if_cond (fun h2 => ?_) (fun h2 => ⟨by simpa using h, by simpa using h2, Lf_rfl _⟩))⟩
  · rw [reply_none (fun hh => by rw [hh.1] at h; simp at h)]; exact Lf_rfl _
  · rw [reply_none (fun hh => by rw [hh.2.1] at h2; simp at h2)]; exact Lf_rfl _
def con_impl_ReplyTask : Con UU where
  α := (List DTask) × ByteArray × Bool × DVal
  md := [.ro, .ro, .ro, .ro]
  of := fun | [.one (.sl .eTask a0), .one (.lit (.string a1)), .one (.lit (.bool a2)), .agg [.lit (.int .i64 a3), .lit (.int .i64 a4), .lit (.string a5)]] => some (a0, a1, a2, ⟨a3, a4, a5⟩) | _ => none
  ds := fun (l, key, ok, v) => [.one (.sl .eTask l), .one (.lit (.string key)), .one (.lit (.bool ok)), .agg [.lit (.int .i64 v.K), .lit (.int .i64 v.N), .lit (.string v.S)]]
  pre := fun (l, key, ok, v) => [sizeTaskS l ≤ 4294967296]
  res := fun (l, key, ok, v) => ⟨[.one (.sl .eTask ((replyTask l key ok v).1)), .one (.lit (.int .i64 ((replyTask l key ok v).2)))], true, []⟩
  law := by intro l x h; (try simp only at h); split at h <;> cases h; rfl
def ann_impl_ReplyTask : con_impl_ReplyTask.α → Nat → Option (Ann UU) := fun (l, key, ok, v) => annL []
def use_impl_ReplyTask : List (FuncId × Con UU) := [(31, con_impl_copyTasks), (11, con_impl_TaskAt), (13, con_impl_TasksOk), (48, con_impl_ValOk)]
theorem vc_impl_ReplyTask (l : (List DTask)) (key : ByteArray) (ok : Bool) (v : DVal) : goal EE use_impl_ReplyTask Go.Proofs.Tryz.f15 con_impl_ReplyTask ann_impl_ReplyTask (l, key, ok, v) = (let x0 : List DTask := List.modify l (Int.toNat (taskAtKey l key)) fun (x : DTask) => { F := x.F, Undo := x.Undo, State := (4 : Int), Tries := x.Tries, Due := x.Due, V := x.V : DTask };
let x1 : List DTask := List.modify x0 (Int.toNat (taskAtKey l key)) fun (x : DTask) => { F := x.F, Undo := x.Undo, State := (3 : Int), Tries := x.Tries, Due := x.Due, V := x.V : DTask };
sizeTaskS l ≤ (4294967296 : Nat) ∧ bif !tasksOk l then Lf [DV.one (Cell.sl Cd.eTask l), DV.one (Cell.lit (Value.int IntKind.i64 (3 : Int)))] [DV.one (Cell.sl Cd.eTask (replyTask l key ok v).1), DV.one (Cell.lit (Value.int IntKind.i64 (replyTask l key ok v).2))] else bif !valOk v then Lf [DV.one (Cell.sl Cd.eTask l), DV.one (Cell.lit (Value.int IntKind.i64 (3 : Int)))] [DV.one (Cell.sl Cd.eTask (replyTask l key ok v).1), DV.one (Cell.lit (Value.int IntKind.i64 (replyTask l key ok v).2))] else bif decide (taskAtKey l key < (0 : Int)) then Lf [DV.one (Cell.sl Cd.eTask l), DV.one (Cell.lit (Value.int IntKind.i64 (3 : Int)))] [DV.one (Cell.sl Cd.eTask (replyTask l key ok v).1), DV.one (Cell.lit (Value.int IntKind.i64 (replyTask l key ok v).2))] else (0 : Int) ≤ taskAtKey l key ∧ Int.toNat (taskAtKey l key) < List.length l ∧ bif (List.getD l (Int.toNat (taskAtKey l key)) zTask).State == (1 : Int) then Lf [DV.one (Cell.sl Cd.eTask l), DV.one (Cell.lit (Value.int IntKind.i64 (3 : Int)))] [DV.one (Cell.sl Cd.eTask (replyTask l key ok v).1), DV.one (Cell.lit (Value.int IntKind.i64 (replyTask l key ok v).2))] else (0 : Int) ≤ taskAtKey l key ∧ Int.toNat (taskAtKey l key) < List.length l ∧ Int.toNat (taskAtKey l key) < List.length l ∧ bif (List.getD l (Int.toNat (taskAtKey l key)) zTask).State != (2 : Int) then Lf [DV.one (Cell.sl Cd.eTask l), DV.one (Cell.lit (Value.int IntKind.i64 (2 : Int)))] [DV.one (Cell.sl Cd.eTask (replyTask l key ok v).1), DV.one (Cell.lit (Value.int IntKind.i64 (replyTask l key ok v).2))] else Int.toNat (taskAtKey l key) < List.length l ∧ bif ok then Int.toNat (taskAtKey l key) < List.length x0 ∧ Int.toNat (taskAtKey l key) < List.length x1 ∧ Lf [DV.one (Cell.sl Cd.eTask (List.modify x1 (Int.toNat (taskAtKey l key)) fun (x : DTask) => { F := x.F, Undo := x.Undo, State := x.State, Tries := x.Tries, Due := x.Due, V := v : DTask })), DV.one (Cell.lit (Value.int IntKind.i64 (1 : Int)))] [DV.one (Cell.sl Cd.eTask (replyTask l key ok v).1), DV.one (Cell.lit (Value.int IntKind.i64 (replyTask l key ok v).2))] else Int.toNat (taskAtKey l key) < List.length x0 ∧ Lf [DV.one (Cell.sl Cd.eTask (List.modify x0 (Int.toNat (taskAtKey l key)) fun (x : DTask) => { F := x.F, Undo := x.Undo, State := x.State, Tries := x.Tries, Due := x.Due, V := v : DTask })), DV.one (Cell.lit (Value.int IntKind.i64 (1 : Int)))] [DV.one (Cell.sl Cd.eTask (replyTask l key ok v).1), DV.one (Cell.lit (Value.int IntKind.i64 (replyTask l key ok v).2))]) := by kernel_rfl
theorem ok_impl_ReplyTask : Holds EE (15, con_impl_ReplyTask) := by
  refine holds_of EE_ok Go.Proofs.Tryz.func15 con_impl_ReplyTask (by kernel_rfl) use_impl_ReplyTask (all_cons ok_impl_copyTasks (all_cons ok_impl_TaskAt (all_cons ok_impl_TasksOk (all_cons ok_impl_ValOk all_nil)))) ann_impl_ReplyTask (fun x hp hb => ?_)
  obtain ⟨l, key, ok, v⟩ := x
  have hb_l : BdDV (U := UU) (.one (.sl .eTask l)) := hb _ (List.mem_cons_self)
  have hl_l : l.length ≤ 9223372036854775807 := Bd.len hb_l
  have hb_key : BdDV (U := UU) (.one (.lit (.string key))) := hb _ (List.mem_cons_of_mem _ (List.mem_cons_self))
  have hl_key : key.size ≤ 9223372036854775807 := Bd.str hb_key
  have hb_ok : BdDV (U := UU) (.one (.lit (.bool ok))) := hb _ (List.mem_cons_of_mem _ (List.mem_cons_of_mem _ (List.mem_cons_self)))
  have hb_v : BdDV (U := UU) (.agg [.lit (.int .i64 v.K), .lit (.int .i64 v.N), .lit (.string v.S)]) := hb _ (List.mem_cons_of_mem _ (List.mem_cons_of_mem _ (List.mem_cons_of_mem _ (List.mem_cons_self))))
  have hl_v_S : v.S.size ≤ 9223372036854775807 := Bd.str (hb_v _ (by simp))
  have hp0 : sizeTaskS l ≤ 4294967296 := hp _ (List.mem_cons_self)
  clear hp hb
  rw [vc_impl_ReplyTask l key ok v]
  dsimp only
  refine ⟨hp0, if_cond (fun h => ?_) (fun h => if_cond (fun h2 => ?_) (fun h2 => if_cond (fun h3 => ?_) (fun h3 => ?_)))⟩
  · rw [reply_none (fun hh => by rw [hh.1] at h; simp at h)]; exact Lf_rfl _
  · rw [reply_none (fun hh => by rw [hh.2.1] at h2; simp at h2)]; exact Lf_rfl _
  · have h3 := of_decide_eq_true h3
    rw [reply_none (fun hh => absurd hh.2.2.1 (by omega))]; exact Lf_rfl _
  have h : tasksOk l = true := by simpa using h
  have h2 : valOk v = true := by simpa using h2
  have h3 := of_decide_eq_false h3
  have hk := taskAtKey_lt (l := l) (key := key) (by omega)
  refine ⟨by omega, hk, if_cond (fun h4 => ?_) (fun h4 => ⟨by omega, hk, hk, if_cond (fun h5 => ?_) (fun h5 => ⟨hk, if_cond (fun h6 => ?_) (fun h6 => ?_)⟩)⟩)⟩
  · have h4 := eq_of_beq h4
    rw [reply_none (fun hh => absurd hh.2.2.2 (by omega))]; exact Lf_rfl _
  · simp only [bne_iff_ne, beq_eq_false_iff_ne, ne_eq] at h4 h5
    rw [reply_old ⟨h, h2, by omega, h4⟩ h5]; exact Lf_rfl _
  · subst h6
    simp only [bne_iff_ne, bne_eq_false_iff_eq, beq_eq_false_iff_ne, ne_eq] at h4 h5
    rw [reply_new ⟨h, h2, by omega, h4⟩ h5]
    exact ⟨by simp only [List.length_modify]; exact hk, by simp only [List.length_modify]; exact hk, Lf_row (reply_t _ _ _)⟩
  · subst h6
    simp only [bne_iff_ne, bne_eq_false_iff_eq, beq_eq_false_iff_ne, ne_eq] at h4 h5
    rw [reply_new ⟨h, h2, by omega, h4⟩ h5]
    exact ⟨by simp only [List.length_modify]; exact hk, Lf_row (reply_f _ _ _)⟩
def con_spec_l18Due : Con UU where
  α := DTask × Int
  md := [.ro, .ro]
  of := fun | [.agg [.lit (.string a0), .sl .eVal a1, .lit (.string a2), .lit (.int .i64 a3), .lit (.int .i64 a4), .lit (.int .i64 a5), .lit (.int .i64 a6), .lit (.int .i64 a7), .lit (.string a8)], .one (.lit (.int .i64 a9))] => some (⟨⟨a0, a1⟩, a2, a3, a4, a5, ⟨a6, a7, a8⟩⟩, a9) | _ => none
  ds := fun (t, now) => [.agg [.lit (.string t.F.Kind), .sl .eVal t.F.Fields, .lit (.string t.Undo), .lit (.int .i64 t.State), .lit (.int .i64 t.Tries), .lit (.int .i64 t.Due), .lit (.int .i64 t.V.K), .lit (.int .i64 t.V.N), .lit (.string t.V.S)], .one (.lit (.int .i64 now))]
  pre := fun (t, now) => []
  res := fun (t, now) => ⟨[.one (.lit (.bool (due now t)))], true, []⟩
  law := by intro l x h; (try simp only at h); split at h <;> cases h; rfl
def ann_spec_l18Due : con_spec_l18Due.α → Nat → Option (Ann UU) := fun (t, now) => annL []
def use_spec_l18Due : List (FuncId × Con UU) := []
theorem vc_spec_l18Due (t : DTask) (now : Int) : goal EE use_spec_l18Due Go.Proofs.Tryz.f75 con_spec_l18Due ann_spec_l18Due (t, now) = (bif t.State == (1 : Int) then Lf [DV.one (Cell.lit (Value.bool (decide (t.Due ≤ now))))] [DV.one (Cell.lit (Value.bool (due now t)))] else bif t.State == (2 : Int) then Lf [DV.one (Cell.lit (Value.bool (decide (t.Due ≤ now))))] [DV.one (Cell.lit (Value.bool (due now t)))] else Lf [DV.one (Cell.lit (Value.bool false))] [DV.one (Cell.lit (Value.bool (due now t)))]) := by kernel_rfl
theorem ok_spec_l18Due : Holds EE (75, con_spec_l18Due) := by
  refine holds_of EE_ok Go.Proofs.Tryz.func75 con_spec_l18Due (by kernel_rfl) use_spec_l18Due all_nil ann_spec_l18Due (fun x hp hb => ?_)
  obtain ⟨t, now⟩ := x
  have hb_t : BdDV (U := UU) (.agg [.lit (.string t.F.Kind), .sl .eVal t.F.Fields, .lit (.string t.Undo), .lit (.int .i64 t.State), .lit (.int .i64 t.Tries), .lit (.int .i64 t.Due), .lit (.int .i64 t.V.K), .lit (.int .i64 t.V.N), .lit (.string t.V.S)]) := hb _ (List.mem_cons_self)
  have hl_t_F_Kind : t.F.Kind.size ≤ 9223372036854775807 := Bd.str (hb_t _ (by simp))
  have hl_t_F_Fields : t.F.Fields.length ≤ 9223372036854775807 := Bd.len (U := UU) (τ := .eVal) (xs := t.F.Fields) (hb_t _ (by simp))
  have hl_t_Undo : t.Undo.size ≤ 9223372036854775807 := Bd.str (hb_t _ (by simp))
  have hl_t_V_S : t.V.S.size ≤ 9223372036854775807 := Bd.str (hb_t _ (by simp))
  have hb_now : BdDV (U := UU) (.one (.lit (.int .i64 now))) := hb _ (List.mem_cons_of_mem _ (List.mem_cons_self))
  have hl_now := Bd.i64 hb_now
  clear hp hb
  rw [vc_spec_l18Due t now]
  repeat' (refine if_cond (fun h => ?_) (fun h => ?_))
  all_goals (refine Lf_b ?_; simp only [due, isOpen]; grind)
def con_spec_l18Send : Con UU where
  α := (List DTask) × Int
  md := [.wr, .ro]
  of := fun | [.one (.sl .eTask a0), .one (.lit (.int .i64 a1))] => some (a0, a1) | _ => none
  ds := fun (l, now) => [.one (.sl .eTask l), .one (.lit (.int .i64 now))]
  pre := fun (l, now) => [tasksOk l = true, 0 ≤ now ∧ now ≤ 1000000000]
  res := fun (l, now) => ⟨[.one (.sl .eCall (l.flatMap (call1 now))), .one (.sl .str (l.flatMap (fail1 now)))], true, [.one (.sl .eTask (l.map (send1 now)))]⟩
  law := by intro l x h; (try simp only at h); split at h <;> cases h; rfl
def I_spec_l18Send_4 (l : (List DTask)) (now : Int) : List DTask × List DCall × List ByteArray × Int × Unit → Prop := fun (out, calls, failed, i, _) => 0 ≤ i ∧ i ≤ l.length ∧ out = (l.map (send1 now)).take i.toNat ++ l.drop i.toNat ∧ calls = (l.take i.toNat).flatMap (call1 now) ∧ failed = (l.take i.toNat).flatMap (fail1 now)
def μ_spec_l18Send_4 (l : (List DTask)) (now : Int) : List DTask × List DCall × List ByteArray × Int × Unit → Nat := fun (out, calls, failed, i, _) => l.length - i.toNat
def ann_spec_l18Send : con_spec_l18Send.α → Nat → Option (Ann UU) := fun (l, now) => annL [(4, annOf [.slot 0 (2000000, 0) (.own .eTask true), .slot 6 (6, 1024) (.own .eCall true), .slot 7 (7, 1024) (.own .str true), .slot 8 (8, 1024) (.lit (.int .i64))] (fun _ => I_spec_l18Send_4 l now) (μ_spec_l18Send_4 l now))]
def use_spec_l18Send : List (FuncId × Con UU) := [(75, con_spec_l18Due), (71, con_spec_TaskKey), (76, con_spec_Backoff), (59, con_spec_l3Copy)]
theorem vc_spec_l18Send (l : (List DTask)) (now : Int) : goal EE use_spec_l18Send Go.Proofs.Tryz.f53 con_spec_l18Send ann_spec_l18Send (l, now) = (I_spec_l18Send_4 l now (l, [], [], (0 : Int), PUnit.unit) ∧
  ∀ (y : List DTask × List DCall × List ByteArray × Int × PUnit),
    let x0 : List DCall := [{ Key := factText (List.getD (List.modify (List.modify (List.modify y.1 (Int.toNat y.2.2.2.1) fun (x : DTask) => { F := x.F, Undo := x.Undo, State := x.State, Tries := IntKind.wrap IntKind.i64 ((List.getD y.1 (Int.toNat y.2.2.2.1) zTask).Tries + (1 : Int)), Due := x.Due, V := x.V : DTask }) (Int.toNat y.2.2.2.1) fun (x : DTask) => { F := x.F, Undo := x.Undo, State := (2 : Int), Tries := x.Tries, Due := x.Due, V := x.V : DTask }) (Int.toNat y.2.2.2.1) fun (x : DTask) => { F := x.F, Undo := x.Undo, State := x.State, Tries := x.Tries, Due := IntKind.wrap IntKind.i64 (now + backoff (2 : Int) (List.getD (List.modify (List.modify y.1 (Int.toNat y.2.2.2.1) fun (x : DTask) => { F := x.F, Undo := x.Undo, State := x.State, Tries := IntKind.wrap IntKind.i64 ((List.getD y.1 (Int.toNat y.2.2.2.1) zTask).Tries + (1 : Int)), Due := x.Due, V := x.V : DTask }) (Int.toNat y.2.2.2.1) fun (x : DTask) => { F := x.F, Undo := x.Undo, State := (2 : Int), Tries := x.Tries, Due := x.Due, V := x.V : DTask }) (Int.toNat y.2.2.2.1) zTask).Tries (60 : Int)), V := x.V : DTask }) (Int.toNat y.2.2.2.1) zTask).F, F := (List.getD (List.modify (List.modify (List.modify y.1 (Int.toNat y.2.2.2.1) fun (x : DTask) => { F := x.F, Undo := x.Undo, State := x.State, Tries := IntKind.wrap IntKind.i64 ((List.getD y.1 (Int.toNat y.2.2.2.1) zTask).Tries + (1 : Int)), Due := x.Due, V := x.V : DTask }) (Int.toNat y.2.2.2.1) fun (x : DTask) => { F := x.F, Undo := x.Undo, State := (2 : Int), Tries := x.Tries, Due := x.Due, V := x.V : DTask }) (Int.toNat y.2.2.2.1) fun (x : DTask) => { F := x.F, Undo := x.Undo, State := x.State, Tries := x.Tries, Due := IntKind.wrap IntKind.i64 (now + backoff (2 : Int) (List.getD (List.modify (List.modify y.1 (Int.toNat y.2.2.2.1) fun (x : DTask) => { F := x.F, Undo := x.Undo, State := x.State, Tries := IntKind.wrap IntKind.i64 ((List.getD y.1 (Int.toNat y.2.2.2.1) zTask).Tries + (1 : Int)), Due := x.Due, V := x.V : DTask }) (Int.toNat y.2.2.2.1) fun (x : DTask) => { F := x.F, Undo := x.Undo, State := (2 : Int), Tries := x.Tries, Due := x.Due, V := x.V : DTask }) (Int.toNat y.2.2.2.1) zTask).Tries (60 : Int)), V := x.V : DTask }) (Int.toNat y.2.2.2.1) zTask).F, Try := (List.getD (List.modify (List.modify (List.modify y.1 (Int.toNat y.2.2.2.1) fun (x : DTask) => { F := x.F, Undo := x.Undo, State := x.State, Tries := IntKind.wrap IntKind.i64 ((List.getD y.1 (Int.toNat y.2.2.2.1) zTask).Tries + (1 : Int)), Due := x.Due, V := x.V : DTask }) (Int.toNat y.2.2.2.1) fun (x : DTask) => { F := x.F, Undo := x.Undo, State := (2 : Int), Tries := x.Tries, Due := x.Due, V := x.V : DTask }) (Int.toNat y.2.2.2.1) fun (x : DTask) => { F := x.F, Undo := x.Undo, State := x.State, Tries := x.Tries, Due := IntKind.wrap IntKind.i64 (now + backoff (2 : Int) (List.getD (List.modify (List.modify y.1 (Int.toNat y.2.2.2.1) fun (x : DTask) => { F := x.F, Undo := x.Undo, State := x.State, Tries := IntKind.wrap IntKind.i64 ((List.getD y.1 (Int.toNat y.2.2.2.1) zTask).Tries + (1 : Int)), Due := x.Due, V := x.V : DTask }) (Int.toNat y.2.2.2.1) fun (x : DTask) => { F := x.F, Undo := x.Undo, State := (2 : Int), Tries := x.Tries, Due := x.Due, V := x.V : DTask }) (Int.toNat y.2.2.2.1) zTask).Tries (60 : Int)), V := x.V : DTask }) (Int.toNat y.2.2.2.1) zTask).Tries : DCall }];
    let x1 : List DTask := List.modify (List.modify (List.modify y.1 (Int.toNat y.2.2.2.1) fun (x : DTask) => { F := x.F, Undo := x.Undo, State := x.State, Tries := IntKind.wrap IntKind.i64 ((List.getD y.1 (Int.toNat y.2.2.2.1) zTask).Tries + (1 : Int)), Due := x.Due, V := x.V : DTask }) (Int.toNat y.2.2.2.1) fun (x : DTask) => { F := x.F, Undo := x.Undo, State := (2 : Int), Tries := x.Tries, Due := x.Due, V := x.V : DTask }) (Int.toNat y.2.2.2.1) fun (x : DTask) => { F := x.F, Undo := x.Undo, State := x.State, Tries := x.Tries, Due := IntKind.wrap IntKind.i64 (now + backoff (2 : Int) (List.getD (List.modify (List.modify y.1 (Int.toNat y.2.2.2.1) fun (x : DTask) => { F := x.F, Undo := x.Undo, State := x.State, Tries := IntKind.wrap IntKind.i64 ((List.getD y.1 (Int.toNat y.2.2.2.1) zTask).Tries + (1 : Int)), Due := x.Due, V := x.V : DTask }) (Int.toNat y.2.2.2.1) fun (x : DTask) => { F := x.F, Undo := x.Undo, State := (2 : Int), Tries := x.Tries, Due := x.Due, V := x.V : DTask }) (Int.toNat y.2.2.2.1) zTask).Tries (60 : Int)), V := x.V : DTask };
    let x2 : Nat := Int.toNat y.2.2.2.1;
    let x3 : List DTask := List.modify y.1 x2 fun (x : DTask) => { F := x.F, Undo := x.Undo, State := (4 : Int), Tries := x.Tries, Due := x.Due, V := x.V : DTask };
    let x4 : List DTask := List.modify y.1 x2 fun (x : DTask) => { F := x.F, Undo := x.Undo, State := x.State, Tries := IntKind.wrap IntKind.i64 ((List.getD y.1 x2 zTask).Tries + (1 : Int)), Due := x.Due, V := x.V : DTask };
    I_spec_l18Send_4 l now y → bif decide (y.2.2.2.1 < (↑(List.length y.1) : Int)) then (0 : Int) ≤ y.2.2.2.1 ∧ x2 < List.length y.1 ∧ x2 < List.length y.1 ∧ x2 < List.length y.1 ∧ bif !due now (List.getD y.1 x2 zTask) then I_spec_l18Send_4 l now (y.1, y.2.1, y.2.2.1, IntKind.wrap IntKind.i64 (y.2.2.2.1 + (1 : Int)), PUnit.unit) ∧ μ_spec_l18Send_4 l now (y.1, y.2.1, y.2.2.1, IntKind.wrap IntKind.i64 (y.2.2.2.1 + (1 : Int)), PUnit.unit) < μ_spec_l18Send_4 l now y else x2 < List.length y.1 ∧ bif (List.getD y.1 x2 zTask).Tries == (4 : Int) then x2 < List.length y.1 ∧ x2 < List.length x3 ∧ x2 < List.length x3 ∧ List.length y.2.2.1 + List.length [factText (List.getD x3 x2 zTask).F] ≤ (4294967296 : Nat) ∧ I_spec_l18Send_4 l now (x3, y.2.1, y.2.2.1 ++ [factText (List.getD x3 x2 zTask).F], IntKind.wrap IntKind.i64 (y.2.2.2.1 + (1 : Int)), PUnit.unit) ∧ μ_spec_l18Send_4 l now (x3, y.2.1, y.2.2.1 ++ [factText (List.getD x3 x2 zTask).F], IntKind.wrap IntKind.i64 (y.2.2.2.1 + (1 : Int)), PUnit.unit) < μ_spec_l18Send_4 l now y else x2 < List.length y.1 ∧ x2 < List.length y.1 ∧ x2 < List.length x4 ∧ x2 < List.length (List.modify x4 x2 fun (x : DTask) => { F := x.F, Undo := x.Undo, State := (2 : Int), Tries := x.Tries, Due := x.Due, V := x.V : DTask }) ∧ x2 < List.length (List.modify x4 x2 fun (x : DTask) => { F := x.F, Undo := x.Undo, State := (2 : Int), Tries := x.Tries, Due := x.Due, V := x.V : DTask }) ∧ x2 < List.length x1 ∧ x2 < List.length x1 ∧ x2 < List.length x1 ∧ x2 < List.length x1 ∧ List.length (List.getD x1 x2 zTask).F.Fields ≤ (4294967296 : Nat) ∧ x2 < List.length x1 ∧ List.length y.2.1 + List.length x0 ≤ (4294967296 : Nat) ∧ I_spec_l18Send_4 l now (x1, y.2.1 ++ x0, y.2.2.1, IntKind.wrap IntKind.i64 (y.2.2.2.1 + (1 : Int)), PUnit.unit) ∧ μ_spec_l18Send_4 l now (x1, y.2.1 ++ x0, y.2.2.1, IntKind.wrap IntKind.i64 (y.2.2.2.1 + (1 : Int)), PUnit.unit) < μ_spec_l18Send_4 l now y else asD [DV.one (Cell.sl Cd.eCall y.2.1), DV.one (Cell.sl Cd.str y.2.2.1)] = asD [DV.one (Cell.sl Cd.eCall (List.flatMap (call1 now) l)), DV.one (Cell.sl Cd.str (List.flatMap (fail1 now) l))] ∧ asD [DV.one (Cell.sl Cd.eTask y.1)] = asD [DV.one (Cell.sl Cd.eTask (List.map (send1 now) l))]) := by kernel_rfl
theorem ok_spec_l18Send : Holds EE (53, con_spec_l18Send) := by
  refine holds_of EE_ok Go.Proofs.Tryz.func53 con_spec_l18Send (by kernel_rfl) use_spec_l18Send (all_cons ok_spec_l18Due (all_cons ok_spec_TaskKey (all_cons ok_spec_Backoff (all_cons ok_spec_l3Copy all_nil)))) ann_spec_l18Send (fun x hp hb => ?_)
  obtain ⟨l, now⟩ := x
  have hb_l : BdDV (U := UU) (.one (.sl .eTask l)) := hb _ (List.mem_cons_self)
  have hl_l : l.length ≤ 9223372036854775807 := Bd.len hb_l
  have hb_now : BdDV (U := UU) (.one (.lit (.int .i64 now))) := hb _ (List.mem_cons_of_mem _ (List.mem_cons_self))
  have hl_now := Bd.i64 hb_now
  have hp0 : tasksOk l = true := hp _ (List.mem_cons_self)
  have hp1 : 0 ≤ now ∧ now ≤ 1000000000 := hp _ (List.mem_cons_of_mem _ (List.mem_cons_self))
  clear hp hb
  rw [vc_spec_l18Send l now]
  dsimp only
  refine ⟨⟨by omega, by omega, by simp, by simp, by simp⟩, ?_⟩
  rintro ⟨out, calls, failed, i, ⟨⟩⟩ ⟨h1, h2, rfl, rfl, rfl⟩
  have hl := map_row (send1 now) l h1 h2
  have hlen := tasksOk_len' hp0
  have hcl := flat_len (call1 now) (call1_len now) (l.take i.toNat)
  have hfl := flat_len (fail1 now) (fail1_len now) (l.take i.toNat)
  rw [List.length_take] at hcl hfl
  simp only
  refine if_cond (fun hc => ?_) (fun hc => ?_)
  · have hc := of_decide_eq_true hc
    have hc : i < l.length := by omega
    have hi : i.toNat < l.length := by omega
    have hg := mk_getD _ l zTask (map_tl (send1 now) l h1 h2) h1 hc
    obtain ⟨s1, s2, s3, s4, s5⟩ := taskOk_st (tasksOk_at hp0 hi)
    have hct := flat_step (call1 now) l zTask h1 hc
    have hft := flat_step (fail1 now) l zTask h1 hc
    have hM := fun F hF => map_mod (send1 now) l zTask F h1 hc hF
    have hS := fun hF => map_skip (send1 now) l zTask h1 hc hF
    have hb := backoff_le ((List.getD l i.toNat zTask).Tries + 1)
    generalize hRR : (l.map (send1 now)).take i.toNat ++ l.drop i.toNat = R at *
    rw [wrap_i64 (n := i + 1) (by omega) (by omega)]
    simp (disch := first | omega | (simp only [List.length_modify]; omega)) only [getD_modify, modify_modify, List.length_modify, hl, hg]
    generalize hT : List.getD l i.toNat zTask = t at *
    simp (disch := omega) only [wrap_i64, List.length_cons, List.length_nil]
    repeat' (first | refine And.intro (by omega) ?_ | refine if_cond (fun h => ?_) (fun h => ?_) | fail)
    all_goals simp only [Bool.not_eq_true', Bool.not_eq_false', decide_eq_true_eq, decide_eq_false_iff_not, beq_iff_eq, beq_eq_false_iff_ne] at *
    all_goals first
      | (have hd : due now t = true := by first | assumption | (simp only [due]; grind)
         have e1 : call1 now t = [] := by simp only [call1]; exact if_neg (by simp_all)
         have e2 : fail1 now t = [factText t.F] := by simp only [fail1]; exact if_pos ⟨hd, by assumption⟩
         rw [e1, List.append_nil] at hct
         rw [e2] at hft
         rw [hM _ (by simp only [send1, hd, if_true]; rw [if_pos (by assumption)])]
         exact ⟨⟨by omega, by omega, rfl, hct, hft⟩, by simp only [μ_spec_l18Send_4]; omega⟩)
      | (have hd : due now t = true := by first | assumption | (simp only [due]; grind)
         have e1 : call1 now t = [⟨factText t.F, t.F, t.Tries + 1⟩] := by simp only [call1]; exact if_pos ⟨hd, by assumption⟩
         have e2 : fail1 now t = [] := by simp only [fail1]; exact if_neg (by simp_all)
         rw [e2, List.append_nil] at hft
         rw [e1] at hct
         rw [hM _ (by simp only [send1, hd, if_true]; rw [if_neg (by assumption)])]
         exact ⟨⟨by omega, by omega, rfl, hct, hft⟩, by simp only [μ_spec_l18Send_4]; omega⟩)
      | (have hd : due now t = false := by first | assumption | (simp only [due]; grind)
         have e1 : call1 now t = [] := by simp only [call1]; exact if_neg (by simp_all)
         have e2 : fail1 now t = [] := by simp only [fail1]; exact if_neg (by simp_all)
         rw [e1, List.append_nil] at hct
         rw [e2, List.append_nil] at hft
         have hs := hS (by simp only [send1, hd]; rfl)
         exact ⟨⟨by omega, by omega, hs, hct, hft⟩, by simp only [μ_spec_l18Send_4]; omega⟩)
  · have hc := of_decide_eq_false hc
    exact ⟨by rw [take_all l (by omega)]; rfl, asD_row (map_done (i := i) (send1 now) l (by omega))⟩
theorem smallV_ok (c : DCur) : valOk (smallV c) = true := by
  unfold smallV; split
  · have := belowV_lt (c := belowC c 2) (n := 3) (by omega)
    simp only [valOk, decide_true, cond_true, Bool.and_true]
    simp only [decide_eq_true_eq]; omega
  · have h := strV_all (belowC c 2) (l := sLsmall) (fun s => decide (s.size ≤ 20) && wordS s) (by decide) (by rfl)
    simp only [valOk]
    simpa using h
def vFit (v : DVal) : Bool := decide (v.S.size ≤ 21)
def fFit (f : DFact) : Prop := f.Kind.size ≤ 13 ∧ f.Fields.length ≤ 6 ∧ f.Fields.all vFit = true
theorem valOk_fit {v : DVal} (h : valOk v = true) : vFit v = true := by
  simp only [valOk] at h
  simp only [vFit, decide_eq_true_eq]
  by_cases h1 : v.K = 1
  · simp [h1] at h; rw [h.2]; simp [noBytes]
  · by_cases h2 : v.K = 2
    · simp [h2] at h; omega
    · simp [h1, h2] at h
theorem valV_fit (c : DCur) : vFit (valV c) = true := by
  unfold valV; split
  · rfl
  · exact strV_all (belowC c 2) (l := sLval) (fun s => decide (s.size ≤ 21)) (by decide) (by rfl)
theorem anyvV_fit (c : DCur) : vFit (anyvV c) = true := by
  have h := valV_fit c
  simp only [anyvV]; split
  · exact h
  · split
    · exact h
    · split
      · exact strV_all _ (l := sLany) (fun s => decide (s.size ≤ 21)) (by decide) (by rfl)
      · exact h
theorem smallsL_all {p : DVal → Bool} (hp : ∀ c, p (smallV c) = true) : ∀ (k : Nat) (l : List DVal) (c : DCur), l.all p = true → (smallsL k l c).all p = true
  | 0, _, _, h => h
  | k + 1, l, c, h => smallsL_all hp k _ _ (by rw [List.all_append, h]; simp [hp])
theorem factV_ok (c : DCur) : factOk (factV c) = true := by
  have h1 := factV_len c
  have h2 := factN_le c
  have h3 : nameOk (factV c).Kind = true := strV_all c (l := sLkind) nameOk (by decide) (by rfl)
  have h4 : (factV c).Fields.all valOk = true := smallsL_all smallV_ok _ _ _ rfl
  simp only [factOk, h3, h4, Bool.and_true, Bool.true_and, decide_eq_true_eq]
  omega
theorem ok_fit {f : DFact} (h : factOk f = true) : fFit f := by
  obtain ⟨h1, h2, h3, h4⟩ := factOk_fields h
  exact ⟨by omega, by omega, List.all_eq_true.2 fun v hv => valOk_fit (List.all_eq_true.1 h2 v hv)⟩
theorem padL_fit {l : List DVal} {c : DCur} (h : l.all vFit = true) (hl : l.length ≤ 6) : (padL l c).1.all vFit = true ∧ (padL l c).1.length ≤ 6 := by
  have hb := belowV_lt (c := c) (n := 2) (by omega)
  by_cases hn : (l.length : Int) < 5 + belowV c 2
  · rw [padL_yes hn]
    refine padL_fit (l := l ++ [valV (belowC c 2)]) ?_ ?_
    · rw [List.all_append, h]; simp [valV_fit]
    · simp only [List.length_append, List.length_cons, List.length_nil]; omega
  · rw [padL_no hn]; exact ⟨h, hl⟩
termination_by 6 - l.length
decreasing_by
  simp only [List.length_append, List.length_cons, List.length_nil]; omega
theorem anyF_fit (c : DCur) : fFit (anyF c) := by
  obtain ⟨h1, h2, h3⟩ := ok_fit (factV_ok c)
  have h5 := (factOk_fields (factV_ok c)).1
  simp only [anyF]; split
  · refine ⟨?_, h2, h3⟩
    have := strV_all (belowC (factC c) 10) (l := sLanyk) (fun s => decide (s.size ≤ 13)) (by decide) (by rfl)
    simpa using this
  · split
    · exact ⟨h1, by simp only [List.length_append, List.length_cons, List.length_nil]; omega, by rw [List.all_append, h3]; simp [anyvV_fit]⟩
    · split
      · exact ⟨h1, (padL_fit h3 h2).2, (padL_fit h3 h2).1⟩
      · exact ⟨h1, h2, h3⟩
theorem vals_size : ∀ {l : List DVal}, l.all vFit = true → sizeValS l ≤ 22 * l.length
  | [], _ => by simp [sizeValS]
  | x :: l, h => by
    simp only [List.all_cons, Bool.and_eq_true] at h
    have h1 := vals_size h.2
    have h2 := h.1
    simp only [vFit, decide_eq_true_eq] at h2
    simp only [sizeValS, List.length_cons, List.map_cons, List.sum_cons, sizeVal] at h1 ⊢
    omega
theorem fit_size {f : DFact} (h : fFit f) : sizeFact f ≤ 145 := by
  obtain ⟨h1, h2, h3⟩ := h
  have := vals_size h3
  simp only [sizeFact]; omega
theorem sumB {α : Type} (f : α → Nat) (B : Nat) : ∀ (l : List α), (∀ x ∈ l, f x ≤ B) → (l.map f).sum ≤ l.length * B
  | [], _ => by simp
  | x :: l, h => by
    have h1 := sumB f B l (fun y hy => h y (List.mem_cons_of_mem _ hy))
    have h2 := h x List.mem_cons_self
    simp only [List.map_cons, List.sum_cons, List.length_cons, Nat.add_mul]; omega
theorem undoS_size {l : List DUndo} {B : Nat} (h : ∀ u ∈ l, sizeUndo u ≤ B) : sizeUndoS l ≤ l.length * (B + 1) := by
  have := sumB sizeUndo B l h
  simp only [sizeUndoS, Nat.mul_add]; omega
theorem factText_size (f : DFact) : (factText f).size ≤ 200 := by
  unfold factText; split
  · rename_i h
    obtain ⟨h1, h2, h3, h4⟩ := factOk_fields h
    have := join_len f.Fields h2
    rw [mkB_size]; simp only [List.length_append, bs_len, valsT, List.length_cons, List.length_nil]; omega
  · simp [noBytes]
theorem nameOk_size {s : ByteArray} (h : nameOk s = true) : s.size ≤ 12 := by
  simp only [nameOk, Bool.and_eq_true, decide_eq_true_eq] at h; omega
theorem pushUndo_mem {l : List DUndo} {t : DTask} {B : Nat} (hB : 400 ≤ B) (h : ∀ u ∈ l, sizeUndo u ≤ B) : ∀ u ∈ (pushUndo l t).1, sizeUndo u ≤ B := by
  unfold pushUndo; split
  · rename_i hc
    simp only [canPush, Bool.and_eq_true] at hc
    intro u hu
    rcases List.mem_append.1 hu with hu | hu
    · exact h u hu
    · rw [List.mem_singleton.1 hu]
      have h1 := factText_size t.F
      have h2 := nameOk_size hc.1.1.2
      have h3 := vals_size (ok_fit hc.1.1.1.2).2.2
      have h4 := (ok_fit hc.1.1.1.2).2.1
      simp only [sizeUndo, sizeFact]; omega
  · exact h
theorem pushUndo_len (l : List DUndo) (t : DTask) : (pushUndo l t).1.length ≤ l.length + 1 := by
  unfold pushUndo; split <;> simp
def sLundo : List ByteArray := [⟨#[114, 101, 102, 117, 110, 100]⟩, ⟨#[99, 97, 110, 99, 101, 108]⟩]
def tUndo (c : DCur) : DTask := ⟨factV c, strV (factC c) sLundo, 0, 0, 0, zVal⟩
def tUndoC (c : DCur) : DCur := strC (factC c) sLundo
theorem cOk_tUndo {c : DCur} (h : cOk c) : cOk (tUndoC c) := cOk_str (cOk_fact h) _
def drawU : Nat → List DUndo → DCur → List DUndo × DCur
  | 0, l, c => (l, c)
  | k + 1, l, c => drawU k (pushUndo l (tUndo c)).1 (tUndoC c)
theorem drawU_ok : ∀ (k : Nat) {l : List DUndo} {c : DCur}, cOk c → (∀ u ∈ l, sizeUndo u ≤ 400) → cOk (drawU k l c).2 ∧ (∀ u ∈ (drawU k l c).1, sizeUndo u ≤ 400) ∧ (drawU k l c).1.length ≤ l.length + k
  | 0, _, _, h, h2 => ⟨h, h2, by simp [drawU]⟩
  | k + 1, l, c, h, h2 => by
    obtain ⟨h3, h4, h5⟩ := drawU_ok k (cOk_tUndo h) (pushUndo_mem (t := tUndo c) (Nat.le_refl 400) h2)
    have := pushUndo_len l (tUndo c)
    exact ⟨h3, h4, by simp only [drawU]; omega⟩
def undosV (c : DCur) : List DUndo := (drawU (belowV c 5).toNat [] (belowC c 5)).1
def undosC (c : DCur) : DCur := (drawU (belowV c 5).toNat [] (belowC c 5)).2
theorem undos_ok {c : DCur} (h : cOk c) : cOk (undosC c) ∧ (∀ u ∈ undosV c, sizeUndo u ≤ 400) ∧ (undosV c).length ≤ 4 := by
  have hb := belowV_lt (c := c) (n := 5) (by omega)
  obtain ⟨h1, h2, h3⟩ := drawU_ok (belowV c 5).toNat (l := []) (cOk_below h 5) (by simp)
  exact ⟨h1, h2, by simp only [List.length_nil] at h3; simp only [undosV]; omega⟩
def bX : ByteArray := ⟨#[120]⟩
def keyL (l : List DUndo) : List ByteArray := [noBytes, (List.getD l 0 zUndo).Key, bX]
noncomputable def anyU (c : DCur) : List DUndo := let l := undosV c; if l = [] then l else
  let k := belowV (undosC c) l.length; let d := belowC (undosC c) l.length; let s := belowV d 8; let e := belowC d 8
  if s = 0 then l.modify k.toNat (fun u => ⟨strV e (keyL l), u.F⟩) else if s = 1 then l.modify k.toNat (fun u => ⟨u.Key, anyF e⟩) else l
noncomputable def anyUC (c : DCur) : DCur := let l := undosV c; if l = [] then undosC c else
  let d := belowC (undosC c) l.length; let s := belowV d 8; let e := belowC d 8
  if s = 0 then strC e (keyL l) else if s = 1 then anyFC e else e
theorem getD_le {l : List DUndo} {B : Nat} (h : ∀ u ∈ l, sizeUndo u ≤ B) : (List.getD l 0 zUndo).Key.size ≤ B := by
  cases l with
  | nil => simp [zUndo, noBytes]
  | cons x r => have := h x List.mem_cons_self; simp only [sizeUndo] at this; simp only [List.getD_cons_zero]; omega
theorem modify_all {α : Type} {p : α → Prop} (f : α → α) (hf : ∀ x, p x → p (f x)) : ∀ (l : List α) (k : Nat), (∀ x ∈ l, p x) → ∀ x ∈ l.modify k f, p x
  | [], k, h => by simp
  | x :: l, 0, h => by
    intro y hy
    simp only [List.modify_zero_cons, List.mem_cons] at hy
    rcases hy with rfl | hy
    · exact hf x (h x List.mem_cons_self)
    · exact h y (List.mem_cons_of_mem _ hy)
  | x :: l, k + 1, h => by
    intro y hy
    simp only [List.modify_succ_cons, List.mem_cons] at hy
    rcases hy with rfl | hy
    · exact h y List.mem_cons_self
    · exact modify_all f hf l k (fun z hz => h z (List.mem_cons_of_mem _ hz)) y hy
theorem asD_undo {a a' : List DUndo} (h : a = a') : asD ([DV.one (Cell.sl Cd.eUndo a)] : List (DV UU)) = asD ([DV.one (Cell.sl Cd.eUndo a')] : List (DV UU)) := by rw [h]
def uFit (u : DUndo) : Prop := u.Key.size ≤ 400 ∧ sizeFact u.F ≤ 400
theorem uFit_of {u : DUndo} (h : sizeUndo u ≤ 400) : uFit u := by simp only [sizeUndo] at h; exact ⟨by omega, by omega⟩
theorem uFit_size {u : DUndo} (h : uFit u) : sizeUndo u ≤ 800 := by obtain ⟨h1, h2⟩ := h; simp only [sizeUndo]; omega
theorem mod_key {l : List DUndo} (k : Nat) {key : ByteArray} (hk : key.size ≤ 400) (h : ∀ u ∈ l, uFit u) : ∀ u ∈ l.modify k (fun u => (⟨key, u.F⟩ : DUndo)), uFit u :=
  modify_all (p := uFit) (fun u => (⟨key, u.F⟩ : DUndo)) (fun u hu => ⟨hk, hu.2⟩) l k h
theorem mod_F {l : List DUndo} (k : Nat) {f : DFact} (hk : sizeFact f ≤ 400) (h : ∀ u ∈ l, uFit u) : ∀ u ∈ l.modify k (fun u => (⟨u.Key, f⟩ : DUndo)), uFit u :=
  modify_all (p := uFit) (fun u => (⟨u.Key, f⟩ : DUndo)) (fun u hu => ⟨hu.1, hk⟩) l k h
theorem anyU_ok {c : DCur} (h : cOk c) : cOk (anyUC c) ∧ (∀ u ∈ anyU c, sizeUndo u ≤ 800) ∧ (anyU c).length ≤ 4 := by
  obtain ⟨h1, h2, h3⟩ := undos_ok h
  have h2' : ∀ u ∈ undosV c, uFit u := fun u hu => uFit_of (h2 u hu)
  have he := cOk_below (cOk_below h1 (undosV c).length) 8
  refine ⟨?_, fun u hu => uFit_size ?_, ?_⟩
  · simp only [anyUC]; split
    · exact h1
    · split
      · exact cOk_str he _
      · split
        · exact cOk_anyF he
        · exact he
  · revert u
    simp only [anyU]; split
    · exact h2'
    · split
      · refine mod_key _ ?_ h2'
        have hk := strV_mem (belowC (belowC (undosC c) (undosV c).length) 8) (l := keyL (undosV c)) (by simp [keyL])
        simp only [keyL, List.mem_cons, List.not_mem_nil, or_false] at hk
        show (strV _ (keyL (undosV c))).size ≤ 400
        rcases hk with hk | hk | hk
        · simp only [keyL]; rw [hk]; simp [noBytes]
        · simp only [keyL]; rw [hk]; exact getD_le h2
        · simp only [keyL]; rw [hk]; decide
      · split
        · exact mod_F _ (Nat.le_trans (fit_size (anyF_fit _)) (by omega)) h2'
        · exact h2'
  · simp only [anyU]; split
    · omega
    · split
      · simp only [List.length_modify]; omega
      · split
        · simp only [List.length_modify]; omega
        · omega
def bendK (l : List ByteArray) (k : Int) : List ByteArray := if k = 0 then l ++ [bX] else if k = 1 then (if 1 < l.length then (l.set 0 (List.getD l 1 noBytes)).set 1 (List.getD l 0 noBytes) else l) else l
theorem Lf_uk {a a' : List DUndo} {b b' : List ByteArray} (h1 : a = a') (h2 : b = b') : Lf [.one (.sl .eUndo a), .one (.sl .str b)] [.one (.sl .eUndo a'), .one (.sl .str b')] := by
  subst h1 h2; exact Lf_rfl _
noncomputable def drawnK (code : List Int) : List ByteArray := bendK ((anyU (newCur code)).reverse.map DUndo.Key) (belowV (anyUC (newCur code)) 4)
def newTask (f : DFact) (undo : ByteArray) (now : Int) : DTask := ⟨f, undo, 1, 0, now, zVal⟩
def hasTask (l : List DTask) (f : DFact) : Bool := anyI l.length fun k => decide ((List.getD l k zTask).F = f)
def startL (l : List DTask) (f : DFact) (undo : ByteArray) (now : Int) : List DTask × Bool :=
  if hasTask l f = true then (l, true) else if 30 ≤ l.length then (l, false) else (l ++ [newTask f undo now], true)
def canStart (l : List DTask) (f : DFact) (undo : ByteArray) (now : Int) : Bool := tasksOk l && factOk f && undoOk undo && decide (0 ≤ now ∧ now ≤ 1000000000)
def startTask (l : List DTask) (f : DFact) (undo : ByteArray) (now : Int) : List DTask × Bool := if canStart l f undo now = true then startL l f undo now else (l, false)
theorem startL_ct (l : List DTask) (f : DFact) (undo : ByteArray) (now : Int) : cntTaskS (startL l f undo now).1 ≤ cntTaskS l + 20 * (sizeFact f + undo.size) + 20 := by
  have h := cntTask_le (newTask f undo now)
  simp only [sizeTask, newTask] at h
  have hz : sizeVal zVal = 0 := rfl
  rw [hz] at h
  unfold startL
  split
  · show cntTaskS l ≤ _; omega
  · split
    · show cntTaskS l ≤ _; omega
    · show ctS cntTask (l ++ [newTask f undo now]) ≤ _
      rw [ctS_append]
      have : ctS cntTask [newTask f undo now] = cntTask (newTask f undo now) := by simp [ctS]
      have hc : cntTaskS l = ctS cntTask l := rfl
      rw [this, hc]
      simp only [newTask] at h ⊢
      omega
theorem startTask_ct (l : List DTask) (f : DFact) (undo : ByteArray) (now : Int) : cntTaskS (startTask l f undo now).1 ≤ cntTaskS l + 20 * (sizeFact f + undo.size) + 20 := by
  unfold startTask
  split
  · exact startL_ct l f undo now
  · show cntTaskS l ≤ _; omega
theorem placeOf_ge (l : List DTask) (f : DFact) : decide (0 ≤ placeOf l f) = hasTask l f := idxI_ge
theorem tasksOk_len {l : List DTask} (h : tasksOk l = true) : l.length ≤ 30 := by
  simp only [tasksOk, Bool.and_eq_true, decide_eq_true_eq] at h; exact h.1
def con_spec_l18Start : Con UU where
  α := (List DTask) × DFact × ByteArray × Int
  md := [.mv, .ro, .ro, .ro]
  of := fun | [.one (.sl .eTask a0), .agg [.lit (.string a1), .sl .eVal a2], .one (.lit (.string a3)), .one (.lit (.int .i64 a4))] => some (a0, ⟨a1, a2⟩, a3, a4) | _ => none
  ds := fun (l, f, undo, now) => [.one (.sl .eTask l), .agg [.lit (.string f.Kind), .sl .eVal f.Fields], .one (.lit (.string undo)), .one (.lit (.int .i64 now))]
  pre := fun (l, f, undo, now) => [f.Fields.length ≤ 4294967296]
  res := fun (l, f, undo, now) => ⟨[.one (.sl .eTask ((startL l f undo now).1)), .one (.lit (.bool ((startL l f undo now).2)))], true, []⟩
  law := by intro l x h; (try simp only at h); split at h <;> cases h; rfl
def I_spec_l18Start_2 (l : (List DTask)) (f : DFact) (undo : ByteArray) (now : Int) : List DTask × Int × (ByteArray × List DVal × Unit) × Unit → Prop := fun (row, i, fb, _) => row = l ∧ fb = (f.Kind, f.Fields, ()) ∧ 0 ≤ i ∧ i ≤ l.length ∧ ∀ j : Nat, (j : Int) < i → decide ((List.getD l j zTask).F = f) = false
def μ_spec_l18Start_2 (l : (List DTask)) (f : DFact) (undo : ByteArray) (now : Int) : List DTask × Int × (ByteArray × List DVal × Unit) × Unit → Nat := fun (row, i, fb, _) => l.length - i.toNat
def ann_spec_l18Start : con_spec_l18Start.α → Nat → Option (Ann UU) := fun (l, f, undo, now) => annL [(2, annOf [.slot 0 (0, 1024) (.own .eTask true), .slot 10 (10, 1024) (.lit (.int .i64)), .box 5 (5, 1024) [.lit .str, .shr .eVal]] (fun _ => I_spec_l18Start_2 l f undo now) (μ_spec_l18Start_2 l f undo now))]
def use_spec_l18Start : List (FuncId × Con UU) := [(56, con_spec_SameFact), (59, con_spec_l3Copy)]
theorem vc_spec_l18Start (l : (List DTask)) (f : DFact) (undo : ByteArray) (now : Int) : goal EE use_spec_l18Start Go.Proofs.Tryz.f27 con_spec_l18Start ann_spec_l18Start (l, f, undo, now) = (I_spec_l18Start_2 l f undo now (l, (0 : Int), (f.Kind, f.Fields, PUnit.unit), PUnit.unit) ∧
  ∀ (y : List DTask × Int × (ByteArray × List DVal × PUnit) × PUnit),
    let x0 : List DTask := [{ F := { Kind := y.2.2.1.1, Fields := y.2.2.1.2.1 : DFact }, Undo := undo, State := (1 : Int), Tries := (0 : Int), Due := now, V := { K := (0 : Int), N := (0 : Int), S := { data := #[] : ByteArray } : DVal } : DTask }];
    let x1 : Nat := Int.toNat y.2.1;
    let x2 : Int := (↑(List.length y.1) : Int);
    I_spec_l18Start_2 l f undo now y → bif decide (y.2.1 < x2) then (0 : Int) ≤ y.2.1 ∧ x1 < List.length y.1 ∧ x1 < List.length y.1 ∧ x1 < List.length y.1 ∧ bif decide ((List.getD y.1 x1 zTask).F = { Kind := y.2.2.1.1, Fields := y.2.2.1.2.1 : DFact }) then Lf [DV.one (Cell.sl Cd.eTask y.1), DV.one (Cell.lit (Value.bool true))] [DV.one (Cell.sl Cd.eTask (startL l f undo now).1), DV.one (Cell.lit (Value.bool (startL l f undo now).2))] else I_spec_l18Start_2 l f undo now (y.1, IntKind.wrap IntKind.i64 (y.2.1 + (1 : Int)), (y.2.2.1.1, y.2.2.1.2.1, PUnit.unit), PUnit.unit) ∧ μ_spec_l18Start_2 l f undo now (y.1, IntKind.wrap IntKind.i64 (y.2.1 + (1 : Int)), (y.2.2.1.1, y.2.2.1.2.1, PUnit.unit), PUnit.unit) < μ_spec_l18Start_2 l f undo now y else bif decide (x2 ≥ (30 : Int)) then Lf [DV.one (Cell.sl Cd.eTask y.1), DV.one (Cell.lit (Value.bool false))] [DV.one (Cell.sl Cd.eTask (startL l f undo now).1), DV.one (Cell.lit (Value.bool (startL l f undo now).2))] else List.length y.2.2.1.2.1 ≤ (4294967296 : Nat) ∧ List.length y.1 + List.length x0 ≤ (4294967296 : Nat) ∧ Lf [DV.one (Cell.sl Cd.eTask (y.1 ++ x0)), DV.one (Cell.lit (Value.bool true))] [DV.one (Cell.sl Cd.eTask (startL l f undo now).1), DV.one (Cell.lit (Value.bool (startL l f undo now).2))]) := by kernel_rfl
theorem ok_spec_l18Start : Holds EE (27, con_spec_l18Start) := by
  refine holds_of EE_ok Go.Proofs.Tryz.func27 con_spec_l18Start (by kernel_rfl) use_spec_l18Start (all_cons ok_spec_SameFact (all_cons ok_spec_l3Copy all_nil)) ann_spec_l18Start (fun x hp hb => ?_)
  obtain ⟨l, f, undo, now⟩ := x
  have hb_l : BdDV (U := UU) (.one (.sl .eTask l)) := hb _ (List.mem_cons_self)
  have hl_l : l.length ≤ 9223372036854775807 := Bd.len hb_l
  have hb_f : BdDV (U := UU) (.agg [.lit (.string f.Kind), .sl .eVal f.Fields]) := hb _ (List.mem_cons_of_mem _ (List.mem_cons_self))
  have hl_f_Kind : f.Kind.size ≤ 9223372036854775807 := Bd.str (hb_f _ (by simp))
  have hl_f_Fields : f.Fields.length ≤ 9223372036854775807 := Bd.len (U := UU) (τ := .eVal) (xs := f.Fields) (hb_f _ (by simp))
  have hb_undo : BdDV (U := UU) (.one (.lit (.string undo))) := hb _ (List.mem_cons_of_mem _ (List.mem_cons_of_mem _ (List.mem_cons_self)))
  have hl_undo : undo.size ≤ 9223372036854775807 := Bd.str hb_undo
  have hb_now : BdDV (U := UU) (.one (.lit (.int .i64 now))) := hb _ (List.mem_cons_of_mem _ (List.mem_cons_of_mem _ (List.mem_cons_of_mem _ (List.mem_cons_self))))
  have hl_now := Bd.i64 hb_now
  have hp0 : f.Fields.length ≤ 4294967296 := hp _ (List.mem_cons_self)
  clear hp hb
  rw [vc_spec_l18Start l f undo now]
  dsimp only
  refine ⟨⟨rfl, rfl, by omega, by omega, by intro j hj; omega⟩, ?_⟩
  rintro ⟨row, i, fb, ⟨⟩⟩ ⟨rfl, rfl, h1, h2, hR⟩
  simp only
  refine if_cond (fun hc => ?_) (fun hc => ?_)
  · have hc := of_decide_eq_true hc
    rw [wrap_i64 (by omega) (by omega)]
    repeat' (first | refine And.intro (by omega) ?_ | refine if_cond (fun h => ?_) (fun h => ?_) | fail)
    · have ha : hasTask row f = true := anyI_true (j := i.toNat) (by omega) h
      simp only [startL, if_pos ha]; exact Lf_rfl _
    · exact ⟨⟨rfl, rfl, by omega, by omega, upto_no h1 hR h⟩, by simp only [μ_spec_l18Start_2]; omega⟩
  · have hc := of_decide_eq_false hc
    have ha : ¬ hasTask row f = true := by
      rw [Bool.not_eq_true]; exact anyI_false fun j hj => hR j (by omega)
    refine if_cond (fun h => ?_) (fun h => ?_)
    · have h := of_decide_eq_true h
      simp only [startL, if_neg ha, if_pos (show 30 ≤ row.length by omega)]; exact Lf_rfl _
    · have h := of_decide_eq_false h
      repeat' (first | refine And.intro (by first | omega | (simp; omega)) ?_ | fail)
      simp only [startL, if_neg ha, if_neg (show ¬ 30 ≤ row.length by omega)]; exact Lf_rfl _
theorem tasksOk_iff {l : List DTask} : tasksOk l = true ↔ l.length ≤ 30 ∧ (∀ t ∈ l, taskOk t = true) ∧ (l.map DTask.F).Nodup := by
  have hg : ∀ {i : Nat} (h : i < l.length), List.getD l i zTask = l[i] := fun {i} h => by rw [List.getD_eq_getElem?_getD, List.getElem?_eq_getElem h]; rfl
  simp only [tasksOk, Bool.and_eq_true, decide_eq_true_eq]
  refine and_congr_right fun _ => ?_
  rw [allI_iff]
  constructor
  · intro h
    refine ⟨fun t ht => ?_, ?_⟩
    · obtain ⟨i, hi, rfl⟩ := List.getElem_of_mem ht
      have := h i hi
      simp only [taskAt, Bool.and_eq_true] at this
      rw [← hg hi]; exact this.1
    · rw [List.Nodup, List.pairwise_iff_getElem]
      intro i j hi hj hij
      simp only [List.length_map] at hi hj
      have := h j hj
      simp only [taskAt, Bool.and_eq_true, Bool.not_eq_true'] at this
      have := anyI_not.1 this.2 i hij
      simp only [decide_eq_false_iff_not] at this
      rw [hg hi, hg hj] at this
      simpa using this
  · rintro ⟨h1, h2⟩ j hj
    simp only [taskAt, Bool.and_eq_true, Bool.not_eq_true']
    refine ⟨by rw [hg hj]; exact h1 _ (List.getElem_mem hj), anyI_not.2 fun i hij => ?_⟩
    have hi : i < l.length := by omega
    rw [List.Nodup, List.pairwise_iff_getElem] at h2
    have := h2 i j (by simpa using hi) (by simpa using hj) hij
    simp only [decide_eq_false_iff_not]
    rw [hg hi, hg hj]
    simpa using this
theorem tasksOk_map {l : List DTask} {f : DTask → DTask} (hF : ∀ t, (f t).F = t.F) (hf : ∀ t, taskOk t = true → taskOk (f t) = true) (h : tasksOk l = true) : tasksOk (l.map f) = true := by
  rw [tasksOk_iff] at h ⊢
  refine ⟨by simpa using h.1, fun t ht => ?_, ?_⟩
  · obtain ⟨t0, h0, rfl⟩ := List.mem_map.1 ht
    exact hf _ (h.2.1 _ h0)
  · rw [List.map_map]
    have : DTask.F ∘ f = DTask.F := funext hF
    rw [this]; exact h.2.2
theorem map_modify_same {α β : Type} (g : α → β) (f : α → α) (hg : ∀ x, g (f x) = g x) : ∀ (l : List α) (k : Nat), (l.modify k f).map g = l.map g
  | [], k => by simp
  | x :: l, 0 => by simp [hg]
  | x :: l, k + 1 => by simp [map_modify_same g f hg l k]
theorem tasksOk_modify {l : List DTask} {f : DTask → DTask} {k : Nat} (hF : ∀ t, (f t).F = t.F) (hk : k < l.length) (hf : taskOk (f (List.getD l k zTask)) = true) (h : tasksOk l = true) : tasksOk (l.modify k f) = true := by
  rw [tasksOk_iff] at h ⊢
  refine ⟨by simpa using h.1, fun t ht => ?_, by rw [map_modify_same _ _ hF]; exact h.2.2⟩
  obtain ⟨i, hi, rfl⟩ := List.getElem_of_mem ht
  have hi' : i < l.length := by simpa using hi
  rw [List.getElem_modify]
  split
  · rename_i hki
    subst hki
    rw [List.getD_eq_getElem?_getD, List.getElem?_eq_getElem hk] at hf
    exact hf
  · exact h.2.1 _ (List.getElem_mem hi')
theorem taskOk_iff {t : DTask} : taskOk t = true ↔ factOk t.F = true ∧ undoOk t.Undo = true ∧ (1 ≤ t.State ∧ t.State ≤ 4) ∧ (0 ≤ t.Tries ∧ t.Tries ≤ 4) ∧ (0 ≤ t.Due ∧ t.Due ≤ 1000001000) ∧ (t.V = zVal ∨ valOk t.V = true) ∧ ((t.State = 1 → t.Tries = 0) ∧ (t.State = 2 → t.Tries ≠ 0)) := by
  simp only [taskOk, Bool.and_eq_true, Bool.or_eq_true, decide_eq_true_eq]
  constructor
  · rintro ⟨⟨⟨⟨⟨⟨h1, h2⟩, h3⟩, h4⟩, h5⟩, h6⟩, h7⟩; exact ⟨h1, h2, h3, h4, h5, h6, h7⟩
  · rintro ⟨h1, h2, h3, h4, h5, h6, h7⟩; exact ⟨⟨⟨⟨⟨⟨h1, h2⟩, h3⟩, h4⟩, h5⟩, h6⟩, h7⟩
theorem send1_F (now : Int) (t : DTask) : (send1 now t).F = t.F := by unfold send1; split; split <;> rfl; rfl
theorem send1_ok {now : Int} (h0 : 0 ≤ now) (h1 : now ≤ 1000000000) (t : DTask) (h : taskOk t = true) : taskOk (send1 now t) = true := by
  obtain ⟨a1, a2, a3, a4, a5, a6, a7⟩ := taskOk_iff.1 h
  unfold send1; split
  · split
    · exact taskOk_iff.2 ⟨a1, a2, by simp, a4, a5, a6, by simp⟩
    · have hb := backoff_le (t.Tries + 1)
      exact taskOk_iff.2 ⟨a1, a2, by simp, by simp only; omega, by simp only; omega, a6, by simp only; omega⟩
  · exact h
theorem tasksOk_send {l : List DTask} {now : Int} (h0 : 0 ≤ now) (h1 : now ≤ 1000000000) (h : tasksOk l = true) : tasksOk (l.map (send1 now)) = true := tasksOk_map (send1_F now) (send1_ok h0 h1) h
theorem giveUp1_F (t : DTask) : (giveUp1 t).F = t.F := by unfold giveUp1; split <;> rfl
theorem tasksOk_giveUp {l : List DTask} (h : tasksOk l = true) : tasksOk (giveUp l) = true := by
  refine tasksOk_map giveUp1_F (fun t h => ?_) h
  obtain ⟨a1, a2, a3, a4, a5, a6, a7⟩ := taskOk_iff.1 h
  unfold giveUp1; split
  · exact taskOk_iff.2 ⟨a1, a2, by simp, a4, a5, a6, by simp⟩
  · exact h
theorem tasksOk_reply {l : List DTask} {key : ByteArray} {ok : Bool} {v : DVal} (h : tasksOk l = true) : tasksOk (replyTask l key ok v).1 = true := by
  unfold replyTask; split
  · rename_i hc
    split
    · have hk := taskAtKey_lt (l := l) (key := key) hc.2.2.1
      refine tasksOk_modify (fun _ => rfl) hk ?_ h
      obtain ⟨a1, a2, a3, a4, a5, a6, a7⟩ := taskOk_iff.1 (tasksOk_at h hk)
      refine taskOk_iff.2 ⟨a1, a2, ?_, a4, a5, .inr hc.2.1, ?_⟩
      · simp only [replied]; split <;> omega
      · simp only [replied]; split <;> simp
    · exact h
  · exact h
theorem hasTask_mem {l : List DTask} {f : DFact} : hasTask l f = true ↔ f ∈ l.map DTask.F := by
  simp only [hasTask, anyI_iff, decide_eq_true_eq, List.mem_map]
  constructor
  · rintro ⟨j, hj, rfl⟩
    rw [List.getD_eq_getElem?_getD, List.getElem?_eq_getElem hj]
    exact ⟨l[j], List.getElem_mem hj, rfl⟩
  · rintro ⟨t, ht, rfl⟩
    obtain ⟨i, hi, rfl⟩ := List.getElem_of_mem ht
    exact ⟨i, hi, by rw [List.getD_eq_getElem?_getD, List.getElem?_eq_getElem hi]; rfl⟩
theorem tasksOk_start {l : List DTask} {f : DFact} {u : ByteArray} {now : Int} (h : tasksOk l = true) (hf : factOk f = true) (hu : undoOk u = true) (h0 : 0 ≤ now) (h1 : now ≤ 1000001000) : tasksOk (startL l f u now).1 = true := by
  unfold startL; split
  · exact h
  · rename_i hn
    split
    · exact h
    · rename_i hl
      rw [tasksOk_iff] at h ⊢
      refine ⟨by simp only [List.length_append, List.length_cons, List.length_nil]; omega, fun t ht => ?_, ?_⟩
      · rcases List.mem_append.1 ht with ht | ht
        · exact h.2.1 t ht
        · rw [List.mem_singleton.1 ht]
          exact taskOk_iff.2 ⟨hf, hu, by simp [newTask], by simp [newTask], by simp only [newTask]; omega, .inl rfl, by simp [newTask]⟩
      · rw [List.map_append, List.nodup_append]
        refine ⟨h.2.2, by simp, ?_⟩
        intro x hx y hy e
        rw [hasTask_mem] at hn
        simp only [List.map_cons, List.map_nil, List.mem_singleton] at hy
        rw [hy] at e; rw [e] at hx; exact hn hx
theorem startL_len (l : List DTask) (f : DFact) (u : ByteArray) (now : Int) : (startL l f u now).1.length ≤ l.length + 1 := by
  unfold startL; split
  · simp
  · split <;> simp
theorem reply_len (l : List DTask) (key : ByteArray) (ok : Bool) (v : DVal) : (replyTask l key ok v).1.length = l.length := by
  unfold replyTask; split
  · split <;> simp
  · rfl
def tFit (t : DTask) : Prop := sizeFact t.F ≤ 145 ∧ t.Undo.size ≤ 21 ∧ vFit t.V = true
theorem tFit_of {t : DTask} (h : taskOk t = true) : tFit t := by
  obtain ⟨a1, a2, a3, a4, a5, a6, a7⟩ := taskOk_iff.1 h
  refine ⟨fit_size (ok_fit a1), ?_, ?_⟩
  · simp only [undoOk, Bool.or_eq_true, decide_eq_true_eq] at a2
    rcases a2 with a2 | a2
    · rw [a2]; simp [noBytes]
    · have := nameOk_size a2; omega
  · rcases a6 with a6 | a6
    · rw [a6]; rfl
    · exact valOk_fit a6
theorem tFit_size {t : DTask} (h : tFit t) : sizeTask t ≤ 187 := by
  obtain ⟨h1, h2, h3⟩ := h
  simp only [vFit, decide_eq_true_eq] at h3
  simp only [sizeTask, sizeVal]; omega
theorem taskS_size {l : List DTask} (h : ∀ t ∈ l, tFit t) : sizeTaskS l ≤ l.length * 188 := by
  have := sumB sizeTask 187 l (fun t ht => tFit_size (h t ht))
  simp only [sizeTaskS]; omega
def sLu : List ByteArray := [⟨#[]⟩, ⟨#[114, 101, 102, 117, 110, 100]⟩]
def dT1 (l : List DTask) (now : Int) (d : DCur) : List DTask := (startL l (factV d) (strV (factC d) sLu) now).1
def dT3 (l : List DTask) (d : DCur) : List DTask :=
  let e := belowC d l.length
  (replyTask l (factText (List.getD l (belowV d l.length).toNat zTask).F) (!onceV e 3) (smallV (belowC e 3))).1
def dT (l : List DTask) (now : Int) (c : DCur) : List DTask :=
  let k := belowV c 4; let d := belowC c 4
  if k = 0 ∨ k = 1 then dT1 l now d else if k = 2 then l.map (send1 (now + belowV d 40)) else if 0 < l.length then dT3 l d else l
def dN (now : Int) (c : DCur) : Int := if belowV c 4 = 2 then now + belowV (belowC c 4) 40 else now
def dC (n : Nat) (c : DCur) : DCur :=
  let k := belowV c 4; let d := belowC c 4
  if k = 0 ∨ k = 1 then strC (factC d) sLu else if k = 2 then belowC d 40 else if 0 < n then smallC (belowC (belowC d n) 3) else d
def drawT : Nat → List DTask → Int → DCur → List DTask × DCur
  | 0, l, _, c => (l, c)
  | k + 1, l, now, c => drawT k (dT l now c) (dN now c) (dC l.length c)
theorem cOk_dC {n : Nat} {c : DCur} (h : cOk c) : cOk (dC n c) := by
  have h4 := cOk_below h 4
  simp only [dC]; split
  · exact cOk_str (cOk_fact h4) _
  · split
    · exact cOk_below h4 _
    · split
      · exact cOk_small (cOk_below (cOk_below h4 _) _)
      · exact h4
theorem undo_str (c : DCur) : undoOk (strV c sLu) = true := strV_all c undoOk (by decide) (by rfl)
theorem dN_le (now : Int) (c : DCur) : now ≤ dN now c ∧ dN now c ≤ now + 39 := by
  have := belowV_lt (c := belowC c 4) (n := 40) (by omega)
  unfold dN; split <;> omega
theorem dT_ok {l : List DTask} {now : Int} {c : DCur} (h : tasksOk l = true) (h0 : 0 ≤ now) (h1 : now ≤ 1000) : tasksOk (dT l now c) = true ∧ (dT l now c).length ≤ l.length + 1 := by
  have hb := belowV_lt (c := belowC c 4) (n := 40) (by omega)
  simp only [dT]; split
  · exact ⟨tasksOk_start h (factV_ok _) (undo_str _) h0 (by omega), startL_len _ _ _ _⟩
  · split
    · exact ⟨tasksOk_send (by omega) (by omega) h, by simp⟩
    · split
      · exact ⟨tasksOk_reply h, by simp only [dT3]; rw [reply_len]; omega⟩
      · exact ⟨h, by omega⟩
theorem drawT_ok : ∀ (k : Nat) {l : List DTask} {now : Int} {c : DCur}, cOk c → tasksOk l = true → 0 ≤ now → now + 39 * k ≤ 1000 → cOk (drawT k l now c).2 ∧ tasksOk (drawT k l now c).1 = true ∧ (drawT k l now c).1.length ≤ l.length + k
  | 0, _, _, _, h, h2, _, _ => ⟨h, h2, by simp [drawT]⟩
  | k + 1, l, now, c, h, h2, h3, h4 => by
    have hn := dN_le now c
    obtain ⟨t1, t2⟩ := dT_ok (c := c) h2 h3 (by omega)
    obtain ⟨h3, h4, h5⟩ := drawT_ok k (l := dT l now c) (now := dN now c) (c := dC l.length c) (cOk_dC h) t1 (by omega) (by omega)
    exact ⟨h3, h4, by simp only [drawT]; omega⟩
def tasksV (c : DCur) : List DTask := (drawT (belowV c 8).toNat [] 0 (belowC c 8)).1
def tasksC (c : DCur) : DCur := (drawT (belowV c 8).toNat [] 0 (belowC c 8)).2
theorem tasks_ok {c : DCur} (h : cOk c) : cOk (tasksC c) ∧ tasksOk (tasksV c) = true ∧ (tasksV c).length ≤ 7 := by
  have hb := belowV_lt (c := c) (n := 8) (by omega)
  obtain ⟨h1, h2, h3⟩ := drawT_ok (belowV c 8).toNat (l := []) (now := 0) (cOk_below h 8) rfl (by omega) (by omega)
  exact ⟨h1, h2, by simp only [List.length_nil] at h3; simp only [tasksV]; omega⟩
theorem if_eq {a b : Int} {P Q : Prop} (h1 : a = b → P) (h2 : ¬ a = b → Q) : bif a == b then P else Q := if_cond (fun h => h1 (eq_of_beq h)) (fun h => h2 (fun e => by rw [e] at h; simp at h))
theorem dT_1 {l : List DTask} {now : Int} {c : DCur} (h : belowV c 4 = 0 ∨ belowV c 4 = 1) : dT l now c = dT1 l now (belowC c 4) ∧ dN now c = now ∧ dC l.length c = strC (factC (belowC c 4)) sLu :=
  ⟨by simp only [dT]; rw [if_pos h], by rw [dN, if_neg (by omega)], by simp only [dC]; rw [if_pos h]⟩
theorem dT_2 {l : List DTask} {now : Int} {c : DCur} (h : belowV c 4 = 2) : dT l now c = l.map (send1 (now + belowV (belowC c 4) 40)) ∧ dN now c = now + belowV (belowC c 4) 40 ∧ dC l.length c = belowC (belowC c 4) 40 :=
  ⟨by simp only [dT]; rw [if_neg (by omega), if_pos h], by rw [dN, if_pos h], by simp only [dC]; rw [if_neg (by omega), if_pos h]⟩
theorem dT_3 {l : List DTask} {now : Int} {c : DCur} (h0 : ¬ belowV c 4 = 0) (h1 : ¬ belowV c 4 = 1) (h2 : ¬ belowV c 4 = 2) (hl : 0 < l.length) : dT l now c = dT3 l (belowC c 4) ∧ dN now c = now ∧ dC l.length c = smallC (belowC (belowC (belowC c 4) l.length) 3) :=
  ⟨by simp only [dT]; rw [if_neg (by omega), if_neg h2, if_pos hl], by rw [dN, if_neg h2], by simp only [dC]; rw [if_neg (by omega), if_neg h2, if_pos hl]⟩
theorem dT_4 {l : List DTask} {now : Int} {c : DCur} (h0 : ¬ belowV c 4 = 0) (h1 : ¬ belowV c 4 = 1) (h2 : ¬ belowV c 4 = 2) (hl : ¬ 0 < l.length) : dT l now c = l ∧ dN now c = now ∧ dC l.length c = belowC c 4 :=
  ⟨by simp only [dT]; rw [if_neg (by omega), if_neg h2, if_neg hl], by rw [dN, if_neg h2], by simp only [dC]; rw [if_neg (by omega), if_neg h2, if_neg hl]⟩
def con_spec_l18Draw : Con UU where
  α := DCur
  md := [.box false]
  of := fun | [.box [.sl .byte a0, .lit (.int .i64 a1), .lit (.int .i64 a2)]] => some ⟨a0, a1, a2⟩ | _ => none
  ds := fun c => [.box [.sl .byte c.b, .lit (.int .i64 c.i), .lit (.int .i64 c.h)]]
  pre := fun c => [cOk c]
  res := fun c => ⟨[.one (.sl .eTask (tasksV c))], true, [.box [.sl .byte ((tasksC c)).b, .lit (.int .i64 ((tasksC c)).i), .lit (.int .i64 ((tasksC c)).h)]]⟩
  law := by intro l x h; (try simp only at h); split at h <;> cases h; rfl
def I_spec_l18Draw_4 (c : DCur) : List DTask × Int × Int × (List Int × Int × Int × Unit) × Unit → Prop := fun (l, now, i, cu, _) => 0 ≤ i ∧ i ≤ 7 ∧ 0 ≤ now ∧ now + 39 * i ≤ 1000 ∧ cOk ⟨cu.1, cu.2.1, cu.2.2.1⟩ ∧ tasksOk l = true ∧ drawT i.toNat l now ⟨cu.1, cu.2.1, cu.2.2.1⟩ = drawT (belowV c 8).toNat [] 0 (belowC c 8)
def μ_spec_l18Draw_4 (c : DCur) : List DTask × Int × Int × (List Int × Int × Int × Unit) × Unit → Nat := fun (l, now, i, cu, _) => i.toNat
def ann_spec_l18Draw : con_spec_l18Draw.α → Nat → Option (Ann UU) := fun c => annL [(4, annOf [.slot 3 (3, 1024) (.own .eTask true), .slot 4 (4, 1024) (.lit (.int .i64)), .slot 5 (5, 1024) (.lit (.int .i64)), .box 0 (2000000, 0) [.shr .byte, .lit (.int .i64), .lit (.int .i64)]] (fun _ => I_spec_l18Draw_4 c) (μ_spec_l18Draw_4 c))]
def use_spec_l18Draw : List (FuncId × Con UU) := [(26, con_spec_l1Below), (60, con_spec_l3Draw), (29, con_spec_l1Str), (27, con_spec_l18Start), (53, con_spec_l18Send), (71, con_spec_TaskKey), (25, con_spec_l1Once), (79, con_spec_l3Small), (50, con_spec_l18Reply)]
theorem vc_spec_l18Draw (c : DCur) : goal EE use_spec_l18Draw Go.Proofs.Tryz.f57 con_spec_l18Draw ann_spec_l18Draw c = (let x0 : List ByteArray := [{ data := #[] : ByteArray }, { data := #[(114 : UInt8), (101 : UInt8), (102 : UInt8), (117 : UInt8), (110 : UInt8), (100 : UInt8)] : ByteArray }];
(0 : Int) ≤ c.i ∧
  List.length c.b ≤ (4294967296 : Nat) ∧
    I_spec_l18Draw_4 c ([], (0 : Int), belowV c (8 : Int), ((belowC c (8 : Int)).b, (belowC c (8 : Int)).i, (belowC c (8 : Int)).h, PUnit.unit), PUnit.unit) ∧
      ∀ (y : List DTask × Int × Int × (List Int × Int × Int × PUnit) × PUnit),
        let x1 : DCur := belowC { b := y.2.2.2.1.1, i := y.2.2.2.1.2.1, h := y.2.2.2.1.2.2.1 : DCur } (4 : Int);
        let x2 : Int := belowV { b := y.2.2.2.1.1, i := y.2.2.2.1.2.1, h := y.2.2.2.1.2.2.1 : DCur } (4 : Int);
        let x3 : Int := IntKind.wrap IntKind.i64 (y.2.2.1 - (1 : Int));
        let x4 : Int := IntKind.wrap IntKind.i64 (y.2.1 + belowV x1 (40 : Int));
        let x5 : DVal := smallV (belowC (belowC x1 (↑(List.length y.1) : Int)) (3 : Int));
        let x6 : DCur := smallC (belowC (belowC x1 (↑(List.length y.1) : Int)) (3 : Int));
        let x7 : Int := (↑(List.length y.1) : Int);
        I_spec_l18Draw_4 c y → bif decide (y.2.2.1 > (0 : Int)) then (0 : Int) ≤ y.2.2.2.1.2.1 ∧ List.length y.2.2.2.1.1 ≤ (4294967296 : Nat) ∧ bif x2 == (0 : Int) then bif x2 == (0 : Int) then cOk x1 ∧ cOk (factC x1) ∧ (1 : Nat) ≤ List.length x0 ∧ List.length (factV x1).Fields ≤ (4294967296 : Nat) ∧ I_spec_l18Draw_4 c ((startL { τ := Cd.eTask, xs := y.1 : Arr UU }.xs { Kind := (factV x1).Kind, Fields := { τ := Cd.eVal, xs := (factV x1).Fields : Arr UU }.xs : DFact } (strV (factC x1) x0) y.2.1).1, y.2.1, x3, ((strC (factC x1) x0).b, (strC (factC x1) x0).i, (strC (factC x1) x0).h, PUnit.unit), PUnit.unit) ∧ μ_spec_l18Draw_4 c ((startL { τ := Cd.eTask, xs := y.1 : Arr UU }.xs { Kind := (factV x1).Kind, Fields := { τ := Cd.eVal, xs := (factV x1).Fields : Arr UU }.xs : DFact } (strV (factC x1) x0) y.2.1).1, y.2.1, x3, ((strC (factC x1) x0).b, (strC (factC x1) x0).i, (strC (factC x1) x0).h, PUnit.unit), PUnit.unit) < μ_spec_l18Draw_4 c y else bif x2 == (2 : Int) then (0 : Int) ≤ x1.i ∧ List.length x1.b ≤ (4294967296 : Nat) ∧ tasksOk y.1 = true ∧ ((0 : Int) ≤ x4 ∧ x4 ≤ (1000000000 : Int)) ∧ I_spec_l18Draw_4 c (List.map (send1 x4) y.1, x4, x3, ((belowC x1 (40 : Int)).b, (belowC x1 (40 : Int)).i, (belowC x1 (40 : Int)).h, PUnit.unit), PUnit.unit) ∧ μ_spec_l18Draw_4 c (List.map (send1 x4) y.1, x4, x3, ((belowC x1 (40 : Int)).b, (belowC x1 (40 : Int)).i, (belowC x1 (40 : Int)).h, PUnit.unit), PUnit.unit) < μ_spec_l18Draw_4 c y else bif decide (x7 > (0 : Int)) then (0 : Int) ≤ x1.i ∧ List.length x1.b ≤ (4294967296 : Nat) ∧ (0 : Int) ≤ belowV x1 x7 ∧ Int.toNat (belowV x1 x7) < List.length y.1 ∧ Int.toNat (belowV x1 x7) < List.length y.1 ∧ Int.toNat (belowV x1 x7) < List.length y.1 ∧ cOk (belowC x1 x7) ∧ cOk (belowC (belowC x1 x7) (3 : Int)) ∧ tasksOk y.1 = true ∧ valOk x5 = true ∧ I_spec_l18Draw_4 c ((replyTask { τ := Cd.eTask, xs := y.1 : Arr UU }.xs (factText (List.getD y.1 (Int.toNat (belowV x1 x7)) zTask).F) (!onceV (belowC x1 x7) (3 : Int)) { K := x5.K, N := x5.N, S := x5.S : DVal }).1, y.2.1, x3, (x6.b, x6.i, x6.h, PUnit.unit), PUnit.unit) ∧ μ_spec_l18Draw_4 c ((replyTask { τ := Cd.eTask, xs := y.1 : Arr UU }.xs (factText (List.getD y.1 (Int.toNat (belowV x1 x7)) zTask).F) (!onceV (belowC x1 x7) (3 : Int)) { K := x5.K, N := x5.N, S := x5.S : DVal }).1, y.2.1, x3, (x6.b, x6.i, x6.h, PUnit.unit), PUnit.unit) < μ_spec_l18Draw_4 c y else I_spec_l18Draw_4 c (y.1, y.2.1, x3, (x1.b, x1.i, x1.h, PUnit.unit), PUnit.unit) ∧ μ_spec_l18Draw_4 c (y.1, y.2.1, x3, (x1.b, x1.i, x1.h, PUnit.unit), PUnit.unit) < μ_spec_l18Draw_4 c y else bif x2 == (1 : Int) then cOk x1 ∧ cOk (factC x1) ∧ (1 : Nat) ≤ List.length x0 ∧ List.length (factV x1).Fields ≤ (4294967296 : Nat) ∧ I_spec_l18Draw_4 c ((startL { τ := Cd.eTask, xs := y.1 : Arr UU }.xs { Kind := (factV x1).Kind, Fields := { τ := Cd.eVal, xs := (factV x1).Fields : Arr UU }.xs : DFact } (strV (factC x1) x0) y.2.1).1, y.2.1, x3, ((strC (factC x1) x0).b, (strC (factC x1) x0).i, (strC (factC x1) x0).h, PUnit.unit), PUnit.unit) ∧ μ_spec_l18Draw_4 c ((startL { τ := Cd.eTask, xs := y.1 : Arr UU }.xs { Kind := (factV x1).Kind, Fields := { τ := Cd.eVal, xs := (factV x1).Fields : Arr UU }.xs : DFact } (strV (factC x1) x0) y.2.1).1, y.2.1, x3, ((strC (factC x1) x0).b, (strC (factC x1) x0).i, (strC (factC x1) x0).h, PUnit.unit), PUnit.unit) < μ_spec_l18Draw_4 c y else bif x2 == (2 : Int) then (0 : Int) ≤ x1.i ∧ List.length x1.b ≤ (4294967296 : Nat) ∧ tasksOk y.1 = true ∧ ((0 : Int) ≤ x4 ∧ x4 ≤ (1000000000 : Int)) ∧ I_spec_l18Draw_4 c (List.map (send1 x4) y.1, x4, x3, ((belowC x1 (40 : Int)).b, (belowC x1 (40 : Int)).i, (belowC x1 (40 : Int)).h, PUnit.unit), PUnit.unit) ∧ μ_spec_l18Draw_4 c (List.map (send1 x4) y.1, x4, x3, ((belowC x1 (40 : Int)).b, (belowC x1 (40 : Int)).i, (belowC x1 (40 : Int)).h, PUnit.unit), PUnit.unit) < μ_spec_l18Draw_4 c y else bif decide (x7 > (0 : Int)) then (0 : Int) ≤ x1.i ∧ List.length x1.b ≤ (4294967296 : Nat) ∧ (0 : Int) ≤ belowV x1 x7 ∧ Int.toNat (belowV x1 x7) < List.length y.1 ∧ Int.toNat (belowV x1 x7) < List.length y.1 ∧ Int.toNat (belowV x1 x7) < List.length y.1 ∧ cOk (belowC x1 x7) ∧ cOk (belowC (belowC x1 x7) (3 : Int)) ∧ tasksOk y.1 = true ∧ valOk x5 = true ∧ I_spec_l18Draw_4 c ((replyTask { τ := Cd.eTask, xs := y.1 : Arr UU }.xs (factText (List.getD y.1 (Int.toNat (belowV x1 x7)) zTask).F) (!onceV (belowC x1 x7) (3 : Int)) { K := x5.K, N := x5.N, S := x5.S : DVal }).1, y.2.1, x3, (x6.b, x6.i, x6.h, PUnit.unit), PUnit.unit) ∧ μ_spec_l18Draw_4 c ((replyTask { τ := Cd.eTask, xs := y.1 : Arr UU }.xs (factText (List.getD y.1 (Int.toNat (belowV x1 x7)) zTask).F) (!onceV (belowC x1 x7) (3 : Int)) { K := x5.K, N := x5.N, S := x5.S : DVal }).1, y.2.1, x3, (x6.b, x6.i, x6.h, PUnit.unit), PUnit.unit) < μ_spec_l18Draw_4 c y else I_spec_l18Draw_4 c (y.1, y.2.1, x3, (x1.b, x1.i, x1.h, PUnit.unit), PUnit.unit) ∧ μ_spec_l18Draw_4 c (y.1, y.2.1, x3, (x1.b, x1.i, x1.h, PUnit.unit), PUnit.unit) < μ_spec_l18Draw_4 c y else (0 : Nat) = (0 : Nat) ∧ asD [DV.one (Cell.sl Cd.eTask y.1)] = asD [DV.one (Cell.sl Cd.eTask (tasksV c))] ∧ asD [DV.box [Cell.sl Cd.byte y.2.2.2.1.1, Cell.lit (Value.int IntKind.i64 y.2.2.2.1.2.1), Cell.lit (Value.int IntKind.i64 y.2.2.2.1.2.2.1)]] = asD [DV.box [Cell.sl Cd.byte (tasksC c).b, Cell.lit (Value.int IntKind.i64 (tasksC c).i), Cell.lit (Value.int IntKind.i64 (tasksC c).h)]]) := by kernel_rfl
theorem ok_spec_l18Draw : Holds EE (57, con_spec_l18Draw) := by
  refine holds_of EE_ok Go.Proofs.Tryz.func57 con_spec_l18Draw (by kernel_rfl) use_spec_l18Draw (all_cons ok_spec_l1Below (all_cons ok_spec_l3Draw (all_cons ok_spec_l1Str (all_cons ok_spec_l18Start (all_cons ok_spec_l18Send (all_cons ok_spec_TaskKey (all_cons ok_spec_l1Once (all_cons ok_spec_l3Small (all_cons ok_spec_l18Reply all_nil))))))))) ann_spec_l18Draw (fun (c : DCur) hp hb => ?_)
  have hb_c : BdDV (U := UU) (.box [.sl .byte c.b, .lit (.int .i64 c.i), .lit (.int .i64 c.h)]) := hb _ (List.mem_cons_self)
  have hl_c_b : c.b.length ≤ 9223372036854775807 := Bd.len (U := UU) (τ := .byte) (xs := c.b) (hb_c _ (by simp))
  have hp0 : cOk c := hp _ (List.mem_cons_self)
  clear hp hb
  rw [vc_spec_l18Draw c]
  dsimp only
  have hb := belowV_lt (c := c) (n := 8) (by omega)
  refine ⟨hp0.1, hp0.2, ⟨by omega, by omega, by omega, by omega, cOk_below hp0 8, rfl, rfl⟩, ?_⟩
  rintro ⟨l, now, i, ⟨cb, ci, ch, ⟨⟩⟩, ⟨⟩⟩ ⟨g1, g2, g3, g4, g5, g6, g7⟩
  simp only at g1 g2 g3 g4 g5 g6 g7 ⊢
  refine if_cond (fun hc => ?_) (fun hc => ?_)
  · have hc := of_decide_eq_true hc
    have e : i.toNat = (i - 1).toNat + 1 := by omega
    rw [e] at g7
    refine ⟨g5.1, g5.2, ?_⟩
    generalize hcu : (⟨cb, ci, ch⟩ : DCur) = cu at *
    have h4 := cOk_below g5 4
    have hl := (factOk_fields (factV_ok (belowC cu 4))).1
    have hd := belowV_lt (c := belowC cu 4) (n := 40) (by omega)
    have hn := dN_le now cu
    obtain ⟨t1, t2⟩ := dT_ok (c := cu) g6 g3 (by omega)
    have fin : ∀ (l' : List DTask) (now' : Int) (cu' : DCur), l' = dT l now cu → now' = dN now cu → cu' = dC l.length cu →
        I_spec_l18Draw_4 c (l', now', i - 1, (cu'.b, cu'.i, cu'.h, PUnit.unit), PUnit.unit) ∧ μ_spec_l18Draw_4 c (l', now', i - 1, (cu'.b, cu'.i, cu'.h, PUnit.unit), PUnit.unit) < μ_spec_l18Draw_4 c (l, now, i, (cb, ci, ch, PUnit.unit), PUnit.unit) := by
      rintro _ _ _ rfl rfl rfl
      exact ⟨⟨by omega, by omega, by omega, by omega, cOk_dC g5, t1, g7⟩, by simp only [μ_spec_l18Draw_4]; omega⟩
    rw [wrap_i64 (n := i - 1) (by omega) (by omega), wrap_i64 (n := now + belowV (belowC cu 4) 40) (by omega) (by omega)]
    repeat' (refine if_eq (fun h => ?_) (fun h => ?_))
    all_goals first
      | (exfalso; omega)
      | (obtain ⟨q1, q2, q3⟩ := dT_1 (l := l) (now := now) (c := cu) (by omega)
         exact ⟨h4, cOk_fact h4, by simp, by omega, fin _ _ _ q1.symm q2.symm q3.symm⟩)
      | (obtain ⟨q1, q2, q3⟩ := dT_2 (l := l) (now := now) (c := cu) (by omega)
         exact ⟨h4.1, h4.2, g6, ⟨by omega, by omega⟩, fin _ _ _ q1.symm q2.symm q3.symm⟩)
      | skip
    all_goals refine if_cond (fun hl => ?_) (fun hl => ?_)
    · have hl := of_decide_eq_true hl
      obtain ⟨q1, q2, q3⟩ := dT_3 (l := l) (now := now) (c := cu) (by omega) (by omega) (by omega) (by omega)
      have hj := belowV_lt (c := belowC cu 4) (n := l.length) (by omega)
      have h5 := cOk_below h4 l.length
      have h6 := cOk_below h5 3
      exact ⟨h4.1, h4.2, hj.1, by omega, by omega, by omega, h5, h6, g6, smallV_ok _, fin _ _ _ q1.symm q2.symm q3.symm⟩
    · have hl := of_decide_eq_false hl
      obtain ⟨q1, q2, q3⟩ := dT_4 (l := l) (now := now) (c := cu) (by omega) (by omega) (by omega) (by omega)
      exact fin _ _ _ q1.symm q2.symm q3.symm
  · have hc := of_decide_eq_false hc
    have e : i.toNat = 0 := by omega
    rw [e] at g7
    have g8 : l = tasksV c := congrArg Prod.fst g7
    have g9 : (⟨cb, ci, ch⟩ : DCur) = tasksC c := congrArg Prod.snd g7
    rw [← g8, ← g9]
    exact ⟨by trivial, rfl, rfl⟩
def sLanyu : List ByteArray := [⟨#[]⟩, ⟨#[65]⟩, ⟨#[117, 110, 100, 111]⟩]
def iLtries : List Int := [-1, 0, 4, 5]
def iLdue : List Int := [-1, 1000001000, 1000001001]
def asF (f : DFact) (x : DTask) : DTask := ⟨f, x.Undo, x.State, x.Tries, x.Due, x.V⟩
def asUndo (u : ByteArray) (x : DTask) : DTask := ⟨x.F, u, x.State, x.Tries, x.Due, x.V⟩
def asState (n : Int) (x : DTask) : DTask := ⟨x.F, x.Undo, n, x.Tries, x.Due, x.V⟩
def asTries (n : Int) (x : DTask) : DTask := ⟨x.F, x.Undo, x.State, n, x.Due, x.V⟩
def asDue (n : Int) (x : DTask) : DTask := ⟨x.F, x.Undo, x.State, x.Tries, n, x.V⟩
def asV (v : DVal) (x : DTask) : DTask := ⟨x.F, x.Undo, x.State, x.Tries, x.Due, v⟩
noncomputable def bendT (s : Int) (e : DCur) (x : DTask) : DTask :=
  if s = 0 then asF (anyF e) x else if s = 1 then asUndo (strV e sLanyu) x else if s = 2 then asState (belowV e 6) x else if s = 3 then asTries (intV e iLtries) x else if s = 4 then asDue (intV e iLdue) x else if s = 5 then asV (anyvV e) x else x
noncomputable def bendC (s : Int) (e : DCur) : DCur :=
  if s = 0 then anyFC e else if s = 1 then strC e sLanyu else if s = 2 then belowC e 6 else if s = 3 then intC e iLtries else if s = 4 then intC e iLdue else if s = 5 then anyvC e else e
noncomputable def anyT (c : DCur) : List DTask := if tasksV c = [] then tasksV c else
  (tasksV c).modify (belowV (tasksC c) (tasksV c).length).toNat (bendT (belowV (belowC (tasksC c) (tasksV c).length) 14) (belowC (belowC (tasksC c) (tasksV c).length) 14))
noncomputable def anyTC (c : DCur) : DCur := if tasksV c = [] then tasksC c else
  bendC (belowV (belowC (tasksC c) (tasksV c).length) 14) (belowC (belowC (tasksC c) (tasksV c).length) 14)
theorem cOk_bend {s : Int} {e : DCur} (h : cOk e) : cOk (bendC s e) := by
  unfold bendC
  repeat' split
  · exact cOk_anyF h
  · exact cOk_str h _
  · exact cOk_below h _
  · exact cOk_int h _
  · exact cOk_int h _
  · exact cOk_anyv h
  · exact h
theorem bend_fit {s : Int} {e : DCur} {x : DTask} (h : tFit x) : tFit (bendT s e x) := by
  obtain ⟨h1, h2, h3⟩ := h
  unfold bendT
  repeat' split
  · exact ⟨fit_size (anyF_fit e), h2, h3⟩
  · refine ⟨h1, ?_, h3⟩
    have := strV_all e (l := sLanyu) (fun s => decide (s.size ≤ 21)) (by decide) (by rfl)
    exact of_decide_eq_true this
  · exact ⟨h1, h2, h3⟩
  · exact ⟨h1, h2, h3⟩
  · exact ⟨h1, h2, h3⟩
  · exact ⟨h1, h2, anyvV_fit e⟩
  · exact ⟨h1, h2, h3⟩
theorem anyT_ok {c : DCur} (h : cOk c) : cOk (anyTC c) ∧ (∀ t ∈ anyT c, tFit t) ∧ (anyT c).length ≤ 7 := by
  obtain ⟨h1, h2, h3⟩ := tasks_ok h
  have h4 : ∀ t ∈ tasksV c, tFit t := fun t ht => tFit_of ((tasksOk_iff.1 h2).2.1 t ht)
  refine ⟨?_, ?_, ?_⟩
  · unfold anyTC; split
    · exact h1
    · exact cOk_bend (cOk_below (cOk_below h1 _) _)
  · unfold anyT; split
    · exact h4
    · exact modify_all (p := tFit) _ (fun x hx => bend_fit hx) _ _ h4
  · unfold anyT; split
    · exact h3
    · rw [List.length_modify]; exact h3
def con_spec_l18Any : Con UU where
  α := DCur
  md := [.box false]
  of := fun | [.box [.sl .byte a0, .lit (.int .i64 a1), .lit (.int .i64 a2)]] => some ⟨a0, a1, a2⟩ | _ => none
  ds := fun c => [.box [.sl .byte c.b, .lit (.int .i64 c.i), .lit (.int .i64 c.h)]]
  pre := fun c => [cOk c]
  res := fun c => ⟨[.one (.sl .eTask (anyT c))], true, [.box [.sl .byte ((anyTC c)).b, .lit (.int .i64 ((anyTC c)).i), .lit (.int .i64 ((anyTC c)).h)]]⟩
  law := by intro l x h; (try simp only at h); split at h <;> cases h; rfl
def ann_spec_l18Any : con_spec_l18Any.α → Nat → Option (Ann UU) := fun c => annL []
def use_spec_l18Any : List (FuncId × Con UU) := [(57, con_spec_l18Draw), (26, con_spec_l1Below), (28, con_spec_l3Any), (29, con_spec_l1Str), (30, con_spec_l1Int), (47, con_spec_l2Any)]
theorem vc_spec_l18Any (c : DCur) : goal EE use_spec_l18Any Go.Proofs.Tryz.f24 con_spec_l18Any ann_spec_l18Any c = (let x0 : DCur := belowC (belowC (tasksC c) (↑(List.length (tasksV c)) : Int)) (14 : Int);
let x1 : DCur := strC x0 [{ data := #[] : ByteArray }, { data := #[(65 : UInt8)] : ByteArray }, { data := #[(117 : UInt8), (110 : UInt8), (100 : UInt8), (111 : UInt8)] : ByteArray }];
let x2 : Int := belowV (belowC (tasksC c) (↑(List.length (tasksV c)) : Int)) (14 : Int);
let x3 : DCur := belowC x0 (↑(List.length [(-1 : Int), (0 : Int), (4 : Int), (5 : Int)]) : Int);
let x4 : Nat := Int.toNat (belowV (tasksC c) (↑(List.length (tasksV c)) : Int));
let x5 : List ByteArray := [{ data := #[] : ByteArray }, { data := #[(65 : UInt8)] : ByteArray }, { data := #[(117 : UInt8), (110 : UInt8), (100 : UInt8), (111 : UInt8)] : ByteArray }];
let x6 : DCur := belowC x0 (↑(List.length [(-1 : Int), (1000001000 : Int), (1000001001 : Int)]) : Int);
let x7 : Nat := List.length [(-1 : Int), (0 : Int), (4 : Int), (5 : Int)];
let x8 : Nat := List.length [(-1 : Int), (1000001000 : Int), (1000001001 : Int)];
let x9 : Int := (↑(List.length (tasksV c)) : Int);
cOk c ∧ bif x9 == (0 : Int) then (0 : Nat) = (0 : Nat) ∧ asD [DV.one (Cell.sl Cd.eTask (tasksV c))] = asD [DV.one (Cell.sl Cd.eTask (anyT c))] ∧ asD [DV.box [Cell.sl Cd.byte (tasksC c).b, Cell.lit (Value.int IntKind.i64 (tasksC c).i), Cell.lit (Value.int IntKind.i64 (tasksC c).h)]] = asD [DV.box [Cell.sl Cd.byte (anyTC c).b, Cell.lit (Value.int IntKind.i64 (anyTC c).i), Cell.lit (Value.int IntKind.i64 (anyTC c).h)]] else (0 : Int) ≤ (tasksC c).i ∧ List.length (tasksC c).b ≤ (4294967296 : Nat) ∧ (0 : Int) ≤ belowV (tasksC c) x9 ∧ x4 < List.length (tasksV c) ∧ (0 : Int) ≤ (belowC (tasksC c) x9).i ∧ List.length (belowC (tasksC c) x9).b ≤ (4294967296 : Nat) ∧ bif x2 == (0 : Int) then cOk x0 ∧ x4 < List.length (tasksV c) ∧ (0 : Nat) = (0 : Nat) ∧ asD [DV.one (Cell.sl Cd.eTask (List.modify (tasksV c) x4 fun (x : DTask) => { F := anyF x0, Undo := x.Undo, State := x.State, Tries := x.Tries, Due := x.Due, V := x.V : DTask }))] = asD [DV.one (Cell.sl Cd.eTask (anyT c))] ∧ asD [DV.box [Cell.sl Cd.byte (anyFC x0).b, Cell.lit (Value.int IntKind.i64 (anyFC x0).i), Cell.lit (Value.int IntKind.i64 (anyFC x0).h)]] = asD [DV.box [Cell.sl Cd.byte (anyTC c).b, Cell.lit (Value.int IntKind.i64 (anyTC c).i), Cell.lit (Value.int IntKind.i64 (anyTC c).h)]] else bif x2 == (1 : Int) then cOk x0 ∧ (1 : Nat) ≤ List.length x5 ∧ x4 < List.length (tasksV c) ∧ (0 : Nat) = (0 : Nat) ∧ asD [DV.one (Cell.sl Cd.eTask (List.modify (tasksV c) x4 fun (x : DTask) => { F := x.F, Undo := strV x0 x5, State := x.State, Tries := x.Tries, Due := x.Due, V := x.V : DTask }))] = asD [DV.one (Cell.sl Cd.eTask (anyT c))] ∧ asD [DV.box [Cell.sl Cd.byte x1.b, Cell.lit (Value.int IntKind.i64 x1.i), Cell.lit (Value.int IntKind.i64 x1.h)]] = asD [DV.box [Cell.sl Cd.byte (anyTC c).b, Cell.lit (Value.int IntKind.i64 (anyTC c).i), Cell.lit (Value.int IntKind.i64 (anyTC c).h)]] else bif x2 == (2 : Int) then (0 : Int) ≤ x0.i ∧ List.length x0.b ≤ (4294967296 : Nat) ∧ x4 < List.length (tasksV c) ∧ (0 : Nat) = (0 : Nat) ∧ asD [DV.one (Cell.sl Cd.eTask (List.modify (tasksV c) x4 fun (x : DTask) => { F := x.F, Undo := x.Undo, State := belowV x0 (6 : Int), Tries := x.Tries, Due := x.Due, V := x.V : DTask }))] = asD [DV.one (Cell.sl Cd.eTask (anyT c))] ∧ asD [DV.box [Cell.sl Cd.byte (belowC x0 (6 : Int)).b, Cell.lit (Value.int IntKind.i64 (belowC x0 (6 : Int)).i), Cell.lit (Value.int IntKind.i64 (belowC x0 (6 : Int)).h)]] = asD [DV.box [Cell.sl Cd.byte (anyTC c).b, Cell.lit (Value.int IntKind.i64 (anyTC c).i), Cell.lit (Value.int IntKind.i64 (anyTC c).h)]] else bif x2 == (3 : Int) then (0 : Int) ≤ x0.i ∧ List.length x0.b ≤ (4294967296 : Nat) ∧ (1 : Nat) ≤ x7 ∧ x4 < List.length (tasksV c) ∧ (0 : Nat) = (0 : Nat) ∧ asD [DV.one (Cell.sl Cd.eTask (List.modify (tasksV c) x4 fun (x : DTask) => { F := x.F, Undo := x.Undo, State := x.State, Tries := List.getD [(-1 : Int), (0 : Int), (4 : Int), (5 : Int)] (Int.toNat (belowV x0 (↑x7 : Int))) (0 : Int), Due := x.Due, V := x.V : DTask }))] = asD [DV.one (Cell.sl Cd.eTask (anyT c))] ∧ asD [DV.box [Cell.sl Cd.byte x3.b, Cell.lit (Value.int IntKind.i64 x3.i), Cell.lit (Value.int IntKind.i64 x3.h)]] = asD [DV.box [Cell.sl Cd.byte (anyTC c).b, Cell.lit (Value.int IntKind.i64 (anyTC c).i), Cell.lit (Value.int IntKind.i64 (anyTC c).h)]] else bif x2 == (4 : Int) then (0 : Int) ≤ x0.i ∧ List.length x0.b ≤ (4294967296 : Nat) ∧ (1 : Nat) ≤ x8 ∧ x4 < List.length (tasksV c) ∧ (0 : Nat) = (0 : Nat) ∧ asD [DV.one (Cell.sl Cd.eTask (List.modify (tasksV c) x4 fun (x : DTask) => { F := x.F, Undo := x.Undo, State := x.State, Tries := x.Tries, Due := List.getD [(-1 : Int), (1000001000 : Int), (1000001001 : Int)] (Int.toNat (belowV x0 (↑x8 : Int))) (0 : Int), V := x.V : DTask }))] = asD [DV.one (Cell.sl Cd.eTask (anyT c))] ∧ asD [DV.box [Cell.sl Cd.byte x6.b, Cell.lit (Value.int IntKind.i64 x6.i), Cell.lit (Value.int IntKind.i64 x6.h)]] = asD [DV.box [Cell.sl Cd.byte (anyTC c).b, Cell.lit (Value.int IntKind.i64 (anyTC c).i), Cell.lit (Value.int IntKind.i64 (anyTC c).h)]] else bif x2 == (5 : Int) then cOk x0 ∧ x4 < List.length (tasksV c) ∧ (0 : Nat) = (0 : Nat) ∧ asD [DV.one (Cell.sl Cd.eTask (List.modify (tasksV c) x4 fun (x : DTask) => { F := x.F, Undo := x.Undo, State := x.State, Tries := x.Tries, Due := x.Due, V := anyvV x0 : DTask }))] = asD [DV.one (Cell.sl Cd.eTask (anyT c))] ∧ asD [DV.box [Cell.sl Cd.byte (anyvC x0).b, Cell.lit (Value.int IntKind.i64 (anyvC x0).i), Cell.lit (Value.int IntKind.i64 (anyvC x0).h)]] = asD [DV.box [Cell.sl Cd.byte (anyTC c).b, Cell.lit (Value.int IntKind.i64 (anyTC c).i), Cell.lit (Value.int IntKind.i64 (anyTC c).h)]] else (0 : Nat) = (0 : Nat) ∧ asD [DV.one (Cell.sl Cd.eTask (tasksV c))] = asD [DV.one (Cell.sl Cd.eTask (anyT c))] ∧ asD [DV.box [Cell.sl Cd.byte x0.b, Cell.lit (Value.int IntKind.i64 x0.i), Cell.lit (Value.int IntKind.i64 x0.h)]] = asD [DV.box [Cell.sl Cd.byte (anyTC c).b, Cell.lit (Value.int IntKind.i64 (anyTC c).i), Cell.lit (Value.int IntKind.i64 (anyTC c).h)]]) := by kernel_rfl
theorem ok_spec_l18Any : Holds EE (24, con_spec_l18Any) := by
  refine holds_of EE_ok Go.Proofs.Tryz.func24 con_spec_l18Any (by kernel_rfl) use_spec_l18Any (all_cons ok_spec_l18Draw (all_cons ok_spec_l1Below (all_cons ok_spec_l3Any (all_cons ok_spec_l1Str (all_cons ok_spec_l1Int (all_cons ok_spec_l2Any all_nil)))))) ann_spec_l18Any (fun (c : DCur) hp hb => ?_)
  have hb_c : BdDV (U := UU) (.box [.sl .byte c.b, .lit (.int .i64 c.i), .lit (.int .i64 c.h)]) := hb _ (List.mem_cons_self)
  have hl_c_b : c.b.length ≤ 9223372036854775807 := Bd.len (U := UU) (τ := .byte) (xs := c.b) (hb_c _ (by simp))
  have hp0 : cOk c := hp _ (List.mem_cons_self)
  clear hp hb
  rw [vc_spec_l18Any c]
  dsimp only
  obtain ⟨h1, h2, h3⟩ := tasks_ok hp0
  refine ⟨hp0, if_eq (fun h => ?_) (fun h => ?_)⟩
  · have h : tasksV c = [] := List.eq_nil_of_length_eq_zero (by omega)
    have e1 : anyT c = tasksV c := if_pos h
    have e2 : anyTC c = tasksC c := if_pos h
    rw [e2]; exact ⟨by trivial, asD_row e1.symm, rfl⟩
  have hn : ¬ tasksV c = [] := by intro e; rw [e] at h; simp at h
  have hl : 0 < (tasksV c).length := List.length_pos_iff.2 hn
  have hb := belowV_lt (c := tasksC c) (n := (tasksV c).length) (by omega)
  have hd := cOk_below h1 (tasksV c).length
  have he := cOk_below hd 14
  have e1 : anyT c = _ := if_neg hn
  have e2 : anyTC c = _ := if_neg hn
  refine ⟨h1.1, h1.2, hb.1, by omega, hd.1, hd.2, ?_⟩
  rw [e2]
  generalize belowV (belowC (tasksC c) (tasksV c).length) 14 = s at e1 ⊢
  generalize belowC (belowC (tasksC c) (tasksV c).length) 14 = e at he e1 ⊢
  generalize hk : (belowV (tasksC c) (tasksV c).length).toNat = k at e1 ⊢
  have hkl : k < (tasksV c).length := by omega
  have fin : ∀ (f : DTask → DTask) (d : DCur), bendT s e = f → bendC s e = d → asD ([DV.one (Cell.sl Cd.eTask ((tasksV c).modify k f))] : List (DV UU)) = asD ([DV.one (Cell.sl Cd.eTask (anyT c))] : List (DV UU)) ∧
      asD ([DV.box [Cell.sl Cd.byte d.b, Cell.lit (Value.int IntKind.i64 d.i), Cell.lit (Value.int IntKind.i64 d.h)]] : List (DV UU)) = asD ([DV.box [Cell.sl Cd.byte (bendC s e).b, Cell.lit (Value.int IntKind.i64 (bendC s e).i), Cell.lit (Value.int IntKind.i64 (bendC s e).h)]] : List (DV UU)) := by
    rintro _ _ rfl rfl
    exact ⟨asD_row e1.symm, rfl⟩
  refine if_eq (fun n0 => ?_) (fun n0 => ?_)
  · have hf : bendT s e = asF (anyF e) := by funext x; unfold bendT; rw [if_pos n0]
    have hd : bendC s e = anyFC e := by unfold bendC; rw [if_pos n0]
    obtain ⟨f1, f2⟩ := fin _ _ hf hd
    repeat' (first | exact f1 | exact f2 | refine And.intro (by first | exact f1 | exact he | exact he.1 | exact he.2 | omega | simp; done) ?_)
  refine if_eq (fun n1 => ?_) (fun n1 => ?_)
  · have hf : bendT s e = asUndo (strV e sLanyu) := by funext x; unfold bendT; rw [if_neg n0, if_pos n1]
    have hd : bendC s e = strC e sLanyu := by unfold bendC; rw [if_neg n0, if_pos n1]
    obtain ⟨f1, f2⟩ := fin _ _ hf hd
    repeat' (first | exact f1 | exact f2 | refine And.intro (by first | exact f1 | exact he | exact he.1 | exact he.2 | omega | simp; done) ?_)
  refine if_eq (fun n2 => ?_) (fun n2 => ?_)
  · have hf : bendT s e = asState (belowV e 6) := by funext x; unfold bendT; rw [if_neg n0, if_neg n1, if_pos n2]
    have hd : bendC s e = belowC e 6 := by unfold bendC; rw [if_neg n0, if_neg n1, if_pos n2]
    obtain ⟨f1, f2⟩ := fin _ _ hf hd
    repeat' (first | exact f1 | exact f2 | refine And.intro (by first | exact f1 | exact he | exact he.1 | exact he.2 | omega | simp; done) ?_)
  refine if_eq (fun n3 => ?_) (fun n3 => ?_)
  · have hf : bendT s e = asTries (intV e iLtries) := by funext x; unfold bendT; rw [if_neg n0, if_neg n1, if_neg n2, if_pos n3]
    have hd : bendC s e = intC e iLtries := by unfold bendC; rw [if_neg n0, if_neg n1, if_neg n2, if_pos n3]
    obtain ⟨f1, f2⟩ := fin _ _ hf hd
    repeat' (first | exact f1 | exact f2 | refine And.intro (by first | exact f1 | exact he | exact he.1 | exact he.2 | omega | simp; done) ?_)
  refine if_eq (fun n4 => ?_) (fun n4 => ?_)
  · have hf : bendT s e = asDue (intV e iLdue) := by funext x; unfold bendT; rw [if_neg n0, if_neg n1, if_neg n2, if_neg n3, if_pos n4]
    have hd : bendC s e = intC e iLdue := by unfold bendC; rw [if_neg n0, if_neg n1, if_neg n2, if_neg n3, if_pos n4]
    obtain ⟨f1, f2⟩ := fin _ _ hf hd
    repeat' (first | exact f1 | exact f2 | refine And.intro (by first | exact f1 | exact he | exact he.1 | exact he.2 | omega | simp; done) ?_)
  refine if_eq (fun n5 => ?_) (fun n5 => ?_)
  · have hf : bendT s e = asV (anyvV e) := by funext x; unfold bendT; rw [if_neg n0, if_neg n1, if_neg n2, if_neg n3, if_neg n4, if_pos n5]
    have hd : bendC s e = anyvC e := by unfold bendC; rw [if_neg n0, if_neg n1, if_neg n2, if_neg n3, if_neg n4, if_pos n5]
    obtain ⟨f1, f2⟩ := fin _ _ hf hd
    repeat' (first | exact f1 | exact f2 | refine And.intro (by first | exact f1 | exact he | exact he.1 | exact he.2 | omega | simp; done) ?_)
  have hf : bendT s e = id := by funext x; unfold bendT; rw [if_neg n0, if_neg n1, if_neg n2, if_neg n3, if_neg n4, if_neg n5]; rfl
  have hd : bendC s e = e := by unfold bendC; rw [if_neg n0, if_neg n1, if_neg n2, if_neg n3, if_neg n4, if_neg n5]
  have hm : anyT c = tasksV c := by rw [e1, hf]; exact List.modify_id _ _
  obtain ⟨f1, f2⟩ := fin _ _ hf hd
  exact ⟨by trivial, asD_row hm.symm, f2⟩
def sLkey : List ByteArray := [⟨#[111, 114, 100, 101, 114, 40, 49, 41]⟩, ⟨#[112, 97, 105, 100, 40, 39, 97, 39, 41]⟩, ⟨#[]⟩, ⟨#[120]⟩]
def keyV (c : DCur) (l : List DTask) : ByteArray := if 0 < l.length then (if onceV c 4 = true then strV (belowC c 4) sLkey else factText (List.getD l (belowV (belowC c 4) l.length).toNat zTask).F) else strV c sLkey
def keyC (c : DCur) (l : List DTask) : DCur := if 0 < l.length then (if onceV c 4 = true then strC (belowC c 4) sLkey else belowC (belowC c 4) l.length) else strC c sLkey
theorem cOk_key {c : DCur} {l : List DTask} (h : cOk c) : cOk (keyC c l) := by
  unfold keyC; split
  · split
    · exact cOk_str (cOk_below h 4) _
    · exact cOk_below (cOk_below h 4) _
  · exact cOk_str h _
def iLnow : List Int := [0, 5, 60, 200, 1000000000, -1, 1000000001]
def con_spec_l18Key : Con UU where
  α := DCur × (List DTask)
  md := [.box false, .ro]
  of := fun | [.box [.sl .byte a0, .lit (.int .i64 a1), .lit (.int .i64 a2)], .one (.sl .eTask a3)] => some (⟨a0, a1, a2⟩, a3) | _ => none
  ds := fun (c, l) => [.box [.sl .byte c.b, .lit (.int .i64 c.i), .lit (.int .i64 c.h)], .one (.sl .eTask l)]
  pre := fun (c, l) => [cOk c]
  res := fun (c, l) => ⟨[.one (.lit (.string (keyV c l)))], true, [.box [.sl .byte ((keyC c l)).b, .lit (.int .i64 ((keyC c l)).i), .lit (.int .i64 ((keyC c l)).h)]]⟩
  law := by intro l x h; (try simp only at h); split at h <;> cases h; rfl
def ann_spec_l18Key : con_spec_l18Key.α → Nat → Option (Ann UU) := fun (c, l) => annL []
def use_spec_l18Key : List (FuncId × Con UU) := [(25, con_spec_l1Once), (26, con_spec_l1Below), (71, con_spec_TaskKey), (29, con_spec_l1Str)]
theorem vc_spec_l18Key (c : DCur) (l : (List DTask)) : goal EE use_spec_l18Key Go.Proofs.Tryz.f46 con_spec_l18Key ann_spec_l18Key (c, l) = (let x0 : List ByteArray := [{ data := #[(111 : UInt8), (114 : UInt8), (100 : UInt8), (101 : UInt8), (114 : UInt8), (40 : UInt8), (49 : UInt8), (41 : UInt8)] : ByteArray }, { data := #[(112 : UInt8), (97 : UInt8), (105 : UInt8), (100 : UInt8), (40 : UInt8), (39 : UInt8), (97 : UInt8), (39 : UInt8), (41 : UInt8)] : ByteArray }, { data := #[] : ByteArray }, { data := #[(120 : UInt8)] : ByteArray }];
let x1 : DCur := belowC (belowC c (4 : Int)) (↑(List.length l) : Int);
let x2 : Nat := Int.toNat (belowV (belowC c (4 : Int)) (↑(List.length l) : Int));
let x3 : DCur := strC (belowC c (4 : Int)) x0;
bif decide ((↑(List.length l) : Int) > (0 : Int)) then cOk c ∧ bif !onceV c (4 : Int) then (0 : Int) ≤ (belowC c (4 : Int)).i ∧ List.length (belowC c (4 : Int)).b ≤ (4294967296 : Nat) ∧ (0 : Int) ≤ belowV (belowC c (4 : Int)) (↑(List.length l) : Int) ∧ x2 < List.length l ∧ (0 : Nat) = (0 : Nat) ∧ asD [DV.one (Cell.lit (Value.string (factText (List.getD l x2 zTask).F)))] = asD [DV.one (Cell.lit (Value.string (keyV c l)))] ∧ asD [DV.box [Cell.sl Cd.byte x1.b, Cell.lit (Value.int IntKind.i64 x1.i), Cell.lit (Value.int IntKind.i64 x1.h)]] = asD [DV.box [Cell.sl Cd.byte (keyC c l).b, Cell.lit (Value.int IntKind.i64 (keyC c l).i), Cell.lit (Value.int IntKind.i64 (keyC c l).h)]] else cOk (belowC c (4 : Int)) ∧ (1 : Nat) ≤ List.length x0 ∧ (0 : Nat) = (0 : Nat) ∧ asD [DV.one (Cell.lit (Value.string (strV (belowC c (4 : Int)) x0)))] = asD [DV.one (Cell.lit (Value.string (keyV c l)))] ∧ asD [DV.box [Cell.sl Cd.byte x3.b, Cell.lit (Value.int IntKind.i64 x3.i), Cell.lit (Value.int IntKind.i64 x3.h)]] = asD [DV.box [Cell.sl Cd.byte (keyC c l).b, Cell.lit (Value.int IntKind.i64 (keyC c l).i), Cell.lit (Value.int IntKind.i64 (keyC c l).h)]] else cOk c ∧ (1 : Nat) ≤ List.length x0 ∧ (0 : Nat) = (0 : Nat) ∧ asD [DV.one (Cell.lit (Value.string (strV c x0)))] = asD [DV.one (Cell.lit (Value.string (keyV c l)))] ∧ asD [DV.box [Cell.sl Cd.byte (strC c x0).b, Cell.lit (Value.int IntKind.i64 (strC c x0).i), Cell.lit (Value.int IntKind.i64 (strC c x0).h)]] = asD [DV.box [Cell.sl Cd.byte (keyC c l).b, Cell.lit (Value.int IntKind.i64 (keyC c l).i), Cell.lit (Value.int IntKind.i64 (keyC c l).h)]]) := by kernel_rfl
theorem ok_spec_l18Key : Holds EE (46, con_spec_l18Key) := by
  refine holds_of EE_ok Go.Proofs.Tryz.func46 con_spec_l18Key (by kernel_rfl) use_spec_l18Key (all_cons ok_spec_l1Once (all_cons ok_spec_l1Below (all_cons ok_spec_TaskKey (all_cons ok_spec_l1Str all_nil)))) ann_spec_l18Key (fun x hp hb => ?_)
  obtain ⟨c, l⟩ := x
  have hb_c : BdDV (U := UU) (.box [.sl .byte c.b, .lit (.int .i64 c.i), .lit (.int .i64 c.h)]) := hb _ (List.mem_cons_self)
  have hl_c_b : c.b.length ≤ 9223372036854775807 := Bd.len (U := UU) (τ := .byte) (xs := c.b) (hb_c _ (by simp))
  have hb_l : BdDV (U := UU) (.one (.sl .eTask l)) := hb _ (List.mem_cons_of_mem _ (List.mem_cons_self))
  have hl_l : l.length ≤ 9223372036854775807 := Bd.len hb_l
  have hp0 : cOk c := hp _ (List.mem_cons_self)
  clear hp hb
  rw [vc_spec_l18Key c l]
  dsimp only
  have h4 := cOk_below hp0 4
  refine if_cond (fun h => ?_) (fun h => ?_)
  · have h := of_decide_eq_true h
    have hl : 0 < l.length := by omega
    have hb := belowV_lt (c := belowC c 4) (n := l.length) (by omega)
    refine ⟨hp0, if_cond (fun ho => ?_) (fun ho => ?_)⟩
    · have ho : onceV c 4 = false := by simpa using ho
      have e1 : keyV c l = factText (List.getD l (belowV (belowC c 4) l.length).toNat zTask).F := by rw [keyV, if_pos hl, if_neg (by rw [ho]; simp)]
      have e2 : keyC c l = belowC (belowC c 4) l.length := by rw [keyC, if_pos hl, if_neg (by rw [ho]; simp)]
      rw [e1, e2]
      exact ⟨h4.1, h4.2, hb.1, by omega, by trivial, rfl, rfl⟩
    · have ho : onceV c 4 = true := by simpa using ho
      have e1 : keyV c l = strV (belowC c 4) sLkey := by rw [keyV, if_pos hl, if_pos ho]
      have e2 : keyC c l = strC (belowC c 4) sLkey := by rw [keyC, if_pos hl, if_pos ho]
      rw [e1, e2]
      exact ⟨h4, by simp, by trivial, rfl, rfl⟩
  · have h := of_decide_eq_false h
    have hl : ¬ 0 < l.length := by omega
    have e1 : keyV c l = strV c sLkey := by rw [keyV, if_neg hl]
    have e2 : keyC c l = strC c sLkey := by rw [keyC, if_neg hl]
    rw [e1, e2]
    exact ⟨hp0, by simp, by trivial, rfl, rfl⟩
noncomputable def dRk (code : List Int) : ByteArray := keyV (anyTC (newCur code)) (anyT (newCur code))
noncomputable def dRc (code : List Int) : DCur := keyC (anyTC (newCur code)) (anyT (newCur code))
def con_spec_DrawReplyTask : Con UU where
  α := (List Int)
  md := [.ro]
  of := fun | [.one (.sl .byte a0)] => some a0 | _ => none
  ds := fun code => [.one (.sl .byte code)]
  pre := fun code => [code.length ≤ 4294967296]
  res := fun code => ⟨[.one (.sl .eTask (anyT (newCur code))), .one (.lit (.string (dRk code))), .one (.lit (.bool (onceV (dRc code) 2))), .agg [.lit (.int .i64 ((anyvV (belowC (dRc code) 2))).K), .lit (.int .i64 ((anyvV (belowC (dRc code) 2))).N), .lit (.string ((anyvV (belowC (dRc code) 2))).S)]], false, []⟩
  law := by intro l x h; (try simp only at h); split at h <;> cases h; rfl
def ann_spec_DrawReplyTask : con_spec_DrawReplyTask.α → Nat → Option (Ann UU) := fun code => annL []
def use_spec_DrawReplyTask : List (FuncId × Con UU) := [(23, con_spec_l1New), (24, con_spec_l18Any), (46, con_spec_l18Key), (25, con_spec_l1Once), (47, con_spec_l2Any)]
theorem vc_spec_DrawReplyTask (code : (List Int)) : goal EE use_spec_DrawReplyTask Go.Proofs.Tryz.f14 con_spec_DrawReplyTask ann_spec_DrawReplyTask code = (let x0 : DVal := anyvV (belowC (keyC (anyTC (newCur code)) (anyT (newCur code))) (2 : Int));
let x1 : DVal := anyvV (belowC (dRc code) (2 : Int));
let x2 : DCur := keyC (anyTC (newCur code)) (anyT (newCur code));
List.length code ≤ (4294967296 : Nat) ∧ cOk (newCur code) ∧ cOk (anyTC (newCur code)) ∧ cOk x2 ∧ cOk (belowC x2 (2 : Int)) ∧ Lf [DV.one (Cell.sl Cd.eTask (anyT (newCur code))), DV.one (Cell.lit (Value.string (keyV (anyTC (newCur code)) (anyT (newCur code))))), DV.one (Cell.lit (Value.bool (onceV x2 (2 : Int)))), DV.agg [Cell.lit (Value.int IntKind.i64 x0.K), Cell.lit (Value.int IntKind.i64 x0.N), Cell.lit (Value.string x0.S)]] [DV.one (Cell.sl Cd.eTask (anyT (newCur code))), DV.one (Cell.lit (Value.string (dRk code))), DV.one (Cell.lit (Value.bool (onceV (dRc code) (2 : Int)))), DV.agg [Cell.lit (Value.int IntKind.i64 x1.K), Cell.lit (Value.int IntKind.i64 x1.N), Cell.lit (Value.string x1.S)]]) := by kernel_rfl
theorem ok_spec_DrawReplyTask : Holds EE (14, con_spec_DrawReplyTask) := by
  refine holds_of EE_ok Go.Proofs.Tryz.func14 con_spec_DrawReplyTask (by kernel_rfl) use_spec_DrawReplyTask (all_cons ok_spec_l1New (all_cons ok_spec_l18Any (all_cons ok_spec_l18Key (all_cons ok_spec_l1Once (all_cons ok_spec_l2Any all_nil))))) ann_spec_DrawReplyTask (fun (code : (List Int)) hp hb => ?_)
  have hb_code : BdDV (U := UU) (.one (.sl .byte code)) := hb _ (List.mem_cons_self)
  have hl_code : code.length ≤ 9223372036854775807 := Bd.len hb_code
  have hp0 : code.length ≤ 4294967296 := hp _ (List.mem_cons_self)
  clear hp hb
  rw [vc_spec_DrawReplyTask code]
  dsimp only
  have h1 := (anyT_ok (cOk_new hp0)).1
  have h2 : cOk (keyC (anyTC (newCur code)) (anyT (newCur code))) := cOk_key h1
  exact ⟨hp0, cOk_new hp0, h1, h2, cOk_below h2 2, Lf_rfl _⟩
def daDef (x : DDef) : DA UU := ⟨true, [.lit (.string x.Name), .sl .eRule x.Rules]⟩
def daWork (x : DWork) : DA UU := ⟨true, [.lit (.string x.Name), .lit (.string x.Def), .sl .eItem x.X.S.Items, .lit (.int .i64 x.X.S.Next), .sl .eMatch x.X.Fired, .sl .eTask x.X.Tasks, .sl .eTimer x.X.Timers, .sl .eUndo x.X.Undos, .lit (.int .i64 x.X.State), .lit (.int .i64 x.X.Now)]⟩
def defAt (l : List DDef) (name : ByteArray) : Int := idxI l.length fun k => decide ((List.getD l k zDef).Name = name)
def workAt (l : List DWork) (name : ByteArray) : Int := idxI l.length fun k => decide ((List.getD l k zWork).Name = name)
theorem arg_beq (a b : DArg) : (a.K == b.K && (ByteArray.toList a.S == ByteArray.toList b.S && ((a.V.K == b.V.K && (a.V.N == b.V.N && (ByteArray.toList a.V.S == ByteArray.toList b.V.S && true))) && true))) = decide (a = b) := by
  obtain ⟨a1, a2, ⟨a3, a4, a5⟩⟩ := a
  obtain ⟨b6, b7, ⟨b8, b9, b10⟩⟩ := b
  simp only [toList_beq, Bool.and_true]
  rw [Bool.eq_iff_iff]
  simp only [Bool.and_eq_true, beq_iff_eq, decide_eq_true_eq, DArg.mk.injEq, DVal.mk.injEq]
theorem cond_beq (a b : DCond) : (a.Op == b.Op && ((a.L.K == b.L.K && (ByteArray.toList a.L.S == ByteArray.toList b.L.S && ((a.L.V.K == b.L.V.K && (a.L.V.N == b.L.V.N && (ByteArray.toList a.L.V.S == ByteArray.toList b.L.V.S && true))) && true))) && ((a.R.K == b.R.K && (ByteArray.toList a.R.S == ByteArray.toList b.R.S && ((a.R.V.K == b.R.V.K && (a.R.V.N == b.R.V.N && (ByteArray.toList a.R.V.S == ByteArray.toList b.R.V.S && true))) && true))) && true))) = decide (a = b) := by
  obtain ⟨a11, ⟨a12, a13, ⟨a14, a15, a16⟩⟩, ⟨a17, a18, ⟨a19, a20, a21⟩⟩⟩ := a
  obtain ⟨b22, ⟨b23, b24, ⟨b25, b26, b27⟩⟩, ⟨b28, b29, ⟨b30, b31, b32⟩⟩⟩ := b
  simp only [toList_beq, Bool.and_true]
  rw [Bool.eq_iff_iff]
  simp only [Bool.and_eq_true, beq_iff_eq, decide_eq_true_eq, DArg.mk.injEq, DCond.mk.injEq, DVal.mk.injEq]
theorem expr_beq (a b : DExpr) : (ByteArray.toList a.Op == ByteArray.toList b.Op && ((a.L.K == b.L.K && (ByteArray.toList a.L.S == ByteArray.toList b.L.S && ((a.L.V.K == b.L.V.K && (a.L.V.N == b.L.V.N && (ByteArray.toList a.L.V.S == ByteArray.toList b.L.V.S && true))) && true))) && ((a.R.K == b.R.K && (ByteArray.toList a.R.S == ByteArray.toList b.R.S && ((a.R.V.K == b.R.V.K && (a.R.V.N == b.R.V.N && (ByteArray.toList a.R.V.S == ByteArray.toList b.R.V.S && true))) && true))) && true))) = decide (a = b) := by
  obtain ⟨a33, ⟨a34, a35, ⟨a36, a37, a38⟩⟩, ⟨a39, a40, ⟨a41, a42, a43⟩⟩⟩ := a
  obtain ⟨b44, ⟨b45, b46, ⟨b47, b48, b49⟩⟩, ⟨b50, b51, ⟨b52, b53, b54⟩⟩⟩ := b
  simp only [toList_beq, Bool.and_true]
  rw [Bool.eq_iff_iff]
  simp only [Bool.and_eq_true, beq_iff_eq, decide_eq_true_eq, DArg.mk.injEq, DExpr.mk.injEq, DVal.mk.injEq]
theorem bind_beq (a b : DBind) : (ByteArray.toList a.Name == ByteArray.toList b.Name && ((a.V.K == b.V.K && (a.V.N == b.V.N && (ByteArray.toList a.V.S == ByteArray.toList b.V.S && true))) && true)) = decide (a = b) := by
  obtain ⟨a55, ⟨a56, a57, a58⟩⟩ := a
  obtain ⟨b59, ⟨b60, b61, b62⟩⟩ := b
  simp only [toList_beq, Bool.and_true]
  rw [Bool.eq_iff_iff]
  simp only [Bool.and_eq_true, beq_iff_eq, decide_eq_true_eq, DBind.mk.injEq, DVal.mk.injEq]
theorem dr_ne {α : Type} {a b : List α} (z : α) {i : Int} (h1 : 0 ≤ i) (ha : i < a.length) (hb : i < b.length) (hR : a.drop i.toNat = b.drop i.toNat ↔ a = b) (h : List.getD a i.toNat z ≠ List.getD b i.toNat z) : a ≠ b := by
  rw [drop_step a z h1 ha, drop_step b z h1 hb] at hR
  exact fun e => h (List.cons.inj (hR.2 e)).1
theorem dr_eq {α : Type} {a b : List α} (z : α) {i : Int} (h1 : 0 ≤ i) (ha : i < a.length) (hb : i < b.length) (hR : a.drop i.toNat = b.drop i.toNat ↔ a = b) (h : List.getD a i.toNat z = List.getD b i.toNat z) : (a.drop (i + 1).toNat = b.drop (i + 1).toNat ↔ a = b) := by
  rw [drop_step a z h1 ha, drop_step b z h1 hb, h] at hR
  rw [← hR]; simp
theorem dr_end {α : Type} {a b : List α} {i : Int} (ha : a.length ≤ i) (hb : b.length ≤ i) (hR : a.drop i.toNat = b.drop i.toNat ↔ a = b) : a = b := by
  rw [drop_end a ha, drop_end b hb] at hR
  exact hR.1 rfl
theorem len_eq {α : Type} {a b : List α} (h : ((a.length : Int) != (b.length : Int)) = false) : a.length = b.length := by
  have h : (a.length : Int) = b.length := by simpa using h
  omega
theorem ne_len {α : Type} {a b : List α} (h : ¬ (a.length : Int) = b.length) : a ≠ b := fun e => h (by rw [e])
theorem eq_Pat (x y : DPat) : x = y ↔ x.Kind = y.Kind ∧ x.Args = y.Args ∧ x.Not = y.Not := by cases x; cases y; simp [DPat.mk.injEq]
theorem eq_Act (x y : DAct) : x = y ↔ x.Kind = y.Kind ∧ x.Name = y.Name ∧ x.Args = y.Args ∧ x.N = y.N ∧ x.Undo = y.Undo := by cases x; cases y; simp [DAct.mk.injEq]
theorem eq_Match (x y : DMatch) : x = y ↔ x.Rule = y.Rule ∧ x.Ids = y.Ids ∧ x.Binds = y.Binds := by cases x; cases y; simp [DMatch.mk.injEq]
theorem eq_Item (x y : DItem) : x = y ↔ x.Id = y.Id ∧ x.F = y.F := by cases x; cases y; simp [DItem.mk.injEq]
theorem eq_Timer (x y : DTimer) : x = y ↔ x.At = y.At ∧ x.F = y.F := by cases x; cases y; simp [DTimer.mk.injEq]
theorem eq_Undo (x y : DUndo) : x = y ↔ x.Key = y.Key ∧ x.F = y.F := by cases x; cases y; simp [DUndo.mk.injEq]
theorem eq_Task (x y : DTask) : x = y ↔ x.F = y.F ∧ x.Undo = y.Undo ∧ x.State = y.State ∧ x.Tries = y.Tries ∧ x.Due = y.Due ∧ x.V = y.V := by cases x; cases y; simp [DTask.mk.injEq]
theorem eq_Rule (x y : DRule) : x = y ↔ x.Name = y.Name ∧ x.Sal = y.Sal ∧ x.Pats = y.Pats ∧ x.Conds = y.Conds ∧ x.Acts = y.Acts := by cases x; cases y; simp [DRule.mk.injEq]
theorem eq_Def (x y : DDef) : x = y ↔ x.Name = y.Name ∧ x.Rules = y.Rules := by cases x; cases y; simp [DDef.mk.injEq]
theorem eq_Work (x y : DWork) : x = y ↔ x.Name = y.Name ∧ x.Def = y.Def ∧ x.X = y.X := by cases x; cases y; simp [DWork.mk.injEq]
theorem eq_Store (x y : DStore) : x = y ↔ x.Items = y.Items ∧ x.Next = y.Next := by cases x; cases y; simp [DStore.mk.injEq]
theorem eq_Inst (x y : DInst) : x = y ↔ x.S = y.S ∧ x.Fired = y.Fired ∧ x.Tasks = y.Tasks ∧ x.Timers = y.Timers ∧ x.Undos = y.Undos ∧ x.State = y.State ∧ x.Now = y.Now := by cases x; cases y; simp [DInst.mk.injEq]
theorem eq_Book (x y : DBook) : x = y ↔ x.Defs = y.Defs ∧ x.Works = y.Works ∧ x.Now = y.Now ∧ x.Ring = y.Ring := by cases x; cases y; simp [DBook.mk.injEq]
def con_spec_l11Same : Con UU where
  α := (List Int) × (List Int)
  md := [.ro, .ro]
  of := fun | [.one (.sl .int a0), .one (.sl .int a1)] => some (a0, a1) | _ => none
  ds := fun (a, b) => [.one (.sl .int a), .one (.sl .int b)]
  pre := fun (a, b) => []
  res := fun (a, b) => ⟨[.one (.lit (.bool (decide (a = b))))], true, []⟩
  law := by intro l x h; (try simp only at h); split at h <;> cases h; rfl
def I_spec_l11Same_4 (a : (List Int)) (b : (List Int)) : Int × Unit → Prop := fun (i, _) => 0 ≤ i ∧ i ≤ a.length ∧ a.length = b.length ∧ (a.drop i.toNat = b.drop i.toNat ↔ a = b)
def μ_spec_l11Same_4 (a : (List Int)) (b : (List Int)) : Int × Unit → Nat := fun (i, _) => a.length - i.toNat
def ann_spec_l11Same : con_spec_l11Same.α → Nat → Option (Ann UU) := fun (a, b) => annL [(4, annOf [.slot 5 (5, 1024) (.lit (.int .i64))] (fun _ => I_spec_l11Same_4 a b) (μ_spec_l11Same_4 a b))]
def use_spec_l11Same : List (FuncId × Con UU) := []
theorem vc_spec_l11Same (a : (List Int)) (b : (List Int)) : goal EE use_spec_l11Same Go.Proofs.Tryz.f106 con_spec_l11Same ann_spec_l11Same (a, b) = (bif (↑(List.length a) : Int) != (↑(List.length b) : Int) then Lf [DV.one (Cell.lit (Value.bool false))] [DV.one (Cell.lit (Value.bool (decide (a = b))))] else I_spec_l11Same_4 a b ((0 : Int), PUnit.unit) ∧ ∀ (y : Int × PUnit), I_spec_l11Same_4 a b y → bif decide (y.1 < (↑(List.length a) : Int)) then (0 : Int) ≤ y.1 ∧ Int.toNat y.1 < List.length a ∧ (0 : Int) ≤ y.1 ∧ Int.toNat y.1 < List.length b ∧ bif List.getD a (Int.toNat y.1) (0 : Int) != List.getD b (Int.toNat y.1) (0 : Int) then Lf [DV.one (Cell.lit (Value.bool false))] [DV.one (Cell.lit (Value.bool (decide (a = b))))] else I_spec_l11Same_4 a b (IntKind.wrap IntKind.i64 (y.1 + (1 : Int)), PUnit.unit) ∧ μ_spec_l11Same_4 a b (IntKind.wrap IntKind.i64 (y.1 + (1 : Int)), PUnit.unit) < μ_spec_l11Same_4 a b y else Lf [DV.one (Cell.lit (Value.bool true))] [DV.one (Cell.lit (Value.bool (decide (a = b))))]) := by kernel_rfl
theorem ok_spec_l11Same : Holds EE (106, con_spec_l11Same) := by
  refine holds_of EE_ok Go.Proofs.Tryz.func106 con_spec_l11Same (by kernel_rfl) use_spec_l11Same all_nil ann_spec_l11Same (fun x hp hb => ?_)
  obtain ⟨a, b⟩ := x
  have hb_a : BdDV (U := UU) (.one (.sl .int a)) := hb _ (List.mem_cons_self)
  have hl_a : a.length ≤ 9223372036854775807 := Bd.len hb_a
  have hb_b : BdDV (U := UU) (.one (.sl .int b)) := hb _ (List.mem_cons_of_mem _ (List.mem_cons_self))
  have hl_b : b.length ≤ 9223372036854775807 := Bd.len hb_b
  clear hp hb
  rw [vc_spec_l11Same a b]
  refine if_cond (fun h => Lf_f (ne_len (by simpa using h))) (fun h => ⟨⟨by omega, by omega, (len_eq (a := a) (b := b) (by assumption)), by simp⟩, ?_⟩)
  rintro ⟨i, ⟨⟩⟩ ⟨h1, h2, h3, hR⟩
  simp only
  refine if_cond (fun hc => ?_) (fun hc => ?_)
  · have hc : i < a.length := of_decide_eq_true hc
    rw [wrap_i64 (by omega) (by omega)]
    try simp only [val_beq]
    try simp only [toList_beq]
    have hz : True := trivial
    repeat' (first | refine And.intro (by omega) ?_ | refine if_cond (fun h => ?_) (fun h => ?_))
    all_goals first | exact Lf_f (dr_ne (0 : Int) h1 hc (by omega) hR (by first | grind | (rw [hz]; grind))) | exact ⟨⟨by omega, by omega, h3, dr_eq (0 : Int) h1 hc (by omega) hR (by first | grind | (rw [hz]; grind))⟩, by simp only [μ_spec_l11Same_4]; omega⟩
  · have hc : a.length ≤ i := by have := of_decide_eq_false hc; omega
    exact Lf_t (dr_end hc (by omega) hR)
def con_spec_l23SameTasks : Con UU where
  α := (List DTask) × (List DTask)
  md := [.ro, .ro]
  of := fun | [.one (.sl .eTask a0), .one (.sl .eTask a1)] => some (a0, a1) | _ => none
  ds := fun (a, b) => [.one (.sl .eTask a), .one (.sl .eTask b)]
  pre := fun (a, b) => []
  res := fun (a, b) => ⟨[.one (.lit (.bool (decide (a = b))))], true, []⟩
  law := by intro l x h; (try simp only at h); split at h <;> cases h; rfl
def I_spec_l23SameTasks_4 (a : (List DTask)) (b : (List DTask)) : Int × Unit → Prop := fun (i, _) => 0 ≤ i ∧ i ≤ a.length ∧ a.length = b.length ∧ (a.drop i.toNat = b.drop i.toNat ↔ a = b)
def μ_spec_l23SameTasks_4 (a : (List DTask)) (b : (List DTask)) : Int × Unit → Nat := fun (i, _) => a.length - i.toNat
def ann_spec_l23SameTasks : con_spec_l23SameTasks.α → Nat → Option (Ann UU) := fun (a, b) => annL [(4, annOf [.slot 5 (5, 1024) (.lit (.int .i64))] (fun _ => I_spec_l23SameTasks_4 a b) (μ_spec_l23SameTasks_4 a b))]
def use_spec_l23SameTasks : List (FuncId × Con UU) := [(56, con_spec_SameFact)]
theorem vc_spec_l23SameTasks (a : (List DTask)) (b : (List DTask)) : goal EE use_spec_l23SameTasks Go.Proofs.Tryz.f92 con_spec_l23SameTasks ann_spec_l23SameTasks (a, b) = (bif (↑(List.length a) : Int) != (↑(List.length b) : Int) then Lf [DV.one (Cell.lit (Value.bool false))] [DV.one (Cell.lit (Value.bool (decide (a = b))))]
else
  I_spec_l23SameTasks_4 a b ((0 : Int), PUnit.unit) ∧
    ∀ (y : Int × PUnit),
      let x0 : DTask := List.getD a (Int.toNat y.1) zTask;
      let x1 : DTask := List.getD b (Int.toNat y.1) zTask;
      I_spec_l23SameTasks_4 a b y → bif decide (y.1 < (↑(List.length a) : Int)) then (0 : Int) ≤ y.1 ∧ Int.toNat y.1 < List.length a ∧ (0 : Int) ≤ y.1 ∧ Int.toNat y.1 < List.length b ∧ bif !decide (x0.F = x1.F) then Lf [DV.one (Cell.lit (Value.bool false))] [DV.one (Cell.lit (Value.bool (decide (a = b))))] else bif !ByteArray.toList x0.Undo == ByteArray.toList x1.Undo then Lf [DV.one (Cell.lit (Value.bool false))] [DV.one (Cell.lit (Value.bool (decide (a = b))))] else bif x0.State != x1.State then Lf [DV.one (Cell.lit (Value.bool false))] [DV.one (Cell.lit (Value.bool (decide (a = b))))] else bif x0.Tries != x1.Tries then Lf [DV.one (Cell.lit (Value.bool false))] [DV.one (Cell.lit (Value.bool (decide (a = b))))] else bif x0.Due != x1.Due then Lf [DV.one (Cell.lit (Value.bool false))] [DV.one (Cell.lit (Value.bool (decide (a = b))))] else bif !(x0.V.K == x1.V.K && (x0.V.N == x1.V.N && (ByteArray.toList x0.V.S == ByteArray.toList x1.V.S && true))) then Lf [DV.one (Cell.lit (Value.bool false))] [DV.one (Cell.lit (Value.bool (decide (a = b))))] else I_spec_l23SameTasks_4 a b (IntKind.wrap IntKind.i64 (y.1 + (1 : Int)), PUnit.unit) ∧ μ_spec_l23SameTasks_4 a b (IntKind.wrap IntKind.i64 (y.1 + (1 : Int)), PUnit.unit) < μ_spec_l23SameTasks_4 a b y else Lf [DV.one (Cell.lit (Value.bool true))] [DV.one (Cell.lit (Value.bool (decide (a = b))))]) := by kernel_rfl
theorem ok_spec_l23SameTasks : Holds EE (92, con_spec_l23SameTasks) := by
  refine holds_of EE_ok Go.Proofs.Tryz.func92 con_spec_l23SameTasks (by kernel_rfl) use_spec_l23SameTasks (all_cons ok_spec_SameFact all_nil) ann_spec_l23SameTasks (fun x hp hb => ?_)
  obtain ⟨a, b⟩ := x
  have hb_a : BdDV (U := UU) (.one (.sl .eTask a)) := hb _ (List.mem_cons_self)
  have hl_a : a.length ≤ 9223372036854775807 := Bd.len hb_a
  have hb_b : BdDV (U := UU) (.one (.sl .eTask b)) := hb _ (List.mem_cons_of_mem _ (List.mem_cons_self))
  have hl_b : b.length ≤ 9223372036854775807 := Bd.len hb_b
  clear hp hb
  rw [vc_spec_l23SameTasks a b]
  dsimp only
  refine if_cond (fun h => Lf_f (ne_len (by simpa using h))) (fun h => ⟨⟨by omega, by omega, (len_eq (a := a) (b := b) (by assumption)), by simp⟩, ?_⟩)
  rintro ⟨i, ⟨⟩⟩ ⟨h1, h2, h3, hR⟩
  simp only
  refine if_cond (fun hc => ?_) (fun hc => ?_)
  · have hc : i < a.length := of_decide_eq_true hc
    rw [wrap_i64 (by omega) (by omega)]
    try simp only [val_beq]
    try simp only [toList_beq]
    have hz : _ := eq_Task (List.getD a i.toNat zTask) (List.getD b i.toNat zTask)
    repeat' (first | refine And.intro (by omega) ?_ | refine if_cond (fun h => ?_) (fun h => ?_))
    all_goals first | exact Lf_f (dr_ne zTask h1 hc (by omega) hR (by first | grind | (rw [hz]; grind))) | exact ⟨⟨by omega, by omega, h3, dr_eq zTask h1 hc (by omega) hR (by first | grind | (rw [hz]; grind))⟩, by simp only [μ_spec_l23SameTasks_4]; omega⟩
  · have hc : a.length ≤ i := by have := of_decide_eq_false hc; omega
    exact Lf_t (dr_end hc (by omega) hR)
def con_spec_SameMatch : Con UU where
  α := DMatch × DMatch
  md := [.ro, .ro]
  of := fun | [.agg [.lit (.int .i64 a0), .sl .int a1, .sl .eBind a2], .agg [.lit (.int .i64 a3), .sl .int a4, .sl .eBind a5]] => some (⟨a0, a1, a2⟩, ⟨a3, a4, a5⟩) | _ => none
  ds := fun (a, b) => [.agg [.lit (.int .i64 a.Rule), .sl .int a.Ids, .sl .eBind a.Binds], .agg [.lit (.int .i64 b.Rule), .sl .int b.Ids, .sl .eBind b.Binds]]
  pre := fun (a, b) => []
  res := fun (a, b) => ⟨[.one (.lit (.bool (decide (a.Rule = b.Rule ∧ a.Ids = b.Ids))))], true, []⟩
  law := by intro l x h; (try simp only at h); split at h <;> cases h; rfl
def ann_spec_SameMatch : con_spec_SameMatch.α → Nat → Option (Ann UU) := fun (a, b) => annL []
def use_spec_SameMatch : List (FuncId × Con UU) := [(106, con_spec_l11Same)]
theorem vc_spec_SameMatch (a : DMatch) (b : DMatch) : goal EE use_spec_SameMatch Go.Proofs.Tryz.f101 con_spec_SameMatch ann_spec_SameMatch (a, b) = (bif a.Rule == b.Rule then Lf [DV.one (Cell.lit (Value.bool (decide (a.Ids = b.Ids))))] [DV.one (Cell.lit (Value.bool (decide (a.Rule = b.Rule ∧ a.Ids = b.Ids))))] else Lf [DV.one (Cell.lit (Value.bool false))] [DV.one (Cell.lit (Value.bool (decide (a.Rule = b.Rule ∧ a.Ids = b.Ids))))]) := by kernel_rfl
theorem ok_spec_SameMatch : Holds EE (101, con_spec_SameMatch) := by
  refine holds_of EE_ok Go.Proofs.Tryz.func101 con_spec_SameMatch (by kernel_rfl) use_spec_SameMatch (all_cons ok_spec_l11Same all_nil) ann_spec_SameMatch (fun x hp hb => ?_)
  obtain ⟨a, b⟩ := x
  have hb_a : BdDV (U := UU) (.agg [.lit (.int .i64 a.Rule), .sl .int a.Ids, .sl .eBind a.Binds]) := hb _ (List.mem_cons_self)
  have hl_a_Ids : a.Ids.length ≤ 9223372036854775807 := Bd.len (U := UU) (τ := .int) (xs := a.Ids) (hb_a _ (by simp))
  have hl_a_Binds : a.Binds.length ≤ 9223372036854775807 := Bd.len (U := UU) (τ := .eBind) (xs := a.Binds) (hb_a _ (by simp))
  have hb_b : BdDV (U := UU) (.agg [.lit (.int .i64 b.Rule), .sl .int b.Ids, .sl .eBind b.Binds]) := hb _ (List.mem_cons_of_mem _ (List.mem_cons_self))
  have hl_b_Ids : b.Ids.length ≤ 9223372036854775807 := Bd.len (U := UU) (τ := .int) (xs := b.Ids) (hb_b _ (by simp))
  have hl_b_Binds : b.Binds.length ≤ 9223372036854775807 := Bd.len (U := UU) (τ := .eBind) (xs := b.Binds) (hb_b _ (by simp))
  clear hp hb
  rw [vc_spec_SameMatch a b]
  refine if_cond (fun h => Lf_b ?_) (fun h => Lf_b ?_) <;> grind
def con_spec_l10SamePats : Con UU where
  α := (List DPat) × (List DPat)
  md := [.ro, .ro]
  of := fun | [.one (.sl .ePat a0), .one (.sl .ePat a1)] => some (a0, a1) | _ => none
  ds := fun (a, b) => [.one (.sl .ePat a), .one (.sl .ePat b)]
  pre := fun (a, b) => []
  res := fun (a, b) => ⟨[.one (.lit (.bool (decide (a = b))))], true, []⟩
  law := by intro l x h; (try simp only at h); split at h <;> cases h; rfl
def I_spec_l10SamePats_4 (a : (List DPat)) (b : (List DPat)) : Int × Unit → Prop := fun (i, _) => 0 ≤ i ∧ i ≤ a.length ∧ a.length = b.length ∧ (a.drop i.toNat = b.drop i.toNat ↔ a = b)
def μ_spec_l10SamePats_4 (a : (List DPat)) (b : (List DPat)) : Int × Unit → Nat := fun (i, _) => a.length - i.toNat
def I_spec_l10SamePats_9 (a : (List DPat)) (b : (List DPat)) : Int × Int × Unit → Int × Int × Unit → Prop := fun (i0, k0, _) (i, k, _) => i = i0 ∧ 0 ≤ k ∧ k ≤ (List.getD a i.toNat zPat).Args.length ∧ (List.getD a i.toNat zPat).Args.length = (List.getD b i.toNat zPat).Args.length ∧ ((List.getD a i.toNat zPat).Args.drop k.toNat = (List.getD b i.toNat zPat).Args.drop k.toNat ↔ (List.getD a i.toNat zPat).Args = (List.getD b i.toNat zPat).Args)
def μ_spec_l10SamePats_9 (a : (List DPat)) (b : (List DPat)) : Int × Int × Unit → Nat := fun (i, k, _) => (List.getD a i.toNat zPat).Args.length - k.toNat
def ann_spec_l10SamePats : con_spec_l10SamePats.α → Nat → Option (Ann UU) := fun (a, b) => annL [(4, annOf [.slot 5 (5, 1024) (.lit (.int .i64))] (fun _ => I_spec_l10SamePats_4 a b) (μ_spec_l10SamePats_4 a b)), (9, annOf [.slot 5 (5, 1024) (.lit (.int .i64)), .slot 6 (6, 1024) (.lit (.int .i64))] (I_spec_l10SamePats_9 a b) (μ_spec_l10SamePats_9 a b))]
def use_spec_l10SamePats : List (FuncId × Con UU) := []
theorem vc_spec_l10SamePats (a : (List DPat)) (b : (List DPat)) : goal EE use_spec_l10SamePats Go.Proofs.Tryz.f99 con_spec_l10SamePats ann_spec_l10SamePats (a, b) = (bif (↑(List.length a) : Int) != (↑(List.length b) : Int) then Lf [DV.one (Cell.lit (Value.bool false))] [DV.one (Cell.lit (Value.bool (decide (a = b))))]
else
  I_spec_l10SamePats_4 a b ((0 : Int), PUnit.unit) ∧
    ∀ (y : Int × PUnit),
      let x0 : DPat := List.getD a (Int.toNat y.1) zPat;
      let x1 : DPat := List.getD b (Int.toNat y.1) zPat;
      I_spec_l10SamePats_4 a b y →
        bif decide (y.1 < (↑(List.length a) : Int)) then
          (0 : Int) ≤ y.1 ∧
            Int.toNat y.1 < List.length a ∧
              (0 : Int) ≤ y.1 ∧
                Int.toNat y.1 < List.length b ∧
                  bif !ByteArray.toList x0.Kind == ByteArray.toList x1.Kind then Lf [DV.one (Cell.lit (Value.bool false))] [DV.one (Cell.lit (Value.bool (decide (a = b))))]
                  else
                    (0 : Int) ≤ y.1 ∧
                      Int.toNat y.1 < List.length a ∧
                        (0 : Int) ≤ y.1 ∧
                          Int.toNat y.1 < List.length b ∧
                            bif !x0.Not == x1.Not then Lf [DV.one (Cell.lit (Value.bool false))] [DV.one (Cell.lit (Value.bool (decide (a = b))))]
                            else
                              (0 : Int) ≤ y.1 ∧
                                Int.toNat y.1 < List.length a ∧
                                  (0 : Int) ≤ y.1 ∧
                                    Int.toNat y.1 < List.length b ∧
                                      bif (↑(List.length x0.Args) : Int) != (↑(List.length x1.Args) : Int) then Lf [DV.one (Cell.lit (Value.bool false))] [DV.one (Cell.lit (Value.bool (decide (a = b))))]
                                      else
                                        I_spec_l10SamePats_9 a b (y.1, (0 : Int), PUnit.unit) (y.1, (0 : Int), PUnit.unit) ∧
                                          ∀ (y_1 : Int × Int × PUnit),
                                            let x2 : Nat := Int.toNat y_1.2.1;
                                            let x3 : DVal := (List.getD (List.getD a (Int.toNat y_1.1) zPat).Args x2 zArg).V;
                                            let x4 : DVal := (List.getD (List.getD b (Int.toNat y_1.1) zPat).Args x2 zArg).V;
                                            let x5 : Int := (↑(List.length (List.getD a (Int.toNat y_1.1) zPat).Args) : Int);
                                            I_spec_l10SamePats_9 a b (y.1, (0 : Int), PUnit.unit) y_1 → (0 : Int) ≤ y_1.1 ∧ Int.toNat y_1.1 < List.length a ∧ bif decide (y_1.2.1 < x5) then (0 : Int) ≤ y_1.1 ∧ Int.toNat y_1.1 < List.length a ∧ (0 : Int) ≤ y_1.2.1 ∧ x2 < List.length (List.getD a (Int.toNat y_1.1) zPat).Args ∧ (0 : Int) ≤ y_1.1 ∧ Int.toNat y_1.1 < List.length b ∧ (0 : Int) ≤ y_1.2.1 ∧ x2 < List.length (List.getD b (Int.toNat y_1.1) zPat).Args ∧ bif !((List.getD (List.getD a (Int.toNat y_1.1) zPat).Args x2 zArg).K == (List.getD (List.getD b (Int.toNat y_1.1) zPat).Args x2 zArg).K && (ByteArray.toList (List.getD (List.getD a (Int.toNat y_1.1) zPat).Args x2 zArg).S == ByteArray.toList (List.getD (List.getD b (Int.toNat y_1.1) zPat).Args x2 zArg).S && (x3.K == x4.K && (x3.N == x4.N && (ByteArray.toList x3.S == ByteArray.toList x4.S && true)) && true))) then Lf [DV.one (Cell.lit (Value.bool false))] [DV.one (Cell.lit (Value.bool (decide (a = b))))] else I_spec_l10SamePats_9 a b (y.1, (0 : Int), PUnit.unit) (y_1.1, IntKind.wrap IntKind.i64 (y_1.2.1 + (1 : Int)), PUnit.unit) ∧ μ_spec_l10SamePats_9 a b (y_1.1, IntKind.wrap IntKind.i64 (y_1.2.1 + (1 : Int)), PUnit.unit) < μ_spec_l10SamePats_9 a b y_1 else I_spec_l10SamePats_4 a b (IntKind.wrap IntKind.i64 (y_1.1 + (1 : Int)), PUnit.unit) ∧ μ_spec_l10SamePats_4 a b (IntKind.wrap IntKind.i64 (y_1.1 + (1 : Int)), PUnit.unit) < μ_spec_l10SamePats_4 a b y
        else Lf [DV.one (Cell.lit (Value.bool true))] [DV.one (Cell.lit (Value.bool (decide (a = b))))]) := by kernel_rfl
theorem ok_spec_l10SamePats : Holds EE (99, con_spec_l10SamePats) := by
  refine holds_of EE_ok Go.Proofs.Tryz.func99 con_spec_l10SamePats (by kernel_rfl) use_spec_l10SamePats all_nil ann_spec_l10SamePats (fun x hp hb => ?_)
  obtain ⟨a, b⟩ := x
  have hb_a : BdDV (U := UU) (.one (.sl .ePat a)) := hb _ (List.mem_cons_self)
  have hl_a : a.length ≤ 9223372036854775807 := Bd.len hb_a
  have hb_b : BdDV (U := UU) (.one (.sl .ePat b)) := hb _ (List.mem_cons_of_mem _ (List.mem_cons_self))
  have hl_b : b.length ≤ 9223372036854775807 := Bd.len hb_b
  clear hp hb
  rw [vc_spec_l10SamePats a b]
  dsimp only
  refine if_cond (fun h => Lf_f (ne_len (by simpa using h))) (fun h => ⟨⟨by omega, by omega, (len_eq (a := a) (b := b) (by assumption)), by simp⟩, ?_⟩)
  rintro ⟨i, ⟨⟩⟩ ⟨h1, h2, h3, hR⟩
  simp only
  refine if_cond (fun hc => ?_) (fun hc => ?_)
  · have hc : i < a.length := of_decide_eq_true hc
    have hm : μ_spec_l10SamePats_4 a b (i + 1, PUnit.unit) < μ_spec_l10SamePats_4 a b (i, ()) := by simp only [μ_spec_l10SamePats_4]; omega
    try simp only [arg_beq]
    try simp only [toList_beq]
    have hz : _ := eq_Pat (List.getD a i.toNat zPat) (List.getD b i.toNat zPat)
    have hlA : (List.getD a i.toNat zPat).Args.length ≤ 9223372036854775807 := Bd.len (Bd.row hb_a (x := List.getD a i.toNat zPat) (c := .sl .eArg (List.getD a i.toNat zPat).Args) (getD_mem a _ h1 hc) (.tail _ (.head _)))
    repeat' (first | refine And.intro (by omega) ?_ | refine if_cond (fun h => Lf_f (dr_ne zPat h1 hc (by omega) hR (by first | grind | (rw [hz]; grind)))) (fun h => ?_))
    refine ⟨⟨rfl, by omega, by omega, (len_eq (a := (List.getD a i.toNat zPat).Args) (b := (List.getD b i.toNat zPat).Args) (by assumption)), by simp⟩, ?_⟩
    rintro ⟨i, k, ⟨⟩⟩ ⟨rfl, g1, g2, g3, gR⟩
    try simp only
    repeat' (refine And.intro (by omega) ?_)
    refine if_cond (fun hk => ?_) (fun hk => ?_)
    · have hk := of_decide_eq_true hk
      simp (disch := omega) only [wrap_i64]
      repeat' (first | refine And.intro (by omega) ?_ | refine if_cond (fun h => ?_) (fun h => ?_))
      all_goals first | exact Lf_f (dr_ne zPat h1 hc (by omega) hR (fun e => absurd (by rw [e]) (dr_ne zArg g1 hk (by omega) gR (by grind)))) | exact ⟨⟨rfl, by omega, by omega, g3, dr_eq zArg g1 hk (by omega) gR (by grind)⟩, by simp only [μ_spec_l10SamePats_9]; omega⟩
    · have hk : (List.getD a i.toNat zPat).Args.length ≤ k := by have := of_decide_eq_false hk; omega
      have he := dr_end hk (by omega) gR
      simp (disch := omega) only [wrap_i64]
      exact ⟨⟨by omega, by omega, h3, dr_eq zPat h1 hc (by omega) hR (by first | grind | (rw [hz]; grind))⟩, hm⟩
  · have hc : a.length ≤ i := by have := of_decide_eq_false hc; omega
    exact Lf_t (dr_end hc (by omega) hR)
def con_spec_SameSet : Con UU where
  α := (List DMatch) × (List DMatch)
  md := [.ro, .ro]
  of := fun | [.one (.sl .eMatch a0), .one (.sl .eMatch a1)] => some (a0, a1) | _ => none
  ds := fun (a, b) => [.one (.sl .eMatch a), .one (.sl .eMatch b)]
  pre := fun (a, b) => []
  res := fun (a, b) => ⟨[.one (.lit (.bool (decide (a = b))))], true, []⟩
  law := by intro l x h; (try simp only at h); split at h <;> cases h; rfl
def I_spec_SameSet_4 (a : (List DMatch)) (b : (List DMatch)) : Int × Unit → Prop := fun (i, _) => 0 ≤ i ∧ i ≤ a.length ∧ a.length = b.length ∧ (a.drop i.toNat = b.drop i.toNat ↔ a = b)
def μ_spec_SameSet_4 (a : (List DMatch)) (b : (List DMatch)) : Int × Unit → Nat := fun (i, _) => a.length - i.toNat
def I_spec_SameSet_9 (a : (List DMatch)) (b : (List DMatch)) : Int × Int × Unit → Int × Int × Unit → Prop := fun (i0, k0, _) (i, k, _) => i = i0 ∧ 0 ≤ k ∧ k ≤ (List.getD a i.toNat zMatch).Binds.length ∧ (List.getD a i.toNat zMatch).Binds.length = (List.getD b i.toNat zMatch).Binds.length ∧ ((List.getD a i.toNat zMatch).Binds.drop k.toNat = (List.getD b i.toNat zMatch).Binds.drop k.toNat ↔ (List.getD a i.toNat zMatch).Binds = (List.getD b i.toNat zMatch).Binds)
def μ_spec_SameSet_9 (a : (List DMatch)) (b : (List DMatch)) : Int × Int × Unit → Nat := fun (i, k, _) => (List.getD a i.toNat zMatch).Binds.length - k.toNat
def ann_spec_SameSet : con_spec_SameSet.α → Nat → Option (Ann UU) := fun (a, b) => annL [(4, annOf [.slot 5 (5, 1024) (.lit (.int .i64))] (fun _ => I_spec_SameSet_4 a b) (μ_spec_SameSet_4 a b)), (9, annOf [.slot 5 (5, 1024) (.lit (.int .i64)), .slot 6 (6, 1024) (.lit (.int .i64))] (I_spec_SameSet_9 a b) (μ_spec_SameSet_9 a b))]
def use_spec_SameSet : List (FuncId × Con UU) := [(101, con_spec_SameMatch)]
theorem vc_spec_SameSet (a : (List DMatch)) (b : (List DMatch)) : goal EE use_spec_SameSet Go.Proofs.Tryz.f93 con_spec_SameSet ann_spec_SameSet (a, b) = (bif (↑(List.length a) : Int) != (↑(List.length b) : Int) then Lf [DV.one (Cell.lit (Value.bool false))] [DV.one (Cell.lit (Value.bool (decide (a = b))))]
else
  I_spec_SameSet_4 a b ((0 : Int), PUnit.unit) ∧
    ∀ (y : Int × PUnit),
      let x0 : DMatch := List.getD a (Int.toNat y.1) zMatch;
      let x1 : DMatch := List.getD b (Int.toNat y.1) zMatch;
      I_spec_SameSet_4 a b y →
        bif decide (y.1 < (↑(List.length a) : Int)) then
          (0 : Int) ≤ y.1 ∧
            Int.toNat y.1 < List.length a ∧
              (0 : Int) ≤ y.1 ∧
                Int.toNat y.1 < List.length b ∧
                  bif !decide (x0.Rule = x1.Rule ∧ x0.Ids = x1.Ids) then Lf [DV.one (Cell.lit (Value.bool false))] [DV.one (Cell.lit (Value.bool (decide (a = b))))]
                  else
                    (0 : Int) ≤ y.1 ∧
                      Int.toNat y.1 < List.length a ∧
                        (0 : Int) ≤ y.1 ∧
                          Int.toNat y.1 < List.length b ∧
                            bif (↑(List.length x0.Binds) : Int) != (↑(List.length x1.Binds) : Int) then Lf [DV.one (Cell.lit (Value.bool false))] [DV.one (Cell.lit (Value.bool (decide (a = b))))]
                            else
                              I_spec_SameSet_9 a b (y.1, (0 : Int), PUnit.unit) (y.1, (0 : Int), PUnit.unit) ∧
                                ∀ (y_1 : Int × Int × PUnit),
                                  let x2 : Nat := Int.toNat y_1.2.1;
                                  let x3 : DVal := (List.getD (List.getD a (Int.toNat y_1.1) zMatch).Binds x2 zBind).V;
                                  let x4 : DVal := (List.getD (List.getD b (Int.toNat y_1.1) zMatch).Binds x2 zBind).V;
                                  let x5 : Int := (↑(List.length (List.getD a (Int.toNat y_1.1) zMatch).Binds) : Int);
                                  I_spec_SameSet_9 a b (y.1, (0 : Int), PUnit.unit) y_1 → (0 : Int) ≤ y_1.1 ∧ Int.toNat y_1.1 < List.length a ∧ bif decide (y_1.2.1 < x5) then (0 : Int) ≤ y_1.1 ∧ Int.toNat y_1.1 < List.length a ∧ (0 : Int) ≤ y_1.2.1 ∧ x2 < List.length (List.getD a (Int.toNat y_1.1) zMatch).Binds ∧ (0 : Int) ≤ y_1.1 ∧ Int.toNat y_1.1 < List.length b ∧ (0 : Int) ≤ y_1.2.1 ∧ x2 < List.length (List.getD b (Int.toNat y_1.1) zMatch).Binds ∧ bif !(ByteArray.toList (List.getD (List.getD a (Int.toNat y_1.1) zMatch).Binds x2 zBind).Name == ByteArray.toList (List.getD (List.getD b (Int.toNat y_1.1) zMatch).Binds x2 zBind).Name && (x3.K == x4.K && (x3.N == x4.N && (ByteArray.toList x3.S == ByteArray.toList x4.S && true)) && true)) then Lf [DV.one (Cell.lit (Value.bool false))] [DV.one (Cell.lit (Value.bool (decide (a = b))))] else I_spec_SameSet_9 a b (y.1, (0 : Int), PUnit.unit) (y_1.1, IntKind.wrap IntKind.i64 (y_1.2.1 + (1 : Int)), PUnit.unit) ∧ μ_spec_SameSet_9 a b (y_1.1, IntKind.wrap IntKind.i64 (y_1.2.1 + (1 : Int)), PUnit.unit) < μ_spec_SameSet_9 a b y_1 else I_spec_SameSet_4 a b (IntKind.wrap IntKind.i64 (y_1.1 + (1 : Int)), PUnit.unit) ∧ μ_spec_SameSet_4 a b (IntKind.wrap IntKind.i64 (y_1.1 + (1 : Int)), PUnit.unit) < μ_spec_SameSet_4 a b y
        else Lf [DV.one (Cell.lit (Value.bool true))] [DV.one (Cell.lit (Value.bool (decide (a = b))))]) := by kernel_rfl
theorem ok_spec_SameSet : Holds EE (93, con_spec_SameSet) := by
  refine holds_of EE_ok Go.Proofs.Tryz.func93 con_spec_SameSet (by kernel_rfl) use_spec_SameSet (all_cons ok_spec_SameMatch all_nil) ann_spec_SameSet (fun x hp hb => ?_)
  obtain ⟨a, b⟩ := x
  have hb_a : BdDV (U := UU) (.one (.sl .eMatch a)) := hb _ (List.mem_cons_self)
  have hl_a : a.length ≤ 9223372036854775807 := Bd.len hb_a
  have hb_b : BdDV (U := UU) (.one (.sl .eMatch b)) := hb _ (List.mem_cons_of_mem _ (List.mem_cons_self))
  have hl_b : b.length ≤ 9223372036854775807 := Bd.len hb_b
  clear hp hb
  rw [vc_spec_SameSet a b]
  dsimp only
  refine if_cond (fun h => Lf_f (ne_len (by simpa using h))) (fun h => ⟨⟨by omega, by omega, (len_eq (a := a) (b := b) (by assumption)), by simp⟩, ?_⟩)
  rintro ⟨i, ⟨⟩⟩ ⟨h1, h2, h3, hR⟩
  simp only
  refine if_cond (fun hc => ?_) (fun hc => ?_)
  · have hc : i < a.length := of_decide_eq_true hc
    have hm : μ_spec_SameSet_4 a b (i + 1, PUnit.unit) < μ_spec_SameSet_4 a b (i, ()) := by simp only [μ_spec_SameSet_4]; omega
    try simp only [bind_beq]
    try simp only [toList_beq]
    have hz : _ := eq_Match (List.getD a i.toNat zMatch) (List.getD b i.toNat zMatch)
    have hlA : (List.getD a i.toNat zMatch).Binds.length ≤ 9223372036854775807 := Bd.len (Bd.row hb_a (x := List.getD a i.toNat zMatch) (c := .sl .eBind (List.getD a i.toNat zMatch).Binds) (getD_mem a _ h1 hc) (.tail _ (.tail _ (.head _))))
    repeat' (first | refine And.intro (by omega) ?_ | refine if_cond (fun h => Lf_f (dr_ne zMatch h1 hc (by omega) hR (by first | grind | (rw [hz]; grind)))) (fun h => ?_))
    refine ⟨⟨rfl, by omega, by omega, (len_eq (a := (List.getD a i.toNat zMatch).Binds) (b := (List.getD b i.toNat zMatch).Binds) (by assumption)), by simp⟩, ?_⟩
    rintro ⟨i, k, ⟨⟩⟩ ⟨rfl, g1, g2, g3, gR⟩
    try simp only
    repeat' (refine And.intro (by omega) ?_)
    refine if_cond (fun hk => ?_) (fun hk => ?_)
    · have hk := of_decide_eq_true hk
      simp (disch := omega) only [wrap_i64]
      repeat' (first | refine And.intro (by omega) ?_ | refine if_cond (fun h => ?_) (fun h => ?_))
      all_goals first | exact Lf_f (dr_ne zMatch h1 hc (by omega) hR (fun e => absurd (by rw [e]) (dr_ne zBind g1 hk (by omega) gR (by grind)))) | exact ⟨⟨rfl, by omega, by omega, g3, dr_eq zBind g1 hk (by omega) gR (by grind)⟩, by simp only [μ_spec_SameSet_9]; omega⟩
    · have hk : (List.getD a i.toNat zMatch).Binds.length ≤ k := by have := of_decide_eq_false hk; omega
      have he := dr_end hk (by omega) gR
      simp (disch := omega) only [wrap_i64]
      exact ⟨⟨by omega, by omega, h3, dr_eq zMatch h1 hc (by omega) hR (by first | grind | (rw [hz]; grind))⟩, hm⟩
  · have hc : a.length ≤ i := by have := of_decide_eq_false hc; omega
    exact Lf_t (dr_end hc (by omega) hR)
def con_spec_l10SameActs : Con UU where
  α := (List DAct) × (List DAct)
  md := [.ro, .ro]
  of := fun | [.one (.sl .eAct a0), .one (.sl .eAct a1)] => some (a0, a1) | _ => none
  ds := fun (a, b) => [.one (.sl .eAct a), .one (.sl .eAct b)]
  pre := fun (a, b) => []
  res := fun (a, b) => ⟨[.one (.lit (.bool (decide (a = b))))], true, []⟩
  law := by intro l x h; (try simp only at h); split at h <;> cases h; rfl
def I_spec_l10SameActs_4 (a : (List DAct)) (b : (List DAct)) : Int × Unit → Prop := fun (i, _) => 0 ≤ i ∧ i ≤ a.length ∧ a.length = b.length ∧ (a.drop i.toNat = b.drop i.toNat ↔ a = b)
def μ_spec_l10SameActs_4 (a : (List DAct)) (b : (List DAct)) : Int × Unit → Nat := fun (i, _) => a.length - i.toNat
def I_spec_l10SameActs_11 (a : (List DAct)) (b : (List DAct)) : Int × (Int × ByteArray × List DExpr × Int × ByteArray × Unit) × (Int × ByteArray × List DExpr × Int × ByteArray × Unit) × Int × Unit → Int × (Int × ByteArray × List DExpr × Int × ByteArray × Unit) × (Int × ByteArray × List DExpr × Int × ByteArray × Unit) × Int × Unit → Prop := fun (i0, fx0, fy0, k0, _) (i, fx, fy, k, _) => i = i0 ∧ 0 ≤ k ∧ k ≤ (List.getD a i.toNat zAct).Args.length ∧ (List.getD a i.toNat zAct).Args.length = (List.getD b i.toNat zAct).Args.length ∧ ((List.getD a i.toNat zAct).Args.drop k.toNat = (List.getD b i.toNat zAct).Args.drop k.toNat ↔ (List.getD a i.toNat zAct).Args = (List.getD b i.toNat zAct).Args) ∧ fx = ((List.getD a i.toNat zAct).Kind, (List.getD a i.toNat zAct).Name, (List.getD a i.toNat zAct).Args, (List.getD a i.toNat zAct).N, (List.getD a i.toNat zAct).Undo, ()) ∧ fy = ((List.getD b i.toNat zAct).Kind, (List.getD b i.toNat zAct).Name, (List.getD b i.toNat zAct).Args, (List.getD b i.toNat zAct).N, (List.getD b i.toNat zAct).Undo, ())
def μ_spec_l10SameActs_11 (a : (List DAct)) (b : (List DAct)) : Int × (Int × ByteArray × List DExpr × Int × ByteArray × Unit) × (Int × ByteArray × List DExpr × Int × ByteArray × Unit) × Int × Unit → Nat := fun (i, fx, fy, k, _) => (List.getD a i.toNat zAct).Args.length - k.toNat
def ann_spec_l10SameActs : con_spec_l10SameActs.α → Nat → Option (Ann UU) := fun (a, b) => annL [(4, annOf [.slot 5 (5, 1024) (.lit (.int .i64))] (fun _ => I_spec_l10SameActs_4 a b) (μ_spec_l10SameActs_4 a b)), (11, annOf [.slot 5 (5, 1024) (.lit (.int .i64)), .box 6 (6, 1024) [.lit (.int .i64), .lit .str, .shr .eExpr, .lit (.int .i64), .lit .str], .box 7 (7, 1024) [.lit (.int .i64), .lit .str, .shr .eExpr, .lit (.int .i64), .lit .str], .slot 8 (8, 1024) (.lit (.int .i64))] (I_spec_l10SameActs_11 a b) (μ_spec_l10SameActs_11 a b))]
def use_spec_l10SameActs : List (FuncId × Con UU) := []
theorem vc_spec_l10SameActs (a : (List DAct)) (b : (List DAct)) : goal EE use_spec_l10SameActs Go.Proofs.Tryz.f100 con_spec_l10SameActs ann_spec_l10SameActs (a, b) = (bif (↑(List.length a) : Int) != (↑(List.length b) : Int) then Lf [DV.one (Cell.lit (Value.bool false))] [DV.one (Cell.lit (Value.bool (decide (a = b))))]
else
  I_spec_l10SameActs_4 a b ((0 : Int), PUnit.unit) ∧
    ∀ (y : Int × PUnit),
      let x0 : DAct := List.getD a (Int.toNat y.1) zAct;
      let x1 : DAct := List.getD b (Int.toNat y.1) zAct;
      I_spec_l10SameActs_4 a b y →
        bif decide (y.1 < (↑(List.length a) : Int)) then
          (0 : Int) ≤ y.1 ∧
            Int.toNat y.1 < List.length a ∧
              (0 : Int) ≤ y.1 ∧
                Int.toNat y.1 < List.length b ∧
                  bif x0.Kind != x1.Kind then Lf [DV.one (Cell.lit (Value.bool false))] [DV.one (Cell.lit (Value.bool (decide (a = b))))]
                  else
                    bif !ByteArray.toList x0.Name == ByteArray.toList x1.Name then Lf [DV.one (Cell.lit (Value.bool false))] [DV.one (Cell.lit (Value.bool (decide (a = b))))]
                    else
                      bif x0.N != x1.N then Lf [DV.one (Cell.lit (Value.bool false))] [DV.one (Cell.lit (Value.bool (decide (a = b))))]
                      else
                        bif !ByteArray.toList x0.Undo == ByteArray.toList x1.Undo then Lf [DV.one (Cell.lit (Value.bool false))] [DV.one (Cell.lit (Value.bool (decide (a = b))))]
                        else
                          bif (↑(List.length x0.Args) : Int) != (↑(List.length x1.Args) : Int) then Lf [DV.one (Cell.lit (Value.bool false))] [DV.one (Cell.lit (Value.bool (decide (a = b))))]
                          else
                            I_spec_l10SameActs_11 a b (y.1, (x0.Kind, x0.Name, x0.Args, x0.N, x0.Undo, PUnit.unit), (x1.Kind, x1.Name, x1.Args, x1.N, x1.Undo, PUnit.unit), (0 : Int), PUnit.unit) (y.1, (x0.Kind, x0.Name, x0.Args, x0.N, x0.Undo, PUnit.unit), (x1.Kind, x1.Name, x1.Args, x1.N, x1.Undo, PUnit.unit), (0 : Int), PUnit.unit) ∧
                              ∀ (y_1 : Int × (Int × ByteArray × List DExpr × Int × ByteArray × PUnit) × (Int × ByteArray × List DExpr × Int × ByteArray × PUnit) × Int × PUnit),
                                let x2 : DVal := (List.getD y_1.2.2.1.2.2.1 (Int.toNat y_1.2.2.2.1) zExpr).L.V;
                                let x3 : DVal := (List.getD y_1.2.2.1.2.2.1 (Int.toNat y_1.2.2.2.1) zExpr).R.V;
                                let x4 : DExpr := List.getD y_1.2.2.1.2.2.1 (Int.toNat y_1.2.2.2.1) zExpr;
                                let x5 : DVal := (List.getD y_1.2.1.2.2.1 (Int.toNat y_1.2.2.2.1) zExpr).L.V;
                                let x6 : DVal := (List.getD y_1.2.1.2.2.1 (Int.toNat y_1.2.2.2.1) zExpr).R.V;
                                let x7 : DExpr := List.getD y_1.2.1.2.2.1 (Int.toNat y_1.2.2.2.1) zExpr;
                                let x8 : Nat := Int.toNat y_1.2.2.2.1;
                                let x9 : Int := (↑(List.length y_1.2.1.2.2.1) : Int);
                                I_spec_l10SameActs_11 a b (y.1, (x0.Kind, x0.Name, x0.Args, x0.N, x0.Undo, PUnit.unit), (x1.Kind, x1.Name, x1.Args, x1.N, x1.Undo, PUnit.unit), (0 : Int), PUnit.unit) y_1 → bif decide (y_1.2.2.2.1 < x9) then (0 : Int) ≤ y_1.2.2.2.1 ∧ x8 < List.length y_1.2.1.2.2.1 ∧ (0 : Int) ≤ y_1.2.2.2.1 ∧ x8 < List.length y_1.2.2.1.2.2.1 ∧ bif !(ByteArray.toList x7.Op == ByteArray.toList x4.Op && (x7.L.K == x4.L.K && (ByteArray.toList x7.L.S == ByteArray.toList x4.L.S && (x5.K == x2.K && (x5.N == x2.N && (ByteArray.toList x5.S == ByteArray.toList x2.S && true)) && true)) && (x7.R.K == x4.R.K && (ByteArray.toList x7.R.S == ByteArray.toList x4.R.S && (x6.K == x3.K && (x6.N == x3.N && (ByteArray.toList x6.S == ByteArray.toList x3.S && true)) && true)) && true))) then Lf [DV.one (Cell.lit (Value.bool false))] [DV.one (Cell.lit (Value.bool (decide (a = b))))] else I_spec_l10SameActs_11 a b (y.1, (x0.Kind, x0.Name, x0.Args, x0.N, x0.Undo, PUnit.unit), (x1.Kind, x1.Name, x1.Args, x1.N, x1.Undo, PUnit.unit), (0 : Int), PUnit.unit) (y_1.1, (y_1.2.1.1, y_1.2.1.2.1, y_1.2.1.2.2.1, y_1.2.1.2.2.2.1, y_1.2.1.2.2.2.2.1, PUnit.unit), (y_1.2.2.1.1, y_1.2.2.1.2.1, y_1.2.2.1.2.2.1, y_1.2.2.1.2.2.2.1, y_1.2.2.1.2.2.2.2.1, PUnit.unit), IntKind.wrap IntKind.i64 (y_1.2.2.2.1 + (1 : Int)), PUnit.unit) ∧ μ_spec_l10SameActs_11 a b (y_1.1, (y_1.2.1.1, y_1.2.1.2.1, y_1.2.1.2.2.1, y_1.2.1.2.2.2.1, y_1.2.1.2.2.2.2.1, PUnit.unit), (y_1.2.2.1.1, y_1.2.2.1.2.1, y_1.2.2.1.2.2.1, y_1.2.2.1.2.2.2.1, y_1.2.2.1.2.2.2.2.1, PUnit.unit), IntKind.wrap IntKind.i64 (y_1.2.2.2.1 + (1 : Int)), PUnit.unit) < μ_spec_l10SameActs_11 a b y_1 else I_spec_l10SameActs_4 a b (IntKind.wrap IntKind.i64 (y_1.1 + (1 : Int)), PUnit.unit) ∧ μ_spec_l10SameActs_4 a b (IntKind.wrap IntKind.i64 (y_1.1 + (1 : Int)), PUnit.unit) < μ_spec_l10SameActs_4 a b y
        else Lf [DV.one (Cell.lit (Value.bool true))] [DV.one (Cell.lit (Value.bool (decide (a = b))))]) := by kernel_rfl
theorem ok_spec_l10SameActs : Holds EE (100, con_spec_l10SameActs) := by
  refine holds_of EE_ok Go.Proofs.Tryz.func100 con_spec_l10SameActs (by kernel_rfl) use_spec_l10SameActs all_nil ann_spec_l10SameActs (fun x hp hb => ?_)
  obtain ⟨a, b⟩ := x
  have hb_a : BdDV (U := UU) (.one (.sl .eAct a)) := hb _ (List.mem_cons_self)
  have hl_a : a.length ≤ 9223372036854775807 := Bd.len hb_a
  have hb_b : BdDV (U := UU) (.one (.sl .eAct b)) := hb _ (List.mem_cons_of_mem _ (List.mem_cons_self))
  have hl_b : b.length ≤ 9223372036854775807 := Bd.len hb_b
  clear hp hb
  rw [vc_spec_l10SameActs a b]
  dsimp only
  refine if_cond (fun h => Lf_f (ne_len (by simpa using h))) (fun h => ⟨⟨by omega, by omega, (len_eq (a := a) (b := b) (by assumption)), by simp⟩, ?_⟩)
  rintro ⟨i, ⟨⟩⟩ ⟨h1, h2, h3, hR⟩
  simp only
  refine if_cond (fun hc => ?_) (fun hc => ?_)
  · have hc : i < a.length := of_decide_eq_true hc
    have hm : μ_spec_l10SameActs_4 a b (i + 1, PUnit.unit) < μ_spec_l10SameActs_4 a b (i, ()) := by simp only [μ_spec_l10SameActs_4]; omega
    try simp only [expr_beq]
    try simp only [toList_beq]
    have hz : _ := eq_Act (List.getD a i.toNat zAct) (List.getD b i.toNat zAct)
    have hlA : (List.getD a i.toNat zAct).Args.length ≤ 9223372036854775807 := Bd.len (Bd.row hb_a (x := List.getD a i.toNat zAct) (c := .sl .eExpr (List.getD a i.toNat zAct).Args) (getD_mem a _ h1 hc) (.tail _ (.tail _ (.head _))))
    repeat' (first | refine And.intro (by omega) ?_ | refine if_cond (fun h => Lf_f (dr_ne zAct h1 hc (by omega) hR (by first | grind | (rw [hz]; grind)))) (fun h => ?_))
    refine ⟨⟨rfl, by omega, by omega, (len_eq (a := (List.getD a i.toNat zAct).Args) (b := (List.getD b i.toNat zAct).Args) (by assumption)), by simp, rfl, rfl⟩, ?_⟩
    rintro ⟨i, fx, fy, k, ⟨⟩⟩ ⟨rfl, g1, g2, g3, gR, rfl, rfl⟩
    try simp only
    repeat' (refine And.intro (by omega) ?_)
    refine if_cond (fun hk => ?_) (fun hk => ?_)
    · have hk := of_decide_eq_true hk
      simp (disch := omega) only [wrap_i64]
      repeat' (first | refine And.intro (by omega) ?_ | refine if_cond (fun h => ?_) (fun h => ?_))
      all_goals first | exact Lf_f (dr_ne zAct h1 hc (by omega) hR (fun e => absurd (by rw [e]) (dr_ne zExpr g1 hk (by omega) gR (by grind)))) | exact ⟨⟨rfl, by omega, by omega, g3, dr_eq zExpr g1 hk (by omega) gR (by grind), rfl, rfl⟩, by simp only [μ_spec_l10SameActs_11]; omega⟩
    · have hk : (List.getD a i.toNat zAct).Args.length ≤ k := by have := of_decide_eq_false hk; omega
      have he := dr_end hk (by omega) gR
      simp (disch := omega) only [wrap_i64]
      exact ⟨⟨by omega, by omega, h3, dr_eq zAct h1 hc (by omega) hR (by first | grind | (rw [hz]; grind))⟩, hm⟩
  · have hc : a.length ≤ i := by have := of_decide_eq_false hc; omega
    exact Lf_t (dr_end hc (by omega) hR)
def con_spec_l23SameStore : Con UU where
  α := DStore × DStore
  md := [.ro, .ro]
  of := fun | [.agg [.sl .eItem a0, .lit (.int .i64 a1)], .agg [.sl .eItem a2, .lit (.int .i64 a3)]] => some (⟨a0, a1⟩, ⟨a2, a3⟩) | _ => none
  ds := fun (a, b) => [.agg [.sl .eItem a.Items, .lit (.int .i64 a.Next)], .agg [.sl .eItem b.Items, .lit (.int .i64 b.Next)]]
  pre := fun (a, b) => []
  res := fun (a, b) => ⟨[.one (.lit (.bool (decide (a = b))))], true, []⟩
  law := by intro l x h; (try simp only at h); split at h <;> cases h; rfl
def I_spec_l23SameStore_4 (a : DStore) (b : DStore) : Int × (List DItem × Int × Unit) × (List DItem × Int × Unit) × Unit → Prop := fun (i, fa, fb, _) => fa = (a.Items, a.Next, ()) ∧ fb = (b.Items, b.Next, ()) ∧ 0 ≤ i ∧ i ≤ a.Items.length ∧ a.Items.length = b.Items.length ∧ (a.Items.drop i.toNat = b.Items.drop i.toNat ↔ a.Items = b.Items)
def μ_spec_l23SameStore_4 (a : DStore) (b : DStore) : Int × (List DItem × Int × Unit) × (List DItem × Int × Unit) × Unit → Nat := fun (i, fa, fb, _) => a.Items.length - i.toNat
def ann_spec_l23SameStore : con_spec_l23SameStore.α → Nat → Option (Ann UU) := fun (a, b) => annL [(4, annOf [.slot 5 (5, 1024) (.lit (.int .i64)), .box 2 (2, 1024) [.shr .eItem, .lit (.int .i64)], .box 3 (3, 1024) [.shr .eItem, .lit (.int .i64)]] (fun _ => I_spec_l23SameStore_4 a b) (μ_spec_l23SameStore_4 a b))]
def use_spec_l23SameStore : List (FuncId × Con UU) := [(56, con_spec_SameFact)]
theorem vc_spec_l23SameStore (a : DStore) (b : DStore) : goal EE use_spec_l23SameStore Go.Proofs.Tryz.f91 con_spec_l23SameStore ann_spec_l23SameStore (a, b) = (bif a.Next != b.Next then Lf [DV.one (Cell.lit (Value.bool false))] [DV.one (Cell.lit (Value.bool (decide (a = b))))]
else
  bif (↑(List.length a.Items) : Int) != (↑(List.length b.Items) : Int) then Lf [DV.one (Cell.lit (Value.bool false))] [DV.one (Cell.lit (Value.bool (decide (a = b))))]
  else
    I_spec_l23SameStore_4 a b ((0 : Int), (a.Items, a.Next, PUnit.unit), (b.Items, b.Next, PUnit.unit), PUnit.unit) ∧
      ∀ (y : Int × (List DItem × Int × PUnit) × (List DItem × Int × PUnit) × PUnit),
        let x0 : DItem := List.getD y.2.2.1.1 (Int.toNat y.1) zItem;
        let x1 : DItem := List.getD y.2.1.1 (Int.toNat y.1) zItem;
        let x2 : Int := (↑(List.length y.2.1.1) : Int);
        I_spec_l23SameStore_4 a b y → bif decide (y.1 < x2) then (0 : Int) ≤ y.1 ∧ Int.toNat y.1 < List.length y.2.1.1 ∧ (0 : Int) ≤ y.1 ∧ Int.toNat y.1 < List.length y.2.2.1.1 ∧ bif x1.Id != x0.Id then Lf [DV.one (Cell.lit (Value.bool false))] [DV.one (Cell.lit (Value.bool (decide (a = b))))] else (0 : Int) ≤ y.1 ∧ Int.toNat y.1 < List.length y.2.1.1 ∧ (0 : Int) ≤ y.1 ∧ Int.toNat y.1 < List.length y.2.2.1.1 ∧ bif !decide (x1.F = x0.F) then Lf [DV.one (Cell.lit (Value.bool false))] [DV.one (Cell.lit (Value.bool (decide (a = b))))] else I_spec_l23SameStore_4 a b (IntKind.wrap IntKind.i64 (y.1 + (1 : Int)), (y.2.1.1, y.2.1.2.1, PUnit.unit), (y.2.2.1.1, y.2.2.1.2.1, PUnit.unit), PUnit.unit) ∧ μ_spec_l23SameStore_4 a b (IntKind.wrap IntKind.i64 (y.1 + (1 : Int)), (y.2.1.1, y.2.1.2.1, PUnit.unit), (y.2.2.1.1, y.2.2.1.2.1, PUnit.unit), PUnit.unit) < μ_spec_l23SameStore_4 a b y else Lf [DV.one (Cell.lit (Value.bool true))] [DV.one (Cell.lit (Value.bool (decide (a = b))))]) := by kernel_rfl
theorem ok_spec_l23SameStore : Holds EE (91, con_spec_l23SameStore) := by
  refine holds_of EE_ok Go.Proofs.Tryz.func91 con_spec_l23SameStore (by kernel_rfl) use_spec_l23SameStore (all_cons ok_spec_SameFact all_nil) ann_spec_l23SameStore (fun x hp hb => ?_)
  obtain ⟨a, b⟩ := x
  have hb_a : BdDV (U := UU) (.agg [.sl .eItem a.Items, .lit (.int .i64 a.Next)]) := hb _ (List.mem_cons_self)
  have hl_a_Items : a.Items.length ≤ 9223372036854775807 := Bd.len (U := UU) (τ := .eItem) (xs := a.Items) (hb_a _ (by simp))
  have hb_b : BdDV (U := UU) (.agg [.sl .eItem b.Items, .lit (.int .i64 b.Next)]) := hb _ (List.mem_cons_of_mem _ (List.mem_cons_self))
  have hl_b_Items : b.Items.length ≤ 9223372036854775807 := Bd.len (U := UU) (τ := .eItem) (xs := b.Items) (hb_b _ (by simp))
  clear hp hb
  rw [vc_spec_l23SameStore a b]
  dsimp only
  have hy : _ := eq_Store a b
  try simp only [val_beq]
  try simp only [toList_beq]
  repeat' (refine if_cond (fun h => Lf_f (by first | grind | (have := @ne_len; rw [hy]; grind))) (fun h => ?_))
  refine ⟨⟨rfl, rfl, by omega, by omega, by grind, by simp⟩, ?_⟩
  rintro ⟨i, fa, fb, ⟨⟩⟩ ⟨rfl, rfl, h1, h2, h3, hR⟩
  simp only
  refine if_cond (fun hc => ?_) (fun hc => ?_)
  · have hc : i < a.Items.length := of_decide_eq_true hc
    rw [wrap_i64 (by omega) (by omega)]
    try simp only [val_beq]
    try simp only [toList_beq]
    have hz : _ := eq_Item (List.getD a.Items i.toNat zItem) (List.getD b.Items i.toNat zItem)
    repeat' (first | refine And.intro (by omega) ?_ | refine if_cond (fun h => ?_) (fun h => ?_))
    all_goals first | exact Lf_f (fun e => absurd (by rw [e]) (dr_ne zItem h1 hc (by omega) hR (by first | grind | (rw [hz]; grind)))) | exact ⟨⟨rfl, rfl, by omega, by omega, h3, dr_eq zItem h1 hc (by omega) hR (by first | grind | (rw [hz]; grind))⟩, by simp only [μ_spec_l23SameStore_4]; omega⟩
  · have hc : a.Items.length ≤ i := by have := of_decide_eq_false hc; omega
    have he0 := dr_end hc (by omega) hR
    clear hR h1 h2 h3 hc
    repeat' (refine if_cond (fun h => ?_) (fun h => ?_))
    all_goals (refine Lf_b ?_; grind)
def con_spec_l10SameRule : Con UU where
  α := DRule × DRule
  md := [.ro, .ro]
  of := fun | [.agg [.lit (.string a0), .lit (.int .i64 a1), .sl .ePat a2, .sl .eCond a3, .sl .eAct a4], .agg [.lit (.string a5), .lit (.int .i64 a6), .sl .ePat a7, .sl .eCond a8, .sl .eAct a9]] => some (⟨a0, a1, a2, a3, a4⟩, ⟨a5, a6, a7, a8, a9⟩) | _ => none
  ds := fun (a, b) => [.agg [.lit (.string a.Name), .lit (.int .i64 a.Sal), .sl .ePat a.Pats, .sl .eCond a.Conds, .sl .eAct a.Acts], .agg [.lit (.string b.Name), .lit (.int .i64 b.Sal), .sl .ePat b.Pats, .sl .eCond b.Conds, .sl .eAct b.Acts]]
  pre := fun (a, b) => []
  res := fun (a, b) => ⟨[.one (.lit (.bool (decide (a = b))))], true, []⟩
  law := by intro l x h; (try simp only at h); split at h <;> cases h; rfl
def I_spec_l10SameRule_4 (a : DRule) (b : DRule) : Int × (ByteArray × Int × List DPat × List DCond × List DAct × Unit) × (ByteArray × Int × List DPat × List DCond × List DAct × Unit) × Unit → Prop := fun (i, fa, fb, _) => fa = (a.Name, a.Sal, a.Pats, a.Conds, a.Acts, ()) ∧ fb = (b.Name, b.Sal, b.Pats, b.Conds, b.Acts, ()) ∧ 0 ≤ i ∧ i ≤ a.Conds.length ∧ a.Conds.length = b.Conds.length ∧ (a.Conds.drop i.toNat = b.Conds.drop i.toNat ↔ a.Conds = b.Conds)
def μ_spec_l10SameRule_4 (a : DRule) (b : DRule) : Int × (ByteArray × Int × List DPat × List DCond × List DAct × Unit) × (ByteArray × Int × List DPat × List DCond × List DAct × Unit) × Unit → Nat := fun (i, fa, fb, _) => a.Conds.length - i.toNat
def ann_spec_l10SameRule : con_spec_l10SameRule.α → Nat → Option (Ann UU) := fun (a, b) => annL [(4, annOf [.slot 5 (5, 1024) (.lit (.int .i64)), .box 2 (2, 1024) [.lit .str, .lit (.int .i64), .shr .ePat, .shr .eCond, .shr .eAct], .box 3 (3, 1024) [.lit .str, .lit (.int .i64), .shr .ePat, .shr .eCond, .shr .eAct]] (fun _ => I_spec_l10SameRule_4 a b) (μ_spec_l10SameRule_4 a b))]
def use_spec_l10SameRule : List (FuncId × Con UU) := [(99, con_spec_l10SamePats), (100, con_spec_l10SameActs)]
theorem vc_spec_l10SameRule (a : DRule) (b : DRule) : goal EE use_spec_l10SameRule Go.Proofs.Tryz.f90 con_spec_l10SameRule ann_spec_l10SameRule (a, b) = (bif !ByteArray.toList a.Name == ByteArray.toList b.Name then Lf [DV.one (Cell.lit (Value.bool false))] [DV.one (Cell.lit (Value.bool (decide (a = b))))]
else
  bif a.Sal != b.Sal then Lf [DV.one (Cell.lit (Value.bool false))] [DV.one (Cell.lit (Value.bool (decide (a = b))))]
  else
    bif (↑(List.length a.Conds) : Int) != (↑(List.length b.Conds) : Int) then Lf [DV.one (Cell.lit (Value.bool false))] [DV.one (Cell.lit (Value.bool (decide (a = b))))]
    else
      I_spec_l10SameRule_4 a b ((0 : Int), (a.Name, a.Sal, a.Pats, a.Conds, a.Acts, PUnit.unit), (b.Name, b.Sal, b.Pats, b.Conds, b.Acts, PUnit.unit), PUnit.unit) ∧
        ∀ (y : Int × (ByteArray × Int × List DPat × List DCond × List DAct × PUnit) × (ByteArray × Int × List DPat × List DCond × List DAct × PUnit) × PUnit),
          let x0 : DVal := (List.getD y.2.2.1.2.2.2.1 (Int.toNat y.1) zCond).L.V;
          let x1 : DVal := (List.getD y.2.2.1.2.2.2.1 (Int.toNat y.1) zCond).R.V;
          let x2 : DCond := List.getD y.2.2.1.2.2.2.1 (Int.toNat y.1) zCond;
          let x3 : DVal := (List.getD y.2.1.2.2.2.1 (Int.toNat y.1) zCond).R.V;
          let x4 : DVal := (List.getD y.2.1.2.2.2.1 (Int.toNat y.1) zCond).L.V;
          let x5 : DCond := List.getD y.2.1.2.2.2.1 (Int.toNat y.1) zCond;
          let x6 : Int := (↑(List.length y.2.1.2.2.2.1) : Int);
          I_spec_l10SameRule_4 a b y → bif decide (y.1 < x6) then (0 : Int) ≤ y.1 ∧ Int.toNat y.1 < List.length y.2.1.2.2.2.1 ∧ (0 : Int) ≤ y.1 ∧ Int.toNat y.1 < List.length y.2.2.1.2.2.2.1 ∧ bif !(x5.Op == x2.Op && (x5.L.K == x2.L.K && (ByteArray.toList x5.L.S == ByteArray.toList x2.L.S && (x4.K == x0.K && (x4.N == x0.N && (ByteArray.toList x4.S == ByteArray.toList x0.S && true)) && true)) && (x5.R.K == x2.R.K && (ByteArray.toList x5.R.S == ByteArray.toList x2.R.S && (x3.K == x1.K && (x3.N == x1.N && (ByteArray.toList x3.S == ByteArray.toList x1.S && true)) && true)) && true))) then Lf [DV.one (Cell.lit (Value.bool false))] [DV.one (Cell.lit (Value.bool (decide (a = b))))] else I_spec_l10SameRule_4 a b (IntKind.wrap IntKind.i64 (y.1 + (1 : Int)), (y.2.1.1, y.2.1.2.1, y.2.1.2.2.1, y.2.1.2.2.2.1, y.2.1.2.2.2.2.1, PUnit.unit), (y.2.2.1.1, y.2.2.1.2.1, y.2.2.1.2.2.1, y.2.2.1.2.2.2.1, y.2.2.1.2.2.2.2.1, PUnit.unit), PUnit.unit) ∧ μ_spec_l10SameRule_4 a b (IntKind.wrap IntKind.i64 (y.1 + (1 : Int)), (y.2.1.1, y.2.1.2.1, y.2.1.2.2.1, y.2.1.2.2.2.1, y.2.1.2.2.2.2.1, PUnit.unit), (y.2.2.1.1, y.2.2.1.2.1, y.2.2.1.2.2.1, y.2.2.1.2.2.2.1, y.2.2.1.2.2.2.2.1, PUnit.unit), PUnit.unit) < μ_spec_l10SameRule_4 a b y else bif decide (y.2.1.2.2.1 = y.2.2.1.2.2.1) then Lf [DV.one (Cell.lit (Value.bool (decide (y.2.1.2.2.2.2.1 = y.2.2.1.2.2.2.2.1))))] [DV.one (Cell.lit (Value.bool (decide (a = b))))] else Lf [DV.one (Cell.lit (Value.bool false))] [DV.one (Cell.lit (Value.bool (decide (a = b))))]) := by kernel_rfl
theorem ok_spec_l10SameRule : Holds EE (90, con_spec_l10SameRule) := by
  refine holds_of EE_ok Go.Proofs.Tryz.func90 con_spec_l10SameRule (by kernel_rfl) use_spec_l10SameRule (all_cons ok_spec_l10SamePats (all_cons ok_spec_l10SameActs all_nil)) ann_spec_l10SameRule (fun x hp hb => ?_)
  obtain ⟨a, b⟩ := x
  have hb_a : BdDV (U := UU) (.agg [.lit (.string a.Name), .lit (.int .i64 a.Sal), .sl .ePat a.Pats, .sl .eCond a.Conds, .sl .eAct a.Acts]) := hb _ (List.mem_cons_self)
  have hl_a_Name : a.Name.size ≤ 9223372036854775807 := Bd.str (hb_a _ (by simp))
  have hl_a_Pats : a.Pats.length ≤ 9223372036854775807 := Bd.len (U := UU) (τ := .ePat) (xs := a.Pats) (hb_a _ (by simp))
  have hl_a_Conds : a.Conds.length ≤ 9223372036854775807 := Bd.len (U := UU) (τ := .eCond) (xs := a.Conds) (hb_a _ (by simp))
  have hl_a_Acts : a.Acts.length ≤ 9223372036854775807 := Bd.len (U := UU) (τ := .eAct) (xs := a.Acts) (hb_a _ (by simp))
  have hb_b : BdDV (U := UU) (.agg [.lit (.string b.Name), .lit (.int .i64 b.Sal), .sl .ePat b.Pats, .sl .eCond b.Conds, .sl .eAct b.Acts]) := hb _ (List.mem_cons_of_mem _ (List.mem_cons_self))
  have hl_b_Name : b.Name.size ≤ 9223372036854775807 := Bd.str (hb_b _ (by simp))
  have hl_b_Pats : b.Pats.length ≤ 9223372036854775807 := Bd.len (U := UU) (τ := .ePat) (xs := b.Pats) (hb_b _ (by simp))
  have hl_b_Conds : b.Conds.length ≤ 9223372036854775807 := Bd.len (U := UU) (τ := .eCond) (xs := b.Conds) (hb_b _ (by simp))
  have hl_b_Acts : b.Acts.length ≤ 9223372036854775807 := Bd.len (U := UU) (τ := .eAct) (xs := b.Acts) (hb_b _ (by simp))
  clear hp hb
  rw [vc_spec_l10SameRule a b]
  dsimp only
  have hy : _ := eq_Rule a b
  try simp only [cond_beq]
  try simp only [toList_beq]
  repeat' (refine if_cond (fun h => Lf_f (by first | grind | (have := @ne_len; rw [hy]; grind))) (fun h => ?_))
  refine ⟨⟨rfl, rfl, by omega, by omega, by grind, by simp⟩, ?_⟩
  rintro ⟨i, fa, fb, ⟨⟩⟩ ⟨rfl, rfl, h1, h2, h3, hR⟩
  simp only
  refine if_cond (fun hc => ?_) (fun hc => ?_)
  · have hc : i < a.Conds.length := of_decide_eq_true hc
    rw [wrap_i64 (by omega) (by omega)]
    try simp only [cond_beq]
    try simp only [toList_beq]
    have hz : True := trivial
    repeat' (first | refine And.intro (by omega) ?_ | refine if_cond (fun h => ?_) (fun h => ?_))
    all_goals first | exact Lf_f (fun e => absurd (by rw [e]) (dr_ne zCond h1 hc (by omega) hR (by first | grind | (rw [hz]; grind)))) | exact ⟨⟨rfl, rfl, by omega, by omega, h3, dr_eq zCond h1 hc (by omega) hR (by first | grind | (rw [hz]; grind))⟩, by simp only [μ_spec_l10SameRule_4]; omega⟩
  · have hc : a.Conds.length ≤ i := by have := of_decide_eq_false hc; omega
    have he0 := dr_end hc (by omega) hR
    clear hR h1 h2 h3 hc
    repeat' (refine if_cond (fun h => ?_) (fun h => ?_))
    all_goals (refine Lf_b ?_; grind)
def con_spec_SameDef : Con UU where
  α := DDef × DDef
  md := [.ro, .ro]
  of := fun | [.agg [.lit (.string a0), .sl .eRule a1], .agg [.lit (.string a2), .sl .eRule a3]] => some (⟨a0, a1⟩, ⟨a2, a3⟩) | _ => none
  ds := fun (a, b) => [.agg [.lit (.string a.Name), .sl .eRule a.Rules], .agg [.lit (.string b.Name), .sl .eRule b.Rules]]
  pre := fun (a, b) => []
  res := fun (a, b) => ⟨[.one (.lit (.bool (decide (a = b))))], true, []⟩
  law := by intro l x h; (try simp only at h); split at h <;> cases h; rfl
def I_spec_SameDef_4 (a : DDef) (b : DDef) : Int × (ByteArray × List DRule × Unit) × (ByteArray × List DRule × Unit) × Unit → Prop := fun (i, fa, fb, _) => fa = (a.Name, a.Rules, ()) ∧ fb = (b.Name, b.Rules, ()) ∧ 0 ≤ i ∧ i ≤ a.Rules.length ∧ a.Rules.length = b.Rules.length ∧ (a.Rules.drop i.toNat = b.Rules.drop i.toNat ↔ a.Rules = b.Rules)
def μ_spec_SameDef_4 (a : DDef) (b : DDef) : Int × (ByteArray × List DRule × Unit) × (ByteArray × List DRule × Unit) × Unit → Nat := fun (i, fa, fb, _) => a.Rules.length - i.toNat
def ann_spec_SameDef : con_spec_SameDef.α → Nat → Option (Ann UU) := fun (a, b) => annL [(4, annOf [.slot 5 (5, 1024) (.lit (.int .i64)), .box 2 (2, 1024) [.lit .str, .shr .eRule], .box 3 (3, 1024) [.lit .str, .shr .eRule]] (fun _ => I_spec_SameDef_4 a b) (μ_spec_SameDef_4 a b))]
def use_spec_SameDef : List (FuncId × Con UU) := [(90, con_spec_l10SameRule)]
theorem vc_spec_SameDef (a : DDef) (b : DDef) : goal EE use_spec_SameDef Go.Proofs.Tryz.f82 con_spec_SameDef ann_spec_SameDef (a, b) = (bif !ByteArray.toList a.Name == ByteArray.toList b.Name then Lf [DV.one (Cell.lit (Value.bool false))] [DV.one (Cell.lit (Value.bool (decide (a = b))))]
else
  bif (↑(List.length a.Rules) : Int) != (↑(List.length b.Rules) : Int) then Lf [DV.one (Cell.lit (Value.bool false))] [DV.one (Cell.lit (Value.bool (decide (a = b))))]
  else
    I_spec_SameDef_4 a b ((0 : Int), (a.Name, a.Rules, PUnit.unit), (b.Name, b.Rules, PUnit.unit), PUnit.unit) ∧
      ∀ (y : Int × (ByteArray × List DRule × PUnit) × (ByteArray × List DRule × PUnit) × PUnit),
        let x0 : Int := (↑(List.length y.2.1.2.1) : Int);
        I_spec_SameDef_4 a b y → bif decide (y.1 < x0) then (0 : Int) ≤ y.1 ∧ Int.toNat y.1 < List.length y.2.1.2.1 ∧ (0 : Int) ≤ y.1 ∧ Int.toNat y.1 < List.length y.2.2.1.2.1 ∧ bif !decide (List.getD y.2.1.2.1 (Int.toNat y.1) zRule = List.getD y.2.2.1.2.1 (Int.toNat y.1) zRule) then Lf [DV.one (Cell.lit (Value.bool false))] [DV.one (Cell.lit (Value.bool (decide (a = b))))] else I_spec_SameDef_4 a b (IntKind.wrap IntKind.i64 (y.1 + (1 : Int)), (y.2.1.1, y.2.1.2.1, PUnit.unit), (y.2.2.1.1, y.2.2.1.2.1, PUnit.unit), PUnit.unit) ∧ μ_spec_SameDef_4 a b (IntKind.wrap IntKind.i64 (y.1 + (1 : Int)), (y.2.1.1, y.2.1.2.1, PUnit.unit), (y.2.2.1.1, y.2.2.1.2.1, PUnit.unit), PUnit.unit) < μ_spec_SameDef_4 a b y else Lf [DV.one (Cell.lit (Value.bool true))] [DV.one (Cell.lit (Value.bool (decide (a = b))))]) := by kernel_rfl
theorem ok_spec_SameDef : Holds EE (82, con_spec_SameDef) := by
  refine holds_of EE_ok Go.Proofs.Tryz.func82 con_spec_SameDef (by kernel_rfl) use_spec_SameDef (all_cons ok_spec_l10SameRule all_nil) ann_spec_SameDef (fun x hp hb => ?_)
  obtain ⟨a, b⟩ := x
  have hb_a : BdDV (U := UU) (.agg [.lit (.string a.Name), .sl .eRule a.Rules]) := hb _ (List.mem_cons_self)
  have hl_a_Name : a.Name.size ≤ 9223372036854775807 := Bd.str (hb_a _ (by simp))
  have hl_a_Rules : a.Rules.length ≤ 9223372036854775807 := Bd.len (U := UU) (τ := .eRule) (xs := a.Rules) (hb_a _ (by simp))
  have hb_b : BdDV (U := UU) (.agg [.lit (.string b.Name), .sl .eRule b.Rules]) := hb _ (List.mem_cons_of_mem _ (List.mem_cons_self))
  have hl_b_Name : b.Name.size ≤ 9223372036854775807 := Bd.str (hb_b _ (by simp))
  have hl_b_Rules : b.Rules.length ≤ 9223372036854775807 := Bd.len (U := UU) (τ := .eRule) (xs := b.Rules) (hb_b _ (by simp))
  clear hp hb
  rw [vc_spec_SameDef a b]
  dsimp only
  have hy : _ := eq_Def a b
  try simp only [val_beq]
  try simp only [toList_beq]
  repeat' (refine if_cond (fun h => Lf_f (by first | grind | (have := @ne_len; rw [hy]; grind))) (fun h => ?_))
  refine ⟨⟨rfl, rfl, by omega, by omega, by grind, by simp⟩, ?_⟩
  rintro ⟨i, fa, fb, ⟨⟩⟩ ⟨rfl, rfl, h1, h2, h3, hR⟩
  simp only
  refine if_cond (fun hc => ?_) (fun hc => ?_)
  · have hc : i < a.Rules.length := of_decide_eq_true hc
    rw [wrap_i64 (by omega) (by omega)]
    try simp only [val_beq]
    try simp only [toList_beq]
    have hz : _ := eq_Rule (List.getD a.Rules i.toNat zRule) (List.getD b.Rules i.toNat zRule)
    repeat' (first | refine And.intro (by omega) ?_ | refine if_cond (fun h => ?_) (fun h => ?_))
    all_goals first | exact Lf_f (fun e => absurd (by rw [e]) (dr_ne zRule h1 hc (by omega) hR (by first | grind | (rw [hz]; grind)))) | exact ⟨⟨rfl, rfl, by omega, by omega, h3, dr_eq zRule h1 hc (by omega) hR (by first | grind | (rw [hz]; grind))⟩, by simp only [μ_spec_SameDef_4]; omega⟩
  · have hc : a.Rules.length ≤ i := by have := of_decide_eq_false hc; omega
    have he0 := dr_end hc (by omega) hR
    clear hR h1 h2 h3 hc
    repeat' (refine if_cond (fun h => ?_) (fun h => ?_))
    all_goals (refine Lf_b ?_; grind)
def con_spec_l23SameInst : Con UU where
  α := DInst × DInst
  md := [.ro, .ro]
  of := fun | [.agg [.sl .eItem a0, .lit (.int .i64 a1), .sl .eMatch a2, .sl .eTask a3, .sl .eTimer a4, .sl .eUndo a5, .lit (.int .i64 a6), .lit (.int .i64 a7)], .agg [.sl .eItem a8, .lit (.int .i64 a9), .sl .eMatch a10, .sl .eTask a11, .sl .eTimer a12, .sl .eUndo a13, .lit (.int .i64 a14), .lit (.int .i64 a15)]] => some (⟨⟨a0, a1⟩, a2, a3, a4, a5, a6, a7⟩, ⟨⟨a8, a9⟩, a10, a11, a12, a13, a14, a15⟩) | _ => none
  ds := fun (a, b) => [.agg [.sl .eItem a.S.Items, .lit (.int .i64 a.S.Next), .sl .eMatch a.Fired, .sl .eTask a.Tasks, .sl .eTimer a.Timers, .sl .eUndo a.Undos, .lit (.int .i64 a.State), .lit (.int .i64 a.Now)], .agg [.sl .eItem b.S.Items, .lit (.int .i64 b.S.Next), .sl .eMatch b.Fired, .sl .eTask b.Tasks, .sl .eTimer b.Timers, .sl .eUndo b.Undos, .lit (.int .i64 b.State), .lit (.int .i64 b.Now)]]
  pre := fun (a, b) => []
  res := fun (a, b) => ⟨[.one (.lit (.bool (decide (a = b))))], true, []⟩
  law := by intro l x h; (try simp only at h); split at h <;> cases h; rfl
def I_spec_l23SameInst_4 (a : DInst) (b : DInst) : Int × (List DItem × Int × List DMatch × List DTask × List DTimer × List DUndo × Int × Int × Unit) × (List DItem × Int × List DMatch × List DTask × List DTimer × List DUndo × Int × Int × Unit) × Unit → Prop := fun (i, fa, fb, _) => fa = (a.S.Items, a.S.Next, a.Fired, a.Tasks, a.Timers, a.Undos, a.State, a.Now, ()) ∧ fb = (b.S.Items, b.S.Next, b.Fired, b.Tasks, b.Timers, b.Undos, b.State, b.Now, ()) ∧ 0 ≤ i ∧ i ≤ a.Timers.length ∧ a.Timers.length = b.Timers.length ∧ (a.Timers.drop i.toNat = b.Timers.drop i.toNat ↔ a.Timers = b.Timers)
def μ_spec_l23SameInst_4 (a : DInst) (b : DInst) : Int × (List DItem × Int × List DMatch × List DTask × List DTimer × List DUndo × Int × Int × Unit) × (List DItem × Int × List DMatch × List DTask × List DTimer × List DUndo × Int × Int × Unit) × Unit → Nat := fun (i, fa, fb, _) => a.Timers.length - i.toNat
def I_spec_l23SameInst_9 (a : DInst) (b : DInst) : Int × (List DItem × Int × List DMatch × List DTask × List DTimer × List DUndo × Int × Int × Unit) × (List DItem × Int × List DMatch × List DTask × List DTimer × List DUndo × Int × Int × Unit) × Unit → Prop := fun (i, fa, fb, _) => fa = (a.S.Items, a.S.Next, a.Fired, a.Tasks, a.Timers, a.Undos, a.State, a.Now, ()) ∧ fb = (b.S.Items, b.S.Next, b.Fired, b.Tasks, b.Timers, b.Undos, b.State, b.Now, ()) ∧ 0 ≤ i ∧ i ≤ a.Undos.length ∧ a.Undos.length = b.Undos.length ∧ (a.Undos.drop i.toNat = b.Undos.drop i.toNat ↔ a.Undos = b.Undos)
def μ_spec_l23SameInst_9 (a : DInst) (b : DInst) : Int × (List DItem × Int × List DMatch × List DTask × List DTimer × List DUndo × Int × Int × Unit) × (List DItem × Int × List DMatch × List DTask × List DTimer × List DUndo × Int × Int × Unit) × Unit → Nat := fun (i, fa, fb, _) => a.Undos.length - i.toNat
def ann_spec_l23SameInst : con_spec_l23SameInst.α → Nat → Option (Ann UU) := fun (a, b) => annL [(4, annOf [.slot 5 (5, 1024) (.lit (.int .i64)), .box 2 (2, 1024) [.shr .eItem, .lit (.int .i64), .shr .eMatch, .shr .eTask, .shr .eTimer, .shr .eUndo, .lit (.int .i64), .lit (.int .i64)], .box 3 (3, 1024) [.shr .eItem, .lit (.int .i64), .shr .eMatch, .shr .eTask, .shr .eTimer, .shr .eUndo, .lit (.int .i64), .lit (.int .i64)]] (fun _ => I_spec_l23SameInst_4 a b) (μ_spec_l23SameInst_4 a b)), (9, annOf [.slot 6 (6, 1024) (.lit (.int .i64)), .box 2 (2, 1024) [.shr .eItem, .lit (.int .i64), .shr .eMatch, .shr .eTask, .shr .eTimer, .shr .eUndo, .lit (.int .i64), .lit (.int .i64)], .box 3 (3, 1024) [.shr .eItem, .lit (.int .i64), .shr .eMatch, .shr .eTask, .shr .eTimer, .shr .eUndo, .lit (.int .i64), .lit (.int .i64)]] (fun _ => I_spec_l23SameInst_9 a b) (μ_spec_l23SameInst_9 a b))]
def use_spec_l23SameInst : List (FuncId × Con UU) := [(91, con_spec_l23SameStore), (92, con_spec_l23SameTasks), (93, con_spec_SameSet), (56, con_spec_SameFact)]
theorem vc_spec_l23SameInst (a : DInst) (b : DInst) : goal EE use_spec_l23SameInst Go.Proofs.Tryz.f83 con_spec_l23SameInst ann_spec_l23SameInst (a, b) = (bif a.State != b.State then Lf [DV.one (Cell.lit (Value.bool false))] [DV.one (Cell.lit (Value.bool (decide (a = b))))]
else
  bif a.Now != b.Now then Lf [DV.one (Cell.lit (Value.bool false))] [DV.one (Cell.lit (Value.bool (decide (a = b))))]
  else
    bif !decide (a.S = b.S) then Lf [DV.one (Cell.lit (Value.bool false))] [DV.one (Cell.lit (Value.bool (decide (a = b))))]
    else
      bif !decide (a.Tasks = b.Tasks) then Lf [DV.one (Cell.lit (Value.bool false))] [DV.one (Cell.lit (Value.bool (decide (a = b))))]
      else
        bif !decide (a.Fired = b.Fired) then Lf [DV.one (Cell.lit (Value.bool false))] [DV.one (Cell.lit (Value.bool (decide (a = b))))]
        else
          bif (↑(List.length a.Timers) : Int) != (↑(List.length b.Timers) : Int) then Lf [DV.one (Cell.lit (Value.bool false))] [DV.one (Cell.lit (Value.bool (decide (a = b))))]
          else
            bif (↑(List.length a.Undos) : Int) != (↑(List.length b.Undos) : Int) then Lf [DV.one (Cell.lit (Value.bool false))] [DV.one (Cell.lit (Value.bool (decide (a = b))))]
            else
              I_spec_l23SameInst_4 a b ((0 : Int), (a.S.Items, a.S.Next, a.Fired, a.Tasks, a.Timers, a.Undos, a.State, a.Now, PUnit.unit), (b.S.Items, b.S.Next, b.Fired, b.Tasks, b.Timers, b.Undos, b.State, b.Now, PUnit.unit), PUnit.unit) ∧
                ∀ (y : Int × (List DItem × Int × List DMatch × List DTask × List DTimer × List DUndo × Int × Int × PUnit) × (List DItem × Int × List DMatch × List DTask × List DTimer × List DUndo × Int × Int × PUnit) × PUnit),
                  let x0 : DTimer := List.getD y.2.2.1.2.2.2.2.1 (Int.toNat y.1) zTimer;
                  let x1 : DTimer := List.getD y.2.1.2.2.2.2.1 (Int.toNat y.1) zTimer;
                  let x2 : Int := (↑(List.length y.2.1.2.2.2.2.1) : Int);
                  I_spec_l23SameInst_4 a b y →
                    bif decide (y.1 < x2) then (0 : Int) ≤ y.1 ∧ Int.toNat y.1 < List.length y.2.1.2.2.2.2.1 ∧ (0 : Int) ≤ y.1 ∧ Int.toNat y.1 < List.length y.2.2.1.2.2.2.2.1 ∧ bif x1.At != x0.At then Lf [DV.one (Cell.lit (Value.bool false))] [DV.one (Cell.lit (Value.bool (decide (a = b))))] else (0 : Int) ≤ y.1 ∧ Int.toNat y.1 < List.length y.2.1.2.2.2.2.1 ∧ (0 : Int) ≤ y.1 ∧ Int.toNat y.1 < List.length y.2.2.1.2.2.2.2.1 ∧ bif !decide (x1.F = x0.F) then Lf [DV.one (Cell.lit (Value.bool false))] [DV.one (Cell.lit (Value.bool (decide (a = b))))] else I_spec_l23SameInst_4 a b (IntKind.wrap IntKind.i64 (y.1 + (1 : Int)), (y.2.1.1, y.2.1.2.1, y.2.1.2.2.1, y.2.1.2.2.2.1, y.2.1.2.2.2.2.1, y.2.1.2.2.2.2.2.1, y.2.1.2.2.2.2.2.2.1, y.2.1.2.2.2.2.2.2.2.1, PUnit.unit), (y.2.2.1.1, y.2.2.1.2.1, y.2.2.1.2.2.1, y.2.2.1.2.2.2.1, y.2.2.1.2.2.2.2.1, y.2.2.1.2.2.2.2.2.1, y.2.2.1.2.2.2.2.2.2.1, y.2.2.1.2.2.2.2.2.2.2.1, PUnit.unit), PUnit.unit) ∧ μ_spec_l23SameInst_4 a b (IntKind.wrap IntKind.i64 (y.1 + (1 : Int)), (y.2.1.1, y.2.1.2.1, y.2.1.2.2.1, y.2.1.2.2.2.1, y.2.1.2.2.2.2.1, y.2.1.2.2.2.2.2.1, y.2.1.2.2.2.2.2.2.1, y.2.1.2.2.2.2.2.2.2.1, PUnit.unit), (y.2.2.1.1, y.2.2.1.2.1, y.2.2.1.2.2.1, y.2.2.1.2.2.2.1, y.2.2.1.2.2.2.2.1, y.2.2.1.2.2.2.2.2.1, y.2.2.1.2.2.2.2.2.2.1, y.2.2.1.2.2.2.2.2.2.2.1, PUnit.unit), PUnit.unit) < μ_spec_l23SameInst_4 a b y
                    else
                      I_spec_l23SameInst_9 a b ((0 : Int), (y.2.1.1, y.2.1.2.1, y.2.1.2.2.1, y.2.1.2.2.2.1, y.2.1.2.2.2.2.1, y.2.1.2.2.2.2.2.1, y.2.1.2.2.2.2.2.2.1, y.2.1.2.2.2.2.2.2.2.1, PUnit.unit), (y.2.2.1.1, y.2.2.1.2.1, y.2.2.1.2.2.1, y.2.2.1.2.2.2.1, y.2.2.1.2.2.2.2.1, y.2.2.1.2.2.2.2.2.1, y.2.2.1.2.2.2.2.2.2.1, y.2.2.1.2.2.2.2.2.2.2.1, PUnit.unit), PUnit.unit) ∧
                        ∀ (y : Int × (List DItem × Int × List DMatch × List DTask × List DTimer × List DUndo × Int × Int × PUnit) × (List DItem × Int × List DMatch × List DTask × List DTimer × List DUndo × Int × Int × PUnit) × PUnit),
                          let x3 : DUndo := List.getD y.2.2.1.2.2.2.2.2.1 (Int.toNat y.1) zUndo;
                          let x4 : DUndo := List.getD y.2.1.2.2.2.2.2.1 (Int.toNat y.1) zUndo;
                          let x5 : Int := (↑(List.length y.2.1.2.2.2.2.2.1) : Int);
                          I_spec_l23SameInst_9 a b y → bif decide (y.1 < x5) then (0 : Int) ≤ y.1 ∧ Int.toNat y.1 < List.length y.2.1.2.2.2.2.2.1 ∧ (0 : Int) ≤ y.1 ∧ Int.toNat y.1 < List.length y.2.2.1.2.2.2.2.2.1 ∧ bif !ByteArray.toList x4.Key == ByteArray.toList x3.Key then Lf [DV.one (Cell.lit (Value.bool false))] [DV.one (Cell.lit (Value.bool (decide (a = b))))] else (0 : Int) ≤ y.1 ∧ Int.toNat y.1 < List.length y.2.1.2.2.2.2.2.1 ∧ (0 : Int) ≤ y.1 ∧ Int.toNat y.1 < List.length y.2.2.1.2.2.2.2.2.1 ∧ bif !decide (x4.F = x3.F) then Lf [DV.one (Cell.lit (Value.bool false))] [DV.one (Cell.lit (Value.bool (decide (a = b))))] else I_spec_l23SameInst_9 a b (IntKind.wrap IntKind.i64 (y.1 + (1 : Int)), (y.2.1.1, y.2.1.2.1, y.2.1.2.2.1, y.2.1.2.2.2.1, y.2.1.2.2.2.2.1, y.2.1.2.2.2.2.2.1, y.2.1.2.2.2.2.2.2.1, y.2.1.2.2.2.2.2.2.2.1, PUnit.unit), (y.2.2.1.1, y.2.2.1.2.1, y.2.2.1.2.2.1, y.2.2.1.2.2.2.1, y.2.2.1.2.2.2.2.1, y.2.2.1.2.2.2.2.2.1, y.2.2.1.2.2.2.2.2.2.1, y.2.2.1.2.2.2.2.2.2.2.1, PUnit.unit), PUnit.unit) ∧ μ_spec_l23SameInst_9 a b (IntKind.wrap IntKind.i64 (y.1 + (1 : Int)), (y.2.1.1, y.2.1.2.1, y.2.1.2.2.1, y.2.1.2.2.2.1, y.2.1.2.2.2.2.1, y.2.1.2.2.2.2.2.1, y.2.1.2.2.2.2.2.2.1, y.2.1.2.2.2.2.2.2.2.1, PUnit.unit), (y.2.2.1.1, y.2.2.1.2.1, y.2.2.1.2.2.1, y.2.2.1.2.2.2.1, y.2.2.1.2.2.2.2.1, y.2.2.1.2.2.2.2.2.1, y.2.2.1.2.2.2.2.2.2.1, y.2.2.1.2.2.2.2.2.2.2.1, PUnit.unit), PUnit.unit) < μ_spec_l23SameInst_9 a b y else Lf [DV.one (Cell.lit (Value.bool true))] [DV.one (Cell.lit (Value.bool (decide (a = b))))]) := by kernel_rfl
theorem ok_spec_l23SameInst : Holds EE (83, con_spec_l23SameInst) := by
  refine holds_of EE_ok Go.Proofs.Tryz.func83 con_spec_l23SameInst (by kernel_rfl) use_spec_l23SameInst (all_cons ok_spec_l23SameStore (all_cons ok_spec_l23SameTasks (all_cons ok_spec_SameSet (all_cons ok_spec_SameFact all_nil)))) ann_spec_l23SameInst (fun x hp hb => ?_)
  obtain ⟨a, b⟩ := x
  have hb_a : BdDV (U := UU) (.agg [.sl .eItem a.S.Items, .lit (.int .i64 a.S.Next), .sl .eMatch a.Fired, .sl .eTask a.Tasks, .sl .eTimer a.Timers, .sl .eUndo a.Undos, .lit (.int .i64 a.State), .lit (.int .i64 a.Now)]) := hb _ (List.mem_cons_self)
  have hl_a_S_Items : a.S.Items.length ≤ 9223372036854775807 := Bd.len (U := UU) (τ := .eItem) (xs := a.S.Items) (hb_a _ (by simp))
  have hl_a_Fired : a.Fired.length ≤ 9223372036854775807 := Bd.len (U := UU) (τ := .eMatch) (xs := a.Fired) (hb_a _ (by simp))
  have hl_a_Tasks : a.Tasks.length ≤ 9223372036854775807 := Bd.len (U := UU) (τ := .eTask) (xs := a.Tasks) (hb_a _ (by simp))
  have hl_a_Timers : a.Timers.length ≤ 9223372036854775807 := Bd.len (U := UU) (τ := .eTimer) (xs := a.Timers) (hb_a _ (by simp))
  have hl_a_Undos : a.Undos.length ≤ 9223372036854775807 := Bd.len (U := UU) (τ := .eUndo) (xs := a.Undos) (hb_a _ (by simp))
  have hb_b : BdDV (U := UU) (.agg [.sl .eItem b.S.Items, .lit (.int .i64 b.S.Next), .sl .eMatch b.Fired, .sl .eTask b.Tasks, .sl .eTimer b.Timers, .sl .eUndo b.Undos, .lit (.int .i64 b.State), .lit (.int .i64 b.Now)]) := hb _ (List.mem_cons_of_mem _ (List.mem_cons_self))
  have hl_b_S_Items : b.S.Items.length ≤ 9223372036854775807 := Bd.len (U := UU) (τ := .eItem) (xs := b.S.Items) (hb_b _ (by simp))
  have hl_b_Fired : b.Fired.length ≤ 9223372036854775807 := Bd.len (U := UU) (τ := .eMatch) (xs := b.Fired) (hb_b _ (by simp))
  have hl_b_Tasks : b.Tasks.length ≤ 9223372036854775807 := Bd.len (U := UU) (τ := .eTask) (xs := b.Tasks) (hb_b _ (by simp))
  have hl_b_Timers : b.Timers.length ≤ 9223372036854775807 := Bd.len (U := UU) (τ := .eTimer) (xs := b.Timers) (hb_b _ (by simp))
  have hl_b_Undos : b.Undos.length ≤ 9223372036854775807 := Bd.len (U := UU) (τ := .eUndo) (xs := b.Undos) (hb_b _ (by simp))
  clear hp hb
  rw [vc_spec_l23SameInst a b]
  dsimp only
  have hy : _ := eq_Inst a b
  try simp only [val_beq]
  try simp only [toList_beq]
  repeat' (refine if_cond (fun h => Lf_f (by first | grind | (have := @ne_len; rw [hy]; grind))) (fun h => ?_))
  refine ⟨⟨rfl, rfl, by omega, by omega, by grind, by simp⟩, ?_⟩
  rintro ⟨i, fa, fb, ⟨⟩⟩ ⟨rfl, rfl, h1, h2, h3, hR⟩
  simp only
  refine if_cond (fun hc => ?_) (fun hc => ?_)
  · have hc : i < a.Timers.length := of_decide_eq_true hc
    rw [wrap_i64 (by omega) (by omega)]
    try simp only [val_beq]
    try simp only [toList_beq]
    have hz : _ := eq_Timer (List.getD a.Timers i.toNat zTimer) (List.getD b.Timers i.toNat zTimer)
    repeat' (first | refine And.intro (by omega) ?_ | refine if_cond (fun h => ?_) (fun h => ?_))
    all_goals first | exact Lf_f (fun e => absurd (by rw [e]) (dr_ne zTimer h1 hc (by omega) hR (by first | grind | (rw [hz]; grind)))) | exact ⟨⟨rfl, rfl, by omega, by omega, h3, dr_eq zTimer h1 hc (by omega) hR (by first | grind | (rw [hz]; grind))⟩, by simp only [μ_spec_l23SameInst_4]; omega⟩
  · have hc : a.Timers.length ≤ i := by have := of_decide_eq_false hc; omega
    have he0 := dr_end hc (by omega) hR
    clear hR h1 h2 h3 hc
    refine ⟨⟨rfl, rfl, by omega, by omega, by grind, by simp⟩, ?_⟩
    rintro ⟨i, fa, fb, ⟨⟩⟩ ⟨rfl, rfl, h1, h2, h3, hR⟩
    simp only
    refine if_cond (fun hc => ?_) (fun hc => ?_)
    · have hc : i < a.Undos.length := of_decide_eq_true hc
      rw [wrap_i64 (by omega) (by omega)]
      try simp only [val_beq]
      try simp only [toList_beq]
      have hz : _ := eq_Undo (List.getD a.Undos i.toNat zUndo) (List.getD b.Undos i.toNat zUndo)
      repeat' (first | refine And.intro (by omega) ?_ | refine if_cond (fun h => ?_) (fun h => ?_))
      all_goals first | exact Lf_f (fun e => absurd (by rw [e]) (dr_ne zUndo h1 hc (by omega) hR (by first | grind | (rw [hz]; grind)))) | exact ⟨⟨rfl, rfl, by omega, by omega, h3, dr_eq zUndo h1 hc (by omega) hR (by first | grind | (rw [hz]; grind))⟩, by simp only [μ_spec_l23SameInst_9]; omega⟩
    · have hc : a.Undos.length ≤ i := by have := of_decide_eq_false hc; omega
      have he1 := dr_end hc (by omega) hR
      clear hR h1 h2 h3 hc
      repeat' (refine if_cond (fun h => ?_) (fun h => ?_))
      all_goals (refine Lf_b ?_; grind)
def con_spec_SameBook : Con UU where
  α := DBook × DBook
  md := [.ro, .ro]
  of := fun | [.agg [.sl .eDef a0, .sl .eWork a1, .lit (.int .i64 a2), .lit (.int .i64 a3)], .agg [.sl .eDef a4, .sl .eWork a5, .lit (.int .i64 a6), .lit (.int .i64 a7)]] => some (⟨a0, a1, a2, a3⟩, ⟨a4, a5, a6, a7⟩) | _ => none
  ds := fun (a, b) => [.agg [.sl .eDef a.Defs, .sl .eWork a.Works, .lit (.int .i64 a.Now), .lit (.int .i64 a.Ring)], .agg [.sl .eDef b.Defs, .sl .eWork b.Works, .lit (.int .i64 b.Now), .lit (.int .i64 b.Ring)]]
  pre := fun (a, b) => []
  res := fun (a, b) => ⟨[.one (.lit (.bool (decide (a = b))))], true, []⟩
  law := by intro l x h; (try simp only at h); split at h <;> cases h; rfl
def I_spec_SameBook_4 (a : DBook) (b : DBook) : Int × (List DDef × List DWork × Int × Int × Unit) × (List DDef × List DWork × Int × Int × Unit) × Unit → Prop := fun (i, fa, fb, _) => fa = (a.Defs, a.Works, a.Now, a.Ring, ()) ∧ fb = (b.Defs, b.Works, b.Now, b.Ring, ()) ∧ 0 ≤ i ∧ i ≤ a.Defs.length ∧ a.Defs.length = b.Defs.length ∧ (a.Defs.drop i.toNat = b.Defs.drop i.toNat ↔ a.Defs = b.Defs)
def μ_spec_SameBook_4 (a : DBook) (b : DBook) : Int × (List DDef × List DWork × Int × Int × Unit) × (List DDef × List DWork × Int × Int × Unit) × Unit → Nat := fun (i, fa, fb, _) => a.Defs.length - i.toNat
def I_spec_SameBook_9 (a : DBook) (b : DBook) : Int × (List DDef × List DWork × Int × Int × Unit) × (List DDef × List DWork × Int × Int × Unit) × Unit → Prop := fun (i, fa, fb, _) => fa = (a.Defs, a.Works, a.Now, a.Ring, ()) ∧ fb = (b.Defs, b.Works, b.Now, b.Ring, ()) ∧ 0 ≤ i ∧ i ≤ a.Works.length ∧ a.Works.length = b.Works.length ∧ (a.Works.drop i.toNat = b.Works.drop i.toNat ↔ a.Works = b.Works)
def μ_spec_SameBook_9 (a : DBook) (b : DBook) : Int × (List DDef × List DWork × Int × Int × Unit) × (List DDef × List DWork × Int × Int × Unit) × Unit → Nat := fun (i, fa, fb, _) => a.Works.length - i.toNat
def ann_spec_SameBook : con_spec_SameBook.α → Nat → Option (Ann UU) := fun (a, b) => annL [(4, annOf [.slot 5 (5, 1024) (.lit (.int .i64)), .box 2 (2, 1024) [.shr .eDef, .shr .eWork, .lit (.int .i64), .lit (.int .i64)], .box 3 (3, 1024) [.shr .eDef, .shr .eWork, .lit (.int .i64), .lit (.int .i64)]] (fun _ => I_spec_SameBook_4 a b) (μ_spec_SameBook_4 a b)), (9, annOf [.slot 6 (6, 1024) (.lit (.int .i64)), .box 2 (2, 1024) [.shr .eDef, .shr .eWork, .lit (.int .i64), .lit (.int .i64)], .box 3 (3, 1024) [.shr .eDef, .shr .eWork, .lit (.int .i64), .lit (.int .i64)]] (fun _ => I_spec_SameBook_9 a b) (μ_spec_SameBook_9 a b))]
def use_spec_SameBook : List (FuncId × Con UU) := [(82, con_spec_SameDef), (83, con_spec_l23SameInst)]
theorem vc_spec_SameBook (a : DBook) (b : DBook) : goal EE use_spec_SameBook Go.Proofs.Tryz.f68 con_spec_SameBook ann_spec_SameBook (a, b) = (bif a.Now != b.Now then Lf [DV.one (Cell.lit (Value.bool false))] [DV.one (Cell.lit (Value.bool (decide (a = b))))]
else
  bif a.Ring != b.Ring then Lf [DV.one (Cell.lit (Value.bool false))] [DV.one (Cell.lit (Value.bool (decide (a = b))))]
  else
    bif (↑(List.length a.Defs) : Int) != (↑(List.length b.Defs) : Int) then Lf [DV.one (Cell.lit (Value.bool false))] [DV.one (Cell.lit (Value.bool (decide (a = b))))]
    else
      bif (↑(List.length a.Works) : Int) != (↑(List.length b.Works) : Int) then Lf [DV.one (Cell.lit (Value.bool false))] [DV.one (Cell.lit (Value.bool (decide (a = b))))]
      else
        I_spec_SameBook_4 a b ((0 : Int), (a.Defs, a.Works, a.Now, a.Ring, PUnit.unit), (b.Defs, b.Works, b.Now, b.Ring, PUnit.unit), PUnit.unit) ∧
          ∀ (y : Int × (List DDef × List DWork × Int × Int × PUnit) × (List DDef × List DWork × Int × Int × PUnit) × PUnit),
            let x0 : Int := (↑(List.length y.2.1.1) : Int);
            I_spec_SameBook_4 a b y →
              bif decide (y.1 < x0) then (0 : Int) ≤ y.1 ∧ Int.toNat y.1 < List.length y.2.1.1 ∧ (0 : Int) ≤ y.1 ∧ Int.toNat y.1 < List.length y.2.2.1.1 ∧ bif !decide (List.getD y.2.1.1 (Int.toNat y.1) zDef = List.getD y.2.2.1.1 (Int.toNat y.1) zDef) then Lf [DV.one (Cell.lit (Value.bool false))] [DV.one (Cell.lit (Value.bool (decide (a = b))))] else I_spec_SameBook_4 a b (IntKind.wrap IntKind.i64 (y.1 + (1 : Int)), (y.2.1.1, y.2.1.2.1, y.2.1.2.2.1, y.2.1.2.2.2.1, PUnit.unit), (y.2.2.1.1, y.2.2.1.2.1, y.2.2.1.2.2.1, y.2.2.1.2.2.2.1, PUnit.unit), PUnit.unit) ∧ μ_spec_SameBook_4 a b (IntKind.wrap IntKind.i64 (y.1 + (1 : Int)), (y.2.1.1, y.2.1.2.1, y.2.1.2.2.1, y.2.1.2.2.2.1, PUnit.unit), (y.2.2.1.1, y.2.2.1.2.1, y.2.2.1.2.2.1, y.2.2.1.2.2.2.1, PUnit.unit), PUnit.unit) < μ_spec_SameBook_4 a b y
              else
                I_spec_SameBook_9 a b ((0 : Int), (y.2.1.1, y.2.1.2.1, y.2.1.2.2.1, y.2.1.2.2.2.1, PUnit.unit), (y.2.2.1.1, y.2.2.1.2.1, y.2.2.1.2.2.1, y.2.2.1.2.2.2.1, PUnit.unit), PUnit.unit) ∧
                  ∀ (y : Int × (List DDef × List DWork × Int × Int × PUnit) × (List DDef × List DWork × Int × Int × PUnit) × PUnit),
                    let x1 : DWork := List.getD y.2.2.1.2.1 (Int.toNat y.1) zWork;
                    let x2 : DWork := List.getD y.2.1.2.1 (Int.toNat y.1) zWork;
                    let x3 : Int := (↑(List.length y.2.1.2.1) : Int);
                    I_spec_SameBook_9 a b y → bif decide (y.1 < x3) then (0 : Int) ≤ y.1 ∧ Int.toNat y.1 < List.length y.2.1.2.1 ∧ (0 : Int) ≤ y.1 ∧ Int.toNat y.1 < List.length y.2.2.1.2.1 ∧ bif !ByteArray.toList x2.Name == ByteArray.toList x1.Name then Lf [DV.one (Cell.lit (Value.bool false))] [DV.one (Cell.lit (Value.bool (decide (a = b))))] else bif !ByteArray.toList x2.Def == ByteArray.toList x1.Def then Lf [DV.one (Cell.lit (Value.bool false))] [DV.one (Cell.lit (Value.bool (decide (a = b))))] else bif !decide (x2.X = x1.X) then Lf [DV.one (Cell.lit (Value.bool false))] [DV.one (Cell.lit (Value.bool (decide (a = b))))] else I_spec_SameBook_9 a b (IntKind.wrap IntKind.i64 (y.1 + (1 : Int)), (y.2.1.1, y.2.1.2.1, y.2.1.2.2.1, y.2.1.2.2.2.1, PUnit.unit), (y.2.2.1.1, y.2.2.1.2.1, y.2.2.1.2.2.1, y.2.2.1.2.2.2.1, PUnit.unit), PUnit.unit) ∧ μ_spec_SameBook_9 a b (IntKind.wrap IntKind.i64 (y.1 + (1 : Int)), (y.2.1.1, y.2.1.2.1, y.2.1.2.2.1, y.2.1.2.2.2.1, PUnit.unit), (y.2.2.1.1, y.2.2.1.2.1, y.2.2.1.2.2.1, y.2.2.1.2.2.2.1, PUnit.unit), PUnit.unit) < μ_spec_SameBook_9 a b y else Lf [DV.one (Cell.lit (Value.bool true))] [DV.one (Cell.lit (Value.bool (decide (a = b))))]) := by kernel_rfl
theorem ok_spec_SameBook : Holds EE (68, con_spec_SameBook) := by
  refine holds_of EE_ok Go.Proofs.Tryz.func68 con_spec_SameBook (by kernel_rfl) use_spec_SameBook (all_cons ok_spec_SameDef (all_cons ok_spec_l23SameInst all_nil)) ann_spec_SameBook (fun x hp hb => ?_)
  obtain ⟨a, b⟩ := x
  have hb_a : BdDV (U := UU) (.agg [.sl .eDef a.Defs, .sl .eWork a.Works, .lit (.int .i64 a.Now), .lit (.int .i64 a.Ring)]) := hb _ (List.mem_cons_self)
  have hl_a_Defs : a.Defs.length ≤ 9223372036854775807 := Bd.len (U := UU) (τ := .eDef) (xs := a.Defs) (hb_a _ (by simp))
  have hl_a_Works : a.Works.length ≤ 9223372036854775807 := Bd.len (U := UU) (τ := .eWork) (xs := a.Works) (hb_a _ (by simp))
  have hb_b : BdDV (U := UU) (.agg [.sl .eDef b.Defs, .sl .eWork b.Works, .lit (.int .i64 b.Now), .lit (.int .i64 b.Ring)]) := hb _ (List.mem_cons_of_mem _ (List.mem_cons_self))
  have hl_b_Defs : b.Defs.length ≤ 9223372036854775807 := Bd.len (U := UU) (τ := .eDef) (xs := b.Defs) (hb_b _ (by simp))
  have hl_b_Works : b.Works.length ≤ 9223372036854775807 := Bd.len (U := UU) (τ := .eWork) (xs := b.Works) (hb_b _ (by simp))
  clear hp hb
  rw [vc_spec_SameBook a b]
  dsimp only
  have hy : _ := eq_Book a b
  try simp only [val_beq]
  try simp only [toList_beq]
  repeat' (refine if_cond (fun h => Lf_f (by first | grind | (have := @ne_len; rw [hy]; grind))) (fun h => ?_))
  refine ⟨⟨rfl, rfl, by omega, by omega, by grind, by simp⟩, ?_⟩
  rintro ⟨i, fa, fb, ⟨⟩⟩ ⟨rfl, rfl, h1, h2, h3, hR⟩
  simp only
  refine if_cond (fun hc => ?_) (fun hc => ?_)
  · have hc : i < a.Defs.length := of_decide_eq_true hc
    rw [wrap_i64 (by omega) (by omega)]
    try simp only [val_beq]
    try simp only [toList_beq]
    have hz : _ := eq_Def (List.getD a.Defs i.toNat zDef) (List.getD b.Defs i.toNat zDef)
    repeat' (first | refine And.intro (by omega) ?_ | refine if_cond (fun h => ?_) (fun h => ?_))
    all_goals first | exact Lf_f (fun e => absurd (by rw [e]) (dr_ne zDef h1 hc (by omega) hR (by first | grind | (rw [hz]; grind)))) | exact ⟨⟨rfl, rfl, by omega, by omega, h3, dr_eq zDef h1 hc (by omega) hR (by first | grind | (rw [hz]; grind))⟩, by simp only [μ_spec_SameBook_4]; omega⟩
  · have hc : a.Defs.length ≤ i := by have := of_decide_eq_false hc; omega
    have he0 := dr_end hc (by omega) hR
    clear hR h1 h2 h3 hc
    refine ⟨⟨rfl, rfl, by omega, by omega, by grind, by simp⟩, ?_⟩
    rintro ⟨i, fa, fb, ⟨⟩⟩ ⟨rfl, rfl, h1, h2, h3, hR⟩
    simp only
    refine if_cond (fun hc => ?_) (fun hc => ?_)
    · have hc : i < a.Works.length := of_decide_eq_true hc
      rw [wrap_i64 (by omega) (by omega)]
      try simp only [val_beq]
      try simp only [toList_beq]
      have hz : _ := eq_Work (List.getD a.Works i.toNat zWork) (List.getD b.Works i.toNat zWork)
      repeat' (first | refine And.intro (by omega) ?_ | refine if_cond (fun h => ?_) (fun h => ?_))
      all_goals first | exact Lf_f (fun e => absurd (by rw [e]) (dr_ne zWork h1 hc (by omega) hR (by first | grind | (rw [hz]; grind)))) | exact ⟨⟨rfl, rfl, by omega, by omega, h3, dr_eq zWork h1 hc (by omega) hR (by first | grind | (rw [hz]; grind))⟩, by simp only [μ_spec_SameBook_9]; omega⟩
    · have hc : a.Works.length ≤ i := by have := of_decide_eq_false hc; omega
      have he1 := dr_end hc (by omega) hR
      clear hR h1 h2 h3 hc
      repeat' (refine if_cond (fun h => ?_) (fun h => ?_))
      all_goals (refine Lf_b ?_; grind)
theorem inst_eq (a b : DInst) : decide ((⟨[], [⟨noBytes, noBytes, a⟩], 0, 0⟩ : DBook) = ⟨[], [⟨noBytes, noBytes, b⟩], 0, 0⟩) = decide (a = b) := by
  rw [decide_eq_decide]; simp
theorem insT_eq (a b : List DTask) : decide ((⟨⟨[], 0⟩, [], a, [], [], 0, 0⟩ : DInst) = ⟨⟨[], 0⟩, [], b, [], [], 0, 0⟩) = decide (a = b) := by
  rw [decide_eq_decide]; simp
def con_laws_sameInst : Con UU where
  α := DInst × DInst
  md := [.ro, .ro]
  of := fun | [.agg [.sl .eItem a0, .lit (.int .i64 a1), .sl .eMatch a2, .sl .eTask a3, .sl .eTimer a4, .sl .eUndo a5, .lit (.int .i64 a6), .lit (.int .i64 a7)], .agg [.sl .eItem a8, .lit (.int .i64 a9), .sl .eMatch a10, .sl .eTask a11, .sl .eTimer a12, .sl .eUndo a13, .lit (.int .i64 a14), .lit (.int .i64 a15)]] => some (⟨⟨a0, a1⟩, a2, a3, a4, a5, a6, a7⟩, ⟨⟨a8, a9⟩, a10, a11, a12, a13, a14, a15⟩) | _ => none
  ds := fun (a, b) => [.agg [.sl .eItem a.S.Items, .lit (.int .i64 a.S.Next), .sl .eMatch a.Fired, .sl .eTask a.Tasks, .sl .eTimer a.Timers, .sl .eUndo a.Undos, .lit (.int .i64 a.State), .lit (.int .i64 a.Now)], .agg [.sl .eItem b.S.Items, .lit (.int .i64 b.S.Next), .sl .eMatch b.Fired, .sl .eTask b.Tasks, .sl .eTimer b.Timers, .sl .eUndo b.Undos, .lit (.int .i64 b.State), .lit (.int .i64 b.Now)]]
  pre := fun (a, b) => []
  res := fun (a, b) => ⟨[.one (.lit (.bool (decide (a = b))))], true, []⟩
  law := by intro l x h; (try simp only at h); split at h <;> cases h; rfl
def ann_laws_sameInst : con_laws_sameInst.α → Nat → Option (Ann UU) := fun (a, b) => annL []
def use_laws_sameInst : List (FuncId × Con UU) := [(68, con_spec_SameBook)]
theorem vc_laws_sameInst (a : DInst) (b : DInst) : goal EE use_laws_sameInst Go.Proofs.Tryz.f41 con_laws_sameInst ann_laws_sameInst (a, b) = (let x0 : ByteArray := { data := #[] : ByteArray };
Lf [DV.one (Cell.lit (Value.bool (decide ({ Defs := [], Works := [{ Name := x0, Def := x0, X := a : DWork }], Now := (0 : Int), Ring := (0 : Int) : DBook } = { Defs := [], Works := [{ Name := x0, Def := x0, X := b : DWork }], Now := (0 : Int), Ring := (0 : Int) : DBook }))))] [DV.one (Cell.lit (Value.bool (decide (a = b))))]) := by kernel_rfl
theorem ok_laws_sameInst : Holds EE (41, con_laws_sameInst) := by
  refine holds_of EE_ok Go.Proofs.Tryz.func41 con_laws_sameInst (by kernel_rfl) use_laws_sameInst (all_cons ok_spec_SameBook all_nil) ann_laws_sameInst (fun x hp hb => ?_)
  obtain ⟨a, b⟩ := x
  have hb_a : BdDV (U := UU) (.agg [.sl .eItem a.S.Items, .lit (.int .i64 a.S.Next), .sl .eMatch a.Fired, .sl .eTask a.Tasks, .sl .eTimer a.Timers, .sl .eUndo a.Undos, .lit (.int .i64 a.State), .lit (.int .i64 a.Now)]) := hb _ (List.mem_cons_self)
  have hl_a_S_Items : a.S.Items.length ≤ 9223372036854775807 := Bd.len (U := UU) (τ := .eItem) (xs := a.S.Items) (hb_a _ (by simp))
  have hl_a_Fired : a.Fired.length ≤ 9223372036854775807 := Bd.len (U := UU) (τ := .eMatch) (xs := a.Fired) (hb_a _ (by simp))
  have hl_a_Tasks : a.Tasks.length ≤ 9223372036854775807 := Bd.len (U := UU) (τ := .eTask) (xs := a.Tasks) (hb_a _ (by simp))
  have hl_a_Timers : a.Timers.length ≤ 9223372036854775807 := Bd.len (U := UU) (τ := .eTimer) (xs := a.Timers) (hb_a _ (by simp))
  have hl_a_Undos : a.Undos.length ≤ 9223372036854775807 := Bd.len (U := UU) (τ := .eUndo) (xs := a.Undos) (hb_a _ (by simp))
  have hb_b : BdDV (U := UU) (.agg [.sl .eItem b.S.Items, .lit (.int .i64 b.S.Next), .sl .eMatch b.Fired, .sl .eTask b.Tasks, .sl .eTimer b.Timers, .sl .eUndo b.Undos, .lit (.int .i64 b.State), .lit (.int .i64 b.Now)]) := hb _ (List.mem_cons_of_mem _ (List.mem_cons_self))
  have hl_b_S_Items : b.S.Items.length ≤ 9223372036854775807 := Bd.len (U := UU) (τ := .eItem) (xs := b.S.Items) (hb_b _ (by simp))
  have hl_b_Fired : b.Fired.length ≤ 9223372036854775807 := Bd.len (U := UU) (τ := .eMatch) (xs := b.Fired) (hb_b _ (by simp))
  have hl_b_Tasks : b.Tasks.length ≤ 9223372036854775807 := Bd.len (U := UU) (τ := .eTask) (xs := b.Tasks) (hb_b _ (by simp))
  have hl_b_Timers : b.Timers.length ≤ 9223372036854775807 := Bd.len (U := UU) (τ := .eTimer) (xs := b.Timers) (hb_b _ (by simp))
  have hl_b_Undos : b.Undos.length ≤ 9223372036854775807 := Bd.len (U := UU) (τ := .eUndo) (xs := b.Undos) (hb_b _ (by simp))
  clear hp hb
  rw [vc_laws_sameInst a b]
  dsimp only
  exact Lf_b (inst_eq a b)
def con_laws_sameTasks : Con UU where
  α := (List DTask) × (List DTask)
  md := [.ro, .ro]
  of := fun | [.one (.sl .eTask a0), .one (.sl .eTask a1)] => some (a0, a1) | _ => none
  ds := fun (a, b) => [.one (.sl .eTask a), .one (.sl .eTask b)]
  pre := fun (a, b) => []
  res := fun (a, b) => ⟨[.one (.lit (.bool (decide (a = b))))], true, []⟩
  law := by intro l x h; (try simp only at h); split at h <;> cases h; rfl
def ann_laws_sameTasks : con_laws_sameTasks.α → Nat → Option (Ann UU) := fun (a, b) => annL []
def use_laws_sameTasks : List (FuncId × Con UU) := [(41, con_laws_sameInst)]
theorem vc_laws_sameTasks (a : (List DTask)) (b : (List DTask)) : goal EE use_laws_sameTasks Go.Proofs.Tryz.f10 con_laws_sameTasks ann_laws_sameTasks (a, b) = (Lf [DV.one (Cell.lit (Value.bool (decide ({ S := { Items := [], Next := (0 : Int) : DStore }, Fired := [], Tasks := a, Timers := [], Undos := [], State := (0 : Int), Now := (0 : Int) : DInst } = { S := { Items := [], Next := (0 : Int) : DStore }, Fired := [], Tasks := b, Timers := [], Undos := [], State := (0 : Int), Now := (0 : Int) : DInst }))))] [DV.one (Cell.lit (Value.bool (decide (a = b))))]) := by kernel_rfl
theorem ok_laws_sameTasks : Holds EE (10, con_laws_sameTasks) := by
  refine holds_of EE_ok Go.Proofs.Tryz.func10 con_laws_sameTasks (by kernel_rfl) use_laws_sameTasks (all_cons ok_laws_sameInst all_nil) ann_laws_sameTasks (fun x hp hb => ?_)
  obtain ⟨a, b⟩ := x
  have hb_a : BdDV (U := UU) (.one (.sl .eTask a)) := hb _ (List.mem_cons_self)
  have hl_a : a.length ≤ 9223372036854775807 := Bd.len hb_a
  have hb_b : BdDV (U := UU) (.one (.sl .eTask b)) := hb _ (List.mem_cons_of_mem _ (List.mem_cons_self))
  have hl_b : b.length ≤ 9223372036854775807 := Bd.len hb_b
  clear hp hb
  rw [vc_laws_sameTasks a b]
  exact Lf_b (insT_eq a b)
/-! A fact that is right has a text of its own. -/
def digVal (l : List UInt8) : Nat := l.foldl (fun a d => 10 * a + (d.toNat - 48)) 0
theorem digVal_snoc (l : List UInt8) (d : UInt8) : digVal (l ++ [d]) = 10 * digVal l + (d.toNat - 48) := by simp [digVal, List.foldl_append]
theorem dig_toNat {n : Nat} (h : n < 10) : (UInt8.ofNat (48 + n)).toNat = 48 + n := by
  rw [UInt8.toNat_ofNat']; omega
theorem digVal_dec : ∀ u : Nat, digVal (Go.Lib.decDigits u) = u := by
  intro u
  induction u using Nat.strongRecOn with
  | ind u ih =>
    rw [Go.Lib.decDigits]
    split
    · rename_i h
      simp only [digVal, List.foldl_cons, List.foldl_nil]
      rw [dig_toNat h]; omega
    · rename_i h
      rw [digVal_snoc, ih (u / 10) (by omega), dig_toNat (by omega)]; omega
theorem dec_dig : ∀ u : Nat, ∀ d ∈ Go.Lib.decDigits u, 48 ≤ d.toNat ∧ d.toNat ≤ 57 := by
  intro u
  induction u using Nat.strongRecOn with
  | ind u ih =>
    rw [Go.Lib.decDigits]
    split
    · rename_i h
      intro d hd
      rw [List.mem_singleton.1 hd, dig_toNat h]; omega
    · rename_i h
      intro d hd
      rcases List.mem_append.1 hd with hd | hd
      · exact ih (u / 10) (by omega) d hd
      · rw [List.mem_singleton.1 hd, dig_toNat (by omega)]; omega
theorem dec_ne (u : Nat) : Go.Lib.decDigits u ≠ [] := by
  rw [Go.Lib.decDigits]; split <;> simp
theorem itoa_mem {n : Int} {d : UInt8} (h : d ∈ Go.Lib.itoa n) : d.toNat = 45 ∨ (48 ≤ d.toNat ∧ d.toNat ≤ 57) := by
  unfold Go.Lib.itoa at h
  split at h
  · rcases List.mem_cons.1 h with rfl | h
    · exact .inl rfl
    · exact .inr (dec_dig _ d h)
  · exact .inr (dec_dig _ d h)
theorem itoa_inj {m n : Int} (h : Go.Lib.itoa m = Go.Lib.itoa n) : m = n := by
  have key : ∀ (a b : Nat), 45 :: Go.Lib.decDigits a ≠ Go.Lib.decDigits b := by
    intro a b e
    have := dec_dig b 45 (e ▸ List.mem_cons_self)
    exact absurd this.1 (by decide)
  unfold Go.Lib.itoa at h
  split at h <;> split at h
  · have := congrArg digVal (List.cons.inj h).2
    rw [digVal_dec, digVal_dec] at this; omega
  · exact absurd h (key _ _)
  · exact absurd h.symm (key _ _)
  · have := congrArg digVal h
    rw [digVal_dec, digVal_dec] at this; omega
theorem word_mem {s : ByteArray} (h : wordS s = true) {d : UInt8} (hd : d ∈ bs s) : d.toNat ≠ 39 ∧ d.toNat ≠ 40 ∧ d.toNat ≠ 44 := by
  have := List.all_eq_true.1 h d hd
  simp only [byteP, wordB, smallB, Bool.or_eq_true, decide_eq_true_eq] at this
  omega
theorem valT_mem {v : DVal} (h : valOk v = true) : ∀ d ∈ valT v, d.toNat ≠ 44 := by
  intro d hd
  unfold valT at hd
  split at hd
  · rcases itoa_mem hd with h | h <;> omega
  · rename_i h1
    have hw : wordS v.S = true := by
      simp only [valOk] at h
      by_cases h2 : v.K = 2
      · simp [h2] at h; exact h.2
      · simp [h1, h2] at h
    rcases List.mem_cons.1 hd with rfl | hd
    · decide
    · rcases List.mem_append.1 hd with hd | hd
      · exact (word_mem hw hd).2.2
      · rw [List.mem_singleton.1 hd]; decide
theorem valT_ne (v : DVal) : valT v ≠ [] := by
  unfold valT; split
  · unfold Go.Lib.itoa; split
    · simp
    · exact dec_ne _
  · simp
theorem valT_inj {v w : DVal} (hv : valOk v = true) (hw : valOk w = true) (h : valT v = valT w) : v = w := by
  have hcl : ∀ {u : DVal}, valOk u = true → (u.K = 1 ∧ u.S = noBytes) ∨ (u.K = 2 ∧ u.N = 0) := by
    intro u hu
    simp only [valOk] at hu
    by_cases h1 : u.K = 1
    · simp [h1] at hu; exact .inl ⟨h1, hu.2⟩
    · by_cases h2 : u.K = 2
      · simp [h2] at hu; exact .inr ⟨h2, hu.1.1⟩
      · simp [h1, h2] at hu
  have hno : ∀ (n : Int) (r : List UInt8), Go.Lib.itoa n ≠ 39 :: r := by
    intro n r e
    rcases itoa_mem (n := n) (d := 39) (by rw [e]; exact List.mem_cons_self) with h | h
    · exact absurd h (by decide)
    · exact absurd h.1 (by decide)
  obtain ⟨k, n, s⟩ := v
  obtain ⟨k', n', s'⟩ := w
  rcases hcl hv with ⟨h1, h2⟩ | ⟨h1, h2⟩ <;> rcases hcl hw with ⟨h3, h4⟩ | ⟨h3, h4⟩ <;> simp only at h1 h2 h3 h4 <;> subst h1 h2 h3 h4
  · simp only [valT, if_true] at h
    rw [itoa_inj h]
  · simp only [valT, if_true] at h
    rw [if_neg (by decide)] at h
    exact absurd h (hno _ _)
  · simp only [valT, if_true] at h
    rw [if_neg (by decide)] at h
    exact absurd h.symm (hno _ _)
  · simp only [valT] at h
    rw [if_neg (by decide), if_neg (by decide)] at h
    have := List.append_cancel_right (List.cons.inj h).2
    have e : s = s' := by rw [← mkB_bs s, ← mkB_bs s', this]
    rw [e]
theorem split_at {x : UInt8} : ∀ {a b r t : List UInt8}, (∀ d ∈ a, d ≠ x) → (∀ d ∈ b, d ≠ x) → (r = [] ∨ ∃ r', r = x :: r') → (t = [] ∨ ∃ t', t = x :: t') → a ++ r = b ++ t → a = b ∧ r = t
  | [], [], r, t, _, _, _, _, h => ⟨rfl, h⟩
  | [], d :: b, r, t, _, hb, hr, _, h => by
    rcases hr with rfl | ⟨r', rfl⟩
    · simp at h
    · simp only [List.nil_append, List.cons_append, List.cons.injEq] at h
      exact absurd h.1.symm (hb d List.mem_cons_self)
  | d :: a, [], r, t, ha, _, _, ht, h => by
    rcases ht with rfl | ⟨t', rfl⟩
    · simp at h
    · simp only [List.nil_append, List.cons_append, List.cons.injEq] at h
      exact absurd h.1 (ha d List.mem_cons_self)
  | d :: a, e :: b, r, t, ha, hb, hr, ht, h => by
    simp only [List.cons_append, List.cons.injEq] at h
    obtain ⟨h1, h2⟩ := split_at (fun z hz => ha z (List.mem_cons_of_mem _ hz)) (fun z hz => hb z (List.mem_cons_of_mem _ hz)) hr ht h.2
    exact ⟨by rw [h.1, h1], h2⟩
theorem tail_form (r : List (List UInt8)) : Go.Lib.joinTail [44] r = [] ∨ ∃ t, Go.Lib.joinTail [44] r = 44 :: t := by
  cases r with
  | nil => exact .inl rfl
  | cons x r => exact .inr ⟨x ++ Go.Lib.joinTail [44] r, by simp [Go.Lib.joinTail]⟩
theorem tail_inj : ∀ {l m : List DVal}, l.all valOk = true → m.all valOk = true → Go.Lib.joinTail [44] (l.map valT) = Go.Lib.joinTail [44] (m.map valT) → l = m
  | [], [], _, _, _ => rfl
  | [], y :: m, _, _, h => by simp [Go.Lib.joinTail] at h
  | x :: l, [], _, _, h => by simp [Go.Lib.joinTail] at h
  | x :: l, y :: m, hl, hm, h => by
    simp only [List.all_cons, Bool.and_eq_true] at hl hm
    have e : ∀ (x : DVal) (l : List DVal), Go.Lib.joinTail [44] ((x :: l).map valT) = 44 :: (valT x ++ Go.Lib.joinTail [44] (l.map valT)) := fun x l => by simp [Go.Lib.joinTail]
    rw [e, e] at h
    have hne : ∀ {v : DVal}, valOk v = true → ∀ d ∈ valT v, d ≠ 44 := fun hv d hd he => valT_mem hv d hd (by rw [he]; rfl)
    obtain ⟨h1, h2⟩ := split_at (x := 44) (hne hl.1) (hne hm.1) (tail_form _) (tail_form _) (List.cons.inj h).2
    rw [valT_inj hl.1 hm.1 h1, tail_inj hl.2 hm.2 h2]
theorem join_inj {l m : List DVal} (hl : l.all valOk = true) (hm : m.all valOk = true) (h : Go.Lib.join (l.map valT) [44] = Go.Lib.join (m.map valT) [44]) : l = m := by
  cases l with
  | nil =>
    cases m with
    | nil => rfl
    | cons y m =>
      rw [List.map_nil, List.map_cons, Go.Lib.join_nil, Go.Lib.join_cons] at h
      exact absurd (List.append_eq_nil_iff.1 h.symm).1 (valT_ne y)
  | cons x l =>
    cases m with
    | nil =>
      rw [List.map_nil, List.map_cons, Go.Lib.join_nil, Go.Lib.join_cons] at h
      exact absurd (List.append_eq_nil_iff.1 h).1 (valT_ne x)
    | cons y m =>
      refine tail_inj hl hm ?_
      rw [List.map_cons, List.map_cons, Go.Lib.join_cons, Go.Lib.join_cons] at h
      have e : ∀ (x : List UInt8) (l : List (List UInt8)), Go.Lib.joinTail [44] (x :: l) = 44 :: (x ++ Go.Lib.joinTail [44] l) := fun x l => by simp [Go.Lib.joinTail]
      rw [List.map_cons, List.map_cons, e, e, h]
theorem factText_inj {f g : DFact} (hf : factOk f = true) (hg : factOk g = true) (h : factText f = factText g) : f = g := by
  rw [factText, factText, if_pos hf, if_pos hg] at h
  have h : bs f.Kind ++ valsT f.Fields = bs g.Kind ++ valsT g.Fields := by have := congrArg bs h; rwa [bs_mkB, bs_mkB] at this
  have hw : ∀ {f : DFact}, factOk f = true → ∀ d ∈ bs f.Kind, d ≠ 40 := by
    intro f hf d hd he
    have h3 := (factOk_fields hf).2.2.1
    simp only [nameOk, Bool.and_eq_true] at h3
    exact (word_mem h3.2 hd).2.1 (by rw [he]; rfl)
  obtain ⟨h1, h2⟩ := split_at (x := 40) (hw hf) (hw hg) (.inr ⟨_, rfl⟩) (.inr ⟨_, rfl⟩) h
  have h3 := List.append_cancel_right (List.cons.inj h2).2
  have h4 := join_inj (factOk_fields hf).2.1 (factOk_fields hg).2.1 h3
  obtain ⟨k, fs⟩ := f
  obtain ⟨k', fs'⟩ := g
  simp only at h1 h4
  have e : k = k' := by rw [← mkB_bs k, ← mkB_bs k', h1]
  rw [e, h4]
theorem eq_Call (x y : DCall) : x = y ↔ x.Key = y.Key ∧ x.F = y.F ∧ x.Try = y.Try := by cases x; cases y; simp [DCall.mk.injEq]
theorem tasksOk_ne {l : List DTask} (h : tasksOk l = true) {i j : Nat} (hij : j < i) (hi : i < l.length) : (List.getD l j zTask).F ≠ (List.getD l i zTask).F := by
  simp only [tasksOk, Bool.and_eq_true] at h
  have := allI_iff.1 h.2 i hi
  simp only [taskAt, Bool.and_eq_true, Bool.not_eq_true'] at this
  have := anyI_not.1 this.2 j hij
  simpa using this
theorem key_is {l : List DTask} (h : tasksOk l = true) {i : Nat} (hi : i < l.length) : taskAtKey l (factText (List.getD l i zTask).F) = i := by
  have hm : ∀ {j : Nat}, j < l.length → factOk (List.getD l j zTask).F = true := fun {j} hj => (taskOk_iff.1 ((tasksOk_iff.1 h).2.1 _ (by rw [List.getD_eq_getElem?_getD, List.getElem?_eq_getElem hj]; exact List.getElem_mem hj))).1
  unfold taskAtKey
  refine idxI_found hi (by simp) (fun j hj => ?_)
  simp only [decide_eq_false_iff_not]
  exact fun e => tasksOk_ne h hj hi (factText_inj (hm (by omega)) (hm hi) e)
theorem take_mod {α : Type} (f : α → α) : ∀ (l : List α) (k : Nat), (l.modify k f).take k = l.take k
  | [], k => by simp
  | x :: l, 0 => by simp
  | x :: l, k + 1 => by simp [take_mod f l k]
theorem drop_mod {α : Type} (f : α → α) : ∀ (l : List α) (k : Nat), (l.modify k f).drop (k + 1) = l.drop (k + 1)
  | [], k => by simp
  | x :: l, 0 => by simp
  | x :: l, k + 1 => by simp [drop_mod f l k]
theorem getD_F (l : List DTask) (k : Nat) : (List.getD l k zTask).F = List.getD (l.map DTask.F) k zTask.F := by
  rw [List.getD_eq_getElem?_getD, List.getD_eq_getElem?_getD, List.getElem?_map]
  cases l[k]? <;> rfl
theorem key_map {l m : List DTask} (h : l.map DTask.F = m.map DTask.F) (key : ByteArray) : taskAtKey l key = taskAtKey m key := by
  have hl : l.length = m.length := by have := congrArg List.length h; simpa using this
  unfold taskAtKey
  rw [hl]
  exact idxI_congr fun j hj => by rw [getD_F, getD_F, h]
theorem reply_tri (L : List DTask) (key : ByteArray) (ok : Bool) (v : DVal) : (∃ c : Int, c ≠ 1 ∧ replyTask L key ok v = (L, c)) ∨ ((tasksOk L = true ∧ valOk v = true ∧ 0 ≤ taskAtKey L key ∧ (List.getD L (taskAtKey L key).toNat zTask).State ≠ 1) ∧ replyTask L key ok v = (L.modify (taskAtKey L key).toNat (replied ok v), 1)) := by
  unfold replyTask
  split
  · rename_i h
    split
    · exact .inr ⟨h, rfl⟩
    · exact .inl ⟨2, by decide, rfl⟩
  · exact .inl ⟨3, by decide, rfl⟩
def con_laws_FnAnswered : Con UU where
  α := (List Int)
  md := [.ro]
  of := fun | [.one (.sl .byte a0)] => some a0 | _ => none
  ds := fun code => [.one (.sl .byte code)]
  pre := fun code => []
  res := fun code => ⟨[.one (.lit (.bool true))], true, []⟩
  law := by intro l x h; (try simp only at h); split at h <;> cases h; rfl
def ann_laws_FnAnswered : con_laws_FnAnswered.α → Nat → Option (Ann UU) := fun code => annL []
def use_laws_FnAnswered : List (FuncId × Con UU) := [(6, con_laws_big), (14, con_spec_DrawReplyTask), (15, con_impl_ReplyTask), (16, con_spec_ReplyTask), (10, con_laws_sameTasks), (11, con_impl_TaskAt), (13, con_impl_TasksOk)]
theorem vc_laws_FnAnswered (code : (List Int)) : goal EE use_laws_FnAnswered Go.Proofs.Tryz.f4 con_laws_FnAnswered ann_laws_FnAnswered code = (let x0 : Int := taskAtKey (replyTask (anyT (newCur code)) (dRk code) (onceV (dRc code) (2 : Int)) { K := (anyvV (belowC (dRc code) (2 : Int))).K, N := (anyvV (belowC (dRc code) (2 : Int))).N, S := (anyvV (belowC (dRc code) (2 : Int))).S : DVal }).1 (dRk code);
let x1 : Int := (↑(List.length (replyTask (anyT (newCur code)) (dRk code) (onceV (dRc code) (2 : Int)) { K := (anyvV (belowC (dRc code) (2 : Int))).K, N := (anyvV (belowC (dRc code) (2 : Int))).N, S := (anyvV (belowC (dRc code) (2 : Int))).S : DVal }).1) : Int);
let x2 : DVal := (List.getD (replyTask (anyT (newCur code)) (dRk code) (onceV (dRc code) (2 : Int)) { K := (anyvV (belowC (dRc code) (2 : Int))).K, N := (anyvV (belowC (dRc code) (2 : Int))).N, S := (anyvV (belowC (dRc code) (2 : Int))).S : DVal }).1 (Int.toNat x0) zTask).V;
let x3 : Nat := List.length (replyTask (anyT (newCur code)) (dRk code) (onceV (dRc code) (2 : Int)) { K := (anyvV (belowC (dRc code) (2 : Int))).K, N := (anyvV (belowC (dRc code) (2 : Int))).N, S := (anyvV (belowC (dRc code) (2 : Int))).S : DVal }).1;
let x4 : Int := Option.getD (some (IntKind.wrap IntKind.i64 (x0 + (1 : Int)))) (0 : Int);
let x5 : Int := Option.getD (some x0) (↑(List.length (anyT (newCur code))) : Int);
let x6 : DVal := { K := (anyvV (belowC (dRc code) (2 : Int))).K, N := (anyvV (belowC (dRc code) (2 : Int))).N, S := (anyvV (belowC (dRc code) (2 : Int))).S : DVal };
let x7 : Int := Option.getD none (↑(List.length (anyT (newCur code))) : Int);
let x8 : Int := Option.getD none (0 : Int);
let x9 : DVal := anyvV (belowC (dRc code) (2 : Int));
bif decide (List.length code > (1048576 : Nat)) then Lf [DV.one (Cell.lit (Value.bool true))] [DV.one (Cell.lit (Value.bool true))] else List.length code ≤ (4294967296 : Nat) ∧ sizeTaskS (anyT (newCur code)) ≤ (4294967296 : Nat) ∧ sizeTaskS (anyT (newCur code)) ≤ (4294967296 : Nat) ∧ bif (replyTask (anyT (newCur code)) (dRk code) (onceV (dRc code) (2 : Int)) x6).2 != (replyTask (anyT (newCur code)) (dRk code) (onceV (dRc code) (2 : Int)) x6).2 then bif (replyTask (anyT (newCur code)) (dRk code) (onceV (dRc code) (2 : Int)) x6).2 == (replyTask (anyT (newCur code)) (dRk code) (onceV (dRc code) (2 : Int)) x6).2 then Lf [DV.one (Cell.lit (Value.bool (decide ((replyTask (anyT (newCur code)) (dRk code) (onceV (dRc code) (2 : Int)) x6).1 = anyT (newCur code)))))] [DV.one (Cell.lit (Value.bool true))] else Lf [DV.one (Cell.lit (Value.bool false))] [DV.one (Cell.lit (Value.bool true))] else bif (replyTask (anyT (newCur code)) (dRk code) (onceV (dRc code) (2 : Int)) x6).2 != (1 : Int) then bif (replyTask (anyT (newCur code)) (dRk code) (onceV (dRc code) (2 : Int)) x6).2 == (replyTask (anyT (newCur code)) (dRk code) (onceV (dRc code) (2 : Int)) x6).2 then Lf [DV.one (Cell.lit (Value.bool (decide ((replyTask (anyT (newCur code)) (dRk code) (onceV (dRc code) (2 : Int)) x6).1 = anyT (newCur code)))))] [DV.one (Cell.lit (Value.bool true))] else Lf [DV.one (Cell.lit (Value.bool false))] [DV.one (Cell.lit (Value.bool true))] else sizeTaskS (replyTask (anyT (newCur code)) (dRk code) (onceV (dRc code) (2 : Int)) x6).1 ≤ (4294967296 : Nat) ∧ bif decide (x0 < (0 : Int)) then Lf [DV.one (Cell.lit (Value.bool false))] [DV.one (Cell.lit (Value.bool true))] else bif (replyTask { τ := Cd.eTask, xs := (replyTask (anyT (newCur code)) (dRk code) (onceV (dRc code) (2 : Int)) x6).1 : Arr UU }.xs (dRk code) (!onceV (dRc code) (2 : Int)) x6).2 != (2 : Int) then Lf [DV.one (Cell.lit (Value.bool false))] [DV.one (Cell.lit (Value.bool true))] else bif !decide ((replyTask (anyT (newCur code)) (dRk code) (onceV (dRc code) (2 : Int)) x6).1 = (replyTask { τ := Cd.eTask, xs := (replyTask (anyT (newCur code)) (dRk code) (onceV (dRc code) (2 : Int)) x6).1 : Arr UU }.xs (dRk code) (!onceV (dRc code) (2 : Int)) x6).1) then Lf [DV.one (Cell.lit (Value.bool false))] [DV.one (Cell.lit (Value.bool true))] else bif !tasksOk (replyTask (anyT (newCur code)) (dRk code) (onceV (dRc code) (2 : Int)) x6).1 then Lf [DV.one (Cell.lit (Value.bool false))] [DV.one (Cell.lit (Value.bool true))] else (0 : Int) ≤ x0 ∧ Int.toNat x0 < x3 ∧ Int.toNat x0 < x3 ∧ bif x2.K == x9.K && (x2.N == x9.N && (ByteArray.toList x2.S == ByteArray.toList x9.S && true)) then (0 : Int) ≤ x0 ∧ Int.toNat x0 < x3 ∧ Int.toNat x0 < x3 ∧ bif ((List.getD (replyTask (anyT (newCur code)) (dRk code) (onceV (dRc code) (2 : Int)) x6).1 (Int.toNat x0) zTask).State == (3 : Int)) == onceV (dRc code) (2 : Int) then (0 : Int) ≤ x8 ∧ x8 ≤ Option.getD (some x0) x1 ∧ Option.getD (some x0) x1 ≤ x1 ∧ (0 : Int) ≤ x8 ∧ x8 ≤ x5 ∧ x5 ≤ (↑(List.length (anyT (newCur code))) : Int) ∧ Int.toNat (Option.getD (some x0) x1) ≤ x3 ∧ bif decide (List.drop (nat_lit 0) (List.take (Int.toNat (Option.getD (some x0) x1)) (replyTask (anyT (newCur code)) (dRk code) (onceV (dRc code) (2 : Int)) x6).1) = List.drop (Int.toNat x8) (List.take (Int.toNat x5) (anyT (newCur code)))) then (0 : Int) ≤ x4 ∧ x4 ≤ Option.getD none x1 ∧ Option.getD none x1 ≤ x1 ∧ (0 : Int) ≤ x4 ∧ x4 ≤ x7 ∧ x7 ≤ (↑(List.length (anyT (newCur code))) : Int) ∧ Int.toNat (Option.getD none x1) ≤ x3 ∧ Lf [DV.one (Cell.lit (Value.bool (decide (List.drop (Int.toNat x4) (List.take (Int.toNat (Option.getD none x1)) (replyTask (anyT (newCur code)) (dRk code) (onceV (dRc code) (2 : Int)) x6).1) = List.drop (Int.toNat x4) (List.take (Int.toNat x7) (anyT (newCur code)))))))] [DV.one (Cell.lit (Value.bool true))] else Lf [DV.one (Cell.lit (Value.bool false))] [DV.one (Cell.lit (Value.bool true))] else Lf [DV.one (Cell.lit (Value.bool false))] [DV.one (Cell.lit (Value.bool true))] else Lf [DV.one (Cell.lit (Value.bool false))] [DV.one (Cell.lit (Value.bool true))]) := by kernel_rfl
theorem ok_laws_FnAnswered : Holds EE (4, con_laws_FnAnswered) := by
  refine holds_of EE_ok Go.Proofs.Tryz.func4 con_laws_FnAnswered (by kernel_rfl) use_laws_FnAnswered (all_cons ok_laws_big (all_cons ok_spec_DrawReplyTask (all_cons ok_impl_ReplyTask (all_cons ok_spec_ReplyTask (all_cons ok_laws_sameTasks (all_cons ok_impl_TaskAt (all_cons ok_impl_TasksOk all_nil))))))) ann_laws_FnAnswered (fun (code : (List Int)) hp hb => ?_)
  have hb_code : BdDV (U := UU) (.one (.sl .byte code)) := hb _ (List.mem_cons_self)
  have hl_code : code.length ≤ 9223372036854775807 := Bd.len hb_code
  clear hp hb
  rw [vc_laws_FnAnswered code]
  dsimp only
  refine if_cond (fun h => Lf_rfl _) (fun h => ?_)
  have hcode := of_decide_eq_false h
  obtain ⟨_, hT, hlen⟩ := anyT_ok (cOk_new (code := code) (by omega))
  generalize anyT (newCur code) = L at hT hlen ⊢
  generalize anyvV (belowC (dRc code) 2) = v
  generalize onceV (dRc code) 2 = ok
  generalize dRk code = key
  have hs := taskS_size hT
  refine ⟨by omega, by omega, by omega, ?_⟩
  rcases reply_tri L key ok v with ⟨c, hc, hp⟩ | ⟨⟨c1, c2, c3, c4⟩, hp⟩
  · rw [hp]
    dsimp only
    exact if_cond (fun g => absurd g (by simp)) (fun _ => if_cond (fun _ => if_cond (fun _ => Lf_b (by simp)) (fun g => absurd g (by simp))) (fun g => absurd g (by simpa using hc)))
  · have hok := tasksOk_reply (key := key) (ok := ok) (v := v) c1
    have hmap := map_modify_same DTask.F (replied ok v) (fun _ => rfl) L (taskAtKey L key).toNat
    have hk := key_map hmap key
    have hlt := taskAtKey_lt c3
    have hg : List.getD (L.modify (taskAtKey L key).toNat (replied ok v)) (taskAtKey L key).toNat zTask = replied ok v (List.getD L (taskAtKey L key).toNat zTask) := by
      simp [List.getD_eq_getElem?_getD, List.getElem?_modify, List.getElem?_eq_getElem hlt]
    rw [hp] at hok ⊢
    dsimp only at hok ⊢
    have hst : (replied ok v (List.getD L (taskAtKey L key).toNat zTask)).State = if ok = true then 3 else 4 := rfl
    have hst2 : ((if ok = true then 3 else 4 : Int)) ≠ 1 ∧ ((if ok = true then 3 else 4 : Int)) ≠ 2 := by cases ok <;> decide
    have hp2 : replyTask (L.modify (taskAtKey L key).toNat (replied ok v)) key (!ok) v = (L.modify (taskAtKey L key).toNat (replied ok v), 2) :=
      reply_old ⟨hok, c2, by rw [hk]; exact c3, by rw [hk, hg, hst]; exact hst2.1⟩ (by rw [hk, hg, hst]; exact hst2.2)
    rw [hp2]
    dsimp only
    rw [hk, hg, hst]
    have hml : (L.modify (taskAtKey L key).toNat (replied ok v)).length = L.length := by simp
    have hs2 := taskS_size (l := L.modify (taskAtKey L key).toNat (replied ok v)) (fun t ht => tFit_of ((tasksOk_iff.1 hok).2.1 t ht))
    rw [hml] at hs2 ⊢
    have hk1 : (taskAtKey L key).toNat < L.length := hlt
    rw [wrap_i64 (n := taskAtKey L key + 1) (by omega) (by omega)]
    refine if_cond (fun g => absurd g (by simp)) (fun _ => if_cond (fun g => absurd g (by simp)) (fun _ => ⟨by omega, if_cond (fun g => absurd (of_decide_eq_true g) (by omega)) (fun _ => if_cond (fun g => absurd g (by simp)) (fun _ => if_cond (fun g => absurd g (by simp)) (fun _ => if_cond (fun g => absurd g (by rw [hok]; simp)) (fun _ => ?_))))⟩))
    have htk : List.drop 0 (List.take (taskAtKey L key).toNat (L.modify (taskAtKey L key).toNat (replied ok v))) = List.drop 0 (List.take (taskAtKey L key).toNat L) := by rw [take_mod]
    have hdk : List.drop (taskAtKey L key + 1).toNat (List.take (L.length : Int).toNat (L.modify (taskAtKey L key).toNat (replied ok v))) = List.drop (taskAtKey L key + 1).toNat (List.take (L.length : Int).toNat L) := by
      have e1 : (taskAtKey L key + 1).toNat = (taskAtKey L key).toNat + 1 := by omega
      have e2 : (L.length : Int).toNat = L.length := by omega
      rw [e1, e2, List.take_of_length_le (by rw [hml]; omega), List.take_of_length_le (by omega), drop_mod]
    refine ⟨by omega, hlt, hlt, if_cond (fun _ => ⟨by omega, hlt, hlt, if_cond (fun _ => ?_) (fun g => absurd g (by cases ok <;> decide))⟩) (fun g => absurd g (by simp [replied]))⟩
    refine ⟨Int.le_refl _, by show (0 : Int) ≤ taskAtKey L key; omega, by show taskAtKey L key ≤ (L.length : Int); omega, Int.le_refl _, by show (0 : Int) ≤ taskAtKey L key; omega, by show taskAtKey L key ≤ (L.length : Int); omega, by show (taskAtKey L key).toNat ≤ _; omega, if_cond (fun _ => ?_) (fun g => absurd htk (of_decide_eq_false g))⟩
    exact ⟨by show (0 : Int) ≤ taskAtKey L key + 1; omega, by show taskAtKey L key + 1 ≤ (L.length : Int); omega, Int.le_refl _, by show (0 : Int) ≤ taskAtKey L key + 1; omega, by show taskAtKey L key + 1 ≤ (L.length : Int); omega, Int.le_refl _, by show (L.length : Int).toNat ≤ _; omega, Lf_b (decide_eq_true hdk)⟩
end
end AM
