/- Functions of the program with their contracts: put together by gen/link.py for FnStarted. -/
import Derived.Test.YtignnkcjolobgaaGreatDoorAmLib
import Derived.Test.YtignnkcjolobgaaGreatDoorAmModels
import Derived.Test.YtignnkcjolobgaaGreatDoorFStarted2
import Derived.Lib.ItoaLen
import Derived.Lib.Join
import Derived.Test.YtignnkcjolobgaaGreatDoorShelf
namespace AM
open Go
set_option linter.unusedVariables false
set_option linter.unusedSimpArgs false
set_option maxRecDepth 100000
noncomputable section
def con_laws_FnStarted : Con UU where
  α := (List Int)
  md := [.ro]
  of := fun | [.one (.sl .byte a0)] => some a0 | _ => none
  ds := fun code => [.one (.sl .byte code)]
  pre := fun code => []
  res := fun code => ⟨[.one (.lit (.bool true))], true, []⟩
  law := by intro l x h; (try simp only at h); split at h <;> cases h; rfl
def ann_laws_FnStarted : con_laws_FnStarted.α → Nat → Option (Ann UU) := fun code => annL []
def use_laws_FnStarted : List (FuncId × Con UU) := [(6, con_laws_big), (7, con_spec_DrawStartTask), (8, con_impl_StartTask), (9, con_spec_StartTask), (10, con_laws_sameTasks), (12, con_impl_TaskKey), (11, con_impl_TaskAt), (13, con_impl_TasksOk)]
theorem vc_laws_FnStarted (code : (List Int)) : goal EE use_laws_FnStarted Go.Proofs.Tryz.f3 con_laws_FnStarted ann_laws_FnStarted code = (let x0 : DTask := List.getD (startTask { τ := Cd.eTask, xs := (startQ (newCur code)).1 : Arr UU }.xs { Kind := (anyF (startQ (newCur code)).2).Kind, Fields := { τ := Cd.eVal, xs := (anyF (startQ (newCur code)).2).Fields : Arr UU }.xs : DFact } (strV (anyFC (startQ (newCur code)).2) sLst) (intV (strC (anyFC (startQ (newCur code)).2) sLst) iLst)).1 (Int.toNat (taskAtKey (startTask { τ := Cd.eTask, xs := (startQ (newCur code)).1 : Arr UU }.xs { Kind := (anyF (startQ (newCur code)).2).Kind, Fields := { τ := Cd.eVal, xs := (anyF (startQ (newCur code)).2).Fields : Arr UU }.xs : DFact } (strV (anyFC (startQ (newCur code)).2) sLst) (intV (strC (anyFC (startQ (newCur code)).2) sLst) iLst)).1 (factText (anyF (startQ (newCur code)).2)))) zTask;
let x1 : Int := (↑(List.length (startTask { τ := Cd.eTask, xs := (startQ (newCur code)).1 : Arr UU }.xs { Kind := (anyF (startQ (newCur code)).2).Kind, Fields := { τ := Cd.eVal, xs := (anyF (startQ (newCur code)).2).Fields : Arr UU }.xs : DFact } (strV (anyFC (startQ (newCur code)).2) sLst) (intV (strC (anyFC (startQ (newCur code)).2) sLst) iLst)).1) : Int);
let x2 : Int := taskAtKey (startTask { τ := Cd.eTask, xs := (startQ (newCur code)).1 : Arr UU }.xs { Kind := (anyF (startQ (newCur code)).2).Kind, Fields := { τ := Cd.eVal, xs := (anyF (startQ (newCur code)).2).Fields : Arr UU }.xs : DFact } (strV (anyFC (startQ (newCur code)).2) sLst) (intV (strC (anyFC (startQ (newCur code)).2) sLst) iLst)).1 (factText (anyF (startQ (newCur code)).2));
let x3 : Bool := (startTask { τ := Cd.eTask, xs := (startQ (newCur code)).1 : Arr UU }.xs { Kind := (anyF (startQ (newCur code)).2).Kind, Fields := { τ := Cd.eVal, xs := (anyF (startQ (newCur code)).2).Fields : Arr UU }.xs : DFact } (strV (anyFC (startQ (newCur code)).2) sLst) (intV (strC (anyFC (startQ (newCur code)).2) sLst) iLst)).2 == (startTask { τ := Cd.eTask, xs := (startQ (newCur code)).1 : Arr UU }.xs { Kind := (anyF (startQ (newCur code)).2).Kind, Fields := { τ := Cd.eVal, xs := (anyF (startQ (newCur code)).2).Fields : Arr UU }.xs : DFact } (strV (anyFC (startQ (newCur code)).2) sLst) (intV (strC (anyFC (startQ (newCur code)).2) sLst) iLst)).2;
let x4 : Nat := List.length (startTask { τ := Cd.eTask, xs := (startQ (newCur code)).1 : Arr UU }.xs { Kind := (anyF (startQ (newCur code)).2).Kind, Fields := { τ := Cd.eVal, xs := (anyF (startQ (newCur code)).2).Fields : Arr UU }.xs : DFact } (strV (anyFC (startQ (newCur code)).2) sLst) (intV (strC (anyFC (startQ (newCur code)).2) sLst) iLst)).1;
let x5 : Int := Option.getD (some (↑(List.length (startQ (newCur code)).1) : Int)) x1;
let x6 : DFact := { Kind := (anyF (startQ (newCur code)).2).Kind, Fields := { τ := Cd.eVal, xs := (anyF (startQ (newCur code)).2).Fields : Arr UU }.xs : DFact };
let x7 : Int := intV (strC (anyFC (startQ (newCur code)).2) sLst) iLst;
let x8 : Int := IntKind.wrap IntKind.i64 ((↑(List.length (startQ (newCur code)).1) : Int) + (1 : Int));
bif decide (List.length code > (1048576 : Nat)) then Lf [DV.one (Cell.lit (Value.bool true))] [DV.one (Cell.lit (Value.bool true))] else List.length code ≤ (4294967296 : Nat) ∧ sizeTaskS (startQ (newCur code)).1 ≤ (4294967296 : Nat) ∧ List.length (anyF (startQ (newCur code)).2).Fields ≤ (4294967296 : Nat) ∧ sizeTaskS (startQ (newCur code)).1 ≤ (4294967296 : Nat) ∧ List.length (anyF (startQ (newCur code)).2).Fields ≤ (4294967296 : Nat) ∧ bif !x3 then bif x3 then Lf [DV.one (Cell.lit (Value.bool (decide ((startTask { τ := Cd.eTask, xs := (startQ (newCur code)).1 : Arr UU }.xs x6 (strV (anyFC (startQ (newCur code)).2) sLst) x7).1 = (startQ (newCur code)).1))))] [DV.one (Cell.lit (Value.bool true))] else Lf [DV.one (Cell.lit (Value.bool false))] [DV.one (Cell.lit (Value.bool true))] else bif !(startTask { τ := Cd.eTask, xs := (startQ (newCur code)).1 : Arr UU }.xs x6 (strV (anyFC (startQ (newCur code)).2) sLst) x7).2 then bif x3 then Lf [DV.one (Cell.lit (Value.bool (decide ((startTask { τ := Cd.eTask, xs := (startQ (newCur code)).1 : Arr UU }.xs x6 (strV (anyFC (startQ (newCur code)).2) sLst) x7).1 = (startQ (newCur code)).1))))] [DV.one (Cell.lit (Value.bool true))] else Lf [DV.one (Cell.lit (Value.bool false))] [DV.one (Cell.lit (Value.bool true))] else sizeTaskS (startTask { τ := Cd.eTask, xs := (startQ (newCur code)).1 : Arr UU }.xs x6 (strV (anyFC (startQ (newCur code)).2) sLst) x7).1 ≤ (4294967296 : Nat) ∧ List.length (anyF (startQ (newCur code)).2).Fields ≤ (4294967296 : Nat) ∧ bif decide (x2 < (0 : Int)) then Lf [DV.one (Cell.lit (Value.bool false))] [DV.one (Cell.lit (Value.bool true))] else bif !(startTask { τ := Cd.eTask, xs := (startTask { τ := Cd.eTask, xs := (startQ (newCur code)).1 : Arr UU }.xs x6 (strV (anyFC (startQ (newCur code)).2) sLst) x7).1 : Arr UU }.xs x6 { data := #[] : ByteArray } x7).2 then Lf [DV.one (Cell.lit (Value.bool false))] [DV.one (Cell.lit (Value.bool true))] else bif !decide ((startTask { τ := Cd.eTask, xs := (startQ (newCur code)).1 : Arr UU }.xs x6 (strV (anyFC (startQ (newCur code)).2) sLst) x7).1 = (startTask { τ := Cd.eTask, xs := (startTask { τ := Cd.eTask, xs := (startQ (newCur code)).1 : Arr UU }.xs x6 (strV (anyFC (startQ (newCur code)).2) sLst) x7).1 : Arr UU }.xs x6 { data := #[] : ByteArray } x7).1) then Lf [DV.one (Cell.lit (Value.bool false))] [DV.one (Cell.lit (Value.bool true))] else bif !tasksOk (startTask { τ := Cd.eTask, xs := (startQ (newCur code)).1 : Arr UU }.xs x6 (strV (anyFC (startQ (newCur code)).2) sLst) x7).1 then Lf [DV.one (Cell.lit (Value.bool false))] [DV.one (Cell.lit (Value.bool true))] else bif decide (x1 > x8) then Lf [DV.one (Cell.lit (Value.bool false))] [DV.one (Cell.lit (Value.bool true))] else (0 : Int) ≤ Option.getD none (0 : Int) ∧ Option.getD none (0 : Int) ≤ x5 ∧ x5 ≤ x1 ∧ Int.toNat x5 ≤ x4 ∧ bif !decide (List.drop (nat_lit 0) (List.take (Int.toNat x5) (startTask { τ := Cd.eTask, xs := (startQ (newCur code)).1 : Arr UU }.xs x6 (strV (anyFC (startQ (newCur code)).2) sLst) x7).1) = (startQ (newCur code)).1) then Lf [DV.one (Cell.lit (Value.bool false))] [DV.one (Cell.lit (Value.bool true))] else bif x1 == (↑(List.length (startQ (newCur code)).1) : Int) then Lf [DV.one (Cell.lit (Value.bool true))] [DV.one (Cell.lit (Value.bool true))] else (0 : Int) ≤ x2 ∧ Int.toNat x2 < x4 ∧ Int.toNat x2 < x4 ∧ bif x0.State == (1 : Int) then (0 : Int) ≤ x2 ∧ Int.toNat x2 < x4 ∧ Int.toNat x2 < x4 ∧ bif x0.Due == x7 then (0 : Int) ≤ x2 ∧ Int.toNat x2 < x4 ∧ Int.toNat x2 < x4 ∧ bif x0.Tries == (0 : Int) then (0 : Int) ≤ x2 ∧ Int.toNat x2 < x4 ∧ Int.toNat x2 < x4 ∧ Lf [DV.one (Cell.lit (Value.bool (ByteArray.toList x0.Undo == ByteArray.toList (strV (anyFC (startQ (newCur code)).2) sLst))))] [DV.one (Cell.lit (Value.bool true))] else Lf [DV.one (Cell.lit (Value.bool false))] [DV.one (Cell.lit (Value.bool true))] else Lf [DV.one (Cell.lit (Value.bool false))] [DV.one (Cell.lit (Value.bool true))] else Lf [DV.one (Cell.lit (Value.bool false))] [DV.one (Cell.lit (Value.bool true))]) := by kernel_rfl
theorem ok_laws_FnStarted : Holds EE (3, con_laws_FnStarted) := by
  refine holds_of EE_ok Go.Proofs.Tryz.func3 con_laws_FnStarted (by kernel_rfl) use_laws_FnStarted (all_cons ok_laws_big (all_cons ok_spec_DrawStartTask (all_cons ok_impl_StartTask (all_cons ok_spec_StartTask (all_cons ok_laws_sameTasks (all_cons ok_impl_TaskKey (all_cons ok_impl_TaskAt (all_cons ok_impl_TasksOk all_nil)))))))) ann_laws_FnStarted (fun (code : (List Int)) hp hb => ?_)
  have hb_code : BdDV (U := UU) (.one (.sl .byte code)) := hb _ (List.mem_cons_self)
  have hl_code : code.length ≤ 9223372036854775807 := Bd.len hb_code
  clear hp hb
  rw [vc_laws_FnStarted code]
  dsimp only
  refine if_cond (fun h => Lf_rfl _) (fun h => ?_)
  have hcode := of_decide_eq_false h
  obtain ⟨_, hF, hl⟩ := startQ_ok (cOk_new (code := code) (by omega))
  have hfl : (anyF (startQ (newCur code)).2).Fields.length ≤ 6 := (anyF_fit _).2.1
  generalize (startQ (newCur code)).1 = L at hF hl ⊢
  generalize strV (anyFC (startQ (newCur code)).2) sLst = u
  generalize intV (strC (anyFC (startQ (newCur code)).2) sLst) iLst = n
  generalize anyF (startQ (newCur code)).2 = f at hfl ⊢
  obtain ⟨fk, ff⟩ := f
  dsimp only at hfl ⊢
  have hs := taskS_size hF
  refine ⟨by omega, by omega, by omega, by omega, by omega, ?_⟩
  rcases start_tri L ⟨fk, ff⟩ u n with hp | ⟨hcs, hhas, hp⟩ | ⟨hcs, hhas, hl30, hp⟩
  · rw [hp]
    dsimp only
    exact if_cond (fun g => absurd g (by simp)) (fun _ => if_cond (fun _ => if_cond (fun _ => Lf_b (by simp)) (fun g => absurd g (by simp))) (fun g => absurd g (by simp)))
  · simp only [canStart, Bool.and_eq_true, decide_eq_true_eq] at hcs
    obtain ⟨⟨⟨c1, c2⟩, c3⟩, c4⟩ := hcs
    have hcs2 : canStart L ⟨fk, ff⟩ ⟨#[]⟩ n = true := by
      have hu : undoOk ⟨#[]⟩ = true := rfl
      simp only [canStart, c1, c2, hu, Bool.and_true, Bool.true_and, decide_eq_true_eq]; exact c4
    have hp2 : startTask L ⟨fk, ff⟩ ⟨#[]⟩ n = (L, true) := by rw [startTask, if_pos hcs2, startL, if_pos hhas]
    have hk := key_ge hhas
    rw [hp]
    dsimp only
    rw [hp2]
    dsimp only
    rw [wrap_i64 (n := (L.length : Int) + 1) (by omega) (by omega)]
    refine if_cond (fun g => absurd g (by simp)) (fun _ => if_cond (fun g => absurd g (by simp)) (fun _ => ⟨by omega, by omega, if_cond (fun g => absurd (of_decide_eq_true g) hk) (fun _ => if_cond (fun g => absurd g (by simp)) (fun _ => if_cond (fun g => absurd g (by simp)) (fun _ => if_cond (fun g => absurd g (by rw [c1]; simp)) (fun _ => ?_))))⟩))
    refine if_cond (fun g => absurd (of_decide_eq_true g) (by omega)) (fun _ => ⟨Int.le_refl _, by show (0 : Int) ≤ (L.length : Int); omega, Int.le_refl _, by show (L.length : Int).toNat ≤ _; omega, if_cond (fun g => absurd g (by simp)) (fun _ => if_cond (fun _ => Lf_rfl _) (fun g => absurd g (by simp)))⟩)
  · simp only [canStart, Bool.and_eq_true, decide_eq_true_eq] at hcs
    obtain ⟨⟨⟨c1, c2⟩, c3⟩, c4⟩ := hcs
    generalize hT : newTask ⟨fk, ff⟩ u n = T at hp
    have hTF : T.F = ⟨fk, ff⟩ := by rw [← hT]; rfl
    have hTv : T.State = 1 ∧ T.Due = n ∧ T.Tries = 0 ∧ T.Undo = u := by rw [← hT]; exact ⟨rfl, rfl, rfl, rfl⟩
    have hxl : (L ++ [T]).length = L.length + 1 := by simp
    have c5 : tasksOk (L ++ [T]) = true := by
      have := tasksOk_start (l := L) (f := ⟨fk, ff⟩) (u := u) (now := n) c1 c2 c3 (by omega) (by omega)
      rwa [startL, if_neg hhas, if_neg (by omega), hT] at this
    have hhas2 : hasTask (L ++ [T]) ⟨fk, ff⟩ = true := by rw [hasTask_mem]; simp [hTF]
    have hcs2 : canStart (L ++ [T]) ⟨fk, ff⟩ ⟨#[]⟩ n = true := by
      have hu : undoOk ⟨#[]⟩ = true := rfl
      simp only [canStart, c5, c2, hu, Bool.and_true, Bool.true_and, decide_eq_true_eq]; exact c4
    have hp2 : startTask (L ++ [T]) ⟨fk, ff⟩ ⟨#[]⟩ n = (L ++ [T], true) := by rw [startTask, if_pos hcs2, startL, if_pos hhas2]
    have hgT : List.getD (L ++ [T]) L.length zTask = T := by rw [List.getD_eq_getElem?_getD, List.getElem?_append_right (Nat.le_refl _)]; simp
    have hk : taskAtKey (L ++ [T]) (factText ⟨fk, ff⟩) = L.length := by
      refine key_at (by omega) (by rw [hgT, hTF]) (fun t ht => (taskOk_iff.1 ((tasksOk_iff.1 c5).2.1 t ht)).1) (fun j hj e => hhas ?_)
      rw [List.getD_eq_getElem?_getD, List.getElem?_append_left hj, ← List.getD_eq_getElem?_getD] at e
      exact anyI_true hj (by rw [e]; simp)
    have hs2 := taskS_size (l := L ++ [T]) (fun t ht => tFit_of ((tasksOk_iff.1 c5).2.1 t ht))
    have htk : List.take L.length (L ++ [T]) = L := by simp
    rw [hp]
    dsimp only
    rw [hp2]
    dsimp only
    rw [hk, hxl] at *
    rw [wrap_i64 (n := (L.length : Int) + 1) (by omega) (by omega)]
    obtain ⟨v1, v2, v3, v4⟩ := hTv
    have e : (L.length : Int).toNat = L.length := by omega
    rw [e, hgT]
    refine if_cond (fun g => absurd g (by simp)) (fun _ => if_cond (fun g => absurd g (by simp)) (fun _ => ⟨by omega, by omega, if_cond (fun g => absurd (of_decide_eq_true g) (by omega)) (fun _ => if_cond (fun g => absurd g (by simp)) (fun _ => if_cond (fun g => absurd g (by simp)) (fun _ => if_cond (fun g => absurd g (by rw [c5]; simp)) (fun _ => ?_))))⟩))
    refine if_cond (fun g => absurd (of_decide_eq_true g) (by omega)) (fun _ => ⟨Int.le_refl _, by show (0 : Int) ≤ (L.length : Int); omega, by show (L.length : Int) ≤ ((L.length + 1 : Nat) : Int); omega, by show (L.length : Int).toNat ≤ _; omega, if_cond (fun g => absurd g (by simp)) (fun _ => if_cond (fun g => absurd (eq_of_beq g) (by omega)) (fun _ => ?_))⟩)
    repeat' (first | refine And.intro (by omega) ?_ | refine if_cond (fun _ => ?_) (fun g => absurd g (by simp [v1, v2, v3, v4])) | exact Lf_b (by rw [toList_beq, v4]; simp) | exact Lf_b (by simp [v1, v2, v3, v4]))
end
end AM
