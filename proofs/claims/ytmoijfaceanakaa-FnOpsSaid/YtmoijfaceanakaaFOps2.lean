/- Functions of the program with their contracts: put together by gen/link.py for FnOps. -/
import Derived.Test.YtmoijfaceanakaaAmLib
import Derived.Test.YtmoijfaceanakaaFOps
namespace AM
open Go
set_option linter.unusedVariables false
set_option linter.unusedSimpArgs false
set_option maxRecDepth 100000
noncomputable section
def con_spec_GetNum : Con UU where
  α := (List Int) × Int
  md := [.ro, .ro]
  of := fun | [.one (.sl .byte a0), .one (.lit (.int .i64 a1))] => some (a0, a1) | _ => none
  ds := fun (b, pos) => [.one (.sl .byte b), .one (.lit (.int .i64 pos))]
  pre := fun (b, pos) => [b.length ≤ 4294967296]
  res := fun (b, pos) => ⟨[.one (.lit (.int .i64 ((gNum b pos).1))), .one (.lit (.int .i64 ((gNum b pos).2.1))), .one (.lit (.bool ((gNum b pos).2.2)))], true, []⟩
  law := by intro l x h; (try simp only at h); split at h <;> cases h; rfl
def I_spec_GetNum_3 (b : (List Int)) (pos : Int) : Int × Int × Unit → Prop := fun (m, k, _) => 0 ≤ k ∧ k ≤ 5 ∧ 0 ≤ m ∧ m < (2 ^ (7 * k).toNat : Nat) ∧ (0 ≤ pos → gLoop b pos (5 - k).toNat k m = gNum b pos)
def μ_spec_GetNum_3 (b : (List Int)) (pos : Int) : Int × Int × Unit → Nat := fun (m, k, _) => (5 - k).toNat
def ann_spec_GetNum : con_spec_GetNum.α → Nat → Option (Ann UU) := fun (b, pos) => annL [(3, annOf [.slot 7 (7, 1024) (.lit (.int .i64)), .slot 8 (8, 1024) (.lit (.int .i64))] (fun _ => I_spec_GetNum_3 b pos) (μ_spec_GetNum_3 b pos))]
def use_spec_GetNum : List (FuncId × Con UU) := [(61, con_spec_l1In)]
theorem vc_spec_GetNum (b : (List Int)) (pos : Int) : goal EE use_spec_GetNum Go.Proofs.Try.f100 con_spec_GetNum ann_spec_GetNum (b, pos) = (let x0 : Int := (↑(List.length b) : Int);
I_spec_GetNum_3 b pos ((0 : Int), (0 : Int), PUnit.unit) ∧
  ∀ (y : Int × Int × PUnit),
    let x1 : Int := Int.fdiv (IntKind.wrap IntKind.i64 (↑(BitVec.toNat (BitVec.ofInt (IntKind.bits IntKind.i64) y.1 ||| BitVec.ofInt (IntKind.bits IntKind.i64) (IntKind.wrap IntKind.i64 (IntKind.wrap IntKind.i64 (↑(BitVec.toNat (BitVec.ofInt (IntKind.bits IntKind.i64) (IntKind.wrap IntKind.i64 (List.getD b (Int.toNat (IntKind.wrap IntKind.i64 (pos + y.2.1))) (0 : Int))) &&& BitVec.ofInt (IntKind.bits IntKind.i64) (127 : Int))) : Int) * (2 : Int) ^ min (Int.toNat (IntKind.wrap IntKind.u64 (IntKind.wrap IntKind.i64 ((7 : Int) * y.2.1)))) (IntKind.bits IntKind.i64))))) : Int)) ((2 : Int) ^ min (Int.toNat (1 : Int)) (IntKind.bits IntKind.i64));
    let x2 : Int := IntKind.wrap IntKind.i64 (pos + y.2.1);
    let x3 : Int := IntKind.wrap IntKind.i64 (↑(BitVec.toNat (BitVec.ofInt (IntKind.bits IntKind.i64) y.1 ||| BitVec.ofInt (IntKind.bits IntKind.i64) (IntKind.wrap IntKind.i64 (IntKind.wrap IntKind.i64 (↑(BitVec.toNat (BitVec.ofInt (IntKind.bits IntKind.i64) (IntKind.wrap IntKind.i64 (List.getD b (Int.toNat x2) (0 : Int))) &&& BitVec.ofInt (IntKind.bits IntKind.i64) (127 : Int))) : Int) * (2 : Int) ^ min (Int.toNat (IntKind.wrap IntKind.u64 (IntKind.wrap IntKind.i64 ((7 : Int) * y.2.1)))) (IntKind.bits IntKind.i64))))) : Int);
    let x4 : Bool := decide (y.2.1 > (0 : Int));
    let x5 : Int := IntKind.wrap IntKind.i64 (IntKind.wrap IntKind.i64 ((0 : Int) - x1) - (1 : Int));
    let x6 : Int := IntKind.wrap IntKind.i64 (List.getD b (Int.toNat x2) (0 : Int));
    I_spec_GetNum_3 b pos y → bif decide (y.2.1 < (5 : Int)) then bif decide (pos ≥ (0 : Int)) then bif decide (pos < x0) then bif decide (x2 < x0) then (0 : Int) ≤ x2 ∧ Int.toNat x2 < List.length b ∧ (0 : Int) ≤ IntKind.wrap IntKind.u64 (IntKind.wrap IntKind.i64 ((7 : Int) * y.2.1)) ∧ bif decide (x6 > (127 : Int)) then I_spec_GetNum_3 b pos (x3, IntKind.wrap IntKind.i64 (y.2.1 + (1 : Int)), PUnit.unit) ∧ μ_spec_GetNum_3 b pos (x3, IntKind.wrap IntKind.i64 (y.2.1 + (1 : Int)), PUnit.unit) < μ_spec_GetNum_3 b pos y else (0 : Int) ≤ (1 : Int) ∧ bif IntKind.wrap IntKind.i64 (↑(BitVec.toNat (BitVec.ofInt (IntKind.bits IntKind.i64) x3 &&& BitVec.ofInt (IntKind.bits IntKind.i64) (1 : Int))) : Int) == (1 : Int) then bif x4 then bif x6 == (0 : Int) then Lf [DV.one (Cell.lit (Value.int IntKind.i64 (0 : Int))), DV.one (Cell.lit (Value.int IntKind.i64 (0 : Int))), DV.one (Cell.lit (Value.bool false))] [DV.one (Cell.lit (Value.int IntKind.i64 (gNum b pos).1)), DV.one (Cell.lit (Value.int IntKind.i64 (gNum b pos).2.1)), DV.one (Cell.lit (Value.bool (gNum b pos).2.2))] else bif !decide ((-1000000000 : Int) ≤ x5 ∧ x5 ≤ (1000000000 : Int)) then Lf [DV.one (Cell.lit (Value.int IntKind.i64 (0 : Int))), DV.one (Cell.lit (Value.int IntKind.i64 (0 : Int))), DV.one (Cell.lit (Value.bool false))] [DV.one (Cell.lit (Value.int IntKind.i64 (gNum b pos).1)), DV.one (Cell.lit (Value.int IntKind.i64 (gNum b pos).2.1)), DV.one (Cell.lit (Value.bool (gNum b pos).2.2))] else Lf [DV.one (Cell.lit (Value.int IntKind.i64 x5)), DV.one (Cell.lit (Value.int IntKind.i64 (IntKind.wrap IntKind.i64 (x2 + (1 : Int))))), DV.one (Cell.lit (Value.bool true))] [DV.one (Cell.lit (Value.int IntKind.i64 (gNum b pos).1)), DV.one (Cell.lit (Value.int IntKind.i64 (gNum b pos).2.1)), DV.one (Cell.lit (Value.bool (gNum b pos).2.2))] else bif !decide ((-1000000000 : Int) ≤ x5 ∧ x5 ≤ (1000000000 : Int)) then Lf [DV.one (Cell.lit (Value.int IntKind.i64 (0 : Int))), DV.one (Cell.lit (Value.int IntKind.i64 (0 : Int))), DV.one (Cell.lit (Value.bool false))] [DV.one (Cell.lit (Value.int IntKind.i64 (gNum b pos).1)), DV.one (Cell.lit (Value.int IntKind.i64 (gNum b pos).2.1)), DV.one (Cell.lit (Value.bool (gNum b pos).2.2))] else Lf [DV.one (Cell.lit (Value.int IntKind.i64 x5)), DV.one (Cell.lit (Value.int IntKind.i64 (IntKind.wrap IntKind.i64 (x2 + (1 : Int))))), DV.one (Cell.lit (Value.bool true))] [DV.one (Cell.lit (Value.int IntKind.i64 (gNum b pos).1)), DV.one (Cell.lit (Value.int IntKind.i64 (gNum b pos).2.1)), DV.one (Cell.lit (Value.bool (gNum b pos).2.2))] else bif x4 then bif x6 == (0 : Int) then Lf [DV.one (Cell.lit (Value.int IntKind.i64 (0 : Int))), DV.one (Cell.lit (Value.int IntKind.i64 (0 : Int))), DV.one (Cell.lit (Value.bool false))] [DV.one (Cell.lit (Value.int IntKind.i64 (gNum b pos).1)), DV.one (Cell.lit (Value.int IntKind.i64 (gNum b pos).2.1)), DV.one (Cell.lit (Value.bool (gNum b pos).2.2))] else bif !decide ((-1000000000 : Int) ≤ x1 ∧ x1 ≤ (1000000000 : Int)) then Lf [DV.one (Cell.lit (Value.int IntKind.i64 (0 : Int))), DV.one (Cell.lit (Value.int IntKind.i64 (0 : Int))), DV.one (Cell.lit (Value.bool false))] [DV.one (Cell.lit (Value.int IntKind.i64 (gNum b pos).1)), DV.one (Cell.lit (Value.int IntKind.i64 (gNum b pos).2.1)), DV.one (Cell.lit (Value.bool (gNum b pos).2.2))] else Lf [DV.one (Cell.lit (Value.int IntKind.i64 x1)), DV.one (Cell.lit (Value.int IntKind.i64 (IntKind.wrap IntKind.i64 (x2 + (1 : Int))))), DV.one (Cell.lit (Value.bool true))] [DV.one (Cell.lit (Value.int IntKind.i64 (gNum b pos).1)), DV.one (Cell.lit (Value.int IntKind.i64 (gNum b pos).2.1)), DV.one (Cell.lit (Value.bool (gNum b pos).2.2))] else bif !decide ((-1000000000 : Int) ≤ x1 ∧ x1 ≤ (1000000000 : Int)) then Lf [DV.one (Cell.lit (Value.int IntKind.i64 (0 : Int))), DV.one (Cell.lit (Value.int IntKind.i64 (0 : Int))), DV.one (Cell.lit (Value.bool false))] [DV.one (Cell.lit (Value.int IntKind.i64 (gNum b pos).1)), DV.one (Cell.lit (Value.int IntKind.i64 (gNum b pos).2.1)), DV.one (Cell.lit (Value.bool (gNum b pos).2.2))] else Lf [DV.one (Cell.lit (Value.int IntKind.i64 x1)), DV.one (Cell.lit (Value.int IntKind.i64 (IntKind.wrap IntKind.i64 (x2 + (1 : Int))))), DV.one (Cell.lit (Value.bool true))] [DV.one (Cell.lit (Value.int IntKind.i64 (gNum b pos).1)), DV.one (Cell.lit (Value.int IntKind.i64 (gNum b pos).2.1)), DV.one (Cell.lit (Value.bool (gNum b pos).2.2))] else Lf [DV.one (Cell.lit (Value.int IntKind.i64 (0 : Int))), DV.one (Cell.lit (Value.int IntKind.i64 (0 : Int))), DV.one (Cell.lit (Value.bool false))] [DV.one (Cell.lit (Value.int IntKind.i64 (gNum b pos).1)), DV.one (Cell.lit (Value.int IntKind.i64 (gNum b pos).2.1)), DV.one (Cell.lit (Value.bool (gNum b pos).2.2))] else Lf [DV.one (Cell.lit (Value.int IntKind.i64 (0 : Int))), DV.one (Cell.lit (Value.int IntKind.i64 (0 : Int))), DV.one (Cell.lit (Value.bool false))] [DV.one (Cell.lit (Value.int IntKind.i64 (gNum b pos).1)), DV.one (Cell.lit (Value.int IntKind.i64 (gNum b pos).2.1)), DV.one (Cell.lit (Value.bool (gNum b pos).2.2))] else Lf [DV.one (Cell.lit (Value.int IntKind.i64 (0 : Int))), DV.one (Cell.lit (Value.int IntKind.i64 (0 : Int))), DV.one (Cell.lit (Value.bool false))] [DV.one (Cell.lit (Value.int IntKind.i64 (gNum b pos).1)), DV.one (Cell.lit (Value.int IntKind.i64 (gNum b pos).2.1)), DV.one (Cell.lit (Value.bool (gNum b pos).2.2))] else Lf [DV.one (Cell.lit (Value.int IntKind.i64 (0 : Int))), DV.one (Cell.lit (Value.int IntKind.i64 (0 : Int))), DV.one (Cell.lit (Value.bool false))] [DV.one (Cell.lit (Value.int IntKind.i64 (gNum b pos).1)), DV.one (Cell.lit (Value.int IntKind.i64 (gNum b pos).2.1)), DV.one (Cell.lit (Value.bool (gNum b pos).2.2))]) := by kernel_rfl
theorem ok_spec_GetNum : Holds EE (100, con_spec_GetNum) := by
  refine holds_of EE_ok Go.Proofs.Try.func100 con_spec_GetNum (by kernel_rfl) use_spec_GetNum (all_cons ok_spec_l1In all_nil) ann_spec_GetNum (fun x hp hb => ?_)
  obtain ⟨b, pos⟩ := x
  have hb_b : BdDV (U := UU) (.one (.sl .byte b)) := hb _ (List.mem_cons_self)
  have hl_b : b.length ≤ 9223372036854775807 := Bd.len hb_b
  have hb_pos : BdDV (U := UU) (.one (.lit (.int .i64 pos))) := hb _ (List.mem_cons_of_mem _ (List.mem_cons_self))
  have hl_pos := Bd.i64 hb_pos
  have hp0 : b.length ≤ 4294967296 := hp _ (List.mem_cons_self)
  clear hp hb
  rw [vc_spec_GetNum b pos]
  dsimp only
  have hby := bytes_of hb_b
  refine ⟨⟨by omega, by omega, by omega, by decide, fun h => by rw [gNum, if_pos h]; rfl⟩, ?_⟩
  rintro ⟨m, k, ⟨⟩⟩ ⟨g1, g2, g3, g4, g5⟩
  dsimp only at g1 g2 g3 g4 g5 ⊢
  have hE : gNum b pos = (0, 0, false) → Lf [.one (.lit (.int .i64 0)), .one (.lit (.int .i64 0)), .one (.lit (.bool false))] [.one (.lit (.int .i64 (gNum b pos).1)), .one (.lit (.int .i64 (gNum b pos).2.1)), .one (.lit (.bool (gNum b pos).2.2))] := fun h => by rw [h]; exact Lf_rfl _
  refine if_cond (fun h5 => ?_) (fun h5 => hE ?_)
  rotate_left
  · have h5 := of_decide_eq_false h5
    by_cases h0 : 0 ≤ pos
    · rw [← g5 h0, show (5 - k).toNat = 0 by omega]; rfl
    · exact gNum_neg h0
  have h5 := of_decide_eq_true h5
  refine if_cond (fun hpos => ?_) (fun hpos => hE (gNum_neg (by have := of_decide_eq_false hpos; omega)))
  have hpos := of_decide_eq_true hpos
  have g5 := g5 hpos
  refine if_cond (fun hl => ?_) (fun hl => hE (by have := of_decide_eq_false hl; rw [← g5, gLoop_end (by omega)]))
  have hl := of_decide_eq_true hl
  rw [wrap_i64 (n := pos + k) (by omega) (by omega)]
  refine if_cond (fun hlt => ?_) (fun hlt => hE (by have := of_decide_eq_false hlt; rw [← g5, gLoop_end (by omega)]))
  have hlt := of_decide_eq_true hlt
  have e : (5 - k).toNat = (4 - k).toNat + 1 := by omega
  rw [e, gLoop, if_pos hlt] at g5
  have hc := hby _ (getD_mem b (0 : Int) (i := pos + k) (by omega) hlt)
  generalize List.getD b (pos + k).toNat 0 = c at g5 hc ⊢
  have hw : IntKind.wrap .i64 c = c := wrap_i64 (by omega) (by omega)
  obtain ⟨o1, o2, o3, o4⟩ := orStep (k := k) (m := m) (c := c) (by omega) ⟨g3, g4⟩ hc
  rw [hw, o1]
  generalize m + c % 128 * ((2 ^ (7 * k).toNat : Nat) : Int) = m2 at g5 o2 o3 o4 ⊢
  have hsh : Int.fdiv m2 ((2 : Int) ^ min (Int.toNat (1 : Int)) (IntKind.bits .i64)) = m2 / 2 := shr_i64 o2 1 (by omega)
  rw [hsh, and1 o2 (by omega), wrap_i64 (n := 7 * k) (by omega) (by omega), u64_small (n := 7 * k) (by omega) (by omega), wrap_i64 (n := k + 1) (by omega) (by omega), wrap_i64 (n := pos + k + 1) (by omega) (by omega), wrap_i64 (n := 0 - m2 / 2) (by omega) (by omega), wrap_i64 (n := 0 - m2 / 2 - 1) (by omega) (by omega)]
  refine ⟨by omega, by omega, by omega, if_cond (fun hbig => ?_) (fun hbig => ?_)⟩
  · have hbig := of_decide_eq_true hbig
    rw [if_pos (by omega)] at g5
    exact ⟨⟨by omega, by omega, o2, o3, fun _ => by rw [show (5 - (k + 1)).toNat = (4 - k).toNat by omega]; exact g5⟩, by simp only [μ_spec_GetNum_3]; omega⟩
  · have hbig := of_decide_eq_false hbig
    rw [if_neg (by omega)] at g5
    have hF : (0 < k ∧ c = 0) ∨ ¬ numMax (unzig m2) → gNum b pos = (0, 0, false) := fun h => by rw [← g5, if_pos h]
    have hT : ∀ n : Int, unzig m2 = n → ¬ (0 < k ∧ c = 0) → numMax n → Lf [.one (.lit (.int .i64 n)), .one (.lit (.int .i64 (pos + k + 1))), .one (.lit (.bool true))] [.one (.lit (.int .i64 (gNum b pos).1)), .one (.lit (.int .i64 (gNum b pos).2.1)), .one (.lit (.bool (gNum b pos).2.2))] := fun n hn h1 h2 => by
      rw [← g5, if_neg (by rw [hn]; exact not_or.2 ⟨h1, not_not_intro h2⟩), hn]; exact Lf_rfl _
    refine ⟨by omega, if_cond (fun hodd => ?_) (fun hodd => ?_)⟩
    · have hodd := eq_of_beq hodd
      have hn : unzig m2 = 0 - m2 / 2 - 1 := by rw [unzig, if_pos hodd]; omega
      refine if_cond (fun hk => if_cond (fun hz => hE (hF (.inl ⟨of_decide_eq_true hk, eq_of_beq hz⟩))) (fun hz => if_cond (fun hr => hE (hF (.inr ?_))) (fun hr => hT _ hn ?_ ?_))) (fun hk => if_cond (fun hr => hE (hF (.inr ?_))) (fun hr => hT _ hn ?_ ?_))
      · rw [hn]; intro hm; unfold numMax at hm; simp at hr; omega
      · intro hh; rw [hh.2] at hz; simp at hz
      · simpa [numMax] using hr
      · rw [hn]; intro hm; unfold numMax at hm; simp at hr; omega
      · intro hh; exact absurd hh.1 (of_decide_eq_false hk)
      · simpa [numMax] using hr
    · have hodd : ¬ m2 % 2 = 1 := by simpa using hodd
      have hn : unzig m2 = m2 / 2 := by rw [unzig, if_neg hodd]
      refine if_cond (fun hk => if_cond (fun hz => hE (hF (.inl ⟨of_decide_eq_true hk, eq_of_beq hz⟩))) (fun hz => if_cond (fun hr => hE (hF (.inr ?_))) (fun hr => hT _ hn ?_ ?_))) (fun hk => if_cond (fun hr => hE (hF (.inr ?_))) (fun hr => hT _ hn ?_ ?_))
      · rw [hn]; intro hm; unfold numMax at hm; simp at hr; omega
      · intro hh; rw [hh.2] at hz; simp at hz
      · simpa [numMax] using hr
      · rw [hn]; intro hm; unfold numMax at hm; simp at hr; omega
      · intro hh; exact absurd hh.1 (of_decide_eq_false hk)
      · simpa [numMax] using hr
def con_impl_GetNum : Con UU where
  α := (List Int) × Int
  md := [.ro, .ro]
  of := fun | [.one (.sl .byte a0), .one (.lit (.int .i64 a1))] => some (a0, a1) | _ => none
  ds := fun (b, pos) => [.one (.sl .byte b), .one (.lit (.int .i64 pos))]
  pre := fun (b, pos) => [b.length ≤ 4294967296]
  res := fun (b, pos) => ⟨[.one (.lit (.int .i64 ((gNum b pos).1))), .one (.lit (.int .i64 ((gNum b pos).2.1))), .one (.lit (.bool ((gNum b pos).2.2)))], true, []⟩
  law := by intro l x h; (try simp only at h); split at h <;> cases h; rfl
def I_impl_GetNum_5 (b : (List Int)) (pos : Int) : Int × Int × Unit → Prop := fun (m, k, _) => 0 ≤ k ∧ k ≤ 5 ∧ 0 ≤ m ∧ m < (2 ^ (7 * k).toNat : Nat) ∧ gLoop b pos (5 - k).toNat k m = gNum b pos
def μ_impl_GetNum_5 (b : (List Int)) (pos : Int) : Int × Int × Unit → Nat := fun (m, k, _) => (5 - k).toNat
def ann_impl_GetNum : con_impl_GetNum.α → Nat → Option (Ann UU) := fun (b, pos) => annL [(5, annOf [.slot 7 (7, 1024) (.lit (.int .i64)), .slot 8 (8, 1024) (.lit (.int .i64))] (fun _ => I_impl_GetNum_5 b pos) (μ_impl_GetNum_5 b pos))]
def use_impl_GetNum : List (FuncId × Con UU) := []
theorem vc_impl_GetNum (b : (List Int)) (pos : Int) : goal EE use_impl_GetNum Go.Proofs.Try.f95 con_impl_GetNum ann_impl_GetNum (b, pos) = (let x0 : Int := (-1000000000 : Int);
bif decide (pos < (0 : Int)) then Lf [DV.one (Cell.lit (Value.int IntKind.i64 (0 : Int))), DV.one (Cell.lit (Value.int IntKind.i64 (0 : Int))), DV.one (Cell.lit (Value.bool false))] [DV.one (Cell.lit (Value.int IntKind.i64 (gNum b pos).1)), DV.one (Cell.lit (Value.int IntKind.i64 (gNum b pos).2.1)), DV.one (Cell.lit (Value.bool (gNum b pos).2.2))]
else
  I_impl_GetNum_5 b pos ((0 : Int), (0 : Int), PUnit.unit) ∧
    ∀ (y : Int × Int × PUnit),
      let x1 : Int := IntKind.wrap IntKind.i64 (Int.tdiv (IntKind.wrap IntKind.i64 (↑(BitVec.toNat (BitVec.ofInt (IntKind.bits IntKind.i64) y.1 ||| BitVec.ofInt (IntKind.bits IntKind.i64) (IntKind.wrap IntKind.i64 (IntKind.wrap IntKind.i64 (↑(BitVec.toNat (BitVec.ofInt (IntKind.bits IntKind.i64) (IntKind.wrap IntKind.i64 (List.getD b (Int.toNat (IntKind.wrap IntKind.i64 (pos + y.2.1))) (0 : Int))) &&& BitVec.ofInt (IntKind.bits IntKind.i64) (127 : Int))) : Int) * (2 : Int) ^ min (Int.toNat (IntKind.wrap IntKind.u64 (IntKind.wrap IntKind.i64 ((7 : Int) * y.2.1)))) (IntKind.bits IntKind.i64))))) : Int)) (2 : Int));
      let x2 : Int := IntKind.wrap IntKind.i64 (↑(BitVec.toNat (BitVec.ofInt (IntKind.bits IntKind.i64) y.1 ||| BitVec.ofInt (IntKind.bits IntKind.i64) (IntKind.wrap IntKind.i64 (IntKind.wrap IntKind.i64 (↑(BitVec.toNat (BitVec.ofInt (IntKind.bits IntKind.i64) (IntKind.wrap IntKind.i64 (List.getD b (Int.toNat (IntKind.wrap IntKind.i64 (pos + y.2.1))) (0 : Int))) &&& BitVec.ofInt (IntKind.bits IntKind.i64) (127 : Int))) : Int) * (2 : Int) ^ min (Int.toNat (IntKind.wrap IntKind.u64 (IntKind.wrap IntKind.i64 ((7 : Int) * y.2.1)))) (IntKind.bits IntKind.i64))))) : Int);
      let x3 : Int := IntKind.wrap IntKind.i64 (List.getD b (Int.toNat (IntKind.wrap IntKind.i64 (pos + y.2.1))) (0 : Int));
      let x4 : Int := IntKind.wrap IntKind.i64 (pos + y.2.1);
      let x5 : Bool := decide (y.2.1 > (0 : Int));
      let x6 : Int := IntKind.wrap IntKind.i64 (IntKind.wrap IntKind.i64 ((0 : Int) - x1) - (1 : Int));
      let x7 : Int := IntKind.wrap IntKind.i64 ((↑(List.length b) : Int) - y.2.1);
      I_impl_GetNum_5 b pos y → bif decide (y.2.1 < (5 : Int)) then bif decide (pos < x7) then (0 : Int) ≤ x4 ∧ Int.toNat x4 < List.length b ∧ (0 : Int) ≤ IntKind.wrap IntKind.u64 (IntKind.wrap IntKind.i64 ((7 : Int) * y.2.1)) ∧ bif decide (x3 ≥ (128 : Int)) then I_impl_GetNum_5 b pos (x2, IntKind.wrap IntKind.i64 (y.2.1 + (1 : Int)), PUnit.unit) ∧ μ_impl_GetNum_5 b pos (x2, IntKind.wrap IntKind.i64 (y.2.1 + (1 : Int)), PUnit.unit) < μ_impl_GetNum_5 b pos y else (2 : Int) ≠ (0 : Int) ∧ (2 : Int) ≠ (0 : Int) ∧ bif Int.tmod x2 (2 : Int) == (1 : Int) then bif x3 == (0 : Int) then bif x5 then Lf [DV.one (Cell.lit (Value.int IntKind.i64 (0 : Int))), DV.one (Cell.lit (Value.int IntKind.i64 (0 : Int))), DV.one (Cell.lit (Value.bool false))] [DV.one (Cell.lit (Value.int IntKind.i64 (gNum b pos).1)), DV.one (Cell.lit (Value.int IntKind.i64 (gNum b pos).2.1)), DV.one (Cell.lit (Value.bool (gNum b pos).2.2))] else bif decide (x6 < x0) then Lf [DV.one (Cell.lit (Value.int IntKind.i64 (0 : Int))), DV.one (Cell.lit (Value.int IntKind.i64 (0 : Int))), DV.one (Cell.lit (Value.bool false))] [DV.one (Cell.lit (Value.int IntKind.i64 (gNum b pos).1)), DV.one (Cell.lit (Value.int IntKind.i64 (gNum b pos).2.1)), DV.one (Cell.lit (Value.bool (gNum b pos).2.2))] else bif decide (x6 > (1000000000 : Int)) then Lf [DV.one (Cell.lit (Value.int IntKind.i64 (0 : Int))), DV.one (Cell.lit (Value.int IntKind.i64 (0 : Int))), DV.one (Cell.lit (Value.bool false))] [DV.one (Cell.lit (Value.int IntKind.i64 (gNum b pos).1)), DV.one (Cell.lit (Value.int IntKind.i64 (gNum b pos).2.1)), DV.one (Cell.lit (Value.bool (gNum b pos).2.2))] else Lf [DV.one (Cell.lit (Value.int IntKind.i64 x6)), DV.one (Cell.lit (Value.int IntKind.i64 (IntKind.wrap IntKind.i64 (x4 + (1 : Int))))), DV.one (Cell.lit (Value.bool true))] [DV.one (Cell.lit (Value.int IntKind.i64 (gNum b pos).1)), DV.one (Cell.lit (Value.int IntKind.i64 (gNum b pos).2.1)), DV.one (Cell.lit (Value.bool (gNum b pos).2.2))] else bif decide (x6 < x0) then Lf [DV.one (Cell.lit (Value.int IntKind.i64 (0 : Int))), DV.one (Cell.lit (Value.int IntKind.i64 (0 : Int))), DV.one (Cell.lit (Value.bool false))] [DV.one (Cell.lit (Value.int IntKind.i64 (gNum b pos).1)), DV.one (Cell.lit (Value.int IntKind.i64 (gNum b pos).2.1)), DV.one (Cell.lit (Value.bool (gNum b pos).2.2))] else bif decide (x6 > (1000000000 : Int)) then Lf [DV.one (Cell.lit (Value.int IntKind.i64 (0 : Int))), DV.one (Cell.lit (Value.int IntKind.i64 (0 : Int))), DV.one (Cell.lit (Value.bool false))] [DV.one (Cell.lit (Value.int IntKind.i64 (gNum b pos).1)), DV.one (Cell.lit (Value.int IntKind.i64 (gNum b pos).2.1)), DV.one (Cell.lit (Value.bool (gNum b pos).2.2))] else Lf [DV.one (Cell.lit (Value.int IntKind.i64 x6)), DV.one (Cell.lit (Value.int IntKind.i64 (IntKind.wrap IntKind.i64 (x4 + (1 : Int))))), DV.one (Cell.lit (Value.bool true))] [DV.one (Cell.lit (Value.int IntKind.i64 (gNum b pos).1)), DV.one (Cell.lit (Value.int IntKind.i64 (gNum b pos).2.1)), DV.one (Cell.lit (Value.bool (gNum b pos).2.2))] else bif x3 == (0 : Int) then bif x5 then Lf [DV.one (Cell.lit (Value.int IntKind.i64 (0 : Int))), DV.one (Cell.lit (Value.int IntKind.i64 (0 : Int))), DV.one (Cell.lit (Value.bool false))] [DV.one (Cell.lit (Value.int IntKind.i64 (gNum b pos).1)), DV.one (Cell.lit (Value.int IntKind.i64 (gNum b pos).2.1)), DV.one (Cell.lit (Value.bool (gNum b pos).2.2))] else bif decide (x1 < x0) then Lf [DV.one (Cell.lit (Value.int IntKind.i64 (0 : Int))), DV.one (Cell.lit (Value.int IntKind.i64 (0 : Int))), DV.one (Cell.lit (Value.bool false))] [DV.one (Cell.lit (Value.int IntKind.i64 (gNum b pos).1)), DV.one (Cell.lit (Value.int IntKind.i64 (gNum b pos).2.1)), DV.one (Cell.lit (Value.bool (gNum b pos).2.2))] else bif decide (x1 > (1000000000 : Int)) then Lf [DV.one (Cell.lit (Value.int IntKind.i64 (0 : Int))), DV.one (Cell.lit (Value.int IntKind.i64 (0 : Int))), DV.one (Cell.lit (Value.bool false))] [DV.one (Cell.lit (Value.int IntKind.i64 (gNum b pos).1)), DV.one (Cell.lit (Value.int IntKind.i64 (gNum b pos).2.1)), DV.one (Cell.lit (Value.bool (gNum b pos).2.2))] else Lf [DV.one (Cell.lit (Value.int IntKind.i64 x1)), DV.one (Cell.lit (Value.int IntKind.i64 (IntKind.wrap IntKind.i64 (x4 + (1 : Int))))), DV.one (Cell.lit (Value.bool true))] [DV.one (Cell.lit (Value.int IntKind.i64 (gNum b pos).1)), DV.one (Cell.lit (Value.int IntKind.i64 (gNum b pos).2.1)), DV.one (Cell.lit (Value.bool (gNum b pos).2.2))] else bif decide (x1 < x0) then Lf [DV.one (Cell.lit (Value.int IntKind.i64 (0 : Int))), DV.one (Cell.lit (Value.int IntKind.i64 (0 : Int))), DV.one (Cell.lit (Value.bool false))] [DV.one (Cell.lit (Value.int IntKind.i64 (gNum b pos).1)), DV.one (Cell.lit (Value.int IntKind.i64 (gNum b pos).2.1)), DV.one (Cell.lit (Value.bool (gNum b pos).2.2))] else bif decide (x1 > (1000000000 : Int)) then Lf [DV.one (Cell.lit (Value.int IntKind.i64 (0 : Int))), DV.one (Cell.lit (Value.int IntKind.i64 (0 : Int))), DV.one (Cell.lit (Value.bool false))] [DV.one (Cell.lit (Value.int IntKind.i64 (gNum b pos).1)), DV.one (Cell.lit (Value.int IntKind.i64 (gNum b pos).2.1)), DV.one (Cell.lit (Value.bool (gNum b pos).2.2))] else Lf [DV.one (Cell.lit (Value.int IntKind.i64 x1)), DV.one (Cell.lit (Value.int IntKind.i64 (IntKind.wrap IntKind.i64 (x4 + (1 : Int))))), DV.one (Cell.lit (Value.bool true))] [DV.one (Cell.lit (Value.int IntKind.i64 (gNum b pos).1)), DV.one (Cell.lit (Value.int IntKind.i64 (gNum b pos).2.1)), DV.one (Cell.lit (Value.bool (gNum b pos).2.2))] else Lf [DV.one (Cell.lit (Value.int IntKind.i64 (0 : Int))), DV.one (Cell.lit (Value.int IntKind.i64 (0 : Int))), DV.one (Cell.lit (Value.bool false))] [DV.one (Cell.lit (Value.int IntKind.i64 (gNum b pos).1)), DV.one (Cell.lit (Value.int IntKind.i64 (gNum b pos).2.1)), DV.one (Cell.lit (Value.bool (gNum b pos).2.2))] else Lf [DV.one (Cell.lit (Value.int IntKind.i64 (0 : Int))), DV.one (Cell.lit (Value.int IntKind.i64 (0 : Int))), DV.one (Cell.lit (Value.bool false))] [DV.one (Cell.lit (Value.int IntKind.i64 (gNum b pos).1)), DV.one (Cell.lit (Value.int IntKind.i64 (gNum b pos).2.1)), DV.one (Cell.lit (Value.bool (gNum b pos).2.2))]) := by kernel_rfl
theorem ok_impl_GetNum : Holds EE (95, con_impl_GetNum) := by
  refine holds_of EE_ok Go.Proofs.Try.func95 con_impl_GetNum (by kernel_rfl) use_impl_GetNum all_nil ann_impl_GetNum (fun x hp hb => ?_)
  obtain ⟨b, pos⟩ := x
  have hb_b : BdDV (U := UU) (.one (.sl .byte b)) := hb _ (List.mem_cons_self)
  have hl_b : b.length ≤ 9223372036854775807 := Bd.len hb_b
  have hb_pos : BdDV (U := UU) (.one (.lit (.int .i64 pos))) := hb _ (List.mem_cons_of_mem _ (List.mem_cons_self))
  have hl_pos := Bd.i64 hb_pos
  have hp0 : b.length ≤ 4294967296 := hp _ (List.mem_cons_self)
  clear hp hb
  rw [vc_impl_GetNum b pos]
  dsimp only
  have hby := bytes_of hb_b
  have hE : gNum b pos = (0, 0, false) → Lf [.one (.lit (.int .i64 0)), .one (.lit (.int .i64 0)), .one (.lit (.bool false))] [.one (.lit (.int .i64 (gNum b pos).1)), .one (.lit (.int .i64 (gNum b pos).2.1)), .one (.lit (.bool (gNum b pos).2.2))] := fun h => by rw [h]; exact Lf_rfl _
  refine if_cond (fun hpos => hE (gNum_neg (by have := of_decide_eq_true hpos; omega))) (fun hpos => ?_)
  have hpos := of_decide_eq_false hpos
  refine ⟨⟨by omega, by omega, by omega, by decide, by rw [gNum, if_pos (by omega)]; rfl⟩, ?_⟩
  rintro ⟨m, k, ⟨⟩⟩ ⟨g1, g2, g3, g4, g5⟩
  dsimp only at g1 g2 g3 g4 g5 ⊢
  refine if_cond (fun h5 => ?_) (fun h5 => hE ?_)
  rotate_left
  · have h5 := of_decide_eq_false h5
    rw [← g5, show (5 - k).toNat = 0 by omega]; rfl
  have h5 := of_decide_eq_true h5
  rw [wrap_i64 (n := (b.length : Int) - k) (by omega) (by omega)]
  refine if_cond (fun hl => ?_) (fun hl => hE (by have := of_decide_eq_false hl; rw [← g5, gLoop_end (by omega)]))
  have hlt := of_decide_eq_true hl
  have hlt : pos + k < b.length := by omega
  rw [wrap_i64 (n := pos + k) (by omega) (by omega)]
  have e : (5 - k).toNat = (4 - k).toNat + 1 := by omega
  rw [e, gLoop, if_pos hlt] at g5
  have hc := hby _ (getD_mem b (0 : Int) (i := pos + k) (by omega) hlt)
  generalize List.getD b (pos + k).toNat 0 = c at g5 hc ⊢
  have hw : IntKind.wrap .i64 c = c := wrap_i64 (by omega) (by omega)
  obtain ⟨o1, o2, o3, o4⟩ := orStep (k := k) (m := m) (c := c) (by omega) ⟨g3, g4⟩ hc
  rw [hw, o1]
  generalize m + c % 128 * ((2 ^ (7 * k).toNat : Nat) : Int) = m2 at g5 o2 o3 o4 ⊢
  have hq : Int.tdiv m2 2 = m2 / 2 := Int.tdiv_eq_ediv_of_nonneg o2
  have hr : Int.tmod m2 2 = m2 % 2 := Int.tmod_eq_emod_of_nonneg o2
  rw [hq, hr, wrap_i64 (n := 7 * k) (by omega) (by omega), u64_small (n := 7 * k) (by omega) (by omega), wrap_i64 (n := k + 1) (by omega) (by omega), wrap_i64 (n := pos + k + 1) (by omega) (by omega), wrap_i64 (n := m2 / 2) (by omega) (by omega), wrap_i64 (n := 0 - m2 / 2) (by omega) (by omega), wrap_i64 (n := 0 - m2 / 2 - 1) (by omega) (by omega)]
  refine ⟨by omega, by omega, by omega, if_cond (fun hbig => ?_) (fun hbig => ?_)⟩
  · have hbig := of_decide_eq_true hbig
    rw [if_pos (by omega)] at g5
    exact ⟨⟨by omega, by omega, o2, o3, by rw [show (5 - (k + 1)).toNat = (4 - k).toNat by omega]; exact g5⟩, by simp only [μ_impl_GetNum_5]; omega⟩
  · have hbig := of_decide_eq_false hbig
    rw [if_neg (by omega)] at g5
    have hF : (0 < k ∧ c = 0) ∨ ¬ numMax (unzig m2) → gNum b pos = (0, 0, false) := fun h => by rw [← g5, if_pos h]
    have hT : ∀ n : Int, unzig m2 = n → ¬ (0 < k ∧ c = 0) → numMax n → Lf [.one (.lit (.int .i64 n)), .one (.lit (.int .i64 (pos + k + 1))), .one (.lit (.bool true))] [.one (.lit (.int .i64 (gNum b pos).1)), .one (.lit (.int .i64 (gNum b pos).2.1)), .one (.lit (.bool (gNum b pos).2.2))] := fun n hn h1 h2 => by
      rw [← g5, if_neg (by rw [hn]; exact not_or.2 ⟨h1, not_not_intro h2⟩), hn]; exact Lf_rfl _
    have hR : ∀ n : Int, unzig m2 = n → ¬ (0 < k ∧ c = 0) → (bif decide (n < -1000000000) then Lf [.one (.lit (.int .i64 0)), .one (.lit (.int .i64 0)), .one (.lit (.bool false))] [.one (.lit (.int .i64 (gNum b pos).1)), .one (.lit (.int .i64 (gNum b pos).2.1)), .one (.lit (.bool (gNum b pos).2.2))] else bif decide (n > 1000000000) then Lf [.one (.lit (.int .i64 0)), .one (.lit (.int .i64 0)), .one (.lit (.bool false))] [.one (.lit (.int .i64 (gNum b pos).1)), .one (.lit (.int .i64 (gNum b pos).2.1)), .one (.lit (.bool (gNum b pos).2.2))] else Lf [.one (.lit (.int .i64 n)), .one (.lit (.int .i64 (pos + k + 1))), .one (.lit (.bool true))] [.one (.lit (.int .i64 (gNum b pos).1)), .one (.lit (.int .i64 (gNum b pos).2.1)), .one (.lit (.bool (gNum b pos).2.2))]) := fun n hn h1 =>
      if_cond (fun ha => hE (hF (.inr (by rw [hn]; intro hm; have := of_decide_eq_true ha; unfold numMax at hm; omega)))) (fun ha => if_cond (fun hb => hE (hF (.inr (by rw [hn]; intro hm; have := of_decide_eq_true hb; unfold numMax at hm; omega)))) (fun hb => hT n hn h1 (by have := of_decide_eq_false ha; have := of_decide_eq_false hb; unfold numMax; omega)))
    refine ⟨by decide, by decide, if_cond (fun hodd => ?_) (fun hodd => ?_)⟩
    · have hodd := eq_of_beq hodd
      have hn : unzig m2 = 0 - m2 / 2 - 1 := by rw [unzig, if_pos hodd]; omega
      exact if_cond (fun hz => if_cond (fun hk => hE (hF (.inl ⟨of_decide_eq_true hk, eq_of_beq hz⟩))) (fun hk => hR _ hn (fun hh => absurd hh.1 (of_decide_eq_false hk)))) (fun hz => hR _ hn (fun hh => by rw [hh.2] at hz; simp at hz))
    · have hodd : ¬ m2 % 2 = 1 := by simpa using hodd
      have hn : unzig m2 = m2 / 2 := by rw [unzig, if_neg hodd]
      exact if_cond (fun hz => if_cond (fun hk => hE (hF (.inl ⟨of_decide_eq_true hk, eq_of_beq hz⟩))) (fun hk => hR _ hn (fun hh => absurd hh.1 (of_decide_eq_false hk)))) (fun hz => hR _ hn (fun hh => by rw [hh.2] at hz; simp at hz))
def sliceI (b : List Int) (i n : Int) : List Int := List.drop i.toNat (List.take (i + n).toNat b)
def txtOf (l : List Int) : ByteArray := strOfNums (l.map fun x => x)
def gText (b : List Int) (pos : Int) : ByteArray × Int × Bool :=
  if (gNum b pos).2.2 = true ∧ 0 ≤ (gNum b pos).1 ∧ (gNum b pos).1 ≤ b.length - (gNum b pos).2.1 then (txtOf (sliceI b (gNum b pos).2.1 (gNum b pos).1), (gNum b pos).2.1 + (gNum b pos).1, true) else (noBytes, 0, false)
theorem vi_pos (m : Nat) : 0 < (vi m).length := by rw [vi]; split <;> simp
theorem numB_pos (n : Int) : 0 < (numB n).length := vi_pos _
theorem gNum_ok {b : List Int} {pos : Int} (hb : bytesOk b) (h : (gNum b pos).2.2 = true) : 0 ≤ pos ∧ b.drop pos.toNat = numB (gNum b pos).1 ++ b.drop (gNum b pos).2.1.toNat ∧ pos < (gNum b pos).2.1 ∧ (gNum b pos).2.1 ≤ b.length ∧ numMax (gNum b pos).1 :=
  gNum_canon hb (by rw [← h])
theorem strOfNums_size (l : List Int) : (strOfNums l).size = l.length := by simp [strOfNums, ByteArray.size]
theorem txtI_of {l : List Int} (h : bytesOk l) : txtI (txtOf l) = l := by
  simp only [txtI, txtOf, strOfNums, bs, List.map_map]
  refine (List.map_congr_left fun x hx => ?_).trans (List.map_id l)
  have := h x hx
  simp only [Function.comp, id]
  rw [UInt8.toNat_ofNat']
  omega
theorem txtOf_txtI (s : ByteArray) : txtOf (txtI s) = s := by
  apply ByteArray.ext
  have e : ((fun (n : Int) => UInt8.ofNat n.toNat) ∘ (fun x => x) ∘ fun (b : UInt8) => ((b.toNat : Nat) : Int)) = id := by
    funext b
    simp
  simp only [txtOf, txtI, strOfNums, bs, List.map_map]
  rw [e, List.map_id]
theorem slice_len {b : List Int} {i n : Int} (h0 : 0 ≤ i) (h1 : 0 ≤ n) (h2 : i + n ≤ b.length) : (sliceI b i n).length = n.toNat := by
  simp only [sliceI, List.length_drop, List.length_take]; omega
theorem slice_app {b : List Int} {i n : Int} (h0 : 0 ≤ i) (h1 : 0 ≤ n) (h2 : i + n ≤ b.length) : b.drop i.toNat = sliceI b i n ++ b.drop (i + n).toNat := by
  have e : (i + n).toNat = i.toNat + n.toNat := by omega
  simp only [sliceI]
  rw [e, ← List.drop_drop]
  conv => lhs; rw [← List.take_append_drop n.toNat (b.drop i.toNat)]
  rw [List.drop_take]
  congr 2
  omega
theorem gText_canon {b : List Int} {pos : Int} (hb : bytesOk b) (h : (gText b pos).2.2 = true) : 0 ≤ pos ∧ b.drop pos.toNat = textB (gText b pos).1 ++ b.drop (gText b pos).2.1.toNat ∧ pos < (gText b pos).2.1 ∧ (gText b pos).2.1 ≤ b.length ∧ ((gText b pos).1.size : Int) ≤ 1000000000 := by
  by_cases hc : (gNum b pos).2.2 = true ∧ 0 ≤ (gNum b pos).1 ∧ (gNum b pos).1 ≤ b.length - (gNum b pos).2.1
  · have e : gText b pos = (txtOf (sliceI b (gNum b pos).2.1 (gNum b pos).1), (gNum b pos).2.1 + (gNum b pos).1, true) := if_pos hc
    rw [e]
    obtain ⟨c1, c2, c3⟩ := hc
    obtain ⟨d1, d2, d3, d4, d5⟩ := gNum_ok hb c1
    generalize (gNum b pos).1 = n at *
    generalize (gNum b pos).2.1 = nx at *
    have hl := slice_len (b := b) (i := nx) (n := n) (by omega) c2 (by omega)
    have hsb : bytesOk (sliceI b nx n) := fun x hx => hb x (List.mem_of_mem_take (List.mem_of_mem_drop hx))
    have hsz : (txtOf (sliceI b nx n)).size = n.toNat := by rw [txtOf, strOfNums_size, List.length_map, hl]
    unfold numMax at d5
    refine ⟨d1, ?_, by dsimp only; omega, by dsimp only; omega, by dsimp only; omega⟩
    dsimp only
    rw [d2, textB, txtI_of hsb, hsz, List.append_assoc, ← slice_app (by omega) c2 (by omega)]
    have : ((n.toNat : Nat) : Int) = n := by omega
    rw [this]
  · have e : gText b pos = (noBytes, 0, false) := if_neg hc
    rw [e] at h; simp at h
theorem gText_round {b : List Int} {pos : Int} {s : ByteArray} {r : List Int} (hb : bytesOk b) (h0 : 0 ≤ pos) (hs : (s.size : Int) ≤ 1000000000) (hd : b.drop pos.toNat = textB s ++ r) : gText b pos = (s, pos + (textB s).length, true) := by
  rw [textB, List.append_assoc] at hd
  have hn := gNum_round h0 (n := s.size) (by unfold numMax; omega) hd
  have hd2 := drop_app h0 hd
  have hlen := congrArg List.length hd
  simp only [List.length_drop, List.length_append, txtI_len] at hlen
  have hpos := numB_len s.size
  have hne := numB_pos (s.size : Int)
  have hc : (gNum b pos).2.2 = true ∧ 0 ≤ (gNum b pos).1 ∧ (gNum b pos).1 ≤ b.length - (gNum b pos).2.1 := by rw [hn]; refine ⟨rfl, by dsimp only; omega, by dsimp only; omega⟩
  rw [gText, if_pos hc, hn]
  dsimp only
  have hsl : sliceI b (pos + (numB s.size).length) s.size = txtI s := by
    have ha := slice_app (b := b) (i := pos + (numB (s.size : Int)).length) (n := s.size) (by omega) (by omega) (by omega)
    rw [hd2] at ha
    have hl := slice_len (b := b) (i := pos + (numB (s.size : Int)).length) (n := s.size) (by omega) (by omega) (by omega)
    exact (List.append_inj_left ha (by rw [hl, txtI_len]; omega)).symm
  rw [hsl, txtOf_txtI, textB, List.length_append, txtI_len]
  simp only [Prod.mk.injEq, true_and, and_true]
  omega
def con_spec_GetText : Con UU where
  α := (List Int) × Int
  md := [.ro, .ro]
  of := fun | [.one (.sl .byte a0), .one (.lit (.int .i64 a1))] => some (a0, a1) | _ => none
  ds := fun (b, pos) => [.one (.sl .byte b), .one (.lit (.int .i64 pos))]
  pre := fun (b, pos) => [b.length ≤ 4294967296]
  res := fun (b, pos) => ⟨[.one (.lit (.string ((gText b pos).1))), .one (.lit (.int .i64 ((gText b pos).2.1))), .one (.lit (.bool ((gText b pos).2.2)))], true, []⟩
  law := by intro l x h; (try simp only at h); split at h <;> cases h; rfl
def ann_spec_GetText : con_spec_GetText.α → Nat → Option (Ann UU) := fun (b, pos) => annL []
def use_spec_GetText : List (FuncId × Con UU) := [(100, con_spec_GetNum)]
theorem vc_spec_GetText (b : (List Int)) (pos : Int) : goal EE use_spec_GetText Go.Proofs.Try.f101 con_spec_GetText ann_spec_GetText (b, pos) = (let x0 : Int := Option.getD (some (IntKind.wrap IntKind.i64 ((gNum b pos).2.1 + (gNum b pos).1))) (↑(List.length b) : Int);
let x1 : Int := Option.getD (some (gNum b pos).2.1) (0 : Int);
let x2 : Int := IntKind.wrap IntKind.i64 ((↑(List.length b) : Int) - (gNum b pos).2.1);
List.length b ≤ (4294967296 : Nat) ∧ bif !(gNum b pos).2.2 then Lf [DV.one (Cell.lit (Value.string { data := #[] : ByteArray })), DV.one (Cell.lit (Value.int IntKind.i64 (0 : Int))), DV.one (Cell.lit (Value.bool false))] [DV.one (Cell.lit (Value.string (gText b pos).1)), DV.one (Cell.lit (Value.int IntKind.i64 (gText b pos).2.1)), DV.one (Cell.lit (Value.bool (gText b pos).2.2))] else bif decide ((gNum b pos).1 < (0 : Int)) then Lf [DV.one (Cell.lit (Value.string { data := #[] : ByteArray })), DV.one (Cell.lit (Value.int IntKind.i64 (0 : Int))), DV.one (Cell.lit (Value.bool false))] [DV.one (Cell.lit (Value.string (gText b pos).1)), DV.one (Cell.lit (Value.int IntKind.i64 (gText b pos).2.1)), DV.one (Cell.lit (Value.bool (gText b pos).2.2))] else bif decide ((gNum b pos).1 > x2) then Lf [DV.one (Cell.lit (Value.string { data := #[] : ByteArray })), DV.one (Cell.lit (Value.int IntKind.i64 (0 : Int))), DV.one (Cell.lit (Value.bool false))] [DV.one (Cell.lit (Value.string (gText b pos).1)), DV.one (Cell.lit (Value.int IntKind.i64 (gText b pos).2.1)), DV.one (Cell.lit (Value.bool (gText b pos).2.2))] else (0 : Int) ≤ x1 ∧ x1 ≤ x0 ∧ x0 ≤ (↑(List.length b) : Int) ∧ Lf [DV.one (Cell.lit (Value.string (strOfNums (List.map (fun (x : Cd.T Cd.byte) => x) (List.drop (Int.toNat x1) (List.take (Int.toNat x0) b)))))), DV.one (Cell.lit (Value.int IntKind.i64 (IntKind.wrap IntKind.i64 ((gNum b pos).2.1 + (gNum b pos).1)))), DV.one (Cell.lit (Value.bool true))] [DV.one (Cell.lit (Value.string (gText b pos).1)), DV.one (Cell.lit (Value.int IntKind.i64 (gText b pos).2.1)), DV.one (Cell.lit (Value.bool (gText b pos).2.2))]) := by kernel_rfl
theorem ok_spec_GetText : Holds EE (101, con_spec_GetText) := by
  refine holds_of EE_ok Go.Proofs.Try.func101 con_spec_GetText (by kernel_rfl) use_spec_GetText (all_cons ok_spec_GetNum all_nil) ann_spec_GetText (fun x hp hb => ?_)
  obtain ⟨b, pos⟩ := x
  have hb_b : BdDV (U := UU) (.one (.sl .byte b)) := hb _ (List.mem_cons_self)
  have hl_b : b.length ≤ 9223372036854775807 := Bd.len hb_b
  have hb_pos : BdDV (U := UU) (.one (.lit (.int .i64 pos))) := hb _ (List.mem_cons_of_mem _ (List.mem_cons_self))
  have hl_pos := Bd.i64 hb_pos
  have hp0 : b.length ≤ 4294967296 := hp _ (List.mem_cons_self)
  clear hp hb
  rw [vc_spec_GetText b pos]
  dsimp only
  have hby := bytes_of hb_b
  have hF : ¬ ((gNum b pos).2.2 = true ∧ 0 ≤ (gNum b pos).1 ∧ (gNum b pos).1 ≤ b.length - (gNum b pos).2.1) → Lf [.one (.lit (.string ⟨#[]⟩)), .one (.lit (.int .i64 0)), .one (.lit (.bool false))] [.one (.lit (.string (gText b pos).1)), .one (.lit (.int .i64 (gText b pos).2.1)), .one (.lit (.bool (gText b pos).2.2))] := fun h => by
    rw [gText, if_neg h]; exact Lf_rfl _
  refine ⟨hp0, if_cond (fun h => hF (fun hh => by rw [hh.1] at h; simp at h)) (fun h => ?_)⟩
  have hok : (gNum b pos).2.2 = true := by simpa using h
  obtain ⟨d1, d2, d3, d4, d5⟩ := gNum_ok hby hok
  unfold numMax at d5
  rw [wrap_i64 (n := (b.length : Int) - (gNum b pos).2.1) (by omega) (by omega), wrap_i64 (n := (gNum b pos).2.1 + (gNum b pos).1) (by omega) (by omega)]
  refine if_cond (fun h1 => hF (fun hh => absurd (of_decide_eq_true h1) (by omega))) (fun h1 => if_cond (fun h2 => hF (fun hh => absurd (of_decide_eq_true h2) (by omega))) (fun h2 => ?_))
  have h1 := of_decide_eq_false h1
  have h2 := of_decide_eq_false h2
  have e : gText b pos = (txtOf (sliceI b (gNum b pos).2.1 (gNum b pos).1), (gNum b pos).2.1 + (gNum b pos).1, true) := if_pos ⟨hok, by omega, by omega⟩
  rw [e]
  exact ⟨by show (0 : Int) ≤ (gNum b pos).2.1; omega, by show (gNum b pos).2.1 ≤ (gNum b pos).2.1 + (gNum b pos).1; omega, by show (gNum b pos).2.1 + (gNum b pos).1 ≤ (b.length : Int); omega, Lf_rfl _⟩
def con_impl_GetText : Con UU where
  α := (List Int) × Int
  md := [.ro, .ro]
  of := fun | [.one (.sl .byte a0), .one (.lit (.int .i64 a1))] => some (a0, a1) | _ => none
  ds := fun (b, pos) => [.one (.sl .byte b), .one (.lit (.int .i64 pos))]
  pre := fun (b, pos) => [b.length ≤ 4294967296]
  res := fun (b, pos) => ⟨[.one (.lit (.string ((gText b pos).1))), .one (.lit (.int .i64 ((gText b pos).2.1))), .one (.lit (.bool ((gText b pos).2.2)))], true, []⟩
  law := by intro l x h; (try simp only at h); split at h <;> cases h; rfl
def ann_impl_GetText : con_impl_GetText.α → Nat → Option (Ann UU) := fun (b, pos) => annL []
def use_impl_GetText : List (FuncId × Con UU) := [(95, con_impl_GetNum)]
theorem vc_impl_GetText (b : (List Int)) (pos : Int) : goal EE use_impl_GetText Go.Proofs.Try.f96 con_impl_GetText ann_impl_GetText (b, pos) = (let x0 : Int := Option.getD (some (IntKind.wrap IntKind.i64 ((gNum b pos).2.1 + (gNum b pos).1))) (↑(List.length b) : Int);
let x1 : Int := Option.getD (some (gNum b pos).2.1) (0 : Int);
let x2 : Int := IntKind.wrap IntKind.i64 ((↑(List.length b) : Int) - (gNum b pos).2.1);
List.length b ≤ (4294967296 : Nat) ∧ bif !(gNum b pos).2.2 then Lf [DV.one (Cell.lit (Value.string { data := #[] : ByteArray })), DV.one (Cell.lit (Value.int IntKind.i64 (0 : Int))), DV.one (Cell.lit (Value.bool false))] [DV.one (Cell.lit (Value.string (gText b pos).1)), DV.one (Cell.lit (Value.int IntKind.i64 (gText b pos).2.1)), DV.one (Cell.lit (Value.bool (gText b pos).2.2))] else bif decide ((gNum b pos).1 < (0 : Int)) then Lf [DV.one (Cell.lit (Value.string { data := #[] : ByteArray })), DV.one (Cell.lit (Value.int IntKind.i64 (0 : Int))), DV.one (Cell.lit (Value.bool false))] [DV.one (Cell.lit (Value.string (gText b pos).1)), DV.one (Cell.lit (Value.int IntKind.i64 (gText b pos).2.1)), DV.one (Cell.lit (Value.bool (gText b pos).2.2))] else bif decide ((gNum b pos).1 > x2) then Lf [DV.one (Cell.lit (Value.string { data := #[] : ByteArray })), DV.one (Cell.lit (Value.int IntKind.i64 (0 : Int))), DV.one (Cell.lit (Value.bool false))] [DV.one (Cell.lit (Value.string (gText b pos).1)), DV.one (Cell.lit (Value.int IntKind.i64 (gText b pos).2.1)), DV.one (Cell.lit (Value.bool (gText b pos).2.2))] else (0 : Int) ≤ x1 ∧ x1 ≤ x0 ∧ x0 ≤ (↑(List.length b) : Int) ∧ Lf [DV.one (Cell.lit (Value.string (strOfNums (List.map (fun (x : Cd.T Cd.byte) => x) (List.drop (Int.toNat x1) (List.take (Int.toNat x0) b)))))), DV.one (Cell.lit (Value.int IntKind.i64 (IntKind.wrap IntKind.i64 ((gNum b pos).2.1 + (gNum b pos).1)))), DV.one (Cell.lit (Value.bool true))] [DV.one (Cell.lit (Value.string (gText b pos).1)), DV.one (Cell.lit (Value.int IntKind.i64 (gText b pos).2.1)), DV.one (Cell.lit (Value.bool (gText b pos).2.2))]) := by kernel_rfl
theorem ok_impl_GetText : Holds EE (96, con_impl_GetText) := by
  refine holds_of EE_ok Go.Proofs.Try.func96 con_impl_GetText (by kernel_rfl) use_impl_GetText (all_cons ok_impl_GetNum all_nil) ann_impl_GetText (fun x hp hb => ?_)
  obtain ⟨b, pos⟩ := x
  have hb_b : BdDV (U := UU) (.one (.sl .byte b)) := hb _ (List.mem_cons_self)
  have hl_b : b.length ≤ 9223372036854775807 := Bd.len hb_b
  have hb_pos : BdDV (U := UU) (.one (.lit (.int .i64 pos))) := hb _ (List.mem_cons_of_mem _ (List.mem_cons_self))
  have hl_pos := Bd.i64 hb_pos
  have hp0 : b.length ≤ 4294967296 := hp _ (List.mem_cons_self)
  clear hp hb
  rw [vc_impl_GetText b pos]
  dsimp only
  have hby := bytes_of hb_b
  have hF : ¬ ((gNum b pos).2.2 = true ∧ 0 ≤ (gNum b pos).1 ∧ (gNum b pos).1 ≤ b.length - (gNum b pos).2.1) → Lf [.one (.lit (.string ⟨#[]⟩)), .one (.lit (.int .i64 0)), .one (.lit (.bool false))] [.one (.lit (.string (gText b pos).1)), .one (.lit (.int .i64 (gText b pos).2.1)), .one (.lit (.bool (gText b pos).2.2))] := fun h => by
    rw [gText, if_neg h]; exact Lf_rfl _
  refine ⟨hp0, if_cond (fun h => hF (fun hh => by rw [hh.1] at h; simp at h)) (fun h => ?_)⟩
  have hok : (gNum b pos).2.2 = true := by simpa using h
  obtain ⟨d1, d2, d3, d4, d5⟩ := gNum_ok hby hok
  unfold numMax at d5
  rw [wrap_i64 (n := (b.length : Int) - (gNum b pos).2.1) (by omega) (by omega), wrap_i64 (n := (gNum b pos).2.1 + (gNum b pos).1) (by omega) (by omega)]
  refine if_cond (fun h1 => hF (fun hh => absurd (of_decide_eq_true h1) (by omega))) (fun h1 => if_cond (fun h2 => hF (fun hh => absurd (of_decide_eq_true h2) (by omega))) (fun h2 => ?_))
  have h1 := of_decide_eq_false h1
  have h2 := of_decide_eq_false h2
  have e : gText b pos = (txtOf (sliceI b (gNum b pos).2.1 (gNum b pos).1), (gNum b pos).2.1 + (gNum b pos).1, true) := if_pos ⟨hok, by omega, by omega⟩
  rw [e]
  exact ⟨by show (0 : Int) ≤ (gNum b pos).2.1; omega, by show (gNum b pos).2.1 ≤ (gNum b pos).2.1 + (gNum b pos).1; omega, by show (gNum b pos).2.1 + (gNum b pos).1 ≤ (b.length : Int); omega, Lf_rfl _⟩
def gV1 (b : List Int) (pos : Int) : DVal × Int × Bool := if (gNum b pos).1 = 1 then (⟨(gNum b pos).1, (gNum b (gNum b pos).2.1).1, noBytes⟩, (gNum b (gNum b pos).2.1).2.1, (gNum b (gNum b pos).2.1).2.2)
  else (⟨(gNum b pos).1, 0, (gText b (gNum b pos).2.1).1⟩, (gText b (gNum b pos).2.1).2.1, (gText b (gNum b pos).2.1).2.2)
def gVal (b : List Int) (pos : Int) : DVal × Int × Bool := if (gNum b pos).2.2 = true ∧ (gV1 b pos).2.2 = true ∧ valOk (gV1 b pos).1 = true then gV1 b pos else (zVal, 0, false)
theorem gVal_yes {b : List Int} {pos : Int} (h : (gVal b pos).2.2 = true) : (gNum b pos).2.2 = true ∧ (gV1 b pos).2.2 = true ∧ valOk (gV1 b pos).1 = true ∧ gVal b pos = gV1 b pos := by
  by_cases hc : (gNum b pos).2.2 = true ∧ (gV1 b pos).2.2 = true ∧ valOk (gV1 b pos).1 = true
  · exact ⟨hc.1, hc.2.1, hc.2.2, if_pos hc⟩
  · rw [gVal, if_neg hc] at h; simp at h
theorem gVal_canon {b : List Int} {pos : Int} (hb : bytesOk b) (h : (gVal b pos).2.2 = true) : 0 ≤ pos ∧ b.drop pos.toNat = valB (gVal b pos).1 ++ b.drop (gVal b pos).2.1.toNat ∧ pos < (gVal b pos).2.1 ∧ (gVal b pos).2.1 ≤ b.length ∧ valOk (gVal b pos).1 = true := by
  obtain ⟨h1, h2, h3, h4⟩ := gVal_yes h
  rw [h4]
  obtain ⟨d1, d2, d3, d4, d5⟩ := gNum_ok hb h1
  refine ⟨d1, ?_⟩
  by_cases hk : (gNum b pos).1 = 1
  · have e : gV1 b pos = (⟨(gNum b pos).1, (gNum b (gNum b pos).2.1).1, noBytes⟩, (gNum b (gNum b pos).2.1).2.1, (gNum b (gNum b pos).2.1).2.2) := if_pos hk
    rw [e] at h2 h3 ⊢
    dsimp only at h2 h3 ⊢
    obtain ⟨f1, f2, f3, f4, f5⟩ := gNum_ok hb h2
    refine ⟨?_, by omega, f4, h3⟩
    rw [d2, f2, valB]
    dsimp only
    rw [if_pos hk, List.append_assoc]
  · have e : gV1 b pos = (⟨(gNum b pos).1, 0, (gText b (gNum b pos).2.1).1⟩, (gText b (gNum b pos).2.1).2.1, (gText b (gNum b pos).2.1).2.2) := if_neg hk
    rw [e] at h2 h3 ⊢
    dsimp only at h2 h3 ⊢
    obtain ⟨f1, f2, f3, f4, f5⟩ := gText_canon hb h2
    refine ⟨?_, by omega, f4, h3⟩
    rw [d2, f2, valB]
    dsimp only
    rw [if_neg hk, List.append_assoc]
theorem gVal_round {b : List Int} {pos : Int} {v : DVal} {r : List Int} (hb : bytesOk b) (h0 : 0 ≤ pos) (hv : valOk v = true) (hd : b.drop pos.toNat = valB v ++ r) : gVal b pos = (v, pos + (valB v).length, true) := by
  have hcl : (v.K = 1 ∧ v.S = noBytes ∧ -1000000000 ≤ v.N ∧ v.N ≤ 1000000000) ∨ (v.K = 2 ∧ v.N = 0 ∧ v.S.size ≤ 20) := by
    simp only [valOk] at hv
    by_cases h1 : v.K = 1
    · simp [h1] at hv; exact .inl ⟨h1, hv.2, hv.1.1, hv.1.2⟩
    · by_cases h2 : v.K = 2
      · simp [h2] at hv; exact .inr ⟨h2, hv.1.1, hv.1.2⟩
      · simp [h1, h2] at hv
  have hl : (numB v.K ++ (if v.K = 1 then numB v.N else textB v.S)).length = (numB v.K).length + (if v.K = 1 then numB v.N else textB v.S).length := List.length_append
  have hvB : valB v = numB v.K ++ (if v.K = 1 then numB v.N else textB v.S) := rfl
  rw [hvB, List.append_assoc] at hd
  have hn := gNum_round h0 (n := v.K) (by unfold numMax; rcases hcl with h | h <;> omega) hd
  have hd2 := drop_app h0 hd
  have hg : gV1 b pos = (v, pos + (valB v).length, true) := by
    rcases hcl with ⟨h1, h2, h3, h4⟩ | ⟨h1, h2, h3⟩
    · rw [if_pos h1] at hd2 hl
      have hn2 := gNum_round (n := v.N) (by omega) (by unfold numMax; omega) hd2
      rw [gV1, hn]
      dsimp only
      rw [if_pos h1, hn2, hvB, if_pos h1, hl]
      obtain ⟨K, N, S⟩ := v
      dsimp only at h1 h2 ⊢
      rw [h2]
      simp only [Prod.mk.injEq, true_and, and_true]
      omega
    · have h5 : ¬ v.K = 1 := by omega
      rw [if_neg h5] at hd2 hl
      have hn2 := gText_round (s := v.S) hb (by omega) (by omega) hd2
      rw [gV1, hn]
      dsimp only
      rw [if_neg h5, hn2, hvB, if_neg h5, hl]
      obtain ⟨K, N, S⟩ := v
      dsimp only at h1 h2 ⊢
      rw [h2]
      simp only [Prod.mk.injEq, true_and, and_true]
      omega
  rw [gVal, if_pos ⟨by rw [hn], by rw [hg], by rw [hg]; exact hv⟩, hg]
def con_spec_GetVal : Con UU where
  α := (List Int) × Int
  md := [.ro, .ro]
  of := fun | [.one (.sl .byte a0), .one (.lit (.int .i64 a1))] => some (a0, a1) | _ => none
  ds := fun (b, pos) => [.one (.sl .byte b), .one (.lit (.int .i64 pos))]
  pre := fun (b, pos) => [b.length ≤ 4294967296]
  res := fun (b, pos) => ⟨[.agg [.lit (.int .i64 (((gVal b pos).1)).K), .lit (.int .i64 (((gVal b pos).1)).N), .lit (.string (((gVal b pos).1)).S)], .one (.lit (.int .i64 ((gVal b pos).2.1))), .one (.lit (.bool ((gVal b pos).2.2)))], true, []⟩
  law := by intro l x h; (try simp only at h); split at h <;> cases h; rfl
def ann_spec_GetVal : con_spec_GetVal.α → Nat → Option (Ann UU) := fun (b, pos) => annL []
def use_spec_GetVal : List (FuncId × Con UU) := [(100, con_spec_GetNum), (101, con_spec_GetText), (62, con_spec_ValOk)]
theorem vc_spec_GetVal (b : (List Int)) (pos : Int) : goal EE use_spec_GetVal Go.Proofs.Try.f57 con_spec_GetVal ann_spec_GetVal (b, pos) = (List.length b ≤ (4294967296 : Nat) ∧ bif (gNum b pos).1 == (1 : Int) then List.length b ≤ (4294967296 : Nat) ∧ bif !(gNum b pos).2.2 then Lf [DV.agg [Cell.lit (Value.int IntKind.i64 (0 : Int)), Cell.lit (Value.int IntKind.i64 (0 : Int)), Cell.lit (Value.string { data := #[] : ByteArray })], DV.one (Cell.lit (Value.int IntKind.i64 (0 : Int))), DV.one (Cell.lit (Value.bool false))] [DV.agg [Cell.lit (Value.int IntKind.i64 (gVal b pos).1.K), Cell.lit (Value.int IntKind.i64 (gVal b pos).1.N), Cell.lit (Value.string (gVal b pos).1.S)], DV.one (Cell.lit (Value.int IntKind.i64 (gVal b pos).2.1)), DV.one (Cell.lit (Value.bool (gVal b pos).2.2))] else bif !(gNum b (gNum b pos).2.1).2.2 then Lf [DV.agg [Cell.lit (Value.int IntKind.i64 (0 : Int)), Cell.lit (Value.int IntKind.i64 (0 : Int)), Cell.lit (Value.string { data := #[] : ByteArray })], DV.one (Cell.lit (Value.int IntKind.i64 (0 : Int))), DV.one (Cell.lit (Value.bool false))] [DV.agg [Cell.lit (Value.int IntKind.i64 (gVal b pos).1.K), Cell.lit (Value.int IntKind.i64 (gVal b pos).1.N), Cell.lit (Value.string (gVal b pos).1.S)], DV.one (Cell.lit (Value.int IntKind.i64 (gVal b pos).2.1)), DV.one (Cell.lit (Value.bool (gVal b pos).2.2))] else bif !valOk { K := (gNum b pos).1, N := (gNum b (gNum b pos).2.1).1, S := { data := #[] : ByteArray } : DVal } then Lf [DV.agg [Cell.lit (Value.int IntKind.i64 (0 : Int)), Cell.lit (Value.int IntKind.i64 (0 : Int)), Cell.lit (Value.string { data := #[] : ByteArray })], DV.one (Cell.lit (Value.int IntKind.i64 (0 : Int))), DV.one (Cell.lit (Value.bool false))] [DV.agg [Cell.lit (Value.int IntKind.i64 (gVal b pos).1.K), Cell.lit (Value.int IntKind.i64 (gVal b pos).1.N), Cell.lit (Value.string (gVal b pos).1.S)], DV.one (Cell.lit (Value.int IntKind.i64 (gVal b pos).2.1)), DV.one (Cell.lit (Value.bool (gVal b pos).2.2))] else Lf [DV.agg [Cell.lit (Value.int IntKind.i64 (gNum b pos).1), Cell.lit (Value.int IntKind.i64 (gNum b (gNum b pos).2.1).1), Cell.lit (Value.string { data := #[] : ByteArray })], DV.one (Cell.lit (Value.int IntKind.i64 (gNum b (gNum b pos).2.1).2.1)), DV.one (Cell.lit (Value.bool true))] [DV.agg [Cell.lit (Value.int IntKind.i64 (gVal b pos).1.K), Cell.lit (Value.int IntKind.i64 (gVal b pos).1.N), Cell.lit (Value.string (gVal b pos).1.S)], DV.one (Cell.lit (Value.int IntKind.i64 (gVal b pos).2.1)), DV.one (Cell.lit (Value.bool (gVal b pos).2.2))] else List.length b ≤ (4294967296 : Nat) ∧ bif !(gNum b pos).2.2 then Lf [DV.agg [Cell.lit (Value.int IntKind.i64 (0 : Int)), Cell.lit (Value.int IntKind.i64 (0 : Int)), Cell.lit (Value.string { data := #[] : ByteArray })], DV.one (Cell.lit (Value.int IntKind.i64 (0 : Int))), DV.one (Cell.lit (Value.bool false))] [DV.agg [Cell.lit (Value.int IntKind.i64 (gVal b pos).1.K), Cell.lit (Value.int IntKind.i64 (gVal b pos).1.N), Cell.lit (Value.string (gVal b pos).1.S)], DV.one (Cell.lit (Value.int IntKind.i64 (gVal b pos).2.1)), DV.one (Cell.lit (Value.bool (gVal b pos).2.2))] else bif !(gText b (gNum b pos).2.1).2.2 then Lf [DV.agg [Cell.lit (Value.int IntKind.i64 (0 : Int)), Cell.lit (Value.int IntKind.i64 (0 : Int)), Cell.lit (Value.string { data := #[] : ByteArray })], DV.one (Cell.lit (Value.int IntKind.i64 (0 : Int))), DV.one (Cell.lit (Value.bool false))] [DV.agg [Cell.lit (Value.int IntKind.i64 (gVal b pos).1.K), Cell.lit (Value.int IntKind.i64 (gVal b pos).1.N), Cell.lit (Value.string (gVal b pos).1.S)], DV.one (Cell.lit (Value.int IntKind.i64 (gVal b pos).2.1)), DV.one (Cell.lit (Value.bool (gVal b pos).2.2))] else bif !valOk { K := (gNum b pos).1, N := (0 : Int), S := (gText b (gNum b pos).2.1).1 : DVal } then Lf [DV.agg [Cell.lit (Value.int IntKind.i64 (0 : Int)), Cell.lit (Value.int IntKind.i64 (0 : Int)), Cell.lit (Value.string { data := #[] : ByteArray })], DV.one (Cell.lit (Value.int IntKind.i64 (0 : Int))), DV.one (Cell.lit (Value.bool false))] [DV.agg [Cell.lit (Value.int IntKind.i64 (gVal b pos).1.K), Cell.lit (Value.int IntKind.i64 (gVal b pos).1.N), Cell.lit (Value.string (gVal b pos).1.S)], DV.one (Cell.lit (Value.int IntKind.i64 (gVal b pos).2.1)), DV.one (Cell.lit (Value.bool (gVal b pos).2.2))] else Lf [DV.agg [Cell.lit (Value.int IntKind.i64 (gNum b pos).1), Cell.lit (Value.int IntKind.i64 (0 : Int)), Cell.lit (Value.string (gText b (gNum b pos).2.1).1)], DV.one (Cell.lit (Value.int IntKind.i64 (gText b (gNum b pos).2.1).2.1)), DV.one (Cell.lit (Value.bool true))] [DV.agg [Cell.lit (Value.int IntKind.i64 (gVal b pos).1.K), Cell.lit (Value.int IntKind.i64 (gVal b pos).1.N), Cell.lit (Value.string (gVal b pos).1.S)], DV.one (Cell.lit (Value.int IntKind.i64 (gVal b pos).2.1)), DV.one (Cell.lit (Value.bool (gVal b pos).2.2))]) := by kernel_rfl
theorem ok_spec_GetVal : Holds EE (57, con_spec_GetVal) := by
  refine holds_of EE_ok Go.Proofs.Try.func57 con_spec_GetVal (by kernel_rfl) use_spec_GetVal (all_cons ok_spec_GetNum (all_cons ok_spec_GetText (all_cons ok_spec_ValOk all_nil))) ann_spec_GetVal (fun x hp hb => ?_)
  obtain ⟨b, pos⟩ := x
  have hb_b : BdDV (U := UU) (.one (.sl .byte b)) := hb _ (List.mem_cons_self)
  have hl_b : b.length ≤ 9223372036854775807 := Bd.len hb_b
  have hb_pos : BdDV (U := UU) (.one (.lit (.int .i64 pos))) := hb _ (List.mem_cons_of_mem _ (List.mem_cons_self))
  have hl_pos := Bd.i64 hb_pos
  have hp0 : b.length ≤ 4294967296 := hp _ (List.mem_cons_self)
  clear hp hb
  rw [vc_spec_GetVal b pos]
  have hF : ¬ ((gNum b pos).2.2 = true ∧ (gV1 b pos).2.2 = true ∧ valOk (gV1 b pos).1 = true) → gVal b pos = (zVal, 0, false) := fun h => if_neg h
  have hT : ((gNum b pos).2.2 = true ∧ (gV1 b pos).2.2 = true ∧ valOk (gV1 b pos).1 = true) → gVal b pos = gV1 b pos := fun h => if_pos h
  have e1 : (gNum b pos).1 = 1 → gV1 b pos = (⟨(gNum b pos).1, (gNum b (gNum b pos).2.1).1, noBytes⟩, (gNum b (gNum b pos).2.1).2.1, (gNum b (gNum b pos).2.1).2.2) := fun h => if_pos h
  have e2 : ¬ (gNum b pos).1 = 1 → gV1 b pos = (⟨(gNum b pos).1, 0, (gText b (gNum b pos).2.1).1⟩, (gText b (gNum b pos).2.1).2.1, (gText b (gNum b pos).2.1).2.2) := fun h => if_neg h
  have hE : ¬ ((gNum b pos).2.2 = true ∧ (gV1 b pos).2.2 = true ∧ valOk (gV1 b pos).1 = true) → Lf [.agg [.lit (.int .i64 0), .lit (.int .i64 0), .lit (.string ⟨#[]⟩)], .one (.lit (.int .i64 0)), .one (.lit (.bool false))] [.agg [.lit (.int .i64 (gVal b pos).1.K), .lit (.int .i64 (gVal b pos).1.N), .lit (.string (gVal b pos).1.S)], .one (.lit (.int .i64 (gVal b pos).2.1)), .one (.lit (.bool (gVal b pos).2.2))] := fun h => by rw [hF h]; exact Lf_rfl _
  refine ⟨hp0, if_cond (fun h => ⟨hp0, if_cond (fun n0 => hE (fun hh => by rw [hh.1] at n0; simp at n0)) (fun n0 => if_cond (fun n1 => hE (fun hh => by rw [e1 (eq_of_beq h)] at hh; rw [hh.2.1] at n1; simp at n1)) (fun n1 => if_cond (fun n2 => hE (fun hh => by rw [e1 (eq_of_beq h)] at hh; have h3 : valOk ⟨(gNum b pos).1, (gNum b (gNum b pos).2.1).1, ⟨#[]⟩⟩ = true := hh.2.2; rw [h3] at n2; simp at n2)) (fun n2 => ?_)))⟩) (fun h => ⟨hp0, if_cond (fun n0 => hE (fun hh => by rw [hh.1] at n0; simp at n0)) (fun n0 => if_cond (fun n1 => hE (fun hh => by rw [e2 (by simpa using h)] at hh; rw [hh.2.1] at n1; simp at n1)) (fun n1 => if_cond (fun n2 => hE (fun hh => by rw [e2 (by simpa using h)] at hh; have h3 : valOk ⟨(gNum b pos).1, 0, (gText b (gNum b pos).2.1).1⟩ = true := hh.2.2; rw [h3] at n2; simp at n2)) (fun n2 => ?_)))⟩)⟩
  · have n0 : (gNum b pos).2.2 = true := by simpa using n0
    have n1 : (gNum b (gNum b pos).2.1).2.2 = true := by simpa using n1
    rw [hT ⟨n0, by rw [e1 (eq_of_beq h)]; exact n1, by rw [e1 (eq_of_beq h)]; have h5 : valOk ⟨(gNum b pos).1, (gNum b (gNum b pos).2.1).1, ⟨#[]⟩⟩ = true := (by simpa using n2); exact h5⟩, e1 (eq_of_beq h), n1]
    exact Lf_rfl _
  · have n0 : (gNum b pos).2.2 = true := by simpa using n0
    have n1 : (gText b (gNum b pos).2.1).2.2 = true := by simpa using n1
    rw [hT ⟨n0, by rw [e2 (by simpa using h)]; exact n1, by rw [e2 (by simpa using h)]; have h5 : valOk ⟨(gNum b pos).1, 0, (gText b (gNum b pos).2.1).1⟩ = true := (by simpa using n2); exact h5⟩, e2 (by simpa using h), n1]
    exact Lf_rfl _
def con_impl_GetVal : Con UU where
  α := (List Int) × Int
  md := [.ro, .ro]
  of := fun | [.one (.sl .byte a0), .one (.lit (.int .i64 a1))] => some (a0, a1) | _ => none
  ds := fun (b, pos) => [.one (.sl .byte b), .one (.lit (.int .i64 pos))]
  pre := fun (b, pos) => [b.length ≤ 4294967296]
  res := fun (b, pos) => ⟨[.agg [.lit (.int .i64 (((gVal b pos).1)).K), .lit (.int .i64 (((gVal b pos).1)).N), .lit (.string (((gVal b pos).1)).S)], .one (.lit (.int .i64 ((gVal b pos).2.1))), .one (.lit (.bool ((gVal b pos).2.2)))], true, []⟩
  law := by intro l x h; (try simp only at h); split at h <;> cases h; rfl
def ann_impl_GetVal : con_impl_GetVal.α → Nat → Option (Ann UU) := fun (b, pos) => annL []
def use_impl_GetVal : List (FuncId × Con UU) := [(95, con_impl_GetNum), (96, con_impl_GetText), (99, con_impl_ValOk)]
theorem vc_impl_GetVal (b : (List Int)) (pos : Int) : goal EE use_impl_GetVal Go.Proofs.Try.f51 con_impl_GetVal ann_impl_GetVal (b, pos) = (List.length b ≤ (4294967296 : Nat) ∧ bif !(gNum b pos).2.2 then Lf [DV.agg [Cell.lit (Value.int IntKind.i64 (0 : Int)), Cell.lit (Value.int IntKind.i64 (0 : Int)), Cell.lit (Value.string { data := #[] : ByteArray })], DV.one (Cell.lit (Value.int IntKind.i64 (0 : Int))), DV.one (Cell.lit (Value.bool false))] [DV.agg [Cell.lit (Value.int IntKind.i64 (gVal b pos).1.K), Cell.lit (Value.int IntKind.i64 (gVal b pos).1.N), Cell.lit (Value.string (gVal b pos).1.S)], DV.one (Cell.lit (Value.int IntKind.i64 (gVal b pos).2.1)), DV.one (Cell.lit (Value.bool (gVal b pos).2.2))] else bif (gNum b pos).1 == (1 : Int) then List.length b ≤ (4294967296 : Nat) ∧ bif !(gNum b (gNum b pos).2.1).2.2 then Lf [DV.agg [Cell.lit (Value.int IntKind.i64 (0 : Int)), Cell.lit (Value.int IntKind.i64 (0 : Int)), Cell.lit (Value.string { data := #[] : ByteArray })], DV.one (Cell.lit (Value.int IntKind.i64 (0 : Int))), DV.one (Cell.lit (Value.bool false))] [DV.agg [Cell.lit (Value.int IntKind.i64 (gVal b pos).1.K), Cell.lit (Value.int IntKind.i64 (gVal b pos).1.N), Cell.lit (Value.string (gVal b pos).1.S)], DV.one (Cell.lit (Value.int IntKind.i64 (gVal b pos).2.1)), DV.one (Cell.lit (Value.bool (gVal b pos).2.2))] else bif !valOk { K := (gNum b pos).1, N := (gNum b (gNum b pos).2.1).1, S := { data := #[] : ByteArray } : DVal } then Lf [DV.agg [Cell.lit (Value.int IntKind.i64 (0 : Int)), Cell.lit (Value.int IntKind.i64 (0 : Int)), Cell.lit (Value.string { data := #[] : ByteArray })], DV.one (Cell.lit (Value.int IntKind.i64 (0 : Int))), DV.one (Cell.lit (Value.bool false))] [DV.agg [Cell.lit (Value.int IntKind.i64 (gVal b pos).1.K), Cell.lit (Value.int IntKind.i64 (gVal b pos).1.N), Cell.lit (Value.string (gVal b pos).1.S)], DV.one (Cell.lit (Value.int IntKind.i64 (gVal b pos).2.1)), DV.one (Cell.lit (Value.bool (gVal b pos).2.2))] else Lf [DV.agg [Cell.lit (Value.int IntKind.i64 (gNum b pos).1), Cell.lit (Value.int IntKind.i64 (gNum b (gNum b pos).2.1).1), Cell.lit (Value.string { data := #[] : ByteArray })], DV.one (Cell.lit (Value.int IntKind.i64 (gNum b (gNum b pos).2.1).2.1)), DV.one (Cell.lit (Value.bool true))] [DV.agg [Cell.lit (Value.int IntKind.i64 (gVal b pos).1.K), Cell.lit (Value.int IntKind.i64 (gVal b pos).1.N), Cell.lit (Value.string (gVal b pos).1.S)], DV.one (Cell.lit (Value.int IntKind.i64 (gVal b pos).2.1)), DV.one (Cell.lit (Value.bool (gVal b pos).2.2))] else List.length b ≤ (4294967296 : Nat) ∧ bif !(gText b (gNum b pos).2.1).2.2 then Lf [DV.agg [Cell.lit (Value.int IntKind.i64 (0 : Int)), Cell.lit (Value.int IntKind.i64 (0 : Int)), Cell.lit (Value.string { data := #[] : ByteArray })], DV.one (Cell.lit (Value.int IntKind.i64 (0 : Int))), DV.one (Cell.lit (Value.bool false))] [DV.agg [Cell.lit (Value.int IntKind.i64 (gVal b pos).1.K), Cell.lit (Value.int IntKind.i64 (gVal b pos).1.N), Cell.lit (Value.string (gVal b pos).1.S)], DV.one (Cell.lit (Value.int IntKind.i64 (gVal b pos).2.1)), DV.one (Cell.lit (Value.bool (gVal b pos).2.2))] else bif !valOk { K := (gNum b pos).1, N := (0 : Int), S := (gText b (gNum b pos).2.1).1 : DVal } then Lf [DV.agg [Cell.lit (Value.int IntKind.i64 (0 : Int)), Cell.lit (Value.int IntKind.i64 (0 : Int)), Cell.lit (Value.string { data := #[] : ByteArray })], DV.one (Cell.lit (Value.int IntKind.i64 (0 : Int))), DV.one (Cell.lit (Value.bool false))] [DV.agg [Cell.lit (Value.int IntKind.i64 (gVal b pos).1.K), Cell.lit (Value.int IntKind.i64 (gVal b pos).1.N), Cell.lit (Value.string (gVal b pos).1.S)], DV.one (Cell.lit (Value.int IntKind.i64 (gVal b pos).2.1)), DV.one (Cell.lit (Value.bool (gVal b pos).2.2))] else Lf [DV.agg [Cell.lit (Value.int IntKind.i64 (gNum b pos).1), Cell.lit (Value.int IntKind.i64 (0 : Int)), Cell.lit (Value.string (gText b (gNum b pos).2.1).1)], DV.one (Cell.lit (Value.int IntKind.i64 (gText b (gNum b pos).2.1).2.1)), DV.one (Cell.lit (Value.bool true))] [DV.agg [Cell.lit (Value.int IntKind.i64 (gVal b pos).1.K), Cell.lit (Value.int IntKind.i64 (gVal b pos).1.N), Cell.lit (Value.string (gVal b pos).1.S)], DV.one (Cell.lit (Value.int IntKind.i64 (gVal b pos).2.1)), DV.one (Cell.lit (Value.bool (gVal b pos).2.2))]) := by kernel_rfl
theorem ok_impl_GetVal : Holds EE (51, con_impl_GetVal) := by
  refine holds_of EE_ok Go.Proofs.Try.func51 con_impl_GetVal (by kernel_rfl) use_impl_GetVal (all_cons ok_impl_GetNum (all_cons ok_impl_GetText (all_cons ok_impl_ValOk all_nil))) ann_impl_GetVal (fun x hp hb => ?_)
  obtain ⟨b, pos⟩ := x
  have hb_b : BdDV (U := UU) (.one (.sl .byte b)) := hb _ (List.mem_cons_self)
  have hl_b : b.length ≤ 9223372036854775807 := Bd.len hb_b
  have hb_pos : BdDV (U := UU) (.one (.lit (.int .i64 pos))) := hb _ (List.mem_cons_of_mem _ (List.mem_cons_self))
  have hl_pos := Bd.i64 hb_pos
  have hp0 : b.length ≤ 4294967296 := hp _ (List.mem_cons_self)
  clear hp hb
  rw [vc_impl_GetVal b pos]
  have hF : ¬ ((gNum b pos).2.2 = true ∧ (gV1 b pos).2.2 = true ∧ valOk (gV1 b pos).1 = true) → gVal b pos = (zVal, 0, false) := fun h => if_neg h
  have hT : ((gNum b pos).2.2 = true ∧ (gV1 b pos).2.2 = true ∧ valOk (gV1 b pos).1 = true) → gVal b pos = gV1 b pos := fun h => if_pos h
  have e1 : (gNum b pos).1 = 1 → gV1 b pos = (⟨(gNum b pos).1, (gNum b (gNum b pos).2.1).1, noBytes⟩, (gNum b (gNum b pos).2.1).2.1, (gNum b (gNum b pos).2.1).2.2) := fun h => if_pos h
  have e2 : ¬ (gNum b pos).1 = 1 → gV1 b pos = (⟨(gNum b pos).1, 0, (gText b (gNum b pos).2.1).1⟩, (gText b (gNum b pos).2.1).2.1, (gText b (gNum b pos).2.1).2.2) := fun h => if_neg h
  have hE : ¬ ((gNum b pos).2.2 = true ∧ (gV1 b pos).2.2 = true ∧ valOk (gV1 b pos).1 = true) → Lf [.agg [.lit (.int .i64 0), .lit (.int .i64 0), .lit (.string ⟨#[]⟩)], .one (.lit (.int .i64 0)), .one (.lit (.bool false))] [.agg [.lit (.int .i64 (gVal b pos).1.K), .lit (.int .i64 (gVal b pos).1.N), .lit (.string (gVal b pos).1.S)], .one (.lit (.int .i64 (gVal b pos).2.1)), .one (.lit (.bool (gVal b pos).2.2))] := fun h => by rw [hF h]; exact Lf_rfl _
  refine ⟨hp0, if_cond (fun n0 => hE (fun hh => by rw [hh.1] at n0; simp at n0)) (fun n0 => if_cond (fun h => ⟨hp0, if_cond (fun n1 => hE (fun hh => by rw [e1 (eq_of_beq h)] at hh; rw [hh.2.1] at n1; simp at n1)) (fun n1 => if_cond (fun n2 => hE (fun hh => by rw [e1 (eq_of_beq h)] at hh; have h3 : valOk ⟨(gNum b pos).1, (gNum b (gNum b pos).2.1).1, ⟨#[]⟩⟩ = true := hh.2.2; rw [h3] at n2; simp at n2)) (fun n2 => ?_))⟩) (fun h => ⟨hp0, if_cond (fun n1 => hE (fun hh => by rw [e2 (by simpa using h)] at hh; rw [hh.2.1] at n1; simp at n1)) (fun n1 => if_cond (fun n2 => hE (fun hh => by rw [e2 (by simpa using h)] at hh; have h3 : valOk ⟨(gNum b pos).1, 0, (gText b (gNum b pos).2.1).1⟩ = true := hh.2.2; rw [h3] at n2; simp at n2)) (fun n2 => ?_))⟩))⟩
  · have n0 : (gNum b pos).2.2 = true := by simpa using n0
    have n1 : (gNum b (gNum b pos).2.1).2.2 = true := by simpa using n1
    rw [hT ⟨n0, by rw [e1 (eq_of_beq h)]; exact n1, by rw [e1 (eq_of_beq h)]; have h5 : valOk ⟨(gNum b pos).1, (gNum b (gNum b pos).2.1).1, ⟨#[]⟩⟩ = true := (by simpa using n2); exact h5⟩, e1 (eq_of_beq h), n1]
    exact Lf_rfl _
  · have n0 : (gNum b pos).2.2 = true := by simpa using n0
    have n1 : (gText b (gNum b pos).2.1).2.2 = true := by simpa using n1
    rw [hT ⟨n0, by rw [e2 (by simpa using h)]; exact n1, by rw [e2 (by simpa using h)]; have h5 : valOk ⟨(gNum b pos).1, 0, (gText b (gNum b pos).2.1).1⟩ = true := (by simpa using n2); exact h5⟩, e2 (by simpa using h), n1]
    exact Lf_rfl _
def vLoop (b : List Int) : Nat → Int → List DVal → List DVal × Int × Bool
  | 0, p, out => (out, p, true)
  | k + 1, p, out => if (gVal b p).2.2 = true then vLoop b k (gVal b p).2.1 (out ++ [(gVal b p).1]) else (out, 0, false)
def gVals (b : List Int) (pos : Int) : List DVal × Int × Bool := if (gNum b pos).2.2 = true ∧ 0 ≤ (gNum b pos).1 ∧ (gNum b pos).1 ≤ 5 then vLoop b (gNum b pos).1.toNat (gNum b pos).2.1 [] else ([], 0, false)
def gFact (b : List Int) (pos : Int) : DFact × Int × Bool := if (gText b pos).2.2 = true ∧ (gVals b (gText b pos).2.1).2.2 = true ∧ factOk ⟨(gText b pos).1, (gVals b (gText b pos).2.1).1⟩ = true then (⟨(gText b pos).1, (gVals b (gText b pos).2.1).1⟩, (gVals b (gText b pos).2.1).2.1, true) else (zFact, 0, false)
theorem vLoop_canon {b : List Int} (hb : bytesOk b) : ∀ (k : Nat) (p : Int) (out : List DVal), 0 ≤ p → p ≤ b.length → (vLoop b k p out).2.2 = true → ∃ l, (vLoop b k p out).1 = out ++ l ∧ l.length = k ∧ b.drop p.toNat = valsB l ++ b.drop (vLoop b k p out).2.1.toNat ∧ p ≤ (vLoop b k p out).2.1 ∧ (vLoop b k p out).2.1 ≤ b.length
  | 0, p, out, h0, h1, h => ⟨[], by simp [vLoop], rfl, by simp [vLoop, valsB], by simp [vLoop], by simpa [vLoop] using h1⟩
  | k + 1, p, out, h0, h1, h => by
    rw [vLoop] at h ⊢
    split at h
    · rename_i hv
      rw [if_pos hv]
      obtain ⟨c1, c2, c3, c4, c5⟩ := gVal_canon hb hv
      obtain ⟨l, d1, d2, d3, d4, d5⟩ := vLoop_canon hb k (gVal b p).2.1 (out ++ [(gVal b p).1]) (by omega) c4 h
      refine ⟨(gVal b p).1 :: l, by rw [d1, List.append_assoc]; rfl, by simp [d2], ?_, by omega, d5⟩
      rw [c2, d3]
      simp only [valsB, List.flatMap_cons, List.append_assoc]
    · simp at h
theorem vLoop_round {b : List Int} (hb : bytesOk b) : ∀ (l : List DVal) (p : Int) (out : List DVal) (r : List Int), 0 ≤ p → l.all valOk = true → b.drop p.toNat = valsB l ++ r → vLoop b l.length p out = (out ++ l, p + (valsB l).length, true)
  | [], p, out, r, h0, hv, hd => by simp [vLoop, valsB]
  | v :: l, p, out, r, h0, hv, hd => by
    simp only [List.all_cons, Bool.and_eq_true] at hv
    have e : valsB (v :: l) = valB v ++ valsB l := rfl
    rw [e, List.append_assoc] at hd
    have hr := gVal_round hb h0 hv.1 hd
    have hd2 := drop_app h0 hd
    have := vLoop_round hb l (p + (valB v).length) (out ++ [v]) r (by omega) hv.2 hd2
    rw [List.length_cons, vLoop, hr]
    dsimp only
    rw [if_pos rfl, this, e, List.length_append, List.append_assoc]
    simp only [Prod.mk.injEq, List.singleton_append, true_and, and_true]
    omega
theorem gVals_canon {b : List Int} {pos : Int} (hb : bytesOk b) (h : (gVals b pos).2.2 = true) : 0 ≤ pos ∧ b.drop pos.toNat = numB (gVals b pos).1.length ++ valsB (gVals b pos).1 ++ b.drop (gVals b pos).2.1.toNat ∧ pos < (gVals b pos).2.1 ∧ (gVals b pos).2.1 ≤ b.length := by
  by_cases hc : (gNum b pos).2.2 = true ∧ 0 ≤ (gNum b pos).1 ∧ (gNum b pos).1 ≤ 5
  · have e : gVals b pos = vLoop b (gNum b pos).1.toNat (gNum b pos).2.1 [] := if_pos hc
    rw [e] at h ⊢
    obtain ⟨d1, d2, d3, d4, d5⟩ := gNum_ok hb hc.1
    obtain ⟨l, f1, f2, f3, f4, f5⟩ := vLoop_canon hb _ _ [] (by omega) d4 h
    rw [List.nil_append] at f1
    have hn : (((vLoop b (gNum b pos).1.toNat (gNum b pos).2.1 []).1.length : Nat) : Int) = (gNum b pos).1 := by rw [f1, f2]; omega
    refine ⟨d1, ?_, by omega, f5⟩
    rw [hn, d2, f3, f1, List.append_assoc]
  · have e : gVals b pos = ([], 0, false) := if_neg hc
    rw [e] at h; simp at h
theorem gVals_round {b : List Int} {pos : Int} {l : List DVal} {r : List Int} (hb : bytesOk b) (h0 : 0 ≤ pos) (hl : l.length ≤ 5) (hv : l.all valOk = true) (hd : b.drop pos.toNat = numB l.length ++ valsB l ++ r) : gVals b pos = (l, pos + (numB l.length ++ valsB l).length, true) := by
  rw [List.append_assoc] at hd
  have hn := gNum_round h0 (n := l.length) (by unfold numMax; omega) hd
  have hd2 := drop_app h0 hd
  have hr := vLoop_round hb l (pos + (numB (l.length : Int)).length) [] r (by omega) hv hd2
  have e : (l.length : Int).toNat = l.length := by omega
  rw [gVals, if_pos (by rw [hn]; exact ⟨rfl, by dsimp only; omega, by dsimp only; omega⟩), hn]
  dsimp only
  rw [e, hr, List.length_append]
  simp only [Prod.mk.injEq, List.nil_append, true_and, and_true]
  omega
theorem gFact_canon {b : List Int} {pos : Int} (hb : bytesOk b) (h : (gFact b pos).2.2 = true) : 0 ≤ pos ∧ b.drop pos.toNat = factB (gFact b pos).1 ++ b.drop (gFact b pos).2.1.toNat ∧ pos < (gFact b pos).2.1 ∧ (gFact b pos).2.1 ≤ b.length ∧ factOk (gFact b pos).1 = true := by
  by_cases hc : (gText b pos).2.2 = true ∧ (gVals b (gText b pos).2.1).2.2 = true ∧ factOk ⟨(gText b pos).1, (gVals b (gText b pos).2.1).1⟩ = true
  · have e : gFact b pos = (⟨(gText b pos).1, (gVals b (gText b pos).2.1).1⟩, (gVals b (gText b pos).2.1).2.1, true) := if_pos hc
    rw [e]
    obtain ⟨d1, d2, d3, d4, d5⟩ := gText_canon hb hc.1
    obtain ⟨f1, f2, f3, f4⟩ := gVals_canon hb hc.2.1
    refine ⟨d1, ?_, by dsimp only; omega, f4, hc.2.2⟩
    dsimp only
    rw [d2, f2]
    simp only [factB, List.append_assoc]
  · have e : gFact b pos = (zFact, 0, false) := if_neg hc
    rw [e] at h; simp at h
theorem gFact_round {b : List Int} {pos : Int} {f : DFact} {r : List Int} (hb : bytesOk b) (h0 : 0 ≤ pos) (hf : factOk f = true) (hd : b.drop pos.toNat = factB f ++ r) : gFact b pos = (f, pos + (factB f).length, true) := by
  have hf2 := hf
  simp only [factOk, Bool.and_eq_true, decide_eq_true_eq] at hf2
  have hk := hf2.1.1
  simp only [nameOk, Bool.and_eq_true, decide_eq_true_eq] at hk
  have e : factB f = textB f.Kind ++ (numB f.Fields.length ++ valsB f.Fields) := by simp only [factB, List.append_assoc]
  rw [e, List.append_assoc] at hd
  have h1 := gText_round (s := f.Kind) hb h0 (by omega) hd
  have hd2 := drop_app h0 hd
  have h2 := gVals_round (l := f.Fields) hb (by omega) hf2.1.2 hf2.2 hd2
  rw [gFact, if_pos (by rw [h1]; dsimp only; rw [h2]; exact ⟨rfl, rfl, hf⟩), h1]
  dsimp only
  rw [h2, e, List.length_append]
  simp only [Prod.mk.injEq, true_and, and_true, List.length_append]
  omega
def con_spec_l3GetVals : Con UU where
  α := (List Int) × Int
  md := [.ro, .ro]
  of := fun | [.one (.sl .byte a0), .one (.lit (.int .i64 a1))] => some (a0, a1) | _ => none
  ds := fun (b, pos) => [.one (.sl .byte b), .one (.lit (.int .i64 pos))]
  pre := fun (b, pos) => [b.length ≤ 4294967296]
  res := fun (b, pos) => ⟨[.one (.sl .eVal ((gVals b pos).1)), .one (.lit (.int .i64 ((gVals b pos).2.1))), .one (.lit (.bool ((gVals b pos).2.2)))], true, []⟩
  law := by intro l x h; (try simp only at h); split at h <;> cases h; rfl
def I_spec_l3GetVals_6 (b : (List Int)) (pos : Int) : List DVal × Int × Int × Unit → Prop := fun (out, p, i, _) => 0 ≤ i ∧ i ≤ (gNum b pos).1 ∧ out.length = i ∧ vLoop b ((gNum b pos).1 - i).toNat p out = gVals b pos
def μ_spec_l3GetVals_6 (b : (List Int)) (pos : Int) : List DVal × Int × Int × Unit → Nat := fun (out, p, i, _) => ((gNum b pos).1 - i).toNat
def ann_spec_l3GetVals : con_spec_l3GetVals.α → Nat → Option (Ann UU) := fun (b, pos) => annL [(6, annOf [.slot 7 (7, 1024) (.own .eVal true), .slot 9 (9, 1024) (.lit (.int .i64)), .slot 11 (11, 1024) (.lit (.int .i64))] (fun _ => I_spec_l3GetVals_6 b pos) (μ_spec_l3GetVals_6 b pos))]
def use_spec_l3GetVals : List (FuncId × Con UU) := [(100, con_spec_GetNum), (61, con_spec_l1In), (57, con_spec_GetVal)]
theorem vc_spec_l3GetVals (b : (List Int)) (pos : Int) : goal EE use_spec_l3GetVals Go.Proofs.Try.f102 con_spec_l3GetVals ann_spec_l3GetVals (b, pos) = (List.length b ≤ (4294967296 : Nat) ∧
  bif !(gNum b pos).2.2 then Lf [DV.one (Cell.sl Cd.eVal []), DV.one (Cell.lit (Value.int IntKind.i64 (0 : Int))), DV.one (Cell.lit (Value.bool false))] [DV.one (Cell.sl Cd.eVal (gVals b pos).1), DV.one (Cell.lit (Value.int IntKind.i64 (gVals b pos).2.1)), DV.one (Cell.lit (Value.bool (gVals b pos).2.2))]
  else
    bif !decide ((0 : Int) ≤ (gNum b pos).1 ∧ (gNum b pos).1 ≤ (5 : Int)) then Lf [DV.one (Cell.sl Cd.eVal []), DV.one (Cell.lit (Value.int IntKind.i64 (0 : Int))), DV.one (Cell.lit (Value.bool false))] [DV.one (Cell.sl Cd.eVal (gVals b pos).1), DV.one (Cell.lit (Value.int IntKind.i64 (gVals b pos).2.1)), DV.one (Cell.lit (Value.bool (gVals b pos).2.2))]
    else
      I_spec_l3GetVals_6 b pos ([], (gNum b pos).2.1, (0 : Int), PUnit.unit) ∧
        ∀ (y : List DVal × Int × Int × PUnit),
          let x0 : List DVal := [(gVal b y.2.1).1];
          I_spec_l3GetVals_6 b pos y → bif decide (y.2.2.1 < (gNum b pos).1) then List.length b ≤ (4294967296 : Nat) ∧ bif !(gVal b y.2.1).2.2 then Lf [DV.one (Cell.sl Cd.eVal y.1), DV.one (Cell.lit (Value.int IntKind.i64 (0 : Int))), DV.one (Cell.lit (Value.bool false))] [DV.one (Cell.sl Cd.eVal (gVals b pos).1), DV.one (Cell.lit (Value.int IntKind.i64 (gVals b pos).2.1)), DV.one (Cell.lit (Value.bool (gVals b pos).2.2))] else List.length y.1 + List.length x0 ≤ (4294967296 : Nat) ∧ I_spec_l3GetVals_6 b pos (y.1 ++ x0, (gVal b y.2.1).2.1, IntKind.wrap IntKind.i64 (y.2.2.1 + (1 : Int)), PUnit.unit) ∧ μ_spec_l3GetVals_6 b pos (y.1 ++ x0, (gVal b y.2.1).2.1, IntKind.wrap IntKind.i64 (y.2.2.1 + (1 : Int)), PUnit.unit) < μ_spec_l3GetVals_6 b pos y else Lf [DV.one (Cell.sl Cd.eVal y.1), DV.one (Cell.lit (Value.int IntKind.i64 y.2.1)), DV.one (Cell.lit (Value.bool true))] [DV.one (Cell.sl Cd.eVal (gVals b pos).1), DV.one (Cell.lit (Value.int IntKind.i64 (gVals b pos).2.1)), DV.one (Cell.lit (Value.bool (gVals b pos).2.2))]) := by kernel_rfl
theorem ok_spec_l3GetVals : Holds EE (102, con_spec_l3GetVals) := by
  refine holds_of EE_ok Go.Proofs.Try.func102 con_spec_l3GetVals (by kernel_rfl) use_spec_l3GetVals (all_cons ok_spec_GetNum (all_cons ok_spec_l1In (all_cons ok_spec_GetVal all_nil))) ann_spec_l3GetVals (fun x hp hb => ?_)
  obtain ⟨b, pos⟩ := x
  have hb_b : BdDV (U := UU) (.one (.sl .byte b)) := hb _ (List.mem_cons_self)
  have hl_b : b.length ≤ 9223372036854775807 := Bd.len hb_b
  have hb_pos : BdDV (U := UU) (.one (.lit (.int .i64 pos))) := hb _ (List.mem_cons_of_mem _ (List.mem_cons_self))
  have hl_pos := Bd.i64 hb_pos
  have hp0 : b.length ≤ 4294967296 := hp _ (List.mem_cons_self)
  clear hp hb
  rw [vc_spec_l3GetVals b pos]
  dsimp only
  have hF : ¬ ((gNum b pos).2.2 = true ∧ 0 ≤ (gNum b pos).1 ∧ (gNum b pos).1 ≤ 5) → gVals b pos = ([], 0, false) := fun h => if_neg h
  refine ⟨hp0, if_cond (fun n0 => ?_) (fun n0 => if_cond (fun n1 => ?_) (fun n1 => ?_))⟩
  · rw [hF (fun hh => by rw [hh.1] at n0; simp at n0)]; exact Lf_rfl _
  · rw [hF (fun hh => by rw [decide_eq_true hh.2] at n1; simp at n1)]; exact Lf_rfl _
  have n0 : (gNum b pos).2.2 = true := by simpa using n0
  have n1 : 0 ≤ (gNum b pos).1 ∧ (gNum b pos).1 ≤ 5 := of_decide_eq_true (by simpa using n1)
  have hT : gVals b pos = vLoop b (gNum b pos).1.toNat (gNum b pos).2.1 [] := if_pos ⟨n0, n1⟩
  refine ⟨⟨by omega, n1.1, rfl, by rw [hT, Int.sub_zero]⟩, ?_⟩
  rintro ⟨out, p, i, ⟨⟩⟩ ⟨g1, g2, g3, g4⟩
  dsimp only at g1 g2 g3 g4 ⊢
  refine if_cond (fun hd => ⟨hp0, ?_⟩) (fun hd => ?_)
  · have hd := of_decide_eq_true hd
    have e : ((gNum b pos).1 - i).toNat = ((gNum b pos).1 - (i + 1)).toNat + 1 := by omega
    rw [e, vLoop] at g4
    rw [wrap_i64 (n := i + 1) (by omega) (by omega)]
    refine if_cond (fun hv => ?_) (fun hv => ?_)
    · rw [if_neg (by intro hh; rw [hh] at hv; simp at hv)] at g4
      rw [← g4]; exact Lf_rfl _
    · rw [if_pos (by simpa using hv)] at g4
      exact ⟨by simp only [List.length_cons, List.length_nil]; omega, ⟨by omega, by omega, by simp only [List.length_append, List.length_cons, List.length_nil]; omega, g4⟩, by simp only [μ_spec_l3GetVals_6]; omega⟩
  · have hd := of_decide_eq_false hd
    have e : ((gNum b pos).1 - i).toNat = 0 := by omega
    rw [e, vLoop] at g4
    rw [← g4]; exact Lf_rfl _
def con_spec_GetFact : Con UU where
  α := (List Int) × Int
  md := [.ro, .ro]
  of := fun | [.one (.sl .byte a0), .one (.lit (.int .i64 a1))] => some (a0, a1) | _ => none
  ds := fun (b, pos) => [.one (.sl .byte b), .one (.lit (.int .i64 pos))]
  pre := fun (b, pos) => [b.length ≤ 4294967296]
  res := fun (b, pos) => ⟨[.agg [.lit (.string (((gFact b pos).1)).Kind), .sl .eVal (((gFact b pos).1)).Fields], .one (.lit (.int .i64 ((gFact b pos).2.1))), .one (.lit (.bool ((gFact b pos).2.2)))], true, []⟩
  law := by intro l x h; (try simp only at h); split at h <;> cases h; rfl
def ann_spec_GetFact : con_spec_GetFact.α → Nat → Option (Ann UU) := fun (b, pos) => annL []
def use_spec_GetFact : List (FuncId × Con UU) := [(101, con_spec_GetText), (102, con_spec_l3GetVals), (60, con_spec_FactOk)]
theorem vc_spec_GetFact (b : (List Int)) (pos : Int) : goal EE use_spec_GetFact Go.Proofs.Try.f56 con_spec_GetFact ann_spec_GetFact (b, pos) = (List.length b ≤ (4294967296 : Nat) ∧ List.length b ≤ (4294967296 : Nat) ∧ bif !(gText b pos).2.2 then Lf [DV.agg [Cell.lit (Value.string { data := #[] : ByteArray }), Cell.sl Cd.eVal []], DV.one (Cell.lit (Value.int IntKind.i64 (0 : Int))), DV.one (Cell.lit (Value.bool false))] [DV.agg [Cell.lit (Value.string (gFact b pos).1.Kind), Cell.sl Cd.eVal (gFact b pos).1.Fields], DV.one (Cell.lit (Value.int IntKind.i64 (gFact b pos).2.1)), DV.one (Cell.lit (Value.bool (gFact b pos).2.2))] else bif !(gVals b (gText b pos).2.1).2.2 then Lf [DV.agg [Cell.lit (Value.string { data := #[] : ByteArray }), Cell.sl Cd.eVal []], DV.one (Cell.lit (Value.int IntKind.i64 (0 : Int))), DV.one (Cell.lit (Value.bool false))] [DV.agg [Cell.lit (Value.string (gFact b pos).1.Kind), Cell.sl Cd.eVal (gFact b pos).1.Fields], DV.one (Cell.lit (Value.int IntKind.i64 (gFact b pos).2.1)), DV.one (Cell.lit (Value.bool (gFact b pos).2.2))] else bif !factOk { Kind := (gText b pos).1, Fields := (gVals b (gText b pos).2.1).1 : DFact } then Lf [DV.agg [Cell.lit (Value.string { data := #[] : ByteArray }), Cell.sl Cd.eVal []], DV.one (Cell.lit (Value.int IntKind.i64 (0 : Int))), DV.one (Cell.lit (Value.bool false))] [DV.agg [Cell.lit (Value.string (gFact b pos).1.Kind), Cell.sl Cd.eVal (gFact b pos).1.Fields], DV.one (Cell.lit (Value.int IntKind.i64 (gFact b pos).2.1)), DV.one (Cell.lit (Value.bool (gFact b pos).2.2))] else Lf [DV.agg [Cell.lit (Value.string (gText b pos).1), Cell.sl Cd.eVal (gVals b (gText b pos).2.1).1], DV.one (Cell.lit (Value.int IntKind.i64 (gVals b (gText b pos).2.1).2.1)), DV.one (Cell.lit (Value.bool true))] [DV.agg [Cell.lit (Value.string (gFact b pos).1.Kind), Cell.sl Cd.eVal (gFact b pos).1.Fields], DV.one (Cell.lit (Value.int IntKind.i64 (gFact b pos).2.1)), DV.one (Cell.lit (Value.bool (gFact b pos).2.2))]) := by kernel_rfl
theorem ok_spec_GetFact : Holds EE (56, con_spec_GetFact) := by
  refine holds_of EE_ok Go.Proofs.Try.func56 con_spec_GetFact (by kernel_rfl) use_spec_GetFact (all_cons ok_spec_GetText (all_cons ok_spec_l3GetVals (all_cons ok_spec_FactOk all_nil))) ann_spec_GetFact (fun x hp hb => ?_)
  obtain ⟨b, pos⟩ := x
  have hb_b : BdDV (U := UU) (.one (.sl .byte b)) := hb _ (List.mem_cons_self)
  have hl_b : b.length ≤ 9223372036854775807 := Bd.len hb_b
  have hb_pos : BdDV (U := UU) (.one (.lit (.int .i64 pos))) := hb _ (List.mem_cons_of_mem _ (List.mem_cons_self))
  have hl_pos := Bd.i64 hb_pos
  have hp0 : b.length ≤ 4294967296 := hp _ (List.mem_cons_self)
  clear hp hb
  rw [vc_spec_GetFact b pos]
  have hF : ¬ ((gText b pos).2.2 = true ∧ (gVals b (gText b pos).2.1).2.2 = true ∧ factOk ⟨(gText b pos).1, (gVals b (gText b pos).2.1).1⟩ = true) → gFact b pos = (zFact, 0, false) := fun h => if_neg h
  refine ⟨hp0, hp0, if_cond (fun n0 => ?_) (fun n0 => if_cond (fun n1 => ?_) (fun n1 => if_cond (fun n2 => ?_) (fun n2 => ?_)))⟩
  · rw [hF (fun hh => by rw [hh.1] at n0; simp at n0)]; exact Lf_rfl _
  · rw [hF (fun hh => by rw [hh.2.1] at n1; simp at n1)]; exact Lf_rfl _
  · rw [hF (fun hh => by rw [hh.2.2] at n2; simp at n2)]; exact Lf_rfl _
  · have hT : gFact b pos = (⟨(gText b pos).1, (gVals b (gText b pos).2.1).1⟩, (gVals b (gText b pos).2.1).2.1, true) := if_pos ⟨by simpa using n0, by simpa using n1, by simpa using n2⟩
    rw [hT]; exact Lf_rfl _
def con_impl_GetFact : Con UU where
  α := (List Int) × Int
  md := [.ro, .ro]
  of := fun | [.one (.sl .byte a0), .one (.lit (.int .i64 a1))] => some (a0, a1) | _ => none
  ds := fun (b, pos) => [.one (.sl .byte b), .one (.lit (.int .i64 pos))]
  pre := fun (b, pos) => [b.length ≤ 4294967296]
  res := fun (b, pos) => ⟨[.agg [.lit (.string (((gFact b pos).1)).Kind), .sl .eVal (((gFact b pos).1)).Fields], .one (.lit (.int .i64 ((gFact b pos).2.1))), .one (.lit (.bool ((gFact b pos).2.2)))], true, []⟩
  law := by intro l x h; (try simp only at h); split at h <;> cases h; rfl
def I_impl_GetFact_9 (b : (List Int)) (pos : Int) : (ByteArray × List DVal × Unit) × Int × (ByteArray × List DVal × Unit) × Int × Unit → Prop := fun (r, p, f, i, _) => 0 ≤ i ∧ i ≤ (gNum b (gText b pos).2.1).1 ∧ f.1 = (gText b pos).1 ∧ f.2.1.length = i ∧ vLoop b ((gNum b (gText b pos).2.1).1 - i).toNat p f.2.1 = gVals b (gText b pos).2.1
def μ_impl_GetFact_9 (b : (List Int)) (pos : Int) : (ByteArray × List DVal × Unit) × Int × (ByteArray × List DVal × Unit) × Int × Unit → Nat := fun (r, p, f, i, _) => ((gNum b (gText b pos).2.1).1 - i).toNat
def ann_impl_GetFact : con_impl_GetFact.α → Nat → Option (Ann UU) := fun (b, pos) => annL [(9, annOf [.box 4 (4, 1024) [.lit .str, .own .eVal true], .slot 8 (8, 1024) (.lit (.int .i64)), .box 11 (11, 1024) [.lit .str, .own .eVal true], .slot 43 (43, 1024) (.lit (.int .i64))] (fun _ => I_impl_GetFact_9 b pos) (μ_impl_GetFact_9 b pos))]
def use_impl_GetFact : List (FuncId × Con UU) := [(96, con_impl_GetText), (95, con_impl_GetNum), (97, con_impl_inRange), (51, con_impl_GetVal), (98, con_impl_FactOk)]
theorem vc_impl_GetFact (b : (List Int)) (pos : Int) : goal EE use_impl_GetFact Go.Proofs.Try.f49 con_impl_GetFact ann_impl_GetFact (b, pos) = (List.length b ≤ (4294967296 : Nat) ∧
  bif !(gText b pos).2.2 then Lf [DV.agg [Cell.lit (Value.string { data := #[] : ByteArray }), Cell.sl Cd.eVal []], DV.one (Cell.lit (Value.int IntKind.i64 (0 : Int))), DV.one (Cell.lit (Value.bool false))] [DV.agg [Cell.lit (Value.string (gFact b pos).1.Kind), Cell.sl Cd.eVal (gFact b pos).1.Fields], DV.one (Cell.lit (Value.int IntKind.i64 (gFact b pos).2.1)), DV.one (Cell.lit (Value.bool (gFact b pos).2.2))]
  else
    List.length b ≤ (4294967296 : Nat) ∧
      bif !(gNum b (gText b pos).2.1).2.2 then Lf [DV.agg [Cell.lit (Value.string { data := #[] : ByteArray }), Cell.sl Cd.eVal []], DV.one (Cell.lit (Value.int IntKind.i64 (0 : Int))), DV.one (Cell.lit (Value.bool false))] [DV.agg [Cell.lit (Value.string (gFact b pos).1.Kind), Cell.sl Cd.eVal (gFact b pos).1.Fields], DV.one (Cell.lit (Value.int IntKind.i64 (gFact b pos).2.1)), DV.one (Cell.lit (Value.bool (gFact b pos).2.2))]
      else
        bif !decide ((0 : Int) ≤ (gNum b (gText b pos).2.1).1 ∧ (gNum b (gText b pos).2.1).1 ≤ (5 : Int)) then Lf [DV.agg [Cell.lit (Value.string { data := #[] : ByteArray }), Cell.sl Cd.eVal []], DV.one (Cell.lit (Value.int IntKind.i64 (0 : Int))), DV.one (Cell.lit (Value.bool false))] [DV.agg [Cell.lit (Value.string (gFact b pos).1.Kind), Cell.sl Cd.eVal (gFact b pos).1.Fields], DV.one (Cell.lit (Value.int IntKind.i64 (gFact b pos).2.1)), DV.one (Cell.lit (Value.bool (gFact b pos).2.2))]
        else
          I_impl_GetFact_9 b pos (({ data := #[] : ByteArray }, [], PUnit.unit), (gNum b (gText b pos).2.1).2.1, ((gText b pos).1, [], PUnit.unit), (0 : Int), PUnit.unit) ∧
            ∀ (y : (ByteArray × List DVal × PUnit) × Int × (ByteArray × List DVal × PUnit) × Int × PUnit),
              let x0 : List DVal := [(gVal b y.2.1).1];
              I_impl_GetFact_9 b pos y → bif decide (y.2.2.2.1 < (gNum b (gText b pos).2.1).1) then List.length b ≤ (4294967296 : Nat) ∧ bif !(gVal b y.2.1).2.2 then Lf [DV.agg [Cell.lit (Value.string { data := #[] : ByteArray }), Cell.sl Cd.eVal []], DV.one (Cell.lit (Value.int IntKind.i64 (0 : Int))), DV.one (Cell.lit (Value.bool false))] [DV.agg [Cell.lit (Value.string (gFact b pos).1.Kind), Cell.sl Cd.eVal (gFact b pos).1.Fields], DV.one (Cell.lit (Value.int IntKind.i64 (gFact b pos).2.1)), DV.one (Cell.lit (Value.bool (gFact b pos).2.2))] else List.length y.2.2.1.2.1 + List.length x0 ≤ (4294967296 : Nat) ∧ I_impl_GetFact_9 b pos ((y.1.1, y.1.2.1, PUnit.unit), (gVal b y.2.1).2.1, (y.2.2.1.1, y.2.2.1.2.1 ++ x0, PUnit.unit), IntKind.wrap IntKind.i64 (y.2.2.2.1 + (1 : Int)), PUnit.unit) ∧ μ_impl_GetFact_9 b pos ((y.1.1, y.1.2.1, PUnit.unit), (gVal b y.2.1).2.1, (y.2.2.1.1, y.2.2.1.2.1 ++ x0, PUnit.unit), IntKind.wrap IntKind.i64 (y.2.2.2.1 + (1 : Int)), PUnit.unit) < μ_impl_GetFact_9 b pos y else bif !factOk { Kind := y.2.2.1.1, Fields := y.2.2.1.2.1 : DFact } then Lf [DV.agg [Cell.lit (Value.string { data := #[] : ByteArray }), Cell.sl Cd.eVal []], DV.one (Cell.lit (Value.int IntKind.i64 (0 : Int))), DV.one (Cell.lit (Value.bool false))] [DV.agg [Cell.lit (Value.string (gFact b pos).1.Kind), Cell.sl Cd.eVal (gFact b pos).1.Fields], DV.one (Cell.lit (Value.int IntKind.i64 (gFact b pos).2.1)), DV.one (Cell.lit (Value.bool (gFact b pos).2.2))] else Lf [DV.agg [Cell.lit (Value.string y.2.2.1.1), Cell.sl Cd.eVal y.2.2.1.2.1], DV.one (Cell.lit (Value.int IntKind.i64 y.2.1)), DV.one (Cell.lit (Value.bool true))] [DV.agg [Cell.lit (Value.string (gFact b pos).1.Kind), Cell.sl Cd.eVal (gFact b pos).1.Fields], DV.one (Cell.lit (Value.int IntKind.i64 (gFact b pos).2.1)), DV.one (Cell.lit (Value.bool (gFact b pos).2.2))]) := by kernel_rfl
theorem ok_impl_GetFact : Holds EE (49, con_impl_GetFact) := by
  refine holds_of EE_ok Go.Proofs.Try.func49 con_impl_GetFact (by kernel_rfl) use_impl_GetFact (all_cons ok_impl_GetText (all_cons ok_impl_GetNum (all_cons ok_impl_inRange (all_cons ok_impl_GetVal (all_cons ok_impl_FactOk all_nil))))) ann_impl_GetFact (fun x hp hb => ?_)
  obtain ⟨b, pos⟩ := x
  have hb_b : BdDV (U := UU) (.one (.sl .byte b)) := hb _ (List.mem_cons_self)
  have hl_b : b.length ≤ 9223372036854775807 := Bd.len hb_b
  have hb_pos : BdDV (U := UU) (.one (.lit (.int .i64 pos))) := hb _ (List.mem_cons_of_mem _ (List.mem_cons_self))
  have hl_pos := Bd.i64 hb_pos
  have hp0 : b.length ≤ 4294967296 := hp _ (List.mem_cons_self)
  clear hp hb
  rw [vc_impl_GetFact b pos]
  dsimp only
  have hF : ¬ ((gText b pos).2.2 = true ∧ (gVals b (gText b pos).2.1).2.2 = true ∧ factOk ⟨(gText b pos).1, (gVals b (gText b pos).2.1).1⟩ = true) → gFact b pos = (zFact, 0, false) := fun h => if_neg h
  have hG : ¬ ((gNum b (gText b pos).2.1).2.2 = true ∧ 0 ≤ (gNum b (gText b pos).2.1).1 ∧ (gNum b (gText b pos).2.1).1 ≤ 5) → gVals b (gText b pos).2.1 = ([], 0, false) := fun h => if_neg h
  refine ⟨hp0, if_cond (fun n0 => ?_) (fun n0 => ⟨hp0, if_cond (fun n1 => ?_) (fun n1 => if_cond (fun n2 => ?_) (fun n2 => ?_))⟩)⟩
  · rw [hF (fun hh => by rw [hh.1] at n0; simp at n0)]; exact Lf_rfl _
  · rw [hF (fun hh => by rw [hG (fun h2 => by rw [h2.1] at n1; simp at n1)] at hh; simp at hh)]; exact Lf_rfl _
  · rw [hF (fun hh => by rw [hG (fun h2 => by rw [decide_eq_true h2.2] at n2; simp at n2)] at hh; simp at hh)]; exact Lf_rfl _
  have n0 : (gText b pos).2.2 = true := by simpa using n0
  have n1 : (gNum b (gText b pos).2.1).2.2 = true := by simpa using n1
  have n2 : 0 ≤ (gNum b (gText b pos).2.1).1 ∧ (gNum b (gText b pos).2.1).1 ≤ 5 := of_decide_eq_true (by simpa using n2)
  have hT : gVals b (gText b pos).2.1 = vLoop b (gNum b (gText b pos).2.1).1.toNat (gNum b (gText b pos).2.1).2.1 [] := if_pos ⟨n1, n2⟩
  refine ⟨⟨by omega, n2.1, rfl, rfl, by rw [hT, Int.sub_zero]⟩, ?_⟩
  rintro ⟨⟨rk, rl, ⟨⟩⟩, p, ⟨fk, fl, ⟨⟩⟩, i, ⟨⟩⟩ ⟨g1, g2, g3, g4, g5⟩
  dsimp only at g1 g2 g3 g4 g5 ⊢
  subst g3
  refine if_cond (fun hd => ⟨hp0, ?_⟩) (fun hd => ?_)
  · have hd := of_decide_eq_true hd
    have e : ((gNum b (gText b pos).2.1).1 - i).toNat = ((gNum b (gText b pos).2.1).1 - (i + 1)).toNat + 1 := by omega
    rw [e, vLoop] at g5
    rw [wrap_i64 (n := i + 1) (by omega) (by omega)]
    refine if_cond (fun hv => ?_) (fun hv => ?_)
    · rw [if_neg (by intro hh; rw [hh] at hv; simp at hv)] at g5
      rw [hF (fun hh => by rw [← g5] at hh; simp at hh)]; exact Lf_rfl _
    · rw [if_pos (by simpa using hv)] at g5
      exact ⟨by simp only [List.length_cons, List.length_nil]; omega, ⟨by omega, by omega, rfl, by simp only [List.length_append, List.length_cons, List.length_nil]; omega, g5⟩, by simp only [μ_impl_GetFact_9]; omega⟩
  · have hd := of_decide_eq_false hd
    have e : ((gNum b (gText b pos).2.1).1 - i).toNat = 0 := by omega
    rw [e, vLoop] at g5
    refine if_cond (fun n3 => ?_) (fun n3 => ?_)
    · rw [hF (fun hh => by rw [← g5] at hh; have h3 := hh.2.2; dsimp only at h3; rw [h3] at n3; simp at n3)]; exact Lf_rfl _
    · have hT2 : gFact b pos = (⟨(gText b pos).1, (gVals b (gText b pos).2.1).1⟩, (gVals b (gText b pos).2.1).2.1, true) := if_pos ⟨n0, by rw [← g5], by rw [← g5]; simpa using n3⟩
      rw [hT2, ← g5]; exact Lf_rfl _
structure DRd where
  b : List Int
  p : Int
  bad : Bool
def rNumOk (r : DRd) : Bool := !r.bad && (gNum r.b r.p).2.2
def rNumV (r : DRd) : Int := if rNumOk r = true then (gNum r.b r.p).1 else 0
def rNum (r : DRd) : DRd := if rNumOk r = true then ⟨r.b, (gNum r.b r.p).2.1, false⟩ else ⟨r.b, r.p, true⟩
def rTextOk (r : DRd) : Bool := !r.bad && (gText r.b r.p).2.2
def rTextV (r : DRd) : ByteArray := if rTextOk r = true then (gText r.b r.p).1 else noBytes
def rText (r : DRd) : DRd := if rTextOk r = true then ⟨r.b, (gText r.b r.p).2.1, false⟩ else ⟨r.b, r.p, true⟩
def rFlagV (r : DRd) : Bool := rNumV r == 1
def rFlag (r : DRd) : DRd := ⟨(rNum r).b, (rNum r).p, (rNum r).bad || !decide (0 ≤ rNumV r ∧ rNumV r ≤ 1)⟩
def iWent (r : DRd) (next : Int) (ok : Bool) : DRd := ⟨r.b, if (r.bad || !ok) = true then r.p else next, r.bad || !ok⟩
def iNumV (r : DRd) : Int := (gNum r.b r.p).1
def iNum (r : DRd) : DRd := iWent r (gNum r.b r.p).2.1 (gNum r.b r.p).2.2
def iTextV (r : DRd) : ByteArray := (gText r.b r.p).1
def iText (r : DRd) : DRd := iWent r (gText r.b r.p).2.1 (gText r.b r.p).2.2
def con_spec_l22Num : Con UU where
  α := DRd
  md := [.box false]
  of := fun | [.box [.sl .byte a0, .lit (.int .i64 a1), .lit (.bool a2)]] => some ⟨a0, a1, a2⟩ | _ => none
  ds := fun r => [.box [.sl .byte r.b, .lit (.int .i64 r.p), .lit (.bool r.bad)]]
  pre := fun r => [r.b.length ≤ 4294967296]
  res := fun r => ⟨[.one (.lit (.int .i64 (rNumV r)))], true, [.box [.sl .byte ((rNum r)).b, .lit (.int .i64 ((rNum r)).p), .lit (.bool ((rNum r)).bad)]]⟩
  law := by intro l x h; (try simp only at h); split at h <;> cases h; rfl
def ann_spec_l22Num : con_spec_l22Num.α → Nat → Option (Ann UU) := fun r => annL []
def use_spec_l22Num : List (FuncId × Con UU) := [(100, con_spec_GetNum)]
theorem vc_spec_l22Num (r : DRd) : goal EE use_spec_l22Num Go.Proofs.Try.f53 con_spec_l22Num ann_spec_l22Num r = (List.length r.b ≤ (4294967296 : Nat) ∧ bif r.bad then (0 : Nat) = (0 : Nat) ∧ asD [DV.one (Cell.lit (Value.int IntKind.i64 (0 : Int)))] = asD [DV.one (Cell.lit (Value.int IntKind.i64 (rNumV r)))] ∧ asD [DV.box [Cell.sl Cd.byte r.b, Cell.lit (Value.int IntKind.i64 r.p), Cell.lit (Value.bool true)]] = asD [DV.box [Cell.sl Cd.byte (rNum r).b, Cell.lit (Value.int IntKind.i64 (rNum r).p), Cell.lit (Value.bool (rNum r).bad)]] else bif !(gNum r.b r.p).2.2 then (0 : Nat) = (0 : Nat) ∧ asD [DV.one (Cell.lit (Value.int IntKind.i64 (0 : Int)))] = asD [DV.one (Cell.lit (Value.int IntKind.i64 (rNumV r)))] ∧ asD [DV.box [Cell.sl Cd.byte r.b, Cell.lit (Value.int IntKind.i64 r.p), Cell.lit (Value.bool true)]] = asD [DV.box [Cell.sl Cd.byte (rNum r).b, Cell.lit (Value.int IntKind.i64 (rNum r).p), Cell.lit (Value.bool (rNum r).bad)]] else (0 : Nat) = (0 : Nat) ∧ asD [DV.one (Cell.lit (Value.int IntKind.i64 (gNum r.b r.p).1))] = asD [DV.one (Cell.lit (Value.int IntKind.i64 (rNumV r)))] ∧ asD [DV.box [Cell.sl Cd.byte r.b, Cell.lit (Value.int IntKind.i64 (gNum r.b r.p).2.1), Cell.lit (Value.bool r.bad)]] = asD [DV.box [Cell.sl Cd.byte (rNum r).b, Cell.lit (Value.int IntKind.i64 (rNum r).p), Cell.lit (Value.bool (rNum r).bad)]]) := by kernel_rfl
theorem ok_spec_l22Num : Holds EE (53, con_spec_l22Num) := by
  refine holds_of EE_ok Go.Proofs.Try.func53 con_spec_l22Num (by kernel_rfl) use_spec_l22Num (all_cons ok_spec_GetNum all_nil) ann_spec_l22Num (fun (r : DRd) hp hb => ?_)
  have hb_r : BdDV (U := UU) (.box [.sl .byte r.b, .lit (.int .i64 r.p), .lit (.bool r.bad)]) := hb _ (List.mem_cons_self)
  have hl_r_b : r.b.length ≤ 9223372036854775807 := Bd.len (U := UU) (τ := .byte) (xs := r.b) (hb_r _ (by simp))
  have hp0 : r.b.length ≤ 4294967296 := hp _ (List.mem_cons_self)
  clear hp hb
  rw [vc_spec_l22Num r]
  refine ⟨hp0, if_cond (fun h => ?_) (fun h => if_cond (fun h2 => ?_) (fun h2 => ?_))⟩
  · have e : rNumOk r = false := by simp [rNumOk, h]
    rw [rNumV, rNum, if_neg (by rw [e]; simp), if_neg (by rw [e]; simp)]; exact ⟨by trivial, rfl, rfl⟩
  · have e : rNumOk r = false := by simp at h2; simp [rNumOk, h2]
    rw [rNumV, rNum, if_neg (by rw [e]; simp), if_neg (by rw [e]; simp)]; exact ⟨by trivial, rfl, rfl⟩
  · have e : rNumOk r = true := by simp at h2; simp [rNumOk, h, h2]
    rw [rNumV, rNum, if_pos e, if_pos e, h]; exact ⟨by trivial, rfl, rfl⟩
def con_spec_l22Text : Con UU where
  α := DRd
  md := [.box false]
  of := fun | [.box [.sl .byte a0, .lit (.int .i64 a1), .lit (.bool a2)]] => some ⟨a0, a1, a2⟩ | _ => none
  ds := fun r => [.box [.sl .byte r.b, .lit (.int .i64 r.p), .lit (.bool r.bad)]]
  pre := fun r => [r.b.length ≤ 4294967296]
  res := fun r => ⟨[.one (.lit (.string (rTextV r)))], true, [.box [.sl .byte ((rText r)).b, .lit (.int .i64 ((rText r)).p), .lit (.bool ((rText r)).bad)]]⟩
  law := by intro l x h; (try simp only at h); split at h <;> cases h; rfl
def ann_spec_l22Text : con_spec_l22Text.α → Nat → Option (Ann UU) := fun r => annL []
def use_spec_l22Text : List (FuncId × Con UU) := [(101, con_spec_GetText)]
theorem vc_spec_l22Text (r : DRd) : goal EE use_spec_l22Text Go.Proofs.Try.f54 con_spec_l22Text ann_spec_l22Text r = (List.length r.b ≤ (4294967296 : Nat) ∧ bif r.bad then (0 : Nat) = (0 : Nat) ∧ asD [DV.one (Cell.lit (Value.string { data := #[] : ByteArray }))] = asD [DV.one (Cell.lit (Value.string (rTextV r)))] ∧ asD [DV.box [Cell.sl Cd.byte r.b, Cell.lit (Value.int IntKind.i64 r.p), Cell.lit (Value.bool true)]] = asD [DV.box [Cell.sl Cd.byte (rText r).b, Cell.lit (Value.int IntKind.i64 (rText r).p), Cell.lit (Value.bool (rText r).bad)]] else bif !(gText r.b r.p).2.2 then (0 : Nat) = (0 : Nat) ∧ asD [DV.one (Cell.lit (Value.string { data := #[] : ByteArray }))] = asD [DV.one (Cell.lit (Value.string (rTextV r)))] ∧ asD [DV.box [Cell.sl Cd.byte r.b, Cell.lit (Value.int IntKind.i64 r.p), Cell.lit (Value.bool true)]] = asD [DV.box [Cell.sl Cd.byte (rText r).b, Cell.lit (Value.int IntKind.i64 (rText r).p), Cell.lit (Value.bool (rText r).bad)]] else (0 : Nat) = (0 : Nat) ∧ asD [DV.one (Cell.lit (Value.string (gText r.b r.p).1))] = asD [DV.one (Cell.lit (Value.string (rTextV r)))] ∧ asD [DV.box [Cell.sl Cd.byte r.b, Cell.lit (Value.int IntKind.i64 (gText r.b r.p).2.1), Cell.lit (Value.bool r.bad)]] = asD [DV.box [Cell.sl Cd.byte (rText r).b, Cell.lit (Value.int IntKind.i64 (rText r).p), Cell.lit (Value.bool (rText r).bad)]]) := by kernel_rfl
theorem ok_spec_l22Text : Holds EE (54, con_spec_l22Text) := by
  refine holds_of EE_ok Go.Proofs.Try.func54 con_spec_l22Text (by kernel_rfl) use_spec_l22Text (all_cons ok_spec_GetText all_nil) ann_spec_l22Text (fun (r : DRd) hp hb => ?_)
  have hb_r : BdDV (U := UU) (.box [.sl .byte r.b, .lit (.int .i64 r.p), .lit (.bool r.bad)]) := hb _ (List.mem_cons_self)
  have hl_r_b : r.b.length ≤ 9223372036854775807 := Bd.len (U := UU) (τ := .byte) (xs := r.b) (hb_r _ (by simp))
  have hp0 : r.b.length ≤ 4294967296 := hp _ (List.mem_cons_self)
  clear hp hb
  rw [vc_spec_l22Text r]
  refine ⟨hp0, if_cond (fun h => ?_) (fun h => if_cond (fun h2 => ?_) (fun h2 => ?_))⟩
  · have e : rTextOk r = false := by simp [rTextOk, h]
    rw [rTextV, rText, if_neg (by rw [e]; simp), if_neg (by rw [e]; simp)]; exact ⟨by trivial, rfl, rfl⟩
  · have e : rTextOk r = false := by simp at h2; simp [rTextOk, h2]
    rw [rTextV, rText, if_neg (by rw [e]; simp), if_neg (by rw [e]; simp)]; exact ⟨by trivial, rfl, rfl⟩
  · have e : rTextOk r = true := by simp at h2; simp [rTextOk, h, h2]
    rw [rTextV, rText, if_pos e, if_pos e, h]; exact ⟨by trivial, rfl, rfl⟩
def con_spec_l22Flag : Con UU where
  α := DRd
  md := [.box false]
  of := fun | [.box [.sl .byte a0, .lit (.int .i64 a1), .lit (.bool a2)]] => some ⟨a0, a1, a2⟩ | _ => none
  ds := fun r => [.box [.sl .byte r.b, .lit (.int .i64 r.p), .lit (.bool r.bad)]]
  pre := fun r => [r.b.length ≤ 4294967296]
  res := fun r => ⟨[.one (.lit (.bool (rFlagV r)))], true, [.box [.sl .byte ((rFlag r)).b, .lit (.int .i64 ((rFlag r)).p), .lit (.bool ((rFlag r)).bad)]]⟩
  law := by intro l x h; (try simp only at h); split at h <;> cases h; rfl
def ann_spec_l22Flag : con_spec_l22Flag.α → Nat → Option (Ann UU) := fun r => annL []
def use_spec_l22Flag : List (FuncId × Con UU) := [(53, con_spec_l22Num), (61, con_spec_l1In)]
theorem vc_spec_l22Flag (r : DRd) : goal EE use_spec_l22Flag Go.Proofs.Try.f55 con_spec_l22Flag ann_spec_l22Flag r = (List.length r.b ≤ (4294967296 : Nat) ∧ bif (rNum r).bad then (0 : Nat) = (0 : Nat) ∧ asD [DV.one (Cell.lit (Value.bool (rNumV r == (1 : Int))))] = asD [DV.one (Cell.lit (Value.bool (rFlagV r)))] ∧ asD [DV.box [Cell.sl Cd.byte (rNum r).b, Cell.lit (Value.int IntKind.i64 (rNum r).p), Cell.lit (Value.bool true)]] = asD [DV.box [Cell.sl Cd.byte (rFlag r).b, Cell.lit (Value.int IntKind.i64 (rFlag r).p), Cell.lit (Value.bool (rFlag r).bad)]] else (0 : Nat) = (0 : Nat) ∧ asD [DV.one (Cell.lit (Value.bool (rNumV r == (1 : Int))))] = asD [DV.one (Cell.lit (Value.bool (rFlagV r)))] ∧ asD [DV.box [Cell.sl Cd.byte (rNum r).b, Cell.lit (Value.int IntKind.i64 (rNum r).p), Cell.lit (Value.bool !decide ((0 : Int) ≤ rNumV r ∧ rNumV r ≤ (1 : Int)))]] = asD [DV.box [Cell.sl Cd.byte (rFlag r).b, Cell.lit (Value.int IntKind.i64 (rFlag r).p), Cell.lit (Value.bool (rFlag r).bad)]]) := by kernel_rfl
theorem ok_spec_l22Flag : Holds EE (55, con_spec_l22Flag) := by
  refine holds_of EE_ok Go.Proofs.Try.func55 con_spec_l22Flag (by kernel_rfl) use_spec_l22Flag (all_cons ok_spec_l22Num (all_cons ok_spec_l1In all_nil)) ann_spec_l22Flag (fun (r : DRd) hp hb => ?_)
  have hb_r : BdDV (U := UU) (.box [.sl .byte r.b, .lit (.int .i64 r.p), .lit (.bool r.bad)]) := hb _ (List.mem_cons_self)
  have hl_r_b : r.b.length ≤ 9223372036854775807 := Bd.len (U := UU) (τ := .byte) (xs := r.b) (hb_r _ (by simp))
  have hp0 : r.b.length ≤ 4294967296 := hp _ (List.mem_cons_self)
  clear hp hb
  rw [vc_spec_l22Flag r]
  refine ⟨hp0, if_cond (fun h => ?_) (fun h => ?_)⟩
  · have e : rFlag r = ⟨(rNum r).b, (rNum r).p, true⟩ := by simp [rFlag, h]
    rw [e]; exact ⟨by trivial, rfl, rfl⟩
  · have e : rFlag r = ⟨(rNum r).b, (rNum r).p, !decide (0 ≤ rNumV r ∧ rNumV r ≤ 1)⟩ := by simp [rFlag, h]
    rw [e]; exact ⟨by trivial, rfl, rfl⟩
def con_impl_opReader_went : Con UU where
  α := DRd × Int × Bool
  md := [.box false, .ro, .ro]
  of := fun | [.box [.sl .byte a0, .lit (.int .i64 a1), .lit (.bool a2)], .one (.lit (.int .i64 a3)), .one (.lit (.bool a4))] => some (⟨a0, a1, a2⟩, a3, a4) | _ => none
  ds := fun (r, next, ok) => [.box [.sl .byte r.b, .lit (.int .i64 r.p), .lit (.bool r.bad)], .one (.lit (.int .i64 next)), .one (.lit (.bool ok))]
  pre := fun (r, next, ok) => []
  res := fun (r, next, ok) => ⟨[.one (.lit (.bool (!(iWent r next ok).bad)))], true, [.box [.sl .byte ((iWent r next ok)).b, .lit (.int .i64 ((iWent r next ok)).p), .lit (.bool ((iWent r next ok)).bad)]]⟩
  law := by intro l x h; (try simp only at h); split at h <;> cases h; rfl
def ann_impl_opReader_went : con_impl_opReader_went.α → Nat → Option (Ann UU) := fun (r, next, ok) => annL []
def use_impl_opReader_went : List (FuncId × Con UU) := []
theorem vc_impl_opReader_went (r : DRd) (next : Int) (ok : Bool) : goal EE use_impl_opReader_went Go.Proofs.Try.f50 con_impl_opReader_went ann_impl_opReader_went (r, next, ok) = (bif r.bad then (0 : Nat) = (0 : Nat) ∧ asD [DV.one (Cell.lit (Value.bool false))] = asD [DV.one (Cell.lit (Value.bool !(iWent r next ok).bad))] ∧ asD [DV.box [Cell.sl Cd.byte r.b, Cell.lit (Value.int IntKind.i64 r.p), Cell.lit (Value.bool true)]] = asD [DV.box [Cell.sl Cd.byte (iWent r next ok).b, Cell.lit (Value.int IntKind.i64 (iWent r next ok).p), Cell.lit (Value.bool (iWent r next ok).bad)]] else bif !!ok then (0 : Nat) = (0 : Nat) ∧ asD [DV.one (Cell.lit (Value.bool !!ok))] = asD [DV.one (Cell.lit (Value.bool !(iWent r next ok).bad))] ∧ asD [DV.box [Cell.sl Cd.byte r.b, Cell.lit (Value.int IntKind.i64 next), Cell.lit (Value.bool !ok)]] = asD [DV.box [Cell.sl Cd.byte (iWent r next ok).b, Cell.lit (Value.int IntKind.i64 (iWent r next ok).p), Cell.lit (Value.bool (iWent r next ok).bad)]] else (0 : Nat) = (0 : Nat) ∧ asD [DV.one (Cell.lit (Value.bool !!ok))] = asD [DV.one (Cell.lit (Value.bool !(iWent r next ok).bad))] ∧ asD [DV.box [Cell.sl Cd.byte r.b, Cell.lit (Value.int IntKind.i64 r.p), Cell.lit (Value.bool !ok)]] = asD [DV.box [Cell.sl Cd.byte (iWent r next ok).b, Cell.lit (Value.int IntKind.i64 (iWent r next ok).p), Cell.lit (Value.bool (iWent r next ok).bad)]]) := by kernel_rfl
theorem ok_impl_opReader_went : Holds EE (50, con_impl_opReader_went) := by
  refine holds_of EE_ok Go.Proofs.Try.func50 con_impl_opReader_went (by kernel_rfl) use_impl_opReader_went all_nil ann_impl_opReader_went (fun x hp hb => ?_)
  obtain ⟨r, next, ok⟩ := x
  have hb_r : BdDV (U := UU) (.box [.sl .byte r.b, .lit (.int .i64 r.p), .lit (.bool r.bad)]) := hb _ (List.mem_cons_self)
  have hl_r_b : r.b.length ≤ 9223372036854775807 := Bd.len (U := UU) (τ := .byte) (xs := r.b) (hb_r _ (by simp))
  have hb_next : BdDV (U := UU) (.one (.lit (.int .i64 next))) := hb _ (List.mem_cons_of_mem _ (List.mem_cons_self))
  have hl_next := Bd.i64 hb_next
  have hb_ok : BdDV (U := UU) (.one (.lit (.bool ok))) := hb _ (List.mem_cons_of_mem _ (List.mem_cons_of_mem _ (List.mem_cons_self)))
  clear hp hb
  rw [vc_impl_opReader_went r next ok]
  refine if_cond (fun h => ?_) (fun h => if_cond (fun h2 => ?_) (fun h2 => ?_))
  · have e : iWent r next ok = ⟨r.b, r.p, true⟩ := by simp [iWent, h]
    rw [e]; exact ⟨by trivial, rfl, rfl⟩
  · obtain rfl : ok = true := by simpa using h2
    have e : iWent r next true = ⟨r.b, next, false⟩ := by simp [iWent, h]
    rw [e]; exact ⟨by trivial, rfl, rfl⟩
  · obtain rfl : ok = false := by simpa using h2
    have e : iWent r next false = ⟨r.b, r.p, true⟩ := by simp [iWent]
    rw [e]; exact ⟨by trivial, rfl, rfl⟩
def con_impl_opReader_num : Con UU where
  α := DRd
  md := [.box false]
  of := fun | [.box [.sl .byte a0, .lit (.int .i64 a1), .lit (.bool a2)]] => some ⟨a0, a1, a2⟩ | _ => none
  ds := fun r => [.box [.sl .byte r.b, .lit (.int .i64 r.p), .lit (.bool r.bad)]]
  pre := fun r => [r.b.length ≤ 4294967296]
  res := fun r => ⟨[.one (.lit (.int .i64 (iNumV r)))], true, [.box [.sl .byte ((iNum r)).b, .lit (.int .i64 ((iNum r)).p), .lit (.bool ((iNum r)).bad)]]⟩
  law := by intro l x h; (try simp only at h); split at h <;> cases h; rfl
def ann_impl_opReader_num : con_impl_opReader_num.α → Nat → Option (Ann UU) := fun r => annL []
def use_impl_opReader_num : List (FuncId × Con UU) := [(95, con_impl_GetNum), (50, con_impl_opReader_went)]
theorem vc_impl_opReader_num (r : DRd) : goal EE use_impl_opReader_num Go.Proofs.Try.f47 con_impl_opReader_num ann_impl_opReader_num r = (let x0 : DRd := iWent r (gNum r.b r.p).2.1 (gNum r.b r.p).2.2;
List.length r.b ≤ (4294967296 : Nat) ∧ (0 : Nat) = (0 : Nat) ∧ asD [DV.one (Cell.lit (Value.int IntKind.i64 (gNum r.b r.p).1))] = asD [DV.one (Cell.lit (Value.int IntKind.i64 (iNumV r)))] ∧ asD [DV.box [Cell.sl Cd.byte x0.b, Cell.lit (Value.int IntKind.i64 x0.p), Cell.lit (Value.bool x0.bad)]] = asD [DV.box [Cell.sl Cd.byte (iNum r).b, Cell.lit (Value.int IntKind.i64 (iNum r).p), Cell.lit (Value.bool (iNum r).bad)]]) := by kernel_rfl
theorem ok_impl_opReader_num : Holds EE (47, con_impl_opReader_num) := by
  refine holds_of EE_ok Go.Proofs.Try.func47 con_impl_opReader_num (by kernel_rfl) use_impl_opReader_num (all_cons ok_impl_GetNum (all_cons ok_impl_opReader_went all_nil)) ann_impl_opReader_num (fun (r : DRd) hp hb => ?_)
  have hb_r : BdDV (U := UU) (.box [.sl .byte r.b, .lit (.int .i64 r.p), .lit (.bool r.bad)]) := hb _ (List.mem_cons_self)
  have hl_r_b : r.b.length ≤ 9223372036854775807 := Bd.len (U := UU) (τ := .byte) (xs := r.b) (hb_r _ (by simp))
  have hp0 : r.b.length ≤ 4294967296 := hp _ (List.mem_cons_self)
  clear hp hb
  rw [vc_impl_opReader_num r]
  dsimp only
  exact ⟨hp0, by trivial, rfl, rfl⟩
def con_impl_opReader_text : Con UU where
  α := DRd
  md := [.box false]
  of := fun | [.box [.sl .byte a0, .lit (.int .i64 a1), .lit (.bool a2)]] => some ⟨a0, a1, a2⟩ | _ => none
  ds := fun r => [.box [.sl .byte r.b, .lit (.int .i64 r.p), .lit (.bool r.bad)]]
  pre := fun r => [r.b.length ≤ 4294967296]
  res := fun r => ⟨[.one (.lit (.string (iTextV r)))], true, [.box [.sl .byte ((iText r)).b, .lit (.int .i64 ((iText r)).p), .lit (.bool ((iText r)).bad)]]⟩
  law := by intro l x h; (try simp only at h); split at h <;> cases h; rfl
def ann_impl_opReader_text : con_impl_opReader_text.α → Nat → Option (Ann UU) := fun r => annL []
def use_impl_opReader_text : List (FuncId × Con UU) := [(96, con_impl_GetText), (50, con_impl_opReader_went)]
theorem vc_impl_opReader_text (r : DRd) : goal EE use_impl_opReader_text Go.Proofs.Try.f48 con_impl_opReader_text ann_impl_opReader_text r = (let x0 : DRd := iWent r (gText r.b r.p).2.1 (gText r.b r.p).2.2;
List.length r.b ≤ (4294967296 : Nat) ∧ (0 : Nat) = (0 : Nat) ∧ asD [DV.one (Cell.lit (Value.string (gText r.b r.p).1))] = asD [DV.one (Cell.lit (Value.string (iTextV r)))] ∧ asD [DV.box [Cell.sl Cd.byte x0.b, Cell.lit (Value.int IntKind.i64 x0.p), Cell.lit (Value.bool x0.bad)]] = asD [DV.box [Cell.sl Cd.byte (iText r).b, Cell.lit (Value.int IntKind.i64 (iText r).p), Cell.lit (Value.bool (iText r).bad)]]) := by kernel_rfl
theorem ok_impl_opReader_text : Holds EE (48, con_impl_opReader_text) := by
  refine holds_of EE_ok Go.Proofs.Try.func48 con_impl_opReader_text (by kernel_rfl) use_impl_opReader_text (all_cons ok_impl_GetText (all_cons ok_impl_opReader_went all_nil)) ann_impl_opReader_text (fun (r : DRd) hp hb => ?_)
  have hb_r : BdDV (U := UU) (.box [.sl .byte r.b, .lit (.int .i64 r.p), .lit (.bool r.bad)]) := hb _ (List.mem_cons_self)
  have hl_r_b : r.b.length ≤ 9223372036854775807 := Bd.len (U := UU) (τ := .byte) (xs := r.b) (hb_r _ (by simp))
  have hp0 : r.b.length ≤ 4294967296 := hp _ (List.mem_cons_self)
  clear hp hb
  rw [vc_impl_opReader_text r]
  dsimp only
  exact ⟨hp0, by trivial, rfl, rfl⟩
def con_bytes_Equal : Con UU where
  α := (List Int) × (List Int)
  md := [.ro, .ro]
  of := fun | [.one (.sl .byte a0), .one (.sl .byte a1)] => some (a0, a1) | _ => none
  ds := fun (a, b) => [.one (.sl .byte a), .one (.sl .byte b)]
  pre := fun (a, b) => []
  res := fun (a, b) => ⟨[.one (.lit (.bool (decide (a = b))))], true, []⟩
  law := by intro l x h; (try simp only at h); split at h <;> cases h; rfl
def ann_bytes_Equal : con_bytes_Equal.α → Nat → Option (Ann UU) := fun (a, b) => annL []
def use_bytes_Equal : List (FuncId × Con UU) := []
theorem vc_bytes_Equal (a : (List Int)) (b : (List Int)) : goal EE use_bytes_Equal Go.Proofs.Try.f52 con_bytes_Equal ann_bytes_Equal (a, b) = (Lf [DV.one (Cell.lit (Value.bool (ByteArray.toList (strOfNums (List.map (fun (x : Cd.T Cd.byte) => x) a)) == ByteArray.toList (strOfNums (List.map (fun (x : Cd.T Cd.byte) => x) b)))))] [DV.one (Cell.lit (Value.bool (decide (a = b))))]) := by kernel_rfl
theorem ok_bytes_Equal : Holds EE (52, con_bytes_Equal) := by
  refine holds_of EE_ok Go.Proofs.Try.func52 con_bytes_Equal (by kernel_rfl) use_bytes_Equal all_nil ann_bytes_Equal (fun x hp hb => ?_)
  obtain ⟨a, b⟩ := x
  have hb_a : BdDV (U := UU) (.one (.sl .byte a)) := hb _ (List.mem_cons_self)
  have hl_a : a.length ≤ 9223372036854775807 := Bd.len hb_a
  have hb_b : BdDV (U := UU) (.one (.sl .byte b)) := hb _ (List.mem_cons_of_mem _ (List.mem_cons_self))
  have hl_b : b.length ≤ 9223372036854775807 := Bd.len hb_b
  clear hp hb
  rw [vc_bytes_Equal a b]
  have ha := bytes_of hb_a
  have hb := bytes_of hb_b
  rw [toList_beq]
  refine Lf_b (decide_eq_decide.2 ⟨fun h => ?_, fun h => by rw [h]⟩)
  have h : txtOf a = txtOf b := h
  rw [← txtI_of ha, ← txtI_of hb, h]
def rStart (b : List Int) : DRd := ⟨b, 0, false⟩
def q1 (b : List Int) : DRd := rNum (rStart b)
def q2 (b : List Int) : DRd := rText (q1 b)
def q3 (b : List Int) : DRd := rText (q2 b)
def q4 (b : List Int) : DRd := rFlag (q3 b)
def q5 (b : List Int) : DRd := if rFlagV (q3 b) = true then ⟨(q4 b).b, (gFact (q4 b).b (q4 b).p).2.1, (q4 b).bad || !(gFact (q4 b).b (q4 b).p).2.2 || (rNumV (rStart b) != 3)⟩ else q4 b
def qF (b : List Int) : DFact := if rFlagV (q3 b) = true then (gFact (q4 b).b (q4 b).p).1 else zFact
def q6 (b : List Int) : DRd := rText (q5 b)
def q7 (b : List Int) : DRd := rFlag (q6 b)
def q8 (b : List Int) : DRd := rFlag (q7 b)
def q9 (b : List Int) : DRd := if rFlagV (q7 b) = true then ⟨(q8 b).b, (gVal (q8 b).b (q8 b).p).2.1, (q8 b).bad || !(gVal (q8 b).b (q8 b).p).2.2 || (rNumV (rStart b) != 4)⟩ else q8 b
def qV (b : List Int) : DVal := if rFlagV (q7 b) = true then (gVal (q8 b).b (q8 b).p).1 else zVal
def q10 (b : List Int) : DRd := rNum (q9 b)
def qO (b : List Int) : DOp := ⟨rNumV (rStart b), rTextV (q1 b), rTextV (q2 b), qF b, rTextV (q5 b), rFlagV (q6 b), qV b, rNumV (q9 b)⟩
def gOp (b : List Int) : DOp × Bool := if (q10 b).bad = false ∧ (q10 b).p = b.length ∧ opOk (qO b) = true then (qO b, true) else (zOp, false)
theorem rNum_b (r : DRd) : (rNum r).b = r.b := by unfold rNum; split <;> rfl
theorem rText_b (r : DRd) : (rText r).b = r.b := by unfold rText; split <;> rfl
theorem rFlag_b (r : DRd) : (rFlag r).b = r.b := rNum_b r
theorem q1_b (b : List Int) : (q1 b).b = b := rNum_b _
theorem q2_b (b : List Int) : (q2 b).b = b := (rText_b _).trans (q1_b b)
theorem q3_b (b : List Int) : (q3 b).b = b := (rText_b _).trans (q2_b b)
theorem q4_b (b : List Int) : (q4 b).b = b := (rFlag_b _).trans (q3_b b)
theorem q5_b (b : List Int) : (q5 b).b = b := by unfold q5; split <;> exact q4_b b
theorem q6_b (b : List Int) : (q6 b).b = b := (rText_b _).trans (q5_b b)
theorem q7_b (b : List Int) : (q7 b).b = b := (rFlag_b _).trans (q6_b b)
theorem q8_b (b : List Int) : (q8 b).b = b := (rFlag_b _).trans (q7_b b)
theorem q9_b (b : List Int) : (q9 b).b = b := by unfold q9; split <;> exact q8_b b
theorem not_f {x : Bool} (h : (!x) = false) : x = true := by cases x <;> simp_all
theorem rNum_bad {r : DRd} (h : r.bad = true) : (rNum r).bad = true := by simp [rNum, rNumOk, h]
theorem rText_bad {r : DRd} (h : r.bad = true) : (rText r).bad = true := by simp [rText, rTextOk, h]
theorem rFlag_bad {r : DRd} (h : r.bad = true) : (rFlag r).bad = true := by simp [rFlag, rNum_bad h]
theorem bad8 {b : List Int} (h : (q8 b).bad = true) : (q9 b).bad = true := by unfold q9; split <;> simp [h]
theorem bad5 {b : List Int} (h : (q5 b).bad = true) : (q9 b).bad = true := bad8 (rFlag_bad (rFlag_bad (rText_bad h)))
theorem gOp_bad {b : List Int} (h : (q9 b).bad = true) : gOp b = (zOp, false) := by
  have h10 : (q10 b).bad = true := rNum_bad h
  rw [gOp, if_neg (fun hh => by rw [hh.1] at h10; simp at h10)]
def con_spec_GetOp : Con UU where
  α := (List Int)
  md := [.ro]
  of := fun | [.one (.sl .byte a0)] => some a0 | _ => none
  ds := fun b => [.one (.sl .byte b)]
  pre := fun b => [b.length ≤ 4294967296]
  res := fun b => ⟨[.agg [.lit (.int .i64 (((gOp b).1)).Kind), .lit (.string (((gOp b).1)).Name), .lit (.string (((gOp b).1)).Text), .lit (.string ((((gOp b).1)).F).Kind), .sl .eVal ((((gOp b).1)).F).Fields, .lit (.string (((gOp b).1)).Key), .lit (.bool (((gOp b).1)).Ok), .lit (.int .i64 ((((gOp b).1)).V).K), .lit (.int .i64 ((((gOp b).1)).V).N), .lit (.string ((((gOp b).1)).V).S), .lit (.int .i64 (((gOp b).1)).N)], .one (.lit (.bool ((gOp b).2)))], true, []⟩
  law := by intro l x h; (try simp only at h); split at h <;> cases h; rfl
def ann_spec_GetOp : con_spec_GetOp.α → Nat → Option (Ann UU) := fun b => annL []
def use_spec_GetOp : List (FuncId × Con UU) := [(53, con_spec_l22Num), (54, con_spec_l22Text), (55, con_spec_l22Flag), (56, con_spec_GetFact), (57, con_spec_GetVal), (15, con_spec_OpOk)]
theorem vc_spec_GetOp (b : (List Int)) : goal EE use_spec_GetOp Go.Proofs.Try.f13 con_spec_GetOp ann_spec_GetOp b = (let x0 : DRd := rFlag (rFlag (rText { b := (rFlag (rText (rText (rNum { b := b, p := (0 : Int), bad := false : DRd })))).b, p := (gFact (rFlag (rText (rText (rNum { b := b, p := (0 : Int), bad := false : DRd })))).b (rFlag (rText (rText (rNum { b := b, p := (0 : Int), bad := false : DRd })))).p).2.1, bad := rNumV { b := b, p := (0 : Int), bad := false : DRd } != (3 : Int) : DRd }));
let x1 : Bool := rFlagV (rText { b := (rFlag (rText (rText (rNum { b := b, p := (0 : Int), bad := false : DRd })))).b, p := (gFact (rFlag (rText (rText (rNum { b := b, p := (0 : Int), bad := false : DRd })))).b (rFlag (rText (rText (rNum { b := b, p := (0 : Int), bad := false : DRd })))).p).2.1, bad := rNumV { b := b, p := (0 : Int), bad := false : DRd } != (3 : Int) : DRd });
let x2 : ByteArray := rTextV { b := (rFlag (rText (rText (rNum { b := b, p := (0 : Int), bad := false : DRd })))).b, p := (gFact (rFlag (rText (rText (rNum { b := b, p := (0 : Int), bad := false : DRd })))).b (rFlag (rText (rText (rNum { b := b, p := (0 : Int), bad := false : DRd })))).p).2.1, bad := rNumV { b := b, p := (0 : Int), bad := false : DRd } != (3 : Int) : DRd };
let x3 : List Int := (rFlag { b := (rText { b := (rFlag (rText (rText (rNum { b := b, p := (0 : Int), bad := false : DRd })))).b, p := (gFact (rFlag (rText (rText (rNum { b := b, p := (0 : Int), bad := false : DRd })))).b (rFlag (rText (rText (rNum { b := b, p := (0 : Int), bad := false : DRd })))).p).2.1, bad := true : DRd }).b, p := (rText { b := (rFlag (rText (rText (rNum { b := b, p := (0 : Int), bad := false : DRd })))).b, p := (gFact (rFlag (rText (rText (rNum { b := b, p := (0 : Int), bad := false : DRd })))).b (rFlag (rText (rText (rNum { b := b, p := (0 : Int), bad := false : DRd })))).p).2.1, bad := true : DRd }).p, bad := true : DRd }).b;
let x4 : Int := rNumV { b := (rFlag (rFlag (rText (rFlag (rText (rText (rNum { b := b, p := (0 : Int), bad := false : DRd }))))))).b, p := (gVal (rFlag (rFlag (rText (rFlag (rText (rText (rNum { b := b, p := (0 : Int), bad := false : DRd }))))))).b (rFlag (rFlag (rText (rFlag (rText (rText (rNum { b := b, p := (0 : Int), bad := false : DRd }))))))).p).2.1, bad := rNumV { b := b, p := (0 : Int), bad := false : DRd } != (4 : Int) : DRd };
let x5 : DRd := rNum { b := (rFlag (rFlag (rText (rFlag (rText (rText (rNum { b := b, p := (0 : Int), bad := false : DRd }))))))).b, p := (gVal (rFlag (rFlag (rText (rFlag (rText (rText (rNum { b := b, p := (0 : Int), bad := false : DRd }))))))).b (rFlag (rFlag (rText (rFlag (rText (rText (rNum { b := b, p := (0 : Int), bad := false : DRd }))))))).p).2.1, bad := rNumV { b := b, p := (0 : Int), bad := false : DRd } != (4 : Int) : DRd };
let x6 : DRd := rFlag (rText { b := (rFlag (rText (rText (rNum { b := b, p := (0 : Int), bad := false : DRd })))).b, p := (gFact (rFlag (rText (rText (rNum { b := b, p := (0 : Int), bad := false : DRd })))).b (rFlag (rText (rText (rNum { b := b, p := (0 : Int), bad := false : DRd })))).p).2.1, bad := rNumV { b := b, p := (0 : Int), bad := false : DRd } != (3 : Int) : DRd });
let x7 : DRd := rFlag (rFlag (rText (rFlag (rText (rText (rNum { b := b, p := (0 : Int), bad := false : DRd }))))));
let x8 : List Int := (rText { b := (rFlag (rText (rText (rNum { b := b, p := (0 : Int), bad := false : DRd })))).b, p := (gFact (rFlag (rText (rText (rNum { b := b, p := (0 : Int), bad := false : DRd })))).b (rFlag (rText (rText (rNum { b := b, p := (0 : Int), bad := false : DRd })))).p).2.1, bad := true : DRd }).b;
let x9 : DRd := rFlag (rText (rText (rNum { b := b, p := (0 : Int), bad := false : DRd })));
let x10 : Int := rNumV { b := b, p := (0 : Int), bad := false : DRd };
let x11 : ByteArray := rTextV (rText (rNum { b := b, p := (0 : Int), bad := false : DRd }));
let x12 : ByteArray := rTextV (rNum { b := b, p := (0 : Int), bad := false : DRd });
let x13 : DRd := rNum { b := x0.b, p := (gVal x0.b x0.p).2.1, bad := x10 != (4 : Int) : DRd };
let x14 : Int := rNumV { b := x0.b, p := (gVal x0.b x0.p).2.1, bad := x10 != (4 : Int) : DRd };
let x15 : Int := (↑(List.length b) : Int);
let x16 : DVal := { K := (0 : Int), N := (0 : Int), S := { data := #[] : ByteArray } : DVal };
List.length b ≤ (4294967296 : Nat) ∧ List.length (rNum { b := b, p := (0 : Int), bad := false : DRd }).b ≤ (4294967296 : Nat) ∧ List.length (rText (rNum { b := b, p := (0 : Int), bad := false : DRd })).b ≤ (4294967296 : Nat) ∧ List.length (rText (rText (rNum { b := b, p := (0 : Int), bad := false : DRd }))).b ≤ (4294967296 : Nat) ∧ bif rFlagV (rText (rText (rNum { b := b, p := (0 : Int), bad := false : DRd }))) then List.length x9.b ≤ (4294967296 : Nat) ∧ bif x9.bad then List.length x9.b ≤ (4294967296 : Nat) ∧ List.length x8 ≤ (4294967296 : Nat) ∧ List.length x3 ≤ (4294967296 : Nat) ∧ List.length (rFlag { b := x3, p := (rFlag { b := x8, p := (rText { b := x9.b, p := (gFact x9.b x9.p).2.1, bad := true : DRd }).p, bad := true : DRd }).p, bad := true : DRd }).b ≤ (4294967296 : Nat) ∧ Lf [DV.agg [Cell.lit (Value.int IntKind.i64 (0 : Int)), Cell.lit (Value.string { data := #[] : ByteArray }), Cell.lit (Value.string { data := #[] : ByteArray }), Cell.lit (Value.string { data := #[] : ByteArray }), Cell.sl Cd.eVal [], Cell.lit (Value.string { data := #[] : ByteArray }), Cell.lit (Value.bool false), Cell.lit (Value.int IntKind.i64 (0 : Int)), Cell.lit (Value.int IntKind.i64 (0 : Int)), Cell.lit (Value.string { data := #[] : ByteArray }), Cell.lit (Value.int IntKind.i64 (0 : Int))], DV.one (Cell.lit (Value.bool false))] [DV.agg [Cell.lit (Value.int IntKind.i64 (gOp b).1.Kind), Cell.lit (Value.string (gOp b).1.Name), Cell.lit (Value.string (gOp b).1.Text), Cell.lit (Value.string (gOp b).1.F.Kind), Cell.sl Cd.eVal (gOp b).1.F.Fields, Cell.lit (Value.string (gOp b).1.Key), Cell.lit (Value.bool (gOp b).1.Ok), Cell.lit (Value.int IntKind.i64 (gOp b).1.V.K), Cell.lit (Value.int IntKind.i64 (gOp b).1.V.N), Cell.lit (Value.string (gOp b).1.V.S), Cell.lit (Value.int IntKind.i64 (gOp b).1.N)], DV.one (Cell.lit (Value.bool (gOp b).2))] else bif !(gFact x9.b x9.p).2.2 then List.length x9.b ≤ (4294967296 : Nat) ∧ List.length x8 ≤ (4294967296 : Nat) ∧ List.length x3 ≤ (4294967296 : Nat) ∧ List.length (rFlag { b := x3, p := (rFlag { b := x8, p := (rText { b := x9.b, p := (gFact x9.b x9.p).2.1, bad := true : DRd }).p, bad := true : DRd }).p, bad := true : DRd }).b ≤ (4294967296 : Nat) ∧ Lf [DV.agg [Cell.lit (Value.int IntKind.i64 (0 : Int)), Cell.lit (Value.string { data := #[] : ByteArray }), Cell.lit (Value.string { data := #[] : ByteArray }), Cell.lit (Value.string { data := #[] : ByteArray }), Cell.sl Cd.eVal [], Cell.lit (Value.string { data := #[] : ByteArray }), Cell.lit (Value.bool false), Cell.lit (Value.int IntKind.i64 (0 : Int)), Cell.lit (Value.int IntKind.i64 (0 : Int)), Cell.lit (Value.string { data := #[] : ByteArray }), Cell.lit (Value.int IntKind.i64 (0 : Int))], DV.one (Cell.lit (Value.bool false))] [DV.agg [Cell.lit (Value.int IntKind.i64 (gOp b).1.Kind), Cell.lit (Value.string (gOp b).1.Name), Cell.lit (Value.string (gOp b).1.Text), Cell.lit (Value.string (gOp b).1.F.Kind), Cell.sl Cd.eVal (gOp b).1.F.Fields, Cell.lit (Value.string (gOp b).1.Key), Cell.lit (Value.bool (gOp b).1.Ok), Cell.lit (Value.int IntKind.i64 (gOp b).1.V.K), Cell.lit (Value.int IntKind.i64 (gOp b).1.V.N), Cell.lit (Value.string (gOp b).1.V.S), Cell.lit (Value.int IntKind.i64 (gOp b).1.N)], DV.one (Cell.lit (Value.bool (gOp b).2))] else List.length x9.b ≤ (4294967296 : Nat) ∧ List.length (rText { b := x9.b, p := (gFact x9.b x9.p).2.1, bad := x10 != (3 : Int) : DRd }).b ≤ (4294967296 : Nat) ∧ List.length x6.b ≤ (4294967296 : Nat) ∧ bif rFlagV x6 then List.length x0.b ≤ (4294967296 : Nat) ∧ bif x0.bad then List.length x0.b ≤ (4294967296 : Nat) ∧ Lf [DV.agg [Cell.lit (Value.int IntKind.i64 (0 : Int)), Cell.lit (Value.string { data := #[] : ByteArray }), Cell.lit (Value.string { data := #[] : ByteArray }), Cell.lit (Value.string { data := #[] : ByteArray }), Cell.sl Cd.eVal [], Cell.lit (Value.string { data := #[] : ByteArray }), Cell.lit (Value.bool false), Cell.lit (Value.int IntKind.i64 (0 : Int)), Cell.lit (Value.int IntKind.i64 (0 : Int)), Cell.lit (Value.string { data := #[] : ByteArray }), Cell.lit (Value.int IntKind.i64 (0 : Int))], DV.one (Cell.lit (Value.bool false))] [DV.agg [Cell.lit (Value.int IntKind.i64 (gOp b).1.Kind), Cell.lit (Value.string (gOp b).1.Name), Cell.lit (Value.string (gOp b).1.Text), Cell.lit (Value.string (gOp b).1.F.Kind), Cell.sl Cd.eVal (gOp b).1.F.Fields, Cell.lit (Value.string (gOp b).1.Key), Cell.lit (Value.bool (gOp b).1.Ok), Cell.lit (Value.int IntKind.i64 (gOp b).1.V.K), Cell.lit (Value.int IntKind.i64 (gOp b).1.V.N), Cell.lit (Value.string (gOp b).1.V.S), Cell.lit (Value.int IntKind.i64 (gOp b).1.N)], DV.one (Cell.lit (Value.bool (gOp b).2))] else bif !(gVal x0.b x0.p).2.2 then List.length x0.b ≤ (4294967296 : Nat) ∧ Lf [DV.agg [Cell.lit (Value.int IntKind.i64 (0 : Int)), Cell.lit (Value.string { data := #[] : ByteArray }), Cell.lit (Value.string { data := #[] : ByteArray }), Cell.lit (Value.string { data := #[] : ByteArray }), Cell.sl Cd.eVal [], Cell.lit (Value.string { data := #[] : ByteArray }), Cell.lit (Value.bool false), Cell.lit (Value.int IntKind.i64 (0 : Int)), Cell.lit (Value.int IntKind.i64 (0 : Int)), Cell.lit (Value.string { data := #[] : ByteArray }), Cell.lit (Value.int IntKind.i64 (0 : Int))], DV.one (Cell.lit (Value.bool false))] [DV.agg [Cell.lit (Value.int IntKind.i64 (gOp b).1.Kind), Cell.lit (Value.string (gOp b).1.Name), Cell.lit (Value.string (gOp b).1.Text), Cell.lit (Value.string (gOp b).1.F.Kind), Cell.sl Cd.eVal (gOp b).1.F.Fields, Cell.lit (Value.string (gOp b).1.Key), Cell.lit (Value.bool (gOp b).1.Ok), Cell.lit (Value.int IntKind.i64 (gOp b).1.V.K), Cell.lit (Value.int IntKind.i64 (gOp b).1.V.N), Cell.lit (Value.string (gOp b).1.V.S), Cell.lit (Value.int IntKind.i64 (gOp b).1.N)], DV.one (Cell.lit (Value.bool (gOp b).2))] else List.length x0.b ≤ (4294967296 : Nat) ∧ bif x13.bad then Lf [DV.agg [Cell.lit (Value.int IntKind.i64 (0 : Int)), Cell.lit (Value.string { data := #[] : ByteArray }), Cell.lit (Value.string { data := #[] : ByteArray }), Cell.lit (Value.string { data := #[] : ByteArray }), Cell.sl Cd.eVal [], Cell.lit (Value.string { data := #[] : ByteArray }), Cell.lit (Value.bool false), Cell.lit (Value.int IntKind.i64 (0 : Int)), Cell.lit (Value.int IntKind.i64 (0 : Int)), Cell.lit (Value.string { data := #[] : ByteArray }), Cell.lit (Value.int IntKind.i64 (0 : Int))], DV.one (Cell.lit (Value.bool false))] [DV.agg [Cell.lit (Value.int IntKind.i64 (gOp b).1.Kind), Cell.lit (Value.string (gOp b).1.Name), Cell.lit (Value.string (gOp b).1.Text), Cell.lit (Value.string (gOp b).1.F.Kind), Cell.sl Cd.eVal (gOp b).1.F.Fields, Cell.lit (Value.string (gOp b).1.Key), Cell.lit (Value.bool (gOp b).1.Ok), Cell.lit (Value.int IntKind.i64 (gOp b).1.V.K), Cell.lit (Value.int IntKind.i64 (gOp b).1.V.N), Cell.lit (Value.string (gOp b).1.V.S), Cell.lit (Value.int IntKind.i64 (gOp b).1.N)], DV.one (Cell.lit (Value.bool (gOp b).2))] else bif x13.p != x15 then Lf [DV.agg [Cell.lit (Value.int IntKind.i64 (0 : Int)), Cell.lit (Value.string { data := #[] : ByteArray }), Cell.lit (Value.string { data := #[] : ByteArray }), Cell.lit (Value.string { data := #[] : ByteArray }), Cell.sl Cd.eVal [], Cell.lit (Value.string { data := #[] : ByteArray }), Cell.lit (Value.bool false), Cell.lit (Value.int IntKind.i64 (0 : Int)), Cell.lit (Value.int IntKind.i64 (0 : Int)), Cell.lit (Value.string { data := #[] : ByteArray }), Cell.lit (Value.int IntKind.i64 (0 : Int))], DV.one (Cell.lit (Value.bool false))] [DV.agg [Cell.lit (Value.int IntKind.i64 (gOp b).1.Kind), Cell.lit (Value.string (gOp b).1.Name), Cell.lit (Value.string (gOp b).1.Text), Cell.lit (Value.string (gOp b).1.F.Kind), Cell.sl Cd.eVal (gOp b).1.F.Fields, Cell.lit (Value.string (gOp b).1.Key), Cell.lit (Value.bool (gOp b).1.Ok), Cell.lit (Value.int IntKind.i64 (gOp b).1.V.K), Cell.lit (Value.int IntKind.i64 (gOp b).1.V.N), Cell.lit (Value.string (gOp b).1.V.S), Cell.lit (Value.int IntKind.i64 (gOp b).1.N)], DV.one (Cell.lit (Value.bool (gOp b).2))] else bif !opOk { Kind := x10, Name := x12, Text := x11, F := (gFact x9.b x9.p).1, Key := x2, Ok := x1, V := (gVal x0.b x0.p).1, N := x14 : DOp } then Lf [DV.agg [Cell.lit (Value.int IntKind.i64 (0 : Int)), Cell.lit (Value.string { data := #[] : ByteArray }), Cell.lit (Value.string { data := #[] : ByteArray }), Cell.lit (Value.string { data := #[] : ByteArray }), Cell.sl Cd.eVal [], Cell.lit (Value.string { data := #[] : ByteArray }), Cell.lit (Value.bool false), Cell.lit (Value.int IntKind.i64 (0 : Int)), Cell.lit (Value.int IntKind.i64 (0 : Int)), Cell.lit (Value.string { data := #[] : ByteArray }), Cell.lit (Value.int IntKind.i64 (0 : Int))], DV.one (Cell.lit (Value.bool false))] [DV.agg [Cell.lit (Value.int IntKind.i64 (gOp b).1.Kind), Cell.lit (Value.string (gOp b).1.Name), Cell.lit (Value.string (gOp b).1.Text), Cell.lit (Value.string (gOp b).1.F.Kind), Cell.sl Cd.eVal (gOp b).1.F.Fields, Cell.lit (Value.string (gOp b).1.Key), Cell.lit (Value.bool (gOp b).1.Ok), Cell.lit (Value.int IntKind.i64 (gOp b).1.V.K), Cell.lit (Value.int IntKind.i64 (gOp b).1.V.N), Cell.lit (Value.string (gOp b).1.V.S), Cell.lit (Value.int IntKind.i64 (gOp b).1.N)], DV.one (Cell.lit (Value.bool (gOp b).2))] else Lf [DV.agg [Cell.lit (Value.int IntKind.i64 x10), Cell.lit (Value.string x12), Cell.lit (Value.string x11), Cell.lit (Value.string (gFact x9.b x9.p).1.Kind), Cell.sl Cd.eVal (gFact x9.b x9.p).1.Fields, Cell.lit (Value.string x2), Cell.lit (Value.bool x1), Cell.lit (Value.int IntKind.i64 (gVal x0.b x0.p).1.K), Cell.lit (Value.int IntKind.i64 (gVal x0.b x0.p).1.N), Cell.lit (Value.string (gVal x0.b x0.p).1.S), Cell.lit (Value.int IntKind.i64 x14)], DV.one (Cell.lit (Value.bool true))] [DV.agg [Cell.lit (Value.int IntKind.i64 (gOp b).1.Kind), Cell.lit (Value.string (gOp b).1.Name), Cell.lit (Value.string (gOp b).1.Text), Cell.lit (Value.string (gOp b).1.F.Kind), Cell.sl Cd.eVal (gOp b).1.F.Fields, Cell.lit (Value.string (gOp b).1.Key), Cell.lit (Value.bool (gOp b).1.Ok), Cell.lit (Value.int IntKind.i64 (gOp b).1.V.K), Cell.lit (Value.int IntKind.i64 (gOp b).1.V.N), Cell.lit (Value.string (gOp b).1.V.S), Cell.lit (Value.int IntKind.i64 (gOp b).1.N)], DV.one (Cell.lit (Value.bool (gOp b).2))] else List.length x0.b ≤ (4294967296 : Nat) ∧ bif (rNum x0).bad then Lf [DV.agg [Cell.lit (Value.int IntKind.i64 (0 : Int)), Cell.lit (Value.string { data := #[] : ByteArray }), Cell.lit (Value.string { data := #[] : ByteArray }), Cell.lit (Value.string { data := #[] : ByteArray }), Cell.sl Cd.eVal [], Cell.lit (Value.string { data := #[] : ByteArray }), Cell.lit (Value.bool false), Cell.lit (Value.int IntKind.i64 (0 : Int)), Cell.lit (Value.int IntKind.i64 (0 : Int)), Cell.lit (Value.string { data := #[] : ByteArray }), Cell.lit (Value.int IntKind.i64 (0 : Int))], DV.one (Cell.lit (Value.bool false))] [DV.agg [Cell.lit (Value.int IntKind.i64 (gOp b).1.Kind), Cell.lit (Value.string (gOp b).1.Name), Cell.lit (Value.string (gOp b).1.Text), Cell.lit (Value.string (gOp b).1.F.Kind), Cell.sl Cd.eVal (gOp b).1.F.Fields, Cell.lit (Value.string (gOp b).1.Key), Cell.lit (Value.bool (gOp b).1.Ok), Cell.lit (Value.int IntKind.i64 (gOp b).1.V.K), Cell.lit (Value.int IntKind.i64 (gOp b).1.V.N), Cell.lit (Value.string (gOp b).1.V.S), Cell.lit (Value.int IntKind.i64 (gOp b).1.N)], DV.one (Cell.lit (Value.bool (gOp b).2))] else bif (rNum x0).p != x15 then Lf [DV.agg [Cell.lit (Value.int IntKind.i64 (0 : Int)), Cell.lit (Value.string { data := #[] : ByteArray }), Cell.lit (Value.string { data := #[] : ByteArray }), Cell.lit (Value.string { data := #[] : ByteArray }), Cell.sl Cd.eVal [], Cell.lit (Value.string { data := #[] : ByteArray }), Cell.lit (Value.bool false), Cell.lit (Value.int IntKind.i64 (0 : Int)), Cell.lit (Value.int IntKind.i64 (0 : Int)), Cell.lit (Value.string { data := #[] : ByteArray }), Cell.lit (Value.int IntKind.i64 (0 : Int))], DV.one (Cell.lit (Value.bool false))] [DV.agg [Cell.lit (Value.int IntKind.i64 (gOp b).1.Kind), Cell.lit (Value.string (gOp b).1.Name), Cell.lit (Value.string (gOp b).1.Text), Cell.lit (Value.string (gOp b).1.F.Kind), Cell.sl Cd.eVal (gOp b).1.F.Fields, Cell.lit (Value.string (gOp b).1.Key), Cell.lit (Value.bool (gOp b).1.Ok), Cell.lit (Value.int IntKind.i64 (gOp b).1.V.K), Cell.lit (Value.int IntKind.i64 (gOp b).1.V.N), Cell.lit (Value.string (gOp b).1.V.S), Cell.lit (Value.int IntKind.i64 (gOp b).1.N)], DV.one (Cell.lit (Value.bool (gOp b).2))] else bif !opOk { Kind := x10, Name := x12, Text := x11, F := (gFact x9.b x9.p).1, Key := x2, Ok := x1, V := x16, N := rNumV x0 : DOp } then Lf [DV.agg [Cell.lit (Value.int IntKind.i64 (0 : Int)), Cell.lit (Value.string { data := #[] : ByteArray }), Cell.lit (Value.string { data := #[] : ByteArray }), Cell.lit (Value.string { data := #[] : ByteArray }), Cell.sl Cd.eVal [], Cell.lit (Value.string { data := #[] : ByteArray }), Cell.lit (Value.bool false), Cell.lit (Value.int IntKind.i64 (0 : Int)), Cell.lit (Value.int IntKind.i64 (0 : Int)), Cell.lit (Value.string { data := #[] : ByteArray }), Cell.lit (Value.int IntKind.i64 (0 : Int))], DV.one (Cell.lit (Value.bool false))] [DV.agg [Cell.lit (Value.int IntKind.i64 (gOp b).1.Kind), Cell.lit (Value.string (gOp b).1.Name), Cell.lit (Value.string (gOp b).1.Text), Cell.lit (Value.string (gOp b).1.F.Kind), Cell.sl Cd.eVal (gOp b).1.F.Fields, Cell.lit (Value.string (gOp b).1.Key), Cell.lit (Value.bool (gOp b).1.Ok), Cell.lit (Value.int IntKind.i64 (gOp b).1.V.K), Cell.lit (Value.int IntKind.i64 (gOp b).1.V.N), Cell.lit (Value.string (gOp b).1.V.S), Cell.lit (Value.int IntKind.i64 (gOp b).1.N)], DV.one (Cell.lit (Value.bool (gOp b).2))] else Lf [DV.agg [Cell.lit (Value.int IntKind.i64 x10), Cell.lit (Value.string x12), Cell.lit (Value.string x11), Cell.lit (Value.string (gFact x9.b x9.p).1.Kind), Cell.sl Cd.eVal (gFact x9.b x9.p).1.Fields, Cell.lit (Value.string x2), Cell.lit (Value.bool x1), Cell.lit (Value.int IntKind.i64 (0 : Int)), Cell.lit (Value.int IntKind.i64 (0 : Int)), Cell.lit (Value.string { data := #[] : ByteArray }), Cell.lit (Value.int IntKind.i64 (rNumV x0))], DV.one (Cell.lit (Value.bool true))] [DV.agg [Cell.lit (Value.int IntKind.i64 (gOp b).1.Kind), Cell.lit (Value.string (gOp b).1.Name), Cell.lit (Value.string (gOp b).1.Text), Cell.lit (Value.string (gOp b).1.F.Kind), Cell.sl Cd.eVal (gOp b).1.F.Fields, Cell.lit (Value.string (gOp b).1.Key), Cell.lit (Value.bool (gOp b).1.Ok), Cell.lit (Value.int IntKind.i64 (gOp b).1.V.K), Cell.lit (Value.int IntKind.i64 (gOp b).1.V.N), Cell.lit (Value.string (gOp b).1.V.S), Cell.lit (Value.int IntKind.i64 (gOp b).1.N)], DV.one (Cell.lit (Value.bool (gOp b).2))] else List.length x9.b ≤ (4294967296 : Nat) ∧ List.length (rText x9).b ≤ (4294967296 : Nat) ∧ List.length (rFlag (rText x9)).b ≤ (4294967296 : Nat) ∧ bif rFlagV (rFlag (rText x9)) then List.length x7.b ≤ (4294967296 : Nat) ∧ bif x7.bad then List.length x7.b ≤ (4294967296 : Nat) ∧ Lf [DV.agg [Cell.lit (Value.int IntKind.i64 (0 : Int)), Cell.lit (Value.string { data := #[] : ByteArray }), Cell.lit (Value.string { data := #[] : ByteArray }), Cell.lit (Value.string { data := #[] : ByteArray }), Cell.sl Cd.eVal [], Cell.lit (Value.string { data := #[] : ByteArray }), Cell.lit (Value.bool false), Cell.lit (Value.int IntKind.i64 (0 : Int)), Cell.lit (Value.int IntKind.i64 (0 : Int)), Cell.lit (Value.string { data := #[] : ByteArray }), Cell.lit (Value.int IntKind.i64 (0 : Int))], DV.one (Cell.lit (Value.bool false))] [DV.agg [Cell.lit (Value.int IntKind.i64 (gOp b).1.Kind), Cell.lit (Value.string (gOp b).1.Name), Cell.lit (Value.string (gOp b).1.Text), Cell.lit (Value.string (gOp b).1.F.Kind), Cell.sl Cd.eVal (gOp b).1.F.Fields, Cell.lit (Value.string (gOp b).1.Key), Cell.lit (Value.bool (gOp b).1.Ok), Cell.lit (Value.int IntKind.i64 (gOp b).1.V.K), Cell.lit (Value.int IntKind.i64 (gOp b).1.V.N), Cell.lit (Value.string (gOp b).1.V.S), Cell.lit (Value.int IntKind.i64 (gOp b).1.N)], DV.one (Cell.lit (Value.bool (gOp b).2))] else bif !(gVal x7.b x7.p).2.2 then List.length x7.b ≤ (4294967296 : Nat) ∧ Lf [DV.agg [Cell.lit (Value.int IntKind.i64 (0 : Int)), Cell.lit (Value.string { data := #[] : ByteArray }), Cell.lit (Value.string { data := #[] : ByteArray }), Cell.lit (Value.string { data := #[] : ByteArray }), Cell.sl Cd.eVal [], Cell.lit (Value.string { data := #[] : ByteArray }), Cell.lit (Value.bool false), Cell.lit (Value.int IntKind.i64 (0 : Int)), Cell.lit (Value.int IntKind.i64 (0 : Int)), Cell.lit (Value.string { data := #[] : ByteArray }), Cell.lit (Value.int IntKind.i64 (0 : Int))], DV.one (Cell.lit (Value.bool false))] [DV.agg [Cell.lit (Value.int IntKind.i64 (gOp b).1.Kind), Cell.lit (Value.string (gOp b).1.Name), Cell.lit (Value.string (gOp b).1.Text), Cell.lit (Value.string (gOp b).1.F.Kind), Cell.sl Cd.eVal (gOp b).1.F.Fields, Cell.lit (Value.string (gOp b).1.Key), Cell.lit (Value.bool (gOp b).1.Ok), Cell.lit (Value.int IntKind.i64 (gOp b).1.V.K), Cell.lit (Value.int IntKind.i64 (gOp b).1.V.N), Cell.lit (Value.string (gOp b).1.V.S), Cell.lit (Value.int IntKind.i64 (gOp b).1.N)], DV.one (Cell.lit (Value.bool (gOp b).2))] else List.length x7.b ≤ (4294967296 : Nat) ∧ bif x5.bad then Lf [DV.agg [Cell.lit (Value.int IntKind.i64 (0 : Int)), Cell.lit (Value.string { data := #[] : ByteArray }), Cell.lit (Value.string { data := #[] : ByteArray }), Cell.lit (Value.string { data := #[] : ByteArray }), Cell.sl Cd.eVal [], Cell.lit (Value.string { data := #[] : ByteArray }), Cell.lit (Value.bool false), Cell.lit (Value.int IntKind.i64 (0 : Int)), Cell.lit (Value.int IntKind.i64 (0 : Int)), Cell.lit (Value.string { data := #[] : ByteArray }), Cell.lit (Value.int IntKind.i64 (0 : Int))], DV.one (Cell.lit (Value.bool false))] [DV.agg [Cell.lit (Value.int IntKind.i64 (gOp b).1.Kind), Cell.lit (Value.string (gOp b).1.Name), Cell.lit (Value.string (gOp b).1.Text), Cell.lit (Value.string (gOp b).1.F.Kind), Cell.sl Cd.eVal (gOp b).1.F.Fields, Cell.lit (Value.string (gOp b).1.Key), Cell.lit (Value.bool (gOp b).1.Ok), Cell.lit (Value.int IntKind.i64 (gOp b).1.V.K), Cell.lit (Value.int IntKind.i64 (gOp b).1.V.N), Cell.lit (Value.string (gOp b).1.V.S), Cell.lit (Value.int IntKind.i64 (gOp b).1.N)], DV.one (Cell.lit (Value.bool (gOp b).2))] else bif x5.p != x15 then Lf [DV.agg [Cell.lit (Value.int IntKind.i64 (0 : Int)), Cell.lit (Value.string { data := #[] : ByteArray }), Cell.lit (Value.string { data := #[] : ByteArray }), Cell.lit (Value.string { data := #[] : ByteArray }), Cell.sl Cd.eVal [], Cell.lit (Value.string { data := #[] : ByteArray }), Cell.lit (Value.bool false), Cell.lit (Value.int IntKind.i64 (0 : Int)), Cell.lit (Value.int IntKind.i64 (0 : Int)), Cell.lit (Value.string { data := #[] : ByteArray }), Cell.lit (Value.int IntKind.i64 (0 : Int))], DV.one (Cell.lit (Value.bool false))] [DV.agg [Cell.lit (Value.int IntKind.i64 (gOp b).1.Kind), Cell.lit (Value.string (gOp b).1.Name), Cell.lit (Value.string (gOp b).1.Text), Cell.lit (Value.string (gOp b).1.F.Kind), Cell.sl Cd.eVal (gOp b).1.F.Fields, Cell.lit (Value.string (gOp b).1.Key), Cell.lit (Value.bool (gOp b).1.Ok), Cell.lit (Value.int IntKind.i64 (gOp b).1.V.K), Cell.lit (Value.int IntKind.i64 (gOp b).1.V.N), Cell.lit (Value.string (gOp b).1.V.S), Cell.lit (Value.int IntKind.i64 (gOp b).1.N)], DV.one (Cell.lit (Value.bool (gOp b).2))] else bif !opOk { Kind := x10, Name := x12, Text := x11, F := { Kind := { data := #[] : ByteArray }, Fields := [] : DFact }, Key := rTextV x9, Ok := rFlagV (rText x9), V := (gVal x7.b x7.p).1, N := x4 : DOp } then Lf [DV.agg [Cell.lit (Value.int IntKind.i64 (0 : Int)), Cell.lit (Value.string { data := #[] : ByteArray }), Cell.lit (Value.string { data := #[] : ByteArray }), Cell.lit (Value.string { data := #[] : ByteArray }), Cell.sl Cd.eVal [], Cell.lit (Value.string { data := #[] : ByteArray }), Cell.lit (Value.bool false), Cell.lit (Value.int IntKind.i64 (0 : Int)), Cell.lit (Value.int IntKind.i64 (0 : Int)), Cell.lit (Value.string { data := #[] : ByteArray }), Cell.lit (Value.int IntKind.i64 (0 : Int))], DV.one (Cell.lit (Value.bool false))] [DV.agg [Cell.lit (Value.int IntKind.i64 (gOp b).1.Kind), Cell.lit (Value.string (gOp b).1.Name), Cell.lit (Value.string (gOp b).1.Text), Cell.lit (Value.string (gOp b).1.F.Kind), Cell.sl Cd.eVal (gOp b).1.F.Fields, Cell.lit (Value.string (gOp b).1.Key), Cell.lit (Value.bool (gOp b).1.Ok), Cell.lit (Value.int IntKind.i64 (gOp b).1.V.K), Cell.lit (Value.int IntKind.i64 (gOp b).1.V.N), Cell.lit (Value.string (gOp b).1.V.S), Cell.lit (Value.int IntKind.i64 (gOp b).1.N)], DV.one (Cell.lit (Value.bool (gOp b).2))] else Lf [DV.agg [Cell.lit (Value.int IntKind.i64 x10), Cell.lit (Value.string x12), Cell.lit (Value.string x11), Cell.lit (Value.string { data := #[] : ByteArray }), Cell.sl Cd.eVal [], Cell.lit (Value.string (rTextV x9)), Cell.lit (Value.bool (rFlagV (rText x9))), Cell.lit (Value.int IntKind.i64 (gVal x7.b x7.p).1.K), Cell.lit (Value.int IntKind.i64 (gVal x7.b x7.p).1.N), Cell.lit (Value.string (gVal x7.b x7.p).1.S), Cell.lit (Value.int IntKind.i64 x4)], DV.one (Cell.lit (Value.bool true))] [DV.agg [Cell.lit (Value.int IntKind.i64 (gOp b).1.Kind), Cell.lit (Value.string (gOp b).1.Name), Cell.lit (Value.string (gOp b).1.Text), Cell.lit (Value.string (gOp b).1.F.Kind), Cell.sl Cd.eVal (gOp b).1.F.Fields, Cell.lit (Value.string (gOp b).1.Key), Cell.lit (Value.bool (gOp b).1.Ok), Cell.lit (Value.int IntKind.i64 (gOp b).1.V.K), Cell.lit (Value.int IntKind.i64 (gOp b).1.V.N), Cell.lit (Value.string (gOp b).1.V.S), Cell.lit (Value.int IntKind.i64 (gOp b).1.N)], DV.one (Cell.lit (Value.bool (gOp b).2))] else List.length x7.b ≤ (4294967296 : Nat) ∧ bif (rNum x7).bad then Lf [DV.agg [Cell.lit (Value.int IntKind.i64 (0 : Int)), Cell.lit (Value.string { data := #[] : ByteArray }), Cell.lit (Value.string { data := #[] : ByteArray }), Cell.lit (Value.string { data := #[] : ByteArray }), Cell.sl Cd.eVal [], Cell.lit (Value.string { data := #[] : ByteArray }), Cell.lit (Value.bool false), Cell.lit (Value.int IntKind.i64 (0 : Int)), Cell.lit (Value.int IntKind.i64 (0 : Int)), Cell.lit (Value.string { data := #[] : ByteArray }), Cell.lit (Value.int IntKind.i64 (0 : Int))], DV.one (Cell.lit (Value.bool false))] [DV.agg [Cell.lit (Value.int IntKind.i64 (gOp b).1.Kind), Cell.lit (Value.string (gOp b).1.Name), Cell.lit (Value.string (gOp b).1.Text), Cell.lit (Value.string (gOp b).1.F.Kind), Cell.sl Cd.eVal (gOp b).1.F.Fields, Cell.lit (Value.string (gOp b).1.Key), Cell.lit (Value.bool (gOp b).1.Ok), Cell.lit (Value.int IntKind.i64 (gOp b).1.V.K), Cell.lit (Value.int IntKind.i64 (gOp b).1.V.N), Cell.lit (Value.string (gOp b).1.V.S), Cell.lit (Value.int IntKind.i64 (gOp b).1.N)], DV.one (Cell.lit (Value.bool (gOp b).2))] else bif (rNum x7).p != x15 then Lf [DV.agg [Cell.lit (Value.int IntKind.i64 (0 : Int)), Cell.lit (Value.string { data := #[] : ByteArray }), Cell.lit (Value.string { data := #[] : ByteArray }), Cell.lit (Value.string { data := #[] : ByteArray }), Cell.sl Cd.eVal [], Cell.lit (Value.string { data := #[] : ByteArray }), Cell.lit (Value.bool false), Cell.lit (Value.int IntKind.i64 (0 : Int)), Cell.lit (Value.int IntKind.i64 (0 : Int)), Cell.lit (Value.string { data := #[] : ByteArray }), Cell.lit (Value.int IntKind.i64 (0 : Int))], DV.one (Cell.lit (Value.bool false))] [DV.agg [Cell.lit (Value.int IntKind.i64 (gOp b).1.Kind), Cell.lit (Value.string (gOp b).1.Name), Cell.lit (Value.string (gOp b).1.Text), Cell.lit (Value.string (gOp b).1.F.Kind), Cell.sl Cd.eVal (gOp b).1.F.Fields, Cell.lit (Value.string (gOp b).1.Key), Cell.lit (Value.bool (gOp b).1.Ok), Cell.lit (Value.int IntKind.i64 (gOp b).1.V.K), Cell.lit (Value.int IntKind.i64 (gOp b).1.V.N), Cell.lit (Value.string (gOp b).1.V.S), Cell.lit (Value.int IntKind.i64 (gOp b).1.N)], DV.one (Cell.lit (Value.bool (gOp b).2))] else bif !opOk { Kind := x10, Name := x12, Text := x11, F := { Kind := { data := #[] : ByteArray }, Fields := [] : DFact }, Key := rTextV x9, Ok := rFlagV (rText x9), V := x16, N := rNumV x7 : DOp } then Lf [DV.agg [Cell.lit (Value.int IntKind.i64 (0 : Int)), Cell.lit (Value.string { data := #[] : ByteArray }), Cell.lit (Value.string { data := #[] : ByteArray }), Cell.lit (Value.string { data := #[] : ByteArray }), Cell.sl Cd.eVal [], Cell.lit (Value.string { data := #[] : ByteArray }), Cell.lit (Value.bool false), Cell.lit (Value.int IntKind.i64 (0 : Int)), Cell.lit (Value.int IntKind.i64 (0 : Int)), Cell.lit (Value.string { data := #[] : ByteArray }), Cell.lit (Value.int IntKind.i64 (0 : Int))], DV.one (Cell.lit (Value.bool false))] [DV.agg [Cell.lit (Value.int IntKind.i64 (gOp b).1.Kind), Cell.lit (Value.string (gOp b).1.Name), Cell.lit (Value.string (gOp b).1.Text), Cell.lit (Value.string (gOp b).1.F.Kind), Cell.sl Cd.eVal (gOp b).1.F.Fields, Cell.lit (Value.string (gOp b).1.Key), Cell.lit (Value.bool (gOp b).1.Ok), Cell.lit (Value.int IntKind.i64 (gOp b).1.V.K), Cell.lit (Value.int IntKind.i64 (gOp b).1.V.N), Cell.lit (Value.string (gOp b).1.V.S), Cell.lit (Value.int IntKind.i64 (gOp b).1.N)], DV.one (Cell.lit (Value.bool (gOp b).2))] else Lf [DV.agg [Cell.lit (Value.int IntKind.i64 x10), Cell.lit (Value.string x12), Cell.lit (Value.string x11), Cell.lit (Value.string { data := #[] : ByteArray }), Cell.sl Cd.eVal [], Cell.lit (Value.string (rTextV x9)), Cell.lit (Value.bool (rFlagV (rText x9))), Cell.lit (Value.int IntKind.i64 (0 : Int)), Cell.lit (Value.int IntKind.i64 (0 : Int)), Cell.lit (Value.string { data := #[] : ByteArray }), Cell.lit (Value.int IntKind.i64 (rNumV x7))], DV.one (Cell.lit (Value.bool true))] [DV.agg [Cell.lit (Value.int IntKind.i64 (gOp b).1.Kind), Cell.lit (Value.string (gOp b).1.Name), Cell.lit (Value.string (gOp b).1.Text), Cell.lit (Value.string (gOp b).1.F.Kind), Cell.sl Cd.eVal (gOp b).1.F.Fields, Cell.lit (Value.string (gOp b).1.Key), Cell.lit (Value.bool (gOp b).1.Ok), Cell.lit (Value.int IntKind.i64 (gOp b).1.V.K), Cell.lit (Value.int IntKind.i64 (gOp b).1.V.N), Cell.lit (Value.string (gOp b).1.V.S), Cell.lit (Value.int IntKind.i64 (gOp b).1.N)], DV.one (Cell.lit (Value.bool (gOp b).2))]) := by kernel_rfl
theorem ok_spec_GetOp : Holds EE (13, con_spec_GetOp) := by
  refine holds_of EE_ok Go.Proofs.Try.func13 con_spec_GetOp (by kernel_rfl) use_spec_GetOp (all_cons ok_spec_l22Num (all_cons ok_spec_l22Text (all_cons ok_spec_l22Flag (all_cons ok_spec_GetFact (all_cons ok_spec_GetVal (all_cons ok_spec_OpOk all_nil)))))) ann_spec_GetOp (fun (b : (List Int)) hp hb => ?_)
  have hb_b : BdDV (U := UU) (.one (.sl .byte b)) := hb _ (List.mem_cons_self)
  have hl_b : b.length ≤ 9223372036854775807 := Bd.len hb_b
  have hp0 : b.length ≤ 4294967296 := hp _ (List.mem_cons_self)
  clear hp hb
  rw [vc_spec_GetOp b]
  dsimp only
  have f1 : rNum ⟨b, 0, false⟩ = q1 b := rfl
  have f2 : rText (q1 b) = q2 b := rfl
  have f3 : rText (q2 b) = q3 b := rfl
  have f4 : rFlag (q3 b) = q4 b := rfl
  have f6 : rText (q5 b) = q6 b := rfl
  have f7 : rFlag (q6 b) = q7 b := rfl
  have f8 : rFlag (q7 b) = q8 b := rfl
  have f10 : rNum (q9 b) = q10 b := rfl
  have f0 : rNumV ⟨b, 0, false⟩ = rNumV (rStart b) := rfl
  simp only [f0, f1, f2, f3, f4]
  refine ⟨hp0, (by first | exact hp0 | (simp only [rText_b, rFlag_b, rNum_b, q1_b, q2_b, q3_b, q4_b, q5_b, q6_b, q7_b, q8_b, q9_b]; exact hp0)), (by first | exact hp0 | (simp only [rText_b, rFlag_b, rNum_b, q1_b, q2_b, q3_b, q4_b, q5_b, q6_b, q7_b, q8_b, q9_b]; exact hp0)), (by first | exact hp0 | (simp only [rText_b, rFlag_b, rNum_b, q1_b, q2_b, q3_b, q4_b, q5_b, q6_b, q7_b, q8_b, q9_b]; exact hp0)), if_cond (fun hfl => ⟨(by first | exact hp0 | (simp only [rText_b, rFlag_b, rNum_b, q1_b, q2_b, q3_b, q4_b, q5_b, q6_b, q7_b, q8_b, q9_b]; exact hp0)), if_cond (fun n1 => ?_) (fun n1 => if_cond (fun n2 => ?_) (fun n2 => ?_))⟩) (fun hfl => ?_)⟩
  · rw [gOp_bad (bad5 (by simp only [q5]; rw [if_pos hfl, n1]; rfl))]; exact ⟨(by first | exact hp0 | (simp only [rText_b, rFlag_b, rNum_b, q1_b, q2_b, q3_b, q4_b, q5_b, q6_b, q7_b, q8_b, q9_b]; exact hp0)), (by first | exact hp0 | (simp only [rText_b, rFlag_b, rNum_b, q1_b, q2_b, q3_b, q4_b, q5_b, q6_b, q7_b, q8_b, q9_b]; exact hp0)), (by first | exact hp0 | (simp only [rText_b, rFlag_b, rNum_b, q1_b, q2_b, q3_b, q4_b, q5_b, q6_b, q7_b, q8_b, q9_b]; exact hp0)), (by first | exact hp0 | (simp only [rText_b, rFlag_b, rNum_b, q1_b, q2_b, q3_b, q4_b, q5_b, q6_b, q7_b, q8_b, q9_b]; exact hp0)), Lf_rfl _⟩
  · rw [gOp_bad (bad5 (by simp only [q5]; rw [if_pos hfl]; simp at n2; simp [n2]))]; exact ⟨(by first | exact hp0 | (simp only [rText_b, rFlag_b, rNum_b, q1_b, q2_b, q3_b, q4_b, q5_b, q6_b, q7_b, q8_b, q9_b]; exact hp0)), (by first | exact hp0 | (simp only [rText_b, rFlag_b, rNum_b, q1_b, q2_b, q3_b, q4_b, q5_b, q6_b, q7_b, q8_b, q9_b]; exact hp0)), (by first | exact hp0 | (simp only [rText_b, rFlag_b, rNum_b, q1_b, q2_b, q3_b, q4_b, q5_b, q6_b, q7_b, q8_b, q9_b]; exact hp0)), (by first | exact hp0 | (simp only [rText_b, rFlag_b, rNum_b, q1_b, q2_b, q3_b, q4_b, q5_b, q6_b, q7_b, q8_b, q9_b]; exact hp0)), Lf_rfl _⟩
  · have n2 : (gFact (q4 b).b (q4 b).p).2.2 = true := by simpa using n2
    have e5 : q5 b = ⟨(q4 b).b, (gFact (q4 b).b (q4 b).p).2.1, rNumV (rStart b) != 3⟩ := by simp only [q5]; rw [if_pos hfl, n1, n2]; rfl
    have eF : qF b = (gFact (q4 b).b (q4 b).p).1 := if_pos hfl
    refine ⟨(by first | exact hp0 | (simp only [rText_b, rFlag_b, rNum_b, q1_b, q2_b, q3_b, q4_b, q5_b, q6_b, q7_b, q8_b, q9_b]; exact hp0)), ?_⟩
    rw [← e5]
    simp only [f6, f7, f8]
    refine ⟨(by first | exact hp0 | (simp only [rText_b, rFlag_b, rNum_b, q1_b, q2_b, q3_b, q4_b, q5_b, q6_b, q7_b, q8_b, q9_b]; exact hp0)), (by first | exact hp0 | (simp only [rText_b, rFlag_b, rNum_b, q1_b, q2_b, q3_b, q4_b, q5_b, q6_b, q7_b, q8_b, q9_b]; exact hp0)), if_cond (fun hv => ⟨(by first | exact hp0 | (simp only [rText_b, rFlag_b, rNum_b, q1_b, q2_b, q3_b, q4_b, q5_b, q6_b, q7_b, q8_b, q9_b]; exact hp0)), if_cond (fun m1 => ⟨(by first | exact hp0 | (simp only [rText_b, rFlag_b, rNum_b, q1_b, q2_b, q3_b, q4_b, q5_b, q6_b, q7_b, q8_b, q9_b]; exact hp0)), ?_⟩) (fun m1 => if_cond (fun m2 => ⟨(by first | exact hp0 | (simp only [rText_b, rFlag_b, rNum_b, q1_b, q2_b, q3_b, q4_b, q5_b, q6_b, q7_b, q8_b, q9_b]; exact hp0)), ?_⟩) (fun m2 => ⟨(by first | exact hp0 | (simp only [rText_b, rFlag_b, rNum_b, q1_b, q2_b, q3_b, q4_b, q5_b, q6_b, q7_b, q8_b, q9_b]; exact hp0)), ?_⟩))⟩) (fun hv => ?_)⟩
    · rw [gOp_bad (bad8 m1)]; exact Lf_rfl _
    · rw [gOp_bad (by simp only [q9]; rw [if_pos hv]; simp at m2; simp [m2])]; exact Lf_rfl _
    · have m2 : (gVal (q8 b).b (q8 b).p).2.2 = true := by simpa using m2
      have e9 : q9 b = ⟨(q8 b).b, (gVal (q8 b).b (q8 b).p).2.1, rNumV (rStart b) != 4⟩ := by simp only [q9]; rw [if_pos hv, m1, m2]; rfl
      have eV : qV b = (gVal (q8 b).b (q8 b).p).1 := if_pos hv
      rw [← e9, f10]
      have hO : qO b = ⟨rNumV (rStart b), rTextV (q1 b), rTextV (q2 b), qF b, rTextV (q5 b), rFlagV (q6 b), qV b, rNumV (q9 b)⟩ := rfl
      rw [eF, eV] at hO
      refine if_cond (fun z1 => ?_) (fun z1 => if_cond (fun z2 => ?_) (fun z2 => if_cond (fun z3 => ?_) (fun z3 => ?_)))
      · rw [gOp, if_neg (fun hh => by rw [hh.1] at z1; simp at z1)]; exact Lf_rfl _
      · rw [gOp, if_neg (fun hh => by rw [hh.2.1] at z2; simp at z2)]; exact Lf_rfl _
      · rw [gOp, if_neg (fun hh => by have h3 := hh.2.2; rw [hO] at h3; have h4 : (!true) = true := (congrArg (fun t => !t) h3).symm.trans z3; simp at h4)]; exact Lf_rfl _
      · rw [gOp, if_pos ⟨z1, by simpa using z2, by rw [hO]; exact not_f z3⟩, hO]; exact Lf_rfl _
    · have e9 : q9 b = q8 b := if_neg (by rw [hv]; simp)
      have eV : qV b = zVal := if_neg (by rw [hv]; simp)
      rw [← e9]
      refine ⟨(by first | exact hp0 | (simp only [rText_b, rFlag_b, rNum_b, q1_b, q2_b, q3_b, q4_b, q5_b, q6_b, q7_b, q8_b, q9_b]; exact hp0)), ?_⟩
      rw [f10]
      have hO : qO b = ⟨rNumV (rStart b), rTextV (q1 b), rTextV (q2 b), qF b, rTextV (q5 b), rFlagV (q6 b), qV b, rNumV (q9 b)⟩ := rfl
      rw [eF, eV] at hO
      refine if_cond (fun z1 => ?_) (fun z1 => if_cond (fun z2 => ?_) (fun z2 => if_cond (fun z3 => ?_) (fun z3 => ?_)))
      · rw [gOp, if_neg (fun hh => by rw [hh.1] at z1; simp at z1)]; exact Lf_rfl _
      · rw [gOp, if_neg (fun hh => by rw [hh.2.1] at z2; simp at z2)]; exact Lf_rfl _
      · rw [gOp, if_neg (fun hh => by have h3 := hh.2.2; rw [hO] at h3; have h4 : (!true) = true := (congrArg (fun t => !t) h3).symm.trans z3; simp at h4)]; exact Lf_rfl _
      · rw [gOp, if_pos ⟨z1, by simpa using z2, by rw [hO]; exact not_f z3⟩, hO]; exact Lf_rfl _
  · have e5 : q5 b = q4 b := if_neg (by rw [hfl]; simp)
    have eF : qF b = zFact := if_neg (by rw [hfl]; simp)
    rw [← e5]
    simp only [f6, f7, f8]
    refine ⟨(by first | exact hp0 | (simp only [rText_b, rFlag_b, rNum_b, q1_b, q2_b, q3_b, q4_b, q5_b, q6_b, q7_b, q8_b, q9_b]; exact hp0)), (by first | exact hp0 | (simp only [rText_b, rFlag_b, rNum_b, q1_b, q2_b, q3_b, q4_b, q5_b, q6_b, q7_b, q8_b, q9_b]; exact hp0)), (by first | exact hp0 | (simp only [rText_b, rFlag_b, rNum_b, q1_b, q2_b, q3_b, q4_b, q5_b, q6_b, q7_b, q8_b, q9_b]; exact hp0)), if_cond (fun hv => ⟨(by first | exact hp0 | (simp only [rText_b, rFlag_b, rNum_b, q1_b, q2_b, q3_b, q4_b, q5_b, q6_b, q7_b, q8_b, q9_b]; exact hp0)), if_cond (fun m1 => ⟨(by first | exact hp0 | (simp only [rText_b, rFlag_b, rNum_b, q1_b, q2_b, q3_b, q4_b, q5_b, q6_b, q7_b, q8_b, q9_b]; exact hp0)), ?_⟩) (fun m1 => if_cond (fun m2 => ⟨(by first | exact hp0 | (simp only [rText_b, rFlag_b, rNum_b, q1_b, q2_b, q3_b, q4_b, q5_b, q6_b, q7_b, q8_b, q9_b]; exact hp0)), ?_⟩) (fun m2 => ⟨(by first | exact hp0 | (simp only [rText_b, rFlag_b, rNum_b, q1_b, q2_b, q3_b, q4_b, q5_b, q6_b, q7_b, q8_b, q9_b]; exact hp0)), ?_⟩))⟩) (fun hv => ?_)⟩
    · rw [gOp_bad (bad8 m1)]; exact Lf_rfl _
    · rw [gOp_bad (by simp only [q9]; rw [if_pos hv]; simp at m2; simp [m2])]; exact Lf_rfl _
    · have m2 : (gVal (q8 b).b (q8 b).p).2.2 = true := by simpa using m2
      have e9 : q9 b = ⟨(q8 b).b, (gVal (q8 b).b (q8 b).p).2.1, rNumV (rStart b) != 4⟩ := by simp only [q9]; rw [if_pos hv, m1, m2]; rfl
      have eV : qV b = (gVal (q8 b).b (q8 b).p).1 := if_pos hv
      rw [← e9, f10]
      have hO : qO b = ⟨rNumV (rStart b), rTextV (q1 b), rTextV (q2 b), qF b, rTextV (q5 b), rFlagV (q6 b), qV b, rNumV (q9 b)⟩ := rfl
      rw [eF, eV] at hO
      refine if_cond (fun z1 => ?_) (fun z1 => if_cond (fun z2 => ?_) (fun z2 => if_cond (fun z3 => ?_) (fun z3 => ?_)))
      · rw [gOp, if_neg (fun hh => by rw [hh.1] at z1; simp at z1)]; exact Lf_rfl _
      · rw [gOp, if_neg (fun hh => by rw [hh.2.1] at z2; simp at z2)]; exact Lf_rfl _
      · rw [gOp, if_neg (fun hh => by have h3 := hh.2.2; rw [hO] at h3; have h4 : (!true) = true := (congrArg (fun t => !t) h3).symm.trans z3; simp at h4)]; exact Lf_rfl _
      · rw [gOp, if_pos ⟨z1, by simpa using z2, by rw [hO]; exact not_f z3⟩, hO]; exact Lf_rfl _
    · have e9 : q9 b = q8 b := if_neg (by rw [hv]; simp)
      have eV : qV b = zVal := if_neg (by rw [hv]; simp)
      rw [← e9]
      refine ⟨(by first | exact hp0 | (simp only [rText_b, rFlag_b, rNum_b, q1_b, q2_b, q3_b, q4_b, q5_b, q6_b, q7_b, q8_b, q9_b]; exact hp0)), ?_⟩
      rw [f10]
      have hO : qO b = ⟨rNumV (rStart b), rTextV (q1 b), rTextV (q2 b), qF b, rTextV (q5 b), rFlagV (q6 b), qV b, rNumV (q9 b)⟩ := rfl
      rw [eF, eV] at hO
      refine if_cond (fun z1 => ?_) (fun z1 => if_cond (fun z2 => ?_) (fun z2 => if_cond (fun z3 => ?_) (fun z3 => ?_)))
      · rw [gOp, if_neg (fun hh => by rw [hh.1] at z1; simp at z1)]; exact Lf_rfl _
      · rw [gOp, if_neg (fun hh => by rw [hh.2.1] at z2; simp at z2)]; exact Lf_rfl _
      · rw [gOp, if_neg (fun hh => by have h3 := hh.2.2; rw [hO] at h3; have h4 : (!true) = true := (congrArg (fun t => !t) h3).symm.trans z3; simp at h4)]; exact Lf_rfl _
      · rw [gOp, if_pos ⟨z1, by simpa using z2, by rw [hO]; exact not_f z3⟩, hO]; exact Lf_rfl _
theorem rNum_ok {r : DRd} (hb : bytesOk r.b) (h : (rNum r).bad = false) : r.bad = false ∧ 0 ≤ r.p ∧ r.b.drop r.p.toNat = numB (rNumV r) ++ r.b.drop (rNum r).p.toNat ∧ (rNum r).p ≤ r.b.length := by
  by_cases hc : rNumOk r = true
  · have h1 := hc
    simp only [rNumOk, Bool.and_eq_true, Bool.not_eq_true'] at h1
    obtain ⟨d1, d2, d3, d4, d5⟩ := gNum_ok hb h1.2
    rw [rNumV, rNum, if_pos hc, if_pos hc]
    exact ⟨h1.1, d1, d2, d4⟩
  · rw [rNum, if_neg hc] at h; simp at h
theorem rText_ok {r : DRd} (hb : bytesOk r.b) (h : (rText r).bad = false) : r.bad = false ∧ 0 ≤ r.p ∧ r.b.drop r.p.toNat = textB (rTextV r) ++ r.b.drop (rText r).p.toNat ∧ (rText r).p ≤ r.b.length := by
  by_cases hc : rTextOk r = true
  · have h1 := hc
    simp only [rTextOk, Bool.and_eq_true, Bool.not_eq_true'] at h1
    obtain ⟨d1, d2, d3, d4, d5⟩ := gText_canon hb h1.2
    rw [rTextV, rText, if_pos hc, if_pos hc]
    exact ⟨h1.1, d1, d2, d4⟩
  · rw [rText, if_neg hc] at h; simp at h
theorem rFlag_ok {r : DRd} (hb : bytesOk r.b) (h : (rFlag r).bad = false) : r.bad = false ∧ 0 ≤ r.p ∧ r.b.drop r.p.toNat = flagB (rFlagV r) ++ r.b.drop (rFlag r).p.toNat ∧ (rFlag r).p ≤ r.b.length := by
  simp only [rFlag, Bool.or_eq_false_iff, Bool.not_eq_false', decide_eq_true_eq] at h
  obtain ⟨d1, d2, d3, d4⟩ := rNum_ok hb h.1
  refine ⟨d1, d2, ?_, d4⟩
  have e : numB (rNumV r) = flagB (rFlagV r) := by
    unfold flagB rFlagV
    by_cases h1 : rNumV r = 1
    · rw [h1]; rfl
    · have : rNumV r = 0 := by omega
      rw [this]; rfl
  rw [← e]; exact d3
theorem gOp_canon {b : List Int} (hb : bytesOk b) (h : (gOp b).2 = true) : opOk (gOp b).1 = true ∧ opB (gOp b).1 = b := by
  by_cases hc : (q10 b).bad = false ∧ (q10 b).p = b.length ∧ opOk (qO b) = true
  · have e : gOp b = (qO b, true) := if_pos hc
    rw [e]
    dsimp only
    obtain ⟨h1, h2, h3⟩ := hc
    refine ⟨h3, ?_⟩
    obtain ⟨b9, c9, d9, _⟩ := rNum_ok (r := q9 b) (by rw [q9_b]; exact hb) h1
    have b8 : (q8 b).bad = false := by
      cases hq : (q8 b).bad with
      | false => rfl
      | true => rw [bad8 hq] at b9; simp at b9
    obtain ⟨b7, c7, d7, _⟩ := rFlag_ok (r := q7 b) (by rw [q7_b]; exact hb) b8
    obtain ⟨b6, c6, d6, _⟩ := rFlag_ok (r := q6 b) (by rw [q6_b]; exact hb) b7
    obtain ⟨b5, c5, d5, _⟩ := rText_ok (r := q5 b) (by rw [q5_b]; exact hb) b6
    have b4 : (q4 b).bad = false := by
      cases hq : (q4 b).bad with
      | false => rfl
      | true =>
        have : (q5 b).bad = true := by unfold q5; split <;> simp [hq]
        rw [this] at b5; simp at b5
    obtain ⟨b3, c3, d3, _⟩ := rFlag_ok (r := q3 b) (by rw [q3_b]; exact hb) b4
    obtain ⟨b2, c2, d2, _⟩ := rText_ok (r := q2 b) (by rw [q2_b]; exact hb) b3
    obtain ⟨b1, c1, d1, _⟩ := rText_ok (r := q1 b) (by rw [q1_b]; exact hb) b2
    obtain ⟨b0, c0, d0, _⟩ := rNum_ok (r := rStart b) hb b1
    rw [q1_b] at d1; rw [q2_b] at d2; rw [q3_b] at d3; rw [q5_b] at d5; rw [q6_b] at d6; rw [q7_b] at d7; rw [q9_b] at d9
    -- the fact
    have dF : b.drop (q3 b).p.toNat = (if rNumV (rStart b) = 3 then numB 1 ++ factB (qF b) else numB 0) ++ b.drop (q5 b).p.toNat := by
      by_cases hf : rFlagV (q3 b) = true
      · have e5 : q5 b = ⟨(q4 b).b, (gFact (q4 b).b (q4 b).p).2.1, (q4 b).bad || !(gFact (q4 b).b (q4 b).p).2.2 || (rNumV (rStart b) != 3)⟩ := if_pos hf
        have eF : qF b = (gFact (q4 b).b (q4 b).p).1 := if_pos hf
        rw [e5] at b5 ⊢
        simp only [Bool.or_eq_false_iff, Bool.not_eq_false', bne_eq_false_iff_eq] at b5
        obtain ⟨⟨_, x1⟩, x2⟩ := b5
        rw [q4_b] at x1
        obtain ⟨y1, y2, y3, y4, y5⟩ := gFact_canon hb x1
        rw [if_pos x2, eF, q4_b, List.append_assoc]
        rw [hf] at d3
        show _ = numB 1 ++ (factB (gFact b (q4 b).p).1 ++ b.drop (gFact b (q4 b).p).2.1.toNat)
        rw [← y2]; exact d3
      · have hf : rFlagV (q3 b) = false := by simpa using hf
        have e5 : q5 b = q4 b := if_neg (by rw [hf]; simp)
        have eF : qF b = zFact := if_neg (by rw [hf]; simp)
        have hk : rNumV (rStart b) ≠ 3 := by
          intro hk
          have : opOk (qO b) = (nameOk (qO b).Name && decide ((qO b).Text = noBytes) && factOk (qO b).F && noReply (qO b) && decide ((qO b).N = 0)) := by
            unfold opOk
            rw [show (qO b).Kind = 3 from hk]; rfl
          rw [this, show (qO b).F = zFact from eF] at h3
          simp only [Bool.and_eq_true] at h3
          have := h3.1.1.2
          simp [factOk, nameOk, zFact, noBytes] at this
        rw [if_neg hk, e5]
        rw [hf] at d3; exact d3
    have dV : b.drop (q7 b).p.toNat = (if rNumV (rStart b) = 4 then numB 1 ++ valB (qV b) else numB 0) ++ b.drop (q9 b).p.toNat := by
      by_cases hf : rFlagV (q7 b) = true
      · have e9 : q9 b = ⟨(q8 b).b, (gVal (q8 b).b (q8 b).p).2.1, (q8 b).bad || !(gVal (q8 b).b (q8 b).p).2.2 || (rNumV (rStart b) != 4)⟩ := if_pos hf
        have eV : qV b = (gVal (q8 b).b (q8 b).p).1 := if_pos hf
        rw [e9] at b9 ⊢
        simp only [Bool.or_eq_false_iff, Bool.not_eq_false', bne_eq_false_iff_eq] at b9
        obtain ⟨⟨_, x1⟩, x2⟩ := b9
        rw [q8_b] at x1
        obtain ⟨y1, y2, y3, y4, y5⟩ := gVal_canon hb x1
        rw [if_pos x2, eV, q8_b, List.append_assoc]
        rw [hf] at d7
        show _ = numB 1 ++ (valB (gVal b (q8 b).p).1 ++ b.drop (gVal b (q8 b).p).2.1.toNat)
        rw [← y2]; exact d7
      · have hf : rFlagV (q7 b) = false := by simpa using hf
        have e9 : q9 b = q8 b := if_neg (by rw [hf]; simp)
        have eV : qV b = zVal := if_neg (by rw [hf]; simp)
        have hk : rNumV (rStart b) ≠ 4 := by
          intro hk
          have : opOk (qO b) = (nameOk (qO b).Name && decide ((qO b).Text = noBytes) && noFact (qO b).F && decide (1 ≤ (qO b).Key.size ∧ (qO b).Key.size ≤ 200) && valOk (qO b).V && decide ((qO b).N = 0)) := by
            unfold opOk
            rw [show (qO b).Kind = 4 from hk]; rfl
          rw [this, show (qO b).V = zVal from eV] at h3
          simp only [Bool.and_eq_true] at h3
          have := h3.1.2
          simp [valOk, zVal] at this
        rw [if_neg hk, e9]
        rw [hf] at d7; exact d7
    have hend : b.drop (q10 b).p.toNat = [] := by rw [h2]; exact drop_end b (by omega)
    have d9 : b.drop (q9 b).p.toNat = numB (rNumV (q9 b)) ++ b.drop (q10 b).p.toNat := d9
    have d5 : b.drop (q5 b).p.toNat = textB (rTextV (q5 b)) ++ b.drop (q6 b).p.toNat := d5
    have d6 : b.drop (q6 b).p.toNat = flagB (rFlagV (q6 b)) ++ b.drop (q7 b).p.toNat := d6
    have d1 : b.drop (q1 b).p.toNat = textB (rTextV (q1 b)) ++ b.drop (q2 b).p.toNat := d1
    have d2 : b.drop (q2 b).p.toNat = textB (rTextV (q2 b)) ++ b.drop (q3 b).p.toNat := d2
    have d0 : b = numB (rNumV (rStart b)) ++ b.drop (q1 b).p.toNat := d0
    rw [opB, if_pos h3]
    refine Eq.symm (d0.trans ?_)
    rw [d1, d2, dF, d5, d6, dV, d9, hend]
    simp only [qO, List.append_assoc, List.append_nil]
    rfl
  · have e : gOp b = (zOp, false) := if_neg hc
    rw [e] at h; simp at h
structure OpParts (o : DOp) : Prop where
  kind : numMax o.Kind
  name : (o.Name.size : Int) ≤ 1000
  text : (o.Text.size : Int) ≤ 1000
  key : (o.Key.size : Int) ≤ 1000
  n : numMax o.N
  fact : if o.Kind = 3 then factOk o.F = true else o.F = zFact
  val : if o.Kind = 4 then valOk o.V = true else o.V = zVal
theorem noFact_eq {f : DFact} (h : noFact f = true) : f = zFact := by
  simp only [noFact, Bool.and_eq_true, decide_eq_true_eq] at h
  obtain ⟨k, fs⟩ := f
  simp only at h
  rw [h.1, List.eq_nil_of_length_eq_zero h.2]; rfl
theorem noReply_eq {o : DOp} (h : noReply o = true) : o.Key = noBytes ∧ o.Ok = false ∧ o.V = zVal := by
  simp only [noReply, Bool.and_eq_true, decide_eq_true_eq, Bool.not_eq_true'] at h
  exact ⟨h.1.1, h.1.2, h.2⟩
theorem name_le {s : ByteArray} (h : nameOk s = true) : (s.size : Int) ≤ 12 := by
  simp only [nameOk, Bool.and_eq_true, decide_eq_true_eq] at h; omega
theorem opParts {o : DOp} (h : opOk o = true) : OpParts o := by
  have hz : ((noBytes.size : Nat) : Int) ≤ 1000 := by simp [noBytes]
  by_cases k1 : o.Kind = 1
  · simp only [opOk, k1, decide_true, cond_true, Bool.and_eq_true, decide_eq_true_eq] at h
    obtain ⟨⟨⟨⟨a1, a2⟩, a3⟩, a4⟩, a5⟩ := h
    obtain ⟨e1, e2, e3⟩ := noReply_eq a4
    exact ⟨by rw [k1]; decide, by rw [a1]; exact hz, by omega, by rw [e1]; exact hz, by rw [a5]; decide, by rw [if_neg (by omega)]; exact noFact_eq a3, by rw [if_neg (by omega)]; exact e3⟩
  by_cases k2 : o.Kind = 2
  · simp only [opOk, k2, show decide ((2 : Int) = 1) = false from rfl, decide_true, cond_true, cond_false, Bool.and_eq_true, decide_eq_true_eq] at h
    obtain ⟨⟨⟨⟨a1, a2⟩, a3⟩, a4⟩, a5⟩ := h
    obtain ⟨e1, e2, e3⟩ := noReply_eq a4
    have n1 := name_le a1; have n2 := name_le a2
    exact ⟨by rw [k2]; decide, by omega, by omega, by rw [e1]; exact hz, by rw [a5]; decide, by rw [if_neg (by omega)]; exact noFact_eq a3, by rw [if_neg (by omega)]; exact e3⟩
  by_cases k3 : o.Kind = 3
  · simp only [opOk, k3, show decide ((3 : Int) = 1) = false from rfl, show decide ((3 : Int) = 2) = false from rfl, decide_true, cond_true, cond_false, Bool.and_eq_true, decide_eq_true_eq] at h
    obtain ⟨⟨⟨⟨a1, a2⟩, a3⟩, a4⟩, a5⟩ := h
    obtain ⟨e1, e2, e3⟩ := noReply_eq a4
    have n1 := name_le a1
    exact ⟨by rw [k3]; decide, by omega, by rw [a2]; exact hz, by rw [e1]; exact hz, by rw [a5]; decide, by rw [if_pos k3]; exact a3, by rw [if_neg (by omega)]; exact e3⟩
  by_cases k4 : o.Kind = 4
  · simp only [opOk, k4, show decide ((4 : Int) = 1) = false from rfl, show decide ((4 : Int) = 2) = false from rfl, show decide ((4 : Int) = 3) = false from rfl, decide_true, cond_true, cond_false, Bool.and_eq_true, decide_eq_true_eq] at h
    obtain ⟨⟨⟨⟨⟨a1, a2⟩, a3⟩, a4⟩, a5⟩, a6⟩ := h
    have n1 := name_le a1
    exact ⟨by rw [k4]; decide, by omega, by rw [a2]; exact hz, by omega, by rw [a6]; decide, by rw [if_neg (by omega)]; exact noFact_eq a3, by rw [if_pos k4]; exact a5⟩
  by_cases k5 : o.Kind = 5
  · simp only [opOk, k5, show decide ((5 : Int) = 1) = false from rfl, show decide ((5 : Int) = 2) = false from rfl, show decide ((5 : Int) = 3) = false from rfl, show decide ((5 : Int) = 4) = false from rfl, decide_true, cond_true, cond_false, Bool.and_eq_true, decide_eq_true_eq] at h
    obtain ⟨⟨⟨⟨a1, a2⟩, a3⟩, a4⟩, a5⟩ := h
    obtain ⟨e1, e2, e3⟩ := noReply_eq a4
    exact ⟨by rw [k5]; decide, by rw [a1]; exact hz, by rw [a2]; exact hz, by rw [e1]; exact hz, by unfold numMax; omega, by rw [if_neg (by omega)]; exact noFact_eq a3, by rw [if_neg (by omega)]; exact e3⟩
  by_cases k6 : o.Kind = 6
  · simp only [opOk, k6, show decide ((6 : Int) = 1) = false from rfl, show decide ((6 : Int) = 2) = false from rfl, show decide ((6 : Int) = 3) = false from rfl, show decide ((6 : Int) = 4) = false from rfl, show decide ((6 : Int) = 5) = false from rfl, decide_true, cond_true, cond_false, Bool.and_eq_true, decide_eq_true_eq] at h
    obtain ⟨⟨⟨⟨a1, a2⟩, a3⟩, a4⟩, a5⟩ := h
    obtain ⟨e1, e2, e3⟩ := noReply_eq a4
    exact ⟨by rw [k6]; decide, by rw [a1]; exact hz, by rw [a2]; exact hz, by rw [e1]; exact hz, by rw [a5]; decide, by rw [if_neg (by omega)]; exact noFact_eq a3, by rw [if_neg (by omega)]; exact e3⟩
  by_cases k7 : o.Kind = 7
  · simp only [opOk, k7, show decide ((7 : Int) = 1) = false from rfl, show decide ((7 : Int) = 2) = false from rfl, show decide ((7 : Int) = 3) = false from rfl, show decide ((7 : Int) = 4) = false from rfl, show decide ((7 : Int) = 5) = false from rfl, show decide ((7 : Int) = 6) = false from rfl, decide_true, cond_true, cond_false, Bool.and_eq_true, decide_eq_true_eq] at h
    obtain ⟨⟨⟨⟨a1, a2⟩, a3⟩, a4⟩, a5⟩ := h
    obtain ⟨e1, e2, e3⟩ := noReply_eq a4
    have n1 := name_le a1
    exact ⟨by rw [k7]; decide, by omega, by rw [a2]; exact hz, by rw [e1]; exact hz, by rw [a5]; decide, by rw [if_neg (by omega)]; exact noFact_eq a3, by rw [if_neg (by omega)]; exact e3⟩
  · exfalso
    simp only [opOk, decide_eq_false k1, decide_eq_false k2, decide_eq_false k3, decide_eq_false k4, decide_eq_false k5, decide_eq_false k6, decide_eq_false k7, cond_false] at h
    cases h
theorem rNum_round {b : List Int} {p n : Int} {r : List Int} (h0 : 0 ≤ p) (hn : numMax n) (hd : b.drop p.toNat = numB n ++ r) : rNumV ⟨b, p, false⟩ = n ∧ rNum ⟨b, p, false⟩ = ⟨b, p + (numB n).length, false⟩ := by
  have h := gNum_round h0 hn hd
  have hk : rNumOk ⟨b, p, false⟩ = true := by simp only [rNumOk]; rw [h]; rfl
  rw [rNumV, rNum, if_pos hk, if_pos hk, h]
  exact ⟨rfl, rfl⟩
theorem rText_round {b : List Int} {p : Int} {s : ByteArray} {r : List Int} (hb : bytesOk b) (h0 : 0 ≤ p) (hn : (s.size : Int) ≤ 1000000000) (hd : b.drop p.toNat = textB s ++ r) : rTextV ⟨b, p, false⟩ = s ∧ rText ⟨b, p, false⟩ = ⟨b, p + (textB s).length, false⟩ := by
  have h := gText_round hb h0 hn hd
  have hk : rTextOk ⟨b, p, false⟩ = true := by simp only [rTextOk]; rw [h]; rfl
  rw [rTextV, rText, if_pos hk, if_pos hk, h]
  exact ⟨rfl, rfl⟩
theorem rFlag_round {b : List Int} {p : Int} {f : Bool} {r : List Int} (h0 : 0 ≤ p) (hd : b.drop p.toNat = flagB f ++ r) : rFlagV ⟨b, p, false⟩ = f ∧ rFlag ⟨b, p, false⟩ = ⟨b, p + (flagB f).length, false⟩ := by
  have hn : numMax (if f then 1 else 0) := by cases f <;> decide
  obtain ⟨h1, h2⟩ := rNum_round h0 hn hd
  constructor
  · rw [rFlagV, h1]; cases f <;> rfl
  · rw [rFlag, h1, h2]
    cases f <;> rfl
theorem gOp_round {o : DOp} (hb : bytesOk (opB o)) (h : opOk o = true) : gOp (opB o) = (o, true) := by
  obtain ⟨p1, p2, p3, p4, p5, p6, p7⟩ := opParts h
  have hB : opB o = numB o.Kind ++ (textB o.Name ++ (textB o.Text ++ ((if o.Kind = 3 then numB 1 ++ factB o.F else numB 0) ++ (textB o.Key ++ (flagB o.Ok ++ ((if o.Kind = 4 then numB 1 ++ valB o.V else numB 0) ++ (numB o.N ++ []))))))) := by
    rw [opB, if_pos h]; simp only [List.append_assoc, List.append_nil]
  generalize opB o = b at hB hb ⊢
  have hlen := congrArg List.length hB
  obtain ⟨v0, e1⟩ := rNum_round (b := b) (p := 0) (by omega) p1 hB
  have d1 := drop_app (b := b) (i := 0) (by omega) hB
  have e1 : q1 b = ⟨b, 0 + (numB o.Kind).length, false⟩ := e1
  generalize ha1 : 0 + ((numB o.Kind).length : Int) = a1 at d1 e1
  have s1 : 0 ≤ a1 := by omega
  obtain ⟨v1, e2⟩ := rText_round hb s1 (by omega) d1
  have d2 := drop_app s1 d1
  generalize ha2 : a1 + ((textB o.Name).length : Int) = a2 at d2 e2
  have s2 : 0 ≤ a2 := by omega
  obtain ⟨v2, e3⟩ := rText_round hb s2 (by omega) d2
  have d3 := drop_app s2 d2
  generalize ha3 : a2 + ((textB o.Text).length : Int) = a3 at d3 e3
  have s3 : 0 ≤ a3 := by omega
  have e2' : q2 b = ⟨b, a2, false⟩ := by rw [q2, e1]; exact e2
  have e3' : q3 b = ⟨b, a3, false⟩ := by rw [q3, e2']; exact e3
  have v1' : rTextV (q1 b) = o.Name := by rw [e1]; exact v1
  have v2' : rTextV (q2 b) = o.Text := by rw [e2']; exact v2
  have v0' : rNumV (rStart b) = o.Kind := v0
  -- the fact
  have hF : ∃ a5, q5 b = ⟨b, a5, false⟩ ∧ qF b = o.F ∧ a5 = a3 + ((if o.Kind = 3 then numB 1 ++ factB o.F else numB 0).length : Int) := by
    by_cases k3 : o.Kind = 3
    · rw [if_pos k3] at d3 p6 ⊢
      rw [List.append_assoc] at d3
      obtain ⟨w1, w2⟩ := rFlag_round (f := true) s3 d3
      have d4 := drop_app s3 d3
      have g := gFact_round hb (by omega) p6 d4
      have e4 : q4 b = ⟨b, a3 + (flagB true).length, false⟩ := by rw [q4, e3']; exact w2
      have w1' : rFlagV (q3 b) = true := by rw [e3']; exact w1
      have hl : (flagB true) = numB 1 := rfl
      rw [hl] at e4
      refine ⟨a3 + (numB 1).length + (factB o.F).length, ?_, ?_, by rw [List.length_append]; omega⟩
      · rw [q5, if_pos w1', e4, v0', k3]; dsimp only; rw [g]; rfl
      · rw [qF, if_pos w1', e4]; dsimp only; rw [g]
    · rw [if_neg k3] at d3 p6 ⊢
      obtain ⟨w1, w2⟩ := rFlag_round (f := false) s3 d3
      have e4 : q4 b = ⟨b, a3 + (flagB false).length, false⟩ := by rw [q4, e3']; exact w2
      have w1' : rFlagV (q3 b) = false := by rw [e3']; exact w1
      exact ⟨a3 + (flagB false).length, by rw [q5, if_neg (by rw [w1']; simp), e4], by rw [qF, if_neg (by rw [w1']; simp), p6], rfl⟩
  obtain ⟨a5, e5, vF, ha5⟩ := hF
  have s5 : 0 ≤ a5 := by omega
  have d5 := drop_app s3 d3
  rw [← ha5] at d5
  obtain ⟨v5, e6⟩ := rText_round hb s5 (by omega) d5
  have d6 := drop_app s5 d5
  generalize ha6 : a5 + ((textB o.Key).length : Int) = a6 at d6 e6
  have s6 : 0 ≤ a6 := by omega
  have e6' : q6 b = ⟨b, a6, false⟩ := by rw [q6, e5]; exact e6
  have v5' : rTextV (q5 b) = o.Key := by rw [e5]; exact v5
  obtain ⟨v6, e7⟩ := rFlag_round s6 d6
  have d7 := drop_app s6 d6
  generalize ha7 : a6 + ((flagB o.Ok).length : Int) = a7 at d7 e7
  have s7 : 0 ≤ a7 := by omega
  have e7' : q7 b = ⟨b, a7, false⟩ := by rw [q7, e6']; exact e7
  have v6' : rFlagV (q6 b) = o.Ok := by rw [e6']; exact v6
  have hV : ∃ a9, q9 b = ⟨b, a9, false⟩ ∧ qV b = o.V ∧ a9 = a7 + ((if o.Kind = 4 then numB 1 ++ valB o.V else numB 0).length : Int) := by
    by_cases k4 : o.Kind = 4
    · rw [if_pos k4] at d7 p7 ⊢
      rw [List.append_assoc] at d7
      obtain ⟨w1, w2⟩ := rFlag_round (f := true) s7 d7
      have d8 := drop_app s7 d7
      have g := gVal_round hb (by omega) p7 d8
      have e8 : q8 b = ⟨b, a7 + (flagB true).length, false⟩ := by rw [q8, e7']; exact w2
      have w1' : rFlagV (q7 b) = true := by rw [e7']; exact w1
      have hl : (flagB true) = numB 1 := rfl
      rw [hl] at e8
      refine ⟨a7 + (numB 1).length + (valB o.V).length, ?_, ?_, by rw [List.length_append]; omega⟩
      · rw [q9, if_pos w1', e8, v0', k4]; dsimp only; rw [g]; rfl
      · rw [qV, if_pos w1', e8]; dsimp only; rw [g]
    · rw [if_neg k4] at d7 p7 ⊢
      obtain ⟨w1, w2⟩ := rFlag_round (f := false) s7 d7
      have e8 : q8 b = ⟨b, a7 + (flagB false).length, false⟩ := by rw [q8, e7']; exact w2
      have w1' : rFlagV (q7 b) = false := by rw [e7']; exact w1
      exact ⟨a7 + (flagB false).length, by rw [q9, if_neg (by rw [w1']; simp), e8], by rw [qV, if_neg (by rw [w1']; simp), p7], rfl⟩
  obtain ⟨a9, e9, vV, ha9⟩ := hV
  have s9 : 0 ≤ a9 := by omega
  have d9 := drop_app s7 d7
  rw [← ha9] at d9
  obtain ⟨v9, e10⟩ := rNum_round s9 p5 d9
  have e10' : q10 b = ⟨b, a9 + (numB o.N).length, false⟩ := by rw [q10, e9]; exact e10
  have v9' : rNumV (q9 b) = o.N := by rw [e9]; exact v9
  have hO : qO b = o := by
    rw [qO, v0', v1', v2', vF, v5', v6', vV, v9']
  have hp : a9 + ((numB o.N).length : Int) = b.length := by
    simp only [List.length_append, List.length_nil] at hlen
    omega
  rw [gOp, if_pos ⟨by rw [e10'], by rw [e10']; exact hp, by rw [hO]; exact h⟩, hO]
def i1 (b : List Int) : DRd := iNum (rStart b)
def i2 (b : List Int) : DRd := iText (i1 b)
def i3 (b : List Int) : DRd := iText (i2 b)
def i4 (b : List Int) : DRd := iNum (i3 b)
def i5 (b : List Int) : DRd := if iNumV (i3 b) = 1 then iWent (i4 b) (gFact b (i4 b).p).2.1 (gFact b (i4 b).p).2.2 else i4 b
def iF (b : List Int) : DFact := if iNumV (i3 b) = 1 then (gFact b (i4 b).p).1 else zFact
def i6 (b : List Int) : DRd := iText (i5 b)
def i7 (b : List Int) : DRd := iNum (i6 b)
def i8 (b : List Int) : DRd := iNum (i7 b)
def i9 (b : List Int) : DRd := if iNumV (i7 b) = 1 then iWent (i8 b) (gVal b (i8 b).p).2.1 (gVal b (i8 b).p).2.2 else i8 b
def iV (b : List Int) : DVal := if iNumV (i7 b) = 1 then (gVal b (i8 b).p).1 else zVal
def i10 (b : List Int) : DRd := iNum (i9 b)
def iO (b : List Int) : DOp := ⟨iNumV (rStart b), iTextV (i1 b), iTextV (i2 b), iF b, iTextV (i5 b), iNumV (i6 b) == 1, iV b, iNumV (i9 b)⟩
theorem iNum_round {b : List Int} {p n : Int} {r : List Int} (h0 : 0 ≤ p) (hn : numMax n) (hd : b.drop p.toNat = numB n ++ r) : iNumV ⟨b, p, false⟩ = n ∧ iNum ⟨b, p, false⟩ = ⟨b, p + (numB n).length, false⟩ := by
  have h := gNum_round h0 hn hd
  rw [iNumV, iNum, h]
  exact ⟨rfl, rfl⟩
theorem iText_round {b : List Int} {p : Int} {s : ByteArray} {r : List Int} (hb : bytesOk b) (h0 : 0 ≤ p) (hn : (s.size : Int) ≤ 1000000000) (hd : b.drop p.toNat = textB s ++ r) : iTextV ⟨b, p, false⟩ = s ∧ iText ⟨b, p, false⟩ = ⟨b, p + (textB s).length, false⟩ := by
  have h := gText_round hb h0 hn hd
  rw [iTextV, iText, h]
  exact ⟨rfl, rfl⟩
theorem iFlag_round {b : List Int} {p : Int} {f : Bool} {r : List Int} (h0 : 0 ≤ p) (hd : b.drop p.toNat = flagB f ++ r) : iNumV ⟨b, p, false⟩ = (if f then 1 else 0) ∧ iNum ⟨b, p, false⟩ = ⟨b, p + (flagB f).length, false⟩ :=
  iNum_round h0 (by cases f <;> decide) hd
theorem iOp_round {o : DOp} (hb : bytesOk (opB o)) (h : opOk o = true) : (i10 (opB o)).bad = false ∧ iO (opB o) = o := by
  obtain ⟨p1, p2, p3, p4, p5, p6, p7⟩ := opParts h
  have hB : opB o = numB o.Kind ++ (textB o.Name ++ (textB o.Text ++ ((if o.Kind = 3 then numB 1 ++ factB o.F else numB 0) ++ (textB o.Key ++ (flagB o.Ok ++ ((if o.Kind = 4 then numB 1 ++ valB o.V else numB 0) ++ (numB o.N ++ []))))))) := by
    rw [opB, if_pos h]; simp only [List.append_assoc, List.append_nil]
  generalize opB o = b at hB hb ⊢
  have hlen := congrArg List.length hB
  obtain ⟨v0, e1⟩ := iNum_round (b := b) (p := 0) (by omega) p1 hB
  have d1 := drop_app (b := b) (i := 0) (by omega) hB
  have e1 : i1 b = ⟨b, 0 + (numB o.Kind).length, false⟩ := e1
  generalize ha1 : 0 + ((numB o.Kind).length : Int) = a1 at d1 e1
  have s1 : 0 ≤ a1 := by omega
  obtain ⟨v1, e2⟩ := iText_round hb s1 (by omega) d1
  have d2 := drop_app s1 d1
  generalize ha2 : a1 + ((textB o.Name).length : Int) = a2 at d2 e2
  have s2 : 0 ≤ a2 := by omega
  obtain ⟨v2, e3⟩ := iText_round hb s2 (by omega) d2
  have d3 := drop_app s2 d2
  generalize ha3 : a2 + ((textB o.Text).length : Int) = a3 at d3 e3
  have s3 : 0 ≤ a3 := by omega
  have e2' : i2 b = ⟨b, a2, false⟩ := by rw [i2, e1]; exact e2
  have e3' : i3 b = ⟨b, a3, false⟩ := by rw [i3, e2']; exact e3
  have v1' : iTextV (i1 b) = o.Name := by rw [e1]; exact v1
  have v2' : iTextV (i2 b) = o.Text := by rw [e2']; exact v2
  have v0' : iNumV (rStart b) = o.Kind := v0
  -- the fact
  have hF : ∃ a5, i5 b = ⟨b, a5, false⟩ ∧ iF b = o.F ∧ a5 = a3 + ((if o.Kind = 3 then numB 1 ++ factB o.F else numB 0).length : Int) := by
    by_cases k3 : o.Kind = 3
    · rw [if_pos k3] at d3 p6 ⊢
      rw [List.append_assoc] at d3
      obtain ⟨w1, w2⟩ := iFlag_round (f := true) s3 d3
      have d4 := drop_app s3 d3
      have g := gFact_round hb (by omega) p6 d4
      have e4 : i4 b = ⟨b, a3 + (flagB true).length, false⟩ := by rw [i4, e3']; exact w2
      have w1' : iNumV (i3 b) = 1 := by rw [e3']; exact w1
      have hl : (flagB true) = numB 1 := rfl
      rw [hl] at e4
      refine ⟨a3 + (numB 1).length + (factB o.F).length, ?_, ?_, by rw [List.length_append]; omega⟩
      · rw [i5, if_pos w1', e4]; dsimp only; rw [g]; rfl
      · rw [iF, if_pos w1', e4]; dsimp only; rw [g]
    · rw [if_neg k3] at d3 p6 ⊢
      obtain ⟨w1, w2⟩ := iFlag_round (f := false) s3 d3
      have e4 : i4 b = ⟨b, a3 + (flagB false).length, false⟩ := by rw [i4, e3']; exact w2
      have w1' : iNumV (i3 b) = 0 := by rw [e3']; exact w1
      exact ⟨a3 + (flagB false).length, by rw [i5, if_neg (by rw [w1']; simp), e4], by rw [iF, if_neg (by rw [w1']; simp), p6], rfl⟩
  obtain ⟨a5, e5, vF, ha5⟩ := hF
  have s5 : 0 ≤ a5 := by omega
  have d5 := drop_app s3 d3
  rw [← ha5] at d5
  obtain ⟨v5, e6⟩ := iText_round hb s5 (by omega) d5
  have d6 := drop_app s5 d5
  generalize ha6 : a5 + ((textB o.Key).length : Int) = a6 at d6 e6
  have s6 : 0 ≤ a6 := by omega
  have e6' : i6 b = ⟨b, a6, false⟩ := by rw [i6, e5]; exact e6
  have v5' : iTextV (i5 b) = o.Key := by rw [e5]; exact v5
  obtain ⟨v6, e7⟩ := iFlag_round s6 d6
  have d7 := drop_app s6 d6
  generalize ha7 : a6 + ((flagB o.Ok).length : Int) = a7 at d7 e7
  have s7 : 0 ≤ a7 := by omega
  have e7' : i7 b = ⟨b, a7, false⟩ := by rw [i7, e6']; exact e7
  have v6' : (iNumV (i6 b) == 1) = o.Ok := by rw [e6', v6]; cases o.Ok <;> rfl
  have hV : ∃ a9, i9 b = ⟨b, a9, false⟩ ∧ iV b = o.V ∧ a9 = a7 + ((if o.Kind = 4 then numB 1 ++ valB o.V else numB 0).length : Int) := by
    by_cases k4 : o.Kind = 4
    · rw [if_pos k4] at d7 p7 ⊢
      rw [List.append_assoc] at d7
      obtain ⟨w1, w2⟩ := iFlag_round (f := true) s7 d7
      have d8 := drop_app s7 d7
      have g := gVal_round hb (by omega) p7 d8
      have e8 : i8 b = ⟨b, a7 + (flagB true).length, false⟩ := by rw [i8, e7']; exact w2
      have w1' : iNumV (i7 b) = 1 := by rw [e7']; exact w1
      have hl : (flagB true) = numB 1 := rfl
      rw [hl] at e8
      refine ⟨a7 + (numB 1).length + (valB o.V).length, ?_, ?_, by rw [List.length_append]; omega⟩
      · rw [i9, if_pos w1', e8]; dsimp only; rw [g]; rfl
      · rw [iV, if_pos w1', e8]; dsimp only; rw [g]
    · rw [if_neg k4] at d7 p7 ⊢
      obtain ⟨w1, w2⟩ := iFlag_round (f := false) s7 d7
      have e8 : i8 b = ⟨b, a7 + (flagB false).length, false⟩ := by rw [i8, e7']; exact w2
      have w1' : iNumV (i7 b) = 0 := by rw [e7']; exact w1
      exact ⟨a7 + (flagB false).length, by rw [i9, if_neg (by rw [w1']; simp), e8], by rw [iV, if_neg (by rw [w1']; simp), p7], rfl⟩
  obtain ⟨a9, e9, vV, ha9⟩ := hV
  have s9 : 0 ≤ a9 := by omega
  have d9 := drop_app s7 d7
  rw [← ha9] at d9
  obtain ⟨v9, e10⟩ := iNum_round s9 p5 d9
  have e10' : i10 b = ⟨b, a9 + (numB o.N).length, false⟩ := by rw [i10, e9]; exact e10
  have v9' : iNumV (i9 b) = o.N := by rw [e9]; exact v9
  have hO : iO b = o := by
    rw [iO, v0', v1', v2', vF, v5', v6', vV, v9']
  exact ⟨by rw [e10'], hO⟩
theorem iOp_yes {b : List Int} (hb : bytesOk b) (h1 : opOk (iO b) = true) (h2 : opB (iO b) = b) : gOp b = (iO b, true) := by
  have := gOp_round (o := iO b) (by rw [h2]; exact hb) h1
  rwa [h2] at this
theorem iOp_no {b : List Int} (hb : bytesOk b) (h : ¬ ((i10 b).bad = false ∧ opOk (iO b) = true ∧ opB (iO b) = b)) : gOp b = (zOp, false) := by
  cases hg : (gOp b).2 with
  | true =>
    exfalso
    obtain ⟨c1, c2⟩ := gOp_canon hb hg
    obtain ⟨d1, d2⟩ := iOp_round (o := (gOp b).1) (by rw [c2]; exact hb) c1
    rw [c2] at d1 d2
    exact h ⟨d1, by rw [d2]; exact c1, by rw [d2]; exact c2⟩
  | false =>
    by_cases hc : (q10 b).bad = false ∧ (q10 b).p = b.length ∧ opOk (qO b) = true
    · rw [gOp, if_pos hc] at hg; simp at hg
    · exact if_neg hc
theorem valsB_ok : ∀ {l : List DVal}, l.all valOk = true → (valsB l).length ≤ 32 * l.length
  | [], _ => by simp [valsB]
  | v :: l, h => by
    simp only [List.all_cons, Bool.and_eq_true] at h
    have h1 := valsB_ok h.2
    have h2 := valB_len v
    have h3 : v.S.size ≤ 20 := by
      have hv := h.1
      simp only [valOk] at hv
      by_cases k1 : v.K = 1
      · simp [k1] at hv; rw [hv.2]; simp [noBytes]
      · by_cases k2 : v.K = 2
        · simp [k2] at hv; exact hv.1.2
        · simp [k1, k2] at hv
    have e : valsB (v :: l) = valB v ++ valsB l := rfl
    rw [e, List.length_append, List.length_cons]; omega
theorem opB_small {o : DOp} (h : opOk o = true) : (opB o).length ≤ 10000 := by
  obtain ⟨p1, p2, p3, p4, p5, p6, p7⟩ := opParts h
  have n1 := numB_len o.Kind; have n2 := textB_len o.Name; have n3 := textB_len o.Text; have n4 := textB_len o.Key; have n5 := numB_len o.N
  have n6 : (flagB o.Ok).length ≤ 5 := numB_len _
  have n7 : (if o.Kind = 3 then numB 1 ++ factB o.F else numB 0).length ≤ 1000 := by
    split
    · rename_i k
      rw [if_pos k] at p6
      simp only [factOk, Bool.and_eq_true, decide_eq_true_eq] at p6
      have a1 := numB_len 1; have a2 := textB_len o.F.Kind; have a3 := numB_len o.F.Fields.length; have a4 := valsB_ok p6.2
      have a5 := name_le p6.1.1
      have a6 := p6.1.2
      simp only [List.length_append, factB]; omega
    · have := numB_len 0; omega
  have n8 : (if o.Kind = 4 then numB 1 ++ valB o.V else numB 0).length ≤ 1000 := by
    split
    · rename_i k
      rw [if_pos k] at p7
      have a1 := numB_len 1
      have a2 := valsB_ok (l := [o.V]) (by simp [p7])
      have e : valsB [o.V] = valB o.V := by simp [valsB]
      rw [e] at a2
      simp only [List.length_cons, List.length_nil] at a2
      rw [List.length_append]; omega
    · have := numB_len 0; omega
  rw [opB, if_pos h]
  simp only [List.length_append]
  omega
theorem iNum_b (r : DRd) : (iNum r).b = r.b := rfl
theorem iText_b (r : DRd) : (iText r).b = r.b := rfl
theorem iWent_b (r : DRd) (n : Int) (k : Bool) : (iWent r n k).b = r.b := rfl
theorem i5_b (b : List Int) : (i5 b).b = b := by unfold i5; split <;> rfl
theorem i8_b (b : List Int) : (i8 b).b = b := i5_b b
theorem i9_b (b : List Int) : (i9 b).b = b := by unfold i9; split <;> exact i8_b b
def con_impl_GetOp : Con UU where
  α := (List Int)
  md := [.ro]
  of := fun | [.one (.sl .byte a0)] => some a0 | _ => none
  ds := fun b => [.one (.sl .byte b)]
  pre := fun b => [b.length ≤ 4294967296]
  res := fun b => ⟨[.agg [.lit (.int .i64 (((gOp b).1)).Kind), .lit (.string (((gOp b).1)).Name), .lit (.string (((gOp b).1)).Text), .lit (.string ((((gOp b).1)).F).Kind), .sl .eVal ((((gOp b).1)).F).Fields, .lit (.string (((gOp b).1)).Key), .lit (.bool (((gOp b).1)).Ok), .lit (.int .i64 ((((gOp b).1)).V).K), .lit (.int .i64 ((((gOp b).1)).V).N), .lit (.string ((((gOp b).1)).V).S), .lit (.int .i64 (((gOp b).1)).N)], .one (.lit (.bool ((gOp b).2)))], true, []⟩
  law := by intro l x h; (try simp only at h); split at h <;> cases h; rfl
def ann_impl_GetOp : con_impl_GetOp.α → Nat → Option (Ann UU) := fun b => annL []
def use_impl_GetOp : List (FuncId × Con UU) := [(47, con_impl_opReader_num), (48, con_impl_opReader_text), (50, con_impl_opReader_went), (49, con_impl_GetFact), (51, con_impl_GetVal), (16, con_impl_OpOk), (10, con_impl_PutOp), (52, con_bytes_Equal)]
theorem vc_impl_GetOp (b : (List Int)) : goal EE use_impl_GetOp Go.Proofs.Try.f12 con_impl_GetOp ann_impl_GetOp b = (let x0 : List Int := opB { Kind := iNumV { b := b, p := (0 : Int), bad := false : DRd }, Name := iTextV (iNum { b := b, p := (0 : Int), bad := false : DRd }), Text := iTextV (iText (iNum { b := b, p := (0 : Int), bad := false : DRd })), F := (gFact b (iNum (iText (iText (iNum { b := b, p := (0 : Int), bad := false : DRd })))).p).1, Key := iTextV (iWent (iNum (iText (iText (iNum { b := b, p := (0 : Int), bad := false : DRd })))) (gFact b (iNum (iText (iText (iNum { b := b, p := (0 : Int), bad := false : DRd })))).p).2.1 (gFact b (iNum (iText (iText (iNum { b := b, p := (0 : Int), bad := false : DRd })))).p).2.2), Ok := iNumV (iText (iWent (iNum (iText (iText (iNum { b := b, p := (0 : Int), bad := false : DRd })))) (gFact b (iNum (iText (iText (iNum { b := b, p := (0 : Int), bad := false : DRd })))).p).2.1 (gFact b (iNum (iText (iText (iNum { b := b, p := (0 : Int), bad := false : DRd })))).p).2.2)) == (1 : Int), V := (gVal b (iNum (iNum (iText (iWent (iNum (iText (iText (iNum { b := b, p := (0 : Int), bad := false : DRd })))) (gFact b (iNum (iText (iText (iNum { b := b, p := (0 : Int), bad := false : DRd })))).p).2.1 (gFact b (iNum (iText (iText (iNum { b := b, p := (0 : Int), bad := false : DRd })))).p).2.2)))).p).1, N := iNumV (iWent (iNum (iNum (iText (iWent (iNum (iText (iText (iNum { b := b, p := (0 : Int), bad := false : DRd })))) (gFact b (iNum (iText (iText (iNum { b := b, p := (0 : Int), bad := false : DRd })))).p).2.1 (gFact b (iNum (iText (iText (iNum { b := b, p := (0 : Int), bad := false : DRd })))).p).2.2)))) (gVal b (iNum (iNum (iText (iWent (iNum (iText (iText (iNum { b := b, p := (0 : Int), bad := false : DRd })))) (gFact b (iNum (iText (iText (iNum { b := b, p := (0 : Int), bad := false : DRd })))).p).2.1 (gFact b (iNum (iText (iText (iNum { b := b, p := (0 : Int), bad := false : DRd })))).p).2.2)))).p).2.1 (gVal b (iNum (iNum (iText (iWent (iNum (iText (iText (iNum { b := b, p := (0 : Int), bad := false : DRd })))) (gFact b (iNum (iText (iText (iNum { b := b, p := (0 : Int), bad := false : DRd })))).p).2.1 (gFact b (iNum (iText (iText (iNum { b := b, p := (0 : Int), bad := false : DRd })))).p).2.2)))).p).2.2) : DOp };
let x1 : DRd := iWent (iNum (iNum (iText (iWent (iNum (iText (iText (iNum { b := b, p := (0 : Int), bad := false : DRd })))) (gFact b (iNum (iText (iText (iNum { b := b, p := (0 : Int), bad := false : DRd })))).p).2.1 (gFact b (iNum (iText (iText (iNum { b := b, p := (0 : Int), bad := false : DRd })))).p).2.2)))) (gVal b (iNum (iNum (iText (iWent (iNum (iText (iText (iNum { b := b, p := (0 : Int), bad := false : DRd })))) (gFact b (iNum (iText (iText (iNum { b := b, p := (0 : Int), bad := false : DRd })))).p).2.1 (gFact b (iNum (iText (iText (iNum { b := b, p := (0 : Int), bad := false : DRd })))).p).2.2)))).p).2.1 (gVal b (iNum (iNum (iText (iWent (iNum (iText (iText (iNum { b := b, p := (0 : Int), bad := false : DRd })))) (gFact b (iNum (iText (iText (iNum { b := b, p := (0 : Int), bad := false : DRd })))).p).2.1 (gFact b (iNum (iText (iText (iNum { b := b, p := (0 : Int), bad := false : DRd })))).p).2.2)))).p).2.2;
let x2 : List Int := opB { Kind := iNumV { b := b, p := (0 : Int), bad := false : DRd }, Name := iTextV (iNum { b := b, p := (0 : Int), bad := false : DRd }), Text := iTextV (iText (iNum { b := b, p := (0 : Int), bad := false : DRd })), F := (gFact b (iNum (iText (iText (iNum { b := b, p := (0 : Int), bad := false : DRd })))).p).1, Key := iTextV (iWent (iNum (iText (iText (iNum { b := b, p := (0 : Int), bad := false : DRd })))) (gFact b (iNum (iText (iText (iNum { b := b, p := (0 : Int), bad := false : DRd })))).p).2.1 (gFact b (iNum (iText (iText (iNum { b := b, p := (0 : Int), bad := false : DRd })))).p).2.2), Ok := iNumV (iText (iWent (iNum (iText (iText (iNum { b := b, p := (0 : Int), bad := false : DRd })))) (gFact b (iNum (iText (iText (iNum { b := b, p := (0 : Int), bad := false : DRd })))).p).2.1 (gFact b (iNum (iText (iText (iNum { b := b, p := (0 : Int), bad := false : DRd })))).p).2.2)) == (1 : Int), V := { K := (0 : Int), N := (0 : Int), S := { data := #[] : ByteArray } : DVal }, N := iNumV (iNum (iNum (iText (iWent (iNum (iText (iText (iNum { b := b, p := (0 : Int), bad := false : DRd })))) (gFact b (iNum (iText (iText (iNum { b := b, p := (0 : Int), bad := false : DRd })))).p).2.1 (gFact b (iNum (iText (iText (iNum { b := b, p := (0 : Int), bad := false : DRd })))).p).2.2)))) : DOp };
let x3 : DRd := iNum (iNum (iText (iWent (iNum (iText (iText (iNum { b := b, p := (0 : Int), bad := false : DRd })))) (gFact b (iNum (iText (iText (iNum { b := b, p := (0 : Int), bad := false : DRd })))).p).2.1 (gFact b (iNum (iText (iText (iNum { b := b, p := (0 : Int), bad := false : DRd })))).p).2.2)));
let x4 : List Int := opB { Kind := iNumV { b := b, p := (0 : Int), bad := false : DRd }, Name := iTextV (iNum { b := b, p := (0 : Int), bad := false : DRd }), Text := iTextV (iText (iNum { b := b, p := (0 : Int), bad := false : DRd })), F := { Kind := { data := #[] : ByteArray }, Fields := [] : DFact }, Key := iTextV (iNum (iText (iText (iNum { b := b, p := (0 : Int), bad := false : DRd })))), Ok := iNumV (iText (iNum (iText (iText (iNum { b := b, p := (0 : Int), bad := false : DRd }))))) == (1 : Int), V := (gVal b (iNum (iNum (iText (iNum (iText (iText (iNum { b := b, p := (0 : Int), bad := false : DRd }))))))).p).1, N := iNumV (iWent (iNum (iNum (iText (iNum (iText (iText (iNum { b := b, p := (0 : Int), bad := false : DRd }))))))) (gVal b (iNum (iNum (iText (iNum (iText (iText (iNum { b := b, p := (0 : Int), bad := false : DRd }))))))).p).2.1 (gVal b (iNum (iNum (iText (iNum (iText (iText (iNum { b := b, p := (0 : Int), bad := false : DRd }))))))).p).2.2) : DOp };
let x5 : DRd := iWent (iNum (iNum (iText (iNum (iText (iText (iNum { b := b, p := (0 : Int), bad := false : DRd }))))))) (gVal b (iNum (iNum (iText (iNum (iText (iText (iNum { b := b, p := (0 : Int), bad := false : DRd }))))))).p).2.1 (gVal b (iNum (iNum (iText (iNum (iText (iText (iNum { b := b, p := (0 : Int), bad := false : DRd }))))))).p).2.2;
let x6 : Bool := iNumV (iText (iWent (iNum (iText (iText (iNum { b := b, p := (0 : Int), bad := false : DRd })))) (gFact b (iNum (iText (iText (iNum { b := b, p := (0 : Int), bad := false : DRd })))).p).2.1 (gFact b (iNum (iText (iText (iNum { b := b, p := (0 : Int), bad := false : DRd })))).p).2.2)) == (1 : Int);
let x7 : ByteArray := iTextV (iWent (iNum (iText (iText (iNum { b := b, p := (0 : Int), bad := false : DRd })))) (gFact b (iNum (iText (iText (iNum { b := b, p := (0 : Int), bad := false : DRd })))).p).2.1 (gFact b (iNum (iText (iText (iNum { b := b, p := (0 : Int), bad := false : DRd })))).p).2.2);
let x8 : List Int := opB { Kind := iNumV { b := b, p := (0 : Int), bad := false : DRd }, Name := iTextV (iNum { b := b, p := (0 : Int), bad := false : DRd }), Text := iTextV (iText (iNum { b := b, p := (0 : Int), bad := false : DRd })), F := { Kind := { data := #[] : ByteArray }, Fields := [] : DFact }, Key := iTextV (iNum (iText (iText (iNum { b := b, p := (0 : Int), bad := false : DRd })))), Ok := iNumV (iText (iNum (iText (iText (iNum { b := b, p := (0 : Int), bad := false : DRd }))))) == (1 : Int), V := { K := (0 : Int), N := (0 : Int), S := { data := #[] : ByteArray } : DVal }, N := iNumV (iNum (iNum (iText (iNum (iText (iText (iNum { b := b, p := (0 : Int), bad := false : DRd }))))))) : DOp };
let x9 : DRd := iNum (iText (iWent (iNum (iText (iText (iNum { b := b, p := (0 : Int), bad := false : DRd })))) (gFact b (iNum (iText (iText (iNum { b := b, p := (0 : Int), bad := false : DRd })))).p).2.1 (gFact b (iNum (iText (iText (iNum { b := b, p := (0 : Int), bad := false : DRd })))).p).2.2));
let x10 : DRd := iWent (iNum (iText (iText (iNum { b := b, p := (0 : Int), bad := false : DRd })))) (gFact b (iNum (iText (iText (iNum { b := b, p := (0 : Int), bad := false : DRd })))).p).2.1 (gFact b (iNum (iText (iText (iNum { b := b, p := (0 : Int), bad := false : DRd })))).p).2.2;
let x11 : DRd := iNum (iNum (iText (iNum (iText (iText (iNum { b := b, p := (0 : Int), bad := false : DRd }))))));
let x12 : ByteArray := iTextV (iText (iNum { b := b, p := (0 : Int), bad := false : DRd }));
let x13 : Bool := iNumV (iText (iNum (iText (iText (iNum { b := b, p := (0 : Int), bad := false : DRd }))))) == (1 : Int);
let x14 : ByteArray := iTextV (iNum { b := b, p := (0 : Int), bad := false : DRd });
let x15 : DRd := iNum (iText (iText (iNum { b := b, p := (0 : Int), bad := false : DRd })));
let x16 : Int := iNumV { b := b, p := (0 : Int), bad := false : DRd };
let x17 : DVal := { K := (0 : Int), N := (0 : Int), S := { data := #[] : ByteArray } : DVal };
List.length b ≤ (4294967296 : Nat) ∧ List.length (iNum { b := b, p := (0 : Int), bad := false : DRd }).b ≤ (4294967296 : Nat) ∧ List.length (iText (iNum { b := b, p := (0 : Int), bad := false : DRd })).b ≤ (4294967296 : Nat) ∧ List.length (iText (iText (iNum { b := b, p := (0 : Int), bad := false : DRd }))).b ≤ (4294967296 : Nat) ∧ bif iNumV (iText (iText (iNum { b := b, p := (0 : Int), bad := false : DRd }))) == (1 : Int) then List.length b ≤ (4294967296 : Nat) ∧ List.length x10.b ≤ (4294967296 : Nat) ∧ List.length (iText x10).b ≤ (4294967296 : Nat) ∧ List.length x9.b ≤ (4294967296 : Nat) ∧ bif iNumV x9 == (1 : Int) then List.length b ≤ (4294967296 : Nat) ∧ List.length x1.b ≤ (4294967296 : Nat) ∧ bif (iNum x1).bad then Lf [DV.agg [Cell.lit (Value.int IntKind.i64 (0 : Int)), Cell.lit (Value.string { data := #[] : ByteArray }), Cell.lit (Value.string { data := #[] : ByteArray }), Cell.lit (Value.string { data := #[] : ByteArray }), Cell.sl Cd.eVal [], Cell.lit (Value.string { data := #[] : ByteArray }), Cell.lit (Value.bool false), Cell.lit (Value.int IntKind.i64 (0 : Int)), Cell.lit (Value.int IntKind.i64 (0 : Int)), Cell.lit (Value.string { data := #[] : ByteArray }), Cell.lit (Value.int IntKind.i64 (0 : Int))], DV.one (Cell.lit (Value.bool false))] [DV.agg [Cell.lit (Value.int IntKind.i64 (gOp b).1.Kind), Cell.lit (Value.string (gOp b).1.Name), Cell.lit (Value.string (gOp b).1.Text), Cell.lit (Value.string (gOp b).1.F.Kind), Cell.sl Cd.eVal (gOp b).1.F.Fields, Cell.lit (Value.string (gOp b).1.Key), Cell.lit (Value.bool (gOp b).1.Ok), Cell.lit (Value.int IntKind.i64 (gOp b).1.V.K), Cell.lit (Value.int IntKind.i64 (gOp b).1.V.N), Cell.lit (Value.string (gOp b).1.V.S), Cell.lit (Value.int IntKind.i64 (gOp b).1.N)], DV.one (Cell.lit (Value.bool (gOp b).2))] else bif !opOk { Kind := x16, Name := x14, Text := x12, F := (gFact b x15.p).1, Key := x7, Ok := x6, V := (gVal b x3.p).1, N := iNumV x1 : DOp } then Lf [DV.agg [Cell.lit (Value.int IntKind.i64 (0 : Int)), Cell.lit (Value.string { data := #[] : ByteArray }), Cell.lit (Value.string { data := #[] : ByteArray }), Cell.lit (Value.string { data := #[] : ByteArray }), Cell.sl Cd.eVal [], Cell.lit (Value.string { data := #[] : ByteArray }), Cell.lit (Value.bool false), Cell.lit (Value.int IntKind.i64 (0 : Int)), Cell.lit (Value.int IntKind.i64 (0 : Int)), Cell.lit (Value.string { data := #[] : ByteArray }), Cell.lit (Value.int IntKind.i64 (0 : Int))], DV.one (Cell.lit (Value.bool false))] [DV.agg [Cell.lit (Value.int IntKind.i64 (gOp b).1.Kind), Cell.lit (Value.string (gOp b).1.Name), Cell.lit (Value.string (gOp b).1.Text), Cell.lit (Value.string (gOp b).1.F.Kind), Cell.sl Cd.eVal (gOp b).1.F.Fields, Cell.lit (Value.string (gOp b).1.Key), Cell.lit (Value.bool (gOp b).1.Ok), Cell.lit (Value.int IntKind.i64 (gOp b).1.V.K), Cell.lit (Value.int IntKind.i64 (gOp b).1.V.N), Cell.lit (Value.string (gOp b).1.V.S), Cell.lit (Value.int IntKind.i64 (gOp b).1.N)], DV.one (Cell.lit (Value.bool (gOp b).2))] else List.length x0 ≤ (4294967200 : Nat) ∧ bif !decide (x0 = b) then Lf [DV.agg [Cell.lit (Value.int IntKind.i64 (0 : Int)), Cell.lit (Value.string { data := #[] : ByteArray }), Cell.lit (Value.string { data := #[] : ByteArray }), Cell.lit (Value.string { data := #[] : ByteArray }), Cell.sl Cd.eVal [], Cell.lit (Value.string { data := #[] : ByteArray }), Cell.lit (Value.bool false), Cell.lit (Value.int IntKind.i64 (0 : Int)), Cell.lit (Value.int IntKind.i64 (0 : Int)), Cell.lit (Value.string { data := #[] : ByteArray }), Cell.lit (Value.int IntKind.i64 (0 : Int))], DV.one (Cell.lit (Value.bool false))] [DV.agg [Cell.lit (Value.int IntKind.i64 (gOp b).1.Kind), Cell.lit (Value.string (gOp b).1.Name), Cell.lit (Value.string (gOp b).1.Text), Cell.lit (Value.string (gOp b).1.F.Kind), Cell.sl Cd.eVal (gOp b).1.F.Fields, Cell.lit (Value.string (gOp b).1.Key), Cell.lit (Value.bool (gOp b).1.Ok), Cell.lit (Value.int IntKind.i64 (gOp b).1.V.K), Cell.lit (Value.int IntKind.i64 (gOp b).1.V.N), Cell.lit (Value.string (gOp b).1.V.S), Cell.lit (Value.int IntKind.i64 (gOp b).1.N)], DV.one (Cell.lit (Value.bool (gOp b).2))] else Lf [DV.agg [Cell.lit (Value.int IntKind.i64 x16), Cell.lit (Value.string x14), Cell.lit (Value.string x12), Cell.lit (Value.string (gFact b x15.p).1.Kind), Cell.sl Cd.eVal (gFact b x15.p).1.Fields, Cell.lit (Value.string x7), Cell.lit (Value.bool x6), Cell.lit (Value.int IntKind.i64 (gVal b x3.p).1.K), Cell.lit (Value.int IntKind.i64 (gVal b x3.p).1.N), Cell.lit (Value.string (gVal b x3.p).1.S), Cell.lit (Value.int IntKind.i64 (iNumV x1))], DV.one (Cell.lit (Value.bool true))] [DV.agg [Cell.lit (Value.int IntKind.i64 (gOp b).1.Kind), Cell.lit (Value.string (gOp b).1.Name), Cell.lit (Value.string (gOp b).1.Text), Cell.lit (Value.string (gOp b).1.F.Kind), Cell.sl Cd.eVal (gOp b).1.F.Fields, Cell.lit (Value.string (gOp b).1.Key), Cell.lit (Value.bool (gOp b).1.Ok), Cell.lit (Value.int IntKind.i64 (gOp b).1.V.K), Cell.lit (Value.int IntKind.i64 (gOp b).1.V.N), Cell.lit (Value.string (gOp b).1.V.S), Cell.lit (Value.int IntKind.i64 (gOp b).1.N)], DV.one (Cell.lit (Value.bool (gOp b).2))] else List.length x3.b ≤ (4294967296 : Nat) ∧ bif (iNum x3).bad then Lf [DV.agg [Cell.lit (Value.int IntKind.i64 (0 : Int)), Cell.lit (Value.string { data := #[] : ByteArray }), Cell.lit (Value.string { data := #[] : ByteArray }), Cell.lit (Value.string { data := #[] : ByteArray }), Cell.sl Cd.eVal [], Cell.lit (Value.string { data := #[] : ByteArray }), Cell.lit (Value.bool false), Cell.lit (Value.int IntKind.i64 (0 : Int)), Cell.lit (Value.int IntKind.i64 (0 : Int)), Cell.lit (Value.string { data := #[] : ByteArray }), Cell.lit (Value.int IntKind.i64 (0 : Int))], DV.one (Cell.lit (Value.bool false))] [DV.agg [Cell.lit (Value.int IntKind.i64 (gOp b).1.Kind), Cell.lit (Value.string (gOp b).1.Name), Cell.lit (Value.string (gOp b).1.Text), Cell.lit (Value.string (gOp b).1.F.Kind), Cell.sl Cd.eVal (gOp b).1.F.Fields, Cell.lit (Value.string (gOp b).1.Key), Cell.lit (Value.bool (gOp b).1.Ok), Cell.lit (Value.int IntKind.i64 (gOp b).1.V.K), Cell.lit (Value.int IntKind.i64 (gOp b).1.V.N), Cell.lit (Value.string (gOp b).1.V.S), Cell.lit (Value.int IntKind.i64 (gOp b).1.N)], DV.one (Cell.lit (Value.bool (gOp b).2))] else bif !opOk { Kind := x16, Name := x14, Text := x12, F := (gFact b x15.p).1, Key := x7, Ok := x6, V := x17, N := iNumV x3 : DOp } then Lf [DV.agg [Cell.lit (Value.int IntKind.i64 (0 : Int)), Cell.lit (Value.string { data := #[] : ByteArray }), Cell.lit (Value.string { data := #[] : ByteArray }), Cell.lit (Value.string { data := #[] : ByteArray }), Cell.sl Cd.eVal [], Cell.lit (Value.string { data := #[] : ByteArray }), Cell.lit (Value.bool false), Cell.lit (Value.int IntKind.i64 (0 : Int)), Cell.lit (Value.int IntKind.i64 (0 : Int)), Cell.lit (Value.string { data := #[] : ByteArray }), Cell.lit (Value.int IntKind.i64 (0 : Int))], DV.one (Cell.lit (Value.bool false))] [DV.agg [Cell.lit (Value.int IntKind.i64 (gOp b).1.Kind), Cell.lit (Value.string (gOp b).1.Name), Cell.lit (Value.string (gOp b).1.Text), Cell.lit (Value.string (gOp b).1.F.Kind), Cell.sl Cd.eVal (gOp b).1.F.Fields, Cell.lit (Value.string (gOp b).1.Key), Cell.lit (Value.bool (gOp b).1.Ok), Cell.lit (Value.int IntKind.i64 (gOp b).1.V.K), Cell.lit (Value.int IntKind.i64 (gOp b).1.V.N), Cell.lit (Value.string (gOp b).1.V.S), Cell.lit (Value.int IntKind.i64 (gOp b).1.N)], DV.one (Cell.lit (Value.bool (gOp b).2))] else List.length x2 ≤ (4294967200 : Nat) ∧ bif !decide (x2 = b) then Lf [DV.agg [Cell.lit (Value.int IntKind.i64 (0 : Int)), Cell.lit (Value.string { data := #[] : ByteArray }), Cell.lit (Value.string { data := #[] : ByteArray }), Cell.lit (Value.string { data := #[] : ByteArray }), Cell.sl Cd.eVal [], Cell.lit (Value.string { data := #[] : ByteArray }), Cell.lit (Value.bool false), Cell.lit (Value.int IntKind.i64 (0 : Int)), Cell.lit (Value.int IntKind.i64 (0 : Int)), Cell.lit (Value.string { data := #[] : ByteArray }), Cell.lit (Value.int IntKind.i64 (0 : Int))], DV.one (Cell.lit (Value.bool false))] [DV.agg [Cell.lit (Value.int IntKind.i64 (gOp b).1.Kind), Cell.lit (Value.string (gOp b).1.Name), Cell.lit (Value.string (gOp b).1.Text), Cell.lit (Value.string (gOp b).1.F.Kind), Cell.sl Cd.eVal (gOp b).1.F.Fields, Cell.lit (Value.string (gOp b).1.Key), Cell.lit (Value.bool (gOp b).1.Ok), Cell.lit (Value.int IntKind.i64 (gOp b).1.V.K), Cell.lit (Value.int IntKind.i64 (gOp b).1.V.N), Cell.lit (Value.string (gOp b).1.V.S), Cell.lit (Value.int IntKind.i64 (gOp b).1.N)], DV.one (Cell.lit (Value.bool (gOp b).2))] else Lf [DV.agg [Cell.lit (Value.int IntKind.i64 x16), Cell.lit (Value.string x14), Cell.lit (Value.string x12), Cell.lit (Value.string (gFact b x15.p).1.Kind), Cell.sl Cd.eVal (gFact b x15.p).1.Fields, Cell.lit (Value.string x7), Cell.lit (Value.bool x6), Cell.lit (Value.int IntKind.i64 (0 : Int)), Cell.lit (Value.int IntKind.i64 (0 : Int)), Cell.lit (Value.string { data := #[] : ByteArray }), Cell.lit (Value.int IntKind.i64 (iNumV x3))], DV.one (Cell.lit (Value.bool true))] [DV.agg [Cell.lit (Value.int IntKind.i64 (gOp b).1.Kind), Cell.lit (Value.string (gOp b).1.Name), Cell.lit (Value.string (gOp b).1.Text), Cell.lit (Value.string (gOp b).1.F.Kind), Cell.sl Cd.eVal (gOp b).1.F.Fields, Cell.lit (Value.string (gOp b).1.Key), Cell.lit (Value.bool (gOp b).1.Ok), Cell.lit (Value.int IntKind.i64 (gOp b).1.V.K), Cell.lit (Value.int IntKind.i64 (gOp b).1.V.N), Cell.lit (Value.string (gOp b).1.V.S), Cell.lit (Value.int IntKind.i64 (gOp b).1.N)], DV.one (Cell.lit (Value.bool (gOp b).2))] else List.length x15.b ≤ (4294967296 : Nat) ∧ List.length (iText x15).b ≤ (4294967296 : Nat) ∧ List.length (iNum (iText x15)).b ≤ (4294967296 : Nat) ∧ bif iNumV (iNum (iText x15)) == (1 : Int) then List.length b ≤ (4294967296 : Nat) ∧ List.length x5.b ≤ (4294967296 : Nat) ∧ bif (iNum x5).bad then Lf [DV.agg [Cell.lit (Value.int IntKind.i64 (0 : Int)), Cell.lit (Value.string { data := #[] : ByteArray }), Cell.lit (Value.string { data := #[] : ByteArray }), Cell.lit (Value.string { data := #[] : ByteArray }), Cell.sl Cd.eVal [], Cell.lit (Value.string { data := #[] : ByteArray }), Cell.lit (Value.bool false), Cell.lit (Value.int IntKind.i64 (0 : Int)), Cell.lit (Value.int IntKind.i64 (0 : Int)), Cell.lit (Value.string { data := #[] : ByteArray }), Cell.lit (Value.int IntKind.i64 (0 : Int))], DV.one (Cell.lit (Value.bool false))] [DV.agg [Cell.lit (Value.int IntKind.i64 (gOp b).1.Kind), Cell.lit (Value.string (gOp b).1.Name), Cell.lit (Value.string (gOp b).1.Text), Cell.lit (Value.string (gOp b).1.F.Kind), Cell.sl Cd.eVal (gOp b).1.F.Fields, Cell.lit (Value.string (gOp b).1.Key), Cell.lit (Value.bool (gOp b).1.Ok), Cell.lit (Value.int IntKind.i64 (gOp b).1.V.K), Cell.lit (Value.int IntKind.i64 (gOp b).1.V.N), Cell.lit (Value.string (gOp b).1.V.S), Cell.lit (Value.int IntKind.i64 (gOp b).1.N)], DV.one (Cell.lit (Value.bool (gOp b).2))] else bif !opOk { Kind := x16, Name := x14, Text := x12, F := { Kind := { data := #[] : ByteArray }, Fields := [] : DFact }, Key := iTextV x15, Ok := x13, V := (gVal b x11.p).1, N := iNumV x5 : DOp } then Lf [DV.agg [Cell.lit (Value.int IntKind.i64 (0 : Int)), Cell.lit (Value.string { data := #[] : ByteArray }), Cell.lit (Value.string { data := #[] : ByteArray }), Cell.lit (Value.string { data := #[] : ByteArray }), Cell.sl Cd.eVal [], Cell.lit (Value.string { data := #[] : ByteArray }), Cell.lit (Value.bool false), Cell.lit (Value.int IntKind.i64 (0 : Int)), Cell.lit (Value.int IntKind.i64 (0 : Int)), Cell.lit (Value.string { data := #[] : ByteArray }), Cell.lit (Value.int IntKind.i64 (0 : Int))], DV.one (Cell.lit (Value.bool false))] [DV.agg [Cell.lit (Value.int IntKind.i64 (gOp b).1.Kind), Cell.lit (Value.string (gOp b).1.Name), Cell.lit (Value.string (gOp b).1.Text), Cell.lit (Value.string (gOp b).1.F.Kind), Cell.sl Cd.eVal (gOp b).1.F.Fields, Cell.lit (Value.string (gOp b).1.Key), Cell.lit (Value.bool (gOp b).1.Ok), Cell.lit (Value.int IntKind.i64 (gOp b).1.V.K), Cell.lit (Value.int IntKind.i64 (gOp b).1.V.N), Cell.lit (Value.string (gOp b).1.V.S), Cell.lit (Value.int IntKind.i64 (gOp b).1.N)], DV.one (Cell.lit (Value.bool (gOp b).2))] else List.length x4 ≤ (4294967200 : Nat) ∧ bif !decide (x4 = b) then Lf [DV.agg [Cell.lit (Value.int IntKind.i64 (0 : Int)), Cell.lit (Value.string { data := #[] : ByteArray }), Cell.lit (Value.string { data := #[] : ByteArray }), Cell.lit (Value.string { data := #[] : ByteArray }), Cell.sl Cd.eVal [], Cell.lit (Value.string { data := #[] : ByteArray }), Cell.lit (Value.bool false), Cell.lit (Value.int IntKind.i64 (0 : Int)), Cell.lit (Value.int IntKind.i64 (0 : Int)), Cell.lit (Value.string { data := #[] : ByteArray }), Cell.lit (Value.int IntKind.i64 (0 : Int))], DV.one (Cell.lit (Value.bool false))] [DV.agg [Cell.lit (Value.int IntKind.i64 (gOp b).1.Kind), Cell.lit (Value.string (gOp b).1.Name), Cell.lit (Value.string (gOp b).1.Text), Cell.lit (Value.string (gOp b).1.F.Kind), Cell.sl Cd.eVal (gOp b).1.F.Fields, Cell.lit (Value.string (gOp b).1.Key), Cell.lit (Value.bool (gOp b).1.Ok), Cell.lit (Value.int IntKind.i64 (gOp b).1.V.K), Cell.lit (Value.int IntKind.i64 (gOp b).1.V.N), Cell.lit (Value.string (gOp b).1.V.S), Cell.lit (Value.int IntKind.i64 (gOp b).1.N)], DV.one (Cell.lit (Value.bool (gOp b).2))] else Lf [DV.agg [Cell.lit (Value.int IntKind.i64 x16), Cell.lit (Value.string x14), Cell.lit (Value.string x12), Cell.lit (Value.string { data := #[] : ByteArray }), Cell.sl Cd.eVal [], Cell.lit (Value.string (iTextV x15)), Cell.lit (Value.bool x13), Cell.lit (Value.int IntKind.i64 (gVal b x11.p).1.K), Cell.lit (Value.int IntKind.i64 (gVal b x11.p).1.N), Cell.lit (Value.string (gVal b x11.p).1.S), Cell.lit (Value.int IntKind.i64 (iNumV x5))], DV.one (Cell.lit (Value.bool true))] [DV.agg [Cell.lit (Value.int IntKind.i64 (gOp b).1.Kind), Cell.lit (Value.string (gOp b).1.Name), Cell.lit (Value.string (gOp b).1.Text), Cell.lit (Value.string (gOp b).1.F.Kind), Cell.sl Cd.eVal (gOp b).1.F.Fields, Cell.lit (Value.string (gOp b).1.Key), Cell.lit (Value.bool (gOp b).1.Ok), Cell.lit (Value.int IntKind.i64 (gOp b).1.V.K), Cell.lit (Value.int IntKind.i64 (gOp b).1.V.N), Cell.lit (Value.string (gOp b).1.V.S), Cell.lit (Value.int IntKind.i64 (gOp b).1.N)], DV.one (Cell.lit (Value.bool (gOp b).2))] else List.length x11.b ≤ (4294967296 : Nat) ∧ bif (iNum x11).bad then Lf [DV.agg [Cell.lit (Value.int IntKind.i64 (0 : Int)), Cell.lit (Value.string { data := #[] : ByteArray }), Cell.lit (Value.string { data := #[] : ByteArray }), Cell.lit (Value.string { data := #[] : ByteArray }), Cell.sl Cd.eVal [], Cell.lit (Value.string { data := #[] : ByteArray }), Cell.lit (Value.bool false), Cell.lit (Value.int IntKind.i64 (0 : Int)), Cell.lit (Value.int IntKind.i64 (0 : Int)), Cell.lit (Value.string { data := #[] : ByteArray }), Cell.lit (Value.int IntKind.i64 (0 : Int))], DV.one (Cell.lit (Value.bool false))] [DV.agg [Cell.lit (Value.int IntKind.i64 (gOp b).1.Kind), Cell.lit (Value.string (gOp b).1.Name), Cell.lit (Value.string (gOp b).1.Text), Cell.lit (Value.string (gOp b).1.F.Kind), Cell.sl Cd.eVal (gOp b).1.F.Fields, Cell.lit (Value.string (gOp b).1.Key), Cell.lit (Value.bool (gOp b).1.Ok), Cell.lit (Value.int IntKind.i64 (gOp b).1.V.K), Cell.lit (Value.int IntKind.i64 (gOp b).1.V.N), Cell.lit (Value.string (gOp b).1.V.S), Cell.lit (Value.int IntKind.i64 (gOp b).1.N)], DV.one (Cell.lit (Value.bool (gOp b).2))] else bif !opOk { Kind := x16, Name := x14, Text := x12, F := { Kind := { data := #[] : ByteArray }, Fields := [] : DFact }, Key := iTextV x15, Ok := x13, V := x17, N := iNumV x11 : DOp } then Lf [DV.agg [Cell.lit (Value.int IntKind.i64 (0 : Int)), Cell.lit (Value.string { data := #[] : ByteArray }), Cell.lit (Value.string { data := #[] : ByteArray }), Cell.lit (Value.string { data := #[] : ByteArray }), Cell.sl Cd.eVal [], Cell.lit (Value.string { data := #[] : ByteArray }), Cell.lit (Value.bool false), Cell.lit (Value.int IntKind.i64 (0 : Int)), Cell.lit (Value.int IntKind.i64 (0 : Int)), Cell.lit (Value.string { data := #[] : ByteArray }), Cell.lit (Value.int IntKind.i64 (0 : Int))], DV.one (Cell.lit (Value.bool false))] [DV.agg [Cell.lit (Value.int IntKind.i64 (gOp b).1.Kind), Cell.lit (Value.string (gOp b).1.Name), Cell.lit (Value.string (gOp b).1.Text), Cell.lit (Value.string (gOp b).1.F.Kind), Cell.sl Cd.eVal (gOp b).1.F.Fields, Cell.lit (Value.string (gOp b).1.Key), Cell.lit (Value.bool (gOp b).1.Ok), Cell.lit (Value.int IntKind.i64 (gOp b).1.V.K), Cell.lit (Value.int IntKind.i64 (gOp b).1.V.N), Cell.lit (Value.string (gOp b).1.V.S), Cell.lit (Value.int IntKind.i64 (gOp b).1.N)], DV.one (Cell.lit (Value.bool (gOp b).2))] else List.length x8 ≤ (4294967200 : Nat) ∧ bif !decide (x8 = b) then Lf [DV.agg [Cell.lit (Value.int IntKind.i64 (0 : Int)), Cell.lit (Value.string { data := #[] : ByteArray }), Cell.lit (Value.string { data := #[] : ByteArray }), Cell.lit (Value.string { data := #[] : ByteArray }), Cell.sl Cd.eVal [], Cell.lit (Value.string { data := #[] : ByteArray }), Cell.lit (Value.bool false), Cell.lit (Value.int IntKind.i64 (0 : Int)), Cell.lit (Value.int IntKind.i64 (0 : Int)), Cell.lit (Value.string { data := #[] : ByteArray }), Cell.lit (Value.int IntKind.i64 (0 : Int))], DV.one (Cell.lit (Value.bool false))] [DV.agg [Cell.lit (Value.int IntKind.i64 (gOp b).1.Kind), Cell.lit (Value.string (gOp b).1.Name), Cell.lit (Value.string (gOp b).1.Text), Cell.lit (Value.string (gOp b).1.F.Kind), Cell.sl Cd.eVal (gOp b).1.F.Fields, Cell.lit (Value.string (gOp b).1.Key), Cell.lit (Value.bool (gOp b).1.Ok), Cell.lit (Value.int IntKind.i64 (gOp b).1.V.K), Cell.lit (Value.int IntKind.i64 (gOp b).1.V.N), Cell.lit (Value.string (gOp b).1.V.S), Cell.lit (Value.int IntKind.i64 (gOp b).1.N)], DV.one (Cell.lit (Value.bool (gOp b).2))] else Lf [DV.agg [Cell.lit (Value.int IntKind.i64 x16), Cell.lit (Value.string x14), Cell.lit (Value.string x12), Cell.lit (Value.string { data := #[] : ByteArray }), Cell.sl Cd.eVal [], Cell.lit (Value.string (iTextV x15)), Cell.lit (Value.bool x13), Cell.lit (Value.int IntKind.i64 (0 : Int)), Cell.lit (Value.int IntKind.i64 (0 : Int)), Cell.lit (Value.string { data := #[] : ByteArray }), Cell.lit (Value.int IntKind.i64 (iNumV x11))], DV.one (Cell.lit (Value.bool true))] [DV.agg [Cell.lit (Value.int IntKind.i64 (gOp b).1.Kind), Cell.lit (Value.string (gOp b).1.Name), Cell.lit (Value.string (gOp b).1.Text), Cell.lit (Value.string (gOp b).1.F.Kind), Cell.sl Cd.eVal (gOp b).1.F.Fields, Cell.lit (Value.string (gOp b).1.Key), Cell.lit (Value.bool (gOp b).1.Ok), Cell.lit (Value.int IntKind.i64 (gOp b).1.V.K), Cell.lit (Value.int IntKind.i64 (gOp b).1.V.N), Cell.lit (Value.string (gOp b).1.V.S), Cell.lit (Value.int IntKind.i64 (gOp b).1.N)], DV.one (Cell.lit (Value.bool (gOp b).2))]) := by kernel_rfl
theorem ok_impl_GetOp : Holds EE (12, con_impl_GetOp) := by
  refine holds_of EE_ok Go.Proofs.Try.func12 con_impl_GetOp (by kernel_rfl) use_impl_GetOp (all_cons ok_impl_opReader_num (all_cons ok_impl_opReader_text (all_cons ok_impl_opReader_went (all_cons ok_impl_GetFact (all_cons ok_impl_GetVal (all_cons ok_impl_OpOk (all_cons ok_impl_PutOp (all_cons ok_bytes_Equal all_nil)))))))) ann_impl_GetOp (fun (b : (List Int)) hp hb => ?_)
  have hb_b : BdDV (U := UU) (.one (.sl .byte b)) := hb _ (List.mem_cons_self)
  have hl_b : b.length ≤ 9223372036854775807 := Bd.len hb_b
  have hp0 : b.length ≤ 4294967296 := hp _ (List.mem_cons_self)
  clear hp hb
  rw [vc_impl_GetOp b]
  dsimp only
  have f0 : iNumV ⟨b, 0, false⟩ = iNumV (rStart b) := rfl
  have f1 : iNum ⟨b, 0, false⟩ = i1 b := rfl
  have f2 : iText (i1 b) = i2 b := rfl
  have f3 : iText (i2 b) = i3 b := rfl
  have f4 : iNum (i3 b) = i4 b := rfl
  have f6 : iText (i5 b) = i6 b := rfl
  have f7 : iNum (i6 b) = i7 b := rfl
  have f8 : iNum (i7 b) = i8 b := rfl
  have f10 : iNum (i9 b) = i10 b := rfl
  have hby := bytes_of hb_b
  simp only [f0, f1, f2, f3, f4]
  refine ⟨hp0, (by first | exact hp0 | (simp only [iText_b, iNum_b, iWent_b]; first | exact hp0 | (rw [i5_b]; exact hp0)) | (show (i5 b).b.length ≤ _; rw [i5_b]; exact hp0) | (show (i8 b).b.length ≤ _; rw [i8_b]; exact hp0) | (show (i9 b).b.length ≤ _; rw [i9_b]; exact hp0)), (by first | exact hp0 | (simp only [iText_b, iNum_b, iWent_b]; first | exact hp0 | (rw [i5_b]; exact hp0)) | (show (i5 b).b.length ≤ _; rw [i5_b]; exact hp0) | (show (i8 b).b.length ≤ _; rw [i8_b]; exact hp0) | (show (i9 b).b.length ≤ _; rw [i9_b]; exact hp0)), (by first | exact hp0 | (simp only [iText_b, iNum_b, iWent_b]; first | exact hp0 | (rw [i5_b]; exact hp0)) | (show (i5 b).b.length ≤ _; rw [i5_b]; exact hp0) | (show (i8 b).b.length ≤ _; rw [i8_b]; exact hp0) | (show (i9 b).b.length ≤ _; rw [i9_b]; exact hp0)), if_cond (fun hfl => ?_) (fun hfl => ?_)⟩
  · have hfl := eq_of_beq hfl
    have e5 : i5 b = iWent (i4 b) (gFact b (i4 b).p).2.1 (gFact b (i4 b).p).2.2 := if_pos hfl
    have eF : iF b = (gFact b (i4 b).p).1 := if_pos hfl
    rw [← e5]
    refine ⟨hp0, ?_⟩
    simp only [f6, f7, f8]
    refine ⟨(by first | exact hp0 | (simp only [iText_b, iNum_b, iWent_b]; first | exact hp0 | (rw [i5_b]; exact hp0)) | (show (i5 b).b.length ≤ _; rw [i5_b]; exact hp0) | (show (i8 b).b.length ≤ _; rw [i8_b]; exact hp0) | (show (i9 b).b.length ≤ _; rw [i9_b]; exact hp0)), (by first | exact hp0 | (simp only [iText_b, iNum_b, iWent_b]; first | exact hp0 | (rw [i5_b]; exact hp0)) | (show (i5 b).b.length ≤ _; rw [i5_b]; exact hp0) | (show (i8 b).b.length ≤ _; rw [i8_b]; exact hp0) | (show (i9 b).b.length ≤ _; rw [i9_b]; exact hp0)), (by first | exact hp0 | (simp only [iText_b, iNum_b, iWent_b]; first | exact hp0 | (rw [i5_b]; exact hp0)) | (show (i5 b).b.length ≤ _; rw [i5_b]; exact hp0) | (show (i8 b).b.length ≤ _; rw [i8_b]; exact hp0) | (show (i9 b).b.length ≤ _; rw [i9_b]; exact hp0)), if_cond (fun hv => ?_) (fun hv => ?_)⟩
    · have hv := eq_of_beq hv
      have e9 : i9 b = iWent (i8 b) (gVal b (i8 b).p).2.1 (gVal b (i8 b).p).2.2 := if_pos hv
      have eV : iV b = (gVal b (i8 b).p).1 := if_pos hv
      rw [← e9]
      refine ⟨hp0, (by first | exact hp0 | (simp only [iText_b, iNum_b, iWent_b]; first | exact hp0 | (rw [i5_b]; exact hp0)) | (show (i5 b).b.length ≤ _; rw [i5_b]; exact hp0) | (show (i8 b).b.length ≤ _; rw [i8_b]; exact hp0) | (show (i9 b).b.length ≤ _; rw [i9_b]; exact hp0)), ?_⟩
      rw [f10]
      have hO : iO b = ⟨iNumV (rStart b), iTextV (i1 b), iTextV (i2 b), iF b, iTextV (i5 b), iNumV (i6 b) == 1, iV b, iNumV (i9 b)⟩ := rfl
      rw [eF, eV] at hO
      refine if_cond (fun z1 => ?_) (fun z1 => if_cond (fun z2 => ?_) (fun z2 => ?_))
      · rw [iOp_no hby (fun hh => by rw [hh.1] at z1; simp at z1)]; exact Lf_rfl _
      · rw [iOp_no hby (fun hh => by have h3 := hh.2.1; rw [hO] at h3; have h4 : (!true) = true := (congrArg (fun t => !t) h3).symm.trans z2; simp at h4)]; exact Lf_rfl _
      have z2 : opOk (iO b) = true := by rw [hO]; exact not_f z2
      have hsm := opB_small z2
      refine ⟨by rw [hO] at hsm; exact Nat.le_trans hsm (by decide), if_cond (fun z3 => ?_) (fun z3 => ?_)⟩
      · rw [iOp_no hby (fun hh => by have h3 := decide_eq_true hh.2.2; rw [hO] at h3; have h4 : (!true) = true := (congrArg (fun t => !t) h3).symm.trans z3; simp at h4)]; exact Lf_rfl _
      · have z3 : opB (iO b) = b := by rw [hO]; exact of_decide_eq_true (not_f z3)
        rw [iOp_yes hby z2 z3, hO]; exact Lf_rfl _
    · have hv : ¬ iNumV (i7 b) = 1 := by simpa using hv
      have e9 : i9 b = i8 b := if_neg hv
      have eV : iV b = zVal := if_neg hv
      rw [← e9]
      refine ⟨(by first | exact hp0 | (simp only [iText_b, iNum_b, iWent_b]; first | exact hp0 | (rw [i5_b]; exact hp0)) | (show (i5 b).b.length ≤ _; rw [i5_b]; exact hp0) | (show (i8 b).b.length ≤ _; rw [i8_b]; exact hp0) | (show (i9 b).b.length ≤ _; rw [i9_b]; exact hp0)), ?_⟩
      rw [f10]
      have hO : iO b = ⟨iNumV (rStart b), iTextV (i1 b), iTextV (i2 b), iF b, iTextV (i5 b), iNumV (i6 b) == 1, iV b, iNumV (i9 b)⟩ := rfl
      rw [eF, eV] at hO
      refine if_cond (fun z1 => ?_) (fun z1 => if_cond (fun z2 => ?_) (fun z2 => ?_))
      · rw [iOp_no hby (fun hh => by rw [hh.1] at z1; simp at z1)]; exact Lf_rfl _
      · rw [iOp_no hby (fun hh => by have h3 := hh.2.1; rw [hO] at h3; have h4 : (!true) = true := (congrArg (fun t => !t) h3).symm.trans z2; simp at h4)]; exact Lf_rfl _
      have z2 : opOk (iO b) = true := by rw [hO]; exact not_f z2
      have hsm := opB_small z2
      refine ⟨by rw [hO] at hsm; exact Nat.le_trans hsm (by decide), if_cond (fun z3 => ?_) (fun z3 => ?_)⟩
      · rw [iOp_no hby (fun hh => by have h3 := decide_eq_true hh.2.2; rw [hO] at h3; have h4 : (!true) = true := (congrArg (fun t => !t) h3).symm.trans z3; simp at h4)]; exact Lf_rfl _
      · have z3 : opB (iO b) = b := by rw [hO]; exact of_decide_eq_true (not_f z3)
        rw [iOp_yes hby z2 z3, hO]; exact Lf_rfl _
  · have hfl : ¬ iNumV (i3 b) = 1 := by simpa using hfl
    have e5 : i5 b = i4 b := if_neg hfl
    have eF : iF b = zFact := if_neg hfl
    rw [← e5]
    simp only [f6, f7, f8]
    refine ⟨(by first | exact hp0 | (simp only [iText_b, iNum_b, iWent_b]; first | exact hp0 | (rw [i5_b]; exact hp0)) | (show (i5 b).b.length ≤ _; rw [i5_b]; exact hp0) | (show (i8 b).b.length ≤ _; rw [i8_b]; exact hp0) | (show (i9 b).b.length ≤ _; rw [i9_b]; exact hp0)), (by first | exact hp0 | (simp only [iText_b, iNum_b, iWent_b]; first | exact hp0 | (rw [i5_b]; exact hp0)) | (show (i5 b).b.length ≤ _; rw [i5_b]; exact hp0) | (show (i8 b).b.length ≤ _; rw [i8_b]; exact hp0) | (show (i9 b).b.length ≤ _; rw [i9_b]; exact hp0)), (by first | exact hp0 | (simp only [iText_b, iNum_b, iWent_b]; first | exact hp0 | (rw [i5_b]; exact hp0)) | (show (i5 b).b.length ≤ _; rw [i5_b]; exact hp0) | (show (i8 b).b.length ≤ _; rw [i8_b]; exact hp0) | (show (i9 b).b.length ≤ _; rw [i9_b]; exact hp0)), if_cond (fun hv => ?_) (fun hv => ?_)⟩
    · have hv := eq_of_beq hv
      have e9 : i9 b = iWent (i8 b) (gVal b (i8 b).p).2.1 (gVal b (i8 b).p).2.2 := if_pos hv
      have eV : iV b = (gVal b (i8 b).p).1 := if_pos hv
      rw [← e9]
      refine ⟨hp0, (by first | exact hp0 | (simp only [iText_b, iNum_b, iWent_b]; first | exact hp0 | (rw [i5_b]; exact hp0)) | (show (i5 b).b.length ≤ _; rw [i5_b]; exact hp0) | (show (i8 b).b.length ≤ _; rw [i8_b]; exact hp0) | (show (i9 b).b.length ≤ _; rw [i9_b]; exact hp0)), ?_⟩
      rw [f10]
      have hO : iO b = ⟨iNumV (rStart b), iTextV (i1 b), iTextV (i2 b), iF b, iTextV (i5 b), iNumV (i6 b) == 1, iV b, iNumV (i9 b)⟩ := rfl
      rw [eF, eV] at hO
      refine if_cond (fun z1 => ?_) (fun z1 => if_cond (fun z2 => ?_) (fun z2 => ?_))
      · rw [iOp_no hby (fun hh => by rw [hh.1] at z1; simp at z1)]; exact Lf_rfl _
      · rw [iOp_no hby (fun hh => by have h3 := hh.2.1; rw [hO] at h3; have h4 : (!true) = true := (congrArg (fun t => !t) h3).symm.trans z2; simp at h4)]; exact Lf_rfl _
      have z2 : opOk (iO b) = true := by rw [hO]; exact not_f z2
      have hsm := opB_small z2
      refine ⟨by rw [hO] at hsm; exact Nat.le_trans hsm (by decide), if_cond (fun z3 => ?_) (fun z3 => ?_)⟩
      · rw [iOp_no hby (fun hh => by have h3 := decide_eq_true hh.2.2; rw [hO] at h3; have h4 : (!true) = true := (congrArg (fun t => !t) h3).symm.trans z3; simp at h4)]; exact Lf_rfl _
      · have z3 : opB (iO b) = b := by rw [hO]; exact of_decide_eq_true (not_f z3)
        rw [iOp_yes hby z2 z3, hO]; exact Lf_rfl _
    · have hv : ¬ iNumV (i7 b) = 1 := by simpa using hv
      have e9 : i9 b = i8 b := if_neg hv
      have eV : iV b = zVal := if_neg hv
      rw [← e9]
      refine ⟨(by first | exact hp0 | (simp only [iText_b, iNum_b, iWent_b]; first | exact hp0 | (rw [i5_b]; exact hp0)) | (show (i5 b).b.length ≤ _; rw [i5_b]; exact hp0) | (show (i8 b).b.length ≤ _; rw [i8_b]; exact hp0) | (show (i9 b).b.length ≤ _; rw [i9_b]; exact hp0)), ?_⟩
      rw [f10]
      have hO : iO b = ⟨iNumV (rStart b), iTextV (i1 b), iTextV (i2 b), iF b, iTextV (i5 b), iNumV (i6 b) == 1, iV b, iNumV (i9 b)⟩ := rfl
      rw [eF, eV] at hO
      refine if_cond (fun z1 => ?_) (fun z1 => if_cond (fun z2 => ?_) (fun z2 => ?_))
      · rw [iOp_no hby (fun hh => by rw [hh.1] at z1; simp at z1)]; exact Lf_rfl _
      · rw [iOp_no hby (fun hh => by have h3 := hh.2.1; rw [hO] at h3; have h4 : (!true) = true := (congrArg (fun t => !t) h3).symm.trans z2; simp at h4)]; exact Lf_rfl _
      have z2 : opOk (iO b) = true := by rw [hO]; exact not_f z2
      have hsm := opB_small z2
      refine ⟨by rw [hO] at hsm; exact Nat.le_trans hsm (by decide), if_cond (fun z3 => ?_) (fun z3 => ?_)⟩
      · rw [iOp_no hby (fun hh => by have h3 := decide_eq_true hh.2.2; rw [hO] at h3; have h4 : (!true) = true := (congrArg (fun t => !t) h3).symm.trans z3; simp at h4)]; exact Lf_rfl _
      · have z3 : opB (iO b) = b := by rw [hO]; exact of_decide_eq_true (not_f z3)
        rw [iOp_yes hby z2 z3, hO]; exact Lf_rfl _
def sLw : List ByteArray := [⟨#[119, 49]⟩, ⟨#[119, 50]⟩, ⟨#[119, 51]⟩]
def sLd : List ByteArray := [⟨#[115, 104, 105, 112]⟩, ⟨#[99, 111, 117, 110, 116]⟩, ⟨#[119, 97, 105, 116]⟩, ⟨#[112, 97, 105, 114]⟩]
def sLtx : List ByteArray := [⟨#[100, 101, 102, 32, 115, 104, 105, 112, 46, 32, 114, 117, 108, 101, 32, 97, 32, 48, 58, 32, 111, 114, 100, 101, 114, 40, 88, 41, 32, 45, 62, 32, 116, 97, 115, 107, 32, 99, 104, 97, 114, 103, 101, 40, 88, 41, 32, 117, 110, 100, 111, 32, 114, 101, 102, 117, 110, 100, 44, 32, 97, 115, 115, 101, 114, 116, 32, 112, 97, 105, 100, 40, 88, 41, 46, 32, 114, 117, 108, 101, 32, 98, 32, 53, 58, 32, 99, 104, 97, 114, 103, 101, 40, 39, 111, 107, 39, 44, 32, 86, 41, 44, 32, 112, 97, 105, 100, 40, 88, 41, 32, 45, 62, 32, 116, 97, 115, 107, 32, 115, 101, 110, 100, 40, 88, 41, 44, 32, 100, 114, 111, 112, 32, 48, 46, 32, 114, 117, 108, 101, 32, 99, 32, 48, 58, 32, 115, 101, 110, 100, 40, 39, 111, 107, 39, 44, 32, 86, 41, 32, 45, 62, 32, 100, 111, 110, 101, 46, 32, 114, 117, 108, 101, 32, 100, 32, 57, 58, 32, 115, 101, 110, 100, 40, 39, 110, 111, 39, 44, 32, 86, 41, 32, 45, 62, 32, 102, 97, 105, 108, 46]⟩, ⟨#[100, 101, 102, 32, 99, 111, 117, 110, 116, 46, 32, 114, 117, 108, 101, 32, 117, 112, 32, 48, 58, 32, 110, 40, 88, 41, 44, 32, 33, 115, 116, 111, 112, 40, 41, 32, 43, 32, 88, 32, 60, 32, 51, 32, 45, 62, 32, 100, 114, 111, 112, 32, 48, 44, 32, 97, 115, 115, 101, 114, 116, 32, 110, 40, 88, 32, 43, 32, 49, 41, 46, 32, 114, 117, 108, 101, 32, 101, 110, 100, 32, 45, 53, 58, 32, 110, 40, 88, 41, 32, 43, 32, 88, 32, 61, 32, 51, 32, 45, 62, 32, 100, 111, 110, 101, 46]⟩, ⟨#[100, 101, 102, 32, 119, 97, 105, 116, 46, 32, 114, 117, 108, 101, 32, 116, 32, 48, 58, 32, 111, 114, 100, 101, 114, 40, 88, 41, 44, 32, 33, 108, 97, 116, 101, 40, 88, 41, 32, 45, 62, 32, 116, 105, 109, 101, 114, 32, 53, 32, 108, 97, 116, 101, 40, 88, 41, 46, 32, 114, 117, 108, 101, 32, 102, 32, 49, 58, 32, 108, 97, 116, 101, 40, 88, 41, 44, 32, 111, 114, 100, 101, 114, 40, 88, 41, 32, 45, 62, 32, 102, 97, 105, 108, 46]⟩, ⟨#[100, 101, 102, 32, 112, 97, 105, 114, 46, 32, 114, 117, 108, 101, 32, 112, 32, 48, 58, 32, 105, 116, 101, 109, 40, 88, 44, 32, 89, 41, 44, 32, 105, 116, 101, 109, 40, 89, 44, 32, 90, 41, 32, 43, 32, 88, 32, 35, 32, 90, 32, 45, 62, 32, 97, 115, 115, 101, 114, 116, 32, 105, 116, 101, 109, 40, 88, 44, 32, 90, 41, 46, 32, 114, 117, 108, 101, 32, 113, 32, 48, 58, 32, 105, 116, 101, 109, 40, 88, 44, 32, 88, 41, 32, 45, 62, 32, 116, 97, 115, 107, 32, 108, 111, 111, 112, 40, 88, 41, 46]⟩]
def sLk5 : List ByteArray := [⟨#[99, 104, 97, 114, 103, 101, 40, 49, 41]⟩, ⟨#[99, 104, 97, 114, 103, 101, 40, 48, 41]⟩, ⟨#[115, 101, 110, 100, 40, 49, 41]⟩, ⟨#[114, 101, 102, 117, 110, 100, 40, 49, 41]⟩, ⟨#[108, 111, 111, 112, 40, 49, 41]⟩]
def iLtick : List Int := [0, 1, 5, 9, 40, 100]
def bOrder : ByteArray := ⟨#[111, 114, 100, 101, 114]⟩
def bN : ByteArray := ⟨#[110]⟩
def lOne (c : DCur) : DVal := ⟨1, belowV c 3, noBytes⟩
def lFact (c : DCur) : DFact × DCur :=
  let k := belowV (belowC c 3) 5; let d := belowC (belowC c 3) 5
  if k = 0 then (⟨bN, [lOne c]⟩, d) else if k = 1 then (⟨bItem, [lOne c, ⟨1, belowV d 3, noBytes⟩]⟩, belowC d 3) else if k = 2 then (factV d, factC d) else (⟨bOrder, [lOne c]⟩, d)
theorem cOk_lFact {c : DCur} (h : cOk c) : cOk (lFact c).2 := by
  have hd := cOk_below (cOk_below h 3) 5
  simp only [lFact]; split
  · exact hd
  · split
    · exact cOk_below hd 3
    · split
      · exact cOk_fact hd
      · exact hd
def lDraw (c : DCur) : DOp × DCur :=
  let k := belowV c 12; let d := belowC c 12
  if k = 0 then (⟨1, noBytes, List.getD sLtx (belowV d 4).toNat noBytes, zFact, noBytes, false, zVal, 0⟩, belowC d 4)
  else if k = 1 then (⟨2, strV d sLw, strV (strC d sLw) sLd, zFact, noBytes, false, zVal, 0⟩, strC (strC d sLw) sLd)
  else if k = 2 ∨ k = 3 ∨ k = 4 then (⟨3, strV d sLw, noBytes, (lFact (strC d sLw)).1, noBytes, false, zVal, 0⟩, (lFact (strC d sLw)).2)
  else if k = 5 ∨ k = 6 then (⟨4, strV d sLw, noBytes, zFact, strV (strC d sLw) sLk5, !onceV (strC (strC d sLw) sLk5) 3, smallV (belowC (strC (strC d sLw) sLk5) 3), 0⟩, smallC (belowC (strC (strC d sLw) sLk5) 3))
  else if k = 7 then (⟨5, noBytes, noBytes, zFact, noBytes, false, zVal, intV d iLtick⟩, intC d iLtick)
  else if k = 8 then (if onceV d 3 = true then (⟨7, strV (belowC d 3) sLw, noBytes, zFact, noBytes, false, zVal, 0⟩, strC (belowC d 3) sLw) else (⟨6, noBytes, noBytes, zFact, noBytes, false, zVal, 0⟩, belowC d 3))
  else (⟨6, noBytes, noBytes, zFact, noBytes, false, zVal, 0⟩, d)
theorem lDraw_0 {c : DCur} (h : belowV c 12 = 0) : lDraw c = (⟨1, noBytes, List.getD sLtx (belowV (belowC c 12) 4).toNat noBytes, zFact, noBytes, false, zVal, 0⟩, belowC (belowC c 12) 4) := by simp [lDraw, h]
theorem lDraw_1 {c : DCur} (h : belowV c 12 = 1) : lDraw c = (⟨2, strV (belowC c 12) sLw, strV (strC (belowC c 12) sLw) sLd, zFact, noBytes, false, zVal, 0⟩, strC (strC (belowC c 12) sLw) sLd) := by simp [lDraw, h]
theorem lDraw_2 {c : DCur} (h : belowV c 12 = 2) : lDraw c = (⟨3, strV (belowC c 12) sLw, noBytes, (lFact (strC (belowC c 12) sLw)).1, noBytes, false, zVal, 0⟩, (lFact (strC (belowC c 12) sLw)).2) := by simp [lDraw, h]
theorem lDraw_3 {c : DCur} (h : belowV c 12 = 3) : lDraw c = (⟨3, strV (belowC c 12) sLw, noBytes, (lFact (strC (belowC c 12) sLw)).1, noBytes, false, zVal, 0⟩, (lFact (strC (belowC c 12) sLw)).2) := by simp [lDraw, h]
theorem lDraw_4 {c : DCur} (h : belowV c 12 = 4) : lDraw c = (⟨3, strV (belowC c 12) sLw, noBytes, (lFact (strC (belowC c 12) sLw)).1, noBytes, false, zVal, 0⟩, (lFact (strC (belowC c 12) sLw)).2) := by simp [lDraw, h]
theorem lDraw_5 {c : DCur} (h : belowV c 12 = 5) : lDraw c = (⟨4, strV (belowC c 12) sLw, noBytes, zFact, strV (strC (belowC c 12) sLw) sLk5, !onceV (strC (strC (belowC c 12) sLw) sLk5) 3, smallV (belowC (strC (strC (belowC c 12) sLw) sLk5) 3), 0⟩, smallC (belowC (strC (strC (belowC c 12) sLw) sLk5) 3)) := by simp [lDraw, h]
theorem lDraw_6 {c : DCur} (h : belowV c 12 = 6) : lDraw c = (⟨4, strV (belowC c 12) sLw, noBytes, zFact, strV (strC (belowC c 12) sLw) sLk5, !onceV (strC (strC (belowC c 12) sLw) sLk5) 3, smallV (belowC (strC (strC (belowC c 12) sLw) sLk5) 3), 0⟩, smallC (belowC (strC (strC (belowC c 12) sLw) sLk5) 3)) := by simp [lDraw, h]
theorem lDraw_7 {c : DCur} (h : belowV c 12 = 7) : lDraw c = (⟨5, noBytes, noBytes, zFact, noBytes, false, zVal, intV (belowC c 12) iLtick⟩, intC (belowC c 12) iLtick) := by simp [lDraw, h]
end
end AM
