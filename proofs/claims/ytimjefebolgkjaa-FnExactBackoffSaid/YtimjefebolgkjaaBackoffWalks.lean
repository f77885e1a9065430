/- The two Backoffs and the two range tests that they call, walked: each returns what 'bo' says. No condition. -/
import Derived.Test.YtimjefebolgkjaaRows
import Derived.WalkKit
import Derived.ProofKit
import Derived.OpenShut
namespace Go.Proofs.Ytimjefebolgkjaa
open Go.ChangeShapes Go.WideShapes Go.ChangeAt Go.RowKit
set_option linter.unusedVariables false

def inr (x lo hi : Int) : Bool := decide (lo ≤ x) && decide (x ≤ hi)

theorem l1In_any (x lo hi : Int) (w : World) :
    Calls Try.prog 40 #[.int .i64 x, .int .i64 lo, .int .i64 hi] w fun e w' => e = .returned (.bool (inr x lo hi)) ∧ w' = w := by
  unfold inr
  by_cases h1 : lo ≤ x <;> by_cases h2 : x ≤ hi
  all_goals
    go_enter Try.func40, Try.ntmps40
    go_wp2
    go_ret
    exact ⟨by simp [h1, h2], rfl⟩

theorem inRange_any (x lo hi : Int) (w : World) :
    Calls Try.prog 41 #[.int .i64 x, .int .i64 lo, .int .i64 hi] w fun e w' => e = .returned (.bool (inr x lo hi)) ∧ w' = w := by
  unfold inr
  by_cases h1 : lo ≤ x <;> by_cases h2 : x ≤ hi
  all_goals
    go_enter Try.func41, Try.ntmps41
    go_wp2
    go_ret
    exact ⟨by simp [h1, h2], rfl⟩

def boo : Nat → Int → Int → Int
  | 0, n, _ => n
  | m + 1, n, most => if n < most then boo m (2 * n) most else n
theorem boo_stop (m : Nat) (n most : Int) (h : ¬ n < most) : boo m n most = n := by
  cases m with
  | zero => rfl
  | succ m => rw [boo, if_neg h]
def boVal (base k most : Int) : Int := if boo k.toNat base most < most then boo k.toNat base most else most
def bo (base k most : Int) : Int := if inr base 1 100000 && inr most 1 100000 && decide (0 ≤ k) then boVal base k most else 0


theorem specBackoff_good (a k m : Int) (h1 : inr a 1 100000 = true) (h2 : inr m 1 100000 = true) (h3 : 0 ≤ k) (hk : k ≤ 9223372036854775807) (w : World) :
    Calls Try.prog 10 #[.int .i64 a, .int .i64 k, .int .i64 m] w fun e w' => e = .returned (.int .i64 (boVal a k m)) ∧ w' = w := by
  have ha : 1 ≤ a ∧ a ≤ 100000 := by simpa [inr] using h1
  have hm : 1 ≤ m ∧ m ≤ 100000 := by simpa [inr] using h2
  have hk0 : ¬ k < 0 := by omega
  go_enter Try.func10, Try.ntmps10
  go_wp2_with (go_at_call 40; refine (l1In_any _ _ _ _).mono ?_; rintro e w' ⟨rfl, rfl⟩)
  go_loop [7, 8] (fun n i => ∃ (x : Int) (j : Nat), (j : Int) ≤ k ∧ i = .int .i64 j ∧ n = .int .i64 x ∧ 1 ≤ x ∧ x ≤ 200000 ∧ boo (k.toNat - j) x m = boo k.toNat a m)
    (fun _ i => k.toNat - (intOf i).toNat)
  case atStart => exact ⟨a, 0, by omega, rfl, rfl, by omega, by omega, by simp⟩
  case round =>
    obtain ⟨x, j, hj, rfl, rfl, hx1, hx2, hbo⟩ := hrel
    by_cases q1 : (j : Int) < k <;> by_cases q2 : x < m
    · have e1 : k.toNat - j = (k.toNat - (j + 1)) + 1 := by omega
      rw [e1, boo, if_pos q2] at hbo
      go_wp2
      go_round
      case rel => exact ⟨2 * x, j + 1, by omega, by go_num, by go_num, by omega, by omega, hbo⟩
      case measure => simp only [intOf]; omega
    all_goals
      have hfin : boo k.toNat a m = x := by
        first
        | (rw [← hbo]; exact boo_stop _ _ _ q2)
        | (have e0 : k.toNat - j = 0 := by omega
           rw [← hbo, e0]; rfl)
      by_cases q3 : m < x
      · have hv : boVal a k m = m := by rw [boVal, hfin, if_neg (by omega)]
        go_wp2
        go_ret
        exact ⟨rfl, rfl⟩
      · have hv : boVal a k m = x := by
          rw [boVal, hfin]
          split <;> omega
        go_wp2
        go_ret
        exact ⟨rfl, rfl⟩

theorem specBackoff_bad (a k m : Int) (h : ¬ (inr a 1 100000 = true ∧ inr m 1 100000 = true ∧ 0 ≤ k)) (w : World) :
    Calls Try.prog 10 #[.int .i64 a, .int .i64 k, .int .i64 m] w fun e w' => e = .returned (.int .i64 0) ∧ w' = w := by
  by_cases h1 : inr a 1 100000 = true <;> by_cases h2 : inr m 1 100000 = true <;> by_cases h3 : k < 0
  all_goals
    go_enter Try.func10, Try.ntmps10
    go_wp2_with (go_at_call 40; refine (l1In_any _ _ _ _).mono ?_; rintro e w' ⟨rfl, rfl⟩)
    first
    | (exfalso; exact h ⟨h1, h2, by omega⟩)
    | (go_ret; exact ⟨rfl, rfl⟩)

theorem implBackoff_good (a k m : Int) (h1 : inr a 1 100000 = true) (h2 : inr m 1 100000 = true) (h3 : 0 ≤ k) (hk : k ≤ 9223372036854775807) (w : World) :
    Calls Try.prog 11 #[.int .i64 a, .int .i64 k, .int .i64 m] w fun e w' => e = .returned (.int .i64 (boVal a k m)) ∧ w' = w := by
  have ha : 1 ≤ a ∧ a ≤ 100000 := by simpa [inr] using h1
  have hm : 1 ≤ m ∧ m ≤ 100000 := by simpa [inr] using h2
  have hk0 : ¬ k < 0 := by omega
  go_enter Try.func11, Try.ntmps11
  go_wp2_with (go_at_call 41; refine (inRange_any _ _ _ _).mono ?_; rintro e w' ⟨rfl, rfl⟩)
  go_loop [0, 7] (fun n i => ∃ (x : Int) (j : Nat), (j : Int) ≤ k ∧ i = .int .i64 j ∧ n = .int .i64 x ∧ 1 ≤ x ∧ x ≤ 200000 ∧ boo (k.toNat - j) x m = boo k.toNat a m)
    (fun _ i => k.toNat - (intOf i).toNat)
  case atStart => exact ⟨a, 0, by omega, rfl, rfl, by omega, by omega, by simp⟩
  case round =>
    obtain ⟨x, j, hj, rfl, rfl, hx1, hx2, hbo⟩ := hrel
    by_cases q1 : (j : Int) < k <;> by_cases q2 : x < m
    · have e1 : k.toNat - j = (k.toNat - (j + 1)) + 1 := by omega
      rw [e1, boo, if_pos q2] at hbo
      go_wp2
      go_round
      case rel => exact ⟨2 * x, j + 1, by omega, by go_num, by rw [Int.mul_comm], by omega, by omega, hbo⟩
      case measure => simp only [intOf]; omega
    all_goals
      have hfin : boo k.toNat a m = x := by
        first
        | (rw [← hbo]; exact boo_stop _ _ _ q2)
        | (have e0 : k.toNat - j = 0 := by omega
           rw [← hbo, e0]; rfl)
      by_cases q3 : m < x
      · have hv : boVal a k m = m := by rw [boVal, hfin, if_neg (by omega)]
        go_wp2
        go_ret
        exact ⟨rfl, rfl⟩
      · have hv : boVal a k m = x := by
          rw [boVal, hfin]
          split <;> omega
        go_wp2
        go_ret
        exact ⟨rfl, rfl⟩

theorem implBackoff_bad (a k m : Int) (h : ¬ (inr a 1 100000 = true ∧ inr m 1 100000 = true ∧ 0 ≤ k)) (w : World) :
    Calls Try.prog 11 #[.int .i64 a, .int .i64 k, .int .i64 m] w fun e w' => e = .returned (.int .i64 0) ∧ w' = w := by
  by_cases h1 : inr a 1 100000 = true <;> by_cases h2 : inr m 1 100000 = true <;> by_cases h3 : k < 0
  all_goals
    go_enter Try.func11, Try.ntmps11
    go_wp2_with (go_at_call 41; refine (inRange_any _ _ _ _).mono ?_; rintro e w' ⟨rfl, rfl⟩)
    first
    | (exfalso; exact h ⟨h1, h2, by omega⟩)
    | (go_ret; exact ⟨rfl, rfl⟩)

end Go.Proofs.Ytimjefebolgkjaa
