/- Small facts for the conditions that the abstract machine asks. -/
import Derived.Test.YtmoijfaceanakaaAmProg
import Derived.Test.YtmoijfaceanakaaAmHand
import Derived.KernelRfl
import Derived.IntWalk
namespace AM
open Go
theorem wrap_i64 {n : Int} (h : -9223372036854775808 ≤ n) (h' : n ≤ 9223372036854775807) : IntKind.wrap .i64 n = n := IntWalk.i64_in n ⟨h, h'⟩
theorem if_cond {b : Bool} {P Q : Prop} (h1 : b = true → P) (h2 : b = false → Q) : bif b then P else Q := by cases b <;> simp_all
@[simp] theorem cond_p_true {P Q : Prop} : (bif true then P else Q) = P := rfl
@[simp] theorem cond_p_false {P Q : Prop} : (bif false then P else Q) = Q := rfl
theorem cond_yes {p : Prop} [Decidable p] {P Q : Prop} (h : p) : (bif decide p then P else Q) = P := by simp [h]
theorem cond_no {p : Prop} [Decidable p] {P Q : Prop} (h : ¬p) : (bif decide p then P else Q) = Q := by simp [h]
@[simp] theorem getD_mid {α : Type} (p : List α) (a : α) (r : List α) (z : α) : List.getD (p ++ a :: r) p.length z = a := by simp
@[simp] theorem getD_mid' {α : Type} (p : List α) (a : α) (r : List α) (z : α) : List.getD (p ++ a :: r) (Int.toNat (p.length : Int)) z = a := by simp
theorem Bd.len {U : Uni} {τ : U.Ty} {xs : List (U.T τ)} (h : Bd (U := U) (.sl τ xs)) : xs.length ≤ 9223372036854775807 := by cases h; assumption
theorem Bd.row {U : Uni} {τ : U.Ty} {xs : List (U.T τ)} (h : Bd (U := U) (.sl τ xs)) {x : U.T τ} (hx : x ∈ xs) {c : U.C} (hc : c ∈ U.enc τ x) : Bd c := by
  cases h with
  | sl _ _ _ h =>
    obtain ⟨i, hi, rfl⟩ := List.getElem_of_mem hx
    obtain ⟨j, hj, rfl⟩ := List.getElem_of_mem hc
    exact h i _ j _ (List.getElem?_eq_getElem hi) (List.getElem?_eq_getElem hj)
theorem Bd.i64 {U : Uni} {n : Int} (h : Bd (U := U) (.lit (.int .i64 n))) : -9223372036854775808 ≤ n ∧ n ≤ 9223372036854775807 := by
  cases h with
  | lit _ h => exact h.2
theorem Bd.str {U : Uni} {s : ByteArray} (h : Bd (U := U) (.lit (.string s))) : s.size ≤ 9223372036854775807 := by
  cases h with
  | lit _ h => exact h.2

theorem Lf_b {x y : Bool} (h : x = y) : Lf [.one (.lit (.bool x))] [.one (.lit (.bool y))] := by rw [h]; exact ⟨rfl, rfl⟩
theorem Lf_t {p : Prop} [Decidable p] (h : p) : Lf [.one (.lit (.bool true))] [.one (.lit (.bool (decide p)))] := Lf_b (by simp [h])
theorem Lf_f {p : Prop} [Decidable p] (h : ¬p) : Lf [.one (.lit (.bool false))] [.one (.lit (.bool (decide p)))] := Lf_b (by simp [h])
theorem Lf_i {x y : Int} (h : x = y) : Lf [.one (.lit (.int .i64 x))] [.one (.lit (.int .i64 y))] := by rw [h]; exact ⟨rfl, rfl⟩
theorem Lf_s {x y : ByteArray} (h : x = y) : Lf [.one (.lit (.string x))] [.one (.lit (.string y))] := by rw [h]; exact ⟨rfl, rfl⟩
theorem Lf_r {a b : List (DV UU)} (h : a = b) : Lf a b := ⟨h, rfl⟩
theorem Lf_rfl (a : List (DV UU)) : Lf a a := ⟨rfl, rfl⟩
@[simp] theorem toList_beq (a b : ByteArray) : (ByteArray.toList a == ByteArray.toList b) = decide (a = b) := by
  rw [Bool.eq_iff_iff, beq_iff_eq, decide_eq_true_eq, ByteArray.toList_eq, ByteArray.toList_eq]
  constructor
  · intro h
    obtain ⟨⟨a⟩⟩ := a
    obtain ⟨⟨b⟩⟩ := b
    simpa using h
  · rintro rfl; rfl
theorem drop_step {α : Type} (l : List α) (z : α) {i : Int} (h0 : 0 ≤ i) (h : i < l.length) : l.drop i.toNat = List.getD l i.toNat z :: l.drop (i + 1).toNat := by
  have hn : i.toNat < l.length := by omega
  rw [List.drop_eq_getElem_cons hn]
  have : (i + 1).toNat = i.toNat + 1 := by omega
  rw [this, List.getD_eq_getElem?_getD, List.getElem?_eq_getElem hn]
  rfl
theorem drop_end {α : Type} (l : List α) {i : Int} (h : l.length ≤ i) : l.drop i.toNat = [] := List.drop_eq_nil_of_le (by omega)
theorem set_fill {α : Type} (l : List α) (z : α) {i : Int} (h0 : 0 ≤ i) (h : i < l.length) :
    (l.take i.toNat ++ List.replicate (l.length - i.toNat) z).set i.toNat (List.getD l i.toNat z) = l.take (i + 1).toNat ++ List.replicate (l.length - (i + 1).toNat) z := by
  have hn : i.toNat < l.length := by omega
  have e : (i + 1).toNat = i.toNat + 1 := by omega
  rw [e]
  refine List.ext_getElem? fun j => ?_
  rw [List.getElem?_set]
  have hl : (l.take i.toNat ++ List.replicate (l.length - i.toNat) z).length = l.length := by simp; omega
  by_cases hj : i.toNat = j
  · subst hj
    rw [if_pos rfl, if_pos (by rw [hl]; exact hn), List.getElem?_append_left (by simp; omega), List.getElem?_take, if_pos (by omega), List.getD_eq_getElem?_getD, List.getElem?_eq_getElem hn]
    rfl
  · rw [if_neg hj]
    rcases Nat.lt_or_ge j i.toNat with g | g
    · rw [List.getElem?_append_left (by simp; omega), List.getElem?_append_left (by simp; omega), List.getElem?_take, List.getElem?_take, if_pos g, if_pos (by omega)]
    · rw [List.getElem?_append_right (by simp; omega), List.getElem?_append_right (by simp; omega)]
      simp only [List.length_take, List.getElem?_replicate]
      have h1 : min i.toNat l.length = i.toNat := by omega
      have h2 : min (i.toNat + 1) l.length = i.toNat + 1 := by omega
      rw [h1, h2]
      by_cases hjl : j < l.length
      · rw [if_pos (by omega), if_pos (by omega)]
      · rw [if_neg (by omega), if_neg (by omega)]

/-- What is left of a measure. -/
def szr (left : Int) (n : Nat) : Int := if (n : Int) ≤ left then left - n else -1
theorem szr_sub {left : Int} {a b : Nat} (_h : 0 ≤ left - a) : szr (left - a) b = szr left (a + b) := by
  simp only [szr]; split <;> split <;> omega
theorem szr_szr {left : Int} {a b : Nat} (h : 0 ≤ szr left a) : szr (szr left a) b = szr left (a + b) := by
  have h1 : szr left a = left - a := by
    simp only [szr] at *; split at h
    · rw [if_pos (by assumption)]
    · omega
  rw [h1] at h ⊢
  exact szr_sub h
theorem szr_bad {left : Int} {a b : Nat} (h : szr left a < 0) : szr left (a + b) = -1 := by
  simp only [szr] at *; split at h
  · omega
  · rw [if_neg (by omega)]
end AM
