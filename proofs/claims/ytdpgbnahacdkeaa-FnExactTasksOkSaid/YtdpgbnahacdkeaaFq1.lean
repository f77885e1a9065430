/- Functions of the program with their contracts: written by gen/fn.py out of q1.fn. -/
import Derived.Test.YtdpgbnahacdkeaaAmLib
import Derived.Test.YtdpgbnahacdkeaaFp2
import Derived.Test.YtdpgbnahacdkeaaFu1
namespace AM
open Go
set_option linter.unusedVariables false
set_option linter.unusedSimpArgs false
set_option maxRecDepth 100000
noncomputable section
/-- The first place where p holds; -1. -/
def idxI (n : Nat) (p : Nat → Bool) : Int := match (List.range n).find? p with | some i => i | none => -1
def anyI (n : Nat) (p : Nat → Bool) : Bool := (List.range n).any p
theorem idxI_found {n i : Nat} {p : Nat → Bool} (h : i < n) (hp : p i = true) (hj : ∀ j, j < i → p j = false) : idxI n p = i := by
  have : (List.range n).find? p = some i := by
    rw [List.find?_range_eq_some]
    exact ⟨hp, List.mem_range.2 h, fun j hj' => by simp [hj j hj']⟩
  simp [idxI, this]
theorem idxI_none {n : Nat} {p : Nat → Bool} (hj : ∀ j, j < n → p j = false) : idxI n p = -1 := by
  have : (List.range n).find? p = none := by
    rw [List.find?_eq_none]
    intro j hj'
    simp [hj j (List.mem_range.1 hj')]
  simp [idxI, this]
theorem idxI_cases (n : Nat) (p : Nat → Bool) : (idxI n p = -1 ∧ ∀ j, j < n → p j = false) ∨ ∃ i, i < n ∧ idxI n p = (i : Int) ∧ p i = true ∧ ∀ j, j < i → p j = false := by
  cases h : (List.range n).find? p with
  | none =>
    refine .inl ⟨by simp [idxI, h], fun j hj => ?_⟩
    have := List.find?_eq_none.1 h j (List.mem_range.2 hj)
    simpa using this
  | some i =>
    rw [List.find?_range_eq_some] at h
    obtain ⟨h1, h2, h3⟩ := h
    exact .inr ⟨i, List.mem_range.1 h2, idxI_found (List.mem_range.1 h2) h1 (fun j hj => by simpa using h3 j hj), h1, fun j hj => by simpa using h3 j hj⟩
theorem idxI_congr {n : Nat} {p q : Nat → Bool} (h : ∀ j, j < n → p j = q j) : idxI n p = idxI n q := by
  rcases idxI_cases n q with ⟨h1, h2⟩ | ⟨i, h1, h2, h3, h4⟩
  · rw [h1, idxI_none (fun j hj => by rw [h j hj, h2 j hj])]
  · rw [h2, idxI_found h1 (by rw [h i h1, h3]) (fun j hj => by rw [h j (by omega), h4 j hj])]
theorem anyI_true {n j : Nat} {p : Nat → Bool} (h : j < n) (hp : p j = true) : anyI n p = true := by
  simp only [anyI, List.any_eq_true, List.mem_range]
  exact ⟨j, h, hp⟩
theorem anyI_false {n : Nat} {p : Nat → Bool} (h : ∀ j, j < n → p j = false) : anyI n p = false := by
  simp only [anyI, List.any_eq_false, List.mem_range]
  exact fun j hj => by simp [h j hj]
theorem anyI_iff {n : Nat} {p : Nat → Bool} : anyI n p = true ↔ ∃ j, j < n ∧ p j = true := by
  simp only [anyI, List.any_eq_true, List.mem_range]
theorem anyI_not {n : Nat} {p : Nat → Bool} : anyI n p = false ↔ ∀ j, j < n → p j = false := by
  simp only [anyI, List.any_eq_false, List.mem_range, Bool.not_eq_true]
theorem allI_iff {n : Nat} {p : Nat → Bool} : allI n p = true ↔ ∀ j, j < n → p j = true := by
  simp only [allI, List.all_eq_true, List.mem_range]
theorem allI_not {n : Nat} {p : Nat → Bool} : allI n p = false ↔ ∃ j, j < n ∧ p j = false := by
  simp only [allI, List.all_eq_false, List.mem_range, Bool.not_eq_true]
theorem anyI_congr {n : Nat} {p q : Nat → Bool} (h : ∀ j, j < n → p j = q j) : anyI n p = anyI n q := by
  rw [Bool.eq_iff_iff, anyI_iff, anyI_iff]
  exact ⟨fun ⟨j, h1, h2⟩ => ⟨j, h1, by rw [← h j h1]; exact h2⟩, fun ⟨j, h1, h2⟩ => ⟨j, h1, by rw [h j h1]; exact h2⟩⟩
theorem allI_congr {n : Nat} {p q : Nat → Bool} (h : ∀ j, j < n → p j = q j) : allI n p = allI n q := by
  rw [Bool.eq_iff_iff, allI_iff, allI_iff]
  exact ⟨fun g j hj => by rw [← h j hj]; exact g j hj, fun g j hj => by rw [h j hj]; exact g j hj⟩
theorem idxI_ge {n : Nat} {p : Nat → Bool} : decide (0 ≤ idxI n p) = anyI n p := by
  rcases idxI_cases n p with ⟨h1, h2⟩ | ⟨i, h1, h2, h3, h4⟩
  · rw [h1, anyI_false h2]; rfl
  · rw [h2, anyI_true h1 h3]; simp
theorem getD_take {α : Type} (l : List α) (z : α) {i j : Nat} (h : j < i) : List.getD (l.take i) j z = List.getD l j z := by
  rw [List.getD_eq_getElem?_getD, List.getD_eq_getElem?_getD, List.getElem?_take, if_pos h]
/-- What a closure answers. -/
theorem closP_of {k : Con UU} {caps : List (DV UU)} {ds : List (DA UU)} {x : k.α} {v : Value} (h : k.of (ds.map DA.dv ++ caps) = some x) (hv : (k.res x).val = [.one (.lit v)]) (hm : (k.res x).muts = [])
    (hl : k.md.length = ds.length + caps.length) (hp : ∀ p ∈ k.pre x, p) : closP k caps ds = some v := by
  unfold closP
  simp only [h, hv, hm]
  rw [if_pos ⟨hl, hp⟩]
theorem val_beq (a b : DVal) : (a.K == b.K && (a.N == b.N && (ByteArray.toList a.S == ByteArray.toList b.S && true))) = decide (a = b) := by
  obtain ⟨K, N, S⟩ := a
  obtain ⟨K', N', S'⟩ := b
  simp only [toList_beq, Bool.and_true]
  rw [Bool.eq_iff_iff]
  simp only [Bool.and_eq_true, beq_iff_eq, decide_eq_true_eq, DVal.mk.injEq]
/-- The end of a search. -/
theorem upto_no {i : Int} {p : Nat → Bool} (h0 : 0 ≤ i) (h : ∀ j : Nat, (j : Int) < i → p j = false) (hi : p i.toNat = false) : ∀ j : Nat, (j : Int) < i + 1 → p j = false := by
  intro j hj
  by_cases hji : (j : Int) < i
  · exact h j hji
  · have : j = i.toNat := by omega
    subst this; exact hi
def daUndo (x : DUndo) : DA UU := ⟨true, [.lit (.string x.Key), .lit (.string x.F.Kind), .sl .eVal x.F.Fields]⟩
def undoAt (l : List DUndo) (i : Nat) : Bool := decide (1 ≤ (List.getD l i zUndo).Key.size ∧ (List.getD l i zUndo).Key.size ≤ 200) && factOk (List.getD l i zUndo).F && !(anyI i fun k => decide ((List.getD l k zUndo).Key = (List.getD l i zUndo).Key))
def undosOk (l : List DUndo) : Bool := decide (l.length ≤ 30) && allI l.length (undoAt l)
def hasKey (l : List DUndo) (key : ByteArray) : Bool := anyI l.length fun k => decide ((List.getD l k zUndo).Key = key)
def con_IndexFuncUndo : Con UU where
  α := (List DUndo) × (List (DA UU) → Option Value)
  md := [.ro, .ro]
  of := fun | [.one (.sl .eUndo a0), .fn a1] => some (a0, a1) | _ => none
  ds := fun (l, p) => [.one (.sl .eUndo l), .fn p]
  pre := fun (l, p) => [∀ j : Nat, j < l.length → p [daUndo (List.getD l j zUndo)] = some (.bool (boolOf (p [daUndo (List.getD l j zUndo)])))]
  res := fun (l, p) => ⟨[.one (.lit (.int .i64 (idxI l.length (fun j => boolOf (p [daUndo (List.getD l j zUndo)])))))], true, []⟩
  law := by intro l x h; (try simp only at h); split at h <;> cases h; rfl
def I_IndexFuncUndo_2 (l : (List DUndo)) (p : (List (DA UU) → Option Value)) : Int × Unit → Prop := fun (i, _) => 0 ≤ i ∧ i ≤ l.length ∧ ∀ j : Nat, (j : Int) < i → boolOf (p [daUndo (List.getD l j zUndo)]) = false
def μ_IndexFuncUndo_2 (l : (List DUndo)) (p : (List (DA UU) → Option Value)) : Int × Unit → Nat := fun (i, _) => l.length - i.toNat
def ann_IndexFuncUndo : con_IndexFuncUndo.α → Nat → Option (Ann UU) := fun (l, p) => annL [(2, annOf [.slot 8 (8, 1024) (.lit (.int .i64))] (fun _ => I_IndexFuncUndo_2 l p) (μ_IndexFuncUndo_2 l p))]
def use_IndexFuncUndo : List (FuncId × Con UU) := []
theorem vc_IndexFuncUndo (l : (List DUndo)) (p : (List (DA UU) → Option Value)) : goal EE use_IndexFuncUndo Go.Proofs.Try.f180 con_IndexFuncUndo ann_IndexFuncUndo (l, p) = (I_IndexFuncUndo_2 l p ((0 : Int), PUnit.unit) ∧ ∀ (y : Int × PUnit), I_IndexFuncUndo_2 l p y → bif decide (y.1 < (↑(List.length l) : Int)) then (0 : Int) ≤ y.1 ∧ Int.toNat y.1 < List.length l ∧ p [{ agg := true, cs := [Cell.lit (Value.string (DUndo.Key (List.getD l (Int.toNat y.1) zUndo))), Cell.lit (Value.string (DFact.Kind (DUndo.F (List.getD l (Int.toNat y.1) zUndo)))), Cell.sl Cd.eVal (DFact.Fields (DUndo.F (List.getD l (Int.toNat y.1) zUndo)))] }] = some (Value.bool (boolOf (p [{ agg := true, cs := [Cell.lit (Value.string (DUndo.Key (List.getD l (Int.toNat y.1) zUndo))), Cell.lit (Value.string (DFact.Kind (DUndo.F (List.getD l (Int.toNat y.1) zUndo)))), Cell.sl Cd.eVal (DFact.Fields (DUndo.F (List.getD l (Int.toNat y.1) zUndo)))] }]))) ∧ bif boolOf (p [{ agg := true, cs := [Cell.lit (Value.string (DUndo.Key (List.getD l (Int.toNat y.1) zUndo))), Cell.lit (Value.string (DFact.Kind (DUndo.F (List.getD l (Int.toNat y.1) zUndo)))), Cell.sl Cd.eVal (DFact.Fields (DUndo.F (List.getD l (Int.toNat y.1) zUndo)))] }]) then Lf [DV.one (Cell.lit (Value.int IntKind.i64 y.1))] [DV.one (Cell.lit (Value.int IntKind.i64 (idxI (List.length l) fun (j : Nat) => boolOf (p [daUndo (List.getD l j zUndo)]))))] else I_IndexFuncUndo_2 l p (IntKind.wrap IntKind.i64 (y.1 + (1 : Int)), PUnit.unit) ∧ μ_IndexFuncUndo_2 l p (IntKind.wrap IntKind.i64 (y.1 + (1 : Int)), PUnit.unit) < μ_IndexFuncUndo_2 l p y else Lf [DV.one (Cell.lit (Value.int IntKind.i64 (-1 : Int)))] [DV.one (Cell.lit (Value.int IntKind.i64 (idxI (List.length l) fun (j : Nat) => boolOf (p [daUndo (List.getD l j zUndo)]))))]) := by kernel_rfl
theorem ok_IndexFuncUndo : Holds EE (180, con_IndexFuncUndo) := by
  refine holds_of EE_ok Go.Proofs.Try.func180 con_IndexFuncUndo (by kernel_rfl) rfl use_IndexFuncUndo all_nil ann_IndexFuncUndo (fun x hp hb => ?_)
  obtain ⟨l, p⟩ := x
  have hb_l : BdDV (U := UU) (.one (.sl .eUndo l)) := hb _ (List.mem_cons_self)
  have hl_l : l.length ≤ 9223372036854775807 := Bd.len hb_l
  have hp0 : ∀ j : Nat, j < l.length → p [daUndo (List.getD l j zUndo)] = some (.bool (boolOf (p [daUndo (List.getD l j zUndo)]))) := hp _ (List.mem_cons_self)
  clear hp hb
  rw [vc_IndexFuncUndo l p]
  refine ⟨⟨by omega, by omega, by intro j hj; omega⟩, ?_⟩
  rintro ⟨i, ⟨⟩⟩ ⟨h1, h2, hR⟩
  simp only [daUndo] at *
  refine if_cond (fun hc => ?_) (fun hc => ?_)
  · have hc := of_decide_eq_true hc
    rw [wrap_i64 (by omega) (by omega)]
    refine ⟨by omega, by omega, hp0 i.toNat (by omega), if_cond (fun h => Lf_i ?_) (fun h => ⟨⟨by omega, by omega, upto_no (p := fun j => boolOf (p [daUndo (List.getD l j zUndo)])) h1 hR h⟩, by simp only [μ_IndexFuncUndo_2]; omega⟩)⟩
    rw [idxI_found (i := i.toNat) (by omega) h (fun j hj => hR j (by omega))]
    omega
  · have hc := of_decide_eq_false hc
    exact Lf_i (idxI_none (fun j hj => hR j (by omega))).symm
def con_ContainsFuncUndo : Con UU where
  α := (List DUndo) × (List (DA UU) → Option Value)
  md := [.ro, .ro]
  of := fun | [.one (.sl .eUndo a0), .fn a1] => some (a0, a1) | _ => none
  ds := fun (l, p) => [.one (.sl .eUndo l), .fn p]
  pre := fun (l, p) => [∀ j : Nat, j < l.length → p [daUndo (List.getD l j zUndo)] = some (.bool (boolOf (p [daUndo (List.getD l j zUndo)])))]
  res := fun (l, p) => ⟨[.one (.lit (.bool (anyI l.length (fun j => boolOf (p [daUndo (List.getD l j zUndo)])))))], true, []⟩
  law := by intro l x h; (try simp only at h); split at h <;> cases h; rfl
def ann_ContainsFuncUndo : con_ContainsFuncUndo.α → Nat → Option (Ann UU) := fun (l, p) => annL []
def use_ContainsFuncUndo : List (FuncId × Con UU) := [(180, con_IndexFuncUndo)]
theorem vc_ContainsFuncUndo (l : (List DUndo)) (p : (List (DA UU) → Option Value)) : goal EE use_ContainsFuncUndo Go.Proofs.Try.f149 con_ContainsFuncUndo ann_ContainsFuncUndo (l, p) = ((∀ (j : Nat), j < List.length l → p [daUndo (List.getD l j zUndo)] = some (Value.bool (boolOf (p [daUndo (List.getD l j zUndo)])))) ∧ Lf [DV.one (Cell.lit (Value.bool (decide ((idxI (List.length l) fun (j : Nat) => boolOf (p [daUndo (List.getD l j zUndo)])) ≥ (0 : Int)))))] [DV.one (Cell.lit (Value.bool (anyI (List.length l) fun (j : Nat) => boolOf (p [daUndo (List.getD l j zUndo)]))))]) := by kernel_rfl
theorem ok_ContainsFuncUndo : Holds EE (149, con_ContainsFuncUndo) := by
  refine holds_of EE_ok Go.Proofs.Try.func149 con_ContainsFuncUndo (by kernel_rfl) rfl use_ContainsFuncUndo (all_cons ok_IndexFuncUndo all_nil) ann_ContainsFuncUndo (fun x hp hb => ?_)
  obtain ⟨l, p⟩ := x
  have hb_l : BdDV (U := UU) (.one (.sl .eUndo l)) := hb _ (List.mem_cons_self)
  have hl_l : l.length ≤ 9223372036854775807 := Bd.len hb_l
  have hp0 : ∀ j : Nat, j < l.length → p [daUndo (List.getD l j zUndo)] = some (.bool (boolOf (p [daUndo (List.getD l j zUndo)]))) := hp _ (List.mem_cons_self)
  clear hp hb
  rw [vc_ContainsFuncUndo l p]
  exact ⟨hp0, Lf_b (by rw [← idxI_ge])⟩
def con_impl_isKey : Con UU where
  α := ByteArray
  md := [.ro]
  of := fun | [.one (.lit (.string a0))] => some a0 | _ => none
  ds := fun s => [.one (.lit (.string s))]
  pre := fun s => []
  res := fun s => ⟨[.one (.lit (.bool (decide (1 ≤ s.size ∧ s.size ≤ 200))))], true, []⟩
  law := by intro l x h; (try simp only at h); split at h <;> cases h; rfl
def ann_impl_isKey : con_impl_isKey.α → Nat → Option (Ann UU) := fun s => annL []
def use_impl_isKey : List (FuncId × Con UU) := [(146, con_impl_inRange)]
theorem vc_impl_isKey (s : ByteArray) : goal EE use_impl_isKey Go.Proofs.Try.f72 con_impl_isKey ann_impl_isKey s = (Lf [DV.one (Cell.lit (Value.bool (decide ((1 : Int) ≤ (↑(ByteArray.size s) : Int) ∧ (↑(ByteArray.size s) : Int) ≤ (200 : Int)))))] [DV.one (Cell.lit (Value.bool (decide ((1 : Nat) ≤ ByteArray.size s ∧ ByteArray.size s ≤ (200 : Nat)))))]) := by kernel_rfl
theorem ok_impl_isKey : Holds EE (72, con_impl_isKey) := by
  refine holds_of EE_ok Go.Proofs.Try.func72 con_impl_isKey (by kernel_rfl) rfl use_impl_isKey (all_cons ok_impl_inRange all_nil) ann_impl_isKey (fun (s : ByteArray) hp hb => ?_)
  have hb_s : BdDV (U := UU) (.one (.lit (.string s))) := hb _ (List.mem_cons_self)
  have hl_s : s.size ≤ 9223372036854775807 := Bd.str hb_s
  clear hp hb
  rw [vc_impl_isKey s]
  refine Lf_b ?_
  rw [decide_eq_decide]; omega
def con_impl_hasKey_1 : Con UU where
  α := DUndo × ByteArray
  md := [.ro, .ro]
  of := fun | [.agg [.lit (.string a0), .lit (.string a1), .sl .eVal a2], .ptr [.lit (.string a3)]] => some (⟨a0, ⟨a1, a2⟩⟩, a3) | _ => none
  ds := fun (x, c) => [.agg [.lit (.string x.Key), .lit (.string x.F.Kind), .sl .eVal x.F.Fields], .ptr [.lit (.string c)]]
  pre := fun (x, c) => []
  res := fun (x, c) => ⟨[.one (.lit (.bool (decide (x.Key = c))))], true, []⟩
  law := by intro l x h; (try simp only at h); split at h <;> cases h; rfl
def ann_impl_hasKey_1 : con_impl_hasKey_1.α → Nat → Option (Ann UU) := fun (x, c) => annL []
def use_impl_hasKey_1 : List (FuncId × Con UU) := []
theorem vc_impl_hasKey_1 (x : DUndo) (c : ByteArray) : goal EE use_impl_hasKey_1 Go.Proofs.Try.f150 con_impl_hasKey_1 ann_impl_hasKey_1 (x, c) = (Lf [DV.one (Cell.lit (Value.bool (ByteArray.toList (DUndo.Key x) == ByteArray.toList c)))] [DV.one (Cell.lit (Value.bool (decide (DUndo.Key x = c))))]) := by kernel_rfl
theorem ok_impl_hasKey_1 : Holds EE (150, con_impl_hasKey_1) := by
  refine holds_of EE_ok Go.Proofs.Try.func150 con_impl_hasKey_1 (by kernel_rfl) rfl use_impl_hasKey_1 all_nil ann_impl_hasKey_1 (fun x hp hb => ?_)
  obtain ⟨x, c⟩ := x
  have hb_x : BdDV (U := UU) (.agg [.lit (.string x.Key), .lit (.string x.F.Kind), .sl .eVal x.F.Fields]) := hb _ (List.mem_cons_self)
  have hl_x_Key : x.Key.size ≤ 9223372036854775807 := Bd.str (hb_x _ (by simp))
  have hl_x_F_Kind : x.F.Kind.size ≤ 9223372036854775807 := Bd.str (hb_x _ (by simp))
  have hl_x_F_Fields : x.F.Fields.length ≤ 9223372036854775807 := Bd.len (U := UU) (τ := .eVal) (xs := x.F.Fields) (hb_x _ (by simp))
  have hb_c : BdDV (U := UU) (.ptr [.lit (.string c)]) := hb _ (List.mem_cons_of_mem _ (List.mem_cons_self))
  have hl_c : c.size ≤ 9223372036854775807 := Bd.str (hb_c _ (by simp))
  clear hp hb
  rw [vc_impl_hasKey_1 x c]
  rw [toList_beq]
  exact Lf_rfl _
def con_impl_hasKey : Con UU where
  α := (List DUndo) × ByteArray
  md := [.ro, .ro]
  of := fun | [.one (.sl .eUndo a0), .one (.lit (.string a1))] => some (a0, a1) | _ => none
  ds := fun (l, key) => [.one (.sl .eUndo l), .one (.lit (.string key))]
  pre := fun (l, key) => []
  res := fun (l, key) => ⟨[.one (.lit (.bool (hasKey l key)))], true, []⟩
  law := by intro l x h; (try simp only at h); split at h <;> cases h; rfl
def ann_impl_hasKey : con_impl_hasKey.α → Nat → Option (Ann UU) := fun (l, key) => annL []
def use_impl_hasKey : List (FuncId × Con UU) := [(149, con_ContainsFuncUndo), (150, con_impl_hasKey_1)]
theorem vc_impl_hasKey (l : (List DUndo)) (key : ByteArray) : goal EE use_impl_hasKey Go.Proofs.Try.f74 con_impl_hasKey ann_impl_hasKey (l, key) = ((∀ (j : Nat), j < List.length l → closP con_impl_hasKey_1 [DV.ptr [Cell.lit (Value.string key)]] [daUndo (List.getD l j zUndo)] = some (Value.bool (boolOf (closP con_impl_hasKey_1 [DV.ptr [Cell.lit (Value.string key)]] [daUndo (List.getD l j zUndo)])))) ∧ Lf [DV.one (Cell.lit (Value.bool (anyI (List.length l) fun (j : Nat) => boolOf (closP con_impl_hasKey_1 [DV.ptr [Cell.lit (Value.string key)]] [daUndo (List.getD l j zUndo)]))))] [DV.one (Cell.lit (Value.bool (hasKey l key)))]) := by kernel_rfl
theorem ok_impl_hasKey : Holds EE (74, con_impl_hasKey) := by
  refine holds_of EE_ok Go.Proofs.Try.func74 con_impl_hasKey (by kernel_rfl) rfl use_impl_hasKey (all_cons ok_ContainsFuncUndo (all_cons ok_impl_hasKey_1 all_nil)) ann_impl_hasKey (fun x hp hb => ?_)
  obtain ⟨l, key⟩ := x
  have hb_l : BdDV (U := UU) (.one (.sl .eUndo l)) := hb _ (List.mem_cons_self)
  have hl_l : l.length ≤ 9223372036854775807 := Bd.len hb_l
  have hb_key : BdDV (U := UU) (.one (.lit (.string key))) := hb _ (List.mem_cons_of_mem _ (List.mem_cons_self))
  have hl_key : key.size ≤ 9223372036854775807 := Bd.str hb_key
  clear hp hb
  rw [vc_impl_hasKey l key]
  have hc : ∀ x : DUndo, closP con_impl_hasKey_1 [.ptr [.lit (.string key)]] [daUndo x] = some (.bool (decide (x.Key = key))) := fun x => closP_of (x := (x, key)) rfl rfl rfl rfl (by simp [con_impl_hasKey_1])
  refine ⟨fun j hj => ?_, Lf_b ?_⟩
  · show closP con_impl_hasKey_1 [.ptr [.lit (.string key)]] [daUndo (List.getD l j zUndo)] = _
    rw [hc]; rfl
  · exact anyI_congr fun j hj => by
      show boolOf (closP con_impl_hasKey_1 [.ptr [.lit (.string key)]] [daUndo (List.getD l j zUndo)]) = _
      rw [hc]; rfl
def con_impl_UndosOk : Con UU where
  α := (List DUndo)
  md := [.ro]
  of := fun | [.one (.sl .eUndo a0)] => some a0 | _ => none
  ds := fun l => [.one (.sl .eUndo l)]
  pre := fun l => []
  res := fun l => ⟨[.one (.lit (.bool (undosOk l)))], true, []⟩
  law := by intro l x h; (try simp only at h); split at h <;> cases h; rfl
def I_impl_UndosOk_4 (l : (List DUndo)) : Int × Unit → Prop := fun (i, _) => 0 ≤ i ∧ i ≤ l.length ∧ l.length ≤ 30 ∧ ∀ j : Nat, (j : Int) < i → undoAt l j = true
def μ_impl_UndosOk_4 (l : (List DUndo)) : Int × Unit → Nat := fun (i, _) => l.length - i.toNat
def ann_impl_UndosOk : con_impl_UndosOk.α → Nat → Option (Ann UU) := fun l => annL [(4, annOf [.slot 10 (10, 1024) (.lit (.int .i64))] (fun _ => I_impl_UndosOk_4 l) (μ_impl_UndosOk_4 l))]
def use_impl_UndosOk : List (FuncId × Con UU) := [(72, con_impl_isKey), (73, con_impl_FactOk), (74, con_impl_hasKey)]
theorem vc_impl_UndosOk (l : (List DUndo)) : goal EE use_impl_UndosOk Go.Proofs.Try.f16 con_impl_UndosOk ann_impl_UndosOk l = (bif decide ((↑(List.length l) : Int) > (30 : Int)) then Lf [DV.one (Cell.lit (Value.bool false))] [DV.one (Cell.lit (Value.bool (undosOk l)))] else I_impl_UndosOk_4 l ((0 : Int), PUnit.unit) ∧ ∀ (y : Int × PUnit), I_impl_UndosOk_4 l y → bif decide (y.1 < (↑(List.length l) : Int)) then (0 : Int) ≤ y.1 ∧ Int.toNat y.1 < List.length l ∧ bif !decide ((1 : Nat) ≤ ByteArray.size (DUndo.Key (List.getD l (Int.toNat y.1) zUndo)) ∧ ByteArray.size (DUndo.Key (List.getD l (Int.toNat y.1) zUndo)) ≤ (200 : Nat)) then Lf [DV.one (Cell.lit (Value.bool false))] [DV.one (Cell.lit (Value.bool (undosOk l)))] else bif !factOk (DUndo.F (List.getD l (Int.toNat y.1) zUndo)) then Lf [DV.one (Cell.lit (Value.bool false))] [DV.one (Cell.lit (Value.bool (undosOk l)))] else (0 : Int) ≤ Option.getD none (0 : Int) ∧ Option.getD none (0 : Int) ≤ Option.getD (some y.1) (↑(List.length l) : Int) ∧ Option.getD (some y.1) (↑(List.length l) : Int) ≤ (↑(List.length l) : Int) ∧ bif hasKey (List.drop (Int.toNat (Option.getD none (0 : Int))) (List.take (Int.toNat (Option.getD (some y.1) (↑(List.length l) : Int))) l)) (DUndo.Key (List.getD l (Int.toNat y.1) zUndo)) then Lf [DV.one (Cell.lit (Value.bool false))] [DV.one (Cell.lit (Value.bool (undosOk l)))] else I_impl_UndosOk_4 l (IntKind.wrap IntKind.i64 (y.1 + (1 : Int)), PUnit.unit) ∧ μ_impl_UndosOk_4 l (IntKind.wrap IntKind.i64 (y.1 + (1 : Int)), PUnit.unit) < μ_impl_UndosOk_4 l y else Lf [DV.one (Cell.lit (Value.bool true))] [DV.one (Cell.lit (Value.bool (undosOk l)))]) := by kernel_rfl
theorem ok_impl_UndosOk : Holds EE (16, con_impl_UndosOk) := by
  refine holds_of EE_ok Go.Proofs.Try.func16 con_impl_UndosOk (by kernel_rfl) rfl use_impl_UndosOk (all_cons ok_impl_isKey (all_cons ok_impl_FactOk (all_cons ok_impl_hasKey all_nil))) ann_impl_UndosOk (fun (l : (List DUndo)) hp hb => ?_)
  have hb_l : BdDV (U := UU) (.one (.sl .eUndo l)) := hb _ (List.mem_cons_self)
  have hl_l : l.length ≤ 9223372036854775807 := Bd.len hb_l
  clear hp hb
  rw [vc_impl_UndosOk l]
  refine if_cond (fun h => Lf_ff ?_) (fun h => ⟨⟨by omega, by omega, by have h := of_decide_eq_false h; omega, by intro j hj; omega⟩, ?_⟩)
  · have h := of_decide_eq_true h; simp only [undosOk]; rw [decide_eq_false (by omega)]; rfl
  rintro ⟨i, ⟨⟩⟩ ⟨h1, h2, h3, hR⟩
  simp only
  refine if_cond (fun hc => ?_) (fun hc => ?_)
  · have hc := of_decide_eq_true hc
    have hN : undoAt l i.toNat = false → undosOk l = false := fun h => by
      have hf : allI l.length (undoAt l) = false := allI_false (j := i.toNat) (by omega) h
      simp only [undosOk, hf]; simp
    have hk : hasKey (List.drop (Int.toNat 0) (List.take i.toNat l)) (List.getD l i.toNat zUndo).Key = anyI i.toNat fun k => decide ((List.getD l k zUndo).Key = (List.getD l i.toNat zUndo).Key) := by
      show anyI _ _ = _
      have e : (List.take i.toNat l).length = i.toNat := by rw [List.length_take]; omega
      rw [show Int.toNat 0 = 0 from rfl, List.drop_zero, e]
      exact anyI_congr fun j hj => by rw [getD_take l zUndo hj]
    simp only [Option.getD_none, Option.getD_some, hk]
    simp (disch := omega) only [wrap_i64]
    have hm : μ_impl_UndosOk_4 l (i + 1, PUnit.unit) < μ_impl_UndosOk_4 l (i, ()) := by simp only [μ_impl_UndosOk_4]; omega
    refine ⟨by omega, by omega, if_cond (fun h => Lf_ff (hN ?_)) (fun h => if_cond (fun h' => Lf_ff (hN ?_)) (fun h' => ⟨by omega, by omega, by omega, if_cond (fun h'' => Lf_ff (hN ?_)) (fun h'' => ⟨⟨by omega, by omega, h3, upto_step h1 hR ?_⟩, hm⟩)⟩))⟩
    all_goals (simp only [undoAt]; grind)
  · have hc := of_decide_eq_false hc
    have hA : allI l.length (undoAt l) = true := allI_true fun j hj => hR j (by omega)
    refine Lf_b ?_
    simp only [undosOk, hA]; grind
def con_spec_UndosOk : Con UU where
  α := (List DUndo)
  md := [.ro]
  of := fun | [.one (.sl .eUndo a0)] => some a0 | _ => none
  ds := fun l => [.one (.sl .eUndo l)]
  pre := fun l => []
  res := fun l => ⟨[.one (.lit (.bool (undosOk l)))], true, []⟩
  law := by intro l x h; (try simp only at h); split at h <;> cases h; rfl
def I_spec_UndosOk_2 (l : (List DUndo)) : Int × Unit → Prop := fun (i, _) => 0 ≤ i ∧ i ≤ l.length ∧ ∀ j : Nat, (j : Int) < i → undoAt l j = true
def μ_spec_UndosOk_2 (l : (List DUndo)) : Int × Unit → Nat := fun (i, _) => l.length - i.toNat
def I_spec_UndosOk_7 (l : (List DUndo)) : Int × Int × Unit → Int × Int × Unit → Prop := fun (i0, k0, _) (i, k, _) => i = i0 ∧ 0 ≤ k ∧ k ≤ i ∧ ∀ j : Nat, (j : Int) < k → decide ((List.getD l j zUndo).Key = (List.getD l i.toNat zUndo).Key) = false
def μ_spec_UndosOk_7 (l : (List DUndo)) : Int × Int × Unit → Nat := fun (i, k, _) => i.toNat - k.toNat
def ann_spec_UndosOk : con_spec_UndosOk.α → Nat → Option (Ann UU) := fun l => annL [(2, annOf [.slot 3 (3, 1024) (.lit (.int .i64))] (fun _ => I_spec_UndosOk_2 l) (μ_spec_UndosOk_2 l)), (7, annOf [.slot 3 (3, 1024) (.lit (.int .i64)), .slot 4 (4, 1024) (.lit (.int .i64))] (I_spec_UndosOk_7 l) (μ_spec_UndosOk_7 l))]
def use_spec_UndosOk : List (FuncId × Con UU) := [(69, con_spec_l1In), (70, con_spec_FactOk)]
theorem vc_spec_UndosOk (l : (List DUndo)) : goal EE use_spec_UndosOk Go.Proofs.Try.f14 con_spec_UndosOk ann_spec_UndosOk l = (I_spec_UndosOk_2 l ((0 : Int), PUnit.unit) ∧ ∀ (y : Int × PUnit), I_spec_UndosOk_2 l y → bif decide (y.1 < (↑(List.length l) : Int)) then (0 : Int) ≤ y.1 ∧ Int.toNat y.1 < List.length l ∧ bif !decide ((1 : Int) ≤ (↑(ByteArray.size (DUndo.Key (List.getD l (Int.toNat y.1) zUndo))) : Int) ∧ (↑(ByteArray.size (DUndo.Key (List.getD l (Int.toNat y.1) zUndo))) : Int) ≤ (200 : Int)) then Lf [DV.one (Cell.lit (Value.bool false))] [DV.one (Cell.lit (Value.bool (undosOk l)))] else (0 : Int) ≤ y.1 ∧ Int.toNat y.1 < List.length l ∧ bif !factOk (DUndo.F (List.getD l (Int.toNat y.1) zUndo)) then Lf [DV.one (Cell.lit (Value.bool false))] [DV.one (Cell.lit (Value.bool (undosOk l)))] else I_spec_UndosOk_7 l (y.1, (0 : Int), PUnit.unit) (y.1, (0 : Int), PUnit.unit) ∧ ∀ (y_1 : Int × Int × PUnit), I_spec_UndosOk_7 l (y.1, (0 : Int), PUnit.unit) y_1 → bif decide (y_1.2.1 < y_1.1) then (0 : Int) ≤ y_1.1 ∧ Int.toNat y_1.1 < List.length l ∧ (0 : Int) ≤ y_1.2.1 ∧ Int.toNat y_1.2.1 < List.length l ∧ bif ByteArray.toList (DUndo.Key (List.getD l (Int.toNat y_1.1) zUndo)) == ByteArray.toList (DUndo.Key (List.getD l (Int.toNat y_1.2.1) zUndo)) then Lf [DV.one (Cell.lit (Value.bool false))] [DV.one (Cell.lit (Value.bool (undosOk l)))] else I_spec_UndosOk_7 l (y.1, (0 : Int), PUnit.unit) (y_1.1, IntKind.wrap IntKind.i64 (y_1.2.1 + (1 : Int)), PUnit.unit) ∧ μ_spec_UndosOk_7 l (y_1.1, IntKind.wrap IntKind.i64 (y_1.2.1 + (1 : Int)), PUnit.unit) < μ_spec_UndosOk_7 l y_1 else I_spec_UndosOk_2 l (IntKind.wrap IntKind.i64 (y_1.1 + (1 : Int)), PUnit.unit) ∧ μ_spec_UndosOk_2 l (IntKind.wrap IntKind.i64 (y_1.1 + (1 : Int)), PUnit.unit) < μ_spec_UndosOk_2 l y else Lf [DV.one (Cell.lit (Value.bool (decide ((↑(List.length l) : Int) ≤ (30 : Int)))))] [DV.one (Cell.lit (Value.bool (undosOk l)))]) := by kernel_rfl
theorem ok_spec_UndosOk : Holds EE (14, con_spec_UndosOk) := by
  refine holds_of EE_ok Go.Proofs.Try.func14 con_spec_UndosOk (by kernel_rfl) rfl use_spec_UndosOk (all_cons ok_spec_l1In (all_cons ok_spec_FactOk all_nil)) ann_spec_UndosOk (fun (l : (List DUndo)) hp hb => ?_)
  have hb_l : BdDV (U := UU) (.one (.sl .eUndo l)) := hb _ (List.mem_cons_self)
  have hl_l : l.length ≤ 9223372036854775807 := Bd.len hb_l
  clear hp hb
  rw [vc_spec_UndosOk l]
  refine ⟨⟨by omega, by omega, by intro j hj; omega⟩, ?_⟩
  rintro ⟨i, ⟨⟩⟩ ⟨h1, h2, hR⟩
  simp only
  refine if_cond (fun hc => ?_) (fun hc => ?_)
  · have hc := of_decide_eq_true hc
    have hN : undoAt l i.toNat = false → undosOk l = false := fun h => by
      have hf : allI l.length (undoAt l) = false := allI_false (j := i.toNat) (by omega) h
      simp only [undosOk, hf]; simp
    have hm : μ_spec_UndosOk_2 l (i + 1, PUnit.unit) < μ_spec_UndosOk_2 l (i, ()) := by simp only [μ_spec_UndosOk_2]; omega
    refine ⟨by omega, by omega, if_cond (fun h => Lf_ff (hN ?_)) (fun h => ⟨by omega, by omega, if_cond (fun h' => Lf_ff (hN ?_)) (fun h' => ⟨⟨rfl, by omega, by omega, by intro j hj; omega⟩, ?_⟩)⟩)⟩
    · simp only [undoAt]; grind
    · simp only [undoAt]; grind
    rintro ⟨i, k, ⟨⟩⟩ ⟨rfl, g1, g2, gR⟩
    simp only
    refine if_cond (fun hk => ?_) (fun hk => ?_)
    · have hk := of_decide_eq_true hk
      simp (disch := omega) only [wrap_i64, toList_beq]
      refine ⟨by omega, by omega, by omega, by omega, if_cond (fun h'' => Lf_ff (hN ?_)) (fun h'' => ⟨⟨rfl, by omega, by omega, upto_no g1 gR ?_⟩, by simp only [μ_spec_UndosOk_7]; omega⟩)⟩
      · have ha : (anyI i.toNat fun k => decide ((List.getD l k zUndo).Key = (List.getD l i.toNat zUndo).Key)) = true := anyI_true (j := k.toNat) (by omega) (by grind)
        simp only [undoAt, ha]; simp
      · grind
    · have hk := of_decide_eq_false hk
      simp (disch := omega) only [wrap_i64]
      refine ⟨⟨by omega, by omega, upto_step h1 hR ?_⟩, hm⟩
      have ha : (anyI i.toNat fun k => decide ((List.getD l k zUndo).Key = (List.getD l i.toNat zUndo).Key)) = false := anyI_false fun j hj => gR j (by omega)
      simp only [undoAt, ha]; grind
  · have hc := of_decide_eq_false hc
    have hA : allI l.length (undoAt l) = true := allI_true fun j hj => hR j (by omega)
    refine Lf_b ?_
    simp only [undosOk, hA]; grind
def con_laws_FnExactUndosOk : Con UU where
  α := (List DUndo)
  md := [.ro]
  of := fun | [.one (.sl .lUndo a0)] => some a0 | _ => none
  ds := fun aL => [.one (.sl .lUndo aL)]
  pre := fun aL => []
  res := fun aL => ⟨[.one (.lit (.bool true))], true, []⟩
  law := by intro l x h; (try simp only at h); split at h <;> cases h; rfl
def ann_laws_FnExactUndosOk : con_laws_FnExactUndosOk.α → Nat → Option (Ann UU) := fun aL => annL []
def use_laws_FnExactUndosOk : List (FuncId × Con UU) := [(13, con_laws_szUndoS), (15, con_laws_toUndoS), (14, con_spec_UndosOk), (16, con_impl_UndosOk), (17, con_laws_eqUndoS)]
theorem vc_laws_FnExactUndosOk (aL : (List DUndo)) : goal EE use_laws_FnExactUndosOk Go.Proofs.Try.f3 con_laws_FnExactUndosOk ann_laws_FnExactUndosOk aL = ((0 : Int) ≤ (1048576 : Int) ∧ bif decide (szr (1048576 : Int) (sizeUndoS aL) < (0 : Int)) then Lf [DV.one (Cell.lit (Value.bool true))] [DV.one (Cell.lit (Value.bool true))] else sizeUndoS aL ≤ (4294967296 : Nat) ∧ sizeUndoS aL ≤ (4294967296 : Nat) ∧ bif !undosOk aL == undosOk aL then Lf [DV.one (Cell.lit (Value.bool false))] [DV.one (Cell.lit (Value.bool true))] else sizeUndoS aL ≤ (4294967296 : Nat) ∧ bif !decide (aL = aL) then Lf [DV.one (Cell.lit (Value.bool false))] [DV.one (Cell.lit (Value.bool true))] else Lf [DV.one (Cell.lit (Value.bool true))] [DV.one (Cell.lit (Value.bool true))]) := by kernel_rfl
theorem ok_laws_FnExactUndosOk : Holds EE (3, con_laws_FnExactUndosOk) := by
  refine holds_of EE_ok Go.Proofs.Try.func3 con_laws_FnExactUndosOk (by kernel_rfl) rfl use_laws_FnExactUndosOk (all_cons ok_laws_szUndoS (all_cons ok_laws_toUndoS (all_cons ok_spec_UndosOk (all_cons ok_impl_UndosOk (all_cons ok_laws_eqUndoS all_nil))))) ann_laws_FnExactUndosOk (fun (aL : (List DUndo)) hp hb => ?_)
  have hb_aL : BdDV (U := UU) (.one (.sl .lUndo aL)) := hb _ (List.mem_cons_self)
  have hl_aL : aL.length ≤ 9223372036854775807 := Bd.len hb_aL
  clear hp hb
  rw [vc_laws_FnExactUndosOk aL]
  refine ⟨by omega, if_cond (fun h => Lf_rfl _) (fun h => ?_)⟩
  obtain ⟨e0, h0⟩ := szr_pos h
  repeat' (first | exact Lf_rfl _ | refine And.intro (by omega) ?_ | refine if_cond (fun h => absurd h (by simp)) (fun h => ?_) | fail)
end
end AM
