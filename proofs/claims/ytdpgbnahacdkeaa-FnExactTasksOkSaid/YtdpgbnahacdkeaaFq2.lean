/- Functions of the program with their contracts: written by gen/fn.py out of q2.fn. -/
import Derived.Test.YtdpgbnahacdkeaaAmLib
import Derived.Test.YtdpgbnahacdkeaaFq1
import Derived.Test.YtdpgbnahacdkeaaFp3
namespace AM
open Go
set_option linter.unusedVariables false
set_option linter.unusedSimpArgs false
set_option maxRecDepth 100000
noncomputable section
def undoOk (s : ByteArray) : Bool := decide (s = noBytes) || nameOk s
def taskOk (t : DTask) : Bool := factOk t.F && undoOk t.Undo && decide (1 ≤ t.State ∧ t.State ≤ 4) && decide (0 ≤ t.Tries ∧ t.Tries ≤ 4) && decide (0 ≤ t.Due ∧ t.Due ≤ 1000001000) && (decide (t.V = zVal) || valOk t.V) && decide ((t.State = 1 → t.Tries = 0) ∧ (t.State = 2 → t.Tries ≠ 0))
def taskAt (l : List DTask) (i : Nat) : Bool := taskOk (List.getD l i zTask) && !(anyI i fun k => decide ((List.getD l k zTask).F = (List.getD l i zTask).F))
def tasksOk (l : List DTask) : Bool := decide (l.length ≤ 30) && allI l.length (taskAt l)
def placeOf (l : List DTask) (f : DFact) : Int := idxI l.length fun k => decide ((List.getD l k zTask).F = f)
def isOpen (t : DTask) : Bool := decide (t.State = 1 ∨ t.State = 2)
def giveUp1 (t : DTask) : DTask := if t.State = 1 ∨ t.State = 2 then ⟨t.F, t.Undo, 4, t.Tries, t.Due, t.V⟩ else t
def giveUp (l : List DTask) : List DTask := l.map giveUp1
def daTask (x : DTask) : DA UU := ⟨true, [.lit (.string x.F.Kind), .sl .eVal x.F.Fields, .lit (.string x.Undo), .lit (.int .i64 x.State), .lit (.int .i64 x.Tries), .lit (.int .i64 x.Due), .lit (.int .i64 x.V.K), .lit (.int .i64 x.V.N), .lit (.string x.V.S)]⟩
theorem fact_ext {a b : DFact} : a = b ↔ a.Kind = b.Kind ∧ a.Fields = b.Fields := by
  obtain ⟨k, f⟩ := a; obtain ⟨k', f'⟩ := b; simp
theorem map_mod {α : Type} (f : α → α) (l : List α) (z : α) {i : Int} (F : α → α) (h0 : 0 ≤ i) (h : i < l.length) (hF : F (List.getD l i.toNat z) = f (List.getD l i.toNat z)) :
    ((l.map f).take i.toNat ++ l.drop i.toNat).modify i.toNat F = (l.map f).take (i + 1).toNat ++ l.drop (i + 1).toNat := by
  have hn : i.toNat < l.length := by omega
  have e : (i + 1).toNat = i.toNat + 1 := by omega
  have ht : ((l.map f).take i.toNat).length = i.toNat := by rw [List.length_take, List.length_map]; omega
  rw [modify_set _ z, mk_getD _ l z ht h0 h, hF, drop_step l z h0 h, List.set_append_right _ _ (by rw [ht]; exact Nat.le_refl _), ht, Nat.sub_self, List.set_cons_zero, e, List.take_succ_eq_append_getElem (by simpa using hn), List.append_assoc, List.getElem_map]
  rw [List.getD_eq_getElem?_getD, List.getElem?_eq_getElem hn]
  rfl
theorem map_skip {α : Type} (f : α → α) (l : List α) (z : α) {i : Int} (h0 : 0 ≤ i) (h : i < l.length) (hF : List.getD l i.toNat z = f (List.getD l i.toNat z)) :
    (l.map f).take i.toNat ++ l.drop i.toNat = (l.map f).take (i + 1).toNat ++ l.drop (i + 1).toNat := by
  rw [← map_mod f l z (fun x => x) h0 h hF]
  have : ∀ (m : List α) (n : Nat), m.modify n (fun x => x) = m := by
    intro m n
    refine List.ext_getElem? fun j => ?_
    rw [List.getElem?_modify]
    cases m[j]? <;> simp
  rw [this]
theorem map_row {α : Type} (f : α → α) (l : List α) {i : Int} (h0 : 0 ≤ i) (h : i ≤ l.length) : ((l.map f).take i.toNat ++ l.drop i.toNat).length = l.length := by
  rw [List.length_append, List.length_take, List.length_map, List.length_drop]; omega
theorem map_tl {α : Type} (f : α → α) (l : List α) {i : Int} (h0 : 0 ≤ i) (h : i ≤ l.length) : ((l.map f).take i.toNat).length = i.toNat := by
  rw [List.length_take, List.length_map]; omega
theorem map_done {α : Type} (f : α → α) (l : List α) {i : Int} (h : l.length ≤ i) : (l.map f).take i.toNat ++ l.drop i.toNat = l.map f := by
  rw [List.drop_eq_nil_of_le (by omega), List.append_nil, List.take_of_length_le (by rw [List.length_map]; omega)]
def con_spec_l3SameVals : Con UU where
  α := (List DVal) × (List DVal)
  md := [.ro, .ro]
  of := fun | [.one (.sl .eVal a0), .one (.sl .eVal a1)] => some (a0, a1) | _ => none
  ds := fun (a, b) => [.one (.sl .eVal a), .one (.sl .eVal b)]
  pre := fun (a, b) => []
  res := fun (a, b) => ⟨[.one (.lit (.bool (decide (a = b))))], true, []⟩
  law := by intro l x h; (try simp only at h); split at h <;> cases h; rfl
def I_spec_l3SameVals_4 (a : (List DVal)) (b : (List DVal)) : Int × Unit → Prop := fun (i, _) => 0 ≤ i ∧ i ≤ a.length ∧ a.length = b.length ∧ (a.drop i.toNat = b.drop i.toNat ↔ a = b)
def μ_spec_l3SameVals_4 (a : (List DVal)) (b : (List DVal)) : Int × Unit → Nat := fun (i, _) => a.length - i.toNat
def ann_spec_l3SameVals : con_spec_l3SameVals.α → Nat → Option (Ann UU) := fun (a, b) => annL [(4, annOf [.slot 5 (5, 1024) (.lit (.int .i64))] (fun _ => I_spec_l3SameVals_4 a b) (μ_spec_l3SameVals_4 a b))]
def use_spec_l3SameVals : List (FuncId × Con UU) := []
theorem vc_spec_l3SameVals (a : (List DVal)) (b : (List DVal)) : goal EE use_spec_l3SameVals Go.Proofs.Try.f153 con_spec_l3SameVals ann_spec_l3SameVals (a, b) = (bif (↑(List.length a) : Int) != (↑(List.length b) : Int) then Lf [DV.one (Cell.lit (Value.bool false))] [DV.one (Cell.lit (Value.bool (decide (a = b))))] else I_spec_l3SameVals_4 a b ((0 : Int), PUnit.unit) ∧ ∀ (y : Int × PUnit), I_spec_l3SameVals_4 a b y → bif decide (y.1 < (↑(List.length a) : Int)) then (0 : Int) ≤ y.1 ∧ Int.toNat y.1 < List.length a ∧ (0 : Int) ≤ y.1 ∧ Int.toNat y.1 < List.length b ∧ bif !(DVal.K (List.getD a (Int.toNat y.1) zVal) == DVal.K (List.getD b (Int.toNat y.1) zVal) && (DVal.N (List.getD a (Int.toNat y.1) zVal) == DVal.N (List.getD b (Int.toNat y.1) zVal) && (ByteArray.toList (DVal.S (List.getD a (Int.toNat y.1) zVal)) == ByteArray.toList (DVal.S (List.getD b (Int.toNat y.1) zVal)) && true))) then Lf [DV.one (Cell.lit (Value.bool false))] [DV.one (Cell.lit (Value.bool (decide (a = b))))] else I_spec_l3SameVals_4 a b (IntKind.wrap IntKind.i64 (y.1 + (1 : Int)), PUnit.unit) ∧ μ_spec_l3SameVals_4 a b (IntKind.wrap IntKind.i64 (y.1 + (1 : Int)), PUnit.unit) < μ_spec_l3SameVals_4 a b y else Lf [DV.one (Cell.lit (Value.bool true))] [DV.one (Cell.lit (Value.bool (decide (a = b))))]) := by kernel_rfl
theorem ok_spec_l3SameVals : Holds EE (153, con_spec_l3SameVals) := by
  refine holds_of EE_ok Go.Proofs.Try.func153 con_spec_l3SameVals (by kernel_rfl) rfl use_spec_l3SameVals all_nil ann_spec_l3SameVals (fun x hp hb => ?_)
  obtain ⟨a, b⟩ := x
  have hb_a : BdDV (U := UU) (.one (.sl .eVal a)) := hb _ (List.mem_cons_self)
  have hl_a : a.length ≤ 9223372036854775807 := Bd.len hb_a
  have hb_b : BdDV (U := UU) (.one (.sl .eVal b)) := hb _ (List.mem_cons_of_mem _ (List.mem_cons_self))
  have hl_b : b.length ≤ 9223372036854775807 := Bd.len hb_b
  clear hp hb
  rw [vc_spec_l3SameVals a b]
  refine if_cond (fun h => Lf_f ?_) (fun h => ⟨?_, ?_⟩)
  · rintro rfl; simp at h
  · simp [I_spec_l3SameVals_4] at *; omega
  rintro ⟨i, ⟨⟩⟩ ⟨h1, h2, h3, hR⟩
  simp only at *
  refine if_cond (fun hc => ?_) (fun hc => ?_)
  · have hc : i < a.length := by simpa using hc
    rw [drop_step a zVal h1 hc, drop_step b zVal h1 (by omega)] at hR
    rw [wrap_i64 (by omega) (by omega)]
    simp only [val_beq]
    refine ⟨by omega, by omega, by omega, by omega, if_cond (fun h => Lf_f ?_) (fun h => ⟨⟨by omega, by omega, h3, ?_⟩, ?_⟩)⟩
    · rw [← hR]; simp at h; simp [h]
    · rw [← hR]; simp at h; simp [h]
    · simp only [μ_spec_l3SameVals_4]; omega
  · have hc : a.length ≤ i := by simpa using hc
    rw [drop_end a hc, drop_end b (by omega)] at hR
    exact Lf_t (hR.1 rfl)
def con_EqualVal : Con UU where
  α := (List DVal) × (List DVal)
  md := [.ro, .ro]
  of := fun | [.one (.sl .eVal a0), .one (.sl .eVal a1)] => some (a0, a1) | _ => none
  ds := fun (a, b) => [.one (.sl .eVal a), .one (.sl .eVal b)]
  pre := fun (a, b) => []
  res := fun (a, b) => ⟨[.one (.lit (.bool (decide (a = b))))], true, []⟩
  law := by intro l x h; (try simp only at h); split at h <;> cases h; rfl
def I_EqualVal_4 (a : (List DVal)) (b : (List DVal)) : Int × Unit → Prop := fun (i, _) => 0 ≤ i ∧ i ≤ a.length ∧ a.length = b.length ∧ (a.drop i.toNat = b.drop i.toNat ↔ a = b)
def μ_EqualVal_4 (a : (List DVal)) (b : (List DVal)) : Int × Unit → Nat := fun (i, _) => a.length - i.toNat
def ann_EqualVal : con_EqualVal.α → Nat → Option (Ann UU) := fun (a, b) => annL [(4, annOf [.slot 13 (13, 1024) (.lit (.int .i64))] (fun _ => I_EqualVal_4 a b) (μ_EqualVal_4 a b))]
def use_EqualVal : List (FuncId × Con UU) := []
theorem vc_EqualVal (a : (List DVal)) (b : (List DVal)) : goal EE use_EqualVal Go.Proofs.Try.f181 con_EqualVal ann_EqualVal (a, b) = (bif (↑(List.length a) : Int) != (↑(List.length b) : Int) then Lf [DV.one (Cell.lit (Value.bool false))] [DV.one (Cell.lit (Value.bool (decide (a = b))))] else I_EqualVal_4 a b ((0 : Int), PUnit.unit) ∧ ∀ (y : Int × PUnit), I_EqualVal_4 a b y → bif decide (y.1 < (↑(List.length a) : Int)) then (0 : Int) ≤ y.1 ∧ Int.toNat y.1 < List.length a ∧ (0 : Int) ≤ y.1 ∧ Int.toNat y.1 < List.length b ∧ bif !(DVal.K (List.getD a (Int.toNat y.1) zVal) == DVal.K (List.getD b (Int.toNat y.1) zVal) && (DVal.N (List.getD a (Int.toNat y.1) zVal) == DVal.N (List.getD b (Int.toNat y.1) zVal) && (ByteArray.toList (DVal.S (List.getD a (Int.toNat y.1) zVal)) == ByteArray.toList (DVal.S (List.getD b (Int.toNat y.1) zVal)) && true))) then Lf [DV.one (Cell.lit (Value.bool false))] [DV.one (Cell.lit (Value.bool (decide (a = b))))] else I_EqualVal_4 a b (IntKind.wrap IntKind.i64 (y.1 + (1 : Int)), PUnit.unit) ∧ μ_EqualVal_4 a b (IntKind.wrap IntKind.i64 (y.1 + (1 : Int)), PUnit.unit) < μ_EqualVal_4 a b y else Lf [DV.one (Cell.lit (Value.bool true))] [DV.one (Cell.lit (Value.bool (decide (a = b))))]) := by kernel_rfl
theorem ok_EqualVal : Holds EE (181, con_EqualVal) := by
  refine holds_of EE_ok Go.Proofs.Try.func181 con_EqualVal (by kernel_rfl) rfl use_EqualVal all_nil ann_EqualVal (fun x hp hb => ?_)
  obtain ⟨a, b⟩ := x
  have hb_a : BdDV (U := UU) (.one (.sl .eVal a)) := hb _ (List.mem_cons_self)
  have hl_a : a.length ≤ 9223372036854775807 := Bd.len hb_a
  have hb_b : BdDV (U := UU) (.one (.sl .eVal b)) := hb _ (List.mem_cons_of_mem _ (List.mem_cons_self))
  have hl_b : b.length ≤ 9223372036854775807 := Bd.len hb_b
  clear hp hb
  rw [vc_EqualVal a b]
  refine if_cond (fun h => Lf_f ?_) (fun h => ⟨?_, ?_⟩)
  · rintro rfl; simp at h
  · simp [I_EqualVal_4] at *; omega
  rintro ⟨i, ⟨⟩⟩ ⟨h1, h2, h3, hR⟩
  simp only at *
  refine if_cond (fun hc => ?_) (fun hc => ?_)
  · have hc : i < a.length := by simpa using hc
    rw [drop_step a zVal h1 hc, drop_step b zVal h1 (by omega)] at hR
    rw [wrap_i64 (by omega) (by omega)]
    simp only [val_beq]
    refine ⟨by omega, by omega, by omega, by omega, if_cond (fun h => Lf_f ?_) (fun h => ⟨⟨by omega, by omega, h3, ?_⟩, ?_⟩)⟩
    · rw [← hR]; simp at h; simp [h]
    · rw [← hR]; simp at h; simp [h]
    · simp only [μ_EqualVal_4]; omega
  · have hc : a.length ≤ i := by simpa using hc
    rw [drop_end a hc, drop_end b (by omega)] at hR
    exact Lf_t (hR.1 rfl)
def con_spec_SameFact : Con UU where
  α := DFact × DFact
  md := [.ro, .ro]
  of := fun | [.agg [.lit (.string a0), .sl .eVal a1], .agg [.lit (.string a2), .sl .eVal a3]] => some (⟨a0, a1⟩, ⟨a2, a3⟩) | _ => none
  ds := fun (a, b) => [.agg [.lit (.string a.Kind), .sl .eVal a.Fields], .agg [.lit (.string b.Kind), .sl .eVal b.Fields]]
  pre := fun (a, b) => []
  res := fun (a, b) => ⟨[.one (.lit (.bool (decide (a = b))))], true, []⟩
  law := by intro l x h; (try simp only at h); split at h <;> cases h; rfl
def ann_spec_SameFact : con_spec_SameFact.α → Nat → Option (Ann UU) := fun (a, b) => annL []
def use_spec_SameFact : List (FuncId × Con UU) := [(153, con_spec_l3SameVals)]
theorem vc_spec_SameFact (a : DFact) (b : DFact) : goal EE use_spec_SameFact Go.Proofs.Try.f93 con_spec_SameFact ann_spec_SameFact (a, b) = (bif ByteArray.toList (DFact.Kind a) == ByteArray.toList (DFact.Kind b) then Lf [DV.one (Cell.lit (Value.bool (decide (DFact.Fields a = DFact.Fields b))))] [DV.one (Cell.lit (Value.bool (decide (a = b))))] else Lf [DV.one (Cell.lit (Value.bool false))] [DV.one (Cell.lit (Value.bool (decide (a = b))))]) := by kernel_rfl
theorem ok_spec_SameFact : Holds EE (93, con_spec_SameFact) := by
  refine holds_of EE_ok Go.Proofs.Try.func93 con_spec_SameFact (by kernel_rfl) rfl use_spec_SameFact (all_cons ok_spec_l3SameVals all_nil) ann_spec_SameFact (fun x hp hb => ?_)
  obtain ⟨a, b⟩ := x
  have hb_a : BdDV (U := UU) (.agg [.lit (.string a.Kind), .sl .eVal a.Fields]) := hb _ (List.mem_cons_self)
  have hl_a_Kind : a.Kind.size ≤ 9223372036854775807 := Bd.str (hb_a _ (by simp))
  have hl_a_Fields : a.Fields.length ≤ 9223372036854775807 := Bd.len (U := UU) (τ := .eVal) (xs := a.Fields) (hb_a _ (by simp))
  have hb_b : BdDV (U := UU) (.agg [.lit (.string b.Kind), .sl .eVal b.Fields]) := hb _ (List.mem_cons_of_mem _ (List.mem_cons_self))
  have hl_b_Kind : b.Kind.size ≤ 9223372036854775807 := Bd.str (hb_b _ (by simp))
  have hl_b_Fields : b.Fields.length ≤ 9223372036854775807 := Bd.len (U := UU) (τ := .eVal) (xs := b.Fields) (hb_b _ (by simp))
  clear hp hb
  rw [vc_spec_SameFact a b]
  simp only [toList_beq]
  refine if_cond (fun h => Lf_b ?_) (fun h => Lf_b ?_) <;> (simp only [fact_ext]; grind)
def con_impl_SameFact : Con UU where
  α := DFact × DFact
  md := [.ro, .ro]
  of := fun | [.agg [.lit (.string a0), .sl .eVal a1], .agg [.lit (.string a2), .sl .eVal a3]] => some (⟨a0, a1⟩, ⟨a2, a3⟩) | _ => none
  ds := fun (a, b) => [.agg [.lit (.string a.Kind), .sl .eVal a.Fields], .agg [.lit (.string b.Kind), .sl .eVal b.Fields]]
  pre := fun (a, b) => []
  res := fun (a, b) => ⟨[.one (.lit (.bool (decide (a = b))))], true, []⟩
  law := by intro l x h; (try simp only at h); split at h <;> cases h; rfl
def ann_impl_SameFact : con_impl_SameFact.α → Nat → Option (Ann UU) := fun (a, b) => annL []
def use_impl_SameFact : List (FuncId × Con UU) := [(181, con_EqualVal)]
theorem vc_impl_SameFact (a : DFact) (b : DFact) : goal EE use_impl_SameFact Go.Proofs.Try.f156 con_impl_SameFact ann_impl_SameFact (a, b) = (bif ByteArray.toList (DFact.Kind a) == ByteArray.toList (DFact.Kind b) then Lf [DV.one (Cell.lit (Value.bool (decide (DFact.Fields a = DFact.Fields b))))] [DV.one (Cell.lit (Value.bool (decide (a = b))))] else Lf [DV.one (Cell.lit (Value.bool false))] [DV.one (Cell.lit (Value.bool (decide (a = b))))]) := by kernel_rfl
theorem ok_impl_SameFact : Holds EE (156, con_impl_SameFact) := by
  refine holds_of EE_ok Go.Proofs.Try.func156 con_impl_SameFact (by kernel_rfl) rfl use_impl_SameFact (all_cons ok_EqualVal all_nil) ann_impl_SameFact (fun x hp hb => ?_)
  obtain ⟨a, b⟩ := x
  have hb_a : BdDV (U := UU) (.agg [.lit (.string a.Kind), .sl .eVal a.Fields]) := hb _ (List.mem_cons_self)
  have hl_a_Kind : a.Kind.size ≤ 9223372036854775807 := Bd.str (hb_a _ (by simp))
  have hl_a_Fields : a.Fields.length ≤ 9223372036854775807 := Bd.len (U := UU) (τ := .eVal) (xs := a.Fields) (hb_a _ (by simp))
  have hb_b : BdDV (U := UU) (.agg [.lit (.string b.Kind), .sl .eVal b.Fields]) := hb _ (List.mem_cons_of_mem _ (List.mem_cons_self))
  have hl_b_Kind : b.Kind.size ≤ 9223372036854775807 := Bd.str (hb_b _ (by simp))
  have hl_b_Fields : b.Fields.length ≤ 9223372036854775807 := Bd.len (U := UU) (τ := .eVal) (xs := b.Fields) (hb_b _ (by simp))
  clear hp hb
  rw [vc_impl_SameFact a b]
  simp only [toList_beq]
  refine if_cond (fun h => Lf_b ?_) (fun h => Lf_b ?_) <;> (simp only [fact_ext]; grind)
def con_spec_l18Undo : Con UU where
  α := ByteArray
  md := [.ro]
  of := fun | [.one (.lit (.string a0))] => some a0 | _ => none
  ds := fun s => [.one (.lit (.string s))]
  pre := fun s => []
  res := fun s => ⟨[.one (.lit (.bool (undoOk s)))], true, []⟩
  law := by intro l x h; (try simp only at h); split at h <;> cases h; rfl
def ann_spec_l18Undo : con_spec_l18Undo.α → Nat → Option (Ann UU) := fun s => annL []
def use_spec_l18Undo : List (FuncId × Con UU) := [(78, con_spec_NameOk)]
theorem vc_spec_l18Undo (s : ByteArray) : goal EE use_spec_l18Undo Go.Proofs.Try.f115 con_spec_l18Undo ann_spec_l18Undo s = (bif ByteArray.toList s == ByteArray.toList { data := #[] } then Lf [DV.one (Cell.lit (Value.bool true))] [DV.one (Cell.lit (Value.bool (undoOk s)))] else Lf [DV.one (Cell.lit (Value.bool (nameOk s)))] [DV.one (Cell.lit (Value.bool (undoOk s)))]) := by kernel_rfl
theorem ok_spec_l18Undo : Holds EE (115, con_spec_l18Undo) := by
  refine holds_of EE_ok Go.Proofs.Try.func115 con_spec_l18Undo (by kernel_rfl) rfl use_spec_l18Undo (all_cons ok_spec_NameOk all_nil) ann_spec_l18Undo (fun (s : ByteArray) hp hb => ?_)
  have hb_s : BdDV (U := UU) (.one (.lit (.string s))) := hb _ (List.mem_cons_self)
  have hl_s : s.size ≤ 9223372036854775807 := Bd.str hb_s
  clear hp hb
  rw [vc_spec_l18Undo s]
  have e : (ByteArray.toList s == ByteArray.toList { data := #[] }) = decide (s = noBytes) := toList_beq _ _
  simp only [e, undoOk]
  refine if_cond (fun h => Lf_b ?_) (fun h => Lf_b ?_) <;> grind
def con_impl_isUndo : Con UU where
  α := ByteArray
  md := [.ro]
  of := fun | [.one (.lit (.string a0))] => some a0 | _ => none
  ds := fun s => [.one (.lit (.string s))]
  pre := fun s => []
  res := fun s => ⟨[.one (.lit (.bool (undoOk s)))], true, []⟩
  law := by intro l x h; (try simp only at h); split at h <;> cases h; rfl
def ann_impl_isUndo : con_impl_isUndo.α → Nat → Option (Ann UU) := fun s => annL []
def use_impl_isUndo : List (FuncId × Con UU) := [(147, con_impl_NameOk)]
theorem vc_impl_isUndo (s : ByteArray) : goal EE use_impl_isUndo Go.Proofs.Try.f118 con_impl_isUndo ann_impl_isUndo s = (bif ByteArray.toList s == ByteArray.toList { data := #[] } then Lf [DV.one (Cell.lit (Value.bool true))] [DV.one (Cell.lit (Value.bool (undoOk s)))] else Lf [DV.one (Cell.lit (Value.bool (nameOk s)))] [DV.one (Cell.lit (Value.bool (undoOk s)))]) := by kernel_rfl
theorem ok_impl_isUndo : Holds EE (118, con_impl_isUndo) := by
  refine holds_of EE_ok Go.Proofs.Try.func118 con_impl_isUndo (by kernel_rfl) rfl use_impl_isUndo (all_cons ok_impl_NameOk all_nil) ann_impl_isUndo (fun (s : ByteArray) hp hb => ?_)
  have hb_s : BdDV (U := UU) (.one (.lit (.string s))) := hb _ (List.mem_cons_self)
  have hl_s : s.size ≤ 9223372036854775807 := Bd.str hb_s
  clear hp hb
  rw [vc_impl_isUndo s]
  have e : (ByteArray.toList s == ByteArray.toList { data := #[] }) = decide (s = noBytes) := toList_beq _ _
  simp only [e, undoOk]
  refine if_cond (fun h => Lf_b ?_) (fun h => Lf_b ?_) <;> grind
def con_spec_l18Task : Con UU where
  α := DTask
  md := [.ro]
  of := fun | [.agg [.lit (.string a0), .sl .eVal a1, .lit (.string a2), .lit (.int .i64 a3), .lit (.int .i64 a4), .lit (.int .i64 a5), .lit (.int .i64 a6), .lit (.int .i64 a7), .lit (.string a8)]] => some ⟨⟨a0, a1⟩, a2, a3, a4, a5, ⟨a6, a7, a8⟩⟩ | _ => none
  ds := fun t => [.agg [.lit (.string t.F.Kind), .sl .eVal t.F.Fields, .lit (.string t.Undo), .lit (.int .i64 t.State), .lit (.int .i64 t.Tries), .lit (.int .i64 t.Due), .lit (.int .i64 t.V.K), .lit (.int .i64 t.V.N), .lit (.string t.V.S)]]
  pre := fun t => []
  res := fun t => ⟨[.one (.lit (.bool (taskOk t)))], true, []⟩
  law := by intro l x h; (try simp only at h); split at h <;> cases h; rfl
def ann_spec_l18Task : con_spec_l18Task.α → Nat → Option (Ann UU) := fun t => annL []
def use_spec_l18Task : List (FuncId × Con UU) := [(70, con_spec_FactOk), (115, con_spec_l18Undo), (69, con_spec_l1In), (79, con_spec_ValOk)]
theorem vc_spec_l18Task (t : DTask) : goal EE use_spec_l18Task Go.Proofs.Try.f92 con_spec_l18Task ann_spec_l18Task t = (bif !factOk (DTask.F t) then Lf [DV.one (Cell.lit (Value.bool false))] [DV.one (Cell.lit (Value.bool (taskOk t)))] else bif !undoOk (DTask.Undo t) then Lf [DV.one (Cell.lit (Value.bool false))] [DV.one (Cell.lit (Value.bool (taskOk t)))] else bif !decide ((1 : Int) ≤ DTask.State t ∧ DTask.State t ≤ (4 : Int)) then Lf [DV.one (Cell.lit (Value.bool false))] [DV.one (Cell.lit (Value.bool (taskOk t)))] else bif !decide ((0 : Int) ≤ DTask.Tries t ∧ DTask.Tries t ≤ (4 : Int)) then Lf [DV.one (Cell.lit (Value.bool false))] [DV.one (Cell.lit (Value.bool (taskOk t)))] else bif !decide ((0 : Int) ≤ DTask.Due t ∧ DTask.Due t ≤ (1000001000 : Int)) then Lf [DV.one (Cell.lit (Value.bool false))] [DV.one (Cell.lit (Value.bool (taskOk t)))] else bif !(DVal.K (DTask.V t) == (0 : Int) && (DVal.N (DTask.V t) == (0 : Int) && (ByteArray.toList (DVal.S (DTask.V t)) == ByteArray.toList { data := #[] } && true))) then bif !valOk (DTask.V t) then Lf [DV.one (Cell.lit (Value.bool false))] [DV.one (Cell.lit (Value.bool (taskOk t)))] else bif DTask.State t != (1 : Int) then bif DTask.State t != (2 : Int) then Lf [DV.one (Cell.lit (Value.bool true))] [DV.one (Cell.lit (Value.bool (taskOk t)))] else Lf [DV.one (Cell.lit (Value.bool ((DTask.State t == (1 : Int)) == (DTask.Tries t == (0 : Int)))))] [DV.one (Cell.lit (Value.bool (taskOk t)))] else Lf [DV.one (Cell.lit (Value.bool ((DTask.State t == (1 : Int)) == (DTask.Tries t == (0 : Int)))))] [DV.one (Cell.lit (Value.bool (taskOk t)))] else bif DTask.State t != (1 : Int) then bif DTask.State t != (2 : Int) then Lf [DV.one (Cell.lit (Value.bool true))] [DV.one (Cell.lit (Value.bool (taskOk t)))] else Lf [DV.one (Cell.lit (Value.bool ((DTask.State t == (1 : Int)) == (DTask.Tries t == (0 : Int)))))] [DV.one (Cell.lit (Value.bool (taskOk t)))] else Lf [DV.one (Cell.lit (Value.bool ((DTask.State t == (1 : Int)) == (DTask.Tries t == (0 : Int)))))] [DV.one (Cell.lit (Value.bool (taskOk t)))]) := by kernel_rfl
theorem ok_spec_l18Task : Holds EE (92, con_spec_l18Task) := by
  refine holds_of EE_ok Go.Proofs.Try.func92 con_spec_l18Task (by kernel_rfl) rfl use_spec_l18Task (all_cons ok_spec_FactOk (all_cons ok_spec_l18Undo (all_cons ok_spec_l1In (all_cons ok_spec_ValOk all_nil)))) ann_spec_l18Task (fun (t : DTask) hp hb => ?_)
  have hb_t : BdDV (U := UU) (.agg [.lit (.string t.F.Kind), .sl .eVal t.F.Fields, .lit (.string t.Undo), .lit (.int .i64 t.State), .lit (.int .i64 t.Tries), .lit (.int .i64 t.Due), .lit (.int .i64 t.V.K), .lit (.int .i64 t.V.N), .lit (.string t.V.S)]) := hb _ (List.mem_cons_self)
  have hl_t_F_Kind : t.F.Kind.size ≤ 9223372036854775807 := Bd.str (hb_t _ (by simp))
  have hl_t_F_Fields : t.F.Fields.length ≤ 9223372036854775807 := Bd.len (U := UU) (τ := .eVal) (xs := t.F.Fields) (hb_t _ (by simp))
  have hl_t_Undo : t.Undo.size ≤ 9223372036854775807 := Bd.str (hb_t _ (by simp))
  have hl_t_V_S : t.V.S.size ≤ 9223372036854775807 := Bd.str (hb_t _ (by simp))
  clear hp hb
  rw [vc_spec_l18Task t]
  have e : ∀ v : DVal, (v.K == 0 && (v.N == 0 && (ByteArray.toList v.S == ByteArray.toList { data := #[] } && true))) = decide (v = zVal) := fun v => val_beq v zVal
  simp only [e]
  simp only [taskOk]
  repeat' (refine if_cond (fun h => ?_) (fun h => ?_))
  all_goals (refine Lf_b ?_; grind)
def con_impl_taskOk : Con UU where
  α := DTask
  md := [.ro]
  of := fun | [.agg [.lit (.string a0), .sl .eVal a1, .lit (.string a2), .lit (.int .i64 a3), .lit (.int .i64 a4), .lit (.int .i64 a5), .lit (.int .i64 a6), .lit (.int .i64 a7), .lit (.string a8)]] => some ⟨⟨a0, a1⟩, a2, a3, a4, a5, ⟨a6, a7, a8⟩⟩ | _ => none
  ds := fun t => [.agg [.lit (.string t.F.Kind), .sl .eVal t.F.Fields, .lit (.string t.Undo), .lit (.int .i64 t.State), .lit (.int .i64 t.Tries), .lit (.int .i64 t.Due), .lit (.int .i64 t.V.K), .lit (.int .i64 t.V.N), .lit (.string t.V.S)]]
  pre := fun t => []
  res := fun t => ⟨[.one (.lit (.bool (taskOk t)))], true, []⟩
  law := by intro l x h; (try simp only at h); split at h <;> cases h; rfl
def ann_impl_taskOk : con_impl_taskOk.α → Nat → Option (Ann UU) := fun t => annL []
def use_impl_taskOk : List (FuncId × Con UU) := [(73, con_impl_FactOk), (118, con_impl_isUndo), (146, con_impl_inRange), (148, con_impl_ValOk)]
theorem vc_impl_taskOk (t : DTask) : goal EE use_impl_taskOk Go.Proofs.Try.f94 con_impl_taskOk ann_impl_taskOk t = (bif !factOk (DTask.F t) then Lf [DV.one (Cell.lit (Value.bool false))] [DV.one (Cell.lit (Value.bool (taskOk t)))] else bif !undoOk (DTask.Undo t) then Lf [DV.one (Cell.lit (Value.bool false))] [DV.one (Cell.lit (Value.bool (taskOk t)))] else bif !decide ((1 : Int) ≤ DTask.State t ∧ DTask.State t ≤ (4 : Int)) then Lf [DV.one (Cell.lit (Value.bool false))] [DV.one (Cell.lit (Value.bool (taskOk t)))] else bif !decide ((0 : Int) ≤ DTask.Tries t ∧ DTask.Tries t ≤ (4 : Int)) then Lf [DV.one (Cell.lit (Value.bool false))] [DV.one (Cell.lit (Value.bool (taskOk t)))] else bif DTask.State t == (1 : Int) then bif DTask.Tries t != (0 : Int) then Lf [DV.one (Cell.lit (Value.bool false))] [DV.one (Cell.lit (Value.bool (taskOk t)))] else bif DTask.State t == (2 : Int) then bif DTask.Tries t == (0 : Int) then Lf [DV.one (Cell.lit (Value.bool false))] [DV.one (Cell.lit (Value.bool (taskOk t)))] else bif decide ((0 : Int) ≤ DTask.Due t ∧ DTask.Due t ≤ (1000001000 : Int)) then bif DVal.K (DTask.V t) == (0 : Int) && (DVal.N (DTask.V t) == (0 : Int) && (ByteArray.toList (DVal.S (DTask.V t)) == ByteArray.toList { data := #[] } && true)) then Lf [DV.one (Cell.lit (Value.bool true))] [DV.one (Cell.lit (Value.bool (taskOk t)))] else Lf [DV.one (Cell.lit (Value.bool (valOk (DTask.V t))))] [DV.one (Cell.lit (Value.bool (taskOk t)))] else Lf [DV.one (Cell.lit (Value.bool false))] [DV.one (Cell.lit (Value.bool (taskOk t)))] else bif decide ((0 : Int) ≤ DTask.Due t ∧ DTask.Due t ≤ (1000001000 : Int)) then bif DVal.K (DTask.V t) == (0 : Int) && (DVal.N (DTask.V t) == (0 : Int) && (ByteArray.toList (DVal.S (DTask.V t)) == ByteArray.toList { data := #[] } && true)) then Lf [DV.one (Cell.lit (Value.bool true))] [DV.one (Cell.lit (Value.bool (taskOk t)))] else Lf [DV.one (Cell.lit (Value.bool (valOk (DTask.V t))))] [DV.one (Cell.lit (Value.bool (taskOk t)))] else Lf [DV.one (Cell.lit (Value.bool false))] [DV.one (Cell.lit (Value.bool (taskOk t)))] else bif DTask.State t == (2 : Int) then bif DTask.Tries t == (0 : Int) then Lf [DV.one (Cell.lit (Value.bool false))] [DV.one (Cell.lit (Value.bool (taskOk t)))] else bif decide ((0 : Int) ≤ DTask.Due t ∧ DTask.Due t ≤ (1000001000 : Int)) then bif DVal.K (DTask.V t) == (0 : Int) && (DVal.N (DTask.V t) == (0 : Int) && (ByteArray.toList (DVal.S (DTask.V t)) == ByteArray.toList { data := #[] } && true)) then Lf [DV.one (Cell.lit (Value.bool true))] [DV.one (Cell.lit (Value.bool (taskOk t)))] else Lf [DV.one (Cell.lit (Value.bool (valOk (DTask.V t))))] [DV.one (Cell.lit (Value.bool (taskOk t)))] else Lf [DV.one (Cell.lit (Value.bool false))] [DV.one (Cell.lit (Value.bool (taskOk t)))] else bif decide ((0 : Int) ≤ DTask.Due t ∧ DTask.Due t ≤ (1000001000 : Int)) then bif DVal.K (DTask.V t) == (0 : Int) && (DVal.N (DTask.V t) == (0 : Int) && (ByteArray.toList (DVal.S (DTask.V t)) == ByteArray.toList { data := #[] } && true)) then Lf [DV.one (Cell.lit (Value.bool true))] [DV.one (Cell.lit (Value.bool (taskOk t)))] else Lf [DV.one (Cell.lit (Value.bool (valOk (DTask.V t))))] [DV.one (Cell.lit (Value.bool (taskOk t)))] else Lf [DV.one (Cell.lit (Value.bool false))] [DV.one (Cell.lit (Value.bool (taskOk t)))]) := by kernel_rfl
theorem ok_impl_taskOk : Holds EE (94, con_impl_taskOk) := by
  refine holds_of EE_ok Go.Proofs.Try.func94 con_impl_taskOk (by kernel_rfl) rfl use_impl_taskOk (all_cons ok_impl_FactOk (all_cons ok_impl_isUndo (all_cons ok_impl_inRange (all_cons ok_impl_ValOk all_nil)))) ann_impl_taskOk (fun (t : DTask) hp hb => ?_)
  have hb_t : BdDV (U := UU) (.agg [.lit (.string t.F.Kind), .sl .eVal t.F.Fields, .lit (.string t.Undo), .lit (.int .i64 t.State), .lit (.int .i64 t.Tries), .lit (.int .i64 t.Due), .lit (.int .i64 t.V.K), .lit (.int .i64 t.V.N), .lit (.string t.V.S)]) := hb _ (List.mem_cons_self)
  have hl_t_F_Kind : t.F.Kind.size ≤ 9223372036854775807 := Bd.str (hb_t _ (by simp))
  have hl_t_F_Fields : t.F.Fields.length ≤ 9223372036854775807 := Bd.len (U := UU) (τ := .eVal) (xs := t.F.Fields) (hb_t _ (by simp))
  have hl_t_Undo : t.Undo.size ≤ 9223372036854775807 := Bd.str (hb_t _ (by simp))
  have hl_t_V_S : t.V.S.size ≤ 9223372036854775807 := Bd.str (hb_t _ (by simp))
  clear hp hb
  rw [vc_impl_taskOk t]
  have e : ∀ v : DVal, (v.K == 0 && (v.N == 0 && (ByteArray.toList v.S == ByteArray.toList { data := #[] } && true))) = decide (v = zVal) := fun v => val_beq v zVal
  simp only [e]
  simp only [taskOk]
  repeat' (refine if_cond (fun h => ?_) (fun h => ?_))
  all_goals (refine Lf_b ?_; grind)
def con_IndexFuncTask : Con UU where
  α := (List DTask) × (List (DA UU) → Option Value)
  md := [.ro, .ro]
  of := fun | [.one (.sl .eTask a0), .fn a1] => some (a0, a1) | _ => none
  ds := fun (l, p) => [.one (.sl .eTask l), .fn p]
  pre := fun (l, p) => [∀ j : Nat, j < l.length → p [daTask (List.getD l j zTask)] = some (.bool (boolOf (p [daTask (List.getD l j zTask)])))]
  res := fun (l, p) => ⟨[.one (.lit (.int .i64 (idxI l.length (fun j => boolOf (p [daTask (List.getD l j zTask)])))))], true, []⟩
  law := by intro l x h; (try simp only at h); split at h <;> cases h; rfl
def I_IndexFuncTask_2 (l : (List DTask)) (p : (List (DA UU) → Option Value)) : Int × Unit → Prop := fun (i, _) => 0 ≤ i ∧ i ≤ l.length ∧ ∀ j : Nat, (j : Int) < i → boolOf (p [daTask (List.getD l j zTask)]) = false
def μ_IndexFuncTask_2 (l : (List DTask)) (p : (List (DA UU) → Option Value)) : Int × Unit → Nat := fun (i, _) => l.length - i.toNat
def ann_IndexFuncTask : con_IndexFuncTask.α → Nat → Option (Ann UU) := fun (l, p) => annL [(2, annOf [.slot 8 (8, 1024) (.lit (.int .i64))] (fun _ => I_IndexFuncTask_2 l p) (μ_IndexFuncTask_2 l p))]
def use_IndexFuncTask : List (FuncId × Con UU) := []
theorem vc_IndexFuncTask (l : (List DTask)) (p : (List (DA UU) → Option Value)) : goal EE use_IndexFuncTask Go.Proofs.Try.f154 con_IndexFuncTask ann_IndexFuncTask (l, p) = (I_IndexFuncTask_2 l p ((0 : Int), PUnit.unit) ∧ ∀ (y : Int × PUnit), I_IndexFuncTask_2 l p y → bif decide (y.1 < (↑(List.length l) : Int)) then (0 : Int) ≤ y.1 ∧ Int.toNat y.1 < List.length l ∧ p [{ agg := true, cs := [Cell.lit (Value.string (DFact.Kind (DTask.F (List.getD l (Int.toNat y.1) zTask)))), Cell.sl Cd.eVal (DFact.Fields (DTask.F (List.getD l (Int.toNat y.1) zTask))), Cell.lit (Value.string (DTask.Undo (List.getD l (Int.toNat y.1) zTask))), Cell.lit (Value.int IntKind.i64 (DTask.State (List.getD l (Int.toNat y.1) zTask))), Cell.lit (Value.int IntKind.i64 (DTask.Tries (List.getD l (Int.toNat y.1) zTask))), Cell.lit (Value.int IntKind.i64 (DTask.Due (List.getD l (Int.toNat y.1) zTask))), Cell.lit (Value.int IntKind.i64 (DVal.K (DTask.V (List.getD l (Int.toNat y.1) zTask)))), Cell.lit (Value.int IntKind.i64 (DVal.N (DTask.V (List.getD l (Int.toNat y.1) zTask)))), Cell.lit (Value.string (DVal.S (DTask.V (List.getD l (Int.toNat y.1) zTask))))] }] = some (Value.bool (boolOf (p [{ agg := true, cs := [Cell.lit (Value.string (DFact.Kind (DTask.F (List.getD l (Int.toNat y.1) zTask)))), Cell.sl Cd.eVal (DFact.Fields (DTask.F (List.getD l (Int.toNat y.1) zTask))), Cell.lit (Value.string (DTask.Undo (List.getD l (Int.toNat y.1) zTask))), Cell.lit (Value.int IntKind.i64 (DTask.State (List.getD l (Int.toNat y.1) zTask))), Cell.lit (Value.int IntKind.i64 (DTask.Tries (List.getD l (Int.toNat y.1) zTask))), Cell.lit (Value.int IntKind.i64 (DTask.Due (List.getD l (Int.toNat y.1) zTask))), Cell.lit (Value.int IntKind.i64 (DVal.K (DTask.V (List.getD l (Int.toNat y.1) zTask)))), Cell.lit (Value.int IntKind.i64 (DVal.N (DTask.V (List.getD l (Int.toNat y.1) zTask)))), Cell.lit (Value.string (DVal.S (DTask.V (List.getD l (Int.toNat y.1) zTask))))] }]))) ∧ bif boolOf (p [{ agg := true, cs := [Cell.lit (Value.string (DFact.Kind (DTask.F (List.getD l (Int.toNat y.1) zTask)))), Cell.sl Cd.eVal (DFact.Fields (DTask.F (List.getD l (Int.toNat y.1) zTask))), Cell.lit (Value.string (DTask.Undo (List.getD l (Int.toNat y.1) zTask))), Cell.lit (Value.int IntKind.i64 (DTask.State (List.getD l (Int.toNat y.1) zTask))), Cell.lit (Value.int IntKind.i64 (DTask.Tries (List.getD l (Int.toNat y.1) zTask))), Cell.lit (Value.int IntKind.i64 (DTask.Due (List.getD l (Int.toNat y.1) zTask))), Cell.lit (Value.int IntKind.i64 (DVal.K (DTask.V (List.getD l (Int.toNat y.1) zTask)))), Cell.lit (Value.int IntKind.i64 (DVal.N (DTask.V (List.getD l (Int.toNat y.1) zTask)))), Cell.lit (Value.string (DVal.S (DTask.V (List.getD l (Int.toNat y.1) zTask))))] }]) then Lf [DV.one (Cell.lit (Value.int IntKind.i64 y.1))] [DV.one (Cell.lit (Value.int IntKind.i64 (idxI (List.length l) fun (j : Nat) => boolOf (p [daTask (List.getD l j zTask)]))))] else I_IndexFuncTask_2 l p (IntKind.wrap IntKind.i64 (y.1 + (1 : Int)), PUnit.unit) ∧ μ_IndexFuncTask_2 l p (IntKind.wrap IntKind.i64 (y.1 + (1 : Int)), PUnit.unit) < μ_IndexFuncTask_2 l p y else Lf [DV.one (Cell.lit (Value.int IntKind.i64 (-1 : Int)))] [DV.one (Cell.lit (Value.int IntKind.i64 (idxI (List.length l) fun (j : Nat) => boolOf (p [daTask (List.getD l j zTask)]))))]) := by kernel_rfl
theorem ok_IndexFuncTask : Holds EE (154, con_IndexFuncTask) := by
  refine holds_of EE_ok Go.Proofs.Try.func154 con_IndexFuncTask (by kernel_rfl) rfl use_IndexFuncTask all_nil ann_IndexFuncTask (fun x hp hb => ?_)
  obtain ⟨l, p⟩ := x
  have hb_l : BdDV (U := UU) (.one (.sl .eTask l)) := hb _ (List.mem_cons_self)
  have hl_l : l.length ≤ 9223372036854775807 := Bd.len hb_l
  have hp0 : ∀ j : Nat, j < l.length → p [daTask (List.getD l j zTask)] = some (.bool (boolOf (p [daTask (List.getD l j zTask)]))) := hp _ (List.mem_cons_self)
  clear hp hb
  rw [vc_IndexFuncTask l p]
  refine ⟨⟨by omega, by omega, by intro j hj; omega⟩, ?_⟩
  rintro ⟨i, ⟨⟩⟩ ⟨h1, h2, hR⟩
  simp only [daTask] at *
  refine if_cond (fun hc => ?_) (fun hc => ?_)
  · have hc := of_decide_eq_true hc
    rw [wrap_i64 (by omega) (by omega)]
    refine ⟨by omega, by omega, hp0 i.toNat (by omega), if_cond (fun h => Lf_i ?_) (fun h => ⟨⟨by omega, by omega, upto_no (p := fun j => boolOf (p [daTask (List.getD l j zTask)])) h1 hR h⟩, by simp only [μ_IndexFuncTask_2]; omega⟩)⟩
    rw [idxI_found (i := i.toNat) (by omega) h (fun j hj => hR j (by omega))]
    omega
  · have hc := of_decide_eq_false hc
    exact Lf_i (idxI_none (fun j hj => hR j (by omega))).symm
def con_impl_placeOfTask_1 : Con UU where
  α := DTask × DFact
  md := [.ro, .ro]
  of := fun | [.agg [.lit (.string a0), .sl .eVal a1, .lit (.string a2), .lit (.int .i64 a3), .lit (.int .i64 a4), .lit (.int .i64 a5), .lit (.int .i64 a6), .lit (.int .i64 a7), .lit (.string a8)], .ptr [.lit (.string a9), .sl .eVal a10]] => some (⟨⟨a0, a1⟩, a2, a3, a4, a5, ⟨a6, a7, a8⟩⟩, ⟨a9, a10⟩) | _ => none
  ds := fun (t, f) => [.agg [.lit (.string t.F.Kind), .sl .eVal t.F.Fields, .lit (.string t.Undo), .lit (.int .i64 t.State), .lit (.int .i64 t.Tries), .lit (.int .i64 t.Due), .lit (.int .i64 t.V.K), .lit (.int .i64 t.V.N), .lit (.string t.V.S)], .ptr [.lit (.string f.Kind), .sl .eVal f.Fields]]
  pre := fun (t, f) => []
  res := fun (t, f) => ⟨[.one (.lit (.bool (decide (t.F = f))))], true, []⟩
  law := by intro l x h; (try simp only at h); split at h <;> cases h; rfl
def ann_impl_placeOfTask_1 : con_impl_placeOfTask_1.α → Nat → Option (Ann UU) := fun (t, f) => annL []
def use_impl_placeOfTask_1 : List (FuncId × Con UU) := [(156, con_impl_SameFact)]
theorem vc_impl_placeOfTask_1 (t : DTask) (f : DFact) : goal EE use_impl_placeOfTask_1 Go.Proofs.Try.f155 con_impl_placeOfTask_1 ann_impl_placeOfTask_1 (t, f) = (Lf [DV.one (Cell.lit (Value.bool (decide (DTask.F t = f))))] [DV.one (Cell.lit (Value.bool (decide (DTask.F t = f))))]) := by kernel_rfl
theorem ok_impl_placeOfTask_1 : Holds EE (155, con_impl_placeOfTask_1) := by
  refine holds_of EE_ok Go.Proofs.Try.func155 con_impl_placeOfTask_1 (by kernel_rfl) rfl use_impl_placeOfTask_1 (all_cons ok_impl_SameFact all_nil) ann_impl_placeOfTask_1 (fun x hp hb => ?_)
  obtain ⟨t, f⟩ := x
  have hb_t : BdDV (U := UU) (.agg [.lit (.string t.F.Kind), .sl .eVal t.F.Fields, .lit (.string t.Undo), .lit (.int .i64 t.State), .lit (.int .i64 t.Tries), .lit (.int .i64 t.Due), .lit (.int .i64 t.V.K), .lit (.int .i64 t.V.N), .lit (.string t.V.S)]) := hb _ (List.mem_cons_self)
  have hl_t_F_Kind : t.F.Kind.size ≤ 9223372036854775807 := Bd.str (hb_t _ (by simp))
  have hl_t_F_Fields : t.F.Fields.length ≤ 9223372036854775807 := Bd.len (U := UU) (τ := .eVal) (xs := t.F.Fields) (hb_t _ (by simp))
  have hl_t_Undo : t.Undo.size ≤ 9223372036854775807 := Bd.str (hb_t _ (by simp))
  have hl_t_V_S : t.V.S.size ≤ 9223372036854775807 := Bd.str (hb_t _ (by simp))
  have hb_f : BdDV (U := UU) (.ptr [.lit (.string f.Kind), .sl .eVal f.Fields]) := hb _ (List.mem_cons_of_mem _ (List.mem_cons_self))
  have hl_f_Kind : f.Kind.size ≤ 9223372036854775807 := Bd.str (hb_f _ (by simp))
  have hl_f_Fields : f.Fields.length ≤ 9223372036854775807 := Bd.len (U := UU) (τ := .eVal) (xs := f.Fields) (hb_f _ (by simp))
  clear hp hb
  rw [vc_impl_placeOfTask_1 t f]
  exact Lf_rfl _
def con_impl_placeOfTask : Con UU where
  α := (List DTask) × DFact
  md := [.ro, .ro]
  of := fun | [.one (.sl .eTask a0), .agg [.lit (.string a1), .sl .eVal a2]] => some (a0, ⟨a1, a2⟩) | _ => none
  ds := fun (l, f) => [.one (.sl .eTask l), .agg [.lit (.string f.Kind), .sl .eVal f.Fields]]
  pre := fun (l, f) => []
  res := fun (l, f) => ⟨[.one (.lit (.int .i64 (placeOf l f)))], true, []⟩
  law := by intro l x h; (try simp only at h); split at h <;> cases h; rfl
def ann_impl_placeOfTask : con_impl_placeOfTask.α → Nat → Option (Ann UU) := fun (l, f) => annL []
def use_impl_placeOfTask : List (FuncId × Con UU) := [(154, con_IndexFuncTask), (155, con_impl_placeOfTask_1)]
theorem vc_impl_placeOfTask (l : (List DTask)) (f : DFact) : goal EE use_impl_placeOfTask Go.Proofs.Try.f95 con_impl_placeOfTask ann_impl_placeOfTask (l, f) = ((∀ (j : Nat), j < List.length l → closP con_impl_placeOfTask_1 [DV.ptr [Cell.lit (Value.string (DFact.Kind f)), Cell.sl Cd.eVal (DFact.Fields f)]] [daTask (List.getD l j zTask)] = some (Value.bool (boolOf (closP con_impl_placeOfTask_1 [DV.ptr [Cell.lit (Value.string (DFact.Kind f)), Cell.sl Cd.eVal (DFact.Fields f)]] [daTask (List.getD l j zTask)])))) ∧ Lf [DV.one (Cell.lit (Value.int IntKind.i64 (idxI (List.length l) fun (j : Nat) => boolOf (closP con_impl_placeOfTask_1 [DV.ptr [Cell.lit (Value.string (DFact.Kind f)), Cell.sl Cd.eVal (DFact.Fields f)]] [daTask (List.getD l j zTask)]))))] [DV.one (Cell.lit (Value.int IntKind.i64 (placeOf l f)))]) := by kernel_rfl
theorem ok_impl_placeOfTask : Holds EE (95, con_impl_placeOfTask) := by
  refine holds_of EE_ok Go.Proofs.Try.func95 con_impl_placeOfTask (by kernel_rfl) rfl use_impl_placeOfTask (all_cons ok_IndexFuncTask (all_cons ok_impl_placeOfTask_1 all_nil)) ann_impl_placeOfTask (fun x hp hb => ?_)
  obtain ⟨l, f⟩ := x
  have hb_l : BdDV (U := UU) (.one (.sl .eTask l)) := hb _ (List.mem_cons_self)
  have hl_l : l.length ≤ 9223372036854775807 := Bd.len hb_l
  have hb_f : BdDV (U := UU) (.agg [.lit (.string f.Kind), .sl .eVal f.Fields]) := hb _ (List.mem_cons_of_mem _ (List.mem_cons_self))
  have hl_f_Kind : f.Kind.size ≤ 9223372036854775807 := Bd.str (hb_f _ (by simp))
  have hl_f_Fields : f.Fields.length ≤ 9223372036854775807 := Bd.len (U := UU) (τ := .eVal) (xs := f.Fields) (hb_f _ (by simp))
  clear hp hb
  rw [vc_impl_placeOfTask l f]
  have hc : ∀ x : DTask, closP con_impl_placeOfTask_1 [.ptr [.lit (.string f.Kind), .sl .eVal f.Fields]] [daTask x] = some (.bool (decide (x.F = f))) := fun x => closP_of (x := (x, f)) rfl rfl rfl rfl (by simp [con_impl_placeOfTask_1])
  refine ⟨fun j hj => ?_, Lf_i ?_⟩
  · show closP con_impl_placeOfTask_1 [.ptr [.lit (.string f.Kind), .sl .eVal f.Fields]] [daTask (List.getD l j zTask)] = _
    rw [hc]; rfl
  · exact idxI_congr fun j hj => by
      show boolOf (closP con_impl_placeOfTask_1 [.ptr [.lit (.string f.Kind), .sl .eVal f.Fields]] [daTask (List.getD l j zTask)]) = _
      rw [hc]; rfl
def con_impl_TasksOk : Con UU where
  α := (List DTask)
  md := [.ro]
  of := fun | [.one (.sl .eTask a0)] => some a0 | _ => none
  ds := fun l => [.one (.sl .eTask l)]
  pre := fun l => []
  res := fun l => ⟨[.one (.lit (.bool (tasksOk l)))], true, []⟩
  law := by intro l x h; (try simp only at h); split at h <;> cases h; rfl
def I_impl_TasksOk_4 (l : (List DTask)) : Int × Unit → Prop := fun (i, _) => 0 ≤ i ∧ i ≤ l.length ∧ l.length ≤ 30 ∧ ∀ j : Nat, (j : Int) < i → taskAt l j = true
def μ_impl_TasksOk_4 (l : (List DTask)) : Int × Unit → Nat := fun (i, _) => l.length - i.toNat
def ann_impl_TasksOk : con_impl_TasksOk.α → Nat → Option (Ann UU) := fun l => annL [(4, annOf [.slot 10 (10, 1024) (.lit (.int .i64))] (fun _ => I_impl_TasksOk_4 l) (μ_impl_TasksOk_4 l))]
def use_impl_TasksOk : List (FuncId × Con UU) := [(94, con_impl_taskOk), (95, con_impl_placeOfTask)]
theorem vc_impl_TasksOk (l : (List DTask)) : goal EE use_impl_TasksOk Go.Proofs.Try.f31 con_impl_TasksOk ann_impl_TasksOk l = (bif decide ((↑(List.length l) : Int) > (30 : Int)) then Lf [DV.one (Cell.lit (Value.bool false))] [DV.one (Cell.lit (Value.bool (tasksOk l)))] else I_impl_TasksOk_4 l ((0 : Int), PUnit.unit) ∧ ∀ (y : Int × PUnit), I_impl_TasksOk_4 l y → bif decide (y.1 < (↑(List.length l) : Int)) then (0 : Int) ≤ y.1 ∧ Int.toNat y.1 < List.length l ∧ bif !taskOk (List.getD l (Int.toNat y.1) zTask) then Lf [DV.one (Cell.lit (Value.bool false))] [DV.one (Cell.lit (Value.bool (tasksOk l)))] else bif placeOf l (DTask.F (List.getD l (Int.toNat y.1) zTask)) != y.1 then Lf [DV.one (Cell.lit (Value.bool false))] [DV.one (Cell.lit (Value.bool (tasksOk l)))] else I_impl_TasksOk_4 l (IntKind.wrap IntKind.i64 (y.1 + (1 : Int)), PUnit.unit) ∧ μ_impl_TasksOk_4 l (IntKind.wrap IntKind.i64 (y.1 + (1 : Int)), PUnit.unit) < μ_impl_TasksOk_4 l y else Lf [DV.one (Cell.lit (Value.bool true))] [DV.one (Cell.lit (Value.bool (tasksOk l)))]) := by kernel_rfl
theorem ok_impl_TasksOk : Holds EE (31, con_impl_TasksOk) := by
  refine holds_of EE_ok Go.Proofs.Try.func31 con_impl_TasksOk (by kernel_rfl) rfl use_impl_TasksOk (all_cons ok_impl_taskOk (all_cons ok_impl_placeOfTask all_nil)) ann_impl_TasksOk (fun (l : (List DTask)) hp hb => ?_)
  have hb_l : BdDV (U := UU) (.one (.sl .eTask l)) := hb _ (List.mem_cons_self)
  have hl_l : l.length ≤ 9223372036854775807 := Bd.len hb_l
  clear hp hb
  rw [vc_impl_TasksOk l]
  refine if_cond (fun h => Lf_ff ?_) (fun h => ⟨⟨by omega, by omega, by have h := of_decide_eq_false h; omega, by intro j hj; omega⟩, ?_⟩)
  · have h := of_decide_eq_true h; simp only [tasksOk]; rw [decide_eq_false (by omega)]; rfl
  rintro ⟨i, ⟨⟩⟩ ⟨h1, h2, h3, hR⟩
  simp only
  refine if_cond (fun hc => ?_) (fun hc => ?_)
  · have hc := of_decide_eq_true hc
    have hN : taskAt l i.toNat = false → tasksOk l = false := fun h => by
      have hf : allI l.length (taskAt l) = false := allI_false (j := i.toNat) (by omega) h
      simp only [tasksOk, hf]; simp
    have hpl : (placeOf l (List.getD l i.toNat zTask).F = i) ↔ (anyI i.toNat fun k => decide ((List.getD l k zTask).F = (List.getD l i.toNat zTask).F)) = false := by
      rw [anyI_not]
      unfold placeOf
      rcases idxI_cases l.length (fun k => decide ((List.getD l k zTask).F = (List.getD l i.toNat zTask).F)) with ⟨g1, g2⟩ | ⟨m, g1, g2, g3, g4⟩
      · have := g2 i.toNat (by omega); simp at this
      · rw [g2]
        constructor
        · intro e j hj; exact g4 j (by omega)
        · intro e
          by_cases hm : m < i.toNat
          · have := e m hm; rw [g3] at this; cases this
          · by_cases hm' : i.toNat < m
            · have := g4 i.toNat hm'; simp at this
            · omega
    simp (disch := omega) only [wrap_i64]
    have hm : μ_impl_TasksOk_4 l (i + 1, PUnit.unit) < μ_impl_TasksOk_4 l (i, ()) := by simp only [μ_impl_TasksOk_4]; omega
    refine ⟨by omega, by omega, if_cond (fun h => Lf_ff (hN ?_)) (fun h => if_cond (fun h' => Lf_ff (hN ?_)) (fun h' => ⟨⟨by omega, by omega, h3, upto_step h1 hR ?_⟩, hm⟩))⟩
    · simp only [taskAt]; grind
    · have : ¬ (placeOf l (List.getD l i.toNat zTask).F = i) := by simpa using h'
      rw [hpl] at this
      simp only [taskAt]; grind
    · have : placeOf l (List.getD l i.toNat zTask).F = i := by simpa using h'
      rw [hpl] at this
      simp only [taskAt, this]; grind
  · have hc := of_decide_eq_false hc
    have hA : allI l.length (taskAt l) = true := allI_true fun j hj => hR j (by omega)
    refine Lf_b ?_
    simp only [tasksOk, hA]; grind
def con_spec_TasksOk : Con UU where
  α := (List DTask)
  md := [.ro]
  of := fun | [.one (.sl .eTask a0)] => some a0 | _ => none
  ds := fun l => [.one (.sl .eTask l)]
  pre := fun l => []
  res := fun l => ⟨[.one (.lit (.bool (tasksOk l)))], true, []⟩
  law := by intro l x h; (try simp only at h); split at h <;> cases h; rfl
def I_spec_TasksOk_2 (l : (List DTask)) : Int × Unit → Prop := fun (i, _) => 0 ≤ i ∧ i ≤ l.length ∧ ∀ j : Nat, (j : Int) < i → taskAt l j = true
def μ_spec_TasksOk_2 (l : (List DTask)) : Int × Unit → Nat := fun (i, _) => l.length - i.toNat
def I_spec_TasksOk_7 (l : (List DTask)) : Int × Int × Unit → Int × Int × Unit → Prop := fun (i0, k0, _) (i, k, _) => i = i0 ∧ 0 ≤ k ∧ k ≤ i ∧ ∀ j : Nat, (j : Int) < k → decide ((List.getD l j zTask).F = (List.getD l i.toNat zTask).F) = false
def μ_spec_TasksOk_7 (l : (List DTask)) : Int × Int × Unit → Nat := fun (i, k, _) => i.toNat - k.toNat
def ann_spec_TasksOk : con_spec_TasksOk.α → Nat → Option (Ann UU) := fun l => annL [(2, annOf [.slot 3 (3, 1024) (.lit (.int .i64))] (fun _ => I_spec_TasksOk_2 l) (μ_spec_TasksOk_2 l)), (7, annOf [.slot 3 (3, 1024) (.lit (.int .i64)), .slot 4 (4, 1024) (.lit (.int .i64))] (I_spec_TasksOk_7 l) (μ_spec_TasksOk_7 l))]
def use_spec_TasksOk : List (FuncId × Con UU) := [(92, con_spec_l18Task), (93, con_spec_SameFact)]
theorem vc_spec_TasksOk (l : (List DTask)) : goal EE use_spec_TasksOk Go.Proofs.Try.f30 con_spec_TasksOk ann_spec_TasksOk l = (I_spec_TasksOk_2 l ((0 : Int), PUnit.unit) ∧ ∀ (y : Int × PUnit), I_spec_TasksOk_2 l y → bif decide (y.1 < (↑(List.length l) : Int)) then (0 : Int) ≤ y.1 ∧ Int.toNat y.1 < List.length l ∧ bif !taskOk (List.getD l (Int.toNat y.1) zTask) then Lf [DV.one (Cell.lit (Value.bool false))] [DV.one (Cell.lit (Value.bool (tasksOk l)))] else I_spec_TasksOk_7 l (y.1, (0 : Int), PUnit.unit) (y.1, (0 : Int), PUnit.unit) ∧ ∀ (y_1 : Int × Int × PUnit), I_spec_TasksOk_7 l (y.1, (0 : Int), PUnit.unit) y_1 → bif decide (y_1.2.1 < y_1.1) then (0 : Int) ≤ y_1.1 ∧ Int.toNat y_1.1 < List.length l ∧ (0 : Int) ≤ y_1.2.1 ∧ Int.toNat y_1.2.1 < List.length l ∧ bif decide (DTask.F (List.getD l (Int.toNat y_1.1) zTask) = DTask.F (List.getD l (Int.toNat y_1.2.1) zTask)) then Lf [DV.one (Cell.lit (Value.bool false))] [DV.one (Cell.lit (Value.bool (tasksOk l)))] else I_spec_TasksOk_7 l (y.1, (0 : Int), PUnit.unit) (y_1.1, IntKind.wrap IntKind.i64 (y_1.2.1 + (1 : Int)), PUnit.unit) ∧ μ_spec_TasksOk_7 l (y_1.1, IntKind.wrap IntKind.i64 (y_1.2.1 + (1 : Int)), PUnit.unit) < μ_spec_TasksOk_7 l y_1 else I_spec_TasksOk_2 l (IntKind.wrap IntKind.i64 (y_1.1 + (1 : Int)), PUnit.unit) ∧ μ_spec_TasksOk_2 l (IntKind.wrap IntKind.i64 (y_1.1 + (1 : Int)), PUnit.unit) < μ_spec_TasksOk_2 l y else Lf [DV.one (Cell.lit (Value.bool (decide ((↑(List.length l) : Int) ≤ (30 : Int)))))] [DV.one (Cell.lit (Value.bool (tasksOk l)))]) := by kernel_rfl
theorem ok_spec_TasksOk : Holds EE (30, con_spec_TasksOk) := by
  refine holds_of EE_ok Go.Proofs.Try.func30 con_spec_TasksOk (by kernel_rfl) rfl use_spec_TasksOk (all_cons ok_spec_l18Task (all_cons ok_spec_SameFact all_nil)) ann_spec_TasksOk (fun (l : (List DTask)) hp hb => ?_)
  have hb_l : BdDV (U := UU) (.one (.sl .eTask l)) := hb _ (List.mem_cons_self)
  have hl_l : l.length ≤ 9223372036854775807 := Bd.len hb_l
  clear hp hb
  rw [vc_spec_TasksOk l]
  refine ⟨⟨by omega, by omega, by intro j hj; omega⟩, ?_⟩
  rintro ⟨i, ⟨⟩⟩ ⟨h1, h2, hR⟩
  simp only
  refine if_cond (fun hc => ?_) (fun hc => ?_)
  · have hc := of_decide_eq_true hc
    have hN : taskAt l i.toNat = false → tasksOk l = false := fun h => by
      have hf : allI l.length (taskAt l) = false := allI_false (j := i.toNat) (by omega) h
      simp only [tasksOk, hf]; simp
    have hm : μ_spec_TasksOk_2 l (i + 1, PUnit.unit) < μ_spec_TasksOk_2 l (i, ()) := by simp only [μ_spec_TasksOk_2]; omega
    refine ⟨by omega, by omega, if_cond (fun h => Lf_ff (hN ?_)) (fun h => ⟨⟨rfl, by omega, by omega, by intro j hj; omega⟩, ?_⟩)⟩
    · simp only [taskAt]; grind
    rintro ⟨i, k, ⟨⟩⟩ ⟨rfl, g1, g2, gR⟩
    simp only
    refine if_cond (fun hk => ?_) (fun hk => ?_)
    · have hk := of_decide_eq_true hk
      simp (disch := omega) only [wrap_i64]
      refine ⟨by omega, by omega, by omega, by omega, if_cond (fun h'' => Lf_ff (hN ?_)) (fun h'' => ⟨⟨rfl, by omega, by omega, upto_no g1 gR ?_⟩, by simp only [μ_spec_TasksOk_7]; omega⟩)⟩
      · have ha : (anyI i.toNat fun k => decide ((List.getD l k zTask).F = (List.getD l i.toNat zTask).F)) = true := anyI_true (j := k.toNat) (by omega) (by grind)
        simp only [taskAt, ha]; simp
      · grind
    · have hk := of_decide_eq_false hk
      simp (disch := omega) only [wrap_i64]
      refine ⟨⟨by omega, by omega, upto_step h1 hR ?_⟩, hm⟩
      have ha : (anyI i.toNat fun k => decide ((List.getD l k zTask).F = (List.getD l i.toNat zTask).F)) = false := anyI_false fun j hj => gR j (by omega)
      simp only [taskAt, ha]; grind
  · have hc := of_decide_eq_false hc
    have hA : allI l.length (taskAt l) = true := allI_true fun j hj => hR j (by omega)
    refine Lf_b ?_
    simp only [tasksOk, hA]; grind
def con_laws_FnExactTasksOk : Con UU where
  α := (List DTask)
  md := [.ro]
  of := fun | [.one (.sl .lTask a0)] => some a0 | _ => none
  ds := fun aL => [.one (.sl .lTask aL)]
  pre := fun aL => []
  res := fun aL => ⟨[.one (.lit (.bool true))], true, []⟩
  law := by intro l x h; (try simp only at h); split at h <;> cases h; rfl
def ann_laws_FnExactTasksOk : con_laws_FnExactTasksOk.α → Nat → Option (Ann UU) := fun aL => annL []
def use_laws_FnExactTasksOk : List (FuncId × Con UU) := [(23, con_laws_szTaskS), (25, con_laws_toTaskS), (30, con_spec_TasksOk), (31, con_impl_TasksOk), (27, con_laws_eqTaskS)]
theorem vc_laws_FnExactTasksOk (aL : (List DTask)) : goal EE use_laws_FnExactTasksOk Go.Proofs.Try.f6 con_laws_FnExactTasksOk ann_laws_FnExactTasksOk aL = ((0 : Int) ≤ (1048576 : Int) ∧ bif decide (szr (1048576 : Int) (sizeTaskS aL) < (0 : Int)) then Lf [DV.one (Cell.lit (Value.bool true))] [DV.one (Cell.lit (Value.bool true))] else sizeTaskS aL ≤ (4294967296 : Nat) ∧ sizeTaskS aL ≤ (4294967296 : Nat) ∧ bif !tasksOk aL == tasksOk aL then Lf [DV.one (Cell.lit (Value.bool false))] [DV.one (Cell.lit (Value.bool true))] else sizeTaskS aL ≤ (4294967296 : Nat) ∧ bif !decide (aL = aL) then Lf [DV.one (Cell.lit (Value.bool false))] [DV.one (Cell.lit (Value.bool true))] else Lf [DV.one (Cell.lit (Value.bool true))] [DV.one (Cell.lit (Value.bool true))]) := by kernel_rfl
theorem ok_laws_FnExactTasksOk : Holds EE (6, con_laws_FnExactTasksOk) := by
  refine holds_of EE_ok Go.Proofs.Try.func6 con_laws_FnExactTasksOk (by kernel_rfl) rfl use_laws_FnExactTasksOk (all_cons ok_laws_szTaskS (all_cons ok_laws_toTaskS (all_cons ok_spec_TasksOk (all_cons ok_impl_TasksOk (all_cons ok_laws_eqTaskS all_nil))))) ann_laws_FnExactTasksOk (fun (aL : (List DTask)) hp hb => ?_)
  have hb_aL : BdDV (U := UU) (.one (.sl .lTask aL)) := hb _ (List.mem_cons_self)
  have hl_aL : aL.length ≤ 9223372036854775807 := Bd.len hb_aL
  clear hp hb
  rw [vc_laws_FnExactTasksOk aL]
  refine ⟨by omega, if_cond (fun h => Lf_rfl _) (fun h => ?_)⟩
  obtain ⟨e0, h0⟩ := szr_pos h
  repeat' (first | exact Lf_rfl _ | refine And.intro (by omega) ?_ | refine if_cond (fun h => absurd h (by simp)) (fun h => ?_) | fail)
end
end AM
