/- Sizes and marks of the data, as the laws count them: written by gen/models.py. -/
import Derived.Test.YtmoijfaceanakaaAmLib
namespace AM
open Go
set_option linter.unusedVariables false
set_option linter.unusedSimpArgs false
noncomputable section
instance : DecidableEq DVal := fun _ _ => Classical.propDecidable _
instance : DecidableEq DFact := fun _ _ => Classical.propDecidable _
instance : DecidableEq DItem := fun _ _ => Classical.propDecidable _
instance : DecidableEq DStore := fun _ _ => Classical.propDecidable _
instance : DecidableEq DToken := fun _ _ => Classical.propDecidable _
instance : DecidableEq DArg := fun _ _ => Classical.propDecidable _
instance : DecidableEq DPat := fun _ _ => Classical.propDecidable _
instance : DecidableEq DBind := fun _ _ => Classical.propDecidable _
instance : DecidableEq DCond := fun _ _ => Classical.propDecidable _
instance : DecidableEq DExpr := fun _ _ => Classical.propDecidable _
instance : DecidableEq DAct := fun _ _ => Classical.propDecidable _
instance : DecidableEq DRule := fun _ _ => Classical.propDecidable _
instance : DecidableEq DDef := fun _ _ => Classical.propDecidable _
instance : DecidableEq DMatch := fun _ _ => Classical.propDecidable _
instance : DecidableEq DAlpha := fun _ _ => Classical.propDecidable _
instance : DecidableEq DChain := fun _ _ => Classical.propDecidable _
instance : DecidableEq DNet := fun _ _ => Classical.propDecidable _
instance : DecidableEq DIds := fun _ _ => Classical.propDecidable _
instance : DecidableEq DTok := fun _ _ => Classical.propDecidable _
instance : DecidableEq DLevel := fun _ _ => Classical.propDecidable _
instance : DecidableEq DRow := fun _ _ => Classical.propDecidable _
instance : DecidableEq DMem := fun _ _ => Classical.propDecidable _
instance : DecidableEq DEffect := fun _ _ => Classical.propDecidable _
instance : DecidableEq DTimer := fun _ _ => Classical.propDecidable _
instance : DecidableEq DTask := fun _ _ => Classical.propDecidable _
instance : DecidableEq DCall := fun _ _ => Classical.propDecidable _
instance : DecidableEq DUndo := fun _ _ => Classical.propDecidable _
instance : DecidableEq DInst := fun _ _ => Classical.propDecidable _
instance : DecidableEq DRun := fun _ _ => Classical.propDecidable _
instance : DecidableEq DOp := fun _ _ => Classical.propDecidable _
instance : DecidableEq DWork := fun _ _ => Classical.propDecidable _
instance : DecidableEq DBook := fun _ _ => Classical.propDecidable _
instance : DecidableEq DSent := fun _ _ => Classical.propDecidable _
def mtl : Nat → Nat → List UInt8 → List UInt8
  | 0, _, acc => acc
  | d + 1, k, acc => if k = 0 then acc else mtl d (k / 10) ((UInt8.ofNat (48 + k % 10)) :: acc)
/-- A mark's text. -/
def markText (k : Int) : ByteArray := if k ≤ 0 then ⟨#[109, 48]⟩ else ⟨(109 :: mtl k.toNat k.toNat []).toArray⟩
def markBool (k : Int) : Bool := decide (k % 3 = 0)
def markByte (k : Int) : Int := IntKind.wrap .u8 k
def mkS {α : Type} (f : α → Int → α) (c : α → Nat) : List α → Int → List α
  | [], _ => []
  | x :: r, k => f x k :: mkS f c r (k + c x)
def ctS {α : Type} (c : α → Nat) (l : List α) : Nat := (l.map c).sum
theorem mkS_len {α : Type} (f : α → Int → α) (c : α → Nat) : ∀ (l : List α) (k : Int), (mkS f c l k).length = l.length
  | [], _ => rfl
  | x :: r, k => by simp [mkS, mkS_len f c r]
theorem mkS_ct {α : Type} {f : α → Int → α} {c : α → Nat} (h : ∀ x k, c (f x k) = c x) : ∀ (l : List α) (k : Int), ctS c (mkS f c l k) = ctS c l
  | [], _ => rfl
  | x :: r, k => by have := mkS_ct h r (k + c x); simp only [ctS, mkS, List.map_cons, List.sum_cons, h] at *; omega
theorem mkS_idem {α : Type} {f : α → Int → α} {c : α → Nat} (h : ∀ x k, c (f x k) = c x) (h' : ∀ x k, f (f x k) k = f x k) : ∀ (l : List α) (k : Int), mkS f c (mkS f c l k) k = mkS f c l k
  | [], _ => rfl
  | x :: r, k => by simp only [mkS, h, h', mkS_idem h h' r]
theorem ctS_cons {α : Type} (c : α → Nat) (x : α) (l : List α) : ctS c (x :: l) = c x + ctS c l := by simp [ctS]
theorem ctS_nil {α : Type} (c : α → Nat) : ctS c [] = 0 := rfl
theorem ctS_append {α : Type} (c : α → Nat) (l m : List α) : ctS c (l ++ m) = ctS c l + ctS c m := by simp [ctS]
theorem ctS_le {α : Type} {c s : α → Nat} (h : ∀ x, c x ≤ 20 * s x + 20) : ∀ l : List α, ctS c l ≤ 20 * (l.length + (l.map s).sum)
  | [] => Nat.le_refl _
  | x :: r => by have := ctS_le h r; have := h x; simp only [ctS, List.map_cons, List.sum_cons, List.length_cons] at *; omega
theorem ctS_take {α : Type} (c : α → Nat) (l : List α) (z : α) {i : Int} (h0 : 0 ≤ i) (h : i < l.length) : ctS c (l.take (i + 1).toNat) = ctS c (l.take i.toNat) + c (List.getD l i.toNat z) := by
  have hn : i.toNat < l.length := by omega
  have e : (i + 1).toNat = i.toNat + 1 := by omega
  rw [e, List.take_succ_eq_append_getElem hn, ctS_append, List.getD_eq_getElem?_getD, List.getElem?_eq_getElem hn]
  simp [ctS]
theorem ctS_take_le {α : Type} (c : α → Nat) (l : List α) (n : Nat) : ctS c (l.take n) ≤ ctS c l := by
  have h := ctS_append c (l.take n) (l.drop n)
  rw [List.take_append_drop] at h
  omega
theorem mkS_append {α : Type} (f : α → Int → α) (c : α → Nat) : ∀ (l m : List α) (k : Int), mkS f c (l ++ m) k = mkS f c l k ++ mkS f c m (k + ctS c l)
  | [], m, k => by simp [mkS, ctS]
  | x :: r, m, k => by simp only [List.cons_append, mkS, mkS_append f c r m, ctS_cons]; congr 3; omega
/-- One step of marking a row in its place. -/
theorem mkS_step {α : Type} (f : α → Int → α) (c : α → Nat) (l : List α) (z : α) (k : Int) {i : Int} (h0 : 0 ≤ i) (h : i < l.length) :
    ((mkS f c l k).take i.toNat ++ l.drop i.toNat).set i.toNat (f (List.getD l i.toNat z) (k + ctS c (l.take i.toNat))) = (mkS f c l k).take (i + 1).toNat ++ l.drop (i + 1).toNat := by
  have hn : i.toNat < l.length := by omega
  have e : (i + 1).toNat = i.toNat + 1 := by omega
  have hl : ((mkS f c l k).take i.toNat).length = i.toNat := by rw [List.length_take, mkS_len]; omega
  have hm : (mkS f c l k)[i.toNat]? = some (f (List.getD l i.toNat z) (k + ctS c (l.take i.toNat))) := by
    have h1 : l = l.take i.toNat ++ List.getD l i.toNat z :: l.drop (i + 1).toNat := by rw [← drop_step l z h0 h, List.take_append_drop]
    have h2 := congrArg (fun q => (mkS f c q k)[i.toNat]?) h1
    simp only [mkS_append, mkS] at h2
    rw [h2, List.getElem?_append_right (by rw [mkS_len, List.length_take]; omega), mkS_len]
    have : i.toNat - (l.take i.toNat).length = 0 := by simp; omega
    rw [this]; rfl
  have hm' : i.toNat < (mkS f c l k).length := by rw [mkS_len]; exact hn
  rw [List.getElem?_eq_getElem hm', Option.some.injEq] at hm
  rw [drop_step l z h0 h, List.set_append_right _ _ (by rw [hl]; exact Nat.le_refl _), hl, Nat.sub_self, List.set_cons_zero, e, List.take_succ_eq_append_getElem hm', hm, List.append_assoc]
  rfl
theorem mk_getD {α : Type} (p : List α) (l : List α) (z : α) {i : Int} (hp : p.length = i.toNat) (h0 : 0 ≤ i) (h : i < l.length) : List.getD (p ++ l.drop i.toNat) i.toNat z = List.getD l i.toNat z := by
  rw [List.getD_eq_getElem?_getD, List.getD_eq_getElem?_getD, List.getElem?_append_right (by omega), hp, Nat.sub_self, List.getElem?_drop, Nat.add_zero]
theorem sum_getD_le {α : Type} (f : α → Nat) (l : List α) (z : α) {i : Int} (h0 : 0 ≤ i) (h : i < l.length) : f (List.getD l i.toNat z) ≤ (l.map f).sum := by
  have h1 : l = l.take i.toNat ++ List.getD l i.toNat z :: l.drop (i + 1).toNat := by rw [← drop_step l z h0 h, List.take_append_drop]
  have h2 := congrArg (fun q => (q.map f).sum) h1
  simp only [List.map_append, List.map_cons, List.sum_append, List.sum_cons] at h2
  omega
theorem getD_modify {α : Type} (l : List α) (z : α) (f : α → α) (i : Nat) (h : i < l.length) : List.getD (l.modify i f) i z = f (List.getD l i z) := by
  rw [List.getD_eq_getElem?_getD, List.getD_eq_getElem?_getD, List.getElem?_modify, List.getElem?_eq_getElem h]; simp
theorem modify_modify {α : Type} (l : List α) (f g : α → α) (i : Nat) : (l.modify i f).modify i g = l.modify i (fun x => g (f x)) := List.modify_modify_eq f g i l
theorem modify_set {α : Type} (l : List α) (z : α) (f : α → α) (i : Nat) : l.modify i f = l.set i (f (List.getD l i z)) := by
  refine List.ext_getElem? fun j => ?_
  rw [List.getElem?_modify, List.getElem?_set]
  by_cases hj : i = j
  · subst hj
    rw [if_pos rfl]
    by_cases hi : i < l.length
    · rw [if_pos hi, List.getElem?_eq_getElem hi, List.getD_eq_getElem?_getD, List.getElem?_eq_getElem hi]; simp
    · rw [if_neg hi, List.getElem?_eq_none (by omega)]; rfl
  · rw [if_neg hj]; simp [hj]
theorem mk_tl {α : Type} (f : α → Int → α) (c : α → Nat) (l : List α) (k : Int) {i : Int} (h0 : 0 ≤ i) (h : i ≤ l.length) : ((mkS f c l k).take i.toNat).length = i.toNat := by rw [List.length_take, mkS_len]; omega
theorem mk_rl {α : Type} (f : α → Int → α) (c : α → Nat) (l : List α) (k : Int) {i : Int} (h0 : 0 ≤ i) (h : i ≤ l.length) : ((mkS f c l k).take i.toNat ++ l.drop i.toNat).length = l.length := by rw [List.length_append, mk_tl f c l k h0 h, List.length_drop]; omega
theorem mkS_mod {α : Type} (f : α → Int → α) (c : α → Nat) (l : List α) (z : α) (k : Int) {i : Int} (F : α → α) (h0 : 0 ≤ i) (h : i < l.length) (hF : F (List.getD l i.toNat z) = f (List.getD l i.toNat z) (k + ctS c (l.take i.toNat))) :
    ((mkS f c l k).take i.toNat ++ l.drop i.toNat).modify i.toNat F = (mkS f c l k).take (i + 1).toNat ++ l.drop (i + 1).toNat := by
  rw [modify_set _ z, mk_getD _ l z (mk_tl f c l k h0 (by omega)) h0 h, hF]
  exact mkS_step f c l z k h0 h
theorem mk_done {α : Type} (f : α → Int → α) (c : α → Nat) (l : List α) (k : Int) {i : Int} (h : l.length ≤ i) : (mkS f c l k).take i.toNat ++ l.drop i.toNat = mkS f c l k := by
  rw [List.drop_eq_nil_of_le (by omega), List.append_nil, List.take_of_length_le (by rw [mkS_len]; omega)]
theorem ct_done {α : Type} (c : α → Nat) (l : List α) {i : Int} (h : l.length ≤ i) : ctS c (l.take i.toNat) = ctS c l := by rw [List.take_of_length_le (by omega)]
theorem Lf_no {p : Prop} [Decidable p] {n : Int} (h : ¬p) : Lf [.one (.lit (.int .i64 (-1)))] [.one (.lit (.int .i64 (if p then n else -1)))] := by rw [if_neg h]; exact Lf_rfl _
theorem Lf_yes {p : Prop} [Decidable p] {m n : Int} (h : p) (e : m = n) : Lf [.one (.lit (.int .i64 m))] [.one (.lit (.int .i64 (if p then n else -1)))] := by rw [if_pos h, e]; exact Lf_rfl _
theorem bne_int {a b : Int} : (a != b) = !decide (a = b) := by by_cases h : a = b <;> simp [h, bne]
theorem mtl_zero (d : Nat) (acc : List UInt8) : mtl d 0 acc = acc := by cases d <;> simp [mtl]
theorem all_step {α : Type} (p : α → Bool) (l : List α) (z : α) {i : Int} (h0 : 0 ≤ i) (h : i < l.length) : (l.drop i.toNat).all p = (p (List.getD l i.toNat z) && (l.drop (i + 1).toNat).all p) := by
  rw [drop_step l z h0 h, List.all_cons]
theorem any_step {α : Type} (p : α → Bool) (l : List α) (z : α) {i : Int} (h0 : 0 ≤ i) (h : i < l.length) : (l.drop i.toNat).any p = (p (List.getD l i.toNat z) || (l.drop (i + 1).toNat).any p) := by
  rw [drop_step l z h0 h, List.any_cons]
/-- A text's bytes. -/
def bs (s : ByteArray) : List UInt8 := s.data.toList
theorem bs_len (s : ByteArray) : (bs s).length = s.size := Array.length_toList
theorem bs_eq (s : ByteArray) : Array.toList (ByteArray.data s) = bs s := rfl
def byteP (p : Int → Bool) (b : UInt8) : Bool := p b.toNat
theorem u8_i64 (b : UInt8) : IntKind.wrap .i64 (b.toNat : Int) = b.toNat := wrap_i64 (by omega) (by have := b.toNat_lt; omega)
theorem Lf_tt {y : Bool} (h : y = true) : Lf [.one (.lit (.bool true))] [.one (.lit (.bool y))] := Lf_b h.symm
theorem Lf_ff {y : Bool} (h : y = false) : Lf [.one (.lit (.bool false))] [.one (.lit (.bool y))] := Lf_b h.symm
theorem take_step {α : Type} (l : List α) (z : α) {i : Int} (h0 : 0 ≤ i) (h : i < l.length) : l.take i.toNat ++ [List.getD l i.toNat z] = l.take (i + 1).toNat := by
  have hn : i.toNat < l.length := by omega
  have e : (i + 1).toNat = i.toNat + 1 := by omega
  rw [e, List.take_succ_eq_append_getElem hn, List.getD_eq_getElem?_getD, List.getElem?_eq_getElem hn]
  rfl
theorem take_all {α : Type} (l : List α) {i : Int} (h : l.length ≤ i) : l.take i.toNat = l := List.take_of_length_le (by omega)
theorem getD_mem {α : Type} (l : List α) (z : α) {i : Int} (h0 : 0 ≤ i) (h : i < l.length) : List.getD l i.toNat z ∈ l := by
  have hn : i.toNat < l.length := by omega
  rw [List.getD_eq_getElem?_getD, List.getElem?_eq_getElem hn]
  exact List.getElem_mem hn
theorem szr_neg {a : Int} {n : Nat} (h : decide (szr a n < 0) = true) : a < n := by
  have h := of_decide_eq_true h
  unfold szr at h; split at h <;> omega
theorem szr_pos {a : Int} {n : Nat} (h : decide (szr a n < 0) = false) : szr a n = a - n ∧ (n : Int) ≤ a := by
  have h := of_decide_eq_false h
  unfold szr at h ⊢; split at h
  · rename_i g; rw [if_pos g]; exact ⟨rfl, g⟩
  · omega
theorem szr_bad' {a : Int} {n : Nat} (h : a < n) : -1 = szr a n := by simp only [szr]; rw [if_neg (by omega)]
theorem szr_ok' {a : Int} {n : Nat} (h : (n : Int) ≤ a) : a - n = szr a n := by simp only [szr]; rw [if_pos h]

def sizeIntS (l : List Int) : Nat := l.length
def sizeByteS (l : List Int) : Nat := l.length
def sizeStringS (l : List ByteArray) : Nat := l.length + (l.map ByteArray.size).sum
def markIntS : List Int → Int → List Int := mkS (fun _ k => k) (fun _ => 1)
def cntIntS (l : List Int) : Nat := ctS (fun _ => 1) l
def markByteS : List Int → Int → List Int := mkS (fun _ k => markByte k) (fun _ => 1)
def cntByteS (l : List Int) : Nat := ctS (fun _ => 1) l
def markStringS : List ByteArray → Int → List ByteArray := mkS (fun _ k => markText k) (fun _ => 1)
def cntStringS (l : List ByteArray) : Nat := ctS (fun _ => 1) l
theorem markIntS_ct (l : List Int) (k : Int) : cntIntS (markIntS l k) = cntIntS l := mkS_ct (c := fun _ => 1) (fun _ _ => rfl) l k
theorem markIntS_idem (l : List Int) (k : Int) : markIntS (markIntS l k) k = markIntS l k := mkS_idem (f := fun _ k => k) (c := fun _ => 1) (fun _ _ => rfl) (fun _ _ => rfl) l k
theorem markByteS_ct (l : List Int) (k : Int) : cntByteS (markByteS l k) = cntByteS l := mkS_ct (c := fun _ => 1) (fun _ _ => rfl) l k
theorem markByteS_idem (l : List Int) (k : Int) : markByteS (markByteS l k) k = markByteS l k := mkS_idem (f := fun _ k => markByte k) (c := fun _ => 1) (fun _ _ => rfl) (fun _ _ => rfl) l k
theorem markStringS_ct (l : List ByteArray) (k : Int) : cntStringS (markStringS l k) = cntStringS l := mkS_ct (c := fun _ => 1) (fun _ _ => rfl) l k
theorem markStringS_idem (l : List ByteArray) (k : Int) : markStringS (markStringS l k) k = markStringS l k := mkS_idem (f := fun _ k => markText k) (c := fun _ => 1) (fun _ _ => rfl) (fun _ _ => rfl) l k
theorem ctS_one {α : Type} : ∀ l : List α, ctS (fun _ => 1) l = l.length
  | [] => rfl
  | x :: r => by rw [ctS_cons, ctS_one r, List.length_cons]; omega
theorem cntIntS_le (l : List Int) : cntIntS l ≤ 20 * sizeIntS l := by simp only [cntIntS, sizeIntS, ctS_one]; omega
theorem cntByteS_le (l : List Int) : cntByteS l ≤ 20 * sizeByteS l := cntIntS_le l
theorem cntStringS_le (l : List ByteArray) : cntStringS l ≤ 20 * sizeStringS l := ctS_le (fun _ => by omega) l
def sizeVal (a : DVal) : Nat := a.S.size
def sizeValS (l : List DVal) : Nat := l.length + (l.map sizeVal).sum
def markVal (a : DVal) (k : Int) : DVal := ⟨k, (k + 1), markText (k + 1 + 1)⟩
def cntVal (a : DVal) : Nat := 1 + 1 + 1
def markValS : List DVal → Int → List DVal := mkS markVal cntVal
def cntValS (l : List DVal) : Nat := ctS cntVal l
theorem markVal_ct (a : DVal) (k : Int) : cntVal (markVal a k) = cntVal a := by simp only [cntVal, markVal]
theorem markVal_idem (a : DVal) (k : Int) : markVal (markVal a k) k = markVal a k := by simp only [markVal]
theorem cntVal_le (a : DVal) : cntVal a ≤ 20 * sizeVal a + 20 := by simp only [cntVal, sizeVal]; omega
theorem markValS_ct (l : List DVal) (k : Int) : cntValS (markValS l k) = cntValS l := mkS_ct markVal_ct l k
theorem markValS_idem (l : List DVal) (k : Int) : markValS (markValS l k) k = markValS l k := mkS_idem markVal_ct markVal_idem l k
theorem cntValS_le (l : List DVal) : cntValS l ≤ 20 * sizeValS l := ctS_le cntVal_le l
def sizeFact (a : DFact) : Nat := a.Kind.size + sizeValS a.Fields
def sizeFactS (l : List DFact) : Nat := l.length + (l.map sizeFact).sum
def markFact (a : DFact) (k : Int) : DFact := ⟨markText k, markValS a.Fields (k + 1)⟩
def cntFact (a : DFact) : Nat := 1 + cntValS a.Fields
def markFactS : List DFact → Int → List DFact := mkS markFact cntFact
def cntFactS (l : List DFact) : Nat := ctS cntFact l
theorem markFact_ct (a : DFact) (k : Int) : cntFact (markFact a k) = cntFact a := by simp only [cntFact, markFact, markValS_ct]
theorem markFact_idem (a : DFact) (k : Int) : markFact (markFact a k) k = markFact a k := by simp only [markFact, markValS_ct, markValS_idem]
theorem cntFact_le (a : DFact) : cntFact a ≤ 20 * sizeFact a + 20 := by have := cntValS_le a.Fields; simp only [cntFact, sizeFact]; omega
theorem markFactS_ct (l : List DFact) (k : Int) : cntFactS (markFactS l k) = cntFactS l := mkS_ct markFact_ct l k
theorem markFactS_idem (l : List DFact) (k : Int) : markFactS (markFactS l k) k = markFactS l k := mkS_idem markFact_ct markFact_idem l k
theorem cntFactS_le (l : List DFact) : cntFactS l ≤ 20 * sizeFactS l := ctS_le cntFact_le l
def mkFact (a : DFact) (k : Int) : DFact := ⟨a.Kind, markValS a.Fields k⟩
def ctFact (a : DFact) : Nat := cntValS a.Fields
theorem mkFact_eta (a : DFact) (k : Int) : (⟨a.Kind, (mkFact a k).Fields⟩ : DFact) = mkFact a k := rfl
theorem mkFact_ct (a : DFact) (k : Int) : ctFact (mkFact a k) = ctFact a := by simp only [ctFact, mkFact, markValS_ct]
theorem mkFact_idem (a : DFact) (k : Int) : mkFact (mkFact a k) k = mkFact a k := by simp only [mkFact, markValS_ct, markValS_idem]
theorem ctFact_le (a : DFact) : ctFact a ≤ 20 * sizeFact a := by have := cntValS_le a.Fields; simp only [ctFact, sizeFact]; omega
def sizeItem (a : DItem) : Nat := sizeFact a.F
def sizeItemS (l : List DItem) : Nat := l.length + (l.map sizeItem).sum
def markItem (a : DItem) (k : Int) : DItem := ⟨k, ⟨markText (k + 1), markValS a.F.Fields (k + 1 + 1)⟩⟩
def cntItem (a : DItem) : Nat := 1 + 1 + cntValS a.F.Fields
def markItemS : List DItem → Int → List DItem := mkS markItem cntItem
def cntItemS (l : List DItem) : Nat := ctS cntItem l
theorem markItem_ct (a : DItem) (k : Int) : cntItem (markItem a k) = cntItem a := by simp only [cntItem, markItem, markValS_ct]
theorem markItem_idem (a : DItem) (k : Int) : markItem (markItem a k) k = markItem a k := by simp only [markItem, markValS_ct, markValS_idem]
theorem cntItem_le (a : DItem) : cntItem a ≤ 20 * sizeItem a + 20 := by have := cntValS_le a.F.Fields; simp only [cntItem, sizeFact, sizeItem]; omega
theorem markItemS_ct (l : List DItem) (k : Int) : cntItemS (markItemS l k) = cntItemS l := mkS_ct markItem_ct l k
theorem markItemS_idem (l : List DItem) (k : Int) : markItemS (markItemS l k) k = markItemS l k := mkS_idem markItem_ct markItem_idem l k
theorem cntItemS_le (l : List DItem) : cntItemS l ≤ 20 * sizeItemS l := ctS_le cntItem_le l
def mkItem (a : DItem) (k : Int) : DItem := ⟨a.Id, mkFact a.F k⟩
def ctItem (a : DItem) : Nat := ctFact a.F
theorem mkItem_eta (a : DItem) (k : Int) : (⟨a.Id, ⟨a.F.Kind, (mkItem a k).F.Fields⟩⟩ : DItem) = mkItem a k := rfl
theorem mkItem_ct (a : DItem) (k : Int) : ctItem (mkItem a k) = ctItem a := by simp only [ctItem, mkItem, mkFact_ct]
theorem mkItem_idem (a : DItem) (k : Int) : mkItem (mkItem a k) k = mkItem a k := by simp only [mkItem, mkFact_ct, mkFact_idem]
theorem ctItem_le (a : DItem) : ctItem a ≤ 20 * sizeItem a := by have := ctFact_le a.F; simp only [ctItem, sizeItem]; omega
def sizeStore (a : DStore) : Nat := sizeItemS a.Items
def sizeStoreS (l : List DStore) : Nat := l.length + (l.map sizeStore).sum
def markStore (a : DStore) (k : Int) : DStore := ⟨markItemS a.Items k, (k + cntItemS a.Items)⟩
def cntStore (a : DStore) : Nat := cntItemS a.Items + 1
def markStoreS : List DStore → Int → List DStore := mkS markStore cntStore
def cntStoreS (l : List DStore) : Nat := ctS cntStore l
theorem markStore_ct (a : DStore) (k : Int) : cntStore (markStore a k) = cntStore a := by simp only [cntStore, markStore, markItemS_ct]
theorem markStore_idem (a : DStore) (k : Int) : markStore (markStore a k) k = markStore a k := by simp only [markStore, markItemS_ct, markItemS_idem]
theorem cntStore_le (a : DStore) : cntStore a ≤ 20 * sizeStore a + 20 := by have := cntItemS_le a.Items; simp only [cntStore, sizeStore]; omega
theorem markStoreS_ct (l : List DStore) (k : Int) : cntStoreS (markStoreS l k) = cntStoreS l := mkS_ct markStore_ct l k
theorem markStoreS_idem (l : List DStore) (k : Int) : markStoreS (markStoreS l k) k = markStoreS l k := mkS_idem markStore_ct markStore_idem l k
theorem cntStoreS_le (l : List DStore) : cntStoreS l ≤ 20 * sizeStoreS l := ctS_le cntStore_le l
def mkStore (a : DStore) (k : Int) : DStore := ⟨markItemS a.Items k, a.Next⟩
def ctStore (a : DStore) : Nat := cntItemS a.Items
theorem mkStore_eta (a : DStore) (k : Int) : (⟨(mkStore a k).Items, a.Next⟩ : DStore) = mkStore a k := rfl
theorem mkStore_ct (a : DStore) (k : Int) : ctStore (mkStore a k) = ctStore a := by simp only [ctStore, mkStore, markItemS_ct]
theorem mkStore_idem (a : DStore) (k : Int) : mkStore (mkStore a k) k = mkStore a k := by simp only [mkStore, markItemS_ct, markItemS_idem]
theorem ctStore_le (a : DStore) : ctStore a ≤ 20 * sizeStore a := by have := cntItemS_le a.Items; simp only [ctStore, sizeStore]; omega
def sizeToken (a : DToken) : Nat := a.S.size
def sizeTokenS (l : List DToken) : Nat := l.length + (l.map sizeToken).sum
def markToken (a : DToken) (k : Int) : DToken := ⟨k, (k + 1), markText (k + 1 + 1)⟩
def cntToken (a : DToken) : Nat := 1 + 1 + 1
def markTokenS : List DToken → Int → List DToken := mkS markToken cntToken
def cntTokenS (l : List DToken) : Nat := ctS cntToken l
theorem markToken_ct (a : DToken) (k : Int) : cntToken (markToken a k) = cntToken a := by simp only [cntToken, markToken]
theorem markToken_idem (a : DToken) (k : Int) : markToken (markToken a k) k = markToken a k := by simp only [markToken]
theorem cntToken_le (a : DToken) : cntToken a ≤ 20 * sizeToken a + 20 := by simp only [cntToken, sizeToken]; omega
theorem markTokenS_ct (l : List DToken) (k : Int) : cntTokenS (markTokenS l k) = cntTokenS l := mkS_ct markToken_ct l k
theorem markTokenS_idem (l : List DToken) (k : Int) : markTokenS (markTokenS l k) k = markTokenS l k := mkS_idem markToken_ct markToken_idem l k
theorem cntTokenS_le (l : List DToken) : cntTokenS l ≤ 20 * sizeTokenS l := ctS_le cntToken_le l
def sizeArg (a : DArg) : Nat := a.S.size + sizeVal a.V
def sizeArgS (l : List DArg) : Nat := l.length + (l.map sizeArg).sum
def markArg (a : DArg) (k : Int) : DArg := ⟨k, markText (k + 1), ⟨(k + 1 + 1), (k + 1 + 1 + 1), markText (k + 1 + 1 + 1 + 1)⟩⟩
def cntArg (a : DArg) : Nat := 1 + 1 + 1 + 1 + 1
def markArgS : List DArg → Int → List DArg := mkS markArg cntArg
def cntArgS (l : List DArg) : Nat := ctS cntArg l
theorem markArg_ct (a : DArg) (k : Int) : cntArg (markArg a k) = cntArg a := by simp only [cntArg, markArg]
theorem markArg_idem (a : DArg) (k : Int) : markArg (markArg a k) k = markArg a k := by simp only [markArg]
theorem cntArg_le (a : DArg) : cntArg a ≤ 20 * sizeArg a + 20 := by simp only [cntArg, sizeArg, sizeVal]; omega
theorem markArgS_ct (l : List DArg) (k : Int) : cntArgS (markArgS l k) = cntArgS l := mkS_ct markArg_ct l k
theorem markArgS_idem (l : List DArg) (k : Int) : markArgS (markArgS l k) k = markArgS l k := mkS_idem markArg_ct markArg_idem l k
theorem cntArgS_le (l : List DArg) : cntArgS l ≤ 20 * sizeArgS l := ctS_le cntArg_le l
def sizePat (a : DPat) : Nat := a.Kind.size + sizeArgS a.Args
def sizePatS (l : List DPat) : Nat := l.length + (l.map sizePat).sum
def markPat (a : DPat) (k : Int) : DPat := ⟨markText k, markArgS a.Args (k + 1), markBool (k + 1 + cntArgS a.Args)⟩
def cntPat (a : DPat) : Nat := 1 + cntArgS a.Args + 1
def markPatS : List DPat → Int → List DPat := mkS markPat cntPat
def cntPatS (l : List DPat) : Nat := ctS cntPat l
theorem markPat_ct (a : DPat) (k : Int) : cntPat (markPat a k) = cntPat a := by simp only [cntPat, markPat, markArgS_ct]
theorem markPat_idem (a : DPat) (k : Int) : markPat (markPat a k) k = markPat a k := by simp only [markPat, markArgS_ct, markArgS_idem]
theorem cntPat_le (a : DPat) : cntPat a ≤ 20 * sizePat a + 20 := by have := cntArgS_le a.Args; simp only [cntPat, sizePat]; omega
theorem markPatS_ct (l : List DPat) (k : Int) : cntPatS (markPatS l k) = cntPatS l := mkS_ct markPat_ct l k
theorem markPatS_idem (l : List DPat) (k : Int) : markPatS (markPatS l k) k = markPatS l k := mkS_idem markPat_ct markPat_idem l k
theorem cntPatS_le (l : List DPat) : cntPatS l ≤ 20 * sizePatS l := ctS_le cntPat_le l
def mkPat (a : DPat) (k : Int) : DPat := ⟨a.Kind, markArgS a.Args k, a.Not⟩
def ctPat (a : DPat) : Nat := cntArgS a.Args
theorem mkPat_eta (a : DPat) (k : Int) : (⟨a.Kind, (mkPat a k).Args, a.Not⟩ : DPat) = mkPat a k := rfl
theorem mkPat_ct (a : DPat) (k : Int) : ctPat (mkPat a k) = ctPat a := by simp only [ctPat, mkPat, markArgS_ct]
theorem mkPat_idem (a : DPat) (k : Int) : mkPat (mkPat a k) k = mkPat a k := by simp only [mkPat, markArgS_ct, markArgS_idem]
theorem ctPat_le (a : DPat) : ctPat a ≤ 20 * sizePat a := by have := cntArgS_le a.Args; simp only [ctPat, sizePat]; omega
def sizeBind (a : DBind) : Nat := a.Name.size + sizeVal a.V
def sizeBindS (l : List DBind) : Nat := l.length + (l.map sizeBind).sum
def markBind (a : DBind) (k : Int) : DBind := ⟨markText k, ⟨(k + 1), (k + 1 + 1), markText (k + 1 + 1 + 1)⟩⟩
def cntBind (a : DBind) : Nat := 1 + 1 + 1 + 1
def markBindS : List DBind → Int → List DBind := mkS markBind cntBind
def cntBindS (l : List DBind) : Nat := ctS cntBind l
theorem markBind_ct (a : DBind) (k : Int) : cntBind (markBind a k) = cntBind a := by simp only [cntBind, markBind]
theorem markBind_idem (a : DBind) (k : Int) : markBind (markBind a k) k = markBind a k := by simp only [markBind]
theorem cntBind_le (a : DBind) : cntBind a ≤ 20 * sizeBind a + 20 := by simp only [cntBind, sizeBind, sizeVal]; omega
theorem markBindS_ct (l : List DBind) (k : Int) : cntBindS (markBindS l k) = cntBindS l := mkS_ct markBind_ct l k
theorem markBindS_idem (l : List DBind) (k : Int) : markBindS (markBindS l k) k = markBindS l k := mkS_idem markBind_ct markBind_idem l k
theorem cntBindS_le (l : List DBind) : cntBindS l ≤ 20 * sizeBindS l := ctS_le cntBind_le l
def sizeCond (a : DCond) : Nat := sizeArg a.L + sizeArg a.R
def sizeCondS (l : List DCond) : Nat := l.length + (l.map sizeCond).sum
def markCond (a : DCond) (k : Int) : DCond := ⟨k, ⟨(k + 1), markText (k + 1 + 1), ⟨(k + 1 + 1 + 1), (k + 1 + 1 + 1 + 1), markText (k + 1 + 1 + 1 + 1 + 1)⟩⟩, ⟨(k + 1 + 1 + 1 + 1 + 1 + 1), markText (k + 1 + 1 + 1 + 1 + 1 + 1 + 1), ⟨(k + 1 + 1 + 1 + 1 + 1 + 1 + 1 + 1), (k + 1 + 1 + 1 + 1 + 1 + 1 + 1 + 1 + 1), markText (k + 1 + 1 + 1 + 1 + 1 + 1 + 1 + 1 + 1 + 1)⟩⟩⟩
def cntCond (a : DCond) : Nat := 1 + 1 + 1 + 1 + 1 + 1 + 1 + 1 + 1 + 1 + 1
def markCondS : List DCond → Int → List DCond := mkS markCond cntCond
def cntCondS (l : List DCond) : Nat := ctS cntCond l
theorem markCond_ct (a : DCond) (k : Int) : cntCond (markCond a k) = cntCond a := by simp only [cntCond, markCond]
theorem markCond_idem (a : DCond) (k : Int) : markCond (markCond a k) k = markCond a k := by simp only [markCond]
theorem cntCond_le (a : DCond) : cntCond a ≤ 20 * sizeCond a + 20 := by simp only [cntCond, sizeArg, sizeCond, sizeVal]; omega
theorem markCondS_ct (l : List DCond) (k : Int) : cntCondS (markCondS l k) = cntCondS l := mkS_ct markCond_ct l k
theorem markCondS_idem (l : List DCond) (k : Int) : markCondS (markCondS l k) k = markCondS l k := mkS_idem markCond_ct markCond_idem l k
theorem cntCondS_le (l : List DCond) : cntCondS l ≤ 20 * sizeCondS l := ctS_le cntCond_le l
def sizeExpr (a : DExpr) : Nat := a.Op.size + sizeArg a.L + sizeArg a.R
def sizeExprS (l : List DExpr) : Nat := l.length + (l.map sizeExpr).sum
def markExpr (a : DExpr) (k : Int) : DExpr := ⟨markText k, ⟨(k + 1), markText (k + 1 + 1), ⟨(k + 1 + 1 + 1), (k + 1 + 1 + 1 + 1), markText (k + 1 + 1 + 1 + 1 + 1)⟩⟩, ⟨(k + 1 + 1 + 1 + 1 + 1 + 1), markText (k + 1 + 1 + 1 + 1 + 1 + 1 + 1), ⟨(k + 1 + 1 + 1 + 1 + 1 + 1 + 1 + 1), (k + 1 + 1 + 1 + 1 + 1 + 1 + 1 + 1 + 1), markText (k + 1 + 1 + 1 + 1 + 1 + 1 + 1 + 1 + 1 + 1)⟩⟩⟩
def cntExpr (a : DExpr) : Nat := 1 + 1 + 1 + 1 + 1 + 1 + 1 + 1 + 1 + 1 + 1
def markExprS : List DExpr → Int → List DExpr := mkS markExpr cntExpr
def cntExprS (l : List DExpr) : Nat := ctS cntExpr l
theorem markExpr_ct (a : DExpr) (k : Int) : cntExpr (markExpr a k) = cntExpr a := by simp only [cntExpr, markExpr]
theorem markExpr_idem (a : DExpr) (k : Int) : markExpr (markExpr a k) k = markExpr a k := by simp only [markExpr]
theorem cntExpr_le (a : DExpr) : cntExpr a ≤ 20 * sizeExpr a + 20 := by simp only [cntExpr, sizeArg, sizeExpr, sizeVal]; omega
theorem markExprS_ct (l : List DExpr) (k : Int) : cntExprS (markExprS l k) = cntExprS l := mkS_ct markExpr_ct l k
theorem markExprS_idem (l : List DExpr) (k : Int) : markExprS (markExprS l k) k = markExprS l k := mkS_idem markExpr_ct markExpr_idem l k
theorem cntExprS_le (l : List DExpr) : cntExprS l ≤ 20 * sizeExprS l := ctS_le cntExpr_le l
def sizeAct (a : DAct) : Nat := a.Name.size + sizeExprS a.Args + a.Undo.size
def sizeActS (l : List DAct) : Nat := l.length + (l.map sizeAct).sum
def markAct (a : DAct) (k : Int) : DAct := ⟨k, markText (k + 1), markExprS a.Args (k + 1 + 1), (k + 1 + 1 + cntExprS a.Args), markText (k + 1 + 1 + cntExprS a.Args + 1)⟩
def cntAct (a : DAct) : Nat := 1 + 1 + cntExprS a.Args + 1 + 1
def markActS : List DAct → Int → List DAct := mkS markAct cntAct
def cntActS (l : List DAct) : Nat := ctS cntAct l
theorem markAct_ct (a : DAct) (k : Int) : cntAct (markAct a k) = cntAct a := by simp only [cntAct, markAct, markExprS_ct]
theorem markAct_idem (a : DAct) (k : Int) : markAct (markAct a k) k = markAct a k := by simp only [markAct, markExprS_ct, markExprS_idem]
theorem cntAct_le (a : DAct) : cntAct a ≤ 20 * sizeAct a + 20 := by have := cntExprS_le a.Args; simp only [cntAct, sizeAct]; omega
theorem markActS_ct (l : List DAct) (k : Int) : cntActS (markActS l k) = cntActS l := mkS_ct markAct_ct l k
theorem markActS_idem (l : List DAct) (k : Int) : markActS (markActS l k) k = markActS l k := mkS_idem markAct_ct markAct_idem l k
theorem cntActS_le (l : List DAct) : cntActS l ≤ 20 * sizeActS l := ctS_le cntAct_le l
def mkAct (a : DAct) (k : Int) : DAct := ⟨a.Kind, a.Name, markExprS a.Args k, a.N, a.Undo⟩
def ctAct (a : DAct) : Nat := cntExprS a.Args
theorem mkAct_eta (a : DAct) (k : Int) : (⟨a.Kind, a.Name, (mkAct a k).Args, a.N, a.Undo⟩ : DAct) = mkAct a k := rfl
theorem mkAct_ct (a : DAct) (k : Int) : ctAct (mkAct a k) = ctAct a := by simp only [ctAct, mkAct, markExprS_ct]
theorem mkAct_idem (a : DAct) (k : Int) : mkAct (mkAct a k) k = mkAct a k := by simp only [mkAct, markExprS_ct, markExprS_idem]
theorem ctAct_le (a : DAct) : ctAct a ≤ 20 * sizeAct a := by have := cntExprS_le a.Args; simp only [ctAct, sizeAct]; omega
def sizeRule (a : DRule) : Nat := a.Name.size + sizePatS a.Pats + sizeCondS a.Conds + sizeActS a.Acts
def sizeRuleS (l : List DRule) : Nat := l.length + (l.map sizeRule).sum
def markRule (a : DRule) (k : Int) : DRule := ⟨markText k, (k + 1), markPatS a.Pats (k + 1 + 1), markCondS a.Conds (k + 1 + 1 + cntPatS a.Pats), markActS a.Acts (k + 1 + 1 + cntPatS a.Pats + cntCondS a.Conds)⟩
def cntRule (a : DRule) : Nat := 1 + 1 + cntPatS a.Pats + cntCondS a.Conds + cntActS a.Acts
def markRuleS : List DRule → Int → List DRule := mkS markRule cntRule
def cntRuleS (l : List DRule) : Nat := ctS cntRule l
theorem markRule_ct (a : DRule) (k : Int) : cntRule (markRule a k) = cntRule a := by simp only [cntRule, markRule, markActS_ct, markCondS_ct, markPatS_ct]
theorem markRule_idem (a : DRule) (k : Int) : markRule (markRule a k) k = markRule a k := by simp only [markRule, markActS_ct, markActS_idem, markCondS_ct, markCondS_idem, markPatS_ct, markPatS_idem]
theorem cntRule_le (a : DRule) : cntRule a ≤ 20 * sizeRule a + 20 := by have := cntPatS_le a.Pats; have := cntCondS_le a.Conds; have := cntActS_le a.Acts; simp only [cntRule, sizeRule]; omega
theorem markRuleS_ct (l : List DRule) (k : Int) : cntRuleS (markRuleS l k) = cntRuleS l := mkS_ct markRule_ct l k
theorem markRuleS_idem (l : List DRule) (k : Int) : markRuleS (markRuleS l k) k = markRuleS l k := mkS_idem markRule_ct markRule_idem l k
theorem cntRuleS_le (l : List DRule) : cntRuleS l ≤ 20 * sizeRuleS l := ctS_le cntRule_le l
def mkRule (a : DRule) (k : Int) : DRule := ⟨a.Name, a.Sal, markPatS a.Pats k, markCondS a.Conds (k + cntPatS a.Pats), markActS a.Acts (k + cntPatS a.Pats + cntCondS a.Conds)⟩
def ctRule (a : DRule) : Nat := cntPatS a.Pats + cntCondS a.Conds + cntActS a.Acts
theorem mkRule_eta (a : DRule) (k : Int) : (⟨a.Name, a.Sal, (mkRule a k).Pats, (mkRule a k).Conds, (mkRule a k).Acts⟩ : DRule) = mkRule a k := rfl
theorem mkRule_ct (a : DRule) (k : Int) : ctRule (mkRule a k) = ctRule a := by simp only [ctRule, mkRule, markActS_ct, markCondS_ct, markPatS_ct]
theorem mkRule_idem (a : DRule) (k : Int) : mkRule (mkRule a k) k = mkRule a k := by simp only [mkRule, markActS_ct, markActS_idem, markCondS_ct, markCondS_idem, markPatS_ct, markPatS_idem]
theorem ctRule_le (a : DRule) : ctRule a ≤ 20 * sizeRule a := by have := cntPatS_le a.Pats; have := cntCondS_le a.Conds; have := cntActS_le a.Acts; simp only [ctRule, sizeRule]; omega
def sizeDef (a : DDef) : Nat := a.Name.size + sizeRuleS a.Rules
def sizeDefS (l : List DDef) : Nat := l.length + (l.map sizeDef).sum
def markDef (a : DDef) (k : Int) : DDef := ⟨markText k, markRuleS a.Rules (k + 1)⟩
def cntDef (a : DDef) : Nat := 1 + cntRuleS a.Rules
def markDefS : List DDef → Int → List DDef := mkS markDef cntDef
def cntDefS (l : List DDef) : Nat := ctS cntDef l
theorem markDef_ct (a : DDef) (k : Int) : cntDef (markDef a k) = cntDef a := by simp only [cntDef, markDef, markRuleS_ct]
theorem markDef_idem (a : DDef) (k : Int) : markDef (markDef a k) k = markDef a k := by simp only [markDef, markRuleS_ct, markRuleS_idem]
theorem cntDef_le (a : DDef) : cntDef a ≤ 20 * sizeDef a + 20 := by have := cntRuleS_le a.Rules; simp only [cntDef, sizeDef]; omega
theorem markDefS_ct (l : List DDef) (k : Int) : cntDefS (markDefS l k) = cntDefS l := mkS_ct markDef_ct l k
theorem markDefS_idem (l : List DDef) (k : Int) : markDefS (markDefS l k) k = markDefS l k := mkS_idem markDef_ct markDef_idem l k
theorem cntDefS_le (l : List DDef) : cntDefS l ≤ 20 * sizeDefS l := ctS_le cntDef_le l
def mkDef (a : DDef) (k : Int) : DDef := ⟨a.Name, markRuleS a.Rules k⟩
def ctDef (a : DDef) : Nat := cntRuleS a.Rules
theorem mkDef_eta (a : DDef) (k : Int) : (⟨a.Name, (mkDef a k).Rules⟩ : DDef) = mkDef a k := rfl
theorem mkDef_ct (a : DDef) (k : Int) : ctDef (mkDef a k) = ctDef a := by simp only [ctDef, mkDef, markRuleS_ct]
theorem mkDef_idem (a : DDef) (k : Int) : mkDef (mkDef a k) k = mkDef a k := by simp only [mkDef, markRuleS_ct, markRuleS_idem]
theorem ctDef_le (a : DDef) : ctDef a ≤ 20 * sizeDef a := by have := cntRuleS_le a.Rules; simp only [ctDef, sizeDef]; omega
def sizeMatch (a : DMatch) : Nat := sizeIntS a.Ids + sizeBindS a.Binds
def sizeMatchS (l : List DMatch) : Nat := l.length + (l.map sizeMatch).sum
def markMatch (a : DMatch) (k : Int) : DMatch := ⟨k, markIntS a.Ids (k + 1), markBindS a.Binds (k + 1 + cntIntS a.Ids)⟩
def cntMatch (a : DMatch) : Nat := 1 + cntIntS a.Ids + cntBindS a.Binds
def markMatchS : List DMatch → Int → List DMatch := mkS markMatch cntMatch
def cntMatchS (l : List DMatch) : Nat := ctS cntMatch l
theorem markMatch_ct (a : DMatch) (k : Int) : cntMatch (markMatch a k) = cntMatch a := by simp only [cntMatch, markMatch, markBindS_ct, markIntS_ct]
theorem markMatch_idem (a : DMatch) (k : Int) : markMatch (markMatch a k) k = markMatch a k := by simp only [markMatch, markBindS_ct, markBindS_idem, markIntS_ct, markIntS_idem]
theorem cntMatch_le (a : DMatch) : cntMatch a ≤ 20 * sizeMatch a + 20 := by have := cntIntS_le a.Ids; have := cntBindS_le a.Binds; simp only [cntMatch, sizeMatch]; omega
theorem markMatchS_ct (l : List DMatch) (k : Int) : cntMatchS (markMatchS l k) = cntMatchS l := mkS_ct markMatch_ct l k
theorem markMatchS_idem (l : List DMatch) (k : Int) : markMatchS (markMatchS l k) k = markMatchS l k := mkS_idem markMatch_ct markMatch_idem l k
theorem cntMatchS_le (l : List DMatch) : cntMatchS l ≤ 20 * sizeMatchS l := ctS_le cntMatch_le l
def mkMatch (a : DMatch) (k : Int) : DMatch := ⟨a.Rule, markIntS a.Ids k, markBindS a.Binds (k + cntIntS a.Ids)⟩
def ctMatch (a : DMatch) : Nat := cntIntS a.Ids + cntBindS a.Binds
theorem mkMatch_eta (a : DMatch) (k : Int) : (⟨a.Rule, (mkMatch a k).Ids, (mkMatch a k).Binds⟩ : DMatch) = mkMatch a k := rfl
theorem mkMatch_ct (a : DMatch) (k : Int) : ctMatch (mkMatch a k) = ctMatch a := by simp only [ctMatch, mkMatch, markBindS_ct, markIntS_ct]
theorem mkMatch_idem (a : DMatch) (k : Int) : mkMatch (mkMatch a k) k = mkMatch a k := by simp only [mkMatch, markBindS_ct, markBindS_idem, markIntS_ct, markIntS_idem]
theorem ctMatch_le (a : DMatch) : ctMatch a ≤ 20 * sizeMatch a := by have := cntIntS_le a.Ids; have := cntBindS_le a.Binds; simp only [ctMatch, sizeMatch]; omega
def sizeAlpha (a : DAlpha) : Nat := a.Kind.size + sizeValS a.Consts + sizeIntS a.At
def sizeAlphaS (l : List DAlpha) : Nat := l.length + (l.map sizeAlpha).sum
def markAlpha (a : DAlpha) (k : Int) : DAlpha := ⟨markText k, (k + 1), markValS a.Consts (k + 1 + 1), markIntS a.At (k + 1 + 1 + cntValS a.Consts)⟩
def cntAlpha (a : DAlpha) : Nat := 1 + 1 + cntValS a.Consts + cntIntS a.At
def markAlphaS : List DAlpha → Int → List DAlpha := mkS markAlpha cntAlpha
def cntAlphaS (l : List DAlpha) : Nat := ctS cntAlpha l
theorem markAlpha_ct (a : DAlpha) (k : Int) : cntAlpha (markAlpha a k) = cntAlpha a := by simp only [cntAlpha, markAlpha, markIntS_ct, markValS_ct]
theorem markAlpha_idem (a : DAlpha) (k : Int) : markAlpha (markAlpha a k) k = markAlpha a k := by simp only [markAlpha, markIntS_ct, markIntS_idem, markValS_ct, markValS_idem]
theorem cntAlpha_le (a : DAlpha) : cntAlpha a ≤ 20 * sizeAlpha a + 20 := by have := cntValS_le a.Consts; have := cntIntS_le a.At; simp only [cntAlpha, sizeAlpha]; omega
theorem markAlphaS_ct (l : List DAlpha) (k : Int) : cntAlphaS (markAlphaS l k) = cntAlphaS l := mkS_ct markAlpha_ct l k
theorem markAlphaS_idem (l : List DAlpha) (k : Int) : markAlphaS (markAlphaS l k) k = markAlphaS l k := mkS_idem markAlpha_ct markAlpha_idem l k
theorem cntAlphaS_le (l : List DAlpha) : cntAlphaS l ≤ 20 * sizeAlphaS l := ctS_le cntAlpha_le l
def mkAlpha (a : DAlpha) (k : Int) : DAlpha := ⟨a.Kind, a.N, markValS a.Consts k, markIntS a.At (k + cntValS a.Consts)⟩
def ctAlpha (a : DAlpha) : Nat := cntValS a.Consts + cntIntS a.At
theorem mkAlpha_eta (a : DAlpha) (k : Int) : (⟨a.Kind, a.N, (mkAlpha a k).Consts, (mkAlpha a k).At⟩ : DAlpha) = mkAlpha a k := rfl
theorem mkAlpha_ct (a : DAlpha) (k : Int) : ctAlpha (mkAlpha a k) = ctAlpha a := by simp only [ctAlpha, mkAlpha, markIntS_ct, markValS_ct]
theorem mkAlpha_idem (a : DAlpha) (k : Int) : mkAlpha (mkAlpha a k) k = mkAlpha a k := by simp only [mkAlpha, markIntS_ct, markIntS_idem, markValS_ct, markValS_idem]
theorem ctAlpha_le (a : DAlpha) : ctAlpha a ≤ 20 * sizeAlpha a := by have := cntValS_le a.Consts; have := cntIntS_le a.At; simp only [ctAlpha, sizeAlpha]; omega
def sizeChain (a : DChain) : Nat := sizeIntS a.Pos + sizeIntS a.Neg
def sizeChainS (l : List DChain) : Nat := l.length + (l.map sizeChain).sum
def markChain (a : DChain) (k : Int) : DChain := ⟨markIntS a.Pos k, markIntS a.Neg (k + cntIntS a.Pos)⟩
def cntChain (a : DChain) : Nat := cntIntS a.Pos + cntIntS a.Neg
def markChainS : List DChain → Int → List DChain := mkS markChain cntChain
def cntChainS (l : List DChain) : Nat := ctS cntChain l
theorem markChain_ct (a : DChain) (k : Int) : cntChain (markChain a k) = cntChain a := by simp only [cntChain, markChain, markIntS_ct]
theorem markChain_idem (a : DChain) (k : Int) : markChain (markChain a k) k = markChain a k := by simp only [markChain, markIntS_ct, markIntS_idem]
theorem cntChain_le (a : DChain) : cntChain a ≤ 20 * sizeChain a + 20 := by have := cntIntS_le a.Pos; have := cntIntS_le a.Neg; simp only [cntChain, sizeChain]; omega
theorem markChainS_ct (l : List DChain) (k : Int) : cntChainS (markChainS l k) = cntChainS l := mkS_ct markChain_ct l k
theorem markChainS_idem (l : List DChain) (k : Int) : markChainS (markChainS l k) k = markChainS l k := mkS_idem markChain_ct markChain_idem l k
theorem cntChainS_le (l : List DChain) : cntChainS l ≤ 20 * sizeChainS l := ctS_le cntChain_le l
def mkChain (a : DChain) (k : Int) : DChain := ⟨markIntS a.Pos k, markIntS a.Neg (k + cntIntS a.Pos)⟩
def ctChain (a : DChain) : Nat := cntIntS a.Pos + cntIntS a.Neg
theorem mkChain_eta (a : DChain) (k : Int) : (⟨(mkChain a k).Pos, (mkChain a k).Neg⟩ : DChain) = mkChain a k := rfl
theorem mkChain_ct (a : DChain) (k : Int) : ctChain (mkChain a k) = ctChain a := by simp only [ctChain, mkChain, markIntS_ct]
theorem mkChain_idem (a : DChain) (k : Int) : mkChain (mkChain a k) k = mkChain a k := by simp only [mkChain, markIntS_ct, markIntS_idem]
theorem ctChain_le (a : DChain) : ctChain a ≤ 20 * sizeChain a := by have := cntIntS_le a.Pos; have := cntIntS_le a.Neg; simp only [ctChain, sizeChain]; omega
def sizeNet (a : DNet) : Nat := sizeAlphaS a.Alphas + sizeChainS a.Chains
def sizeNetS (l : List DNet) : Nat := l.length + (l.map sizeNet).sum
def markNet (a : DNet) (k : Int) : DNet := ⟨markAlphaS a.Alphas k, markChainS a.Chains (k + cntAlphaS a.Alphas)⟩
def cntNet (a : DNet) : Nat := cntAlphaS a.Alphas + cntChainS a.Chains
def markNetS : List DNet → Int → List DNet := mkS markNet cntNet
def cntNetS (l : List DNet) : Nat := ctS cntNet l
theorem markNet_ct (a : DNet) (k : Int) : cntNet (markNet a k) = cntNet a := by simp only [cntNet, markNet, markAlphaS_ct, markChainS_ct]
theorem markNet_idem (a : DNet) (k : Int) : markNet (markNet a k) k = markNet a k := by simp only [markNet, markAlphaS_ct, markAlphaS_idem, markChainS_ct, markChainS_idem]
theorem cntNet_le (a : DNet) : cntNet a ≤ 20 * sizeNet a + 20 := by have := cntAlphaS_le a.Alphas; have := cntChainS_le a.Chains; simp only [cntNet, sizeNet]; omega
theorem markNetS_ct (l : List DNet) (k : Int) : cntNetS (markNetS l k) = cntNetS l := mkS_ct markNet_ct l k
theorem markNetS_idem (l : List DNet) (k : Int) : markNetS (markNetS l k) k = markNetS l k := mkS_idem markNet_ct markNet_idem l k
theorem cntNetS_le (l : List DNet) : cntNetS l ≤ 20 * sizeNetS l := ctS_le cntNet_le l
def mkNet (a : DNet) (k : Int) : DNet := ⟨markAlphaS a.Alphas k, markChainS a.Chains (k + cntAlphaS a.Alphas)⟩
def ctNet (a : DNet) : Nat := cntAlphaS a.Alphas + cntChainS a.Chains
theorem mkNet_eta (a : DNet) (k : Int) : (⟨(mkNet a k).Alphas, (mkNet a k).Chains⟩ : DNet) = mkNet a k := rfl
theorem mkNet_ct (a : DNet) (k : Int) : ctNet (mkNet a k) = ctNet a := by simp only [ctNet, mkNet, markAlphaS_ct, markChainS_ct]
theorem mkNet_idem (a : DNet) (k : Int) : mkNet (mkNet a k) k = mkNet a k := by simp only [mkNet, markAlphaS_ct, markAlphaS_idem, markChainS_ct, markChainS_idem]
theorem ctNet_le (a : DNet) : ctNet a ≤ 20 * sizeNet a := by have := cntAlphaS_le a.Alphas; have := cntChainS_le a.Chains; simp only [ctNet, sizeNet]; omega
def sizeIds (a : DIds) : Nat := sizeIntS a.L
def sizeIdsS (l : List DIds) : Nat := l.length + (l.map sizeIds).sum
def markIds (a : DIds) (k : Int) : DIds := ⟨markIntS a.L k⟩
def cntIds (a : DIds) : Nat := cntIntS a.L
def markIdsS : List DIds → Int → List DIds := mkS markIds cntIds
def cntIdsS (l : List DIds) : Nat := ctS cntIds l
theorem markIds_ct (a : DIds) (k : Int) : cntIds (markIds a k) = cntIds a := by simp only [cntIds, markIds, markIntS_ct]
theorem markIds_idem (a : DIds) (k : Int) : markIds (markIds a k) k = markIds a k := by simp only [markIds, markIntS_ct, markIntS_idem]
theorem cntIds_le (a : DIds) : cntIds a ≤ 20 * sizeIds a + 20 := by have := cntIntS_le a.L; simp only [cntIds, sizeIds]; omega
theorem markIdsS_ct (l : List DIds) (k : Int) : cntIdsS (markIdsS l k) = cntIdsS l := mkS_ct markIds_ct l k
theorem markIdsS_idem (l : List DIds) (k : Int) : markIdsS (markIdsS l k) k = markIdsS l k := mkS_idem markIds_ct markIds_idem l k
theorem cntIdsS_le (l : List DIds) : cntIdsS l ≤ 20 * sizeIdsS l := ctS_le cntIds_le l
def mkIds (a : DIds) (k : Int) : DIds := ⟨markIntS a.L k⟩
def ctIds (a : DIds) : Nat := cntIntS a.L
theorem mkIds_eta (a : DIds) (k : Int) : (⟨(mkIds a k).L⟩ : DIds) = mkIds a k := rfl
theorem mkIds_ct (a : DIds) (k : Int) : ctIds (mkIds a k) = ctIds a := by simp only [ctIds, mkIds, markIntS_ct]
theorem mkIds_idem (a : DIds) (k : Int) : mkIds (mkIds a k) k = mkIds a k := by simp only [mkIds, markIntS_ct, markIntS_idem]
theorem ctIds_le (a : DIds) : ctIds a ≤ 20 * sizeIds a := by have := cntIntS_le a.L; simp only [ctIds, sizeIds]; omega
def sizeTok (a : DTok) : Nat := sizeIntS a.Ids + sizeIntS a.Hits
def sizeTokS (l : List DTok) : Nat := l.length + (l.map sizeTok).sum
def markTok (a : DTok) (k : Int) : DTok := ⟨markIntS a.Ids k, markIntS a.Hits (k + cntIntS a.Ids)⟩
def cntTok (a : DTok) : Nat := cntIntS a.Ids + cntIntS a.Hits
def markTokS : List DTok → Int → List DTok := mkS markTok cntTok
def cntTokS (l : List DTok) : Nat := ctS cntTok l
theorem markTok_ct (a : DTok) (k : Int) : cntTok (markTok a k) = cntTok a := by simp only [cntTok, markTok, markIntS_ct]
theorem markTok_idem (a : DTok) (k : Int) : markTok (markTok a k) k = markTok a k := by simp only [markTok, markIntS_ct, markIntS_idem]
theorem cntTok_le (a : DTok) : cntTok a ≤ 20 * sizeTok a + 20 := by have := cntIntS_le a.Ids; have := cntIntS_le a.Hits; simp only [cntTok, sizeTok]; omega
theorem markTokS_ct (l : List DTok) (k : Int) : cntTokS (markTokS l k) = cntTokS l := mkS_ct markTok_ct l k
theorem markTokS_idem (l : List DTok) (k : Int) : markTokS (markTokS l k) k = markTokS l k := mkS_idem markTok_ct markTok_idem l k
theorem cntTokS_le (l : List DTok) : cntTokS l ≤ 20 * sizeTokS l := ctS_le cntTok_le l
def mkTok (a : DTok) (k : Int) : DTok := ⟨markIntS a.Ids k, markIntS a.Hits (k + cntIntS a.Ids)⟩
def ctTok (a : DTok) : Nat := cntIntS a.Ids + cntIntS a.Hits
theorem mkTok_eta (a : DTok) (k : Int) : (⟨(mkTok a k).Ids, (mkTok a k).Hits⟩ : DTok) = mkTok a k := rfl
theorem mkTok_ct (a : DTok) (k : Int) : ctTok (mkTok a k) = ctTok a := by simp only [ctTok, mkTok, markIntS_ct]
theorem mkTok_idem (a : DTok) (k : Int) : mkTok (mkTok a k) k = mkTok a k := by simp only [mkTok, markIntS_ct, markIntS_idem]
theorem ctTok_le (a : DTok) : ctTok a ≤ 20 * sizeTok a := by have := cntIntS_le a.Ids; have := cntIntS_le a.Hits; simp only [ctTok, sizeTok]; omega
def sizeLevel (a : DLevel) : Nat := sizeTokS a.Toks
def sizeLevelS (l : List DLevel) : Nat := l.length + (l.map sizeLevel).sum
def markLevel (a : DLevel) (k : Int) : DLevel := ⟨markTokS a.Toks k⟩
def cntLevel (a : DLevel) : Nat := cntTokS a.Toks
def markLevelS : List DLevel → Int → List DLevel := mkS markLevel cntLevel
def cntLevelS (l : List DLevel) : Nat := ctS cntLevel l
theorem markLevel_ct (a : DLevel) (k : Int) : cntLevel (markLevel a k) = cntLevel a := by simp only [cntLevel, markLevel, markTokS_ct]
theorem markLevel_idem (a : DLevel) (k : Int) : markLevel (markLevel a k) k = markLevel a k := by simp only [markLevel, markTokS_ct, markTokS_idem]
theorem cntLevel_le (a : DLevel) : cntLevel a ≤ 20 * sizeLevel a + 20 := by have := cntTokS_le a.Toks; simp only [cntLevel, sizeLevel]; omega
theorem markLevelS_ct (l : List DLevel) (k : Int) : cntLevelS (markLevelS l k) = cntLevelS l := mkS_ct markLevel_ct l k
theorem markLevelS_idem (l : List DLevel) (k : Int) : markLevelS (markLevelS l k) k = markLevelS l k := mkS_idem markLevel_ct markLevel_idem l k
theorem cntLevelS_le (l : List DLevel) : cntLevelS l ≤ 20 * sizeLevelS l := ctS_le cntLevel_le l
def mkLevel (a : DLevel) (k : Int) : DLevel := ⟨markTokS a.Toks k⟩
def ctLevel (a : DLevel) : Nat := cntTokS a.Toks
theorem mkLevel_eta (a : DLevel) (k : Int) : (⟨(mkLevel a k).Toks⟩ : DLevel) = mkLevel a k := rfl
theorem mkLevel_ct (a : DLevel) (k : Int) : ctLevel (mkLevel a k) = ctLevel a := by simp only [ctLevel, mkLevel, markTokS_ct]
theorem mkLevel_idem (a : DLevel) (k : Int) : mkLevel (mkLevel a k) k = mkLevel a k := by simp only [mkLevel, markTokS_ct, markTokS_idem]
theorem ctLevel_le (a : DLevel) : ctLevel a ≤ 20 * sizeLevel a := by have := cntTokS_le a.Toks; simp only [ctLevel, sizeLevel]; omega
def sizeRow (a : DRow) : Nat := sizeLevelS a.Levels
def sizeRowS (l : List DRow) : Nat := l.length + (l.map sizeRow).sum
def markRow (a : DRow) (k : Int) : DRow := ⟨markLevelS a.Levels k⟩
def cntRow (a : DRow) : Nat := cntLevelS a.Levels
def markRowS : List DRow → Int → List DRow := mkS markRow cntRow
def cntRowS (l : List DRow) : Nat := ctS cntRow l
theorem markRow_ct (a : DRow) (k : Int) : cntRow (markRow a k) = cntRow a := by simp only [cntRow, markRow, markLevelS_ct]
theorem markRow_idem (a : DRow) (k : Int) : markRow (markRow a k) k = markRow a k := by simp only [markRow, markLevelS_ct, markLevelS_idem]
theorem cntRow_le (a : DRow) : cntRow a ≤ 20 * sizeRow a + 20 := by have := cntLevelS_le a.Levels; simp only [cntRow, sizeRow]; omega
theorem markRowS_ct (l : List DRow) (k : Int) : cntRowS (markRowS l k) = cntRowS l := mkS_ct markRow_ct l k
theorem markRowS_idem (l : List DRow) (k : Int) : markRowS (markRowS l k) k = markRowS l k := mkS_idem markRow_ct markRow_idem l k
theorem cntRowS_le (l : List DRow) : cntRowS l ≤ 20 * sizeRowS l := ctS_le cntRow_le l
def mkRow (a : DRow) (k : Int) : DRow := ⟨markLevelS a.Levels k⟩
def ctRow (a : DRow) : Nat := cntLevelS a.Levels
theorem mkRow_eta (a : DRow) (k : Int) : (⟨(mkRow a k).Levels⟩ : DRow) = mkRow a k := rfl
theorem mkRow_ct (a : DRow) (k : Int) : ctRow (mkRow a k) = ctRow a := by simp only [ctRow, mkRow, markLevelS_ct]
theorem mkRow_idem (a : DRow) (k : Int) : mkRow (mkRow a k) k = mkRow a k := by simp only [mkRow, markLevelS_ct, markLevelS_idem]
theorem ctRow_le (a : DRow) : ctRow a ≤ 20 * sizeRow a := by have := cntLevelS_le a.Levels; simp only [ctRow, sizeRow]; omega
def sizeMem (a : DMem) : Nat := sizeIdsS a.Alphas + sizeRowS a.Rules
def sizeMemS (l : List DMem) : Nat := l.length + (l.map sizeMem).sum
def markMem (a : DMem) (k : Int) : DMem := ⟨markIdsS a.Alphas k, markRowS a.Rules (k + cntIdsS a.Alphas)⟩
def cntMem (a : DMem) : Nat := cntIdsS a.Alphas + cntRowS a.Rules
def markMemS : List DMem → Int → List DMem := mkS markMem cntMem
def cntMemS (l : List DMem) : Nat := ctS cntMem l
theorem markMem_ct (a : DMem) (k : Int) : cntMem (markMem a k) = cntMem a := by simp only [cntMem, markMem, markIdsS_ct, markRowS_ct]
theorem markMem_idem (a : DMem) (k : Int) : markMem (markMem a k) k = markMem a k := by simp only [markMem, markIdsS_ct, markIdsS_idem, markRowS_ct, markRowS_idem]
theorem cntMem_le (a : DMem) : cntMem a ≤ 20 * sizeMem a + 20 := by have := cntIdsS_le a.Alphas; have := cntRowS_le a.Rules; simp only [cntMem, sizeMem]; omega
theorem markMemS_ct (l : List DMem) (k : Int) : cntMemS (markMemS l k) = cntMemS l := mkS_ct markMem_ct l k
theorem markMemS_idem (l : List DMem) (k : Int) : markMemS (markMemS l k) k = markMemS l k := mkS_idem markMem_ct markMem_idem l k
theorem cntMemS_le (l : List DMem) : cntMemS l ≤ 20 * sizeMemS l := ctS_le cntMem_le l
def mkMem (a : DMem) (k : Int) : DMem := ⟨markIdsS a.Alphas k, markRowS a.Rules (k + cntIdsS a.Alphas)⟩
def ctMem (a : DMem) : Nat := cntIdsS a.Alphas + cntRowS a.Rules
theorem mkMem_eta (a : DMem) (k : Int) : (⟨(mkMem a k).Alphas, (mkMem a k).Rules⟩ : DMem) = mkMem a k := rfl
theorem mkMem_ct (a : DMem) (k : Int) : ctMem (mkMem a k) = ctMem a := by simp only [ctMem, mkMem, markIdsS_ct, markRowS_ct]
theorem mkMem_idem (a : DMem) (k : Int) : mkMem (mkMem a k) k = mkMem a k := by simp only [mkMem, markIdsS_ct, markIdsS_idem, markRowS_ct, markRowS_idem]
theorem ctMem_le (a : DMem) : ctMem a ≤ 20 * sizeMem a := by have := cntIdsS_le a.Alphas; have := cntRowS_le a.Rules; simp only [ctMem, sizeMem]; omega
def sizeEffect (a : DEffect) : Nat := sizeFact a.F + a.Undo.size
def sizeEffectS (l : List DEffect) : Nat := l.length + (l.map sizeEffect).sum
def markEffect (a : DEffect) (k : Int) : DEffect := ⟨k, ⟨markText (k + 1), markValS a.F.Fields (k + 1 + 1)⟩, (k + 1 + 1 + cntValS a.F.Fields), (k + 1 + 1 + cntValS a.F.Fields + 1), markText (k + 1 + 1 + cntValS a.F.Fields + 1 + 1)⟩
def cntEffect (a : DEffect) : Nat := 1 + 1 + cntValS a.F.Fields + 1 + 1 + 1
def markEffectS : List DEffect → Int → List DEffect := mkS markEffect cntEffect
def cntEffectS (l : List DEffect) : Nat := ctS cntEffect l
theorem markEffect_ct (a : DEffect) (k : Int) : cntEffect (markEffect a k) = cntEffect a := by simp only [cntEffect, markEffect, markValS_ct]
theorem markEffect_idem (a : DEffect) (k : Int) : markEffect (markEffect a k) k = markEffect a k := by simp only [markEffect, markValS_ct, markValS_idem]
theorem cntEffect_le (a : DEffect) : cntEffect a ≤ 20 * sizeEffect a + 20 := by have := cntValS_le a.F.Fields; simp only [cntEffect, sizeEffect, sizeFact]; omega
theorem markEffectS_ct (l : List DEffect) (k : Int) : cntEffectS (markEffectS l k) = cntEffectS l := mkS_ct markEffect_ct l k
theorem markEffectS_idem (l : List DEffect) (k : Int) : markEffectS (markEffectS l k) k = markEffectS l k := mkS_idem markEffect_ct markEffect_idem l k
theorem cntEffectS_le (l : List DEffect) : cntEffectS l ≤ 20 * sizeEffectS l := ctS_le cntEffect_le l
def mkEffect (a : DEffect) (k : Int) : DEffect := ⟨a.Kind, mkFact a.F k, a.Id, a.N, a.Undo⟩
def ctEffect (a : DEffect) : Nat := ctFact a.F
theorem mkEffect_eta (a : DEffect) (k : Int) : (⟨a.Kind, ⟨a.F.Kind, (mkEffect a k).F.Fields⟩, a.Id, a.N, a.Undo⟩ : DEffect) = mkEffect a k := rfl
theorem mkEffect_ct (a : DEffect) (k : Int) : ctEffect (mkEffect a k) = ctEffect a := by simp only [ctEffect, mkEffect, mkFact_ct]
theorem mkEffect_idem (a : DEffect) (k : Int) : mkEffect (mkEffect a k) k = mkEffect a k := by simp only [mkEffect, mkFact_ct, mkFact_idem]
theorem ctEffect_le (a : DEffect) : ctEffect a ≤ 20 * sizeEffect a := by have := ctFact_le a.F; simp only [ctEffect, sizeEffect]; omega
def sizeTimer (a : DTimer) : Nat := sizeFact a.F
def sizeTimerS (l : List DTimer) : Nat := l.length + (l.map sizeTimer).sum
def markTimer (a : DTimer) (k : Int) : DTimer := ⟨k, ⟨markText (k + 1), markValS a.F.Fields (k + 1 + 1)⟩⟩
def cntTimer (a : DTimer) : Nat := 1 + 1 + cntValS a.F.Fields
def markTimerS : List DTimer → Int → List DTimer := mkS markTimer cntTimer
def cntTimerS (l : List DTimer) : Nat := ctS cntTimer l
theorem markTimer_ct (a : DTimer) (k : Int) : cntTimer (markTimer a k) = cntTimer a := by simp only [cntTimer, markTimer, markValS_ct]
theorem markTimer_idem (a : DTimer) (k : Int) : markTimer (markTimer a k) k = markTimer a k := by simp only [markTimer, markValS_ct, markValS_idem]
theorem cntTimer_le (a : DTimer) : cntTimer a ≤ 20 * sizeTimer a + 20 := by have := cntValS_le a.F.Fields; simp only [cntTimer, sizeFact, sizeTimer]; omega
theorem markTimerS_ct (l : List DTimer) (k : Int) : cntTimerS (markTimerS l k) = cntTimerS l := mkS_ct markTimer_ct l k
theorem markTimerS_idem (l : List DTimer) (k : Int) : markTimerS (markTimerS l k) k = markTimerS l k := mkS_idem markTimer_ct markTimer_idem l k
theorem cntTimerS_le (l : List DTimer) : cntTimerS l ≤ 20 * sizeTimerS l := ctS_le cntTimer_le l
def mkTimer (a : DTimer) (k : Int) : DTimer := ⟨a.At, mkFact a.F k⟩
def ctTimer (a : DTimer) : Nat := ctFact a.F
theorem mkTimer_eta (a : DTimer) (k : Int) : (⟨a.At, ⟨a.F.Kind, (mkTimer a k).F.Fields⟩⟩ : DTimer) = mkTimer a k := rfl
theorem mkTimer_ct (a : DTimer) (k : Int) : ctTimer (mkTimer a k) = ctTimer a := by simp only [ctTimer, mkTimer, mkFact_ct]
theorem mkTimer_idem (a : DTimer) (k : Int) : mkTimer (mkTimer a k) k = mkTimer a k := by simp only [mkTimer, mkFact_ct, mkFact_idem]
theorem ctTimer_le (a : DTimer) : ctTimer a ≤ 20 * sizeTimer a := by have := ctFact_le a.F; simp only [ctTimer, sizeTimer]; omega
def sizeTask (a : DTask) : Nat := sizeFact a.F + a.Undo.size + sizeVal a.V
def sizeTaskS (l : List DTask) : Nat := l.length + (l.map sizeTask).sum
def markTask (a : DTask) (k : Int) : DTask := ⟨⟨markText k, markValS a.F.Fields (k + 1)⟩, markText (k + 1 + cntValS a.F.Fields), (k + 1 + cntValS a.F.Fields + 1), (k + 1 + cntValS a.F.Fields + 1 + 1), (k + 1 + cntValS a.F.Fields + 1 + 1 + 1), ⟨(k + 1 + cntValS a.F.Fields + 1 + 1 + 1 + 1), (k + 1 + cntValS a.F.Fields + 1 + 1 + 1 + 1 + 1), markText (k + 1 + cntValS a.F.Fields + 1 + 1 + 1 + 1 + 1 + 1)⟩⟩
def cntTask (a : DTask) : Nat := 1 + cntValS a.F.Fields + 1 + 1 + 1 + 1 + 1 + 1 + 1
def markTaskS : List DTask → Int → List DTask := mkS markTask cntTask
def cntTaskS (l : List DTask) : Nat := ctS cntTask l
theorem markTask_ct (a : DTask) (k : Int) : cntTask (markTask a k) = cntTask a := by simp only [cntTask, markTask, markValS_ct]
theorem markTask_idem (a : DTask) (k : Int) : markTask (markTask a k) k = markTask a k := by simp only [markTask, markValS_ct, markValS_idem]
theorem cntTask_le (a : DTask) : cntTask a ≤ 20 * sizeTask a + 20 := by have := cntValS_le a.F.Fields; simp only [cntTask, sizeFact, sizeTask, sizeVal]; omega
theorem markTaskS_ct (l : List DTask) (k : Int) : cntTaskS (markTaskS l k) = cntTaskS l := mkS_ct markTask_ct l k
theorem markTaskS_idem (l : List DTask) (k : Int) : markTaskS (markTaskS l k) k = markTaskS l k := mkS_idem markTask_ct markTask_idem l k
theorem cntTaskS_le (l : List DTask) : cntTaskS l ≤ 20 * sizeTaskS l := ctS_le cntTask_le l
def mkTask (a : DTask) (k : Int) : DTask := ⟨mkFact a.F k, a.Undo, a.State, a.Tries, a.Due, a.V⟩
def ctTask (a : DTask) : Nat := ctFact a.F
theorem mkTask_eta (a : DTask) (k : Int) : (⟨⟨a.F.Kind, (mkTask a k).F.Fields⟩, a.Undo, a.State, a.Tries, a.Due, a.V⟩ : DTask) = mkTask a k := rfl
theorem mkTask_ct (a : DTask) (k : Int) : ctTask (mkTask a k) = ctTask a := by simp only [ctTask, mkTask, mkFact_ct]
theorem mkTask_idem (a : DTask) (k : Int) : mkTask (mkTask a k) k = mkTask a k := by simp only [mkTask, mkFact_ct, mkFact_idem]
theorem ctTask_le (a : DTask) : ctTask a ≤ 20 * sizeTask a := by have := ctFact_le a.F; simp only [ctTask, sizeTask]; omega
def sizeCall (a : DCall) : Nat := a.Key.size + sizeFact a.F
def sizeCallS (l : List DCall) : Nat := l.length + (l.map sizeCall).sum
def markCall (a : DCall) (k : Int) : DCall := ⟨markText k, ⟨markText (k + 1), markValS a.F.Fields (k + 1 + 1)⟩, (k + 1 + 1 + cntValS a.F.Fields)⟩
def cntCall (a : DCall) : Nat := 1 + 1 + cntValS a.F.Fields + 1
def markCallS : List DCall → Int → List DCall := mkS markCall cntCall
def cntCallS (l : List DCall) : Nat := ctS cntCall l
theorem markCall_ct (a : DCall) (k : Int) : cntCall (markCall a k) = cntCall a := by simp only [cntCall, markCall, markValS_ct]
theorem markCall_idem (a : DCall) (k : Int) : markCall (markCall a k) k = markCall a k := by simp only [markCall, markValS_ct, markValS_idem]
theorem cntCall_le (a : DCall) : cntCall a ≤ 20 * sizeCall a + 20 := by have := cntValS_le a.F.Fields; simp only [cntCall, sizeCall, sizeFact]; omega
theorem markCallS_ct (l : List DCall) (k : Int) : cntCallS (markCallS l k) = cntCallS l := mkS_ct markCall_ct l k
theorem markCallS_idem (l : List DCall) (k : Int) : markCallS (markCallS l k) k = markCallS l k := mkS_idem markCall_ct markCall_idem l k
theorem cntCallS_le (l : List DCall) : cntCallS l ≤ 20 * sizeCallS l := ctS_le cntCall_le l
def mkCall (a : DCall) (k : Int) : DCall := ⟨a.Key, mkFact a.F k, a.Try⟩
def ctCall (a : DCall) : Nat := ctFact a.F
theorem mkCall_eta (a : DCall) (k : Int) : (⟨a.Key, ⟨a.F.Kind, (mkCall a k).F.Fields⟩, a.Try⟩ : DCall) = mkCall a k := rfl
theorem mkCall_ct (a : DCall) (k : Int) : ctCall (mkCall a k) = ctCall a := by simp only [ctCall, mkCall, mkFact_ct]
theorem mkCall_idem (a : DCall) (k : Int) : mkCall (mkCall a k) k = mkCall a k := by simp only [mkCall, mkFact_ct, mkFact_idem]
theorem ctCall_le (a : DCall) : ctCall a ≤ 20 * sizeCall a := by have := ctFact_le a.F; simp only [ctCall, sizeCall]; omega
def sizeUndo (a : DUndo) : Nat := a.Key.size + sizeFact a.F
def sizeUndoS (l : List DUndo) : Nat := l.length + (l.map sizeUndo).sum
def markUndo (a : DUndo) (k : Int) : DUndo := ⟨markText k, ⟨markText (k + 1), markValS a.F.Fields (k + 1 + 1)⟩⟩
def cntUndo (a : DUndo) : Nat := 1 + 1 + cntValS a.F.Fields
def markUndoS : List DUndo → Int → List DUndo := mkS markUndo cntUndo
def cntUndoS (l : List DUndo) : Nat := ctS cntUndo l
theorem markUndo_ct (a : DUndo) (k : Int) : cntUndo (markUndo a k) = cntUndo a := by simp only [cntUndo, markUndo, markValS_ct]
theorem markUndo_idem (a : DUndo) (k : Int) : markUndo (markUndo a k) k = markUndo a k := by simp only [markUndo, markValS_ct, markValS_idem]
theorem cntUndo_le (a : DUndo) : cntUndo a ≤ 20 * sizeUndo a + 20 := by have := cntValS_le a.F.Fields; simp only [cntUndo, sizeFact, sizeUndo]; omega
theorem markUndoS_ct (l : List DUndo) (k : Int) : cntUndoS (markUndoS l k) = cntUndoS l := mkS_ct markUndo_ct l k
theorem markUndoS_idem (l : List DUndo) (k : Int) : markUndoS (markUndoS l k) k = markUndoS l k := mkS_idem markUndo_ct markUndo_idem l k
theorem cntUndoS_le (l : List DUndo) : cntUndoS l ≤ 20 * sizeUndoS l := ctS_le cntUndo_le l
def mkUndo (a : DUndo) (k : Int) : DUndo := ⟨a.Key, mkFact a.F k⟩
def ctUndo (a : DUndo) : Nat := ctFact a.F
theorem mkUndo_eta (a : DUndo) (k : Int) : (⟨a.Key, ⟨a.F.Kind, (mkUndo a k).F.Fields⟩⟩ : DUndo) = mkUndo a k := rfl
theorem mkUndo_ct (a : DUndo) (k : Int) : ctUndo (mkUndo a k) = ctUndo a := by simp only [ctUndo, mkUndo, mkFact_ct]
theorem mkUndo_idem (a : DUndo) (k : Int) : mkUndo (mkUndo a k) k = mkUndo a k := by simp only [mkUndo, mkFact_ct, mkFact_idem]
theorem ctUndo_le (a : DUndo) : ctUndo a ≤ 20 * sizeUndo a := by have := ctFact_le a.F; simp only [ctUndo, sizeUndo]; omega
def sizeInst (a : DInst) : Nat := sizeStore a.S + sizeMatchS a.Fired + sizeTaskS a.Tasks + sizeTimerS a.Timers + sizeUndoS a.Undos
def sizeInstS (l : List DInst) : Nat := l.length + (l.map sizeInst).sum
def markInst (a : DInst) (k : Int) : DInst := ⟨⟨markItemS a.S.Items k, (k + cntItemS a.S.Items)⟩, markMatchS a.Fired (k + cntItemS a.S.Items + 1), markTaskS a.Tasks (k + cntItemS a.S.Items + 1 + cntMatchS a.Fired), markTimerS a.Timers (k + cntItemS a.S.Items + 1 + cntMatchS a.Fired + cntTaskS a.Tasks), markUndoS a.Undos (k + cntItemS a.S.Items + 1 + cntMatchS a.Fired + cntTaskS a.Tasks + cntTimerS a.Timers), (k + cntItemS a.S.Items + 1 + cntMatchS a.Fired + cntTaskS a.Tasks + cntTimerS a.Timers + cntUndoS a.Undos), (k + cntItemS a.S.Items + 1 + cntMatchS a.Fired + cntTaskS a.Tasks + cntTimerS a.Timers + cntUndoS a.Undos + 1)⟩
def cntInst (a : DInst) : Nat := cntItemS a.S.Items + 1 + cntMatchS a.Fired + cntTaskS a.Tasks + cntTimerS a.Timers + cntUndoS a.Undos + 1 + 1
def markInstS : List DInst → Int → List DInst := mkS markInst cntInst
def cntInstS (l : List DInst) : Nat := ctS cntInst l
theorem markInst_ct (a : DInst) (k : Int) : cntInst (markInst a k) = cntInst a := by simp only [cntInst, markInst, markItemS_ct, markMatchS_ct, markTaskS_ct, markTimerS_ct, markUndoS_ct]
theorem markInst_idem (a : DInst) (k : Int) : markInst (markInst a k) k = markInst a k := by simp only [markInst, markItemS_ct, markItemS_idem, markMatchS_ct, markMatchS_idem, markTaskS_ct, markTaskS_idem, markTimerS_ct, markTimerS_idem, markUndoS_ct, markUndoS_idem]
theorem cntInst_le (a : DInst) : cntInst a ≤ 20 * sizeInst a + 20 := by have := cntItemS_le a.S.Items; have := cntMatchS_le a.Fired; have := cntTaskS_le a.Tasks; have := cntTimerS_le a.Timers; have := cntUndoS_le a.Undos; simp only [cntInst, sizeInst, sizeStore]; omega
theorem markInstS_ct (l : List DInst) (k : Int) : cntInstS (markInstS l k) = cntInstS l := mkS_ct markInst_ct l k
theorem markInstS_idem (l : List DInst) (k : Int) : markInstS (markInstS l k) k = markInstS l k := mkS_idem markInst_ct markInst_idem l k
theorem cntInstS_le (l : List DInst) : cntInstS l ≤ 20 * sizeInstS l := ctS_le cntInst_le l
def mkInst (a : DInst) (k : Int) : DInst := ⟨mkStore a.S k, markMatchS a.Fired (k + ctStore a.S), markTaskS a.Tasks (k + ctStore a.S + cntMatchS a.Fired), markTimerS a.Timers (k + ctStore a.S + cntMatchS a.Fired + cntTaskS a.Tasks), markUndoS a.Undos (k + ctStore a.S + cntMatchS a.Fired + cntTaskS a.Tasks + cntTimerS a.Timers), a.State, a.Now⟩
def ctInst (a : DInst) : Nat := ctStore a.S + cntMatchS a.Fired + cntTaskS a.Tasks + cntTimerS a.Timers + cntUndoS a.Undos
theorem mkInst_eta (a : DInst) (k : Int) : (⟨⟨(mkInst a k).S.Items, a.S.Next⟩, (mkInst a k).Fired, (mkInst a k).Tasks, (mkInst a k).Timers, (mkInst a k).Undos, a.State, a.Now⟩ : DInst) = mkInst a k := rfl
theorem mkInst_ct (a : DInst) (k : Int) : ctInst (mkInst a k) = ctInst a := by simp only [ctInst, mkInst, markMatchS_ct, markTaskS_ct, markTimerS_ct, markUndoS_ct, mkStore_ct]
theorem mkInst_idem (a : DInst) (k : Int) : mkInst (mkInst a k) k = mkInst a k := by simp only [mkInst, markMatchS_ct, markMatchS_idem, markTaskS_ct, markTaskS_idem, markTimerS_ct, markTimerS_idem, markUndoS_ct, markUndoS_idem, mkStore_ct, mkStore_idem]
theorem ctInst_le (a : DInst) : ctInst a ≤ 20 * sizeInst a := by have := ctStore_le a.S; have := cntMatchS_le a.Fired; have := cntTaskS_le a.Tasks; have := cntTimerS_le a.Timers; have := cntUndoS_le a.Undos; simp only [ctInst, sizeInst]; omega
def sizeRun (a : DRun) : Nat := sizeInst a.X + sizeMem a.M
def sizeRunS (l : List DRun) : Nat := l.length + (l.map sizeRun).sum
def markRun (a : DRun) (k : Int) : DRun := ⟨⟨⟨markItemS a.X.S.Items k, (k + cntItemS a.X.S.Items)⟩, markMatchS a.X.Fired (k + cntItemS a.X.S.Items + 1), markTaskS a.X.Tasks (k + cntItemS a.X.S.Items + 1 + cntMatchS a.X.Fired), markTimerS a.X.Timers (k + cntItemS a.X.S.Items + 1 + cntMatchS a.X.Fired + cntTaskS a.X.Tasks), markUndoS a.X.Undos (k + cntItemS a.X.S.Items + 1 + cntMatchS a.X.Fired + cntTaskS a.X.Tasks + cntTimerS a.X.Timers), (k + cntItemS a.X.S.Items + 1 + cntMatchS a.X.Fired + cntTaskS a.X.Tasks + cntTimerS a.X.Timers + cntUndoS a.X.Undos), (k + cntItemS a.X.S.Items + 1 + cntMatchS a.X.Fired + cntTaskS a.X.Tasks + cntTimerS a.X.Timers + cntUndoS a.X.Undos + 1)⟩, ⟨markIdsS a.M.Alphas (k + cntItemS a.X.S.Items + 1 + cntMatchS a.X.Fired + cntTaskS a.X.Tasks + cntTimerS a.X.Timers + cntUndoS a.X.Undos + 1 + 1), markRowS a.M.Rules (k + cntItemS a.X.S.Items + 1 + cntMatchS a.X.Fired + cntTaskS a.X.Tasks + cntTimerS a.X.Timers + cntUndoS a.X.Undos + 1 + 1 + cntIdsS a.M.Alphas)⟩⟩
def cntRun (a : DRun) : Nat := cntItemS a.X.S.Items + 1 + cntMatchS a.X.Fired + cntTaskS a.X.Tasks + cntTimerS a.X.Timers + cntUndoS a.X.Undos + 1 + 1 + cntIdsS a.M.Alphas + cntRowS a.M.Rules
def markRunS : List DRun → Int → List DRun := mkS markRun cntRun
def cntRunS (l : List DRun) : Nat := ctS cntRun l
theorem markRun_ct (a : DRun) (k : Int) : cntRun (markRun a k) = cntRun a := by simp only [cntRun, markRun, markIdsS_ct, markItemS_ct, markMatchS_ct, markRowS_ct, markTaskS_ct, markTimerS_ct, markUndoS_ct]
theorem markRun_idem (a : DRun) (k : Int) : markRun (markRun a k) k = markRun a k := by simp only [markRun, markIdsS_ct, markIdsS_idem, markItemS_ct, markItemS_idem, markMatchS_ct, markMatchS_idem, markRowS_ct, markRowS_idem, markTaskS_ct, markTaskS_idem, markTimerS_ct, markTimerS_idem, markUndoS_ct, markUndoS_idem]
theorem cntRun_le (a : DRun) : cntRun a ≤ 20 * sizeRun a + 20 := by have := cntItemS_le a.X.S.Items; have := cntMatchS_le a.X.Fired; have := cntTaskS_le a.X.Tasks; have := cntTimerS_le a.X.Timers; have := cntUndoS_le a.X.Undos; have := cntIdsS_le a.M.Alphas; have := cntRowS_le a.M.Rules; simp only [cntRun, sizeInst, sizeMem, sizeRun, sizeStore]; omega
theorem markRunS_ct (l : List DRun) (k : Int) : cntRunS (markRunS l k) = cntRunS l := mkS_ct markRun_ct l k
theorem markRunS_idem (l : List DRun) (k : Int) : markRunS (markRunS l k) k = markRunS l k := mkS_idem markRun_ct markRun_idem l k
theorem cntRunS_le (l : List DRun) : cntRunS l ≤ 20 * sizeRunS l := ctS_le cntRun_le l
def mkRun (a : DRun) (k : Int) : DRun := ⟨mkInst a.X k, mkMem a.M (k + ctInst a.X)⟩
def ctRun (a : DRun) : Nat := ctInst a.X + ctMem a.M
theorem mkRun_eta (a : DRun) (k : Int) : (⟨⟨⟨(mkRun a k).X.S.Items, a.X.S.Next⟩, (mkRun a k).X.Fired, (mkRun a k).X.Tasks, (mkRun a k).X.Timers, (mkRun a k).X.Undos, a.X.State, a.X.Now⟩, ⟨(mkRun a k).M.Alphas, (mkRun a k).M.Rules⟩⟩ : DRun) = mkRun a k := rfl
theorem mkRun_ct (a : DRun) (k : Int) : ctRun (mkRun a k) = ctRun a := by simp only [ctRun, mkRun, mkInst_ct, mkMem_ct]
theorem mkRun_idem (a : DRun) (k : Int) : mkRun (mkRun a k) k = mkRun a k := by simp only [mkRun, mkInst_ct, mkInst_idem, mkMem_ct, mkMem_idem]
theorem ctRun_le (a : DRun) : ctRun a ≤ 20 * sizeRun a := by have := ctInst_le a.X; have := ctMem_le a.M; simp only [ctRun, sizeRun]; omega
def sizeOp (a : DOp) : Nat := a.Name.size + a.Text.size + sizeFact a.F + a.Key.size + sizeVal a.V
def sizeOpS (l : List DOp) : Nat := l.length + (l.map sizeOp).sum
def markOp (a : DOp) (k : Int) : DOp := ⟨k, markText (k + 1), markText (k + 1 + 1), ⟨markText (k + 1 + 1 + 1), markValS a.F.Fields (k + 1 + 1 + 1 + 1)⟩, markText (k + 1 + 1 + 1 + 1 + cntValS a.F.Fields), markBool (k + 1 + 1 + 1 + 1 + cntValS a.F.Fields + 1), ⟨(k + 1 + 1 + 1 + 1 + cntValS a.F.Fields + 1 + 1), (k + 1 + 1 + 1 + 1 + cntValS a.F.Fields + 1 + 1 + 1), markText (k + 1 + 1 + 1 + 1 + cntValS a.F.Fields + 1 + 1 + 1 + 1)⟩, (k + 1 + 1 + 1 + 1 + cntValS a.F.Fields + 1 + 1 + 1 + 1 + 1)⟩
def cntOp (a : DOp) : Nat := 1 + 1 + 1 + 1 + cntValS a.F.Fields + 1 + 1 + 1 + 1 + 1 + 1
def markOpS : List DOp → Int → List DOp := mkS markOp cntOp
def cntOpS (l : List DOp) : Nat := ctS cntOp l
theorem markOp_ct (a : DOp) (k : Int) : cntOp (markOp a k) = cntOp a := by simp only [cntOp, markOp, markValS_ct]
theorem markOp_idem (a : DOp) (k : Int) : markOp (markOp a k) k = markOp a k := by simp only [markOp, markValS_ct, markValS_idem]
theorem cntOp_le (a : DOp) : cntOp a ≤ 20 * sizeOp a + 20 := by have := cntValS_le a.F.Fields; simp only [cntOp, sizeFact, sizeOp, sizeVal]; omega
theorem markOpS_ct (l : List DOp) (k : Int) : cntOpS (markOpS l k) = cntOpS l := mkS_ct markOp_ct l k
theorem markOpS_idem (l : List DOp) (k : Int) : markOpS (markOpS l k) k = markOpS l k := mkS_idem markOp_ct markOp_idem l k
theorem cntOpS_le (l : List DOp) : cntOpS l ≤ 20 * sizeOpS l := ctS_le cntOp_le l
def mkOp (a : DOp) (k : Int) : DOp := ⟨a.Kind, a.Name, a.Text, mkFact a.F k, a.Key, a.Ok, a.V, a.N⟩
def ctOp (a : DOp) : Nat := ctFact a.F
theorem mkOp_eta (a : DOp) (k : Int) : (⟨a.Kind, a.Name, a.Text, ⟨a.F.Kind, (mkOp a k).F.Fields⟩, a.Key, a.Ok, a.V, a.N⟩ : DOp) = mkOp a k := rfl
theorem mkOp_ct (a : DOp) (k : Int) : ctOp (mkOp a k) = ctOp a := by simp only [ctOp, mkOp, mkFact_ct]
theorem mkOp_idem (a : DOp) (k : Int) : mkOp (mkOp a k) k = mkOp a k := by simp only [mkOp, mkFact_ct, mkFact_idem]
theorem ctOp_le (a : DOp) : ctOp a ≤ 20 * sizeOp a := by have := ctFact_le a.F; simp only [ctOp, sizeOp]; omega
def sizeWork (a : DWork) : Nat := a.Name.size + a.Def.size + sizeInst a.X
def sizeWorkS (l : List DWork) : Nat := l.length + (l.map sizeWork).sum
def markWork (a : DWork) (k : Int) : DWork := ⟨markText k, markText (k + 1), ⟨⟨markItemS a.X.S.Items (k + 1 + 1), (k + 1 + 1 + cntItemS a.X.S.Items)⟩, markMatchS a.X.Fired (k + 1 + 1 + cntItemS a.X.S.Items + 1), markTaskS a.X.Tasks (k + 1 + 1 + cntItemS a.X.S.Items + 1 + cntMatchS a.X.Fired), markTimerS a.X.Timers (k + 1 + 1 + cntItemS a.X.S.Items + 1 + cntMatchS a.X.Fired + cntTaskS a.X.Tasks), markUndoS a.X.Undos (k + 1 + 1 + cntItemS a.X.S.Items + 1 + cntMatchS a.X.Fired + cntTaskS a.X.Tasks + cntTimerS a.X.Timers), (k + 1 + 1 + cntItemS a.X.S.Items + 1 + cntMatchS a.X.Fired + cntTaskS a.X.Tasks + cntTimerS a.X.Timers + cntUndoS a.X.Undos), (k + 1 + 1 + cntItemS a.X.S.Items + 1 + cntMatchS a.X.Fired + cntTaskS a.X.Tasks + cntTimerS a.X.Timers + cntUndoS a.X.Undos + 1)⟩⟩
def cntWork (a : DWork) : Nat := 1 + 1 + cntItemS a.X.S.Items + 1 + cntMatchS a.X.Fired + cntTaskS a.X.Tasks + cntTimerS a.X.Timers + cntUndoS a.X.Undos + 1 + 1
def markWorkS : List DWork → Int → List DWork := mkS markWork cntWork
def cntWorkS (l : List DWork) : Nat := ctS cntWork l
theorem markWork_ct (a : DWork) (k : Int) : cntWork (markWork a k) = cntWork a := by simp only [cntWork, markWork, markItemS_ct, markMatchS_ct, markTaskS_ct, markTimerS_ct, markUndoS_ct]
theorem markWork_idem (a : DWork) (k : Int) : markWork (markWork a k) k = markWork a k := by simp only [markWork, markItemS_ct, markItemS_idem, markMatchS_ct, markMatchS_idem, markTaskS_ct, markTaskS_idem, markTimerS_ct, markTimerS_idem, markUndoS_ct, markUndoS_idem]
theorem cntWork_le (a : DWork) : cntWork a ≤ 20 * sizeWork a + 20 := by have := cntItemS_le a.X.S.Items; have := cntMatchS_le a.X.Fired; have := cntTaskS_le a.X.Tasks; have := cntTimerS_le a.X.Timers; have := cntUndoS_le a.X.Undos; simp only [cntWork, sizeInst, sizeStore, sizeWork]; omega
theorem markWorkS_ct (l : List DWork) (k : Int) : cntWorkS (markWorkS l k) = cntWorkS l := mkS_ct markWork_ct l k
theorem markWorkS_idem (l : List DWork) (k : Int) : markWorkS (markWorkS l k) k = markWorkS l k := mkS_idem markWork_ct markWork_idem l k
theorem cntWorkS_le (l : List DWork) : cntWorkS l ≤ 20 * sizeWorkS l := ctS_le cntWork_le l
def mkWork (a : DWork) (k : Int) : DWork := ⟨a.Name, a.Def, mkInst a.X k⟩
def ctWork (a : DWork) : Nat := ctInst a.X
theorem mkWork_eta (a : DWork) (k : Int) : (⟨a.Name, a.Def, ⟨⟨(mkWork a k).X.S.Items, a.X.S.Next⟩, (mkWork a k).X.Fired, (mkWork a k).X.Tasks, (mkWork a k).X.Timers, (mkWork a k).X.Undos, a.X.State, a.X.Now⟩⟩ : DWork) = mkWork a k := rfl
theorem mkWork_ct (a : DWork) (k : Int) : ctWork (mkWork a k) = ctWork a := by simp only [ctWork, mkWork, mkInst_ct]
theorem mkWork_idem (a : DWork) (k : Int) : mkWork (mkWork a k) k = mkWork a k := by simp only [mkWork, mkInst_ct, mkInst_idem]
theorem ctWork_le (a : DWork) : ctWork a ≤ 20 * sizeWork a := by have := ctInst_le a.X; simp only [ctWork, sizeWork]; omega
def sizeBook (a : DBook) : Nat := sizeDefS a.Defs + sizeWorkS a.Works
def sizeBookS (l : List DBook) : Nat := l.length + (l.map sizeBook).sum
def markBook (a : DBook) (k : Int) : DBook := ⟨markDefS a.Defs k, markWorkS a.Works (k + cntDefS a.Defs), (k + cntDefS a.Defs + cntWorkS a.Works), (k + cntDefS a.Defs + cntWorkS a.Works + 1)⟩
def cntBook (a : DBook) : Nat := cntDefS a.Defs + cntWorkS a.Works + 1 + 1
def markBookS : List DBook → Int → List DBook := mkS markBook cntBook
def cntBookS (l : List DBook) : Nat := ctS cntBook l
theorem markBook_ct (a : DBook) (k : Int) : cntBook (markBook a k) = cntBook a := by simp only [cntBook, markBook, markDefS_ct, markWorkS_ct]
theorem markBook_idem (a : DBook) (k : Int) : markBook (markBook a k) k = markBook a k := by simp only [markBook, markDefS_ct, markDefS_idem, markWorkS_ct, markWorkS_idem]
theorem cntBook_le (a : DBook) : cntBook a ≤ 20 * sizeBook a + 20 := by have := cntDefS_le a.Defs; have := cntWorkS_le a.Works; simp only [cntBook, sizeBook]; omega
theorem markBookS_ct (l : List DBook) (k : Int) : cntBookS (markBookS l k) = cntBookS l := mkS_ct markBook_ct l k
theorem markBookS_idem (l : List DBook) (k : Int) : markBookS (markBookS l k) k = markBookS l k := mkS_idem markBook_ct markBook_idem l k
theorem cntBookS_le (l : List DBook) : cntBookS l ≤ 20 * sizeBookS l := ctS_le cntBook_le l
def mkBook (a : DBook) (k : Int) : DBook := ⟨markDefS a.Defs k, markWorkS a.Works (k + cntDefS a.Defs), a.Now, a.Ring⟩
def ctBook (a : DBook) : Nat := cntDefS a.Defs + cntWorkS a.Works
theorem mkBook_eta (a : DBook) (k : Int) : (⟨(mkBook a k).Defs, (mkBook a k).Works, a.Now, a.Ring⟩ : DBook) = mkBook a k := rfl
theorem mkBook_ct (a : DBook) (k : Int) : ctBook (mkBook a k) = ctBook a := by simp only [ctBook, mkBook, markDefS_ct, markWorkS_ct]
theorem mkBook_idem (a : DBook) (k : Int) : mkBook (mkBook a k) k = mkBook a k := by simp only [mkBook, markDefS_ct, markDefS_idem, markWorkS_ct, markWorkS_idem]
theorem ctBook_le (a : DBook) : ctBook a ≤ 20 * sizeBook a := by have := cntDefS_le a.Defs; have := cntWorkS_le a.Works; simp only [ctBook, sizeBook]; omega
def sizeSent (a : DSent) : Nat := a.Name.size + sizeCall a.C
def sizeSentS (l : List DSent) : Nat := l.length + (l.map sizeSent).sum
def markSent (a : DSent) (k : Int) : DSent := ⟨markText k, ⟨markText (k + 1), ⟨markText (k + 1 + 1), markValS a.C.F.Fields (k + 1 + 1 + 1)⟩, (k + 1 + 1 + 1 + cntValS a.C.F.Fields)⟩⟩
def cntSent (a : DSent) : Nat := 1 + 1 + 1 + cntValS a.C.F.Fields + 1
def markSentS : List DSent → Int → List DSent := mkS markSent cntSent
def cntSentS (l : List DSent) : Nat := ctS cntSent l
theorem markSent_ct (a : DSent) (k : Int) : cntSent (markSent a k) = cntSent a := by simp only [cntSent, markSent, markValS_ct]
theorem markSent_idem (a : DSent) (k : Int) : markSent (markSent a k) k = markSent a k := by simp only [markSent, markValS_ct, markValS_idem]
theorem cntSent_le (a : DSent) : cntSent a ≤ 20 * sizeSent a + 20 := by have := cntValS_le a.C.F.Fields; simp only [cntSent, sizeCall, sizeFact, sizeSent]; omega
theorem markSentS_ct (l : List DSent) (k : Int) : cntSentS (markSentS l k) = cntSentS l := mkS_ct markSent_ct l k
theorem markSentS_idem (l : List DSent) (k : Int) : markSentS (markSentS l k) k = markSentS l k := mkS_idem markSent_ct markSent_idem l k
theorem cntSentS_le (l : List DSent) : cntSentS l ≤ 20 * sizeSentS l := ctS_le cntSent_le l
def mkSent (a : DSent) (k : Int) : DSent := ⟨a.Name, mkCall a.C k⟩
def ctSent (a : DSent) : Nat := ctCall a.C
theorem mkSent_eta (a : DSent) (k : Int) : (⟨a.Name, ⟨a.C.Key, ⟨a.C.F.Kind, (mkSent a k).C.F.Fields⟩, a.C.Try⟩⟩ : DSent) = mkSent a k := rfl
theorem mkSent_ct (a : DSent) (k : Int) : ctSent (mkSent a k) = ctSent a := by simp only [ctSent, mkSent, mkCall_ct]
theorem mkSent_idem (a : DSent) (k : Int) : mkSent (mkSent a k) k = mkSent a k := by simp only [mkSent, mkCall_ct, mkCall_idem]
theorem ctSent_le (a : DSent) : ctSent a ≤ 20 * sizeSent a := by have := ctCall_le a.C; simp only [ctSent, sizeSent]; omega
end
end AM
