/- Functions of the program with their contracts: put together by gen/link.py for FnUndos. -/
import Derived.Test.YtignnkcjolobgaaDoorAmLib
import Derived.Test.YtignnkcjolobgaaDoorAmModels
import Derived.Test.YtignnkcjolobgaaDoorFUndos
import Derived.Lib.ItoaLen
import Derived.Lib.Join
import Derived.Test.YtignnkcjolobgaaDoorShelf
namespace AM
open Go
set_option linter.unusedVariables false
set_option linter.unusedSimpArgs false
set_option maxRecDepth 100000
noncomputable section
theorem smallV_ok (c : DCur) : valOk (smallV c) = true := by
  unfold smallV; split
  · have := belowV_lt (c := belowC c 2) (n := 3) (by omega)
    simp only [valOk, decide_true, cond_true, Bool.and_true]
    simp only [decide_eq_true_eq]; omega
  · have h := strV_all (belowC c 2) (l := sLsmall) (fun s => decide (s.size ≤ 20) && wordS s) (by decide) (by rfl)
    simp only [valOk]
    simpa using h
def vFit (v : DVal) : Bool := decide (v.S.size ≤ 21)
def fFit (f : DFact) : Prop := f.Kind.size ≤ 13 ∧ f.Fields.length ≤ 6 ∧ f.Fields.all vFit = true
theorem valOk_fit {v : DVal} (h : valOk v = true) : vFit v = true := by
  simp only [valOk] at h
  simp only [vFit, decide_eq_true_eq]
  by_cases h1 : v.K = 1
  · simp [h1] at h; rw [h.2]; simp [noBytes]
  · by_cases h2 : v.K = 2
    · simp [h2] at h; omega
    · simp [h1, h2] at h
theorem valV_fit (c : DCur) : vFit (valV c) = true := by
  unfold valV; split
  · rfl
  · exact strV_all (belowC c 2) (l := sLval) (fun s => decide (s.size ≤ 21)) (by decide) (by rfl)
theorem anyvV_fit (c : DCur) : vFit (anyvV c) = true := by
  have h := valV_fit c
  simp only [anyvV]; split
  · exact h
  · split
    · exact h
    · split
      · exact strV_all _ (l := sLany) (fun s => decide (s.size ≤ 21)) (by decide) (by rfl)
      · exact h
theorem smallsL_all {p : DVal → Bool} (hp : ∀ c, p (smallV c) = true) : ∀ (k : Nat) (l : List DVal) (c : DCur), l.all p = true → (smallsL k l c).all p = true
  | 0, _, _, h => h
  | k + 1, l, c, h => smallsL_all hp k _ _ (by rw [List.all_append, h]; simp [hp])
theorem factV_ok (c : DCur) : factOk (factV c) = true := by
  have h1 := factV_len c
  have h2 := factN_le c
  have h3 : nameOk (factV c).Kind = true := strV_all c (l := sLkind) nameOk (by decide) (by rfl)
  have h4 : (factV c).Fields.all valOk = true := smallsL_all smallV_ok _ _ _ rfl
  simp only [factOk, h3, h4, Bool.and_true, Bool.true_and, decide_eq_true_eq]
  omega
theorem ok_fit {f : DFact} (h : factOk f = true) : fFit f := by
  obtain ⟨h1, h2, h3, h4⟩ := factOk_fields h
  exact ⟨by omega, by omega, List.all_eq_true.2 fun v hv => valOk_fit (List.all_eq_true.1 h2 v hv)⟩
theorem padL_fit {l : List DVal} {c : DCur} (h : l.all vFit = true) (hl : l.length ≤ 6) : (padL l c).1.all vFit = true ∧ (padL l c).1.length ≤ 6 := by
  have hb := belowV_lt (c := c) (n := 2) (by omega)
  by_cases hn : (l.length : Int) < 5 + belowV c 2
  · rw [padL_yes hn]
    refine padL_fit (l := l ++ [valV (belowC c 2)]) ?_ ?_
    · rw [List.all_append, h]; simp [valV_fit]
    · simp only [List.length_append, List.length_cons, List.length_nil]; omega
  · rw [padL_no hn]; exact ⟨h, hl⟩
termination_by 6 - l.length
decreasing_by
  simp only [List.length_append, List.length_cons, List.length_nil]; omega
theorem anyF_fit (c : DCur) : fFit (anyF c) := by
  obtain ⟨h1, h2, h3⟩ := ok_fit (factV_ok c)
  have h5 := (factOk_fields (factV_ok c)).1
  simp only [anyF]; split
  · refine ⟨?_, h2, h3⟩
    have := strV_all (belowC (factC c) 10) (l := sLanyk) (fun s => decide (s.size ≤ 13)) (by decide) (by rfl)
    simpa using this
  · split
    · exact ⟨h1, by simp only [List.length_append, List.length_cons, List.length_nil]; omega, by rw [List.all_append, h3]; simp [anyvV_fit]⟩
    · split
      · exact ⟨h1, (padL_fit h3 h2).2, (padL_fit h3 h2).1⟩
      · exact ⟨h1, h2, h3⟩
theorem vals_size : ∀ {l : List DVal}, l.all vFit = true → sizeValS l ≤ 22 * l.length
  | [], _ => by simp [sizeValS]
  | x :: l, h => by
    simp only [List.all_cons, Bool.and_eq_true] at h
    have h1 := vals_size h.2
    have h2 := h.1
    simp only [vFit, decide_eq_true_eq] at h2
    simp only [sizeValS, List.length_cons, List.map_cons, List.sum_cons, sizeVal] at h1 ⊢
    omega
theorem fit_size {f : DFact} (h : fFit f) : sizeFact f ≤ 145 := by
  obtain ⟨h1, h2, h3⟩ := h
  have := vals_size h3
  simp only [sizeFact]; omega
theorem sumB {α : Type} (f : α → Nat) (B : Nat) : ∀ (l : List α), (∀ x ∈ l, f x ≤ B) → (l.map f).sum ≤ l.length * B
  | [], _ => by simp
  | x :: l, h => by
    have h1 := sumB f B l (fun y hy => h y (List.mem_cons_of_mem _ hy))
    have h2 := h x List.mem_cons_self
    simp only [List.map_cons, List.sum_cons, List.length_cons, Nat.add_mul]; omega
theorem undoS_size {l : List DUndo} {B : Nat} (h : ∀ u ∈ l, sizeUndo u ≤ B) : sizeUndoS l ≤ l.length * (B + 1) := by
  have := sumB sizeUndo B l h
  simp only [sizeUndoS, Nat.mul_add]; omega
theorem factText_size (f : DFact) : (factText f).size ≤ 200 := by
  unfold factText; split
  · rename_i h
    obtain ⟨h1, h2, h3, h4⟩ := factOk_fields h
    have := join_len f.Fields h2
    rw [mkB_size]; simp only [List.length_append, bs_len, valsT, List.length_cons, List.length_nil]; omega
  · simp [noBytes]
theorem nameOk_size {s : ByteArray} (h : nameOk s = true) : s.size ≤ 12 := by
  simp only [nameOk, Bool.and_eq_true, decide_eq_true_eq] at h; omega
theorem pushUndo_mem {l : List DUndo} {t : DTask} {B : Nat} (hB : 400 ≤ B) (h : ∀ u ∈ l, sizeUndo u ≤ B) : ∀ u ∈ (pushUndo l t).1, sizeUndo u ≤ B := by
  unfold pushUndo; split
  · rename_i hc
    simp only [canPush, Bool.and_eq_true] at hc
    intro u hu
    rcases List.mem_append.1 hu with hu | hu
    · exact h u hu
    · rw [List.mem_singleton.1 hu]
      have h1 := factText_size t.F
      have h2 := nameOk_size hc.1.1.2
      have h3 := vals_size (ok_fit hc.1.1.1.2).2.2
      have h4 := (ok_fit hc.1.1.1.2).2.1
      simp only [sizeUndo, sizeFact]; omega
  · exact h
theorem pushUndo_len (l : List DUndo) (t : DTask) : (pushUndo l t).1.length ≤ l.length + 1 := by
  unfold pushUndo; split <;> simp
def sLundo : List ByteArray := [⟨#[114, 101, 102, 117, 110, 100]⟩, ⟨#[99, 97, 110, 99, 101, 108]⟩]
def tUndo (c : DCur) : DTask := ⟨factV c, strV (factC c) sLundo, 0, 0, 0, zVal⟩
def tUndoC (c : DCur) : DCur := strC (factC c) sLundo
theorem cOk_tUndo {c : DCur} (h : cOk c) : cOk (tUndoC c) := cOk_str (cOk_fact h) _
def drawU : Nat → List DUndo → DCur → List DUndo × DCur
  | 0, l, c => (l, c)
  | k + 1, l, c => drawU k (pushUndo l (tUndo c)).1 (tUndoC c)
theorem drawU_ok : ∀ (k : Nat) {l : List DUndo} {c : DCur}, cOk c → (∀ u ∈ l, sizeUndo u ≤ 400) → cOk (drawU k l c).2 ∧ (∀ u ∈ (drawU k l c).1, sizeUndo u ≤ 400) ∧ (drawU k l c).1.length ≤ l.length + k
  | 0, _, _, h, h2 => ⟨h, h2, by simp [drawU]⟩
  | k + 1, l, c, h, h2 => by
    obtain ⟨h3, h4, h5⟩ := drawU_ok k (cOk_tUndo h) (pushUndo_mem (t := tUndo c) (Nat.le_refl 400) h2)
    have := pushUndo_len l (tUndo c)
    exact ⟨h3, h4, by simp only [drawU]; omega⟩
def undosV (c : DCur) : List DUndo := (drawU (belowV c 5).toNat [] (belowC c 5)).1
def undosC (c : DCur) : DCur := (drawU (belowV c 5).toNat [] (belowC c 5)).2
theorem undos_ok {c : DCur} (h : cOk c) : cOk (undosC c) ∧ (∀ u ∈ undosV c, sizeUndo u ≤ 400) ∧ (undosV c).length ≤ 4 := by
  have hb := belowV_lt (c := c) (n := 5) (by omega)
  obtain ⟨h1, h2, h3⟩ := drawU_ok (belowV c 5).toNat (l := []) (cOk_below h 5) (by simp)
  exact ⟨h1, h2, by simp only [List.length_nil] at h3; simp only [undosV]; omega⟩
def bX : ByteArray := ⟨#[120]⟩
def keyL (l : List DUndo) : List ByteArray := [noBytes, (List.getD l 0 zUndo).Key, bX]
noncomputable def anyU (c : DCur) : List DUndo := let l := undosV c; if l = [] then l else
  let k := belowV (undosC c) l.length; let d := belowC (undosC c) l.length; let s := belowV d 8; let e := belowC d 8
  if s = 0 then l.modify k.toNat (fun u => ⟨strV e (keyL l), u.F⟩) else if s = 1 then l.modify k.toNat (fun u => ⟨u.Key, anyF e⟩) else l
noncomputable def anyUC (c : DCur) : DCur := let l := undosV c; if l = [] then undosC c else
  let d := belowC (undosC c) l.length; let s := belowV d 8; let e := belowC d 8
  if s = 0 then strC e (keyL l) else if s = 1 then anyFC e else e
theorem getD_le {l : List DUndo} {B : Nat} (h : ∀ u ∈ l, sizeUndo u ≤ B) : (List.getD l 0 zUndo).Key.size ≤ B := by
  cases l with
  | nil => simp [zUndo, noBytes]
  | cons x r => have := h x List.mem_cons_self; simp only [sizeUndo] at this; simp only [List.getD_cons_zero]; omega
theorem modify_all {α : Type} {p : α → Prop} (f : α → α) (hf : ∀ x, p x → p (f x)) : ∀ (l : List α) (k : Nat), (∀ x ∈ l, p x) → ∀ x ∈ l.modify k f, p x
  | [], k, h => by simp
  | x :: l, 0, h => by
    intro y hy
    simp only [List.modify_zero_cons, List.mem_cons] at hy
    rcases hy with rfl | hy
    · exact hf x (h x List.mem_cons_self)
    · exact h y (List.mem_cons_of_mem _ hy)
  | x :: l, k + 1, h => by
    intro y hy
    simp only [List.modify_succ_cons, List.mem_cons] at hy
    rcases hy with rfl | hy
    · exact h y List.mem_cons_self
    · exact modify_all f hf l k (fun z hz => h z (List.mem_cons_of_mem _ hz)) y hy
theorem asD_undo {a a' : List DUndo} (h : a = a') : asD ([DV.one (Cell.sl Cd.eUndo a)] : List (DV UU)) = asD ([DV.one (Cell.sl Cd.eUndo a')] : List (DV UU)) := by rw [h]
def uFit (u : DUndo) : Prop := u.Key.size ≤ 400 ∧ sizeFact u.F ≤ 400
theorem uFit_of {u : DUndo} (h : sizeUndo u ≤ 400) : uFit u := by simp only [sizeUndo] at h; exact ⟨by omega, by omega⟩
theorem uFit_size {u : DUndo} (h : uFit u) : sizeUndo u ≤ 800 := by obtain ⟨h1, h2⟩ := h; simp only [sizeUndo]; omega
theorem mod_key {l : List DUndo} (k : Nat) {key : ByteArray} (hk : key.size ≤ 400) (h : ∀ u ∈ l, uFit u) : ∀ u ∈ l.modify k (fun u => (⟨key, u.F⟩ : DUndo)), uFit u :=
  modify_all (p := uFit) (fun u => (⟨key, u.F⟩ : DUndo)) (fun u hu => ⟨hk, hu.2⟩) l k h
theorem mod_F {l : List DUndo} (k : Nat) {f : DFact} (hk : sizeFact f ≤ 400) (h : ∀ u ∈ l, uFit u) : ∀ u ∈ l.modify k (fun u => (⟨u.Key, f⟩ : DUndo)), uFit u :=
  modify_all (p := uFit) (fun u => (⟨u.Key, f⟩ : DUndo)) (fun u hu => ⟨hu.1, hk⟩) l k h
theorem anyU_ok {c : DCur} (h : cOk c) : cOk (anyUC c) ∧ (∀ u ∈ anyU c, sizeUndo u ≤ 800) ∧ (anyU c).length ≤ 4 := by
  obtain ⟨h1, h2, h3⟩ := undos_ok h
  have h2' : ∀ u ∈ undosV c, uFit u := fun u hu => uFit_of (h2 u hu)
  have he := cOk_below (cOk_below h1 (undosV c).length) 8
  refine ⟨?_, fun u hu => uFit_size ?_, ?_⟩
  · simp only [anyUC]; split
    · exact h1
    · split
      · exact cOk_str he _
      · split
        · exact cOk_anyF he
        · exact he
  · revert u
    simp only [anyU]; split
    · exact h2'
    · split
      · refine mod_key _ ?_ h2'
        have hk := strV_mem (belowC (belowC (undosC c) (undosV c).length) 8) (l := keyL (undosV c)) (by simp [keyL])
        simp only [keyL, List.mem_cons, List.not_mem_nil, or_false] at hk
        show (strV _ (keyL (undosV c))).size ≤ 400
        rcases hk with hk | hk | hk
        · simp only [keyL]; rw [hk]; simp [noBytes]
        · simp only [keyL]; rw [hk]; exact getD_le h2
        · simp only [keyL]; rw [hk]; decide
      · split
        · exact mod_F _ (Nat.le_trans (fit_size (anyF_fit _)) (by omega)) h2'
        · exact h2'
  · simp only [anyU]; split
    · omega
    · split
      · simp only [List.length_modify]; omega
      · split
        · simp only [List.length_modify]; omega
        · omega
def con_spec_l19Draw : Con UU where
  α := DCur
  md := [.box false]
  of := fun | [.box [.sl .byte a0, .lit (.int .i64 a1), .lit (.int .i64 a2)]] => some ⟨a0, a1, a2⟩ | _ => none
  ds := fun c => [.box [.sl .byte c.b, .lit (.int .i64 c.i), .lit (.int .i64 c.h)]]
  pre := fun c => [cOk c]
  res := fun c => ⟨[.one (.sl .eUndo (undosV c))], true, [.box [.sl .byte ((undosC c)).b, .lit (.int .i64 ((undosC c)).i), .lit (.int .i64 ((undosC c)).h)]]⟩
  law := by intro l x h; (try simp only at h); split at h <;> cases h; rfl
def I_spec_l19Draw_3 (c : DCur) : List DUndo × Int × (List Int × Int × Int × Unit) × Unit → Prop := fun (l, i, cu, _) => 0 ≤ i ∧ i ≤ 4 ∧ cOk ⟨cu.1, cu.2.1, cu.2.2.1⟩ ∧ (∀ u ∈ l, sizeUndo u ≤ 400) ∧ l.length + i ≤ 4 ∧ drawU i.toNat l ⟨cu.1, cu.2.1, cu.2.2.1⟩ = drawU (belowV c 5).toNat [] (belowC c 5)
def μ_spec_l19Draw_3 (c : DCur) : List DUndo × Int × (List Int × Int × Int × Unit) × Unit → Nat := fun (l, i, cu, _) => i.toNat
def ann_spec_l19Draw : con_spec_l19Draw.α → Nat → Option (Ann UU) := fun c => annL [(3, annOf [.slot 3 (3, 1024) (.own .eUndo true), .slot 4 (4, 1024) (.lit (.int .i64)), .box 0 (2000000, 0) [.shr .byte, .lit (.int .i64), .lit (.int .i64)]] (fun _ => I_spec_l19Draw_3 c) (μ_spec_l19Draw_3 c))]
def use_spec_l19Draw : List (FuncId × Con UU) := [(46, con_spec_l1Below), (20, con_spec_l3Draw), (32, con_spec_l1Str), (12, con_spec_PushUndo)]
theorem vc_spec_l19Draw (c : DCur) : goal EE use_spec_l19Draw Go.Proofs.Tryd.f53 con_spec_l19Draw ann_spec_l19Draw c = (let x0 : List ByteArray := [{ data := #[(114 : UInt8), (101 : UInt8), (102 : UInt8), (117 : UInt8), (110 : UInt8), (100 : UInt8)] : ByteArray }, { data := #[(99 : UInt8), (97 : UInt8), (110 : UInt8), (99 : UInt8), (101 : UInt8), (108 : UInt8)] : ByteArray }];
(0 : Int) ≤ c.i ∧
  List.length c.b ≤ (4294967296 : Nat) ∧
    I_spec_l19Draw_3 c ([], belowV c (5 : Int), ((belowC c (5 : Int)).b, (belowC c (5 : Int)).i, (belowC c (5 : Int)).h, PUnit.unit), PUnit.unit) ∧
      ∀ (y : List DUndo × Int × (List Int × Int × Int × PUnit) × PUnit),
        let x1 : DCur := strC (factC { b := y.2.2.1.1, i := y.2.2.1.2.1, h := y.2.2.1.2.2.1 : DCur }) x0;
        let x2 : DCur := { b := y.2.2.1.1, i := y.2.2.1.2.1, h := y.2.2.1.2.2.1 : DCur };
        I_spec_l19Draw_3 c y → bif decide (y.2.1 > (0 : Int)) then cOk x2 ∧ cOk (factC x2) ∧ (1 : Nat) ≤ List.length x0 ∧ sizeUndoS y.1 ≤ (4294967296 : Nat) ∧ List.length (factV x2).Fields ≤ (4294967296 : Nat) ∧ I_spec_l19Draw_3 c ((pushUndo { τ := Cd.eUndo, xs := y.1 : Arr UU }.xs { F := { Kind := (factV x2).Kind, Fields := { τ := Cd.eVal, xs := (factV x2).Fields : Arr UU }.xs : DFact }, Undo := strV (factC x2) x0, State := (0 : Int), Tries := (0 : Int), Due := (0 : Int), V := { K := (0 : Int), N := (0 : Int), S := { data := #[] : ByteArray } : DVal } : DTask }).1, IntKind.wrap IntKind.i64 (y.2.1 - (1 : Int)), (x1.b, x1.i, x1.h, PUnit.unit), PUnit.unit) ∧ μ_spec_l19Draw_3 c ((pushUndo { τ := Cd.eUndo, xs := y.1 : Arr UU }.xs { F := { Kind := (factV x2).Kind, Fields := { τ := Cd.eVal, xs := (factV x2).Fields : Arr UU }.xs : DFact }, Undo := strV (factC x2) x0, State := (0 : Int), Tries := (0 : Int), Due := (0 : Int), V := { K := (0 : Int), N := (0 : Int), S := { data := #[] : ByteArray } : DVal } : DTask }).1, IntKind.wrap IntKind.i64 (y.2.1 - (1 : Int)), (x1.b, x1.i, x1.h, PUnit.unit), PUnit.unit) < μ_spec_l19Draw_3 c y else (0 : Nat) = (0 : Nat) ∧ asD [DV.one (Cell.sl Cd.eUndo y.1)] = asD [DV.one (Cell.sl Cd.eUndo (undosV c))] ∧ asD [DV.box [Cell.sl Cd.byte y.2.2.1.1, Cell.lit (Value.int IntKind.i64 y.2.2.1.2.1), Cell.lit (Value.int IntKind.i64 y.2.2.1.2.2.1)]] = asD [DV.box [Cell.sl Cd.byte (undosC c).b, Cell.lit (Value.int IntKind.i64 (undosC c).i), Cell.lit (Value.int IntKind.i64 (undosC c).h)]]) := by kernel_rfl
theorem ok_spec_l19Draw : Holds EE (53, con_spec_l19Draw) := by
  refine holds_of EE_ok Go.Proofs.Tryd.func53 con_spec_l19Draw (by kernel_rfl) use_spec_l19Draw (all_cons ok_spec_l1Below (all_cons ok_spec_l3Draw (all_cons ok_spec_l1Str (all_cons ok_spec_PushUndo all_nil)))) ann_spec_l19Draw (fun (c : DCur) hp hb => ?_)
  have hb_c : BdDV (U := UU) (.box [.sl .byte c.b, .lit (.int .i64 c.i), .lit (.int .i64 c.h)]) := hb _ (List.mem_cons_self)
  have hl_c_b : c.b.length ≤ 9223372036854775807 := Bd.len (U := UU) (τ := .byte) (xs := c.b) (hb_c _ (by simp))
  have hp0 : cOk c := hp _ (List.mem_cons_self)
  clear hp hb
  rw [vc_spec_l19Draw c]
  dsimp only
  have hb := belowV_lt (c := c) (n := 5) (by omega)
  refine ⟨hp0.1, hp0.2, ⟨by omega, by omega, cOk_below hp0 5, by simp, by simp only [List.length_nil]; omega, rfl⟩, ?_⟩
  rintro ⟨l, i, ⟨cb, ci, ch, ⟨⟩⟩, ⟨⟩⟩ ⟨g1, g2, g3, g4, g5, g6⟩
  simp only at g1 g2 g3 g4 g5 g6 ⊢
  refine if_cond (fun hc => ?_) (fun hc => ?_)
  · have hc := of_decide_eq_true hc
    have e : i.toNat = (i - 1).toNat + 1 := by omega
    rw [e] at g6
    have hs := undoS_size g4
    have hf := cOk_fact g3
    have hl := (factOk_fields (factV_ok ⟨cb, ci, ch⟩)).1
    have hq := pushUndo_len l (tUndo ⟨cb, ci, ch⟩)
    rw [wrap_i64 (by omega) (by omega)]
    refine ⟨g3, hf, by simp, by omega, by omega, ⟨by omega, by omega, cOk_tUndo g3, pushUndo_mem (t := tUndo ⟨cb, ci, ch⟩) (Nat.le_refl 400) g4, ?_, g6⟩, by simp only [μ_spec_l19Draw_3]; omega⟩
    have hq' : ((pushUndo l (tUndo ⟨cb, ci, ch⟩)).1.length : Int) ≤ l.length + 1 := by omega
    exact Int.le_trans (Int.add_le_add_right hq' (i - 1)) (by omega)
  · have hc := of_decide_eq_false hc
    have e : i.toNat = 0 := by omega
    rw [e] at g6
    have g7 : l = undosV c := congrArg Prod.fst g6
    have g8 : (⟨cb, ci, ch⟩ : DCur) = undosC c := congrArg Prod.snd g6
    rw [← g7, ← g8]
    exact ⟨by trivial, rfl, rfl⟩
def con_spec_l19Any : Con UU where
  α := DCur
  md := [.box false]
  of := fun | [.box [.sl .byte a0, .lit (.int .i64 a1), .lit (.int .i64 a2)]] => some ⟨a0, a1, a2⟩ | _ => none
  ds := fun c => [.box [.sl .byte c.b, .lit (.int .i64 c.i), .lit (.int .i64 c.h)]]
  pre := fun c => [cOk c]
  res := fun c => ⟨[.one (.sl .eUndo (anyU c))], true, [.box [.sl .byte ((anyUC c)).b, .lit (.int .i64 ((anyUC c)).i), .lit (.int .i64 ((anyUC c)).h)]]⟩
  law := by intro l x h; (try simp only at h); split at h <;> cases h; rfl
def ann_spec_l19Any : con_spec_l19Any.α → Nat → Option (Ann UU) := fun c => annL []
def use_spec_l19Any : List (FuncId × Con UU) := [(53, con_spec_l19Draw), (46, con_spec_l1Below), (32, con_spec_l1Str), (31, con_spec_l3Any)]
theorem vc_spec_l19Any (c : DCur) : goal EE use_spec_l19Any Go.Proofs.Tryd.f30 con_spec_l19Any ann_spec_l19Any c = (let x0 : DCur := strC (belowC (belowC (undosC c) (↑(List.length (undosV c)) : Int)) (8 : Int)) [{ data := #[] : ByteArray }, (List.getD (undosV c) (nat_lit 0) zUndo).Key, { data := #[(120 : UInt8)] : ByteArray }];
let x1 : DCur := belowC (belowC (undosC c) (↑(List.length (undosV c)) : Int)) (8 : Int);
let x2 : List ByteArray := [{ data := #[] : ByteArray }, (List.getD (undosV c) (nat_lit 0) zUndo).Key, { data := #[(120 : UInt8)] : ByteArray }];
let x3 : Nat := Int.toNat (belowV (undosC c) (↑(List.length (undosV c)) : Int));
let x4 : DCur := belowC (undosC c) (↑(List.length (undosV c)) : Int);
cOk c ∧ bif (↑(List.length (undosV c)) : Int) == (0 : Int) then (0 : Nat) = (0 : Nat) ∧ asD [DV.one (Cell.sl Cd.eUndo (undosV c))] = asD [DV.one (Cell.sl Cd.eUndo (anyU c))] ∧ asD [DV.box [Cell.sl Cd.byte (undosC c).b, Cell.lit (Value.int IntKind.i64 (undosC c).i), Cell.lit (Value.int IntKind.i64 (undosC c).h)]] = asD [DV.box [Cell.sl Cd.byte (anyUC c).b, Cell.lit (Value.int IntKind.i64 (anyUC c).i), Cell.lit (Value.int IntKind.i64 (anyUC c).h)]] else (0 : Int) ≤ (undosC c).i ∧ List.length (undosC c).b ≤ (4294967296 : Nat) ∧ (0 : Int) ≤ x4.i ∧ List.length x4.b ≤ (4294967296 : Nat) ∧ bif belowV x4 (8 : Int) == (0 : Int) then (0 : Int) ≤ (0 : Int) ∧ Int.toNat (0 : Int) < List.length (undosV c) ∧ nat_lit 0 < List.length (undosV c) ∧ cOk x1 ∧ (1 : Nat) ≤ List.length x2 ∧ (0 : Int) ≤ belowV (undosC c) (↑(List.length (undosV c)) : Int) ∧ x3 < List.length (undosV c) ∧ x3 < List.length (undosV c) ∧ (0 : Nat) = (0 : Nat) ∧ asD [DV.one (Cell.sl Cd.eUndo (List.modify (undosV c) x3 fun (x : DUndo) => { Key := strV x1 x2, F := x.F : DUndo }))] = asD [DV.one (Cell.sl Cd.eUndo (anyU c))] ∧ asD [DV.box [Cell.sl Cd.byte x0.b, Cell.lit (Value.int IntKind.i64 x0.i), Cell.lit (Value.int IntKind.i64 x0.h)]] = asD [DV.box [Cell.sl Cd.byte (anyUC c).b, Cell.lit (Value.int IntKind.i64 (anyUC c).i), Cell.lit (Value.int IntKind.i64 (anyUC c).h)]] else bif belowV x4 (8 : Int) == (1 : Int) then cOk x1 ∧ (0 : Int) ≤ belowV (undosC c) (↑(List.length (undosV c)) : Int) ∧ x3 < List.length (undosV c) ∧ x3 < List.length (undosV c) ∧ (0 : Nat) = (0 : Nat) ∧ asD [DV.one (Cell.sl Cd.eUndo (List.modify (undosV c) x3 fun (x : DUndo) => { Key := x.Key, F := anyF x1 : DUndo }))] = asD [DV.one (Cell.sl Cd.eUndo (anyU c))] ∧ asD [DV.box [Cell.sl Cd.byte (anyFC x1).b, Cell.lit (Value.int IntKind.i64 (anyFC x1).i), Cell.lit (Value.int IntKind.i64 (anyFC x1).h)]] = asD [DV.box [Cell.sl Cd.byte (anyUC c).b, Cell.lit (Value.int IntKind.i64 (anyUC c).i), Cell.lit (Value.int IntKind.i64 (anyUC c).h)]] else (0 : Nat) = (0 : Nat) ∧ asD [DV.one (Cell.sl Cd.eUndo (undosV c))] = asD [DV.one (Cell.sl Cd.eUndo (anyU c))] ∧ asD [DV.box [Cell.sl Cd.byte x1.b, Cell.lit (Value.int IntKind.i64 x1.i), Cell.lit (Value.int IntKind.i64 x1.h)]] = asD [DV.box [Cell.sl Cd.byte (anyUC c).b, Cell.lit (Value.int IntKind.i64 (anyUC c).i), Cell.lit (Value.int IntKind.i64 (anyUC c).h)]]) := by kernel_rfl
theorem ok_spec_l19Any : Holds EE (30, con_spec_l19Any) := by
  refine holds_of EE_ok Go.Proofs.Tryd.func30 con_spec_l19Any (by kernel_rfl) use_spec_l19Any (all_cons ok_spec_l19Draw (all_cons ok_spec_l1Below (all_cons ok_spec_l1Str (all_cons ok_spec_l3Any all_nil)))) ann_spec_l19Any (fun (c : DCur) hp hb => ?_)
  have hb_c : BdDV (U := UU) (.box [.sl .byte c.b, .lit (.int .i64 c.i), .lit (.int .i64 c.h)]) := hb _ (List.mem_cons_self)
  have hl_c_b : c.b.length ≤ 9223372036854775807 := Bd.len (U := UU) (τ := .byte) (xs := c.b) (hb_c _ (by simp))
  have hp0 : cOk c := hp _ (List.mem_cons_self)
  clear hp hb
  rw [vc_spec_l19Any c]
  dsimp only
  obtain ⟨h1, h2, h3⟩ := undos_ok hp0
  refine ⟨hp0, if_cond (fun h => ?_) (fun h => ?_)⟩
  · have h : undosV c = [] := List.eq_nil_of_length_eq_zero (by have := eq_of_beq h; omega)
    have e1 : anyU c = undosV c := by simp only [anyU]; rw [if_pos h]
    have e2 : anyUC c = undosC c := by simp only [anyUC]; rw [if_pos h]
    rw [e2]; exact ⟨by trivial, asD_undo e1.symm, rfl⟩
  have hn : ¬ undosV c = [] := by intro e; rw [e] at h; simp at h
  have hl : 0 < (undosV c).length := List.length_pos_iff.2 hn
  have hb := belowV_lt (c := undosC c) (n := (undosV c).length) (by omega)
  have hd := cOk_below h1 (undosV c).length
  have he := cOk_below hd 8
  refine ⟨h1.1, h1.2, hd.1, hd.2, if_cond (fun g => ?_) (fun g => if_cond (fun g' => ?_) (fun g' => ?_))⟩
  · have g := eq_of_beq g
    have e1 : anyU c = (undosV c).modify (belowV (undosC c) (undosV c).length).toNat (fun u => ⟨strV (belowC (belowC (undosC c) (undosV c).length) 8) (keyL (undosV c)), u.F⟩) := by simp only [anyU]; rw [if_neg hn, if_pos g]
    have e2 : anyUC c = strC (belowC (belowC (undosC c) (undosV c).length) 8) (keyL (undosV c)) := by simp only [anyUC]; rw [if_neg hn, if_pos g]
    rw [e2]
    exact ⟨by omega, by simpa using hl, hl, he, by simp, hb.1, by omega, by omega, by trivial, asD_undo e1.symm, rfl⟩
  · have g : ¬ belowV (belowC (undosC c) (undosV c).length) 8 = 0 := by simpa using g
    have g' := eq_of_beq g'
    have e1 : anyU c = (undosV c).modify (belowV (undosC c) (undosV c).length).toNat (fun u => ⟨u.Key, anyF (belowC (belowC (undosC c) (undosV c).length) 8)⟩) := by simp only [anyU]; rw [if_neg hn, if_neg g, if_pos g']
    have e2 : anyUC c = anyFC (belowC (belowC (undosC c) (undosV c).length) 8) := by simp only [anyUC]; rw [if_neg hn, if_neg g, if_pos g']
    rw [e2]
    repeat' (first | exact asD_undo e1.symm | exact rfl | refine And.intro (by first | exact asD_undo e1.symm | exact he | exact hb.1 | omega | trivial) ?_)
  · have g : ¬ belowV (belowC (undosC c) (undosV c).length) 8 = 0 := by simpa using g
    have g' : ¬ belowV (belowC (undosC c) (undosV c).length) 8 = 1 := by simpa using g'
    have e1 : anyU c = undosV c := by simp only [anyU]; rw [if_neg hn, if_neg g, if_neg g']
    have e2 : anyUC c = belowC (belowC (undosC c) (undosV c).length) 8 := by simp only [anyUC]; rw [if_neg hn, if_neg g, if_neg g']
    rw [e2]; exact ⟨by trivial, asD_undo e1.symm, rfl⟩
def bendK (l : List ByteArray) (k : Int) : List ByteArray := if k = 0 then l ++ [bX] else if k = 1 then (if 1 < l.length then (l.set 0 (List.getD l 1 noBytes)).set 1 (List.getD l 0 noBytes) else l) else l
theorem Lf_uk {a a' : List DUndo} {b b' : List ByteArray} (h1 : a = a') (h2 : b = b') : Lf [.one (.sl .eUndo a), .one (.sl .str b)] [.one (.sl .eUndo a'), .one (.sl .str b')] := by
  subst h1 h2; exact Lf_rfl _
noncomputable def drawnK (code : List Int) : List ByteArray := bendK ((anyU (newCur code)).reverse.map DUndo.Key) (belowV (anyUC (newCur code)) 4)
def newTask (f : DFact) (undo : ByteArray) (now : Int) : DTask := ⟨f, undo, 1, 0, now, zVal⟩
def hasTask (l : List DTask) (f : DFact) : Bool := anyI l.length fun k => decide ((List.getD l k zTask).F = f)
def startL (l : List DTask) (f : DFact) (undo : ByteArray) (now : Int) : List DTask × Bool :=
  if hasTask l f = true then (l, true) else if 30 ≤ l.length then (l, false) else (l ++ [newTask f undo now], true)
def canStart (l : List DTask) (f : DFact) (undo : ByteArray) (now : Int) : Bool := tasksOk l && factOk f && undoOk undo && decide (0 ≤ now ∧ now ≤ 1000000000)
def startTask (l : List DTask) (f : DFact) (undo : ByteArray) (now : Int) : List DTask × Bool := if canStart l f undo now = true then startL l f undo now else (l, false)
theorem startL_ct (l : List DTask) (f : DFact) (undo : ByteArray) (now : Int) : cntTaskS (startL l f undo now).1 ≤ cntTaskS l + 20 * (sizeFact f + undo.size) + 20 := by
  have h := cntTask_le (newTask f undo now)
  simp only [sizeTask, newTask] at h
  have hz : sizeVal zVal = 0 := rfl
  rw [hz] at h
  unfold startL
  split
  · show cntTaskS l ≤ _; omega
  · split
    · show cntTaskS l ≤ _; omega
    · show ctS cntTask (l ++ [newTask f undo now]) ≤ _
      rw [ctS_append]
      have : ctS cntTask [newTask f undo now] = cntTask (newTask f undo now) := by simp [ctS]
      have hc : cntTaskS l = ctS cntTask l := rfl
      rw [this, hc]
      simp only [newTask] at h ⊢
      omega
theorem startTask_ct (l : List DTask) (f : DFact) (undo : ByteArray) (now : Int) : cntTaskS (startTask l f undo now).1 ≤ cntTaskS l + 20 * (sizeFact f + undo.size) + 20 := by
  unfold startTask
  split
  · exact startL_ct l f undo now
  · show cntTaskS l ≤ _; omega
theorem placeOf_ge (l : List DTask) (f : DFact) : decide (0 ≤ placeOf l f) = hasTask l f := idxI_ge
theorem tasksOk_len {l : List DTask} (h : tasksOk l = true) : l.length ≤ 30 := by
  simp only [tasksOk, Bool.and_eq_true, decide_eq_true_eq] at h; exact h.1
theorem tasksOk_iff {l : List DTask} : tasksOk l = true ↔ l.length ≤ 30 ∧ (∀ t ∈ l, taskOk t = true) ∧ (l.map DTask.F).Nodup := by
  have hg : ∀ {i : Nat} (h : i < l.length), List.getD l i zTask = l[i] := fun {i} h => by rw [List.getD_eq_getElem?_getD, List.getElem?_eq_getElem h]; rfl
  simp only [tasksOk, Bool.and_eq_true, decide_eq_true_eq]
  refine and_congr_right fun _ => ?_
  rw [allI_iff]
  constructor
  · intro h
    refine ⟨fun t ht => ?_, ?_⟩
    · obtain ⟨i, hi, rfl⟩ := List.getElem_of_mem ht
      have := h i hi
      simp only [taskAt, Bool.and_eq_true] at this
      rw [← hg hi]; exact this.1
    · rw [List.Nodup, List.pairwise_iff_getElem]
      intro i j hi hj hij
      simp only [List.length_map] at hi hj
      have := h j hj
      simp only [taskAt, Bool.and_eq_true, Bool.not_eq_true'] at this
      have := anyI_not.1 this.2 i hij
      simp only [decide_eq_false_iff_not] at this
      rw [hg hi, hg hj] at this
      simpa using this
  · rintro ⟨h1, h2⟩ j hj
    simp only [taskAt, Bool.and_eq_true, Bool.not_eq_true']
    refine ⟨by rw [hg hj]; exact h1 _ (List.getElem_mem hj), anyI_not.2 fun i hij => ?_⟩
    have hi : i < l.length := by omega
    rw [List.Nodup, List.pairwise_iff_getElem] at h2
    have := h2 i j (by simpa using hi) (by simpa using hj) hij
    simp only [decide_eq_false_iff_not]
    rw [hg hi, hg hj]
    simpa using this
theorem tasksOk_map {l : List DTask} {f : DTask → DTask} (hF : ∀ t, (f t).F = t.F) (hf : ∀ t, taskOk t = true → taskOk (f t) = true) (h : tasksOk l = true) : tasksOk (l.map f) = true := by
  rw [tasksOk_iff] at h ⊢
  refine ⟨by simpa using h.1, fun t ht => ?_, ?_⟩
  · obtain ⟨t0, h0, rfl⟩ := List.mem_map.1 ht
    exact hf _ (h.2.1 _ h0)
  · rw [List.map_map]
    have : DTask.F ∘ f = DTask.F := funext hF
    rw [this]; exact h.2.2
theorem map_modify_same {α β : Type} (g : α → β) (f : α → α) (hg : ∀ x, g (f x) = g x) : ∀ (l : List α) (k : Nat), (l.modify k f).map g = l.map g
  | [], k => by simp
  | x :: l, 0 => by simp [hg]
  | x :: l, k + 1 => by simp [map_modify_same g f hg l k]
theorem tasksOk_modify {l : List DTask} {f : DTask → DTask} {k : Nat} (hF : ∀ t, (f t).F = t.F) (hk : k < l.length) (hf : taskOk (f (List.getD l k zTask)) = true) (h : tasksOk l = true) : tasksOk (l.modify k f) = true := by
  rw [tasksOk_iff] at h ⊢
  refine ⟨by simpa using h.1, fun t ht => ?_, by rw [map_modify_same _ _ hF]; exact h.2.2⟩
  obtain ⟨i, hi, rfl⟩ := List.getElem_of_mem ht
  have hi' : i < l.length := by simpa using hi
  rw [List.getElem_modify]
  split
  · rename_i hki
    subst hki
    rw [List.getD_eq_getElem?_getD, List.getElem?_eq_getElem hk] at hf
    exact hf
  · exact h.2.1 _ (List.getElem_mem hi')
theorem taskOk_iff {t : DTask} : taskOk t = true ↔ factOk t.F = true ∧ undoOk t.Undo = true ∧ (1 ≤ t.State ∧ t.State ≤ 4) ∧ (0 ≤ t.Tries ∧ t.Tries ≤ 4) ∧ (0 ≤ t.Due ∧ t.Due ≤ 1000001000) ∧ (t.V = zVal ∨ valOk t.V = true) ∧ ((t.State = 1 → t.Tries = 0) ∧ (t.State = 2 → t.Tries ≠ 0)) := by
  simp only [taskOk, Bool.and_eq_true, Bool.or_eq_true, decide_eq_true_eq]
  constructor
  · rintro ⟨⟨⟨⟨⟨⟨h1, h2⟩, h3⟩, h4⟩, h5⟩, h6⟩, h7⟩; exact ⟨h1, h2, h3, h4, h5, h6, h7⟩
  · rintro ⟨h1, h2, h3, h4, h5, h6, h7⟩; exact ⟨⟨⟨⟨⟨⟨h1, h2⟩, h3⟩, h4⟩, h5⟩, h6⟩, h7⟩
theorem send1_F (now : Int) (t : DTask) : (send1 now t).F = t.F := by unfold send1; split; split <;> rfl; rfl
theorem send1_ok {now : Int} (h0 : 0 ≤ now) (h1 : now ≤ 1000000000) (t : DTask) (h : taskOk t = true) : taskOk (send1 now t) = true := by
  obtain ⟨a1, a2, a3, a4, a5, a6, a7⟩ := taskOk_iff.1 h
  unfold send1; split
  · split
    · exact taskOk_iff.2 ⟨a1, a2, by simp, a4, a5, a6, by simp⟩
    · have hb := backoff_le (t.Tries + 1)
      exact taskOk_iff.2 ⟨a1, a2, by simp, by simp only; omega, by simp only; omega, a6, by simp only; omega⟩
  · exact h
theorem tasksOk_send {l : List DTask} {now : Int} (h0 : 0 ≤ now) (h1 : now ≤ 1000000000) (h : tasksOk l = true) : tasksOk (l.map (send1 now)) = true := tasksOk_map (send1_F now) (send1_ok h0 h1) h
theorem giveUp1_F (t : DTask) : (giveUp1 t).F = t.F := by unfold giveUp1; split <;> rfl
theorem tasksOk_giveUp {l : List DTask} (h : tasksOk l = true) : tasksOk (giveUp l) = true := by
  refine tasksOk_map giveUp1_F (fun t h => ?_) h
  obtain ⟨a1, a2, a3, a4, a5, a6, a7⟩ := taskOk_iff.1 h
  unfold giveUp1; split
  · exact taskOk_iff.2 ⟨a1, a2, by simp, a4, a5, a6, by simp⟩
  · exact h
theorem tasksOk_reply {l : List DTask} {key : ByteArray} {ok : Bool} {v : DVal} (h : tasksOk l = true) : tasksOk (replyTask l key ok v).1 = true := by
  unfold replyTask; split
  · rename_i hc
    split
    · have hk := taskAtKey_lt (l := l) (key := key) hc.2.2.1
      refine tasksOk_modify (fun _ => rfl) hk ?_ h
      obtain ⟨a1, a2, a3, a4, a5, a6, a7⟩ := taskOk_iff.1 (tasksOk_at h hk)
      refine taskOk_iff.2 ⟨a1, a2, ?_, a4, a5, .inr hc.2.1, ?_⟩
      · simp only [replied]; split <;> omega
      · simp only [replied]; split <;> simp
    · exact h
  · exact h
theorem hasTask_mem {l : List DTask} {f : DFact} : hasTask l f = true ↔ f ∈ l.map DTask.F := by
  simp only [hasTask, anyI_iff, decide_eq_true_eq, List.mem_map]
  constructor
  · rintro ⟨j, hj, rfl⟩
    rw [List.getD_eq_getElem?_getD, List.getElem?_eq_getElem hj]
    exact ⟨l[j], List.getElem_mem hj, rfl⟩
  · rintro ⟨t, ht, rfl⟩
    obtain ⟨i, hi, rfl⟩ := List.getElem_of_mem ht
    exact ⟨i, hi, by rw [List.getD_eq_getElem?_getD, List.getElem?_eq_getElem hi]; rfl⟩
theorem tasksOk_start {l : List DTask} {f : DFact} {u : ByteArray} {now : Int} (h : tasksOk l = true) (hf : factOk f = true) (hu : undoOk u = true) (h0 : 0 ≤ now) (h1 : now ≤ 1000001000) : tasksOk (startL l f u now).1 = true := by
  unfold startL; split
  · exact h
  · rename_i hn
    split
    · exact h
    · rename_i hl
      rw [tasksOk_iff] at h ⊢
      refine ⟨by simp only [List.length_append, List.length_cons, List.length_nil]; omega, fun t ht => ?_, ?_⟩
      · rcases List.mem_append.1 ht with ht | ht
        · exact h.2.1 t ht
        · rw [List.mem_singleton.1 ht]
          exact taskOk_iff.2 ⟨hf, hu, by simp [newTask], by simp [newTask], by simp only [newTask]; omega, .inl rfl, by simp [newTask]⟩
      · rw [List.map_append, List.nodup_append]
        refine ⟨h.2.2, by simp, ?_⟩
        intro x hx y hy e
        rw [hasTask_mem] at hn
        simp only [List.map_cons, List.map_nil, List.mem_singleton] at hy
        rw [hy] at e; rw [e] at hx; exact hn hx
theorem startL_len (l : List DTask) (f : DFact) (u : ByteArray) (now : Int) : (startL l f u now).1.length ≤ l.length + 1 := by
  unfold startL; split
  · simp
  · split <;> simp
theorem reply_len (l : List DTask) (key : ByteArray) (ok : Bool) (v : DVal) : (replyTask l key ok v).1.length = l.length := by
  unfold replyTask; split
  · split <;> simp
  · rfl
def tFit (t : DTask) : Prop := sizeFact t.F ≤ 145 ∧ t.Undo.size ≤ 21 ∧ vFit t.V = true
theorem tFit_of {t : DTask} (h : taskOk t = true) : tFit t := by
  obtain ⟨a1, a2, a3, a4, a5, a6, a7⟩ := taskOk_iff.1 h
  refine ⟨fit_size (ok_fit a1), ?_, ?_⟩
  · simp only [undoOk, Bool.or_eq_true, decide_eq_true_eq] at a2
    rcases a2 with a2 | a2
    · rw [a2]; simp [noBytes]
    · have := nameOk_size a2; omega
  · rcases a6 with a6 | a6
    · rw [a6]; rfl
    · exact valOk_fit a6
theorem tFit_size {t : DTask} (h : tFit t) : sizeTask t ≤ 187 := by
  obtain ⟨h1, h2, h3⟩ := h
  simp only [vFit, decide_eq_true_eq] at h3
  simp only [sizeTask, sizeVal]; omega
theorem taskS_size {l : List DTask} (h : ∀ t ∈ l, tFit t) : sizeTaskS l ≤ l.length * 188 := by
  have := sumB sizeTask 187 l (fun t ht => tFit_size (h t ht))
  simp only [sizeTaskS]; omega
def sLu : List ByteArray := [⟨#[]⟩, ⟨#[114, 101, 102, 117, 110, 100]⟩]
def dT1 (l : List DTask) (now : Int) (d : DCur) : List DTask := (startL l (factV d) (strV (factC d) sLu) now).1
def dT3 (l : List DTask) (d : DCur) : List DTask :=
  let e := belowC d l.length
  (replyTask l (factText (List.getD l (belowV d l.length).toNat zTask).F) (!onceV e 3) (smallV (belowC e 3))).1
def dT (l : List DTask) (now : Int) (c : DCur) : List DTask :=
  let k := belowV c 4; let d := belowC c 4
  if k = 0 ∨ k = 1 then dT1 l now d else if k = 2 then l.map (send1 (now + belowV d 40)) else if 0 < l.length then dT3 l d else l
def dN (now : Int) (c : DCur) : Int := if belowV c 4 = 2 then now + belowV (belowC c 4) 40 else now
def dC (n : Nat) (c : DCur) : DCur :=
  let k := belowV c 4; let d := belowC c 4
  if k = 0 ∨ k = 1 then strC (factC d) sLu else if k = 2 then belowC d 40 else if 0 < n then smallC (belowC (belowC d n) 3) else d
def drawT : Nat → List DTask → Int → DCur → List DTask × DCur
  | 0, l, _, c => (l, c)
  | k + 1, l, now, c => drawT k (dT l now c) (dN now c) (dC l.length c)
theorem cOk_dC {n : Nat} {c : DCur} (h : cOk c) : cOk (dC n c) := by
  have h4 := cOk_below h 4
  simp only [dC]; split
  · exact cOk_str (cOk_fact h4) _
  · split
    · exact cOk_below h4 _
    · split
      · exact cOk_small (cOk_below (cOk_below h4 _) _)
      · exact h4
theorem undo_str (c : DCur) : undoOk (strV c sLu) = true := strV_all c undoOk (by decide) (by rfl)
theorem dN_le (now : Int) (c : DCur) : now ≤ dN now c ∧ dN now c ≤ now + 39 := by
  have := belowV_lt (c := belowC c 4) (n := 40) (by omega)
  unfold dN; split <;> omega
theorem dT_ok {l : List DTask} {now : Int} {c : DCur} (h : tasksOk l = true) (h0 : 0 ≤ now) (h1 : now ≤ 1000) : tasksOk (dT l now c) = true ∧ (dT l now c).length ≤ l.length + 1 := by
  have hb := belowV_lt (c := belowC c 4) (n := 40) (by omega)
  simp only [dT]; split
  · exact ⟨tasksOk_start h (factV_ok _) (undo_str _) h0 (by omega), startL_len _ _ _ _⟩
  · split
    · exact ⟨tasksOk_send (by omega) (by omega) h, by simp⟩
    · split
      · exact ⟨tasksOk_reply h, by simp only [dT3]; rw [reply_len]; omega⟩
      · exact ⟨h, by omega⟩
theorem drawT_ok : ∀ (k : Nat) {l : List DTask} {now : Int} {c : DCur}, cOk c → tasksOk l = true → 0 ≤ now → now + 39 * k ≤ 1000 → cOk (drawT k l now c).2 ∧ tasksOk (drawT k l now c).1 = true ∧ (drawT k l now c).1.length ≤ l.length + k
  | 0, _, _, _, h, h2, _, _ => ⟨h, h2, by simp [drawT]⟩
  | k + 1, l, now, c, h, h2, h3, h4 => by
    have hn := dN_le now c
    obtain ⟨t1, t2⟩ := dT_ok (c := c) h2 h3 (by omega)
    obtain ⟨h3, h4, h5⟩ := drawT_ok k (l := dT l now c) (now := dN now c) (c := dC l.length c) (cOk_dC h) t1 (by omega) (by omega)
    exact ⟨h3, h4, by simp only [drawT]; omega⟩
def tasksV (c : DCur) : List DTask := (drawT (belowV c 8).toNat [] 0 (belowC c 8)).1
def tasksC (c : DCur) : DCur := (drawT (belowV c 8).toNat [] 0 (belowC c 8)).2
theorem tasks_ok {c : DCur} (h : cOk c) : cOk (tasksC c) ∧ tasksOk (tasksV c) = true ∧ (tasksV c).length ≤ 7 := by
  have hb := belowV_lt (c := c) (n := 8) (by omega)
  obtain ⟨h1, h2, h3⟩ := drawT_ok (belowV c 8).toNat (l := []) (now := 0) (cOk_below h 8) rfl (by omega) (by omega)
  exact ⟨h1, h2, by simp only [List.length_nil] at h3; simp only [tasksV]; omega⟩
theorem if_eq {a b : Int} {P Q : Prop} (h1 : a = b → P) (h2 : ¬ a = b → Q) : bif a == b then P else Q := if_cond (fun h => h1 (eq_of_beq h)) (fun h => h2 (fun e => by rw [e] at h; simp at h))
theorem dT_1 {l : List DTask} {now : Int} {c : DCur} (h : belowV c 4 = 0 ∨ belowV c 4 = 1) : dT l now c = dT1 l now (belowC c 4) ∧ dN now c = now ∧ dC l.length c = strC (factC (belowC c 4)) sLu :=
  ⟨by simp only [dT]; rw [if_pos h], by rw [dN, if_neg (by omega)], by simp only [dC]; rw [if_pos h]⟩
theorem dT_2 {l : List DTask} {now : Int} {c : DCur} (h : belowV c 4 = 2) : dT l now c = l.map (send1 (now + belowV (belowC c 4) 40)) ∧ dN now c = now + belowV (belowC c 4) 40 ∧ dC l.length c = belowC (belowC c 4) 40 :=
  ⟨by simp only [dT]; rw [if_neg (by omega), if_pos h], by rw [dN, if_pos h], by simp only [dC]; rw [if_neg (by omega), if_pos h]⟩
theorem dT_3 {l : List DTask} {now : Int} {c : DCur} (h0 : ¬ belowV c 4 = 0) (h1 : ¬ belowV c 4 = 1) (h2 : ¬ belowV c 4 = 2) (hl : 0 < l.length) : dT l now c = dT3 l (belowC c 4) ∧ dN now c = now ∧ dC l.length c = smallC (belowC (belowC (belowC c 4) l.length) 3) :=
  ⟨by simp only [dT]; rw [if_neg (by omega), if_neg h2, if_pos hl], by rw [dN, if_neg h2], by simp only [dC]; rw [if_neg (by omega), if_neg h2, if_pos hl]⟩
theorem dT_4 {l : List DTask} {now : Int} {c : DCur} (h0 : ¬ belowV c 4 = 0) (h1 : ¬ belowV c 4 = 1) (h2 : ¬ belowV c 4 = 2) (hl : ¬ 0 < l.length) : dT l now c = l ∧ dN now c = now ∧ dC l.length c = belowC c 4 :=
  ⟨by simp only [dT]; rw [if_neg (by omega), if_neg h2, if_neg hl], by rw [dN, if_neg h2], by simp only [dC]; rw [if_neg (by omega), if_neg h2, if_neg hl]⟩
def sLanyu : List ByteArray := [⟨#[]⟩, ⟨#[65]⟩, ⟨#[117, 110, 100, 111]⟩]
def iLtries : List Int := [-1, 0, 4, 5]
def iLdue : List Int := [-1, 1000001000, 1000001001]
def asF (f : DFact) (x : DTask) : DTask := ⟨f, x.Undo, x.State, x.Tries, x.Due, x.V⟩
def asUndo (u : ByteArray) (x : DTask) : DTask := ⟨x.F, u, x.State, x.Tries, x.Due, x.V⟩
def asState (n : Int) (x : DTask) : DTask := ⟨x.F, x.Undo, n, x.Tries, x.Due, x.V⟩
def asTries (n : Int) (x : DTask) : DTask := ⟨x.F, x.Undo, x.State, n, x.Due, x.V⟩
def asDue (n : Int) (x : DTask) : DTask := ⟨x.F, x.Undo, x.State, x.Tries, n, x.V⟩
def asV (v : DVal) (x : DTask) : DTask := ⟨x.F, x.Undo, x.State, x.Tries, x.Due, v⟩
noncomputable def bendT (s : Int) (e : DCur) (x : DTask) : DTask :=
  if s = 0 then asF (anyF e) x else if s = 1 then asUndo (strV e sLanyu) x else if s = 2 then asState (belowV e 6) x else if s = 3 then asTries (intV e iLtries) x else if s = 4 then asDue (intV e iLdue) x else if s = 5 then asV (anyvV e) x else x
noncomputable def bendC (s : Int) (e : DCur) : DCur :=
  if s = 0 then anyFC e else if s = 1 then strC e sLanyu else if s = 2 then belowC e 6 else if s = 3 then intC e iLtries else if s = 4 then intC e iLdue else if s = 5 then anyvC e else e
noncomputable def anyT (c : DCur) : List DTask := if tasksV c = [] then tasksV c else
  (tasksV c).modify (belowV (tasksC c) (tasksV c).length).toNat (bendT (belowV (belowC (tasksC c) (tasksV c).length) 14) (belowC (belowC (tasksC c) (tasksV c).length) 14))
noncomputable def anyTC (c : DCur) : DCur := if tasksV c = [] then tasksC c else
  bendC (belowV (belowC (tasksC c) (tasksV c).length) 14) (belowC (belowC (tasksC c) (tasksV c).length) 14)
theorem cOk_bend {s : Int} {e : DCur} (h : cOk e) : cOk (bendC s e) := by
  unfold bendC
  repeat' split
  · exact cOk_anyF h
  · exact cOk_str h _
  · exact cOk_below h _
  · exact cOk_int h _
  · exact cOk_int h _
  · exact cOk_anyv h
  · exact h
theorem bend_fit {s : Int} {e : DCur} {x : DTask} (h : tFit x) : tFit (bendT s e x) := by
  obtain ⟨h1, h2, h3⟩ := h
  unfold bendT
  repeat' split
  · exact ⟨fit_size (anyF_fit e), h2, h3⟩
  · refine ⟨h1, ?_, h3⟩
    have := strV_all e (l := sLanyu) (fun s => decide (s.size ≤ 21)) (by decide) (by rfl)
    exact of_decide_eq_true this
  · exact ⟨h1, h2, h3⟩
  · exact ⟨h1, h2, h3⟩
  · exact ⟨h1, h2, h3⟩
  · exact ⟨h1, h2, anyvV_fit e⟩
  · exact ⟨h1, h2, h3⟩
theorem anyT_ok {c : DCur} (h : cOk c) : cOk (anyTC c) ∧ (∀ t ∈ anyT c, tFit t) ∧ (anyT c).length ≤ 7 := by
  obtain ⟨h1, h2, h3⟩ := tasks_ok h
  have h4 : ∀ t ∈ tasksV c, tFit t := fun t ht => tFit_of ((tasksOk_iff.1 h2).2.1 t ht)
  refine ⟨?_, ?_, ?_⟩
  · unfold anyTC; split
    · exact h1
    · exact cOk_bend (cOk_below (cOk_below h1 _) _)
  · unfold anyT; split
    · exact h4
    · exact modify_all (p := tFit) _ (fun x hx => bend_fit hx) _ _ h4
  · unfold anyT; split
    · exact h3
    · rw [List.length_modify]; exact h3
def sLpu : List ByteArray := [⟨#[114, 101, 102, 117, 110, 100]⟩, ⟨#[99, 97, 110, 99, 101, 108]⟩, ⟨#[]⟩, ⟨#[65]⟩]
noncomputable def drawnT (code : List Int) : DTask := ⟨anyF (anyUC (newCur code)), strV (anyFC (anyUC (newCur code))) sLpu, 0, 0, 0, zVal⟩
def atV (code : List Int) (i : Int) : Int := if i < code.length then List.getD code i.toNat 0 else Int.tmod (i * 31 + code.length * 7) 256
theorem Bd.u8 {n : Int} (h : Bd (U := UU) (.lit (.int .u8 n))) : 0 ≤ n ∧ n ≤ 255 := by
  cases h with
  | lit _ h => exact h.2
theorem Lf_fff {a b c : DFact} : Lf [.agg [.lit (.string a.Kind), .sl .eVal a.Fields], .agg [.lit (.string b.Kind), .sl .eVal b.Fields], .agg [.lit (.string c.Kind), .sl .eVal c.Fields]] [.agg [.lit (.string a.Kind), .sl .eVal a.Fields], .agg [.lit (.string b.Kind), .sl .eVal b.Fields], .agg [.lit (.string c.Kind), .sl .eVal c.Fields]] := Lf_rfl _
def con_spec_DrawPushUndo : Con UU where
  α := (List Int)
  md := [.ro]
  of := fun | [.one (.sl .byte a0)] => some a0 | _ => none
  ds := fun code => [.one (.sl .byte code)]
  pre := fun code => [code.length ≤ 4294967296]
  res := fun code => ⟨[.one (.sl .eUndo (anyU (newCur code))), .agg [.lit (.string (((drawnT code)).F).Kind), .sl .eVal (((drawnT code)).F).Fields, .lit (.string ((drawnT code)).Undo), .lit (.int .i64 ((drawnT code)).State), .lit (.int .i64 ((drawnT code)).Tries), .lit (.int .i64 ((drawnT code)).Due), .lit (.int .i64 (((drawnT code)).V).K), .lit (.int .i64 (((drawnT code)).V).N), .lit (.string (((drawnT code)).V).S)]], true, []⟩
  law := by intro l x h; (try simp only at h); split at h <;> cases h; rfl
def ann_spec_DrawPushUndo : con_spec_DrawPushUndo.α → Nat → Option (Ann UU) := fun code => annL []
def use_spec_DrawPushUndo : List (FuncId × Con UU) := [(19, con_spec_l1New), (30, con_spec_l19Any), (31, con_spec_l3Any), (32, con_spec_l1Str)]
theorem vc_spec_DrawPushUndo (code : (List Int)) : goal EE use_spec_DrawPushUndo Go.Proofs.Tryd.f10 con_spec_DrawPushUndo ann_spec_DrawPushUndo code = (let x0 : List ByteArray := [{ data := #[(114 : UInt8), (101 : UInt8), (102 : UInt8), (117 : UInt8), (110 : UInt8), (100 : UInt8)] : ByteArray }, { data := #[(99 : UInt8), (97 : UInt8), (110 : UInt8), (99 : UInt8), (101 : UInt8), (108 : UInt8)] : ByteArray }, { data := #[] : ByteArray }, { data := #[(65 : UInt8)] : ByteArray }];
List.length code ≤ (4294967296 : Nat) ∧ cOk (newCur code) ∧ cOk (anyUC (newCur code)) ∧ cOk (anyFC (anyUC (newCur code))) ∧ (1 : Nat) ≤ List.length x0 ∧ Lf [DV.one (Cell.sl Cd.eUndo (anyU (newCur code))), DV.agg [Cell.lit (Value.string (anyF (anyUC (newCur code))).Kind), Cell.sl Cd.eVal (anyF (anyUC (newCur code))).Fields, Cell.lit (Value.string (strV (anyFC (anyUC (newCur code))) x0)), Cell.lit (Value.int IntKind.i64 (0 : Int)), Cell.lit (Value.int IntKind.i64 (0 : Int)), Cell.lit (Value.int IntKind.i64 (0 : Int)), Cell.lit (Value.int IntKind.i64 (0 : Int)), Cell.lit (Value.int IntKind.i64 (0 : Int)), Cell.lit (Value.string { data := #[] : ByteArray })]] [DV.one (Cell.sl Cd.eUndo (anyU (newCur code))), DV.agg [Cell.lit (Value.string (drawnT code).F.Kind), Cell.sl Cd.eVal (drawnT code).F.Fields, Cell.lit (Value.string (drawnT code).Undo), Cell.lit (Value.int IntKind.i64 (drawnT code).State), Cell.lit (Value.int IntKind.i64 (drawnT code).Tries), Cell.lit (Value.int IntKind.i64 (drawnT code).Due), Cell.lit (Value.int IntKind.i64 (drawnT code).V.K), Cell.lit (Value.int IntKind.i64 (drawnT code).V.N), Cell.lit (Value.string (drawnT code).V.S)]]) := by kernel_rfl
theorem ok_spec_DrawPushUndo : Holds EE (10, con_spec_DrawPushUndo) := by
  refine holds_of EE_ok Go.Proofs.Tryd.func10 con_spec_DrawPushUndo (by kernel_rfl) use_spec_DrawPushUndo (all_cons ok_spec_l1New (all_cons ok_spec_l19Any (all_cons ok_spec_l3Any (all_cons ok_spec_l1Str all_nil)))) ann_spec_DrawPushUndo (fun (code : (List Int)) hp hb => ?_)
  have hb_code : BdDV (U := UU) (.one (.sl .byte code)) := hb _ (List.mem_cons_self)
  have hl_code : code.length ≤ 9223372036854775807 := Bd.len hb_code
  have hp0 : code.length ≤ 4294967296 := hp _ (List.mem_cons_self)
  clear hp hb
  rw [vc_spec_DrawPushUndo code]
  dsimp only
  have h1 := (anyU_ok (cOk_new hp0)).1
  exact ⟨hp0, cOk_new hp0, h1, cOk_anyF h1, by simp, Lf_rfl _⟩
def con_laws_sameVals : Con UU where
  α := (List DVal) × (List DVal)
  md := [.ro, .ro]
  of := fun | [.one (.sl .eVal a0), .one (.sl .eVal a1)] => some (a0, a1) | _ => none
  ds := fun (a, b) => [.one (.sl .eVal a), .one (.sl .eVal b)]
  pre := fun (a, b) => []
  res := fun (a, b) => ⟨[.one (.lit (.bool (decide (a = b))))], true, []⟩
  law := by intro l x h; (try simp only at h); split at h <;> cases h; rfl
def I_laws_sameVals_4 (a : (List DVal)) (b : (List DVal)) : Int × Unit → Prop := fun (i, _) => 0 ≤ i ∧ i ≤ a.length ∧ a.length = b.length ∧ (a.drop i.toNat = b.drop i.toNat ↔ a = b)
def μ_laws_sameVals_4 (a : (List DVal)) (b : (List DVal)) : Int × Unit → Nat := fun (i, _) => a.length - i.toNat
def ann_laws_sameVals : con_laws_sameVals.α → Nat → Option (Ann UU) := fun (a, b) => annL [(4, annOf [.slot 5 (5, 1024) (.lit (.int .i64))] (fun _ => I_laws_sameVals_4 a b) (μ_laws_sameVals_4 a b))]
def use_laws_sameVals : List (FuncId × Con UU) := []
theorem vc_laws_sameVals (a : (List DVal)) (b : (List DVal)) : goal EE use_laws_sameVals Go.Proofs.Tryd.f15 con_laws_sameVals ann_laws_sameVals (a, b) = (bif (↑(List.length a) : Int) != (↑(List.length b) : Int) then Lf [DV.one (Cell.lit (Value.bool false))] [DV.one (Cell.lit (Value.bool (decide (a = b))))]
else
  I_laws_sameVals_4 a b ((0 : Int), PUnit.unit) ∧
    ∀ (y : Int × PUnit),
      let x0 : DVal := List.getD b (Int.toNat y.1) zVal;
      let x1 : DVal := List.getD a (Int.toNat y.1) zVal;
      I_laws_sameVals_4 a b y → bif decide (y.1 < (↑(List.length a) : Int)) then (0 : Int) ≤ y.1 ∧ Int.toNat y.1 < List.length a ∧ (0 : Int) ≤ y.1 ∧ Int.toNat y.1 < List.length b ∧ bif !(x1.K == x0.K && (x1.N == x0.N && (ByteArray.toList x1.S == ByteArray.toList x0.S && true))) then Lf [DV.one (Cell.lit (Value.bool false))] [DV.one (Cell.lit (Value.bool (decide (a = b))))] else I_laws_sameVals_4 a b (IntKind.wrap IntKind.i64 (y.1 + (1 : Int)), PUnit.unit) ∧ μ_laws_sameVals_4 a b (IntKind.wrap IntKind.i64 (y.1 + (1 : Int)), PUnit.unit) < μ_laws_sameVals_4 a b y else Lf [DV.one (Cell.lit (Value.bool true))] [DV.one (Cell.lit (Value.bool (decide (a = b))))]) := by kernel_rfl
theorem ok_laws_sameVals : Holds EE (15, con_laws_sameVals) := by
  refine holds_of EE_ok Go.Proofs.Tryd.func15 con_laws_sameVals (by kernel_rfl) use_laws_sameVals all_nil ann_laws_sameVals (fun x hp hb => ?_)
  obtain ⟨a, b⟩ := x
  have hb_a : BdDV (U := UU) (.one (.sl .eVal a)) := hb _ (List.mem_cons_self)
  have hl_a : a.length ≤ 9223372036854775807 := Bd.len hb_a
  have hb_b : BdDV (U := UU) (.one (.sl .eVal b)) := hb _ (List.mem_cons_of_mem _ (List.mem_cons_self))
  have hl_b : b.length ≤ 9223372036854775807 := Bd.len hb_b
  clear hp hb
  rw [vc_laws_sameVals a b]
  dsimp only
  refine if_cond (fun h => Lf_f ?_) (fun h => ⟨?_, ?_⟩)
  · rintro rfl; simp at h
  · simp [I_laws_sameVals_4] at *; omega
  rintro ⟨i, ⟨⟩⟩ ⟨h1, h2, h3, hR⟩
  simp only at *
  refine if_cond (fun hc => ?_) (fun hc => ?_)
  · have hc : i < a.length := by simpa using hc
    rw [drop_step a zVal h1 hc, drop_step b zVal h1 (by omega)] at hR
    rw [wrap_i64 (by omega) (by omega)]
    simp only [val_beq]
    refine ⟨by omega, by omega, by omega, by omega, if_cond (fun h => Lf_f ?_) (fun h => ⟨⟨by omega, by omega, h3, ?_⟩, ?_⟩)⟩
    · rw [← hR]; simp at h; simp [h]
    · rw [← hR]; simp at h; simp [h]
    · simp only [μ_laws_sameVals_4]; omega
  · have hc : a.length ≤ i := by simpa using hc
    rw [drop_end a hc, drop_end b (by omega)] at hR
    exact Lf_t (hR.1 rfl)
theorem undo_snoc {l : List DUndo} {u : DUndo} (h : undosOk l = true) (hl : l.length < 30) (hk : 1 ≤ u.Key.size ∧ u.Key.size ≤ 200) (hf : factOk u.F = true) (hn : hasKey l u.Key = false) : undosOk (l ++ [u]) = true := by
  simp only [undosOk, Bool.and_eq_true, decide_eq_true_eq] at h ⊢
  have hlen : (l ++ [u]).length = l.length + 1 := by simp
  refine ⟨by omega, allI_iff.2 fun j hj => ?_⟩
  have g : ∀ k, k < l.length → List.getD (l ++ [u]) k zUndo = List.getD l k zUndo := fun k hk => by rw [List.getD_eq_getElem?_getD, List.getD_eq_getElem?_getD, List.getElem?_append_left hk]
  rcases Nat.lt_or_ge j l.length with hjl | hjl
  · have := allI_iff.1 h.2 j hjl
    unfold undoAt at this ⊢
    rw [g j hjl]
    rw [← this]
    congr 2
    exact anyI_congr fun k hk => by rw [g k (by omega)]
  · have : j = l.length := by omega
    subst this
    have gl : List.getD (l ++ [u]) l.length zUndo = u := by rw [List.getD_eq_getElem?_getD, List.getElem?_append_right (Nat.le_refl _)]; simp
    unfold undoAt
    rw [gl, hf]
    have : (anyI l.length fun k => decide ((List.getD (l ++ [u]) k zUndo).Key = u.Key)) = false := by
      rw [← hn]
      exact anyI_congr fun k hk => by rw [g k hk]
    rw [this]
    simp only [Bool.not_false, Bool.and_true, decide_eq_true_eq]; exact hk
theorem factText_pos {f : DFact} (h : factOk f = true) : 1 ≤ (factText f).size := by
  rw [factText, if_pos h, mkB_size]; simp only [List.length_append, valsT, List.length_cons]; omega
theorem pushUndo_ok {l : List DUndo} {t : DTask} (h : canPush l t = true) : undosOk (pushUndo l t).1 = true := by
  rw [pushUndo, if_pos h]
  simp only [canPush, Bool.and_eq_true, Bool.not_eq_true', decide_eq_false_iff_not] at h
  obtain ⟨⟨⟨⟨h1, h2⟩, h3⟩, h4⟩, h5⟩ := h
  have := factText_size t.F
  have := factText_pos h2
  refine undo_snoc h1 (by omega) ⟨by assumption, by assumption⟩ ?_ h4
  have h6 := h2
  simp only [factOk, Bool.and_eq_true] at h6 ⊢
  exact ⟨⟨h3, h6.1.2⟩, h6.2⟩
def con_laws_FnUndos : Con UU where
  α := (List Int)
  md := [.ro]
  of := fun | [.one (.sl .byte a0)] => some a0 | _ => none
  ds := fun code => [.one (.sl .byte code)]
  pre := fun code => []
  res := fun code => ⟨[.one (.lit (.bool true))], true, []⟩
  law := by intro l x h; (try simp only at h); split at h <;> cases h; rfl
def I_laws_FnUndos_13 (code : (List Int)) : List DUndo × (ByteArray × List DVal × ByteArray × Int × Int × Int × Int × Int × ByteArray × Unit) × List DUndo × List DUndo × Int × Unit → Prop := fun (l, tb, x, y, i, _) => l = anyU (newCur code) ∧ tb = ((drawnT code).F.Kind, (drawnT code).F.Fields, (drawnT code).Undo, (drawnT code).State, (drawnT code).Tries, (drawnT code).Due, (drawnT code).V.K, (drawnT code).V.N, (drawnT code).V.S, ()) ∧ x = (pushUndo (anyU (newCur code)) (drawnT code)).1 ∧ y = anyU (newCur code) ∧ 0 ≤ i ∧ i ≤ (anyU (newCur code)).length
def μ_laws_FnUndos_13 (code : (List Int)) : List DUndo × (ByteArray × List DVal × ByteArray × Int × Int × Int × Int × Int × ByteArray × Unit) × List DUndo × List DUndo × Int × Unit → Nat := fun (l, tb, x, y, i, _) => (anyU (newCur code)).length - i.toNat
def ann_laws_FnUndos : con_laws_FnUndos.α → Nat → Option (Ann UU) := fun code => annL [(13, annOf [.slot 3 (3, 1024) (.own .eUndo true), .box 4 (4, 1024) [.lit .str, .own .eVal true, .lit .str, .lit (.int .i64), .lit (.int .i64), .lit (.int .i64), .lit (.int .i64), .lit (.int .i64), .lit .str], .slot 5 (5, 1024) (.own .eUndo true), .slot 11 (11, 1024) (.own .eUndo true), .slot 12 (12, 1024) (.lit (.int .i64))] (fun _ => I_laws_FnUndos_13 code) (μ_laws_FnUndos_13 code))]
def use_laws_FnUndos : List (FuncId × Con UU) := [(5, con_laws_big), (10, con_spec_DrawPushUndo), (11, con_impl_PushUndo), (12, con_spec_PushUndo), (13, con_impl_UndoTask), (14, con_impl_PopUndo), (15, con_laws_sameVals), (16, con_impl_UndosOk), (17, con_impl_SameFact), (18, con_impl_TaskKey)]
theorem vc_laws_FnUndos (code : (List Int)) : goal EE use_laws_FnUndos Go.Proofs.Tryd.f4 con_laws_FnUndos ann_laws_FnUndos code = (let x0 : List DUndo := List.take (List.length (pushUndo { τ := Cd.eUndo, xs := anyU (newCur code) : Arr UU }.xs { F := { Kind := (drawnT code).F.Kind, Fields := { τ := Cd.eVal, xs := (drawnT code).F.Fields : Arr UU }.xs : DFact }, Undo := (drawnT code).Undo, State := (drawnT code).State, Tries := (drawnT code).Tries, Due := (drawnT code).Due, V := { K := (drawnT code).V.K, N := (drawnT code).V.N, S := (drawnT code).V.S : DVal } : DTask }).1 - (1 : Nat)) (pushUndo { τ := Cd.eUndo, xs := anyU (newCur code) : Arr UU }.xs { F := { Kind := (drawnT code).F.Kind, Fields := { τ := Cd.eVal, xs := (drawnT code).F.Fields : Arr UU }.xs : DFact }, Undo := (drawnT code).Undo, State := (drawnT code).State, Tries := (drawnT code).Tries, Due := (drawnT code).Due, V := { K := (drawnT code).V.K, N := (drawnT code).V.N, S := (drawnT code).V.S : DVal } : DTask }).1;
let x1 : Bool := (pushUndo { τ := Cd.eUndo, xs := anyU (newCur code) : Arr UU }.xs { F := { Kind := (drawnT code).F.Kind, Fields := { τ := Cd.eVal, xs := (drawnT code).F.Fields : Arr UU }.xs : DFact }, Undo := (drawnT code).Undo, State := (drawnT code).State, Tries := (drawnT code).Tries, Due := (drawnT code).Due, V := { K := (drawnT code).V.K, N := (drawnT code).V.N, S := (drawnT code).V.S : DVal } : DTask }).2 == (pushUndo { τ := Cd.eUndo, xs := anyU (newCur code) : Arr UU }.xs { F := { Kind := (drawnT code).F.Kind, Fields := { τ := Cd.eVal, xs := (drawnT code).F.Fields : Arr UU }.xs : DFact }, Undo := (drawnT code).Undo, State := (drawnT code).State, Tries := (drawnT code).Tries, Due := (drawnT code).Due, V := { K := (drawnT code).V.K, N := (drawnT code).V.N, S := (drawnT code).V.S : DVal } : DTask }).2;
let x2 : DFact := undoLast (pushUndo { τ := Cd.eUndo, xs := anyU (newCur code) : Arr UU }.xs { F := { Kind := (drawnT code).F.Kind, Fields := { τ := Cd.eVal, xs := (drawnT code).F.Fields : Arr UU }.xs : DFact }, Undo := (drawnT code).Undo, State := (drawnT code).State, Tries := (drawnT code).Tries, Due := (drawnT code).Due, V := { K := (drawnT code).V.K, N := (drawnT code).V.N, S := (drawnT code).V.S : DVal } : DTask }).1;
bif decide (List.length code > (1048576 : Nat)) then Lf [DV.one (Cell.lit (Value.bool true))] [DV.one (Cell.lit (Value.bool true))]
else
  List.length code ≤ (4294967296 : Nat) ∧
    sizeUndoS (anyU (newCur code)) ≤ (4294967296 : Nat) ∧
      List.length (drawnT code).F.Fields ≤ (4294967296 : Nat) ∧
        sizeUndoS (anyU (newCur code)) ≤ (4294967296 : Nat) ∧
          List.length (drawnT code).F.Fields ≤ (4294967296 : Nat) ∧
            bif !x1 then bif x1 then Lf [DV.one (Cell.lit (Value.bool ((↑(List.length (pushUndo { τ := Cd.eUndo, xs := anyU (newCur code) : Arr UU }.xs { F := { Kind := (drawnT code).F.Kind, Fields := { τ := Cd.eVal, xs := (drawnT code).F.Fields : Arr UU }.xs : DFact }, Undo := (drawnT code).Undo, State := (drawnT code).State, Tries := (drawnT code).Tries, Due := (drawnT code).Due, V := { K := (drawnT code).V.K, N := (drawnT code).V.N, S := (drawnT code).V.S : DVal } : DTask }).1) : Int) == (↑(List.length (anyU (newCur code))) : Int))))] [DV.one (Cell.lit (Value.bool true))] else Lf [DV.one (Cell.lit (Value.bool false))] [DV.one (Cell.lit (Value.bool true))]
            else
              bif !(pushUndo { τ := Cd.eUndo, xs := anyU (newCur code) : Arr UU }.xs { F := { Kind := (drawnT code).F.Kind, Fields := { τ := Cd.eVal, xs := (drawnT code).F.Fields : Arr UU }.xs : DFact }, Undo := (drawnT code).Undo, State := (drawnT code).State, Tries := (drawnT code).Tries, Due := (drawnT code).Due, V := { K := (drawnT code).V.K, N := (drawnT code).V.N, S := (drawnT code).V.S : DVal } : DTask }).2 then bif x1 then Lf [DV.one (Cell.lit (Value.bool ((↑(List.length (pushUndo { τ := Cd.eUndo, xs := anyU (newCur code) : Arr UU }.xs { F := { Kind := (drawnT code).F.Kind, Fields := { τ := Cd.eVal, xs := (drawnT code).F.Fields : Arr UU }.xs : DFact }, Undo := (drawnT code).Undo, State := (drawnT code).State, Tries := (drawnT code).Tries, Due := (drawnT code).Due, V := { K := (drawnT code).V.K, N := (drawnT code).V.N, S := (drawnT code).V.S : DVal } : DTask }).1) : Int) == (↑(List.length (anyU (newCur code))) : Int))))] [DV.one (Cell.lit (Value.bool true))] else Lf [DV.one (Cell.lit (Value.bool false))] [DV.one (Cell.lit (Value.bool true))]
              else
                sizeUndoS (pushUndo { τ := Cd.eUndo, xs := anyU (newCur code) : Arr UU }.xs { F := { Kind := (drawnT code).F.Kind, Fields := { τ := Cd.eVal, xs := (drawnT code).F.Fields : Arr UU }.xs : DFact }, Undo := (drawnT code).Undo, State := (drawnT code).State, Tries := (drawnT code).Tries, Due := (drawnT code).Due, V := { K := (drawnT code).V.K, N := (drawnT code).V.N, S := (drawnT code).V.S : DVal } : DTask }).1 ≤ (4294967296 : Nat) ∧
                  sizeUndoS (pushUndo { τ := Cd.eUndo, xs := anyU (newCur code) : Arr UU }.xs { F := { Kind := (drawnT code).F.Kind, Fields := { τ := Cd.eVal, xs := (drawnT code).F.Fields : Arr UU }.xs : DFact }, Undo := (drawnT code).Undo, State := (drawnT code).State, Tries := (drawnT code).Tries, Due := (drawnT code).Due, V := { K := (drawnT code).V.K, N := (drawnT code).V.N, S := (drawnT code).V.S : DVal } : DTask }).1 ≤ (4294967296 : Nat) ∧
                    bif !decide ¬(pushUndo { τ := Cd.eUndo, xs := anyU (newCur code) : Arr UU }.xs { F := { Kind := (drawnT code).F.Kind, Fields := { τ := Cd.eVal, xs := (drawnT code).F.Fields : Arr UU }.xs : DFact }, Undo := (drawnT code).Undo, State := (drawnT code).State, Tries := (drawnT code).Tries, Due := (drawnT code).Due, V := { K := (drawnT code).V.K, N := (drawnT code).V.N, S := (drawnT code).V.S : DVal } : DTask }).1 = [] then Lf [DV.one (Cell.lit (Value.bool false))] [DV.one (Cell.lit (Value.bool true))]
                    else
                      bif !ByteArray.toList x2.Kind == ByteArray.toList (drawnT code).Undo then Lf [DV.one (Cell.lit (Value.bool false))] [DV.one (Cell.lit (Value.bool true))]
                      else
                        bif !decide (x2.Fields = (drawnT code).F.Fields) then Lf [DV.one (Cell.lit (Value.bool false))] [DV.one (Cell.lit (Value.bool true))]
                        else
                          bif (↑(List.length x0) : Int) != (↑(List.length (anyU (newCur code))) : Int) then Lf [DV.one (Cell.lit (Value.bool false))] [DV.one (Cell.lit (Value.bool true))]
                          else
                            bif !undosOk (pushUndo { τ := Cd.eUndo, xs := anyU (newCur code) : Arr UU }.xs { F := { Kind := (drawnT code).F.Kind, Fields := { τ := Cd.eVal, xs := (drawnT code).F.Fields : Arr UU }.xs : DFact }, Undo := (drawnT code).Undo, State := (drawnT code).State, Tries := (drawnT code).Tries, Due := (drawnT code).Due, V := { K := (drawnT code).V.K, N := (drawnT code).V.N, S := (drawnT code).V.S : DVal } : DTask }).1 then Lf [DV.one (Cell.lit (Value.bool false))] [DV.one (Cell.lit (Value.bool true))]
                            else
                              I_laws_FnUndos_13 code (anyU (newCur code), ((drawnT code).F.Kind, (drawnT code).F.Fields, (drawnT code).Undo, (drawnT code).State, (drawnT code).Tries, (drawnT code).Due, (drawnT code).V.K, (drawnT code).V.N, (drawnT code).V.S, PUnit.unit), (pushUndo { τ := Cd.eUndo, xs := anyU (newCur code) : Arr UU }.xs { F := { Kind := (drawnT code).F.Kind, Fields := { τ := Cd.eVal, xs := (drawnT code).F.Fields : Arr UU }.xs : DFact }, Undo := (drawnT code).Undo, State := (drawnT code).State, Tries := (drawnT code).Tries, Due := (drawnT code).Due, V := { K := (drawnT code).V.K, N := (drawnT code).V.N, S := (drawnT code).V.S : DVal } : DTask }).1, x0, (0 : Int), PUnit.unit) ∧
                                ∀ (y : List DUndo × (ByteArray × List DVal × ByteArray × Int × Int × Int × Int × Int × ByteArray × PUnit) × List DUndo × List DUndo × Int × PUnit),
                                  let x3 : Nat := Int.toNat y.2.2.2.2.1;
                                  let x4 : DUndo := List.getD y.2.2.2.1 x3 zUndo;
                                  let x5 : Int := (↑(List.length y.1) : Int);
                                  I_laws_FnUndos_13 code y → bif decide (y.2.2.2.2.1 < x5) then (0 : Int) ≤ y.2.2.2.2.1 ∧ x3 < List.length y.2.2.2.1 ∧ x3 < List.length y.2.2.2.1 ∧ (0 : Int) ≤ y.2.2.2.2.1 ∧ x3 < List.length y.1 ∧ x3 < List.length y.1 ∧ bif !ByteArray.toList x4.Key == ByteArray.toList (List.getD y.1 x3 zUndo).Key then Lf [DV.one (Cell.lit (Value.bool false))] [DV.one (Cell.lit (Value.bool true))] else (0 : Int) ≤ y.2.2.2.2.1 ∧ x3 < List.length y.2.2.2.1 ∧ x3 < List.length y.2.2.2.1 ∧ (0 : Int) ≤ y.2.2.2.2.1 ∧ x3 < List.length y.1 ∧ x3 < List.length y.1 ∧ x3 < List.length y.2.2.2.1 ∧ x3 < List.length y.1 ∧ bif !decide (x4.F = (List.getD y.1 x3 zUndo).F) then Lf [DV.one (Cell.lit (Value.bool false))] [DV.one (Cell.lit (Value.bool true))] else I_laws_FnUndos_13 code (y.1, (y.2.1.1, y.2.1.2.1, y.2.1.2.2.1, y.2.1.2.2.2.1, y.2.1.2.2.2.2.1, y.2.1.2.2.2.2.2.1, y.2.1.2.2.2.2.2.2.1, y.2.1.2.2.2.2.2.2.2.1, y.2.1.2.2.2.2.2.2.2.2.1, PUnit.unit), y.2.2.1, y.2.2.2.1, IntKind.wrap IntKind.i64 (y.2.2.2.2.1 + (1 : Int)), PUnit.unit) ∧ μ_laws_FnUndos_13 code (y.1, (y.2.1.1, y.2.1.2.1, y.2.1.2.2.1, y.2.1.2.2.2.1, y.2.1.2.2.2.2.1, y.2.1.2.2.2.2.2.1, y.2.1.2.2.2.2.2.2.1, y.2.1.2.2.2.2.2.2.2.1, y.2.1.2.2.2.2.2.2.2.2.1, PUnit.unit), y.2.2.1, y.2.2.2.1, IntKind.wrap IntKind.i64 (y.2.2.2.2.1 + (1 : Int)), PUnit.unit) < μ_laws_FnUndos_13 code y else (0 : Int) ≤ x5 ∧ Int.toNat x5 < List.length y.2.2.1 ∧ Int.toNat x5 < List.length y.2.2.1 ∧ Lf [DV.one (Cell.lit (Value.bool (ByteArray.toList (List.getD y.2.2.1 (Int.toNat x5) zUndo).Key == ByteArray.toList (factText { Kind := y.2.1.1, Fields := y.2.1.2.1 : DFact }))))] [DV.one (Cell.lit (Value.bool true))]) := by kernel_rfl
theorem ok_laws_FnUndos : Holds EE (4, con_laws_FnUndos) := by
  refine holds_of EE_ok Go.Proofs.Tryd.func4 con_laws_FnUndos (by kernel_rfl) use_laws_FnUndos (all_cons ok_laws_big (all_cons ok_spec_DrawPushUndo (all_cons ok_impl_PushUndo (all_cons ok_spec_PushUndo (all_cons ok_impl_UndoTask (all_cons ok_impl_PopUndo (all_cons ok_laws_sameVals (all_cons ok_impl_UndosOk (all_cons ok_impl_SameFact (all_cons ok_impl_TaskKey all_nil)))))))))) ann_laws_FnUndos (fun (code : (List Int)) hp hb => ?_)
  have hb_code : BdDV (U := UU) (.one (.sl .byte code)) := hb _ (List.mem_cons_self)
  have hl_code : code.length ≤ 9223372036854775807 := Bd.len hb_code
  clear hp hb
  rw [vc_laws_FnUndos code]
  dsimp only
  refine if_cond (fun h => Lf_rfl _) (fun h => ?_)
  have hcode := of_decide_eq_false h
  obtain ⟨hcu, hU, hlen⟩ := anyU_ok (cOk_new (code := code) (by omega))
  have hfit : fFit (drawnT code).F := anyF_fit _
  generalize hLe : anyU (newCur code) = L at hU hlen ⊢
  generalize hT : drawnT code = t at hfit ⊢
  obtain ⟨⟨tk, tf⟩, tu, ts, tt, td, ⟨vk, vn, vs⟩⟩ := t
  dsimp only at hfit ⊢
  have hs := undoS_size hU
  obtain ⟨f1, f2, f3⟩ := hfit
  dsimp only at f1 f2 f3
  refine ⟨by omega, by omega, by omega, by omega, by omega, ?_⟩
  by_cases hc : canPush L ⟨⟨tk, tf⟩, tu, ts, tt, td, ⟨vk, vn, vs⟩⟩ = true
  · have hp : pushUndo L ⟨⟨tk, tf⟩, tu, ts, tt, td, ⟨vk, vn, vs⟩⟩ = (L ++ [⟨factText ⟨tk, tf⟩, ⟨tu, tf⟩⟩], true) := by rw [pushUndo, if_pos hc]
    have hm := pushUndo_mem (t := ⟨⟨tk, tf⟩, tu, ts, tt, td, ⟨vk, vn, vs⟩⟩) (B := 800) (by omega) hU
    have hok := pushUndo_ok hc
    rw [hp] at hm hok ⊢
    dsimp only at hm hok ⊢
    have hs2 := undoS_size hm
    have hl2 : (L ++ [(⟨factText ⟨tk, tf⟩, ⟨tu, tf⟩⟩ : DUndo)]).length = L.length + 1 := by simp
    have hul : undoLast (L ++ [(⟨factText ⟨tk, tf⟩, ⟨tu, tf⟩⟩ : DUndo)]) = ⟨tu, tf⟩ := by simp [undoLast]
    have htk : List.take (L.length + 1 - 1) (L ++ [(⟨factText ⟨tk, tf⟩, ⟨tu, tf⟩⟩ : DUndo)]) = L := by simp
    have hgl : List.getD (L ++ [(⟨factText ⟨tk, tf⟩, ⟨tu, tf⟩⟩ : DUndo)]) L.length zUndo = ⟨factText ⟨tk, tf⟩, ⟨tu, tf⟩⟩ := by rw [List.getD_eq_getElem?_getD, List.getElem?_append_right (Nat.le_refl _)]; simp
    rw [hl2] at hs2 ⊢
    rw [htk, hul]
    refine if_cond (fun g => absurd g (by simp)) (fun _ => if_cond (fun g => absurd g (by simp)) (fun _ => ⟨by omega, by omega, if_cond (fun g => absurd g (by simp)) (fun _ => if_cond (fun g => absurd g (by simp)) (fun _ => if_cond (fun g => absurd g (by simp)) (fun _ => if_cond (fun g => absurd g (by simp)) (fun _ => if_cond (fun g => absurd g (by simp [hok])) (fun _ => ⟨⟨hLe.symm, by rw [hT], by rw [hLe, hT, hp], hLe.symm, by omega, by omega⟩, ?_⟩)))))⟩))
    rintro ⟨l, tb, x, y, i, ⟨⟩⟩ ⟨q1, q2, q3, q4, q5, q6⟩
    rw [hLe] at q1 q4
    rw [hT] at q2
    rw [hLe, hT, hp] at q3
    rw [hLe] at q6
    subst q1 q4 q3 q2
    dsimp only at q5 q6 ⊢
    refine if_cond (fun hd => ?_) (fun hd => ?_)
    · have hd := of_decide_eq_true hd
      rw [wrap_i64 (n := i + 1) (by omega) (by omega)]
      refine ⟨by omega, by omega, by omega, by omega, by omega, by omega, if_cond (fun g => absurd g (by simp)) (fun _ => ⟨by omega, by omega, by omega, by omega, by omega, by omega, by omega, by omega, if_cond (fun g => absurd g (by simp)) (fun _ => ⟨⟨hLe.symm, by rw [hT], by rw [hLe, hT, hp], hLe.symm, by omega, by rw [hLe]; omega⟩, by simp only [μ_laws_FnUndos_13]; rw [hLe]; omega⟩)⟩)⟩
    · have hd := of_decide_eq_false hd
      have e : (y.length : Int).toNat = y.length := by omega
      rw [e, hgl]
      refine ⟨by omega, by rw [hl2]; omega, by rw [hl2]; omega, Lf_b (by simp)⟩
  · have hp : pushUndo L ⟨⟨tk, tf⟩, tu, ts, tt, td, ⟨vk, vn, vs⟩⟩ = (L, false) := by rw [pushUndo, if_neg hc]
    rw [hp]
    dsimp only
    refine if_cond (fun g => absurd g (by simp)) (fun _ => if_cond (fun _ => if_cond (fun _ => Lf_b (by simp)) (fun g => absurd g (by simp))) (fun g => absurd g (by simp)))
end
end AM
