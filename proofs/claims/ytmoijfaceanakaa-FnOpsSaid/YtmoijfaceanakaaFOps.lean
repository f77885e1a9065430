/- Functions of the program with their contracts: put together by gen/link.py for FnOps. -/
import Derived.Test.YtmoijfaceanakaaAmLib
namespace AM
open Go
set_option linter.unusedVariables false
set_option linter.unusedSimpArgs false
set_option maxRecDepth 100000
noncomputable section
instance : DecidableEq DVal := fun _ _ => Classical.propDecidable _
instance : DecidableEq DFact := fun _ _ => Classical.propDecidable _
instance : DecidableEq DItem := fun _ _ => Classical.propDecidable _
instance : DecidableEq DStore := fun _ _ => Classical.propDecidable _
instance : DecidableEq DToken := fun _ _ => Classical.propDecidable _
instance : DecidableEq DArg := fun _ _ => Classical.propDecidable _
instance : DecidableEq DPat := fun _ _ => Classical.propDecidable _
instance : DecidableEq DBind := fun _ _ => Classical.propDecidable _
instance : DecidableEq DCond := fun _ _ => Classical.propDecidable _
instance : DecidableEq DExpr := fun _ _ => Classical.propDecidable _
instance : DecidableEq DAct := fun _ _ => Classical.propDecidable _
instance : DecidableEq DRule := fun _ _ => Classical.propDecidable _
instance : DecidableEq DDef := fun _ _ => Classical.propDecidable _
instance : DecidableEq DMatch := fun _ _ => Classical.propDecidable _
instance : DecidableEq DAlpha := fun _ _ => Classical.propDecidable _
instance : DecidableEq DChain := fun _ _ => Classical.propDecidable _
instance : DecidableEq DNet := fun _ _ => Classical.propDecidable _
instance : DecidableEq DIds := fun _ _ => Classical.propDecidable _
instance : DecidableEq DTok := fun _ _ => Classical.propDecidable _
instance : DecidableEq DLevel := fun _ _ => Classical.propDecidable _
instance : DecidableEq DRow := fun _ _ => Classical.propDecidable _
instance : DecidableEq DMem := fun _ _ => Classical.propDecidable _
instance : DecidableEq DEffect := fun _ _ => Classical.propDecidable _
instance : DecidableEq DTimer := fun _ _ => Classical.propDecidable _
instance : DecidableEq DTask := fun _ _ => Classical.propDecidable _
instance : DecidableEq DCall := fun _ _ => Classical.propDecidable _
instance : DecidableEq DUndo := fun _ _ => Classical.propDecidable _
instance : DecidableEq DInst := fun _ _ => Classical.propDecidable _
instance : DecidableEq DRun := fun _ _ => Classical.propDecidable _
instance : DecidableEq DOp := fun _ _ => Classical.propDecidable _
instance : DecidableEq DWork := fun _ _ => Classical.propDecidable _
instance : DecidableEq DBook := fun _ _ => Classical.propDecidable _
instance : DecidableEq DSent := fun _ _ => Classical.propDecidable _
theorem all_step {α : Type} (p : α → Bool) (l : List α) (z : α) {i : Int} (h0 : 0 ≤ i) (h : i < l.length) : (l.drop i.toNat).all p = (p (List.getD l i.toNat z) && (l.drop (i + 1).toNat).all p) := by
  rw [drop_step l z h0 h, List.all_cons]
def bs (s : ByteArray) : List UInt8 := s.data.toList
theorem bs_len (s : ByteArray) : (bs s).length = s.size := Array.length_toList
theorem bs_eq (s : ByteArray) : Array.toList (ByteArray.data s) = bs s := rfl
def byteP (p : Int → Bool) (b : UInt8) : Bool := p b.toNat
theorem u8_i64 (b : UInt8) : IntKind.wrap .i64 (b.toNat : Int) = b.toNat := wrap_i64 (by omega) (by have := b.toNat_lt; omega)
theorem Lf_tt {y : Bool} (h : y = true) : Lf [.one (.lit (.bool true))] [.one (.lit (.bool y))] := Lf_b h.symm
theorem Lf_ff {y : Bool} (h : y = false) : Lf [.one (.lit (.bool false))] [.one (.lit (.bool y))] := Lf_b h.symm
theorem take_step {α : Type} (l : List α) (z : α) {i : Int} (h0 : 0 ≤ i) (h : i < l.length) : l.take i.toNat ++ [List.getD l i.toNat z] = l.take (i + 1).toNat := by
  have hn : i.toNat < l.length := by omega
  have e : (i + 1).toNat = i.toNat + 1 := by omega
  rw [e, List.take_succ_eq_append_getElem hn, List.getD_eq_getElem?_getD, List.getElem?_eq_getElem hn]
  rfl
theorem getD_mem {α : Type} (l : List α) (z : α) {i : Int} (h0 : 0 ≤ i) (h : i < l.length) : List.getD l i.toNat z ∈ l := by
  have hn : i.toNat < l.length := by omega
  rw [List.getD_eq_getElem?_getD, List.getElem?_eq_getElem hn]
  exact List.getElem_mem hn
def smallB (b : Int) : Bool := decide (97 ≤ b ∧ b ≤ 122)
def wordB (b : Int) : Bool := smallB b || decide (48 ≤ b ∧ b ≤ 57) || decide (b = 95)
def wordS (s : ByteArray) : Bool := (bs s).all (byteP wordB)
def nameOk (s : ByteArray) : Bool := decide (1 ≤ s.size ∧ s.size ≤ 12) && smallB (List.getD (bs s) 0 0).toNat && wordS s
def valOk (v : DVal) : Bool := bif decide (v.K = 1) then decide (-1000000000 ≤ v.N ∧ v.N ≤ 1000000000) && decide (v.S = noBytes) else bif decide (v.K = 2) then decide (v.N = 0) && decide (v.S.size ≤ 20) && wordS v.S else false
def factOk (f : DFact) : Bool := nameOk f.Kind && decide (f.Fields.length ≤ 5) && f.Fields.all valOk
def con_impl_inRange : Con UU where
  α := Int × Int × Int
  md := [.ro, .ro, .ro]
  of := fun | [.one (.lit (.int .i64 a0)), .one (.lit (.int .i64 a1)), .one (.lit (.int .i64 a2))] => some (a0, a1, a2) | _ => none
  ds := fun (n, least, most) => [.one (.lit (.int .i64 n)), .one (.lit (.int .i64 least)), .one (.lit (.int .i64 most))]
  pre := fun (n, least, most) => []
  res := fun (n, least, most) => ⟨[.one (.lit (.bool (decide (least ≤ n ∧ n ≤ most))))], true, []⟩
  law := by intro l x h; (try simp only at h); split at h <;> cases h; rfl
def ann_impl_inRange : con_impl_inRange.α → Nat → Option (Ann UU) := fun (n, least, most) => annL []
def use_impl_inRange : List (FuncId × Con UU) := []
theorem vc_impl_inRange (n : Int) (least : Int) (most : Int) : goal EE use_impl_inRange Go.Proofs.Try.f97 con_impl_inRange ann_impl_inRange (n, least, most) = (bif decide (n ≥ least) then Lf [DV.one (Cell.lit (Value.bool (decide (n ≤ most))))] [DV.one (Cell.lit (Value.bool (decide (least ≤ n ∧ n ≤ most))))] else Lf [DV.one (Cell.lit (Value.bool false))] [DV.one (Cell.lit (Value.bool (decide (least ≤ n ∧ n ≤ most))))]) := by kernel_rfl
theorem ok_impl_inRange : Holds EE (97, con_impl_inRange) := by
  refine holds_of EE_ok Go.Proofs.Try.func97 con_impl_inRange (by kernel_rfl) use_impl_inRange all_nil ann_impl_inRange (fun x hp hb => ?_)
  obtain ⟨n, least, most⟩ := x
  have hb_n : BdDV (U := UU) (.one (.lit (.int .i64 n))) := hb _ (List.mem_cons_self)
  have hl_n := Bd.i64 hb_n
  have hb_least : BdDV (U := UU) (.one (.lit (.int .i64 least))) := hb _ (List.mem_cons_of_mem _ (List.mem_cons_self))
  have hl_least := Bd.i64 hb_least
  have hb_most : BdDV (U := UU) (.one (.lit (.int .i64 most))) := hb _ (List.mem_cons_of_mem _ (List.mem_cons_of_mem _ (List.mem_cons_self)))
  have hl_most := Bd.i64 hb_most
  clear hp hb
  rw [vc_impl_inRange n least most]
  refine if_cond (fun h => Lf_b ?_) (fun h => Lf_b ?_) <;> grind
def con_spec_l1In : Con UU where
  α := Int × Int × Int
  md := [.ro, .ro, .ro]
  of := fun | [.one (.lit (.int .i64 a0)), .one (.lit (.int .i64 a1)), .one (.lit (.int .i64 a2))] => some (a0, a1, a2) | _ => none
  ds := fun (x, least, most) => [.one (.lit (.int .i64 x)), .one (.lit (.int .i64 least)), .one (.lit (.int .i64 most))]
  pre := fun (x, least, most) => []
  res := fun (x, least, most) => ⟨[.one (.lit (.bool (decide (least ≤ x ∧ x ≤ most))))], true, []⟩
  law := by intro l x h; (try simp only at h); split at h <;> cases h; rfl
def ann_spec_l1In : con_spec_l1In.α → Nat → Option (Ann UU) := fun (x, least, most) => annL []
def use_spec_l1In : List (FuncId × Con UU) := []
theorem vc_spec_l1In (x : Int) (least : Int) (most : Int) : goal EE use_spec_l1In Go.Proofs.Try.f61 con_spec_l1In ann_spec_l1In (x, least, most) = (bif decide (x ≥ least) then Lf [DV.one (Cell.lit (Value.bool (decide (x ≤ most))))] [DV.one (Cell.lit (Value.bool (decide (least ≤ x ∧ x ≤ most))))] else Lf [DV.one (Cell.lit (Value.bool false))] [DV.one (Cell.lit (Value.bool (decide (least ≤ x ∧ x ≤ most))))]) := by kernel_rfl
theorem ok_spec_l1In : Holds EE (61, con_spec_l1In) := by
  refine holds_of EE_ok Go.Proofs.Try.func61 con_spec_l1In (by kernel_rfl) use_spec_l1In all_nil ann_spec_l1In (fun x hp hb => ?_)
  obtain ⟨x, least, most⟩ := x
  have hb_x : BdDV (U := UU) (.one (.lit (.int .i64 x))) := hb _ (List.mem_cons_self)
  have hl_x := Bd.i64 hb_x
  have hb_least : BdDV (U := UU) (.one (.lit (.int .i64 least))) := hb _ (List.mem_cons_of_mem _ (List.mem_cons_self))
  have hl_least := Bd.i64 hb_least
  have hb_most : BdDV (U := UU) (.one (.lit (.int .i64 most))) := hb _ (List.mem_cons_of_mem _ (List.mem_cons_of_mem _ (List.mem_cons_self)))
  have hl_most := Bd.i64 hb_most
  clear hp hb
  rw [vc_spec_l1In x least most]
  refine if_cond (fun h => Lf_b ?_) (fun h => Lf_b ?_) <;> grind
def con_impl_isSmall : Con UU where
  α := Int
  md := [.ro]
  of := fun | [.one (.lit (.int .u8 a0))] => some a0 | _ => none
  ds := fun b => [.one (.lit (.int .u8 b))]
  pre := fun b => []
  res := fun b => ⟨[.one (.lit (.bool (smallB b)))], true, []⟩
  law := by intro l x h; (try simp only at h); split at h <;> cases h; rfl
def ann_impl_isSmall : con_impl_isSmall.α → Nat → Option (Ann UU) := fun b => annL []
def use_impl_isSmall : List (FuncId × Con UU) := []
theorem vc_impl_isSmall (b : Int) : goal EE use_impl_isSmall Go.Proofs.Try.f121 con_impl_isSmall ann_impl_isSmall b = (bif decide (b ≥ (97 : Int)) then Lf [DV.one (Cell.lit (Value.bool (decide (b ≤ (122 : Int)))))] [DV.one (Cell.lit (Value.bool (smallB b)))] else Lf [DV.one (Cell.lit (Value.bool false))] [DV.one (Cell.lit (Value.bool (smallB b)))]) := by kernel_rfl
theorem ok_impl_isSmall : Holds EE (121, con_impl_isSmall) := by
  refine holds_of EE_ok Go.Proofs.Try.func121 con_impl_isSmall (by kernel_rfl) use_impl_isSmall all_nil ann_impl_isSmall (fun (b : Int) hp hb => ?_)
  have hb_b : BdDV (U := UU) (.one (.lit (.int .u8 b))) := hb _ (List.mem_cons_self)
  clear hp hb
  rw [vc_impl_isSmall b]
  refine if_cond (fun h => Lf_b ?_) (fun h => Lf_b ?_) <;> grind [smallB]
def con_impl_isDigit : Con UU where
  α := Int
  md := [.ro]
  of := fun | [.one (.lit (.int .u8 a0))] => some a0 | _ => none
  ds := fun b => [.one (.lit (.int .u8 b))]
  pre := fun b => []
  res := fun b => ⟨[.one (.lit (.bool (decide (48 ≤ b ∧ b ≤ 57))))], true, []⟩
  law := by intro l x h; (try simp only at h); split at h <;> cases h; rfl
def ann_impl_isDigit : con_impl_isDigit.α → Nat → Option (Ann UU) := fun b => annL []
def use_impl_isDigit : List (FuncId × Con UU) := []
theorem vc_impl_isDigit (b : Int) : goal EE use_impl_isDigit Go.Proofs.Try.f128 con_impl_isDigit ann_impl_isDigit b = (bif decide (b ≥ (48 : Int)) then Lf [DV.one (Cell.lit (Value.bool (decide (b ≤ (57 : Int)))))] [DV.one (Cell.lit (Value.bool (decide ((48 : Int) ≤ b ∧ b ≤ (57 : Int)))))] else Lf [DV.one (Cell.lit (Value.bool false))] [DV.one (Cell.lit (Value.bool (decide ((48 : Int) ≤ b ∧ b ≤ (57 : Int)))))]) := by kernel_rfl
theorem ok_impl_isDigit : Holds EE (128, con_impl_isDigit) := by
  refine holds_of EE_ok Go.Proofs.Try.func128 con_impl_isDigit (by kernel_rfl) use_impl_isDigit all_nil ann_impl_isDigit (fun (b : Int) hp hb => ?_)
  have hb_b : BdDV (U := UU) (.one (.lit (.int .u8 b))) := hb _ (List.mem_cons_self)
  clear hp hb
  rw [vc_impl_isDigit b]
  refine if_cond (fun h => Lf_b ?_) (fun h => Lf_b ?_) <;> grind
def con_impl_isWordByte : Con UU where
  α := Int
  md := [.ro]
  of := fun | [.one (.lit (.int .u8 a0))] => some a0 | _ => none
  ds := fun b => [.one (.lit (.int .u8 b))]
  pre := fun b => []
  res := fun b => ⟨[.one (.lit (.bool (wordB b)))], true, []⟩
  law := by intro l x h; (try simp only at h); split at h <;> cases h; rfl
def ann_impl_isWordByte : con_impl_isWordByte.α → Nat → Option (Ann UU) := fun b => annL []
def use_impl_isWordByte : List (FuncId × Con UU) := [(121, con_impl_isSmall), (128, con_impl_isDigit)]
theorem vc_impl_isWordByte (b : Int) : goal EE use_impl_isWordByte Go.Proofs.Try.f126 con_impl_isWordByte ann_impl_isWordByte b = (bif smallB b then Lf [DV.one (Cell.lit (Value.bool true))] [DV.one (Cell.lit (Value.bool (wordB b)))] else bif decide ((48 : Int) ≤ b ∧ b ≤ (57 : Int)) then Lf [DV.one (Cell.lit (Value.bool true))] [DV.one (Cell.lit (Value.bool (wordB b)))] else Lf [DV.one (Cell.lit (Value.bool (b == (95 : Int))))] [DV.one (Cell.lit (Value.bool (wordB b)))]) := by kernel_rfl
theorem ok_impl_isWordByte : Holds EE (126, con_impl_isWordByte) := by
  refine holds_of EE_ok Go.Proofs.Try.func126 con_impl_isWordByte (by kernel_rfl) use_impl_isWordByte (all_cons ok_impl_isSmall (all_cons ok_impl_isDigit all_nil)) ann_impl_isWordByte (fun (b : Int) hp hb => ?_)
  have hb_b : BdDV (U := UU) (.one (.lit (.int .u8 b))) := hb _ (List.mem_cons_self)
  clear hp hb
  rw [vc_impl_isWordByte b]
  refine if_cond (fun h => Lf_b ?_) (fun h => ?_)
  · grind [wordB]
  refine if_cond (fun h => Lf_b ?_) (fun h => Lf_b ?_) <;> grind [wordB]
def con_spec_l1Letter : Con UU where
  α := Int
  md := [.ro]
  of := fun | [.one (.lit (.int .u8 a0))] => some a0 | _ => none
  ds := fun c => [.one (.lit (.int .u8 c))]
  pre := fun c => [0 ≤ c ∧ c ≤ 255]
  res := fun c => ⟨[.one (.lit (.bool (wordB c)))], true, []⟩
  law := by intro l x h; (try simp only at h); split at h <;> cases h; rfl
def ann_spec_l1Letter : con_spec_l1Letter.α → Nat → Option (Ann UU) := fun c => annL []
def use_spec_l1Letter : List (FuncId × Con UU) := [(61, con_spec_l1In)]
theorem vc_spec_l1Letter (c : Int) : goal EE use_spec_l1Letter Go.Proofs.Try.f103 con_spec_l1Letter ann_spec_l1Letter c = (bif decide ((97 : Int) ≤ IntKind.wrap IntKind.i64 c ∧ IntKind.wrap IntKind.i64 c ≤ (122 : Int)) then Lf [DV.one (Cell.lit (Value.bool true))] [DV.one (Cell.lit (Value.bool (wordB c)))] else bif decide ((48 : Int) ≤ IntKind.wrap IntKind.i64 c ∧ IntKind.wrap IntKind.i64 c ≤ (57 : Int)) then Lf [DV.one (Cell.lit (Value.bool true))] [DV.one (Cell.lit (Value.bool (wordB c)))] else Lf [DV.one (Cell.lit (Value.bool (c == (95 : Int))))] [DV.one (Cell.lit (Value.bool (wordB c)))]) := by kernel_rfl
theorem ok_spec_l1Letter : Holds EE (103, con_spec_l1Letter) := by
  refine holds_of EE_ok Go.Proofs.Try.func103 con_spec_l1Letter (by kernel_rfl) use_spec_l1Letter (all_cons ok_spec_l1In all_nil) ann_spec_l1Letter (fun (c : Int) hp hb => ?_)
  have hb_c : BdDV (U := UU) (.one (.lit (.int .u8 c))) := hb _ (List.mem_cons_self)
  have hp0 : 0 ≤ c ∧ c ≤ 255 := hp _ (List.mem_cons_self)
  clear hp hb
  rw [vc_spec_l1Letter c]
  rw [wrap_i64 (by omega) (by omega)]
  refine if_cond (fun h => Lf_b ?_) (fun h => ?_)
  · grind [wordB, smallB]
  refine if_cond (fun h => Lf_b ?_) (fun h => Lf_b ?_) <;> grind [wordB, smallB]
def con_impl_isWord : Con UU where
  α := ByteArray × Int
  md := [.ro, .ro]
  of := fun | [.one (.lit (.string a0)), .one (.lit (.int .i64 a1))] => some (a0, a1) | _ => none
  ds := fun (s, most) => [.one (.lit (.string s)), .one (.lit (.int .i64 most))]
  pre := fun (s, most) => []
  res := fun (s, most) => ⟨[.one (.lit (.bool (decide (s.size ≤ most) && wordS s)))], true, []⟩
  law := by intro l x h; (try simp only at h); split at h <;> cases h; rfl
def I_impl_isWord_4 (s : ByteArray) (most : Int) : Int × Unit → Prop := fun (i, _) => 0 ≤ i ∧ i ≤ s.size ∧ s.size ≤ most ∧ ((bs s).drop i.toNat).all (byteP wordB) = wordS s
def μ_impl_isWord_4 (s : ByteArray) (most : Int) : Int × Unit → Nat := fun (i, _) => s.size - i.toNat
def ann_impl_isWord : con_impl_isWord.α → Nat → Option (Ann UU) := fun (s, most) => annL [(4, annOf [.slot 5 (5, 1024) (.lit (.int .i64))] (fun _ => I_impl_isWord_4 s most) (μ_impl_isWord_4 s most))]
def use_impl_isWord : List (FuncId × Con UU) := [(126, con_impl_isWordByte)]
theorem vc_impl_isWord (s : ByteArray) (most : Int) : goal EE use_impl_isWord Go.Proofs.Try.f120 con_impl_isWord ann_impl_isWord (s, most) = (bif decide ((↑(ByteArray.size s) : Int) > most) then Lf [DV.one (Cell.lit (Value.bool false))] [DV.one (Cell.lit (Value.bool (decide ((↑(ByteArray.size s) : Int) ≤ most) && wordS s)))] else I_impl_isWord_4 s most ((0 : Int), PUnit.unit) ∧ ∀ (y : Int × PUnit), I_impl_isWord_4 s most y → bif decide (y.1 < (↑(ByteArray.size s) : Int)) then (0 : Int) ≤ y.1 ∧ Int.toNat y.1 < ByteArray.size s ∧ bif !wordB (↑(UInt8.toNat (List.getD s.data.toList (Int.toNat y.1) (0 : UInt8))) : Int) then Lf [DV.one (Cell.lit (Value.bool false))] [DV.one (Cell.lit (Value.bool (decide ((↑(ByteArray.size s) : Int) ≤ most) && wordS s)))] else I_impl_isWord_4 s most (IntKind.wrap IntKind.i64 (y.1 + (1 : Int)), PUnit.unit) ∧ μ_impl_isWord_4 s most (IntKind.wrap IntKind.i64 (y.1 + (1 : Int)), PUnit.unit) < μ_impl_isWord_4 s most y else Lf [DV.one (Cell.lit (Value.bool true))] [DV.one (Cell.lit (Value.bool (decide ((↑(ByteArray.size s) : Int) ≤ most) && wordS s)))]) := by kernel_rfl
theorem ok_impl_isWord : Holds EE (120, con_impl_isWord) := by
  refine holds_of EE_ok Go.Proofs.Try.func120 con_impl_isWord (by kernel_rfl) use_impl_isWord (all_cons ok_impl_isWordByte all_nil) ann_impl_isWord (fun x hp hb => ?_)
  obtain ⟨s, most⟩ := x
  have hb_s : BdDV (U := UU) (.one (.lit (.string s))) := hb _ (List.mem_cons_self)
  have hl_s : s.size ≤ 9223372036854775807 := Bd.str hb_s
  have hb_most : BdDV (U := UU) (.one (.lit (.int .i64 most))) := hb _ (List.mem_cons_of_mem _ (List.mem_cons_self))
  have hl_most := Bd.i64 hb_most
  clear hp hb
  rw [vc_impl_isWord s most]
  refine if_cond (fun h => Lf_ff ?_) (fun h => ?_)
  · have h := of_decide_eq_true h; rw [decide_eq_false (by omega)]; rfl
  have h0 := of_decide_eq_false h
  refine ⟨⟨by omega, by omega, by omega, rfl⟩, ?_⟩
  rintro ⟨i, ⟨⟩⟩ ⟨h1, h2, h3, hR⟩
  have hl := bs_len s
  simp only [bs_eq]
  refine if_cond (fun hc => ?_) (fun hc => ?_)
  · have hc := of_decide_eq_true hc
    rw [all_step _ _ 0 h1 (by omega)] at hR
    rw [wrap_i64 (by omega) (by omega)]
    refine ⟨by omega, by omega, if_cond (fun h => Lf_ff ?_) (fun h => ⟨⟨by omega, by omega, by omega, ?_⟩, ?_⟩)⟩
    · rw [← hR]; simp only [byteP]; simp at h; simp [h]
    · rw [← hR]; simp only [byteP]; simp at h; simp [h]
    · simp only [μ_impl_isWord_4]; omega
  · have hc := of_decide_eq_false hc
    rw [drop_end _ (by omega)] at hR
    exact Lf_tt (by rw [← hR, decide_eq_true h3]; rfl)
def con_impl_NameOk : Con UU where
  α := ByteArray
  md := [.ro]
  of := fun | [.one (.lit (.string a0))] => some a0 | _ => none
  ds := fun s => [.one (.lit (.string s))]
  pre := fun s => []
  res := fun s => ⟨[.one (.lit (.bool (nameOk s)))], true, []⟩
  law := by intro l x h; (try simp only at h); split at h <;> cases h; rfl
def ann_impl_NameOk : con_impl_NameOk.α → Nat → Option (Ann UU) := fun s => annL []
def use_impl_NameOk : List (FuncId × Con UU) := [(121, con_impl_isSmall), (120, con_impl_isWord)]
theorem vc_impl_NameOk (s : ByteArray) : goal EE use_impl_NameOk Go.Proofs.Try.f106 con_impl_NameOk ann_impl_NameOk s = (bif decide ((↑(ByteArray.size s) : Int) > (0 : Int)) then (0 : Int) ≤ (0 : Int) ∧ Int.toNat (0 : Int) < ByteArray.size s ∧ bif smallB (↑(UInt8.toNat (List.getD s.data.toList (Int.toNat (0 : Int)) (0 : UInt8))) : Int) then Lf [DV.one (Cell.lit (Value.bool (decide ((↑(ByteArray.size s) : Int) ≤ (12 : Int)) && wordS s)))] [DV.one (Cell.lit (Value.bool (nameOk s)))] else Lf [DV.one (Cell.lit (Value.bool false))] [DV.one (Cell.lit (Value.bool (nameOk s)))] else Lf [DV.one (Cell.lit (Value.bool false))] [DV.one (Cell.lit (Value.bool (nameOk s)))]) := by kernel_rfl
theorem ok_impl_NameOk : Holds EE (106, con_impl_NameOk) := by
  refine holds_of EE_ok Go.Proofs.Try.func106 con_impl_NameOk (by kernel_rfl) use_impl_NameOk (all_cons ok_impl_isSmall (all_cons ok_impl_isWord all_nil)) ann_impl_NameOk (fun (s : ByteArray) hp hb => ?_)
  have hb_s : BdDV (U := UU) (.one (.lit (.string s))) := hb _ (List.mem_cons_self)
  have hl_s : s.size ≤ 9223372036854775807 := Bd.str hb_s
  clear hp hb
  rw [vc_impl_NameOk s]
  have hl := bs_len s
  simp only [bs_eq]
  refine if_cond (fun h => ?_) (fun h => Lf_ff ?_)
  · have h := of_decide_eq_true h
    refine ⟨by omega, by omega, if_cond (fun h' => Lf_b ?_) (fun h' => Lf_ff ?_)⟩
    · have h' : smallB ((List.getD (bs s) 0 0).toNat : Int) = true := h'
      simp only [nameOk, h']
      have e : decide (1 ≤ s.size ∧ s.size ≤ 12) = decide ((s.size : Int) ≤ 12) := by rw [decide_eq_decide]; omega
      rw [e]; simp
    · have h' : smallB ((List.getD (bs s) 0 0).toNat : Int) = false := h'
      simp only [nameOk, h']; grind
  · have h := of_decide_eq_false h
    simp only [nameOk]; rw [decide_eq_false (by omega)]; rfl
def con_spec_NameOk : Con UU where
  α := ByteArray
  md := [.ro]
  of := fun | [.one (.lit (.string a0))] => some a0 | _ => none
  ds := fun s => [.one (.lit (.string s))]
  pre := fun s => []
  res := fun s => ⟨[.one (.lit (.bool (nameOk s)))], true, []⟩
  law := by intro l x h; (try simp only at h); split at h <;> cases h; rfl
def I_spec_NameOk_2 (s : ByteArray) : Int × Unit → Prop := fun (i, _) => 0 ≤ i ∧ i ≤ s.size ∧ ((bs s).drop i.toNat).all (byteP wordB) = wordS s ∧ (0 < i → smallB (List.getD (bs s) 0 0).toNat = true)
def μ_spec_NameOk_2 (s : ByteArray) : Int × Unit → Nat := fun (i, _) => s.size - i.toNat
def ann_spec_NameOk : con_spec_NameOk.α → Nat → Option (Ann UU) := fun s => annL [(2, annOf [.slot 3 (3, 1024) (.lit (.int .i64))] (fun _ => I_spec_NameOk_2 s) (μ_spec_NameOk_2 s))]
def use_spec_NameOk : List (FuncId × Con UU) := [(103, con_spec_l1Letter), (61, con_spec_l1In)]
theorem vc_spec_NameOk (s : ByteArray) : goal EE use_spec_NameOk Go.Proofs.Try.f59 con_spec_NameOk ann_spec_NameOk s = (I_spec_NameOk_2 s ((0 : Int), PUnit.unit) ∧
  ∀ (y : Int × PUnit),
    let x0 : Int := (↑(UInt8.toNat (List.getD s.data.toList (Int.toNat y.1) (0 : UInt8))) : Int);
    I_spec_NameOk_2 s y → bif decide (y.1 < (↑(ByteArray.size s) : Int)) then (0 : Int) ≤ y.1 ∧ Int.toNat y.1 < ByteArray.size s ∧ ((0 : Int) ≤ x0 ∧ x0 ≤ (255 : Int)) ∧ bif !wordB x0 then Lf [DV.one (Cell.lit (Value.bool false))] [DV.one (Cell.lit (Value.bool (nameOk s)))] else bif y.1 == (0 : Int) then (0 : Int) ≤ y.1 ∧ Int.toNat y.1 < ByteArray.size s ∧ bif !decide ((97 : Int) ≤ IntKind.wrap IntKind.i64 x0 ∧ IntKind.wrap IntKind.i64 x0 ≤ (122 : Int)) then Lf [DV.one (Cell.lit (Value.bool false))] [DV.one (Cell.lit (Value.bool (nameOk s)))] else I_spec_NameOk_2 s (IntKind.wrap IntKind.i64 (y.1 + (1 : Int)), PUnit.unit) ∧ μ_spec_NameOk_2 s (IntKind.wrap IntKind.i64 (y.1 + (1 : Int)), PUnit.unit) < μ_spec_NameOk_2 s y else I_spec_NameOk_2 s (IntKind.wrap IntKind.i64 (y.1 + (1 : Int)), PUnit.unit) ∧ μ_spec_NameOk_2 s (IntKind.wrap IntKind.i64 (y.1 + (1 : Int)), PUnit.unit) < μ_spec_NameOk_2 s y else Lf [DV.one (Cell.lit (Value.bool (decide ((1 : Int) ≤ (↑(ByteArray.size s) : Int) ∧ (↑(ByteArray.size s) : Int) ≤ (12 : Int)))))] [DV.one (Cell.lit (Value.bool (nameOk s)))]) := by kernel_rfl
theorem ok_spec_NameOk : Holds EE (59, con_spec_NameOk) := by
  refine holds_of EE_ok Go.Proofs.Try.func59 con_spec_NameOk (by kernel_rfl) use_spec_NameOk (all_cons ok_spec_l1Letter (all_cons ok_spec_l1In all_nil)) ann_spec_NameOk (fun (s : ByteArray) hp hb => ?_)
  have hb_s : BdDV (U := UU) (.one (.lit (.string s))) := hb _ (List.mem_cons_self)
  have hl_s : s.size ≤ 9223372036854775807 := Bd.str hb_s
  clear hp hb
  rw [vc_spec_NameOk s]
  dsimp only
  refine ⟨⟨by omega, by omega, rfl, by omega⟩, ?_⟩
  rintro ⟨i, ⟨⟩⟩ ⟨h1, h2, hR, hS⟩
  have hl := bs_len s
  simp only [bs_eq, u8_i64]
  refine if_cond (fun hc => ?_) (fun hc => ?_)
  · have hc := of_decide_eq_true hc
    have hb := (List.getD (bs s) i.toNat 0).toNat_lt
    rw [all_step _ _ 0 h1 (by omega)] at hR
    rw [wrap_i64 (by omega) (by omega)]
    have hN : wordS s = false → nameOk s = false := fun h => by simp [nameOk, h]
    refine ⟨by omega, by omega, ⟨by omega, by omega⟩, if_cond (fun h => Lf_ff (hN ?_)) (fun h => if_cond (fun h' => ⟨by omega, by omega, if_cond (fun h'' => Lf_ff ?_) (fun h'' => ⟨⟨by omega, by omega, ?_, fun _ => ?_⟩, ?_⟩)⟩) (fun h' => ⟨⟨by omega, by omega, ?_, fun _ => hS ?_⟩, ?_⟩))⟩
    · rw [← hR]; simp only [byteP]; simp at h; simp [h]
    · have h' : i = 0 := by simpa using h'
      subst h'
      have h'' : smallB ((List.getD (bs s) 0 0).toNat : Int) = false := by simp only [smallB]; grind
      simp only [nameOk, h'']; grind
    · rw [← hR]; simp only [byteP]; simp at h; simp [h]
    · have h' : i = 0 := by simpa using h'
      subst h'
      simpa [smallB] using h''
    · simp only [μ_spec_NameOk_2]; omega
    · rw [← hR]; simp only [byteP]; simp at h; simp [h]
    · have h' : ¬ i = 0 := by simpa using h'
      omega
    · simp only [μ_spec_NameOk_2]; omega
  · have hc := of_decide_eq_false hc
    rw [drop_end _ (by omega)] at hR
    refine Lf_b ?_
    simp only [nameOk, ← hR]
    by_cases hz : 0 < i
    · rw [hS hz]; simp only [List.all_nil]; grind
    · rw [decide_eq_false (by omega), decide_eq_false (by omega)]; rfl
def con_spec_l2Plain : Con UU where
  α := ByteArray
  md := [.ro]
  of := fun | [.one (.lit (.string a0))] => some a0 | _ => none
  ds := fun s => [.one (.lit (.string s))]
  pre := fun s => []
  res := fun s => ⟨[.one (.lit (.bool (decide (s.size ≤ 20) && wordS s)))], true, []⟩
  law := by intro l x h; (try simp only at h); split at h <;> cases h; rfl
def I_spec_l2Plain_2 (s : ByteArray) : Int × Unit → Prop := fun (i, _) => 0 ≤ i ∧ i ≤ s.size ∧ ((bs s).drop i.toNat).all (byteP wordB) = wordS s
def μ_spec_l2Plain_2 (s : ByteArray) : Int × Unit → Nat := fun (i, _) => s.size - i.toNat
def ann_spec_l2Plain : con_spec_l2Plain.α → Nat → Option (Ann UU) := fun s => annL [(2, annOf [.slot 3 (3, 1024) (.lit (.int .i64))] (fun _ => I_spec_l2Plain_2 s) (μ_spec_l2Plain_2 s))]
def use_spec_l2Plain : List (FuncId × Con UU) := [(103, con_spec_l1Letter)]
theorem vc_spec_l2Plain (s : ByteArray) : goal EE use_spec_l2Plain Go.Proofs.Try.f105 con_spec_l2Plain ann_spec_l2Plain s = (I_spec_l2Plain_2 s ((0 : Int), PUnit.unit) ∧
  ∀ (y : Int × PUnit),
    let x0 : Int := (↑(UInt8.toNat (List.getD s.data.toList (Int.toNat y.1) (0 : UInt8))) : Int);
    I_spec_l2Plain_2 s y → bif decide (y.1 < (↑(ByteArray.size s) : Int)) then (0 : Int) ≤ y.1 ∧ Int.toNat y.1 < ByteArray.size s ∧ ((0 : Int) ≤ x0 ∧ x0 ≤ (255 : Int)) ∧ bif !wordB x0 then Lf [DV.one (Cell.lit (Value.bool false))] [DV.one (Cell.lit (Value.bool (decide (ByteArray.size s ≤ (20 : Nat)) && wordS s)))] else I_spec_l2Plain_2 s (IntKind.wrap IntKind.i64 (y.1 + (1 : Int)), PUnit.unit) ∧ μ_spec_l2Plain_2 s (IntKind.wrap IntKind.i64 (y.1 + (1 : Int)), PUnit.unit) < μ_spec_l2Plain_2 s y else Lf [DV.one (Cell.lit (Value.bool (decide ((↑(ByteArray.size s) : Int) ≤ (20 : Int)))))] [DV.one (Cell.lit (Value.bool (decide (ByteArray.size s ≤ (20 : Nat)) && wordS s)))]) := by kernel_rfl
theorem ok_spec_l2Plain : Holds EE (105, con_spec_l2Plain) := by
  refine holds_of EE_ok Go.Proofs.Try.func105 con_spec_l2Plain (by kernel_rfl) use_spec_l2Plain (all_cons ok_spec_l1Letter all_nil) ann_spec_l2Plain (fun (s : ByteArray) hp hb => ?_)
  have hb_s : BdDV (U := UU) (.one (.lit (.string s))) := hb _ (List.mem_cons_self)
  have hl_s : s.size ≤ 9223372036854775807 := Bd.str hb_s
  clear hp hb
  rw [vc_spec_l2Plain s]
  dsimp only
  refine ⟨⟨by omega, by omega, rfl⟩, ?_⟩
  rintro ⟨i, ⟨⟩⟩ ⟨h1, h2, hR⟩
  have hl := bs_len s
  simp only [bs_eq]
  refine if_cond (fun hc => ?_) (fun hc => ?_)
  · have hc := of_decide_eq_true hc
    have hb := (List.getD (bs s) i.toNat 0).toNat_lt
    rw [all_step _ _ 0 h1 (by omega)] at hR
    rw [wrap_i64 (by omega) (by omega)]
    refine ⟨by omega, by omega, ⟨by omega, by omega⟩, if_cond (fun h => Lf_ff ?_) (fun h => ⟨⟨by omega, by omega, ?_⟩, ?_⟩)⟩
    · rw [← hR]; simp only [byteP]; simp at h; simp [h]
    · rw [← hR]; simp only [byteP]; simp at h; simp [h]
    · simp only [μ_spec_l2Plain_2]; omega
  · have hc := of_decide_eq_false hc
    rw [drop_end _ (by omega)] at hR
    refine Lf_b ?_
    rw [← hR]; simp; omega
def con_impl_ValOk : Con UU where
  α := DVal
  md := [.ro]
  of := fun | [.agg [.lit (.int .i64 a0), .lit (.int .i64 a1), .lit (.string a2)]] => some ⟨a0, a1, a2⟩ | _ => none
  ds := fun v => [.agg [.lit (.int .i64 v.K), .lit (.int .i64 v.N), .lit (.string v.S)]]
  pre := fun v => []
  res := fun v => ⟨[.one (.lit (.bool (valOk v)))], true, []⟩
  law := by intro l x h; (try simp only at h); split at h <;> cases h; rfl
def ann_impl_ValOk : con_impl_ValOk.α → Nat → Option (Ann UU) := fun v => annL []
def use_impl_ValOk : List (FuncId × Con UU) := [(97, con_impl_inRange), (120, con_impl_isWord)]
theorem vc_impl_ValOk (v : DVal) : goal EE use_impl_ValOk Go.Proofs.Try.f99 con_impl_ValOk ann_impl_ValOk v = (bif v.K == (1 : Int) then bif decide ((-1000000000 : Int) ≤ v.N ∧ v.N ≤ (1000000000 : Int)) then Lf [DV.one (Cell.lit (Value.bool (ByteArray.toList v.S == ByteArray.toList { data := #[] : ByteArray })))] [DV.one (Cell.lit (Value.bool (valOk v)))] else Lf [DV.one (Cell.lit (Value.bool false))] [DV.one (Cell.lit (Value.bool (valOk v)))] else bif v.K == (2 : Int) then bif v.N == (0 : Int) then Lf [DV.one (Cell.lit (Value.bool (decide ((↑(ByteArray.size v.S) : Int) ≤ (20 : Int)) && wordS v.S)))] [DV.one (Cell.lit (Value.bool (valOk v)))] else Lf [DV.one (Cell.lit (Value.bool false))] [DV.one (Cell.lit (Value.bool (valOk v)))] else Lf [DV.one (Cell.lit (Value.bool false))] [DV.one (Cell.lit (Value.bool (valOk v)))]) := by kernel_rfl
theorem ok_impl_ValOk : Holds EE (99, con_impl_ValOk) := by
  refine holds_of EE_ok Go.Proofs.Try.func99 con_impl_ValOk (by kernel_rfl) use_impl_ValOk (all_cons ok_impl_inRange (all_cons ok_impl_isWord all_nil)) ann_impl_ValOk (fun (v : DVal) hp hb => ?_)
  have hb_v : BdDV (U := UU) (.agg [.lit (.int .i64 v.K), .lit (.int .i64 v.N), .lit (.string v.S)]) := hb _ (List.mem_cons_self)
  have hl_v_S : v.S.size ≤ 9223372036854775807 := Bd.str (hb_v _ (by simp))
  clear hp hb
  rw [vc_impl_ValOk v]
  have e : (ByteArray.toList (DVal.S v) == ByteArray.toList { data := #[] }) = decide (v.S = noBytes) := toList_beq _ _
  simp only [e, valOk]
  repeat' (refine if_cond (fun h => ?_) (fun h => ?_))
  all_goals (refine Lf_b ?_; grind)
def con_spec_ValOk : Con UU where
  α := DVal
  md := [.ro]
  of := fun | [.agg [.lit (.int .i64 a0), .lit (.int .i64 a1), .lit (.string a2)]] => some ⟨a0, a1, a2⟩ | _ => none
  ds := fun v => [.agg [.lit (.int .i64 v.K), .lit (.int .i64 v.N), .lit (.string v.S)]]
  pre := fun v => []
  res := fun v => ⟨[.one (.lit (.bool (valOk v)))], true, []⟩
  law := by intro l x h; (try simp only at h); split at h <;> cases h; rfl
def ann_spec_ValOk : con_spec_ValOk.α → Nat → Option (Ann UU) := fun v => annL []
def use_spec_ValOk : List (FuncId × Con UU) := [(61, con_spec_l1In), (105, con_spec_l2Plain)]
theorem vc_spec_ValOk (v : DVal) : goal EE use_spec_ValOk Go.Proofs.Try.f62 con_spec_ValOk ann_spec_ValOk v = (bif v.K == (1 : Int) then bif decide ((-1000000000 : Int) ≤ v.N ∧ v.N ≤ (1000000000 : Int)) then Lf [DV.one (Cell.lit (Value.bool (ByteArray.toList v.S == ByteArray.toList { data := #[] : ByteArray })))] [DV.one (Cell.lit (Value.bool (valOk v)))] else Lf [DV.one (Cell.lit (Value.bool false))] [DV.one (Cell.lit (Value.bool (valOk v)))] else bif v.K == (2 : Int) then bif decide (ByteArray.size v.S ≤ (20 : Nat)) && wordS v.S then Lf [DV.one (Cell.lit (Value.bool (v.N == (0 : Int))))] [DV.one (Cell.lit (Value.bool (valOk v)))] else Lf [DV.one (Cell.lit (Value.bool false))] [DV.one (Cell.lit (Value.bool (valOk v)))] else Lf [DV.one (Cell.lit (Value.bool false))] [DV.one (Cell.lit (Value.bool (valOk v)))]) := by kernel_rfl
theorem ok_spec_ValOk : Holds EE (62, con_spec_ValOk) := by
  refine holds_of EE_ok Go.Proofs.Try.func62 con_spec_ValOk (by kernel_rfl) use_spec_ValOk (all_cons ok_spec_l1In (all_cons ok_spec_l2Plain all_nil)) ann_spec_ValOk (fun (v : DVal) hp hb => ?_)
  have hb_v : BdDV (U := UU) (.agg [.lit (.int .i64 v.K), .lit (.int .i64 v.N), .lit (.string v.S)]) := hb _ (List.mem_cons_self)
  have hl_v_S : v.S.size ≤ 9223372036854775807 := Bd.str (hb_v _ (by simp))
  clear hp hb
  rw [vc_spec_ValOk v]
  have e : (ByteArray.toList (DVal.S v) == ByteArray.toList { data := #[] }) = decide (v.S = noBytes) := toList_beq _ _
  simp only [e, valOk]
  repeat' (refine if_cond (fun h => ?_) (fun h => ?_))
  all_goals (refine Lf_b ?_; grind)
def con_spec_l3Vals : Con UU where
  α := (List DVal)
  md := [.ro]
  of := fun | [.one (.sl .eVal a0)] => some a0 | _ => none
  ds := fun l => [.one (.sl .eVal l)]
  pre := fun l => []
  res := fun l => ⟨[.one (.lit (.bool (decide (l.length ≤ 5) && l.all valOk)))], true, []⟩
  law := by intro l x h; (try simp only at h); split at h <;> cases h; rfl
def I_spec_l3Vals_2 (l : (List DVal)) : Int × Unit → Prop := fun (i, _) => 0 ≤ i ∧ i ≤ l.length ∧ (l.drop i.toNat).all valOk = l.all valOk
def μ_spec_l3Vals_2 (l : (List DVal)) : Int × Unit → Nat := fun (i, _) => l.length - i.toNat
def ann_spec_l3Vals : con_spec_l3Vals.α → Nat → Option (Ann UU) := fun l => annL [(2, annOf [.slot 3 (3, 1024) (.lit (.int .i64))] (fun _ => I_spec_l3Vals_2 l) (μ_spec_l3Vals_2 l))]
def use_spec_l3Vals : List (FuncId × Con UU) := [(62, con_spec_ValOk)]
theorem vc_spec_l3Vals (l : (List DVal)) : goal EE use_spec_l3Vals Go.Proofs.Try.f104 con_spec_l3Vals ann_spec_l3Vals l = (let x0 : Int := (↑(List.length l) : Int);
I_spec_l3Vals_2 l ((0 : Int), PUnit.unit) ∧ ∀ (y : Int × PUnit), I_spec_l3Vals_2 l y → bif decide (y.1 < x0) then (0 : Int) ≤ y.1 ∧ Int.toNat y.1 < List.length l ∧ bif !valOk (List.getD l (Int.toNat y.1) zVal) then Lf [DV.one (Cell.lit (Value.bool false))] [DV.one (Cell.lit (Value.bool (decide (List.length l ≤ (5 : Nat)) && List.all l valOk)))] else I_spec_l3Vals_2 l (IntKind.wrap IntKind.i64 (y.1 + (1 : Int)), PUnit.unit) ∧ μ_spec_l3Vals_2 l (IntKind.wrap IntKind.i64 (y.1 + (1 : Int)), PUnit.unit) < μ_spec_l3Vals_2 l y else Lf [DV.one (Cell.lit (Value.bool (decide (x0 ≤ (5 : Int)))))] [DV.one (Cell.lit (Value.bool (decide (List.length l ≤ (5 : Nat)) && List.all l valOk)))]) := by kernel_rfl
theorem ok_spec_l3Vals : Holds EE (104, con_spec_l3Vals) := by
  refine holds_of EE_ok Go.Proofs.Try.func104 con_spec_l3Vals (by kernel_rfl) use_spec_l3Vals (all_cons ok_spec_ValOk all_nil) ann_spec_l3Vals (fun (l : (List DVal)) hp hb => ?_)
  have hb_l : BdDV (U := UU) (.one (.sl .eVal l)) := hb _ (List.mem_cons_self)
  have hl_l : l.length ≤ 9223372036854775807 := Bd.len hb_l
  clear hp hb
  rw [vc_spec_l3Vals l]
  dsimp only
  refine ⟨⟨by omega, by omega, rfl⟩, ?_⟩
  rintro ⟨i, ⟨⟩⟩ ⟨h1, h2, hR⟩
  simp only
  refine if_cond (fun hc => ?_) (fun hc => ?_)
  · have hc := of_decide_eq_true hc
    rw [all_step _ _ zVal h1 (by omega)] at hR
    rw [wrap_i64 (by omega) (by omega)]
    refine ⟨by omega, by omega, if_cond (fun h => Lf_ff ?_) (fun h => ⟨⟨by omega, by omega, ?_⟩, ?_⟩)⟩
    · rw [← hR]; simp at h; simp [h]
    · rw [← hR]; simp at h; simp [h]
    · simp only [μ_spec_l3Vals_2]; omega
  · have hc := of_decide_eq_false hc
    rw [drop_end _ (by omega)] at hR
    refine Lf_b ?_
    rw [← hR]; simp; omega
def con_spec_FactOk : Con UU where
  α := DFact
  md := [.ro]
  of := fun | [.agg [.lit (.string a0), .sl .eVal a1]] => some ⟨a0, a1⟩ | _ => none
  ds := fun f => [.agg [.lit (.string f.Kind), .sl .eVal f.Fields]]
  pre := fun f => []
  res := fun f => ⟨[.one (.lit (.bool (factOk f)))], true, []⟩
  law := by intro l x h; (try simp only at h); split at h <;> cases h; rfl
def ann_spec_FactOk : con_spec_FactOk.α → Nat → Option (Ann UU) := fun f => annL []
def use_spec_FactOk : List (FuncId × Con UU) := [(59, con_spec_NameOk), (104, con_spec_l3Vals)]
theorem vc_spec_FactOk (f : DFact) : goal EE use_spec_FactOk Go.Proofs.Try.f60 con_spec_FactOk ann_spec_FactOk f = (bif nameOk f.Kind then Lf [DV.one (Cell.lit (Value.bool (decide (List.length f.Fields ≤ (5 : Nat)) && List.all f.Fields valOk)))] [DV.one (Cell.lit (Value.bool (factOk f)))] else Lf [DV.one (Cell.lit (Value.bool false))] [DV.one (Cell.lit (Value.bool (factOk f)))]) := by kernel_rfl
theorem ok_spec_FactOk : Holds EE (60, con_spec_FactOk) := by
  refine holds_of EE_ok Go.Proofs.Try.func60 con_spec_FactOk (by kernel_rfl) use_spec_FactOk (all_cons ok_spec_NameOk (all_cons ok_spec_l3Vals all_nil)) ann_spec_FactOk (fun (f : DFact) hp hb => ?_)
  have hb_f : BdDV (U := UU) (.agg [.lit (.string f.Kind), .sl .eVal f.Fields]) := hb _ (List.mem_cons_self)
  have hl_f_Kind : f.Kind.size ≤ 9223372036854775807 := Bd.str (hb_f _ (by simp))
  have hl_f_Fields : f.Fields.length ≤ 9223372036854775807 := Bd.len (U := UU) (τ := .eVal) (xs := f.Fields) (hb_f _ (by simp))
  clear hp hb
  rw [vc_spec_FactOk f]
  simp only [factOk]
  refine if_cond (fun h => Lf_b ?_) (fun h => Lf_b ?_) <;> grind
def con_impl_FactOk : Con UU where
  α := DFact
  md := [.ro]
  of := fun | [.agg [.lit (.string a0), .sl .eVal a1]] => some ⟨a0, a1⟩ | _ => none
  ds := fun f => [.agg [.lit (.string f.Kind), .sl .eVal f.Fields]]
  pre := fun f => []
  res := fun f => ⟨[.one (.lit (.bool (factOk f)))], true, []⟩
  law := by intro l x h; (try simp only at h); split at h <;> cases h; rfl
def I_impl_FactOk_4 (f : DFact) : Int × Unit → Prop := fun (i, _) => 0 ≤ i ∧ i ≤ f.Fields.length ∧ f.Fields.length ≤ 5 ∧ nameOk f.Kind = true ∧ (f.Fields.drop i.toNat).all valOk = f.Fields.all valOk
def μ_impl_FactOk_4 (f : DFact) : Int × Unit → Nat := fun (i, _) => f.Fields.length - i.toNat
def ann_impl_FactOk : con_impl_FactOk.α → Nat → Option (Ann UU) := fun f => annL [(4, annOf [.slot 18 (18, 1024) (.lit (.int .i64))] (fun _ => I_impl_FactOk_4 f) (μ_impl_FactOk_4 f))]
def use_impl_FactOk : List (FuncId × Con UU) := [(106, con_impl_NameOk), (99, con_impl_ValOk)]
theorem vc_impl_FactOk (f : DFact) : goal EE use_impl_FactOk Go.Proofs.Try.f98 con_impl_FactOk ann_impl_FactOk f = (let x0 : Int := (↑(List.length f.Fields) : Int);
bif !nameOk f.Kind then Lf [DV.one (Cell.lit (Value.bool false))] [DV.one (Cell.lit (Value.bool (factOk f)))] else bif decide (x0 > (5 : Int)) then Lf [DV.one (Cell.lit (Value.bool false))] [DV.one (Cell.lit (Value.bool (factOk f)))] else I_impl_FactOk_4 f ((0 : Int), PUnit.unit) ∧ ∀ (y : Int × PUnit), I_impl_FactOk_4 f y → bif decide (y.1 < x0) then (0 : Int) ≤ y.1 ∧ Int.toNat y.1 < List.length f.Fields ∧ bif !valOk (List.getD f.Fields (Int.toNat y.1) zVal) then Lf [DV.one (Cell.lit (Value.bool false))] [DV.one (Cell.lit (Value.bool (factOk f)))] else I_impl_FactOk_4 f (IntKind.wrap IntKind.i64 (y.1 + (1 : Int)), PUnit.unit) ∧ μ_impl_FactOk_4 f (IntKind.wrap IntKind.i64 (y.1 + (1 : Int)), PUnit.unit) < μ_impl_FactOk_4 f y else Lf [DV.one (Cell.lit (Value.bool true))] [DV.one (Cell.lit (Value.bool (factOk f)))]) := by kernel_rfl
theorem ok_impl_FactOk : Holds EE (98, con_impl_FactOk) := by
  refine holds_of EE_ok Go.Proofs.Try.func98 con_impl_FactOk (by kernel_rfl) use_impl_FactOk (all_cons ok_impl_NameOk (all_cons ok_impl_ValOk all_nil)) ann_impl_FactOk (fun (f : DFact) hp hb => ?_)
  have hb_f : BdDV (U := UU) (.agg [.lit (.string f.Kind), .sl .eVal f.Fields]) := hb _ (List.mem_cons_self)
  have hl_f_Kind : f.Kind.size ≤ 9223372036854775807 := Bd.str (hb_f _ (by simp))
  have hl_f_Fields : f.Fields.length ≤ 9223372036854775807 := Bd.len (U := UU) (τ := .eVal) (xs := f.Fields) (hb_f _ (by simp))
  clear hp hb
  rw [vc_impl_FactOk f]
  dsimp only
  refine if_cond (fun h => Lf_b ?_) (fun h => if_cond (fun h' => Lf_b ?_) (fun h' => ⟨⟨by omega, by omega, by simp at h'; omega, by simpa using h, rfl⟩, ?_⟩))
  · simp only [factOk]; grind
  · simp only [factOk]; grind
  rintro ⟨i, ⟨⟩⟩ ⟨h1, h2, h3, h4, hR⟩
  simp only
  refine if_cond (fun hc => ?_) (fun hc => ?_)
  · have hc := of_decide_eq_true hc
    rw [all_step _ _ zVal h1 (by omega)] at hR
    rw [wrap_i64 (by omega) (by omega)]
    refine ⟨by omega, by omega, if_cond (fun h => Lf_ff ?_) (fun h => ⟨⟨by omega, by omega, by omega, h4, ?_⟩, ?_⟩)⟩
    · simp only [factOk]; rw [← hR]; simp at h; simp [h]
    · rw [← hR]; simp at h; simp [h]
    · simp only [μ_impl_FactOk_4]; omega
  · have hc := of_decide_eq_false hc
    rw [drop_end _ (by omega)] at hR
    refine Lf_b ?_
    simp only [factOk, ← hR, h4]; simp; omega
structure DCur where
  b : List Int
  i : Int
  h : Int
def mixB (h : Int) (x : Int) : Int := IntKind.wrap .i64 (((BitVec.ofInt (IntKind.bits .i64) (IntKind.wrap .i64 (IntKind.wrap .i64 (IntKind.wrap .i64 (h * 137) + IntKind.wrap .i64 x) + 11)) &&& BitVec.ofInt (IntKind.bits .i64) 1073741823).toNat : Nat) : Int)
def seedB (code : List Int) : Int := (code.take 4000).foldl mixB (354354 + code.length)
def newCur (code : List Int) : DCur := ⟨code, 0, seedB code⟩
def nextH (h : Int) : Int := IntKind.wrap .i64 (IntKind.wrap .i64 (h * 6364136223846793005) + 1442695040888963407)
def and255 (x : Int) : Int := IntKind.wrap .i64 (((BitVec.ofInt (IntKind.bits .i64) x &&& BitVec.ofInt (IntKind.bits .i64) 255).toNat : Nat) : Int)
def mixX (h : Int) : Int := and255 (IntKind.wrap .i64 (((BitVec.ofInt (IntKind.bits .i64) (Int.fdiv h ((2 : Int) ^ min (Int.toNat 33) (IntKind.bits .i64))) ^^^ BitVec.ofInt (IntKind.bits .i64) (Int.fdiv h ((2 : Int) ^ min (Int.toNat 47) (IntKind.bits .i64)))).toNat : Nat) : Int))
def byteV (c : DCur) : Int := if c.i < c.b.length then and255 (IntKind.wrap .i64 (mixX (nextH c.h) + IntKind.wrap .i64 (List.getD c.b c.i.toNat 0))) else mixX (nextH c.h)
def byteC (c : DCur) : DCur := ⟨c.b, if c.i < c.b.length then c.i + 1 else c.i, nextH c.h⟩
theorem and255_le (x : Int) : 0 ≤ and255 x ∧ and255 x ≤ 255 := by
  unfold and255
  have h : (BitVec.ofInt 64 x &&& BitVec.ofInt 64 255).toNat ≤ 255 := by
    rw [BitVec.toNat_and]
    exact Nat.le_trans Nat.and_le_right (by decide)
  have h' : (BitVec.ofInt (IntKind.bits .i64) x &&& BitVec.ofInt (IntKind.bits .i64) 255).toNat ≤ 255 := h
  rw [wrap_i64 (by omega) (by omega)]
  omega
theorem byteV_le (c : DCur) : 0 ≤ byteV c ∧ byteV c ≤ 255 := by
  unfold byteV
  split
  · exact and255_le _
  · exact and255_le _
theorem byteC_i {c : DCur} (h : 0 ≤ c.i) : 0 ≤ (byteC c).i := by
  simp only [byteC]; split <;> omega
def belowV (c : DCur) (n : Int) : Int := if n ≤ 0 then 0 else if n ≤ 256 then Int.tmod (byteV c) n else Int.tmod (byteV c * 65536 + byteV (byteC c) * 256 + byteV (byteC (byteC c))) n
def belowC (c : DCur) (n : Int) : DCur := if n ≤ 0 then c else if n ≤ 256 then byteC c else byteC (byteC (byteC c))
theorem belowC_i {c : DCur} (h : 0 ≤ c.i) (n : Int) : 0 ≤ (belowC c n).i := by
  unfold belowC
  split
  · exact h
  · split
    · exact byteC_i h
    · exact byteC_i (byteC_i (byteC_i h))
theorem belowV_lt {c : DCur} {n : Int} (h : 0 < n) : 0 ≤ belowV c n ∧ belowV c n < n := by
  have h1 := byteV_le c; have h2 := byteV_le (byteC c); have h3 := byteV_le (byteC (byteC c))
  unfold belowV
  rw [if_neg (by omega)]
  split
  · rw [Int.tmod_eq_emod_of_nonneg (by omega)]; exact ⟨Int.emod_nonneg _ (by omega), Int.emod_lt_of_pos _ h⟩
  · rw [Int.tmod_eq_emod_of_nonneg (by omega)]; exact ⟨Int.emod_nonneg _ (by omega), Int.emod_lt_of_pos _ h⟩
def con_spec_l1New : Con UU where
  α := (List Int)
  md := [.ro]
  of := fun | [.one (.sl .byte a0)] => some a0 | _ => none
  ds := fun code => [.one (.sl .byte code)]
  pre := fun code => [code.length ≤ 4294967296]
  res := fun code => ⟨[.box [.sl .byte ((newCur code)).b, .lit (.int .i64 ((newCur code)).i), .lit (.int .i64 ((newCur code)).h)]], true, []⟩
  law := by intro l x h; (try simp only at h); split at h <;> cases h; rfl
def I_spec_l1New_3 (code : (List Int)) : Int × Int × Unit → Prop := fun (h, i, _) => 0 ≤ i ∧ i ≤ code.length ∧ i ≤ 4000 ∧ h = (code.take i.toNat).foldl mixB (354354 + code.length)
def μ_spec_l1New_3 (code : (List Int)) : Int × Int × Unit → Nat := fun (h, i, _) => code.length - i.toNat
def ann_spec_l1New : con_spec_l1New.α → Nat → Option (Ann UU) := fun code => annL [(3, annOf [.slot 3 (3, 1024) (.lit (.int .i64)), .slot 4 (4, 1024) (.lit (.int .i64))] (fun _ => I_spec_l1New_3 code) (μ_spec_l1New_3 code))]
def use_spec_l1New : List (FuncId × Con UU) := []
theorem vc_spec_l1New (code : (List Int)) : goal EE use_spec_l1New Go.Proofs.Try.f36 con_spec_l1New ann_spec_l1New code = (I_spec_l1New_3 code (IntKind.wrap IntKind.i64 ((354354 : Int) + (↑(List.length code) : Int)), (0 : Int), PUnit.unit) ∧
  ∀ (y : Int × Int × PUnit),
    let x0 : Nat := Int.toNat y.2.1;
    I_spec_l1New_3 code y → bif decide (y.2.1 < (↑(List.length code) : Int)) then bif decide (y.2.1 < (4000 : Int)) then (0 : Int) ≤ y.2.1 ∧ x0 < List.length code ∧ I_spec_l1New_3 code (IntKind.wrap IntKind.i64 (↑(BitVec.toNat (BitVec.ofInt (IntKind.bits IntKind.i64) (IntKind.wrap IntKind.i64 (IntKind.wrap IntKind.i64 (IntKind.wrap IntKind.i64 (y.1 * (137 : Int)) + IntKind.wrap IntKind.i64 (List.getD code x0 (0 : Int))) + (11 : Int))) &&& BitVec.ofInt (IntKind.bits IntKind.i64) (1073741823 : Int))) : Int), IntKind.wrap IntKind.i64 (y.2.1 + (1 : Int)), PUnit.unit) ∧ μ_spec_l1New_3 code (IntKind.wrap IntKind.i64 (↑(BitVec.toNat (BitVec.ofInt (IntKind.bits IntKind.i64) (IntKind.wrap IntKind.i64 (IntKind.wrap IntKind.i64 (IntKind.wrap IntKind.i64 (y.1 * (137 : Int)) + IntKind.wrap IntKind.i64 (List.getD code x0 (0 : Int))) + (11 : Int))) &&& BitVec.ofInt (IntKind.bits IntKind.i64) (1073741823 : Int))) : Int), IntKind.wrap IntKind.i64 (y.2.1 + (1 : Int)), PUnit.unit) < μ_spec_l1New_3 code y else Lf [DV.box [Cell.sl Cd.byte code, Cell.lit (Value.int IntKind.i64 (0 : Int)), Cell.lit (Value.int IntKind.i64 y.1)]] [DV.box [Cell.sl Cd.byte (newCur code).b, Cell.lit (Value.int IntKind.i64 (newCur code).i), Cell.lit (Value.int IntKind.i64 (newCur code).h)]] else Lf [DV.box [Cell.sl Cd.byte code, Cell.lit (Value.int IntKind.i64 (0 : Int)), Cell.lit (Value.int IntKind.i64 y.1)]] [DV.box [Cell.sl Cd.byte (newCur code).b, Cell.lit (Value.int IntKind.i64 (newCur code).i), Cell.lit (Value.int IntKind.i64 (newCur code).h)]]) := by kernel_rfl
theorem ok_spec_l1New : Holds EE (36, con_spec_l1New) := by
  refine holds_of EE_ok Go.Proofs.Try.func36 con_spec_l1New (by kernel_rfl) use_spec_l1New all_nil ann_spec_l1New (fun (code : (List Int)) hp hb => ?_)
  have hb_code : BdDV (U := UU) (.one (.sl .byte code)) := hb _ (List.mem_cons_self)
  have hl_code : code.length ≤ 9223372036854775807 := Bd.len hb_code
  have hp0 : code.length ≤ 4294967296 := hp _ (List.mem_cons_self)
  clear hp hb
  rw [vc_spec_l1New code]
  dsimp only
  refine ⟨⟨by omega, by omega, by omega, by rw [wrap_i64 (by omega) (by omega)]; rfl⟩, ?_⟩
  rintro ⟨h, i, ⟨⟩⟩ ⟨h1, h2, h3, rfl⟩
  simp only
  have hE : (i = code.length ∨ i = 4000) → (code.take i.toNat).foldl mixB (354354 + code.length) = (newCur code).h := by
    intro hh
    show _ = (code.take 4000).foldl mixB (354354 + code.length)
    rcases hh with hh | hh
    · rw [List.take_of_length_le (by omega), List.take_of_length_le (by omega)]
    · rw [hh]; rfl
  refine if_cond (fun hc => if_cond (fun hd => ?_) (fun hd => ?_)) (fun hc => ?_)
  · have hc := of_decide_eq_true hc; have hd := of_decide_eq_true hd
    rw [wrap_i64 (n := i + 1) (by omega) (by omega)]
    refine ⟨h1, by omega, ⟨by omega, by omega, by omega, ?_⟩, by simp only [μ_spec_l1New_3]; omega⟩
    rw [← take_step code 0 h1 (by omega), List.foldl_append]
    rfl
  · have hc := of_decide_eq_true hc; have hd := of_decide_eq_false hd
    rw [hE (by omega)]; exact Lf_rfl _
  · have hc := of_decide_eq_false hc
    rw [hE (by omega)]; exact Lf_rfl _
def con_spec_l1Byte : Con UU where
  α := DCur
  md := [.box false]
  of := fun | [.box [.sl .byte a0, .lit (.int .i64 a1), .lit (.int .i64 a2)]] => some ⟨a0, a1, a2⟩ | _ => none
  ds := fun c => [.box [.sl .byte c.b, .lit (.int .i64 c.i), .lit (.int .i64 c.h)]]
  pre := fun c => [0 ≤ c.i, c.b.length ≤ 4294967296]
  res := fun c => ⟨[.one (.lit (.int .i64 (byteV c)))], true, [.box [.sl .byte ((byteC c)).b, .lit (.int .i64 ((byteC c)).i), .lit (.int .i64 ((byteC c)).h)]]⟩
  law := by intro l x h; (try simp only at h); split at h <;> cases h; rfl
def ann_spec_l1Byte : con_spec_l1Byte.α → Nat → Option (Ann UU) := fun c => annL []
def use_spec_l1Byte : List (FuncId × Con UU) := []
theorem vc_spec_l1Byte (c : DCur) : goal EE use_spec_l1Byte Go.Proofs.Try.f94 con_spec_l1Byte ann_spec_l1Byte c = (let x0 : Int := IntKind.wrap IntKind.i64 (↑(BitVec.toNat (BitVec.ofInt (IntKind.bits IntKind.i64) (IntKind.wrap IntKind.i64 (↑(BitVec.toNat (BitVec.ofInt (IntKind.bits IntKind.i64) (Int.fdiv (IntKind.wrap IntKind.i64 (IntKind.wrap IntKind.i64 (c.h * (6364136223846793005 : Int)) + (1442695040888963407 : Int))) ((2 : Int) ^ min (Int.toNat (33 : Int)) (IntKind.bits IntKind.i64))) ^^^ BitVec.ofInt (IntKind.bits IntKind.i64) (Int.fdiv (IntKind.wrap IntKind.i64 (IntKind.wrap IntKind.i64 (c.h * (6364136223846793005 : Int)) + (1442695040888963407 : Int))) ((2 : Int) ^ min (Int.toNat (47 : Int)) (IntKind.bits IntKind.i64))))) : Int)) &&& BitVec.ofInt (IntKind.bits IntKind.i64) (255 : Int))) : Int);
(0 : Int) ≤ (33 : Int) ∧ (0 : Int) ≤ (47 : Int) ∧ bif decide (c.i < (↑(List.length c.b) : Int)) then (0 : Int) ≤ c.i ∧ Int.toNat c.i < List.length c.b ∧ (0 : Nat) = (0 : Nat) ∧ asD [DV.one (Cell.lit (Value.int IntKind.i64 (IntKind.wrap IntKind.i64 (↑(BitVec.toNat (BitVec.ofInt (IntKind.bits IntKind.i64) (IntKind.wrap IntKind.i64 (x0 + IntKind.wrap IntKind.i64 (List.getD c.b (Int.toNat c.i) (0 : Int)))) &&& BitVec.ofInt (IntKind.bits IntKind.i64) (255 : Int))) : Int))))] = asD [DV.one (Cell.lit (Value.int IntKind.i64 (byteV c)))] ∧ asD [DV.box [Cell.sl Cd.byte c.b, Cell.lit (Value.int IntKind.i64 (IntKind.wrap IntKind.i64 (c.i + (1 : Int)))), Cell.lit (Value.int IntKind.i64 (IntKind.wrap IntKind.i64 (IntKind.wrap IntKind.i64 (c.h * (6364136223846793005 : Int)) + (1442695040888963407 : Int))))]] = asD [DV.box [Cell.sl Cd.byte (byteC c).b, Cell.lit (Value.int IntKind.i64 (byteC c).i), Cell.lit (Value.int IntKind.i64 (byteC c).h)]] else (0 : Nat) = (0 : Nat) ∧ asD [DV.one (Cell.lit (Value.int IntKind.i64 x0))] = asD [DV.one (Cell.lit (Value.int IntKind.i64 (byteV c)))] ∧ asD [DV.box [Cell.sl Cd.byte c.b, Cell.lit (Value.int IntKind.i64 c.i), Cell.lit (Value.int IntKind.i64 (IntKind.wrap IntKind.i64 (IntKind.wrap IntKind.i64 (c.h * (6364136223846793005 : Int)) + (1442695040888963407 : Int))))]] = asD [DV.box [Cell.sl Cd.byte (byteC c).b, Cell.lit (Value.int IntKind.i64 (byteC c).i), Cell.lit (Value.int IntKind.i64 (byteC c).h)]]) := by kernel_rfl
theorem ok_spec_l1Byte : Holds EE (94, con_spec_l1Byte) := by
  refine holds_of EE_ok Go.Proofs.Try.func94 con_spec_l1Byte (by kernel_rfl) use_spec_l1Byte all_nil ann_spec_l1Byte (fun (c : DCur) hp hb => ?_)
  have hb_c : BdDV (U := UU) (.box [.sl .byte c.b, .lit (.int .i64 c.i), .lit (.int .i64 c.h)]) := hb _ (List.mem_cons_self)
  have hl_c_b : c.b.length ≤ 9223372036854775807 := Bd.len (U := UU) (τ := .byte) (xs := c.b) (hb_c _ (by simp))
  have hp0 : 0 ≤ c.i := hp _ (List.mem_cons_self)
  have hp1 : c.b.length ≤ 4294967296 := hp _ (List.mem_cons_of_mem _ (List.mem_cons_self))
  clear hp hb
  rw [vc_spec_l1Byte c]
  dsimp only
  refine ⟨by omega, by omega, if_cond (fun h => ?_) (fun h => ?_)⟩
  · have h := of_decide_eq_true h
    have e1 : byteV c = and255 (IntKind.wrap .i64 (mixX (nextH c.h) + IntKind.wrap .i64 (List.getD c.b c.i.toNat 0))) := if_pos h
    have e2 : (byteC c).i = c.i + 1 := if_pos h
    rw [e1, e2, wrap_i64 (n := c.i + 1) (by omega) (by omega)]
    exact ⟨hp0, by omega, rfl, rfl, rfl⟩
  · have h := of_decide_eq_false h
    have e1 : byteV c = mixX (nextH c.h) := if_neg h
    have e2 : (byteC c).i = c.i := if_neg h
    rw [e1, e2]
    exact ⟨rfl, rfl, rfl⟩
def con_spec_l1Below : Con UU where
  α := DCur × Int
  md := [.box false, .ro]
  of := fun | [.box [.sl .byte a0, .lit (.int .i64 a1), .lit (.int .i64 a2)], .one (.lit (.int .i64 a3))] => some (⟨a0, a1, a2⟩, a3) | _ => none
  ds := fun (c, n) => [.box [.sl .byte c.b, .lit (.int .i64 c.i), .lit (.int .i64 c.h)], .one (.lit (.int .i64 n))]
  pre := fun (c, n) => [0 ≤ c.i, c.b.length ≤ 4294967296]
  res := fun (c, n) => ⟨[.one (.lit (.int .i64 (belowV c n)))], true, [.box [.sl .byte ((belowC c n)).b, .lit (.int .i64 ((belowC c n)).i), .lit (.int .i64 ((belowC c n)).h)]]⟩
  law := by intro l x h; (try simp only at h); split at h <;> cases h; rfl
def ann_spec_l1Below : con_spec_l1Below.α → Nat → Option (Ann UU) := fun (c, n) => annL []
def use_spec_l1Below : List (FuncId × Con UU) := [(94, con_spec_l1Byte)]
theorem vc_spec_l1Below (c : DCur) (n : Int) : goal EE use_spec_l1Below Go.Proofs.Try.f45 con_spec_l1Below ann_spec_l1Below (c, n) = (bif decide (n ≤ (0 : Int)) then (0 : Nat) = (0 : Nat) ∧ asD [DV.one (Cell.lit (Value.int IntKind.i64 (0 : Int)))] = asD [DV.one (Cell.lit (Value.int IntKind.i64 (belowV c n)))] ∧ asD [DV.box [Cell.sl Cd.byte c.b, Cell.lit (Value.int IntKind.i64 c.i), Cell.lit (Value.int IntKind.i64 c.h)]] = asD [DV.box [Cell.sl Cd.byte (belowC c n).b, Cell.lit (Value.int IntKind.i64 (belowC c n).i), Cell.lit (Value.int IntKind.i64 (belowC c n).h)]] else bif decide (n ≤ (256 : Int)) then (0 : Int) ≤ c.i ∧ List.length c.b ≤ (4294967296 : Nat) ∧ n ≠ (0 : Int) ∧ (0 : Nat) = (0 : Nat) ∧ asD [DV.one (Cell.lit (Value.int IntKind.i64 (Int.tmod (byteV c) n)))] = asD [DV.one (Cell.lit (Value.int IntKind.i64 (belowV c n)))] ∧ asD [DV.box [Cell.sl Cd.byte (byteC c).b, Cell.lit (Value.int IntKind.i64 (byteC c).i), Cell.lit (Value.int IntKind.i64 (byteC c).h)]] = asD [DV.box [Cell.sl Cd.byte (belowC c n).b, Cell.lit (Value.int IntKind.i64 (belowC c n).i), Cell.lit (Value.int IntKind.i64 (belowC c n).h)]] else (0 : Int) ≤ c.i ∧ List.length c.b ≤ (4294967296 : Nat) ∧ (0 : Int) ≤ (byteC c).i ∧ List.length (byteC c).b ≤ (4294967296 : Nat) ∧ (0 : Int) ≤ (byteC (byteC c)).i ∧ List.length (byteC (byteC c)).b ≤ (4294967296 : Nat) ∧ n ≠ (0 : Int) ∧ (0 : Nat) = (0 : Nat) ∧ asD [DV.one (Cell.lit (Value.int IntKind.i64 (Int.tmod (IntKind.wrap IntKind.i64 (IntKind.wrap IntKind.i64 (IntKind.wrap IntKind.i64 (byteV c * (65536 : Int)) + IntKind.wrap IntKind.i64 (byteV (byteC c) * (256 : Int))) + byteV (byteC (byteC c)))) n)))] = asD [DV.one (Cell.lit (Value.int IntKind.i64 (belowV c n)))] ∧ asD [DV.box [Cell.sl Cd.byte (byteC (byteC (byteC c))).b, Cell.lit (Value.int IntKind.i64 (byteC (byteC (byteC c))).i), Cell.lit (Value.int IntKind.i64 (byteC (byteC (byteC c))).h)]] = asD [DV.box [Cell.sl Cd.byte (belowC c n).b, Cell.lit (Value.int IntKind.i64 (belowC c n).i), Cell.lit (Value.int IntKind.i64 (belowC c n).h)]]) := by kernel_rfl
theorem ok_spec_l1Below : Holds EE (45, con_spec_l1Below) := by
  refine holds_of EE_ok Go.Proofs.Try.func45 con_spec_l1Below (by kernel_rfl) use_spec_l1Below (all_cons ok_spec_l1Byte all_nil) ann_spec_l1Below (fun x hp hb => ?_)
  obtain ⟨c, n⟩ := x
  have hb_c : BdDV (U := UU) (.box [.sl .byte c.b, .lit (.int .i64 c.i), .lit (.int .i64 c.h)]) := hb _ (List.mem_cons_self)
  have hl_c_b : c.b.length ≤ 9223372036854775807 := Bd.len (U := UU) (τ := .byte) (xs := c.b) (hb_c _ (by simp))
  have hb_n : BdDV (U := UU) (.one (.lit (.int .i64 n))) := hb _ (List.mem_cons_of_mem _ (List.mem_cons_self))
  have hl_n := Bd.i64 hb_n
  have hp0 : 0 ≤ c.i := hp _ (List.mem_cons_self)
  have hp1 : c.b.length ≤ 4294967296 := hp _ (List.mem_cons_of_mem _ (List.mem_cons_self))
  clear hp hb
  rw [vc_spec_l1Below c n]
  have b1 := byteV_le c; have b2 := byteV_le (byteC c); have b3 := byteV_le (byteC (byteC c))
  refine if_cond (fun h => ?_) (fun h => if_cond (fun h2 => ?_) (fun h2 => ?_))
  · have h := of_decide_eq_true h
    have e1 : belowV c n = 0 := if_pos h
    have e2 : belowC c n = c := if_pos h
    rw [e1, e2]; exact ⟨rfl, rfl, rfl⟩
  · have h := of_decide_eq_false h; have h2 := of_decide_eq_true h2
    have e1 : belowV c n = Int.tmod (byteV c) n := by rw [belowV, if_neg h, if_pos h2]
    have e2 : belowC c n = byteC c := by rw [belowC, if_neg h, if_pos h2]
    rw [e1, e2]; exact ⟨hp0, hp1, by omega, rfl, rfl, rfl⟩
  · have h := of_decide_eq_false h; have h2 := of_decide_eq_false h2
    have e1 : belowV c n = Int.tmod (byteV c * 65536 + byteV (byteC c) * 256 + byteV (byteC (byteC c))) n := by rw [belowV, if_neg h, if_neg h2]
    have e2 : belowC c n = byteC (byteC (byteC c)) := by rw [belowC, if_neg h, if_neg h2]
    have w1 : IntKind.wrap .i64 (byteV c * 65536) = byteV c * 65536 := wrap_i64 (by omega) (by omega)
    have w2 : IntKind.wrap .i64 (byteV (byteC c) * 256) = byteV (byteC c) * 256 := wrap_i64 (by omega) (by omega)
    rw [w1, w2, e1, e2, wrap_i64 (n := byteV c * 65536 + byteV (byteC c) * 256) (by omega) (by omega), wrap_i64 (n := byteV c * 65536 + byteV (byteC c) * 256 + byteV (byteC (byteC c))) (by omega) (by omega)]
    exact ⟨hp0, hp1, byteC_i hp0, hp1, byteC_i (byteC_i hp0), hp1, by omega, rfl, rfl, rfl⟩
def con_spec_l1Int : Con UU where
  α := DCur × (List Int)
  md := [.box false, .ro]
  of := fun | [.box [.sl .byte a0, .lit (.int .i64 a1), .lit (.int .i64 a2)], .one (.sl .int a3)] => some (⟨a0, a1, a2⟩, a3) | _ => none
  ds := fun (c, list) => [.box [.sl .byte c.b, .lit (.int .i64 c.i), .lit (.int .i64 c.h)], .one (.sl .int list)]
  pre := fun (c, list) => [0 ≤ c.i, c.b.length ≤ 4294967296, 1 ≤ list.length]
  res := fun (c, list) => ⟨[.one (.lit (.int .i64 (List.getD list (belowV c list.length).toNat 0)))], true, [.box [.sl .byte ((belowC c list.length)).b, .lit (.int .i64 ((belowC c list.length)).i), .lit (.int .i64 ((belowC c list.length)).h)]]⟩
  law := by intro l x h; (try simp only at h); split at h <;> cases h; rfl
def ann_spec_l1Int : con_spec_l1Int.α → Nat → Option (Ann UU) := fun (c, list) => annL []
def use_spec_l1Int : List (FuncId × Con UU) := [(45, con_spec_l1Below)]
theorem vc_spec_l1Int (c : DCur) (list : (List Int)) : goal EE use_spec_l1Int Go.Proofs.Try.f46 con_spec_l1Int ann_spec_l1Int (c, list) = (let x0 : DCur := belowC c (↑(List.length list) : Int);
(0 : Int) ≤ c.i ∧ List.length c.b ≤ (4294967296 : Nat) ∧ (0 : Int) ≤ belowV c (↑(List.length list) : Int) ∧ Int.toNat (belowV c (↑(List.length list) : Int)) < List.length list ∧ (0 : Nat) = (0 : Nat) ∧ asD [DV.one (Cell.lit (Value.int IntKind.i64 (List.getD list (Int.toNat (belowV c (↑(List.length list) : Int))) (0 : Int))))] = asD [DV.one (Cell.lit (Value.int IntKind.i64 (List.getD list (Int.toNat (belowV c (↑(List.length list) : Int))) (0 : Int))))] ∧ asD [DV.box [Cell.sl Cd.byte x0.b, Cell.lit (Value.int IntKind.i64 x0.i), Cell.lit (Value.int IntKind.i64 x0.h)]] = asD [DV.box [Cell.sl Cd.byte x0.b, Cell.lit (Value.int IntKind.i64 x0.i), Cell.lit (Value.int IntKind.i64 x0.h)]]) := by kernel_rfl
theorem ok_spec_l1Int : Holds EE (46, con_spec_l1Int) := by
  refine holds_of EE_ok Go.Proofs.Try.func46 con_spec_l1Int (by kernel_rfl) use_spec_l1Int (all_cons ok_spec_l1Below all_nil) ann_spec_l1Int (fun x hp hb => ?_)
  obtain ⟨c, list⟩ := x
  have hb_c : BdDV (U := UU) (.box [.sl .byte c.b, .lit (.int .i64 c.i), .lit (.int .i64 c.h)]) := hb _ (List.mem_cons_self)
  have hl_c_b : c.b.length ≤ 9223372036854775807 := Bd.len (U := UU) (τ := .byte) (xs := c.b) (hb_c _ (by simp))
  have hb_list : BdDV (U := UU) (.one (.sl .int list)) := hb _ (List.mem_cons_of_mem _ (List.mem_cons_self))
  have hl_list : list.length ≤ 9223372036854775807 := Bd.len hb_list
  have hp0 : 0 ≤ c.i := hp _ (List.mem_cons_self)
  have hp1 : c.b.length ≤ 4294967296 := hp _ (List.mem_cons_of_mem _ (List.mem_cons_self))
  have hp2 : 1 ≤ list.length := hp _ (List.mem_cons_of_mem _ (List.mem_cons_of_mem _ (List.mem_cons_self)))
  clear hp hb
  rw [vc_spec_l1Int c list]
  dsimp only
  have hb := belowV_lt (c := c) (n := list.length) (by omega)
  exact ⟨hp0, hp1, hb.1, by omega, rfl, rfl, rfl⟩
def cOk (c : DCur) : Prop := 0 ≤ c.i ∧ c.b.length ≤ 4294967296
theorem cOk_below {c : DCur} (h : cOk c) (n : Int) : cOk (belowC c n) := by
  refine ⟨belowC_i h.1 n, ?_⟩
  have : (belowC c n).b = c.b := by
    unfold belowC
    split
    · rfl
    · split <;> rfl
  rw [this]; exact h.2
theorem cOk_new {code : List Int} (h : code.length ≤ 4294967296) : cOk (newCur code) := ⟨Int.le_refl 0, h⟩
def onceV (c : DCur) (n : Int) : Bool := decide (belowV c n = 0)
def strV (c : DCur) (l : List ByteArray) : ByteArray := List.getD l (belowV c l.length).toNat noBytes
def strC (c : DCur) (l : List ByteArray) : DCur := belowC c l.length
def intV (c : DCur) (l : List Int) : Int := List.getD l (belowV c l.length).toNat 0
def intC (c : DCur) (l : List Int) : DCur := belowC c l.length
theorem cOk_str {c : DCur} (h : cOk c) (l : List ByteArray) : cOk (strC c l) := cOk_below h _
theorem cOk_int {c : DCur} (h : cOk c) (l : List Int) : cOk (intC c l) := cOk_below h _
theorem intV_mem (c : DCur) {l : List Int} (h : 0 < l.length) : intV c l ∈ l := by
  have hb := belowV_lt (c := c) (n := l.length) (by omega)
  have hi : (belowV c l.length).toNat < l.length := by omega
  rw [intV, List.getD_eq_getElem?_getD, List.getElem?_eq_getElem hi]
  exact List.getElem_mem hi
theorem intV_all (c : DCur) {l : List Int} (p : Int → Bool) (h0 : 0 < l.length) (h : l.all p = true) : p (intV c l) = true := List.all_eq_true.1 h _ (intV_mem c h0)
def sLsmall : List ByteArray := [⟨#[97]⟩, ⟨#[98]⟩]
def smallV (c : DCur) : DVal := if onceV c 2 then ⟨1, 1 + belowV (belowC c 2) 3, noBytes⟩ else ⟨2, 0, strV (belowC c 2) sLsmall⟩
def smallC (c : DCur) : DCur := if onceV c 2 then belowC (belowC c 2) 3 else strC (belowC c 2) sLsmall
theorem cOk_small {c : DCur} (h : cOk c) : cOk (smallC c) := by
  unfold smallC; split
  · exact cOk_below (cOk_below h _) _
  · exact cOk_str (cOk_below h _) _
def iLval : List Int := [0, 1, 2, 3, -1, 1000000000, -1000000000]
def sLval : List ByteArray := [⟨#[]⟩, ⟨#[97]⟩, ⟨#[98]⟩, ⟨#[112, 97, 105, 100]⟩, ⟨#[120, 95, 49]⟩]
def valV (c : DCur) : DVal := if onceV c 2 then ⟨1, intV (belowC c 2) iLval, noBytes⟩ else ⟨2, 0, strV (belowC c 2) sLval⟩
def valC (c : DCur) : DCur := if onceV c 2 then intC (belowC c 2) iLval else strC (belowC c 2) sLval
theorem cOk_val {c : DCur} (h : cOk c) : cOk (valC c) := by
  unfold valC; split
  · exact cOk_int (cOk_below h _) _
  · exact cOk_str (cOk_below h _) _
def iLany : List Int := [1000000001, 5]
def sLany : List ByteArray := [⟨#[65]⟩, ⟨#[97, 32, 98]⟩, ⟨#[116, 119, 101, 110, 116, 121, 111, 110, 101, 98, 121, 116, 101, 115, 116, 119, 101, 110, 116, 121, 111]⟩, ⟨#[120]⟩]
def anyvV (c : DCur) : DVal := let v := valV c; let k := belowV (valC c) 10; let d := belowC (valC c) 10; if k = 0 then ⟨belowV d 4, v.N, v.S⟩ else if k = 1 then ⟨v.K, intV d iLany, v.S⟩ else if k = 2 then ⟨v.K, v.N, strV d sLany⟩ else v
def anyvC (c : DCur) : DCur := let k := belowV (valC c) 10; let d := belowC (valC c) 10; if k = 0 then belowC d 4 else if k = 1 then intC d iLany else if k = 2 then strC d sLany else d
def sLkind : List ByteArray := [⟨#[111, 114, 100, 101, 114]⟩, ⟨#[112, 97, 105, 100]⟩, ⟨#[105, 116, 101, 109]⟩, ⟨#[111, 114, 100, 101, 114]⟩]
def bItem : ByteArray := ⟨#[105, 116, 101, 109]⟩
def smallsL : Nat → List DVal → DCur → List DVal
  | 0, l, _ => l
  | k + 1, l, c => smallsL k (l ++ [smallV c]) (smallC c)
def smallsC : Nat → DCur → DCur
  | 0, c => c
  | k + 1, c => smallsC k (smallC c)
theorem cOk_smalls : ∀ {k : Nat} {c : DCur}, cOk c → cOk (smallsC k c)
  | 0, _, h => h
  | k + 1, _, h => cOk_smalls (k := k) (cOk_small h)
def factN (c : DCur) : Int := if onceV (strC c sLkind) 12 then belowV (belowC (strC c sLkind) 12) 6 else if strV c sLkind = bItem then 2 else 1
def factD (c : DCur) : DCur := if onceV (strC c sLkind) 12 then belowC (belowC (strC c sLkind) 12) 6 else belowC (strC c sLkind) 12
def factV (c : DCur) : DFact := ⟨strV c sLkind, smallsL (factN c).toNat [] (factD c)⟩
def factC (c : DCur) : DCur := smallsC (factN c).toNat (factD c)
theorem cOk_factD {c : DCur} (h : cOk c) : cOk (factD c) := by
  have := cOk_below (cOk_str h sLkind) 12
  unfold factD; split
  · exact cOk_below this _
  · exact this
theorem cOk_fact {c : DCur} (h : cOk c) : cOk (factC c) := cOk_smalls (cOk_factD h)
theorem smallsL_len : ∀ (k : Nat) (l : List DVal) (c : DCur), (smallsL k l c).length = l.length + k
  | 0, _, _ => rfl
  | k + 1, l, c => by rw [smallsL, smallsL_len k]; simp only [List.length_append, List.length_cons, List.length_nil]; omega
theorem factV_len (c : DCur) : (factV c).Fields.length = (factN c).toNat := by
  show (smallsL _ _ _).length = _
  rw [smallsL_len]; simp
theorem factN_le (c : DCur) : 0 ≤ factN c ∧ factN c ≤ 5 := by
  have := belowV_lt (c := belowC (strC c sLkind) 12) (n := 6) (by omega)
  unfold factN
  split
  · omega
  · split <;> omega
noncomputable def padL (l : List DVal) (c : DCur) : List DVal × DCur := if h : (l.length : Int) < 5 + belowV c 2 then padL (l ++ [valV (belowC c 2)]) (valC (belowC c 2)) else (l, belowC c 2)
termination_by 6 - l.length
decreasing_by
  have := belowV_lt (c := c) (n := 2) (by omega)
  simp only [List.length_append, List.length_cons, List.length_nil]; omega
theorem padL_yes {l : List DVal} {c : DCur} (h : (l.length : Int) < 5 + belowV c 2) : padL l c = padL (l ++ [valV (belowC c 2)]) (valC (belowC c 2)) := by rw [padL, dif_pos h]
theorem padL_no {l : List DVal} {c : DCur} (h : ¬ (l.length : Int) < 5 + belowV c 2) : padL l c = (l, belowC c 2) := by rw [padL, dif_neg h]
def sLanyk : List ByteArray := [⟨#[]⟩, ⟨#[65]⟩, ⟨#[116, 104, 105, 114, 116, 101, 101, 110, 98, 121, 116, 101, 115]⟩, ⟨#[120]⟩]
noncomputable def anyF (c : DCur) : DFact := let f := factV c; let k := belowV (factC c) 10; let d := belowC (factC c) 10; if k = 0 then ⟨strV d sLanyk, f.Fields⟩ else if k = 1 then ⟨f.Kind, f.Fields ++ [anyvV d]⟩ else if k = 2 then ⟨f.Kind, (padL f.Fields d).1⟩ else f
noncomputable def anyFC (c : DCur) : DCur := let f := factV c; let k := belowV (factC c) 10; let d := belowC (factC c) 10; if k = 0 then strC d sLanyk else if k = 1 then anyvC d else if k = 2 then (padL f.Fields d).2 else d
def con_spec_l1Once : Con UU where
  α := DCur × Int
  md := [.box false, .ro]
  of := fun | [.box [.sl .byte a0, .lit (.int .i64 a1), .lit (.int .i64 a2)], .one (.lit (.int .i64 a3))] => some (⟨a0, a1, a2⟩, a3) | _ => none
  ds := fun (c, n) => [.box [.sl .byte c.b, .lit (.int .i64 c.i), .lit (.int .i64 c.h)], .one (.lit (.int .i64 n))]
  pre := fun (c, n) => [cOk c]
  res := fun (c, n) => ⟨[.one (.lit (.bool (onceV c n)))], true, [.box [.sl .byte ((belowC c n)).b, .lit (.int .i64 ((belowC c n)).i), .lit (.int .i64 ((belowC c n)).h)]]⟩
  law := by intro l x h; (try simp only at h); split at h <;> cases h; rfl
def ann_spec_l1Once : con_spec_l1Once.α → Nat → Option (Ann UU) := fun (c, n) => annL []
def use_spec_l1Once : List (FuncId × Con UU) := [(45, con_spec_l1Below)]
theorem vc_spec_l1Once (c : DCur) (n : Int) : goal EE use_spec_l1Once Go.Proofs.Try.f79 con_spec_l1Once ann_spec_l1Once (c, n) = ((0 : Int) ≤ c.i ∧ List.length c.b ≤ (4294967296 : Nat) ∧ (0 : Nat) = (0 : Nat) ∧ asD [DV.one (Cell.lit (Value.bool (belowV c n == (0 : Int))))] = asD [DV.one (Cell.lit (Value.bool (onceV c n)))] ∧ asD [DV.box [Cell.sl Cd.byte (belowC c n).b, Cell.lit (Value.int IntKind.i64 (belowC c n).i), Cell.lit (Value.int IntKind.i64 (belowC c n).h)]] = asD [DV.box [Cell.sl Cd.byte (belowC c n).b, Cell.lit (Value.int IntKind.i64 (belowC c n).i), Cell.lit (Value.int IntKind.i64 (belowC c n).h)]]) := by kernel_rfl
theorem ok_spec_l1Once : Holds EE (79, con_spec_l1Once) := by
  refine holds_of EE_ok Go.Proofs.Try.func79 con_spec_l1Once (by kernel_rfl) use_spec_l1Once (all_cons ok_spec_l1Below all_nil) ann_spec_l1Once (fun x hp hb => ?_)
  obtain ⟨c, n⟩ := x
  have hb_c : BdDV (U := UU) (.box [.sl .byte c.b, .lit (.int .i64 c.i), .lit (.int .i64 c.h)]) := hb _ (List.mem_cons_self)
  have hl_c_b : c.b.length ≤ 9223372036854775807 := Bd.len (U := UU) (τ := .byte) (xs := c.b) (hb_c _ (by simp))
  have hb_n : BdDV (U := UU) (.one (.lit (.int .i64 n))) := hb _ (List.mem_cons_of_mem _ (List.mem_cons_self))
  have hl_n := Bd.i64 hb_n
  have hp0 : cOk c := hp _ (List.mem_cons_self)
  clear hp hb
  rw [vc_spec_l1Once c n]
  exact ⟨hp0.1, hp0.2, rfl, rfl, rfl⟩
def con_spec_l1Str : Con UU where
  α := DCur × (List ByteArray)
  md := [.box false, .ro]
  of := fun | [.box [.sl .byte a0, .lit (.int .i64 a1), .lit (.int .i64 a2)], .one (.sl .str a3)] => some (⟨a0, a1, a2⟩, a3) | _ => none
  ds := fun (c, list) => [.box [.sl .byte c.b, .lit (.int .i64 c.i), .lit (.int .i64 c.h)], .one (.sl .str list)]
  pre := fun (c, list) => [cOk c, 1 ≤ list.length]
  res := fun (c, list) => ⟨[.one (.lit (.string (strV c list)))], true, [.box [.sl .byte ((strC c list)).b, .lit (.int .i64 ((strC c list)).i), .lit (.int .i64 ((strC c list)).h)]]⟩
  law := by intro l x h; (try simp only at h); split at h <;> cases h; rfl
def ann_spec_l1Str : con_spec_l1Str.α → Nat → Option (Ann UU) := fun (c, list) => annL []
def use_spec_l1Str : List (FuncId × Con UU) := [(45, con_spec_l1Below)]
theorem vc_spec_l1Str (c : DCur) (list : (List ByteArray)) : goal EE use_spec_l1Str Go.Proofs.Try.f82 con_spec_l1Str ann_spec_l1Str (c, list) = (let x0 : DCur := belowC c (↑(List.length list) : Int);
(0 : Int) ≤ c.i ∧ List.length c.b ≤ (4294967296 : Nat) ∧ (0 : Int) ≤ belowV c (↑(List.length list) : Int) ∧ Int.toNat (belowV c (↑(List.length list) : Int)) < List.length list ∧ (0 : Nat) = (0 : Nat) ∧ asD [DV.one (Cell.lit (Value.string (List.getD list (Int.toNat (belowV c (↑(List.length list) : Int))) noBytes)))] = asD [DV.one (Cell.lit (Value.string (strV c list)))] ∧ asD [DV.box [Cell.sl Cd.byte x0.b, Cell.lit (Value.int IntKind.i64 x0.i), Cell.lit (Value.int IntKind.i64 x0.h)]] = asD [DV.box [Cell.sl Cd.byte (strC c list).b, Cell.lit (Value.int IntKind.i64 (strC c list).i), Cell.lit (Value.int IntKind.i64 (strC c list).h)]]) := by kernel_rfl
theorem ok_spec_l1Str : Holds EE (82, con_spec_l1Str) := by
  refine holds_of EE_ok Go.Proofs.Try.func82 con_spec_l1Str (by kernel_rfl) use_spec_l1Str (all_cons ok_spec_l1Below all_nil) ann_spec_l1Str (fun x hp hb => ?_)
  obtain ⟨c, list⟩ := x
  have hb_c : BdDV (U := UU) (.box [.sl .byte c.b, .lit (.int .i64 c.i), .lit (.int .i64 c.h)]) := hb _ (List.mem_cons_self)
  have hl_c_b : c.b.length ≤ 9223372036854775807 := Bd.len (U := UU) (τ := .byte) (xs := c.b) (hb_c _ (by simp))
  have hb_list : BdDV (U := UU) (.one (.sl .str list)) := hb _ (List.mem_cons_of_mem _ (List.mem_cons_self))
  have hl_list : list.length ≤ 9223372036854775807 := Bd.len hb_list
  have hp0 : cOk c := hp _ (List.mem_cons_self)
  have hp1 : 1 ≤ list.length := hp _ (List.mem_cons_of_mem _ (List.mem_cons_self))
  clear hp hb
  rw [vc_spec_l1Str c list]
  dsimp only
  have hb := belowV_lt (c := c) (n := list.length) (by omega)
  exact ⟨hp0.1, hp0.2, hb.1, by omega, rfl, rfl, rfl⟩
def con_spec_l3Small : Con UU where
  α := DCur
  md := [.box false]
  of := fun | [.box [.sl .byte a0, .lit (.int .i64 a1), .lit (.int .i64 a2)]] => some ⟨a0, a1, a2⟩ | _ => none
  ds := fun c => [.box [.sl .byte c.b, .lit (.int .i64 c.i), .lit (.int .i64 c.h)]]
  pre := fun c => [cOk c]
  res := fun c => ⟨[.agg [.lit (.int .i64 ((smallV c)).K), .lit (.int .i64 ((smallV c)).N), .lit (.string ((smallV c)).S)]], true, [.box [.sl .byte ((smallC c)).b, .lit (.int .i64 ((smallC c)).i), .lit (.int .i64 ((smallC c)).h)]]⟩
  law := by intro l x h; (try simp only at h); split at h <;> cases h; rfl
def ann_spec_l3Small : con_spec_l3Small.α → Nat → Option (Ann UU) := fun c => annL []
def use_spec_l3Small : List (FuncId × Con UU) := [(79, con_spec_l1Once), (45, con_spec_l1Below), (82, con_spec_l1Str)]
theorem vc_spec_l3Small (c : DCur) : goal EE use_spec_l3Small Go.Proofs.Try.f93 con_spec_l3Small ann_spec_l3Small c = (let x0 : DCur := strC (belowC c (2 : Int)) [{ data := #[(97 : UInt8)] : ByteArray }, { data := #[(98 : UInt8)] : ByteArray }];
let x1 : List ByteArray := [{ data := #[(97 : UInt8)] : ByteArray }, { data := #[(98 : UInt8)] : ByteArray }];
let x2 : DCur := belowC (belowC c (2 : Int)) (3 : Int);
cOk c ∧ bif onceV c (2 : Int) then (0 : Int) ≤ (belowC c (2 : Int)).i ∧ List.length (belowC c (2 : Int)).b ≤ (4294967296 : Nat) ∧ (0 : Nat) = (0 : Nat) ∧ asD [DV.agg [Cell.lit (Value.int IntKind.i64 (1 : Int)), Cell.lit (Value.int IntKind.i64 (IntKind.wrap IntKind.i64 ((1 : Int) + belowV (belowC c (2 : Int)) (3 : Int)))), Cell.lit (Value.string { data := #[] : ByteArray })]] = asD [DV.agg [Cell.lit (Value.int IntKind.i64 (smallV c).K), Cell.lit (Value.int IntKind.i64 (smallV c).N), Cell.lit (Value.string (smallV c).S)]] ∧ asD [DV.box [Cell.sl Cd.byte x2.b, Cell.lit (Value.int IntKind.i64 x2.i), Cell.lit (Value.int IntKind.i64 x2.h)]] = asD [DV.box [Cell.sl Cd.byte (smallC c).b, Cell.lit (Value.int IntKind.i64 (smallC c).i), Cell.lit (Value.int IntKind.i64 (smallC c).h)]] else cOk (belowC c (2 : Int)) ∧ (1 : Nat) ≤ List.length x1 ∧ (0 : Nat) = (0 : Nat) ∧ asD [DV.agg [Cell.lit (Value.int IntKind.i64 (2 : Int)), Cell.lit (Value.int IntKind.i64 (0 : Int)), Cell.lit (Value.string (strV (belowC c (2 : Int)) x1))]] = asD [DV.agg [Cell.lit (Value.int IntKind.i64 (smallV c).K), Cell.lit (Value.int IntKind.i64 (smallV c).N), Cell.lit (Value.string (smallV c).S)]] ∧ asD [DV.box [Cell.sl Cd.byte x0.b, Cell.lit (Value.int IntKind.i64 x0.i), Cell.lit (Value.int IntKind.i64 x0.h)]] = asD [DV.box [Cell.sl Cd.byte (smallC c).b, Cell.lit (Value.int IntKind.i64 (smallC c).i), Cell.lit (Value.int IntKind.i64 (smallC c).h)]]) := by kernel_rfl
theorem ok_spec_l3Small : Holds EE (93, con_spec_l3Small) := by
  refine holds_of EE_ok Go.Proofs.Try.func93 con_spec_l3Small (by kernel_rfl) use_spec_l3Small (all_cons ok_spec_l1Once (all_cons ok_spec_l1Below (all_cons ok_spec_l1Str all_nil))) ann_spec_l3Small (fun (c : DCur) hp hb => ?_)
  have hb_c : BdDV (U := UU) (.box [.sl .byte c.b, .lit (.int .i64 c.i), .lit (.int .i64 c.h)]) := hb _ (List.mem_cons_self)
  have hl_c_b : c.b.length ≤ 9223372036854775807 := Bd.len (U := UU) (τ := .byte) (xs := c.b) (hb_c _ (by simp))
  have hp0 : cOk c := hp _ (List.mem_cons_self)
  clear hp hb
  rw [vc_spec_l3Small c]
  dsimp only
  refine ⟨hp0, if_cond (fun h => ?_) (fun h => ?_)⟩
  · have hb := belowV_lt (c := belowC c 2) (n := 3) (by omega)
    have h2 := cOk_below hp0 2
    rw [wrap_i64 (by omega) (by omega)]
    rw [smallV, smallC, if_pos h, if_pos h]; exact ⟨h2.1, h2.2, rfl, rfl, rfl⟩
  · have h2 := cOk_below hp0 2
    rw [smallV, smallC, if_neg (by simp [h]), if_neg (by simp [h])]; exact ⟨h2, by simp, rfl, rfl, rfl⟩
def con_spec_l2Draw : Con UU where
  α := DCur
  md := [.box false]
  of := fun | [.box [.sl .byte a0, .lit (.int .i64 a1), .lit (.int .i64 a2)]] => some ⟨a0, a1, a2⟩ | _ => none
  ds := fun c => [.box [.sl .byte c.b, .lit (.int .i64 c.i), .lit (.int .i64 c.h)]]
  pre := fun c => [cOk c]
  res := fun c => ⟨[.agg [.lit (.int .i64 ((valV c)).K), .lit (.int .i64 ((valV c)).N), .lit (.string ((valV c)).S)]], true, [.box [.sl .byte ((valC c)).b, .lit (.int .i64 ((valC c)).i), .lit (.int .i64 ((valC c)).h)]]⟩
  law := by intro l x h; (try simp only at h); split at h <;> cases h; rfl
def ann_spec_l2Draw : con_spec_l2Draw.α → Nat → Option (Ann UU) := fun c => annL []
def use_spec_l2Draw : List (FuncId × Con UU) := [(79, con_spec_l1Once), (46, con_spec_l1Int), (82, con_spec_l1Str)]
theorem vc_spec_l2Draw (c : DCur) : goal EE use_spec_l2Draw Go.Proofs.Try.f118 con_spec_l2Draw ann_spec_l2Draw c = (let x0 : DCur := strC (belowC c (2 : Int)) [{ data := #[] : ByteArray }, { data := #[(97 : UInt8)] : ByteArray }, { data := #[(98 : UInt8)] : ByteArray }, { data := #[(112 : UInt8), (97 : UInt8), (105 : UInt8), (100 : UInt8)] : ByteArray }, { data := #[(120 : UInt8), (95 : UInt8), (49 : UInt8)] : ByteArray }];
let x1 : DCur := belowC (belowC c (2 : Int)) (↑(List.length [(0 : Int), (1 : Int), (2 : Int), (3 : Int), (-1 : Int), (1000000000 : Int), (-1000000000 : Int)]) : Int);
let x2 : List ByteArray := [{ data := #[] : ByteArray }, { data := #[(97 : UInt8)] : ByteArray }, { data := #[(98 : UInt8)] : ByteArray }, { data := #[(112 : UInt8), (97 : UInt8), (105 : UInt8), (100 : UInt8)] : ByteArray }, { data := #[(120 : UInt8), (95 : UInt8), (49 : UInt8)] : ByteArray }];
let x3 : Nat := List.length [(0 : Int), (1 : Int), (2 : Int), (3 : Int), (-1 : Int), (1000000000 : Int), (-1000000000 : Int)];
cOk c ∧ bif onceV c (2 : Int) then (0 : Int) ≤ (belowC c (2 : Int)).i ∧ List.length (belowC c (2 : Int)).b ≤ (4294967296 : Nat) ∧ (1 : Nat) ≤ x3 ∧ (0 : Nat) = (0 : Nat) ∧ asD [DV.agg [Cell.lit (Value.int IntKind.i64 (1 : Int)), Cell.lit (Value.int IntKind.i64 (List.getD [(0 : Int), (1 : Int), (2 : Int), (3 : Int), (-1 : Int), (1000000000 : Int), (-1000000000 : Int)] (Int.toNat (belowV (belowC c (2 : Int)) (↑x3 : Int))) (0 : Int))), Cell.lit (Value.string { data := #[] : ByteArray })]] = asD [DV.agg [Cell.lit (Value.int IntKind.i64 (valV c).K), Cell.lit (Value.int IntKind.i64 (valV c).N), Cell.lit (Value.string (valV c).S)]] ∧ asD [DV.box [Cell.sl Cd.byte x1.b, Cell.lit (Value.int IntKind.i64 x1.i), Cell.lit (Value.int IntKind.i64 x1.h)]] = asD [DV.box [Cell.sl Cd.byte (valC c).b, Cell.lit (Value.int IntKind.i64 (valC c).i), Cell.lit (Value.int IntKind.i64 (valC c).h)]] else cOk (belowC c (2 : Int)) ∧ (1 : Nat) ≤ List.length x2 ∧ (0 : Nat) = (0 : Nat) ∧ asD [DV.agg [Cell.lit (Value.int IntKind.i64 (2 : Int)), Cell.lit (Value.int IntKind.i64 (0 : Int)), Cell.lit (Value.string (strV (belowC c (2 : Int)) x2))]] = asD [DV.agg [Cell.lit (Value.int IntKind.i64 (valV c).K), Cell.lit (Value.int IntKind.i64 (valV c).N), Cell.lit (Value.string (valV c).S)]] ∧ asD [DV.box [Cell.sl Cd.byte x0.b, Cell.lit (Value.int IntKind.i64 x0.i), Cell.lit (Value.int IntKind.i64 x0.h)]] = asD [DV.box [Cell.sl Cd.byte (valC c).b, Cell.lit (Value.int IntKind.i64 (valC c).i), Cell.lit (Value.int IntKind.i64 (valC c).h)]]) := by kernel_rfl
theorem ok_spec_l2Draw : Holds EE (118, con_spec_l2Draw) := by
  refine holds_of EE_ok Go.Proofs.Try.func118 con_spec_l2Draw (by kernel_rfl) use_spec_l2Draw (all_cons ok_spec_l1Once (all_cons ok_spec_l1Int (all_cons ok_spec_l1Str all_nil))) ann_spec_l2Draw (fun (c : DCur) hp hb => ?_)
  have hb_c : BdDV (U := UU) (.box [.sl .byte c.b, .lit (.int .i64 c.i), .lit (.int .i64 c.h)]) := hb _ (List.mem_cons_self)
  have hl_c_b : c.b.length ≤ 9223372036854775807 := Bd.len (U := UU) (τ := .byte) (xs := c.b) (hb_c _ (by simp))
  have hp0 : cOk c := hp _ (List.mem_cons_self)
  clear hp hb
  rw [vc_spec_l2Draw c]
  dsimp only
  have h2 := cOk_below hp0 2
  refine ⟨hp0, if_cond (fun h => ?_) (fun h => ?_)⟩
  · rw [valV, valC, if_pos h, if_pos h]; exact ⟨h2.1, h2.2, by simp, rfl, rfl, rfl⟩
  · rw [valV, valC, if_neg (by simp [h]), if_neg (by simp [h])]; exact ⟨h2, by simp, rfl, rfl, rfl⟩
def con_spec_l2Any : Con UU where
  α := DCur
  md := [.box false]
  of := fun | [.box [.sl .byte a0, .lit (.int .i64 a1), .lit (.int .i64 a2)]] => some ⟨a0, a1, a2⟩ | _ => none
  ds := fun c => [.box [.sl .byte c.b, .lit (.int .i64 c.i), .lit (.int .i64 c.h)]]
  pre := fun c => [cOk c]
  res := fun c => ⟨[.agg [.lit (.int .i64 ((anyvV c)).K), .lit (.int .i64 ((anyvV c)).N), .lit (.string ((anyvV c)).S)]], true, [.box [.sl .byte ((anyvC c)).b, .lit (.int .i64 ((anyvC c)).i), .lit (.int .i64 ((anyvC c)).h)]]⟩
  law := by intro l x h; (try simp only at h); split at h <;> cases h; rfl
def ann_spec_l2Any : con_spec_l2Any.α → Nat → Option (Ann UU) := fun c => annL []
def use_spec_l2Any : List (FuncId × Con UU) := [(118, con_spec_l2Draw), (45, con_spec_l1Below), (46, con_spec_l1Int), (82, con_spec_l1Str)]
theorem vc_spec_l2Any (c : DCur) : goal EE use_spec_l2Any Go.Proofs.Try.f84 con_spec_l2Any ann_spec_l2Any c = (let x0 : DCur := strC (belowC (valC c) (10 : Int)) [{ data := #[(65 : UInt8)] : ByteArray }, { data := #[(97 : UInt8), (32 : UInt8), (98 : UInt8)] : ByteArray }, { data := #[(116 : UInt8), (119 : UInt8), (101 : UInt8), (110 : UInt8), (116 : UInt8), (121 : UInt8), (111 : UInt8), (110 : UInt8), (101 : UInt8), (98 : UInt8), (121 : UInt8), (116 : UInt8), (101 : UInt8), (115 : UInt8), (116 : UInt8), (119 : UInt8), (101 : UInt8), (110 : UInt8), (116 : UInt8), (121 : UInt8), (111 : UInt8)] : ByteArray }, { data := #[(120 : UInt8)] : ByteArray }];
let x1 : List ByteArray := [{ data := #[(65 : UInt8)] : ByteArray }, { data := #[(97 : UInt8), (32 : UInt8), (98 : UInt8)] : ByteArray }, { data := #[(116 : UInt8), (119 : UInt8), (101 : UInt8), (110 : UInt8), (116 : UInt8), (121 : UInt8), (111 : UInt8), (110 : UInt8), (101 : UInt8), (98 : UInt8), (121 : UInt8), (116 : UInt8), (101 : UInt8), (115 : UInt8), (116 : UInt8), (119 : UInt8), (101 : UInt8), (110 : UInt8), (116 : UInt8), (121 : UInt8), (111 : UInt8)] : ByteArray }, { data := #[(120 : UInt8)] : ByteArray }];
let x2 : DCur := belowC (belowC (valC c) (10 : Int)) (↑(List.length [(1000000001 : Int), (5 : Int)]) : Int);
let x3 : DCur := belowC (valC c) (10 : Int);
let x4 : Nat := List.length [(1000000001 : Int), (5 : Int)];
cOk c ∧ (0 : Int) ≤ (valC c).i ∧ List.length (valC c).b ≤ (4294967296 : Nat) ∧ bif belowV (valC c) (10 : Int) == (0 : Int) then (0 : Int) ≤ x3.i ∧ List.length x3.b ≤ (4294967296 : Nat) ∧ (0 : Nat) = (0 : Nat) ∧ asD [DV.agg [Cell.lit (Value.int IntKind.i64 (belowV x3 (4 : Int))), Cell.lit (Value.int IntKind.i64 (valV c).N), Cell.lit (Value.string (valV c).S)]] = asD [DV.agg [Cell.lit (Value.int IntKind.i64 (anyvV c).K), Cell.lit (Value.int IntKind.i64 (anyvV c).N), Cell.lit (Value.string (anyvV c).S)]] ∧ asD [DV.box [Cell.sl Cd.byte (belowC x3 (4 : Int)).b, Cell.lit (Value.int IntKind.i64 (belowC x3 (4 : Int)).i), Cell.lit (Value.int IntKind.i64 (belowC x3 (4 : Int)).h)]] = asD [DV.box [Cell.sl Cd.byte (anyvC c).b, Cell.lit (Value.int IntKind.i64 (anyvC c).i), Cell.lit (Value.int IntKind.i64 (anyvC c).h)]] else bif belowV (valC c) (10 : Int) == (1 : Int) then (0 : Int) ≤ x3.i ∧ List.length x3.b ≤ (4294967296 : Nat) ∧ (1 : Nat) ≤ x4 ∧ (0 : Nat) = (0 : Nat) ∧ asD [DV.agg [Cell.lit (Value.int IntKind.i64 (valV c).K), Cell.lit (Value.int IntKind.i64 (List.getD [(1000000001 : Int), (5 : Int)] (Int.toNat (belowV x3 (↑x4 : Int))) (0 : Int))), Cell.lit (Value.string (valV c).S)]] = asD [DV.agg [Cell.lit (Value.int IntKind.i64 (anyvV c).K), Cell.lit (Value.int IntKind.i64 (anyvV c).N), Cell.lit (Value.string (anyvV c).S)]] ∧ asD [DV.box [Cell.sl Cd.byte x2.b, Cell.lit (Value.int IntKind.i64 x2.i), Cell.lit (Value.int IntKind.i64 x2.h)]] = asD [DV.box [Cell.sl Cd.byte (anyvC c).b, Cell.lit (Value.int IntKind.i64 (anyvC c).i), Cell.lit (Value.int IntKind.i64 (anyvC c).h)]] else bif belowV (valC c) (10 : Int) == (2 : Int) then cOk x3 ∧ (1 : Nat) ≤ List.length x1 ∧ (0 : Nat) = (0 : Nat) ∧ asD [DV.agg [Cell.lit (Value.int IntKind.i64 (valV c).K), Cell.lit (Value.int IntKind.i64 (valV c).N), Cell.lit (Value.string (strV x3 x1))]] = asD [DV.agg [Cell.lit (Value.int IntKind.i64 (anyvV c).K), Cell.lit (Value.int IntKind.i64 (anyvV c).N), Cell.lit (Value.string (anyvV c).S)]] ∧ asD [DV.box [Cell.sl Cd.byte x0.b, Cell.lit (Value.int IntKind.i64 x0.i), Cell.lit (Value.int IntKind.i64 x0.h)]] = asD [DV.box [Cell.sl Cd.byte (anyvC c).b, Cell.lit (Value.int IntKind.i64 (anyvC c).i), Cell.lit (Value.int IntKind.i64 (anyvC c).h)]] else (0 : Nat) = (0 : Nat) ∧ asD [DV.agg [Cell.lit (Value.int IntKind.i64 (valV c).K), Cell.lit (Value.int IntKind.i64 (valV c).N), Cell.lit (Value.string (valV c).S)]] = asD [DV.agg [Cell.lit (Value.int IntKind.i64 (anyvV c).K), Cell.lit (Value.int IntKind.i64 (anyvV c).N), Cell.lit (Value.string (anyvV c).S)]] ∧ asD [DV.box [Cell.sl Cd.byte x3.b, Cell.lit (Value.int IntKind.i64 x3.i), Cell.lit (Value.int IntKind.i64 x3.h)]] = asD [DV.box [Cell.sl Cd.byte (anyvC c).b, Cell.lit (Value.int IntKind.i64 (anyvC c).i), Cell.lit (Value.int IntKind.i64 (anyvC c).h)]]) := by kernel_rfl
theorem ok_spec_l2Any : Holds EE (84, con_spec_l2Any) := by
  refine holds_of EE_ok Go.Proofs.Try.func84 con_spec_l2Any (by kernel_rfl) use_spec_l2Any (all_cons ok_spec_l2Draw (all_cons ok_spec_l1Below (all_cons ok_spec_l1Int (all_cons ok_spec_l1Str all_nil)))) ann_spec_l2Any (fun (c : DCur) hp hb => ?_)
  have hb_c : BdDV (U := UU) (.box [.sl .byte c.b, .lit (.int .i64 c.i), .lit (.int .i64 c.h)]) := hb _ (List.mem_cons_self)
  have hl_c_b : c.b.length ≤ 9223372036854775807 := Bd.len (U := UU) (τ := .byte) (xs := c.b) (hb_c _ (by simp))
  have hp0 : cOk c := hp _ (List.mem_cons_self)
  clear hp hb
  rw [vc_spec_l2Any c]
  dsimp only
  have h2 := cOk_val hp0
  have h3 := cOk_below h2 10
  refine ⟨hp0, h2.1, h2.2, if_cond (fun h => ?_) (fun h => if_cond (fun h' => ?_) (fun h' => if_cond (fun h'' => ?_) (fun h'' => ?_)))⟩
  · have h := eq_of_beq h
    have e1 : anyvV c = ⟨belowV (belowC (valC c) 10) 4, (valV c).N, (valV c).S⟩ := by simp only [anyvV, h, if_true]
    have e2 : anyvC c = belowC (belowC (valC c) 10) 4 := by simp only [anyvC, h, if_true]
    rw [e1, e2]; exact ⟨h3.1, h3.2, rfl, rfl, rfl⟩
  · have h : ¬ belowV (valC c) 10 = 0 := by simpa using h
    have h' := eq_of_beq h'
    have e1 : anyvV c = ⟨(valV c).K, intV (belowC (valC c) 10) iLany, (valV c).S⟩ := by simp only [anyvV]; rw [if_neg h, if_pos h']
    have e2 : anyvC c = intC (belowC (valC c) 10) iLany := by simp only [anyvC]; rw [if_neg h, if_pos h']
    rw [e1, e2]; exact ⟨h3.1, h3.2, by simp, rfl, rfl, rfl⟩
  · have h : ¬ belowV (valC c) 10 = 0 := by simpa using h
    have h' : ¬ belowV (valC c) 10 = 1 := by simpa using h'
    have h'' := eq_of_beq h''
    have e1 : anyvV c = ⟨(valV c).K, (valV c).N, strV (belowC (valC c) 10) sLany⟩ := by simp only [anyvV]; rw [if_neg h, if_neg h', if_pos h'']
    have e2 : anyvC c = strC (belowC (valC c) 10) sLany := by simp only [anyvC]; rw [if_neg h, if_neg h', if_pos h'']
    rw [e1, e2]; exact ⟨h3, by simp, rfl, rfl, rfl⟩
  · have h : ¬ belowV (valC c) 10 = 0 := by simpa using h
    have h' : ¬ belowV (valC c) 10 = 1 := by simpa using h'
    have h'' : ¬ belowV (valC c) 10 = 2 := by simpa using h''
    have e1 : anyvV c = valV c := by simp only [anyvV]; rw [if_neg h, if_neg h', if_neg h'']
    have e2 : anyvC c = belowC (valC c) 10 := by simp only [anyvC]; rw [if_neg h, if_neg h', if_neg h'']
    rw [e1, e2]; exact ⟨rfl, rfl, rfl⟩
def con_spec_l3Draw : Con UU where
  α := DCur
  md := [.box false]
  of := fun | [.box [.sl .byte a0, .lit (.int .i64 a1), .lit (.int .i64 a2)]] => some ⟨a0, a1, a2⟩ | _ => none
  ds := fun c => [.box [.sl .byte c.b, .lit (.int .i64 c.i), .lit (.int .i64 c.h)]]
  pre := fun c => [cOk c]
  res := fun c => ⟨[.agg [.lit (.string ((factV c)).Kind), .sl .eVal ((factV c)).Fields]], true, [.box [.sl .byte ((factC c)).b, .lit (.int .i64 ((factC c)).i), .lit (.int .i64 ((factC c)).h)]]⟩
  law := by intro l x h; (try simp only at h); split at h <;> cases h; rfl
def I_spec_l3Draw_8 (c : DCur) : Int × (ByteArray × List DVal × Unit) × (ByteArray × List DVal × Unit) × (List Int × Int × Int × Unit) × Unit → Prop := fun (i, r, f, cu, _) => 0 ≤ i ∧ i ≤ factN c ∧ f.1 = strV c sLkind ∧ cOk ⟨cu.1, cu.2.1, cu.2.2.1⟩ ∧ f.2.1.length ≤ i ∧ smallsL (factN c - i).toNat f.2.1 ⟨cu.1, cu.2.1, cu.2.2.1⟩ = (factV c).Fields ∧ smallsC (factN c - i).toNat ⟨cu.1, cu.2.1, cu.2.2.1⟩ = factC c
def μ_spec_l3Draw_8 (c : DCur) : Int × (ByteArray × List DVal × Unit) × (ByteArray × List DVal × Unit) × (List Int × Int × Int × Unit) × Unit → Nat := fun (i, r, f, cu, _) => (factN c - i).toNat
def ann_spec_l3Draw : con_spec_l3Draw.α → Nat → Option (Ann UU) := fun c => annL [(8, annOf [.slot 5 (5, 1024) (.lit (.int .i64)), .box 2 (2, 1024) [.lit .str, .own .eVal true], .box 3 (3, 1024) [.lit .str, .own .eVal true], .box 0 (2000000, 0) [.shr .byte, .lit (.int .i64), .lit (.int .i64)]] (fun _ => I_spec_l3Draw_8 c) (μ_spec_l3Draw_8 c))]
def use_spec_l3Draw : List (FuncId × Con UU) := [(82, con_spec_l1Str), (79, con_spec_l1Once), (45, con_spec_l1Below), (93, con_spec_l3Small)]
theorem vc_spec_l3Draw (c : DCur) : goal EE use_spec_l3Draw Go.Proofs.Try.f117 con_spec_l3Draw ann_spec_l3Draw c = (let x0 : DCur := belowC (strC c [{ data := #[(111 : UInt8), (114 : UInt8), (100 : UInt8), (101 : UInt8), (114 : UInt8)] : ByteArray }, { data := #[(112 : UInt8), (97 : UInt8), (105 : UInt8), (100 : UInt8)] : ByteArray }, { data := #[(105 : UInt8), (116 : UInt8), (101 : UInt8), (109 : UInt8)] : ByteArray }, { data := #[(111 : UInt8), (114 : UInt8), (100 : UInt8), (101 : UInt8), (114 : UInt8)] : ByteArray }]) (12 : Int);
let x1 : List ByteArray := [{ data := #[(111 : UInt8), (114 : UInt8), (100 : UInt8), (101 : UInt8), (114 : UInt8)] : ByteArray }, { data := #[(112 : UInt8), (97 : UInt8), (105 : UInt8), (100 : UInt8)] : ByteArray }, { data := #[(105 : UInt8), (116 : UInt8), (101 : UInt8), (109 : UInt8)] : ByteArray }, { data := #[(111 : UInt8), (114 : UInt8), (100 : UInt8), (101 : UInt8), (114 : UInt8)] : ByteArray }];
cOk c ∧
  (1 : Nat) ≤ List.length x1 ∧
    bif ByteArray.toList (strV c x1) == ByteArray.toList { data := #[(105 : UInt8), (116 : UInt8), (101 : UInt8), (109 : UInt8)] : ByteArray } then
      cOk (strC c x1) ∧
        bif onceV (strC c x1) (12 : Int) then
          (0 : Int) ≤ x0.i ∧
            List.length x0.b ≤ (4294967296 : Nat) ∧
              I_spec_l3Draw_8 c ((0 : Int), ({ data := #[] : ByteArray }, [], PUnit.unit), (strV c x1, [], PUnit.unit), ((belowC x0 (6 : Int)).b, (belowC x0 (6 : Int)).i, (belowC x0 (6 : Int)).h, PUnit.unit), PUnit.unit) ∧
                ∀ (y : Int × (ByteArray × List DVal × PUnit) × (ByteArray × List DVal × PUnit) × (List Int × Int × Int × PUnit) × PUnit),
                  let x2 : DCur := smallC { b := y.2.2.2.1.1, i := y.2.2.2.1.2.1, h := y.2.2.2.1.2.2.1 : DCur };
                  let x3 : List DVal := [smallV { b := y.2.2.2.1.1, i := y.2.2.2.1.2.1, h := y.2.2.2.1.2.2.1 : DCur }];
                  I_spec_l3Draw_8 c y → bif decide (y.1 < belowV x0 (6 : Int)) then cOk { b := y.2.2.2.1.1, i := y.2.2.2.1.2.1, h := y.2.2.2.1.2.2.1 : DCur } ∧ List.length y.2.2.1.2.1 + List.length x3 ≤ (4294967296 : Nat) ∧ I_spec_l3Draw_8 c (IntKind.wrap IntKind.i64 (y.1 + (1 : Int)), (y.2.1.1, y.2.1.2.1, PUnit.unit), (y.2.2.1.1, y.2.2.1.2.1 ++ x3, PUnit.unit), (x2.b, x2.i, x2.h, PUnit.unit), PUnit.unit) ∧ μ_spec_l3Draw_8 c (IntKind.wrap IntKind.i64 (y.1 + (1 : Int)), (y.2.1.1, y.2.1.2.1, PUnit.unit), (y.2.2.1.1, y.2.2.1.2.1 ++ x3, PUnit.unit), (x2.b, x2.i, x2.h, PUnit.unit), PUnit.unit) < μ_spec_l3Draw_8 c y else (0 : Nat) = (0 : Nat) ∧ asD [DV.agg [Cell.lit (Value.string y.2.2.1.1), Cell.sl Cd.eVal y.2.2.1.2.1]] = asD [DV.agg [Cell.lit (Value.string (factV c).Kind), Cell.sl Cd.eVal (factV c).Fields]] ∧ asD [DV.box [Cell.sl Cd.byte y.2.2.2.1.1, Cell.lit (Value.int IntKind.i64 y.2.2.2.1.2.1), Cell.lit (Value.int IntKind.i64 y.2.2.2.1.2.2.1)]] = asD [DV.box [Cell.sl Cd.byte (factC c).b, Cell.lit (Value.int IntKind.i64 (factC c).i), Cell.lit (Value.int IntKind.i64 (factC c).h)]]
        else
          I_spec_l3Draw_8 c ((0 : Int), ({ data := #[] : ByteArray }, [], PUnit.unit), (strV c x1, [], PUnit.unit), (x0.b, x0.i, x0.h, PUnit.unit), PUnit.unit) ∧
            ∀ (y : Int × (ByteArray × List DVal × PUnit) × (ByteArray × List DVal × PUnit) × (List Int × Int × Int × PUnit) × PUnit),
              let x2 : DCur := smallC { b := y.2.2.2.1.1, i := y.2.2.2.1.2.1, h := y.2.2.2.1.2.2.1 : DCur };
              let x3 : List DVal := [smallV { b := y.2.2.2.1.1, i := y.2.2.2.1.2.1, h := y.2.2.2.1.2.2.1 : DCur }];
              I_spec_l3Draw_8 c y → bif decide (y.1 < (2 : Int)) then cOk { b := y.2.2.2.1.1, i := y.2.2.2.1.2.1, h := y.2.2.2.1.2.2.1 : DCur } ∧ List.length y.2.2.1.2.1 + List.length x3 ≤ (4294967296 : Nat) ∧ I_spec_l3Draw_8 c (IntKind.wrap IntKind.i64 (y.1 + (1 : Int)), (y.2.1.1, y.2.1.2.1, PUnit.unit), (y.2.2.1.1, y.2.2.1.2.1 ++ x3, PUnit.unit), (x2.b, x2.i, x2.h, PUnit.unit), PUnit.unit) ∧ μ_spec_l3Draw_8 c (IntKind.wrap IntKind.i64 (y.1 + (1 : Int)), (y.2.1.1, y.2.1.2.1, PUnit.unit), (y.2.2.1.1, y.2.2.1.2.1 ++ x3, PUnit.unit), (x2.b, x2.i, x2.h, PUnit.unit), PUnit.unit) < μ_spec_l3Draw_8 c y else (0 : Nat) = (0 : Nat) ∧ asD [DV.agg [Cell.lit (Value.string y.2.2.1.1), Cell.sl Cd.eVal y.2.2.1.2.1]] = asD [DV.agg [Cell.lit (Value.string (factV c).Kind), Cell.sl Cd.eVal (factV c).Fields]] ∧ asD [DV.box [Cell.sl Cd.byte y.2.2.2.1.1, Cell.lit (Value.int IntKind.i64 y.2.2.2.1.2.1), Cell.lit (Value.int IntKind.i64 y.2.2.2.1.2.2.1)]] = asD [DV.box [Cell.sl Cd.byte (factC c).b, Cell.lit (Value.int IntKind.i64 (factC c).i), Cell.lit (Value.int IntKind.i64 (factC c).h)]]
    else
      cOk (strC c x1) ∧
        bif onceV (strC c x1) (12 : Int) then
          (0 : Int) ≤ x0.i ∧
            List.length x0.b ≤ (4294967296 : Nat) ∧
              I_spec_l3Draw_8 c ((0 : Int), ({ data := #[] : ByteArray }, [], PUnit.unit), (strV c x1, [], PUnit.unit), ((belowC x0 (6 : Int)).b, (belowC x0 (6 : Int)).i, (belowC x0 (6 : Int)).h, PUnit.unit), PUnit.unit) ∧
                ∀ (y : Int × (ByteArray × List DVal × PUnit) × (ByteArray × List DVal × PUnit) × (List Int × Int × Int × PUnit) × PUnit),
                  let x2 : DCur := smallC { b := y.2.2.2.1.1, i := y.2.2.2.1.2.1, h := y.2.2.2.1.2.2.1 : DCur };
                  let x3 : List DVal := [smallV { b := y.2.2.2.1.1, i := y.2.2.2.1.2.1, h := y.2.2.2.1.2.2.1 : DCur }];
                  I_spec_l3Draw_8 c y → bif decide (y.1 < belowV x0 (6 : Int)) then cOk { b := y.2.2.2.1.1, i := y.2.2.2.1.2.1, h := y.2.2.2.1.2.2.1 : DCur } ∧ List.length y.2.2.1.2.1 + List.length x3 ≤ (4294967296 : Nat) ∧ I_spec_l3Draw_8 c (IntKind.wrap IntKind.i64 (y.1 + (1 : Int)), (y.2.1.1, y.2.1.2.1, PUnit.unit), (y.2.2.1.1, y.2.2.1.2.1 ++ x3, PUnit.unit), (x2.b, x2.i, x2.h, PUnit.unit), PUnit.unit) ∧ μ_spec_l3Draw_8 c (IntKind.wrap IntKind.i64 (y.1 + (1 : Int)), (y.2.1.1, y.2.1.2.1, PUnit.unit), (y.2.2.1.1, y.2.2.1.2.1 ++ x3, PUnit.unit), (x2.b, x2.i, x2.h, PUnit.unit), PUnit.unit) < μ_spec_l3Draw_8 c y else (0 : Nat) = (0 : Nat) ∧ asD [DV.agg [Cell.lit (Value.string y.2.2.1.1), Cell.sl Cd.eVal y.2.2.1.2.1]] = asD [DV.agg [Cell.lit (Value.string (factV c).Kind), Cell.sl Cd.eVal (factV c).Fields]] ∧ asD [DV.box [Cell.sl Cd.byte y.2.2.2.1.1, Cell.lit (Value.int IntKind.i64 y.2.2.2.1.2.1), Cell.lit (Value.int IntKind.i64 y.2.2.2.1.2.2.1)]] = asD [DV.box [Cell.sl Cd.byte (factC c).b, Cell.lit (Value.int IntKind.i64 (factC c).i), Cell.lit (Value.int IntKind.i64 (factC c).h)]]
        else
          I_spec_l3Draw_8 c ((0 : Int), ({ data := #[] : ByteArray }, [], PUnit.unit), (strV c x1, [], PUnit.unit), (x0.b, x0.i, x0.h, PUnit.unit), PUnit.unit) ∧
            ∀ (y : Int × (ByteArray × List DVal × PUnit) × (ByteArray × List DVal × PUnit) × (List Int × Int × Int × PUnit) × PUnit),
              let x2 : DCur := smallC { b := y.2.2.2.1.1, i := y.2.2.2.1.2.1, h := y.2.2.2.1.2.2.1 : DCur };
              let x3 : List DVal := [smallV { b := y.2.2.2.1.1, i := y.2.2.2.1.2.1, h := y.2.2.2.1.2.2.1 : DCur }];
              I_spec_l3Draw_8 c y → bif decide (y.1 < (1 : Int)) then cOk { b := y.2.2.2.1.1, i := y.2.2.2.1.2.1, h := y.2.2.2.1.2.2.1 : DCur } ∧ List.length y.2.2.1.2.1 + List.length x3 ≤ (4294967296 : Nat) ∧ I_spec_l3Draw_8 c (IntKind.wrap IntKind.i64 (y.1 + (1 : Int)), (y.2.1.1, y.2.1.2.1, PUnit.unit), (y.2.2.1.1, y.2.2.1.2.1 ++ x3, PUnit.unit), (x2.b, x2.i, x2.h, PUnit.unit), PUnit.unit) ∧ μ_spec_l3Draw_8 c (IntKind.wrap IntKind.i64 (y.1 + (1 : Int)), (y.2.1.1, y.2.1.2.1, PUnit.unit), (y.2.2.1.1, y.2.2.1.2.1 ++ x3, PUnit.unit), (x2.b, x2.i, x2.h, PUnit.unit), PUnit.unit) < μ_spec_l3Draw_8 c y else (0 : Nat) = (0 : Nat) ∧ asD [DV.agg [Cell.lit (Value.string y.2.2.1.1), Cell.sl Cd.eVal y.2.2.1.2.1]] = asD [DV.agg [Cell.lit (Value.string (factV c).Kind), Cell.sl Cd.eVal (factV c).Fields]] ∧ asD [DV.box [Cell.sl Cd.byte y.2.2.2.1.1, Cell.lit (Value.int IntKind.i64 y.2.2.2.1.2.1), Cell.lit (Value.int IntKind.i64 y.2.2.2.1.2.2.1)]] = asD [DV.box [Cell.sl Cd.byte (factC c).b, Cell.lit (Value.int IntKind.i64 (factC c).i), Cell.lit (Value.int IntKind.i64 (factC c).h)]]) := by kernel_rfl
theorem ok_spec_l3Draw : Holds EE (117, con_spec_l3Draw) := by
  refine holds_of EE_ok Go.Proofs.Try.func117 con_spec_l3Draw (by kernel_rfl) use_spec_l3Draw (all_cons ok_spec_l1Str (all_cons ok_spec_l1Once (all_cons ok_spec_l1Below (all_cons ok_spec_l3Small all_nil)))) ann_spec_l3Draw (fun (c : DCur) hp hb => ?_)
  have hb_c : BdDV (U := UU) (.box [.sl .byte c.b, .lit (.int .i64 c.i), .lit (.int .i64 c.h)]) := hb _ (List.mem_cons_self)
  have hl_c_b : c.b.length ≤ 9223372036854775807 := Bd.len (U := UU) (τ := .byte) (xs := c.b) (hb_c _ (by simp))
  have hp0 : cOk c := hp _ (List.mem_cons_self)
  clear hp hb
  rw [vc_spec_l3Draw c]
  dsimp only
  have hk := cOk_str hp0 sLkind
  have hd := cOk_factD hp0
  have hle := factN_le c
  have fin : ∀ (n : Int) (d : DCur), factN c = n → factD c = d →
      I_spec_l3Draw_8 c ((0 : Int), (noBytes, [], PUnit.unit), (strV c sLkind, [], PUnit.unit), (d.b, d.i, d.h, PUnit.unit), PUnit.unit) := by
    rintro n d rfl rfl
    exact ⟨by omega, by omega, rfl, hd, by simp, by simp only [Int.sub_zero]; rfl, by simp only [Int.sub_zero]; rfl⟩
  refine ⟨hp0, by simp, ?_⟩
  refine if_cond (fun h => ⟨hk, if_cond (fun h' => ⟨(cOk_below hk 12).1, (cOk_below hk 12).2, ?_⟩) (fun h' => ?_)⟩) (fun h => ⟨hk, if_cond (fun h' => ⟨(cOk_below hk 12).1, (cOk_below hk 12).2, ?_⟩) (fun h' => ?_)⟩)
  · have hN : factN c = belowV (belowC (strC c sLkind) 12) 6 := if_pos h'
    have hD : factD c = belowC (belowC (strC c sLkind) 12) 6 := if_pos h'
    refine ⟨fin _ _ hN hD, ?_⟩
    have hN' : belowV (belowC (strC c sLkind) 12) 6 = factN c := hN.symm
    rintro ⟨i, r, ⟨fk, fl, ⟨⟩⟩, ⟨cb, ci, ch, ⟨⟩⟩, ⟨⟩⟩ ⟨g1, g2, g3, g4, g5, g6, g7⟩
    simp only at g1 g2 g3 g4 g5 g6 g7 ⊢
    refine if_cond (fun hc => ?_) (fun hc => ?_)
    · have hc : i < factN c := by rw [hN]; exact of_decide_eq_true hc
      have e : (factN c - i).toNat = (factN c - (i + 1)).toNat + 1 := by omega
      rw [e] at g6 g7
      rw [wrap_i64 (by omega) (by omega)]
      exact ⟨g4, by simp only [List.length_cons, List.length_nil]; omega, ⟨by omega, by omega, g3, cOk_small g4, by simp only [List.length_append, List.length_cons, List.length_nil]; omega, g6, g7⟩, by simp only [μ_spec_l3Draw_8]; omega⟩
    · have hc : ¬ i < factN c := by rw [hN]; exact of_decide_eq_false hc
      have e : (factN c - i).toNat = 0 := by omega
      rw [e] at g6 g7
      have g6 : fl = (factV c).Fields := g6
      have g7 : (⟨cb, ci, ch⟩ : DCur) = factC c := g7
      have g3 : fk = (factV c).Kind := g3
      rw [← g7, ← g6, ← g3]
      exact ⟨by trivial, rfl, rfl⟩
  · have h : strV c sLkind = bItem := by rw [toList_beq] at h; exact of_decide_eq_true h
    have hN : factN c = 2 := by rw [factN, if_neg (by rw [show onceV (strC c sLkind) 12 = false from h']; simp), if_pos h]
    have hD : factD c = belowC (strC c sLkind) 12 := if_neg (by rw [show onceV (strC c sLkind) 12 = false from h']; simp)
    refine ⟨fin _ _ hN hD, ?_⟩
    rintro ⟨i, r, ⟨fk, fl, ⟨⟩⟩, ⟨cb, ci, ch, ⟨⟩⟩, ⟨⟩⟩ ⟨g1, g2, g3, g4, g5, g6, g7⟩
    simp only at g1 g2 g3 g4 g5 g6 g7 ⊢
    refine if_cond (fun hc => ?_) (fun hc => ?_)
    · have hc : i < factN c := by rw [hN]; exact of_decide_eq_true hc
      have e : (factN c - i).toNat = (factN c - (i + 1)).toNat + 1 := by omega
      rw [e] at g6 g7
      rw [wrap_i64 (by omega) (by omega)]
      exact ⟨g4, by simp only [List.length_cons, List.length_nil]; omega, ⟨by omega, by omega, g3, cOk_small g4, by simp only [List.length_append, List.length_cons, List.length_nil]; omega, g6, g7⟩, by simp only [μ_spec_l3Draw_8]; omega⟩
    · have hc : ¬ i < factN c := by rw [hN]; exact of_decide_eq_false hc
      have e : (factN c - i).toNat = 0 := by omega
      rw [e] at g6 g7
      have g6 : fl = (factV c).Fields := g6
      have g7 : (⟨cb, ci, ch⟩ : DCur) = factC c := g7
      have g3 : fk = (factV c).Kind := g3
      rw [← g7, ← g6, ← g3]
      exact ⟨by trivial, rfl, rfl⟩
  · have hN : factN c = belowV (belowC (strC c sLkind) 12) 6 := if_pos h'
    have hD : factD c = belowC (belowC (strC c sLkind) 12) 6 := if_pos h'
    refine ⟨fin _ _ hN hD, ?_⟩
    have hN' : belowV (belowC (strC c sLkind) 12) 6 = factN c := hN.symm
    rintro ⟨i, r, ⟨fk, fl, ⟨⟩⟩, ⟨cb, ci, ch, ⟨⟩⟩, ⟨⟩⟩ ⟨g1, g2, g3, g4, g5, g6, g7⟩
    simp only at g1 g2 g3 g4 g5 g6 g7 ⊢
    refine if_cond (fun hc => ?_) (fun hc => ?_)
    · have hc : i < factN c := by rw [hN]; exact of_decide_eq_true hc
      have e : (factN c - i).toNat = (factN c - (i + 1)).toNat + 1 := by omega
      rw [e] at g6 g7
      rw [wrap_i64 (by omega) (by omega)]
      exact ⟨g4, by simp only [List.length_cons, List.length_nil]; omega, ⟨by omega, by omega, g3, cOk_small g4, by simp only [List.length_append, List.length_cons, List.length_nil]; omega, g6, g7⟩, by simp only [μ_spec_l3Draw_8]; omega⟩
    · have hc : ¬ i < factN c := by rw [hN]; exact of_decide_eq_false hc
      have e : (factN c - i).toNat = 0 := by omega
      rw [e] at g6 g7
      have g6 : fl = (factV c).Fields := g6
      have g7 : (⟨cb, ci, ch⟩ : DCur) = factC c := g7
      have g3 : fk = (factV c).Kind := g3
      rw [← g7, ← g6, ← g3]
      exact ⟨by trivial, rfl, rfl⟩
  · have h : ¬ strV c sLkind = bItem := by rw [toList_beq] at h; exact of_decide_eq_false h
    have hN : factN c = 1 := by rw [factN, if_neg (by rw [show onceV (strC c sLkind) 12 = false from h']; simp), if_neg h]
    have hD : factD c = belowC (strC c sLkind) 12 := if_neg (by rw [show onceV (strC c sLkind) 12 = false from h']; simp)
    refine ⟨fin _ _ hN hD, ?_⟩
    rintro ⟨i, r, ⟨fk, fl, ⟨⟩⟩, ⟨cb, ci, ch, ⟨⟩⟩, ⟨⟩⟩ ⟨g1, g2, g3, g4, g5, g6, g7⟩
    simp only at g1 g2 g3 g4 g5 g6 g7 ⊢
    refine if_cond (fun hc => ?_) (fun hc => ?_)
    · have hc : i < factN c := by rw [hN]; exact of_decide_eq_true hc
      have e : (factN c - i).toNat = (factN c - (i + 1)).toNat + 1 := by omega
      rw [e] at g6 g7
      rw [wrap_i64 (by omega) (by omega)]
      exact ⟨g4, by simp only [List.length_cons, List.length_nil]; omega, ⟨by omega, by omega, g3, cOk_small g4, by simp only [List.length_append, List.length_cons, List.length_nil]; omega, g6, g7⟩, by simp only [μ_spec_l3Draw_8]; omega⟩
    · have hc : ¬ i < factN c := by rw [hN]; exact of_decide_eq_false hc
      have e : (factN c - i).toNat = 0 := by omega
      rw [e] at g6 g7
      have g6 : fl = (factV c).Fields := g6
      have g7 : (⟨cb, ci, ch⟩ : DCur) = factC c := g7
      have g3 : fk = (factV c).Kind := g3
      rw [← g7, ← g6, ← g3]
      exact ⟨by trivial, rfl, rfl⟩
def con_spec_l3Any : Con UU where
  α := DCur
  md := [.box false]
  of := fun | [.box [.sl .byte a0, .lit (.int .i64 a1), .lit (.int .i64 a2)]] => some ⟨a0, a1, a2⟩ | _ => none
  ds := fun c => [.box [.sl .byte c.b, .lit (.int .i64 c.i), .lit (.int .i64 c.h)]]
  pre := fun c => [cOk c]
  res := fun c => ⟨[.agg [.lit (.string ((anyF c)).Kind), .sl .eVal ((anyF c)).Fields]], true, [.box [.sl .byte ((anyFC c)).b, .lit (.int .i64 ((anyFC c)).i), .lit (.int .i64 ((anyFC c)).h)]]⟩
  law := by intro l x h; (try simp only at h); split at h <;> cases h; rfl
def I_spec_l3Any_8 (c : DCur) : (ByteArray × List DVal × Unit) × (ByteArray × List DVal × Unit) × (List Int × Int × Int × Unit) × Unit → Prop := fun (r, f, cu, _) => f.1 = (factV c).Kind ∧ cOk ⟨cu.1, cu.2.1, cu.2.2.1⟩ ∧ padL f.2.1 ⟨cu.1, cu.2.1, cu.2.2.1⟩ = padL (factV c).Fields (belowC (factC c) 10)
def μ_spec_l3Any_8 (c : DCur) : (ByteArray × List DVal × Unit) × (ByteArray × List DVal × Unit) × (List Int × Int × Int × Unit) × Unit → Nat := fun (r, f, cu, _) => 6 - f.2.1.length
def ann_spec_l3Any : con_spec_l3Any.α → Nat → Option (Ann UU) := fun c => annL [(8, annOf [.box 2 (2, 1024) [.lit .str, .own .eVal true], .box 3 (3, 1024) [.lit .str, .own .eVal true], .box 0 (2000000, 0) [.shr .byte, .lit (.int .i64), .lit (.int .i64)]] (fun _ => I_spec_l3Any_8 c) (μ_spec_l3Any_8 c))]
def use_spec_l3Any : List (FuncId × Con UU) := [(117, con_spec_l3Draw), (45, con_spec_l1Below), (82, con_spec_l1Str), (84, con_spec_l2Any), (118, con_spec_l2Draw)]
theorem vc_spec_l3Any (c : DCur) : goal EE use_spec_l3Any Go.Proofs.Try.f83 con_spec_l3Any ann_spec_l3Any c = (let x0 : DCur := strC (belowC (factC c) (10 : Int)) [{ data := #[] : ByteArray }, { data := #[(65 : UInt8)] : ByteArray }, { data := #[(116 : UInt8), (104 : UInt8), (105 : UInt8), (114 : UInt8), (116 : UInt8), (101 : UInt8), (101 : UInt8), (110 : UInt8), (98 : UInt8), (121 : UInt8), (116 : UInt8), (101 : UInt8), (115 : UInt8)] : ByteArray }, { data := #[(120 : UInt8)] : ByteArray }];
let x1 : List ByteArray := [{ data := #[] : ByteArray }, { data := #[(65 : UInt8)] : ByteArray }, { data := #[(116 : UInt8), (104 : UInt8), (105 : UInt8), (114 : UInt8), (116 : UInt8), (101 : UInt8), (101 : UInt8), (110 : UInt8), (98 : UInt8), (121 : UInt8), (116 : UInt8), (101 : UInt8), (115 : UInt8)] : ByteArray }, { data := #[(120 : UInt8)] : ByteArray }];
let x2 : DCur := belowC (factC c) (10 : Int);
cOk c ∧
  (0 : Int) ≤ (factC c).i ∧
    List.length (factC c).b ≤ (4294967296 : Nat) ∧
      bif belowV (factC c) (10 : Int) == (0 : Int) then cOk x2 ∧ (1 : Nat) ≤ List.length x1 ∧ (0 : Nat) = (0 : Nat) ∧ asD [DV.agg [Cell.lit (Value.string (strV x2 x1)), Cell.sl Cd.eVal (factV c).Fields]] = asD [DV.agg [Cell.lit (Value.string (anyF c).Kind), Cell.sl Cd.eVal (anyF c).Fields]] ∧ asD [DV.box [Cell.sl Cd.byte x0.b, Cell.lit (Value.int IntKind.i64 x0.i), Cell.lit (Value.int IntKind.i64 x0.h)]] = asD [DV.box [Cell.sl Cd.byte (anyFC c).b, Cell.lit (Value.int IntKind.i64 (anyFC c).i), Cell.lit (Value.int IntKind.i64 (anyFC c).h)]]
      else
        bif belowV (factC c) (10 : Int) == (1 : Int) then cOk x2 ∧ List.length (factV c).Fields + List.length [anyvV x2] ≤ (4294967296 : Nat) ∧ (0 : Nat) = (0 : Nat) ∧ asD [DV.agg [Cell.lit (Value.string (factV c).Kind), Cell.sl Cd.eVal ((factV c).Fields ++ [anyvV x2])]] = asD [DV.agg [Cell.lit (Value.string (anyF c).Kind), Cell.sl Cd.eVal (anyF c).Fields]] ∧ asD [DV.box [Cell.sl Cd.byte (anyvC x2).b, Cell.lit (Value.int IntKind.i64 (anyvC x2).i), Cell.lit (Value.int IntKind.i64 (anyvC x2).h)]] = asD [DV.box [Cell.sl Cd.byte (anyFC c).b, Cell.lit (Value.int IntKind.i64 (anyFC c).i), Cell.lit (Value.int IntKind.i64 (anyFC c).h)]]
        else
          bif belowV (factC c) (10 : Int) == (2 : Int) then
            I_spec_l3Any_8 c (({ data := #[] : ByteArray }, [], PUnit.unit), ((factV c).Kind, (factV c).Fields, PUnit.unit), (x2.b, x2.i, x2.h, PUnit.unit), PUnit.unit) ∧
              ∀ (y : (ByteArray × List DVal × PUnit) × (ByteArray × List DVal × PUnit) × (List Int × Int × Int × PUnit) × PUnit),
                let x3 : DCur := belowC { b := y.2.2.1.1, i := y.2.2.1.2.1, h := y.2.2.1.2.2.1 : DCur } (2 : Int);
                let x4 : Int := IntKind.wrap IntKind.i64 ((5 : Int) + belowV { b := y.2.2.1.1, i := y.2.2.1.2.1, h := y.2.2.1.2.2.1 : DCur } (2 : Int));
                let x5 : Int := (↑(List.length y.2.1.2.1) : Int);
                I_spec_l3Any_8 c y → (0 : Int) ≤ y.2.2.1.2.1 ∧ List.length y.2.2.1.1 ≤ (4294967296 : Nat) ∧ bif decide (x5 < x4) then cOk x3 ∧ List.length y.2.1.2.1 + List.length [valV x3] ≤ (4294967296 : Nat) ∧ I_spec_l3Any_8 c ((y.1.1, y.1.2.1, PUnit.unit), (y.2.1.1, y.2.1.2.1 ++ [valV x3], PUnit.unit), ((valC x3).b, (valC x3).i, (valC x3).h, PUnit.unit), PUnit.unit) ∧ μ_spec_l3Any_8 c ((y.1.1, y.1.2.1, PUnit.unit), (y.2.1.1, y.2.1.2.1 ++ [valV x3], PUnit.unit), ((valC x3).b, (valC x3).i, (valC x3).h, PUnit.unit), PUnit.unit) < μ_spec_l3Any_8 c y else (0 : Nat) = (0 : Nat) ∧ asD [DV.agg [Cell.lit (Value.string y.2.1.1), Cell.sl Cd.eVal y.2.1.2.1]] = asD [DV.agg [Cell.lit (Value.string (anyF c).Kind), Cell.sl Cd.eVal (anyF c).Fields]] ∧ asD [DV.box [Cell.sl Cd.byte x3.b, Cell.lit (Value.int IntKind.i64 x3.i), Cell.lit (Value.int IntKind.i64 x3.h)]] = asD [DV.box [Cell.sl Cd.byte (anyFC c).b, Cell.lit (Value.int IntKind.i64 (anyFC c).i), Cell.lit (Value.int IntKind.i64 (anyFC c).h)]]
          else (0 : Nat) = (0 : Nat) ∧ asD [DV.agg [Cell.lit (Value.string (factV c).Kind), Cell.sl Cd.eVal (factV c).Fields]] = asD [DV.agg [Cell.lit (Value.string (anyF c).Kind), Cell.sl Cd.eVal (anyF c).Fields]] ∧ asD [DV.box [Cell.sl Cd.byte x2.b, Cell.lit (Value.int IntKind.i64 x2.i), Cell.lit (Value.int IntKind.i64 x2.h)]] = asD [DV.box [Cell.sl Cd.byte (anyFC c).b, Cell.lit (Value.int IntKind.i64 (anyFC c).i), Cell.lit (Value.int IntKind.i64 (anyFC c).h)]]) := by kernel_rfl
theorem ok_spec_l3Any : Holds EE (83, con_spec_l3Any) := by
  refine holds_of EE_ok Go.Proofs.Try.func83 con_spec_l3Any (by kernel_rfl) use_spec_l3Any (all_cons ok_spec_l3Draw (all_cons ok_spec_l1Below (all_cons ok_spec_l1Str (all_cons ok_spec_l2Any (all_cons ok_spec_l2Draw all_nil))))) ann_spec_l3Any (fun (c : DCur) hp hb => ?_)
  have hb_c : BdDV (U := UU) (.box [.sl .byte c.b, .lit (.int .i64 c.i), .lit (.int .i64 c.h)]) := hb _ (List.mem_cons_self)
  have hl_c_b : c.b.length ≤ 9223372036854775807 := Bd.len (U := UU) (τ := .byte) (xs := c.b) (hb_c _ (by simp))
  have hp0 : cOk c := hp _ (List.mem_cons_self)
  clear hp hb
  rw [vc_spec_l3Any c]
  dsimp only
  have h2 := cOk_fact hp0
  have h3 := cOk_below h2 10
  have hle := factN_le c
  have hl5 : (factV c).Fields.length ≤ 5 := by rw [factV_len]; omega
  refine ⟨hp0, h2.1, h2.2, if_cond (fun h => ?_) (fun h => if_cond (fun h' => ?_) (fun h' => if_cond (fun h'' => ?_) (fun h'' => ?_)))⟩
  · have h := eq_of_beq h
    have e1 : anyF c = ⟨strV (belowC (factC c) 10) sLanyk, (factV c).Fields⟩ := by simp only [anyF, h, if_true]
    have e2 : anyFC c = strC (belowC (factC c) 10) sLanyk := by simp only [anyFC, h, if_true]
    rw [e1, e2]; exact ⟨h3, by simp, rfl, rfl, rfl⟩
  · have h : ¬ belowV (factC c) 10 = 0 := by simpa using h
    have h' := eq_of_beq h'
    have e1 : anyF c = ⟨(factV c).Kind, (factV c).Fields ++ [anyvV (belowC (factC c) 10)]⟩ := by simp only [anyF]; rw [if_neg h, if_pos h']
    have e2 : anyFC c = anyvC (belowC (factC c) 10) := by simp only [anyFC]; rw [if_neg h, if_pos h']
    rw [e1, e2]; exact ⟨h3, by simp only [List.length_cons, List.length_nil]; omega, rfl, rfl, rfl⟩
  · have h : ¬ belowV (factC c) 10 = 0 := by simpa using h
    have h' : ¬ belowV (factC c) 10 = 1 := by simpa using h'
    have h'' := eq_of_beq h''
    have e1 : anyF c = ⟨(factV c).Kind, (padL (factV c).Fields (belowC (factC c) 10)).1⟩ := by simp only [anyF]; rw [if_neg h, if_neg h', if_pos h'']
    have e2 : anyFC c = (padL (factV c).Fields (belowC (factC c) 10)).2 := by simp only [anyFC]; rw [if_neg h, if_neg h', if_pos h'']
    rw [e1, e2]
    refine ⟨⟨rfl, h3, rfl⟩, ?_⟩
    rintro ⟨r, ⟨fk, fl, ⟨⟩⟩, ⟨cb, ci, ch, ⟨⟩⟩, ⟨⟩⟩ ⟨g1, g2, g3⟩
    simp only at g1 g2 g3 ⊢
    have hb := belowV_lt (c := ⟨cb, ci, ch⟩) (n := 2) (by omega)
    rw [wrap_i64 (n := 5 + belowV ⟨cb, ci, ch⟩ 2) (by omega) (by omega)]
    refine ⟨g2.1, g2.2, if_cond (fun hc => ?_) (fun hc => ?_)⟩
    · have hc := of_decide_eq_true hc
      rw [padL_yes hc] at g3
      exact ⟨cOk_below g2 2, by simp only [List.length_cons, List.length_nil]; omega, ⟨g1, cOk_val (cOk_below g2 2), g3⟩, by simp only [μ_spec_l3Any_8, List.length_append, List.length_cons, List.length_nil]; omega⟩
    · have hc := of_decide_eq_false hc
      rw [padL_no hc] at g3
      rw [← g3, ← g1]
      exact ⟨by trivial, rfl, rfl⟩
  · have h : ¬ belowV (factC c) 10 = 0 := by simpa using h
    have h' : ¬ belowV (factC c) 10 = 1 := by simpa using h'
    have h'' : ¬ belowV (factC c) 10 = 2 := by simpa using h''
    have e1 : anyF c = factV c := by simp only [anyF]; rw [if_neg h, if_neg h', if_neg h'']
    have e2 : anyFC c = belowC (factC c) 10 := by simp only [anyFC]; rw [if_neg h, if_neg h', if_neg h'']
    rw [e1, e2]; exact ⟨rfl, rfl, rfl⟩
def con_laws_big : Con UU where
  α := (List Int)
  md := [.ro]
  of := fun | [.one (.sl .byte a0)] => some a0 | _ => none
  ds := fun code => [.one (.sl .byte code)]
  pre := fun code => []
  res := fun code => ⟨[.one (.lit (.bool (decide (code.length > 1048576))))], true, []⟩
  law := by intro l x h; (try simp only at h); split at h <;> cases h; rfl
def ann_laws_big : con_laws_big.α → Nat → Option (Ann UU) := fun code => annL []
def use_laws_big : List (FuncId × Con UU) := []
theorem vc_laws_big (code : (List Int)) : goal EE use_laws_big Go.Proofs.Try.f8 con_laws_big ann_laws_big code = (Lf [DV.one (Cell.lit (Value.bool (decide ((↑(List.length code) : Int) > (1048576 : Int)))))] [DV.one (Cell.lit (Value.bool (decide (List.length code > (1048576 : Nat)))))]) := by kernel_rfl
theorem ok_laws_big : Holds EE (8, con_laws_big) := by
  refine holds_of EE_ok Go.Proofs.Try.func8 con_laws_big (by kernel_rfl) use_laws_big all_nil ann_laws_big (fun (code : (List Int)) hp hb => ?_)
  have hb_code : BdDV (U := UU) (.one (.sl .byte code)) := hb _ (List.mem_cons_self)
  have hl_code : code.length ≤ 9223372036854775807 := Bd.len hb_code
  clear hp hb
  rw [vc_laws_big code]
  exact Lf_b (decide_eq_decide.2 (by omega))
def con_impl_isTime : Con UU where
  α := Int
  md := [.ro]
  of := fun | [.one (.lit (.int .i64 a0))] => some a0 | _ => none
  ds := fun n => [.one (.lit (.int .i64 n))]
  pre := fun n => []
  res := fun n => ⟨[.one (.lit (.bool (decide (0 ≤ n ∧ n ≤ 1000000000))))], true, []⟩
  law := by intro l x h; (try simp only at h); split at h <;> cases h; rfl
def ann_impl_isTime : con_impl_isTime.α → Nat → Option (Ann UU) := fun n => annL []
def use_impl_isTime : List (FuncId × Con UU) := [(97, con_impl_inRange)]
theorem vc_impl_isTime (n : Int) : goal EE use_impl_isTime Go.Proofs.Try.f108 con_impl_isTime ann_impl_isTime n = (Lf [DV.one (Cell.lit (Value.bool (decide ((0 : Int) ≤ n ∧ n ≤ (1000000000 : Int)))))] [DV.one (Cell.lit (Value.bool (decide ((0 : Int) ≤ n ∧ n ≤ (1000000000 : Int)))))]) := by kernel_rfl
theorem ok_impl_isTime : Holds EE (108, con_impl_isTime) := by
  refine holds_of EE_ok Go.Proofs.Try.func108 con_impl_isTime (by kernel_rfl) use_impl_isTime (all_cons ok_impl_inRange all_nil) ann_impl_isTime (fun (n : Int) hp hb => ?_)
  have hb_n : BdDV (U := UU) (.one (.lit (.int .i64 n))) := hb _ (List.mem_cons_self)
  have hl_n := Bd.i64 hb_n
  clear hp hb
  rw [vc_impl_isTime n]
  exact Lf_rfl _
theorem val_beq (a b : DVal) : (a.K == b.K && (a.N == b.N && (ByteArray.toList a.S == ByteArray.toList b.S && true))) = decide (a = b) := by
  obtain ⟨K, N, S⟩ := a
  obtain ⟨K', N', S'⟩ := b
  simp only [toList_beq, Bool.and_true]
  rw [Bool.eq_iff_iff]
  simp only [Bool.and_eq_true, beq_iff_eq, decide_eq_true_eq, DVal.mk.injEq]
def con_impl_isKey : Con UU where
  α := ByteArray
  md := [.ro]
  of := fun | [.one (.lit (.string a0))] => some a0 | _ => none
  ds := fun s => [.one (.lit (.string s))]
  pre := fun s => []
  res := fun s => ⟨[.one (.lit (.bool (decide (1 ≤ s.size ∧ s.size ≤ 200))))], true, []⟩
  law := by intro l x h; (try simp only at h); split at h <;> cases h; rfl
def ann_impl_isKey : con_impl_isKey.α → Nat → Option (Ann UU) := fun s => annL []
def use_impl_isKey : List (FuncId × Con UU) := [(97, con_impl_inRange)]
theorem vc_impl_isKey (s : ByteArray) : goal EE use_impl_isKey Go.Proofs.Try.f107 con_impl_isKey ann_impl_isKey s = (Lf [DV.one (Cell.lit (Value.bool (decide ((1 : Int) ≤ (↑(ByteArray.size s) : Int) ∧ (↑(ByteArray.size s) : Int) ≤ (200 : Int)))))] [DV.one (Cell.lit (Value.bool (decide ((1 : Nat) ≤ ByteArray.size s ∧ ByteArray.size s ≤ (200 : Nat)))))]) := by kernel_rfl
theorem ok_impl_isKey : Holds EE (107, con_impl_isKey) := by
  refine holds_of EE_ok Go.Proofs.Try.func107 con_impl_isKey (by kernel_rfl) use_impl_isKey (all_cons ok_impl_inRange all_nil) ann_impl_isKey (fun (s : ByteArray) hp hb => ?_)
  have hb_s : BdDV (U := UU) (.one (.lit (.string s))) := hb _ (List.mem_cons_self)
  have hl_s : s.size ≤ 9223372036854775807 := Bd.str hb_s
  clear hp hb
  rw [vc_impl_isKey s]
  refine Lf_b ?_
  rw [decide_eq_decide]; omega
def noFact (f : DFact) : Bool := decide (f.Kind = noBytes) && decide (f.Fields.length = 0)
def noReply (o : DOp) : Bool := decide (o.Key = noBytes) && !o.Ok && decide (o.V = zVal)
def opOk (o : DOp) : Bool :=
  bif decide (o.Kind = 1) then decide (o.Name = noBytes) && decide (o.Text.size ≤ 1000) && noFact o.F && noReply o && decide (o.N = 0) else
  bif decide (o.Kind = 2) then nameOk o.Name && nameOk o.Text && noFact o.F && noReply o && decide (o.N = 0) else
  bif decide (o.Kind = 3) then nameOk o.Name && decide (o.Text = noBytes) && factOk o.F && noReply o && decide (o.N = 0) else
  bif decide (o.Kind = 4) then nameOk o.Name && decide (o.Text = noBytes) && noFact o.F && decide (1 ≤ o.Key.size ∧ o.Key.size ≤ 200) && valOk o.V && decide (o.N = 0) else
  bif decide (o.Kind = 5) then decide (o.Name = noBytes) && decide (o.Text = noBytes) && noFact o.F && noReply o && decide (0 ≤ o.N ∧ o.N ≤ 1000000000) else
  bif decide (o.Kind = 6) then decide (o.Name = noBytes) && decide (o.Text = noBytes) && noFact o.F && noReply o && decide (o.N = 0) else
  bif decide (o.Kind = 7) then nameOk o.Name && decide (o.Text = noBytes) && noFact o.F && noReply o && decide (o.N = 0) else false
def bareO (o : DOp) : DOp :=
  bif decide (o.Kind = 1) then ⟨o.Kind, o.Name, noBytes, o.F, o.Key, o.Ok, o.V, o.N⟩ else
  bif decide (o.Kind = 2) then ⟨o.Kind, noBytes, noBytes, o.F, o.Key, o.Ok, o.V, o.N⟩ else
  bif decide (o.Kind = 3) then ⟨o.Kind, noBytes, o.Text, zFact, o.Key, o.Ok, o.V, o.N⟩ else
  bif decide (o.Kind = 4) then ⟨o.Kind, noBytes, o.Text, o.F, noBytes, false, zVal, o.N⟩ else
  bif decide (o.Kind = 5) then ⟨o.Kind, o.Name, o.Text, o.F, o.Key, o.Ok, o.V, 0⟩ else
  bif decide (o.Kind = 6) then o else
  bif decide (o.Kind = 7) then ⟨o.Kind, noBytes, o.Text, o.F, o.Key, o.Ok, o.V, o.N⟩ else o
def bareOk (o : DOp) : Bool :=
  bif decide (o.Kind = 1) then decide (o.Text.size ≤ 1000) else
  bif decide (o.Kind = 2) then nameOk o.Name && nameOk o.Text else
  bif decide (o.Kind = 3) then nameOk o.Name && factOk o.F else
  bif decide (o.Kind = 4) then nameOk o.Name && decide (1 ≤ o.Key.size ∧ o.Key.size ≤ 200) && valOk o.V else
  bif decide (o.Kind = 5) then decide (0 ≤ o.N ∧ o.N ≤ 1000000000) else
  bif decide (o.Kind = 6) then true else
  bif decide (o.Kind = 7) then nameOk o.Name else false
theorem kinds7 (n : Int) : n = 1 ∨ n = 2 ∨ n = 3 ∨ n = 4 ∨ n = 5 ∨ n = 6 ∨ n = 7 ∨ (n ≠ 1 ∧ n ≠ 2 ∧ n ≠ 3 ∧ n ≠ 4 ∧ n ≠ 5 ∧ n ≠ 6 ∧ n ≠ 7) := by omega
theorem opOk_bare (o : DOp) : opOk o = (bareOk o && decide ((bareO o).Name = noBytes) && decide ((bareO o).Text = noBytes) && decide ((bareO o).Key = noBytes) && !(bareO o).Ok && decide ((bareO o).N = 0) && noFact (bareO o).F && decide ((bareO o).V = zVal)) := by
  have hz : noFact zFact = true := rfl
  rcases kinds7 o.Kind with h | h | h | h | h | h | h | h <;> simp [opOk, bareOk, bareO, noReply, h, hz] <;> grind
def con_spec_l22NoFact : Con UU where
  α := DFact
  md := [.ro]
  of := fun | [.agg [.lit (.string a0), .sl .eVal a1]] => some ⟨a0, a1⟩ | _ => none
  ds := fun f => [.agg [.lit (.string f.Kind), .sl .eVal f.Fields]]
  pre := fun f => []
  res := fun f => ⟨[.one (.lit (.bool (noFact f)))], true, []⟩
  law := by intro l x h; (try simp only at h); split at h <;> cases h; rfl
def ann_spec_l22NoFact : con_spec_l22NoFact.α → Nat → Option (Ann UU) := fun f => annL []
def use_spec_l22NoFact : List (FuncId × Con UU) := []
theorem vc_spec_l22NoFact (f : DFact) : goal EE use_spec_l22NoFact Go.Proofs.Try.f58 con_spec_l22NoFact ann_spec_l22NoFact f = (bif ByteArray.toList f.Kind == ByteArray.toList { data := #[] : ByteArray } then Lf [DV.one (Cell.lit (Value.bool ((↑(List.length f.Fields) : Int) == (0 : Int))))] [DV.one (Cell.lit (Value.bool (noFact f)))] else Lf [DV.one (Cell.lit (Value.bool false))] [DV.one (Cell.lit (Value.bool (noFact f)))]) := by kernel_rfl
theorem ok_spec_l22NoFact : Holds EE (58, con_spec_l22NoFact) := by
  refine holds_of EE_ok Go.Proofs.Try.func58 con_spec_l22NoFact (by kernel_rfl) use_spec_l22NoFact all_nil ann_spec_l22NoFact (fun (f : DFact) hp hb => ?_)
  have hb_f : BdDV (U := UU) (.agg [.lit (.string f.Kind), .sl .eVal f.Fields]) := hb _ (List.mem_cons_self)
  have hl_f_Kind : f.Kind.size ≤ 9223372036854775807 := Bd.str (hb_f _ (by simp))
  have hl_f_Fields : f.Fields.length ≤ 9223372036854775807 := Bd.len (U := UU) (τ := .eVal) (xs := f.Fields) (hb_f _ (by simp))
  clear hp hb
  rw [vc_spec_l22NoFact f]
  have e : ∀ s : ByteArray, (ByteArray.toList s == ByteArray.toList { data := #[] }) = decide (s = noBytes) := fun s => toList_beq _ _
  simp only [e, noFact]
  refine if_cond (fun h => Lf_b ?_) (fun h => Lf_b ?_) <;> grind
def con_spec_OpOk : Con UU where
  α := DOp
  md := [.ro]
  of := fun | [.agg [.lit (.int .i64 a0), .lit (.string a1), .lit (.string a2), .lit (.string a3), .sl .eVal a4, .lit (.string a5), .lit (.bool a6), .lit (.int .i64 a7), .lit (.int .i64 a8), .lit (.string a9), .lit (.int .i64 a10)]] => some ⟨a0, a1, a2, ⟨a3, a4⟩, a5, a6, ⟨a7, a8, a9⟩, a10⟩ | _ => none
  ds := fun o => [.agg [.lit (.int .i64 o.Kind), .lit (.string o.Name), .lit (.string o.Text), .lit (.string o.F.Kind), .sl .eVal o.F.Fields, .lit (.string o.Key), .lit (.bool o.Ok), .lit (.int .i64 o.V.K), .lit (.int .i64 o.V.N), .lit (.string o.V.S), .lit (.int .i64 o.N)]]
  pre := fun o => []
  res := fun o => ⟨[.one (.lit (.bool (opOk o)))], true, []⟩
  law := by intro l x h; (try simp only at h); split at h <;> cases h; rfl
def ann_spec_OpOk : con_spec_OpOk.α → Nat → Option (Ann UU) := fun o => annL []
def use_spec_OpOk : List (FuncId × Con UU) := [(58, con_spec_l22NoFact), (59, con_spec_NameOk), (60, con_spec_FactOk), (62, con_spec_ValOk), (61, con_spec_l1In)]
theorem vc_spec_OpOk (o : DOp) : goal EE use_spec_OpOk Go.Proofs.Try.f15 con_spec_OpOk ann_spec_OpOk o = (let x0 : Bool := ByteArray.toList o.Text == ByteArray.toList { data := #[] : ByteArray };
let x1 : Bool := ByteArray.toList o.Name == ByteArray.toList { data := #[] : ByteArray };
let x2 : Bool := o.V.K == (0 : Int) && (o.V.N == (0 : Int) && (ByteArray.toList o.V.S == ByteArray.toList { data := #[] : ByteArray } && true));
let x3 : Bool := decide ((↑(ByteArray.size o.Text) : Int) ≤ (1000 : Int));
bif ByteArray.toList o.Key == ByteArray.toList { data := #[] : ByteArray } then bif !o.Ok then bif o.Kind == (1 : Int) then bif x1 then bif x3 then bif noFact o.F then bif x2 then Lf [DV.one (Cell.lit (Value.bool (o.N == (0 : Int))))] [DV.one (Cell.lit (Value.bool (opOk o)))] else Lf [DV.one (Cell.lit (Value.bool false))] [DV.one (Cell.lit (Value.bool (opOk o)))] else Lf [DV.one (Cell.lit (Value.bool false))] [DV.one (Cell.lit (Value.bool (opOk o)))] else Lf [DV.one (Cell.lit (Value.bool false))] [DV.one (Cell.lit (Value.bool (opOk o)))] else Lf [DV.one (Cell.lit (Value.bool false))] [DV.one (Cell.lit (Value.bool (opOk o)))] else bif o.Kind == (2 : Int) then bif nameOk o.Name then bif nameOk o.Text then bif noFact o.F then bif x2 then Lf [DV.one (Cell.lit (Value.bool (o.N == (0 : Int))))] [DV.one (Cell.lit (Value.bool (opOk o)))] else Lf [DV.one (Cell.lit (Value.bool false))] [DV.one (Cell.lit (Value.bool (opOk o)))] else Lf [DV.one (Cell.lit (Value.bool false))] [DV.one (Cell.lit (Value.bool (opOk o)))] else Lf [DV.one (Cell.lit (Value.bool false))] [DV.one (Cell.lit (Value.bool (opOk o)))] else Lf [DV.one (Cell.lit (Value.bool false))] [DV.one (Cell.lit (Value.bool (opOk o)))] else bif o.Kind == (3 : Int) then bif nameOk o.Name then bif x0 then bif factOk o.F then bif x2 then Lf [DV.one (Cell.lit (Value.bool (o.N == (0 : Int))))] [DV.one (Cell.lit (Value.bool (opOk o)))] else Lf [DV.one (Cell.lit (Value.bool false))] [DV.one (Cell.lit (Value.bool (opOk o)))] else Lf [DV.one (Cell.lit (Value.bool false))] [DV.one (Cell.lit (Value.bool (opOk o)))] else Lf [DV.one (Cell.lit (Value.bool false))] [DV.one (Cell.lit (Value.bool (opOk o)))] else Lf [DV.one (Cell.lit (Value.bool false))] [DV.one (Cell.lit (Value.bool (opOk o)))] else bif o.Kind == (4 : Int) then bif nameOk o.Name then bif x0 then bif noFact o.F then bif decide ((1 : Int) ≤ (↑(ByteArray.size o.Key) : Int) ∧ (↑(ByteArray.size o.Key) : Int) ≤ (200 : Int)) then bif valOk o.V then Lf [DV.one (Cell.lit (Value.bool (o.N == (0 : Int))))] [DV.one (Cell.lit (Value.bool (opOk o)))] else Lf [DV.one (Cell.lit (Value.bool false))] [DV.one (Cell.lit (Value.bool (opOk o)))] else Lf [DV.one (Cell.lit (Value.bool false))] [DV.one (Cell.lit (Value.bool (opOk o)))] else Lf [DV.one (Cell.lit (Value.bool false))] [DV.one (Cell.lit (Value.bool (opOk o)))] else Lf [DV.one (Cell.lit (Value.bool false))] [DV.one (Cell.lit (Value.bool (opOk o)))] else Lf [DV.one (Cell.lit (Value.bool false))] [DV.one (Cell.lit (Value.bool (opOk o)))] else bif o.Kind == (5 : Int) then bif x1 then bif x0 then bif noFact o.F then bif x2 then Lf [DV.one (Cell.lit (Value.bool (decide ((0 : Int) ≤ o.N ∧ o.N ≤ (1000000000 : Int)))))] [DV.one (Cell.lit (Value.bool (opOk o)))] else Lf [DV.one (Cell.lit (Value.bool false))] [DV.one (Cell.lit (Value.bool (opOk o)))] else Lf [DV.one (Cell.lit (Value.bool false))] [DV.one (Cell.lit (Value.bool (opOk o)))] else Lf [DV.one (Cell.lit (Value.bool false))] [DV.one (Cell.lit (Value.bool (opOk o)))] else Lf [DV.one (Cell.lit (Value.bool false))] [DV.one (Cell.lit (Value.bool (opOk o)))] else bif o.Kind == (6 : Int) then bif x1 then bif x0 then bif noFact o.F then bif x2 then Lf [DV.one (Cell.lit (Value.bool (o.N == (0 : Int))))] [DV.one (Cell.lit (Value.bool (opOk o)))] else Lf [DV.one (Cell.lit (Value.bool false))] [DV.one (Cell.lit (Value.bool (opOk o)))] else Lf [DV.one (Cell.lit (Value.bool false))] [DV.one (Cell.lit (Value.bool (opOk o)))] else Lf [DV.one (Cell.lit (Value.bool false))] [DV.one (Cell.lit (Value.bool (opOk o)))] else Lf [DV.one (Cell.lit (Value.bool false))] [DV.one (Cell.lit (Value.bool (opOk o)))] else bif o.Kind == (7 : Int) then bif nameOk o.Name then bif x0 then bif noFact o.F then bif x2 then Lf [DV.one (Cell.lit (Value.bool (o.N == (0 : Int))))] [DV.one (Cell.lit (Value.bool (opOk o)))] else Lf [DV.one (Cell.lit (Value.bool false))] [DV.one (Cell.lit (Value.bool (opOk o)))] else Lf [DV.one (Cell.lit (Value.bool false))] [DV.one (Cell.lit (Value.bool (opOk o)))] else Lf [DV.one (Cell.lit (Value.bool false))] [DV.one (Cell.lit (Value.bool (opOk o)))] else Lf [DV.one (Cell.lit (Value.bool false))] [DV.one (Cell.lit (Value.bool (opOk o)))] else Lf [DV.one (Cell.lit (Value.bool false))] [DV.one (Cell.lit (Value.bool (opOk o)))] else bif o.Kind == (1 : Int) then bif x1 then bif x3 then bif noFact o.F then Lf [DV.one (Cell.lit (Value.bool false))] [DV.one (Cell.lit (Value.bool (opOk o)))] else Lf [DV.one (Cell.lit (Value.bool false))] [DV.one (Cell.lit (Value.bool (opOk o)))] else Lf [DV.one (Cell.lit (Value.bool false))] [DV.one (Cell.lit (Value.bool (opOk o)))] else Lf [DV.one (Cell.lit (Value.bool false))] [DV.one (Cell.lit (Value.bool (opOk o)))] else bif o.Kind == (2 : Int) then bif nameOk o.Name then bif nameOk o.Text then bif noFact o.F then Lf [DV.one (Cell.lit (Value.bool false))] [DV.one (Cell.lit (Value.bool (opOk o)))] else Lf [DV.one (Cell.lit (Value.bool false))] [DV.one (Cell.lit (Value.bool (opOk o)))] else Lf [DV.one (Cell.lit (Value.bool false))] [DV.one (Cell.lit (Value.bool (opOk o)))] else Lf [DV.one (Cell.lit (Value.bool false))] [DV.one (Cell.lit (Value.bool (opOk o)))] else bif o.Kind == (3 : Int) then bif nameOk o.Name then bif x0 then bif factOk o.F then Lf [DV.one (Cell.lit (Value.bool false))] [DV.one (Cell.lit (Value.bool (opOk o)))] else Lf [DV.one (Cell.lit (Value.bool false))] [DV.one (Cell.lit (Value.bool (opOk o)))] else Lf [DV.one (Cell.lit (Value.bool false))] [DV.one (Cell.lit (Value.bool (opOk o)))] else Lf [DV.one (Cell.lit (Value.bool false))] [DV.one (Cell.lit (Value.bool (opOk o)))] else bif o.Kind == (4 : Int) then bif nameOk o.Name then bif x0 then bif noFact o.F then bif decide ((1 : Int) ≤ (↑(ByteArray.size o.Key) : Int) ∧ (↑(ByteArray.size o.Key) : Int) ≤ (200 : Int)) then bif valOk o.V then Lf [DV.one (Cell.lit (Value.bool (o.N == (0 : Int))))] [DV.one (Cell.lit (Value.bool (opOk o)))] else Lf [DV.one (Cell.lit (Value.bool false))] [DV.one (Cell.lit (Value.bool (opOk o)))] else Lf [DV.one (Cell.lit (Value.bool false))] [DV.one (Cell.lit (Value.bool (opOk o)))] else Lf [DV.one (Cell.lit (Value.bool false))] [DV.one (Cell.lit (Value.bool (opOk o)))] else Lf [DV.one (Cell.lit (Value.bool false))] [DV.one (Cell.lit (Value.bool (opOk o)))] else Lf [DV.one (Cell.lit (Value.bool false))] [DV.one (Cell.lit (Value.bool (opOk o)))] else bif o.Kind == (5 : Int) then bif x1 then bif x0 then bif noFact o.F then Lf [DV.one (Cell.lit (Value.bool false))] [DV.one (Cell.lit (Value.bool (opOk o)))] else Lf [DV.one (Cell.lit (Value.bool false))] [DV.one (Cell.lit (Value.bool (opOk o)))] else Lf [DV.one (Cell.lit (Value.bool false))] [DV.one (Cell.lit (Value.bool (opOk o)))] else Lf [DV.one (Cell.lit (Value.bool false))] [DV.one (Cell.lit (Value.bool (opOk o)))] else bif o.Kind == (6 : Int) then bif x1 then bif x0 then bif noFact o.F then Lf [DV.one (Cell.lit (Value.bool false))] [DV.one (Cell.lit (Value.bool (opOk o)))] else Lf [DV.one (Cell.lit (Value.bool false))] [DV.one (Cell.lit (Value.bool (opOk o)))] else Lf [DV.one (Cell.lit (Value.bool false))] [DV.one (Cell.lit (Value.bool (opOk o)))] else Lf [DV.one (Cell.lit (Value.bool false))] [DV.one (Cell.lit (Value.bool (opOk o)))] else bif o.Kind == (7 : Int) then bif nameOk o.Name then bif x0 then bif noFact o.F then Lf [DV.one (Cell.lit (Value.bool false))] [DV.one (Cell.lit (Value.bool (opOk o)))] else Lf [DV.one (Cell.lit (Value.bool false))] [DV.one (Cell.lit (Value.bool (opOk o)))] else Lf [DV.one (Cell.lit (Value.bool false))] [DV.one (Cell.lit (Value.bool (opOk o)))] else Lf [DV.one (Cell.lit (Value.bool false))] [DV.one (Cell.lit (Value.bool (opOk o)))] else Lf [DV.one (Cell.lit (Value.bool false))] [DV.one (Cell.lit (Value.bool (opOk o)))] else bif o.Kind == (1 : Int) then bif x1 then bif x3 then bif noFact o.F then Lf [DV.one (Cell.lit (Value.bool false))] [DV.one (Cell.lit (Value.bool (opOk o)))] else Lf [DV.one (Cell.lit (Value.bool false))] [DV.one (Cell.lit (Value.bool (opOk o)))] else Lf [DV.one (Cell.lit (Value.bool false))] [DV.one (Cell.lit (Value.bool (opOk o)))] else Lf [DV.one (Cell.lit (Value.bool false))] [DV.one (Cell.lit (Value.bool (opOk o)))] else bif o.Kind == (2 : Int) then bif nameOk o.Name then bif nameOk o.Text then bif noFact o.F then Lf [DV.one (Cell.lit (Value.bool false))] [DV.one (Cell.lit (Value.bool (opOk o)))] else Lf [DV.one (Cell.lit (Value.bool false))] [DV.one (Cell.lit (Value.bool (opOk o)))] else Lf [DV.one (Cell.lit (Value.bool false))] [DV.one (Cell.lit (Value.bool (opOk o)))] else Lf [DV.one (Cell.lit (Value.bool false))] [DV.one (Cell.lit (Value.bool (opOk o)))] else bif o.Kind == (3 : Int) then bif nameOk o.Name then bif x0 then bif factOk o.F then Lf [DV.one (Cell.lit (Value.bool false))] [DV.one (Cell.lit (Value.bool (opOk o)))] else Lf [DV.one (Cell.lit (Value.bool false))] [DV.one (Cell.lit (Value.bool (opOk o)))] else Lf [DV.one (Cell.lit (Value.bool false))] [DV.one (Cell.lit (Value.bool (opOk o)))] else Lf [DV.one (Cell.lit (Value.bool false))] [DV.one (Cell.lit (Value.bool (opOk o)))] else bif o.Kind == (4 : Int) then bif nameOk o.Name then bif x0 then bif noFact o.F then bif decide ((1 : Int) ≤ (↑(ByteArray.size o.Key) : Int) ∧ (↑(ByteArray.size o.Key) : Int) ≤ (200 : Int)) then bif valOk o.V then Lf [DV.one (Cell.lit (Value.bool (o.N == (0 : Int))))] [DV.one (Cell.lit (Value.bool (opOk o)))] else Lf [DV.one (Cell.lit (Value.bool false))] [DV.one (Cell.lit (Value.bool (opOk o)))] else Lf [DV.one (Cell.lit (Value.bool false))] [DV.one (Cell.lit (Value.bool (opOk o)))] else Lf [DV.one (Cell.lit (Value.bool false))] [DV.one (Cell.lit (Value.bool (opOk o)))] else Lf [DV.one (Cell.lit (Value.bool false))] [DV.one (Cell.lit (Value.bool (opOk o)))] else Lf [DV.one (Cell.lit (Value.bool false))] [DV.one (Cell.lit (Value.bool (opOk o)))] else bif o.Kind == (5 : Int) then bif x1 then bif x0 then bif noFact o.F then Lf [DV.one (Cell.lit (Value.bool false))] [DV.one (Cell.lit (Value.bool (opOk o)))] else Lf [DV.one (Cell.lit (Value.bool false))] [DV.one (Cell.lit (Value.bool (opOk o)))] else Lf [DV.one (Cell.lit (Value.bool false))] [DV.one (Cell.lit (Value.bool (opOk o)))] else Lf [DV.one (Cell.lit (Value.bool false))] [DV.one (Cell.lit (Value.bool (opOk o)))] else bif o.Kind == (6 : Int) then bif x1 then bif x0 then bif noFact o.F then Lf [DV.one (Cell.lit (Value.bool false))] [DV.one (Cell.lit (Value.bool (opOk o)))] else Lf [DV.one (Cell.lit (Value.bool false))] [DV.one (Cell.lit (Value.bool (opOk o)))] else Lf [DV.one (Cell.lit (Value.bool false))] [DV.one (Cell.lit (Value.bool (opOk o)))] else Lf [DV.one (Cell.lit (Value.bool false))] [DV.one (Cell.lit (Value.bool (opOk o)))] else bif o.Kind == (7 : Int) then bif nameOk o.Name then bif x0 then bif noFact o.F then Lf [DV.one (Cell.lit (Value.bool false))] [DV.one (Cell.lit (Value.bool (opOk o)))] else Lf [DV.one (Cell.lit (Value.bool false))] [DV.one (Cell.lit (Value.bool (opOk o)))] else Lf [DV.one (Cell.lit (Value.bool false))] [DV.one (Cell.lit (Value.bool (opOk o)))] else Lf [DV.one (Cell.lit (Value.bool false))] [DV.one (Cell.lit (Value.bool (opOk o)))] else Lf [DV.one (Cell.lit (Value.bool false))] [DV.one (Cell.lit (Value.bool (opOk o)))]) := by kernel_rfl
theorem ok_spec_OpOk : Holds EE (15, con_spec_OpOk) := by
  refine holds_of EE_ok Go.Proofs.Try.func15 con_spec_OpOk (by kernel_rfl) use_spec_OpOk (all_cons ok_spec_l22NoFact (all_cons ok_spec_NameOk (all_cons ok_spec_FactOk (all_cons ok_spec_ValOk (all_cons ok_spec_l1In all_nil))))) ann_spec_OpOk (fun (o : DOp) hp hb => ?_)
  have hb_o : BdDV (U := UU) (.agg [.lit (.int .i64 o.Kind), .lit (.string o.Name), .lit (.string o.Text), .lit (.string o.F.Kind), .sl .eVal o.F.Fields, .lit (.string o.Key), .lit (.bool o.Ok), .lit (.int .i64 o.V.K), .lit (.int .i64 o.V.N), .lit (.string o.V.S), .lit (.int .i64 o.N)]) := hb _ (List.mem_cons_self)
  have hl_o_Name : o.Name.size ≤ 9223372036854775807 := Bd.str (hb_o _ (by simp))
  have hl_o_Text : o.Text.size ≤ 9223372036854775807 := Bd.str (hb_o _ (by simp))
  have hl_o_F_Kind : o.F.Kind.size ≤ 9223372036854775807 := Bd.str (hb_o _ (by simp))
  have hl_o_F_Fields : o.F.Fields.length ≤ 9223372036854775807 := Bd.len (U := UU) (τ := .eVal) (xs := o.F.Fields) (hb_o _ (by simp))
  have hl_o_Key : o.Key.size ≤ 9223372036854775807 := Bd.str (hb_o _ (by simp))
  have hl_o_V_S : o.V.S.size ≤ 9223372036854775807 := Bd.str (hb_o _ (by simp))
  clear hp hb
  rw [vc_spec_OpOk o]
  dsimp only
  have e : ∀ s : ByteArray, (ByteArray.toList s == ByteArray.toList { data := #[] }) = decide (s = noBytes) := fun s => toList_beq _ _
  have e2 : ∀ v : DVal, (v.K == 0 && (v.N == 0 && (decide (v.S = noBytes) && true))) = decide (v = zVal) := fun v => by rw [← val_beq v zVal, toList_beq]; rfl
  simp only [e, e2]
  simp only [opOk, noReply]
  repeat' (refine if_cond (fun h => ?_) (fun h => ?_))
  all_goals (refine Lf_b ?_; grind)
def con_impl_bareOp : Con UU where
  α := DOp
  md := [.ro]
  of := fun | [.agg [.lit (.int .i64 a0), .lit (.string a1), .lit (.string a2), .lit (.string a3), .sl .eVal a4, .lit (.string a5), .lit (.bool a6), .lit (.int .i64 a7), .lit (.int .i64 a8), .lit (.string a9), .lit (.int .i64 a10)]] => some ⟨a0, a1, a2, ⟨a3, a4⟩, a5, a6, ⟨a7, a8, a9⟩, a10⟩ | _ => none
  ds := fun o => [.agg [.lit (.int .i64 o.Kind), .lit (.string o.Name), .lit (.string o.Text), .lit (.string o.F.Kind), .sl .eVal o.F.Fields, .lit (.string o.Key), .lit (.bool o.Ok), .lit (.int .i64 o.V.K), .lit (.int .i64 o.V.N), .lit (.string o.V.S), .lit (.int .i64 o.N)]]
  pre := fun o => []
  res := fun o => ⟨[.agg [.lit (.int .i64 ((bareO o)).Kind), .lit (.string ((bareO o)).Name), .lit (.string ((bareO o)).Text), .lit (.string (((bareO o)).F).Kind), .sl .eVal (((bareO o)).F).Fields, .lit (.string ((bareO o)).Key), .lit (.bool ((bareO o)).Ok), .lit (.int .i64 (((bareO o)).V).K), .lit (.int .i64 (((bareO o)).V).N), .lit (.string (((bareO o)).V).S), .lit (.int .i64 ((bareO o)).N)], .one (.lit (.bool (bareOk o)))], false, []⟩
  law := by intro l x h; (try simp only at h); split at h <;> cases h; rfl
def ann_impl_bareOp : con_impl_bareOp.α → Nat → Option (Ann UU) := fun o => annL []
def use_impl_bareOp : List (FuncId × Con UU) := [(106, con_impl_NameOk), (98, con_impl_FactOk), (107, con_impl_isKey), (99, con_impl_ValOk), (108, con_impl_isTime)]
theorem vc_impl_bareOp (o : DOp) : goal EE use_impl_bareOp Go.Proofs.Try.f63 con_impl_bareOp ann_impl_bareOp o = (bif o.Kind == (1 : Int) then Lf [DV.agg [Cell.lit (Value.int IntKind.i64 o.Kind), Cell.lit (Value.string o.Name), Cell.lit (Value.string { data := #[] : ByteArray }), Cell.lit (Value.string o.F.Kind), Cell.sl Cd.eVal o.F.Fields, Cell.lit (Value.string o.Key), Cell.lit (Value.bool o.Ok), Cell.lit (Value.int IntKind.i64 o.V.K), Cell.lit (Value.int IntKind.i64 o.V.N), Cell.lit (Value.string o.V.S), Cell.lit (Value.int IntKind.i64 o.N)], DV.one (Cell.lit (Value.bool (decide ((↑(ByteArray.size o.Text) : Int) ≤ (1000 : Int)))))] [DV.agg [Cell.lit (Value.int IntKind.i64 (bareO o).Kind), Cell.lit (Value.string (bareO o).Name), Cell.lit (Value.string (bareO o).Text), Cell.lit (Value.string (bareO o).F.Kind), Cell.sl Cd.eVal (bareO o).F.Fields, Cell.lit (Value.string (bareO o).Key), Cell.lit (Value.bool (bareO o).Ok), Cell.lit (Value.int IntKind.i64 (bareO o).V.K), Cell.lit (Value.int IntKind.i64 (bareO o).V.N), Cell.lit (Value.string (bareO o).V.S), Cell.lit (Value.int IntKind.i64 (bareO o).N)], DV.one (Cell.lit (Value.bool (bareOk o)))] else bif o.Kind == (2 : Int) then bif nameOk o.Name then Lf [DV.agg [Cell.lit (Value.int IntKind.i64 o.Kind), Cell.lit (Value.string { data := #[] : ByteArray }), Cell.lit (Value.string { data := #[] : ByteArray }), Cell.lit (Value.string o.F.Kind), Cell.sl Cd.eVal o.F.Fields, Cell.lit (Value.string o.Key), Cell.lit (Value.bool o.Ok), Cell.lit (Value.int IntKind.i64 o.V.K), Cell.lit (Value.int IntKind.i64 o.V.N), Cell.lit (Value.string o.V.S), Cell.lit (Value.int IntKind.i64 o.N)], DV.one (Cell.lit (Value.bool (nameOk o.Text)))] [DV.agg [Cell.lit (Value.int IntKind.i64 (bareO o).Kind), Cell.lit (Value.string (bareO o).Name), Cell.lit (Value.string (bareO o).Text), Cell.lit (Value.string (bareO o).F.Kind), Cell.sl Cd.eVal (bareO o).F.Fields, Cell.lit (Value.string (bareO o).Key), Cell.lit (Value.bool (bareO o).Ok), Cell.lit (Value.int IntKind.i64 (bareO o).V.K), Cell.lit (Value.int IntKind.i64 (bareO o).V.N), Cell.lit (Value.string (bareO o).V.S), Cell.lit (Value.int IntKind.i64 (bareO o).N)], DV.one (Cell.lit (Value.bool (bareOk o)))] else Lf [DV.agg [Cell.lit (Value.int IntKind.i64 o.Kind), Cell.lit (Value.string { data := #[] : ByteArray }), Cell.lit (Value.string { data := #[] : ByteArray }), Cell.lit (Value.string o.F.Kind), Cell.sl Cd.eVal o.F.Fields, Cell.lit (Value.string o.Key), Cell.lit (Value.bool o.Ok), Cell.lit (Value.int IntKind.i64 o.V.K), Cell.lit (Value.int IntKind.i64 o.V.N), Cell.lit (Value.string o.V.S), Cell.lit (Value.int IntKind.i64 o.N)], DV.one (Cell.lit (Value.bool false))] [DV.agg [Cell.lit (Value.int IntKind.i64 (bareO o).Kind), Cell.lit (Value.string (bareO o).Name), Cell.lit (Value.string (bareO o).Text), Cell.lit (Value.string (bareO o).F.Kind), Cell.sl Cd.eVal (bareO o).F.Fields, Cell.lit (Value.string (bareO o).Key), Cell.lit (Value.bool (bareO o).Ok), Cell.lit (Value.int IntKind.i64 (bareO o).V.K), Cell.lit (Value.int IntKind.i64 (bareO o).V.N), Cell.lit (Value.string (bareO o).V.S), Cell.lit (Value.int IntKind.i64 (bareO o).N)], DV.one (Cell.lit (Value.bool (bareOk o)))] else bif o.Kind == (3 : Int) then bif nameOk o.Name then Lf [DV.agg [Cell.lit (Value.int IntKind.i64 o.Kind), Cell.lit (Value.string { data := #[] : ByteArray }), Cell.lit (Value.string o.Text), Cell.lit (Value.string { data := #[] : ByteArray }), Cell.sl Cd.eVal [], Cell.lit (Value.string o.Key), Cell.lit (Value.bool o.Ok), Cell.lit (Value.int IntKind.i64 o.V.K), Cell.lit (Value.int IntKind.i64 o.V.N), Cell.lit (Value.string o.V.S), Cell.lit (Value.int IntKind.i64 o.N)], DV.one (Cell.lit (Value.bool (factOk o.F)))] [DV.agg [Cell.lit (Value.int IntKind.i64 (bareO o).Kind), Cell.lit (Value.string (bareO o).Name), Cell.lit (Value.string (bareO o).Text), Cell.lit (Value.string (bareO o).F.Kind), Cell.sl Cd.eVal (bareO o).F.Fields, Cell.lit (Value.string (bareO o).Key), Cell.lit (Value.bool (bareO o).Ok), Cell.lit (Value.int IntKind.i64 (bareO o).V.K), Cell.lit (Value.int IntKind.i64 (bareO o).V.N), Cell.lit (Value.string (bareO o).V.S), Cell.lit (Value.int IntKind.i64 (bareO o).N)], DV.one (Cell.lit (Value.bool (bareOk o)))] else Lf [DV.agg [Cell.lit (Value.int IntKind.i64 o.Kind), Cell.lit (Value.string { data := #[] : ByteArray }), Cell.lit (Value.string o.Text), Cell.lit (Value.string { data := #[] : ByteArray }), Cell.sl Cd.eVal [], Cell.lit (Value.string o.Key), Cell.lit (Value.bool o.Ok), Cell.lit (Value.int IntKind.i64 o.V.K), Cell.lit (Value.int IntKind.i64 o.V.N), Cell.lit (Value.string o.V.S), Cell.lit (Value.int IntKind.i64 o.N)], DV.one (Cell.lit (Value.bool false))] [DV.agg [Cell.lit (Value.int IntKind.i64 (bareO o).Kind), Cell.lit (Value.string (bareO o).Name), Cell.lit (Value.string (bareO o).Text), Cell.lit (Value.string (bareO o).F.Kind), Cell.sl Cd.eVal (bareO o).F.Fields, Cell.lit (Value.string (bareO o).Key), Cell.lit (Value.bool (bareO o).Ok), Cell.lit (Value.int IntKind.i64 (bareO o).V.K), Cell.lit (Value.int IntKind.i64 (bareO o).V.N), Cell.lit (Value.string (bareO o).V.S), Cell.lit (Value.int IntKind.i64 (bareO o).N)], DV.one (Cell.lit (Value.bool (bareOk o)))] else bif o.Kind == (4 : Int) then bif nameOk o.Name then bif decide ((1 : Nat) ≤ ByteArray.size o.Key ∧ ByteArray.size o.Key ≤ (200 : Nat)) then Lf [DV.agg [Cell.lit (Value.int IntKind.i64 o.Kind), Cell.lit (Value.string { data := #[] : ByteArray }), Cell.lit (Value.string o.Text), Cell.lit (Value.string o.F.Kind), Cell.sl Cd.eVal o.F.Fields, Cell.lit (Value.string { data := #[] : ByteArray }), Cell.lit (Value.bool false), Cell.lit (Value.int IntKind.i64 (0 : Int)), Cell.lit (Value.int IntKind.i64 (0 : Int)), Cell.lit (Value.string { data := #[] : ByteArray }), Cell.lit (Value.int IntKind.i64 o.N)], DV.one (Cell.lit (Value.bool (valOk o.V)))] [DV.agg [Cell.lit (Value.int IntKind.i64 (bareO o).Kind), Cell.lit (Value.string (bareO o).Name), Cell.lit (Value.string (bareO o).Text), Cell.lit (Value.string (bareO o).F.Kind), Cell.sl Cd.eVal (bareO o).F.Fields, Cell.lit (Value.string (bareO o).Key), Cell.lit (Value.bool (bareO o).Ok), Cell.lit (Value.int IntKind.i64 (bareO o).V.K), Cell.lit (Value.int IntKind.i64 (bareO o).V.N), Cell.lit (Value.string (bareO o).V.S), Cell.lit (Value.int IntKind.i64 (bareO o).N)], DV.one (Cell.lit (Value.bool (bareOk o)))] else Lf [DV.agg [Cell.lit (Value.int IntKind.i64 o.Kind), Cell.lit (Value.string { data := #[] : ByteArray }), Cell.lit (Value.string o.Text), Cell.lit (Value.string o.F.Kind), Cell.sl Cd.eVal o.F.Fields, Cell.lit (Value.string { data := #[] : ByteArray }), Cell.lit (Value.bool false), Cell.lit (Value.int IntKind.i64 (0 : Int)), Cell.lit (Value.int IntKind.i64 (0 : Int)), Cell.lit (Value.string { data := #[] : ByteArray }), Cell.lit (Value.int IntKind.i64 o.N)], DV.one (Cell.lit (Value.bool false))] [DV.agg [Cell.lit (Value.int IntKind.i64 (bareO o).Kind), Cell.lit (Value.string (bareO o).Name), Cell.lit (Value.string (bareO o).Text), Cell.lit (Value.string (bareO o).F.Kind), Cell.sl Cd.eVal (bareO o).F.Fields, Cell.lit (Value.string (bareO o).Key), Cell.lit (Value.bool (bareO o).Ok), Cell.lit (Value.int IntKind.i64 (bareO o).V.K), Cell.lit (Value.int IntKind.i64 (bareO o).V.N), Cell.lit (Value.string (bareO o).V.S), Cell.lit (Value.int IntKind.i64 (bareO o).N)], DV.one (Cell.lit (Value.bool (bareOk o)))] else Lf [DV.agg [Cell.lit (Value.int IntKind.i64 o.Kind), Cell.lit (Value.string { data := #[] : ByteArray }), Cell.lit (Value.string o.Text), Cell.lit (Value.string o.F.Kind), Cell.sl Cd.eVal o.F.Fields, Cell.lit (Value.string { data := #[] : ByteArray }), Cell.lit (Value.bool false), Cell.lit (Value.int IntKind.i64 (0 : Int)), Cell.lit (Value.int IntKind.i64 (0 : Int)), Cell.lit (Value.string { data := #[] : ByteArray }), Cell.lit (Value.int IntKind.i64 o.N)], DV.one (Cell.lit (Value.bool false))] [DV.agg [Cell.lit (Value.int IntKind.i64 (bareO o).Kind), Cell.lit (Value.string (bareO o).Name), Cell.lit (Value.string (bareO o).Text), Cell.lit (Value.string (bareO o).F.Kind), Cell.sl Cd.eVal (bareO o).F.Fields, Cell.lit (Value.string (bareO o).Key), Cell.lit (Value.bool (bareO o).Ok), Cell.lit (Value.int IntKind.i64 (bareO o).V.K), Cell.lit (Value.int IntKind.i64 (bareO o).V.N), Cell.lit (Value.string (bareO o).V.S), Cell.lit (Value.int IntKind.i64 (bareO o).N)], DV.one (Cell.lit (Value.bool (bareOk o)))] else bif o.Kind == (5 : Int) then Lf [DV.agg [Cell.lit (Value.int IntKind.i64 o.Kind), Cell.lit (Value.string o.Name), Cell.lit (Value.string o.Text), Cell.lit (Value.string o.F.Kind), Cell.sl Cd.eVal o.F.Fields, Cell.lit (Value.string o.Key), Cell.lit (Value.bool o.Ok), Cell.lit (Value.int IntKind.i64 o.V.K), Cell.lit (Value.int IntKind.i64 o.V.N), Cell.lit (Value.string o.V.S), Cell.lit (Value.int IntKind.i64 (0 : Int))], DV.one (Cell.lit (Value.bool (decide ((0 : Int) ≤ o.N ∧ o.N ≤ (1000000000 : Int)))))] [DV.agg [Cell.lit (Value.int IntKind.i64 (bareO o).Kind), Cell.lit (Value.string (bareO o).Name), Cell.lit (Value.string (bareO o).Text), Cell.lit (Value.string (bareO o).F.Kind), Cell.sl Cd.eVal (bareO o).F.Fields, Cell.lit (Value.string (bareO o).Key), Cell.lit (Value.bool (bareO o).Ok), Cell.lit (Value.int IntKind.i64 (bareO o).V.K), Cell.lit (Value.int IntKind.i64 (bareO o).V.N), Cell.lit (Value.string (bareO o).V.S), Cell.lit (Value.int IntKind.i64 (bareO o).N)], DV.one (Cell.lit (Value.bool (bareOk o)))] else bif o.Kind == (6 : Int) then Lf [DV.agg [Cell.lit (Value.int IntKind.i64 o.Kind), Cell.lit (Value.string o.Name), Cell.lit (Value.string o.Text), Cell.lit (Value.string o.F.Kind), Cell.sl Cd.eVal o.F.Fields, Cell.lit (Value.string o.Key), Cell.lit (Value.bool o.Ok), Cell.lit (Value.int IntKind.i64 o.V.K), Cell.lit (Value.int IntKind.i64 o.V.N), Cell.lit (Value.string o.V.S), Cell.lit (Value.int IntKind.i64 o.N)], DV.one (Cell.lit (Value.bool true))] [DV.agg [Cell.lit (Value.int IntKind.i64 (bareO o).Kind), Cell.lit (Value.string (bareO o).Name), Cell.lit (Value.string (bareO o).Text), Cell.lit (Value.string (bareO o).F.Kind), Cell.sl Cd.eVal (bareO o).F.Fields, Cell.lit (Value.string (bareO o).Key), Cell.lit (Value.bool (bareO o).Ok), Cell.lit (Value.int IntKind.i64 (bareO o).V.K), Cell.lit (Value.int IntKind.i64 (bareO o).V.N), Cell.lit (Value.string (bareO o).V.S), Cell.lit (Value.int IntKind.i64 (bareO o).N)], DV.one (Cell.lit (Value.bool (bareOk o)))] else bif o.Kind == (7 : Int) then Lf [DV.agg [Cell.lit (Value.int IntKind.i64 o.Kind), Cell.lit (Value.string { data := #[] : ByteArray }), Cell.lit (Value.string o.Text), Cell.lit (Value.string o.F.Kind), Cell.sl Cd.eVal o.F.Fields, Cell.lit (Value.string o.Key), Cell.lit (Value.bool o.Ok), Cell.lit (Value.int IntKind.i64 o.V.K), Cell.lit (Value.int IntKind.i64 o.V.N), Cell.lit (Value.string o.V.S), Cell.lit (Value.int IntKind.i64 o.N)], DV.one (Cell.lit (Value.bool (nameOk o.Name)))] [DV.agg [Cell.lit (Value.int IntKind.i64 (bareO o).Kind), Cell.lit (Value.string (bareO o).Name), Cell.lit (Value.string (bareO o).Text), Cell.lit (Value.string (bareO o).F.Kind), Cell.sl Cd.eVal (bareO o).F.Fields, Cell.lit (Value.string (bareO o).Key), Cell.lit (Value.bool (bareO o).Ok), Cell.lit (Value.int IntKind.i64 (bareO o).V.K), Cell.lit (Value.int IntKind.i64 (bareO o).V.N), Cell.lit (Value.string (bareO o).V.S), Cell.lit (Value.int IntKind.i64 (bareO o).N)], DV.one (Cell.lit (Value.bool (bareOk o)))] else Lf [DV.agg [Cell.lit (Value.int IntKind.i64 o.Kind), Cell.lit (Value.string o.Name), Cell.lit (Value.string o.Text), Cell.lit (Value.string o.F.Kind), Cell.sl Cd.eVal o.F.Fields, Cell.lit (Value.string o.Key), Cell.lit (Value.bool o.Ok), Cell.lit (Value.int IntKind.i64 o.V.K), Cell.lit (Value.int IntKind.i64 o.V.N), Cell.lit (Value.string o.V.S), Cell.lit (Value.int IntKind.i64 o.N)], DV.one (Cell.lit (Value.bool false))] [DV.agg [Cell.lit (Value.int IntKind.i64 (bareO o).Kind), Cell.lit (Value.string (bareO o).Name), Cell.lit (Value.string (bareO o).Text), Cell.lit (Value.string (bareO o).F.Kind), Cell.sl Cd.eVal (bareO o).F.Fields, Cell.lit (Value.string (bareO o).Key), Cell.lit (Value.bool (bareO o).Ok), Cell.lit (Value.int IntKind.i64 (bareO o).V.K), Cell.lit (Value.int IntKind.i64 (bareO o).V.N), Cell.lit (Value.string (bareO o).V.S), Cell.lit (Value.int IntKind.i64 (bareO o).N)], DV.one (Cell.lit (Value.bool (bareOk o)))]) := by kernel_rfl
theorem ok_impl_bareOp : Holds EE (63, con_impl_bareOp) := by
  refine holds_of EE_ok Go.Proofs.Try.func63 con_impl_bareOp (by kernel_rfl) use_impl_bareOp (all_cons ok_impl_NameOk (all_cons ok_impl_FactOk (all_cons ok_impl_isKey (all_cons ok_impl_ValOk (all_cons ok_impl_isTime all_nil))))) ann_impl_bareOp (fun (o : DOp) hp hb => ?_)
  have hb_o : BdDV (U := UU) (.agg [.lit (.int .i64 o.Kind), .lit (.string o.Name), .lit (.string o.Text), .lit (.string o.F.Kind), .sl .eVal o.F.Fields, .lit (.string o.Key), .lit (.bool o.Ok), .lit (.int .i64 o.V.K), .lit (.int .i64 o.V.N), .lit (.string o.V.S), .lit (.int .i64 o.N)]) := hb _ (List.mem_cons_self)
  have hl_o_Name : o.Name.size ≤ 9223372036854775807 := Bd.str (hb_o _ (by simp))
  have hl_o_Text : o.Text.size ≤ 9223372036854775807 := Bd.str (hb_o _ (by simp))
  have hl_o_F_Kind : o.F.Kind.size ≤ 9223372036854775807 := Bd.str (hb_o _ (by simp))
  have hl_o_F_Fields : o.F.Fields.length ≤ 9223372036854775807 := Bd.len (U := UU) (τ := .eVal) (xs := o.F.Fields) (hb_o _ (by simp))
  have hl_o_Key : o.Key.size ≤ 9223372036854775807 := Bd.str (hb_o _ (by simp))
  have hl_o_V_S : o.V.S.size ≤ 9223372036854775807 := Bd.str (hb_o _ (by simp))
  clear hp hb
  rw [vc_impl_bareOp o]
  have z1 : zFact = ⟨⟨#[]⟩, []⟩ := rfl
  have z2 : zVal = ⟨0, 0, ⟨#[]⟩⟩ := rfl
  have z3 : noBytes = ⟨#[]⟩ := rfl
  repeat' (refine if_cond (fun h => ?_) (fun h => ?_))
  all_goals (refine Lf_r ?_; simp_all [bareO, bareOk] <;> first | rfl | omega)
def con_impl_OpOk : Con UU where
  α := DOp
  md := [.ro]
  of := fun | [.agg [.lit (.int .i64 a0), .lit (.string a1), .lit (.string a2), .lit (.string a3), .sl .eVal a4, .lit (.string a5), .lit (.bool a6), .lit (.int .i64 a7), .lit (.int .i64 a8), .lit (.string a9), .lit (.int .i64 a10)]] => some ⟨a0, a1, a2, ⟨a3, a4⟩, a5, a6, ⟨a7, a8, a9⟩, a10⟩ | _ => none
  ds := fun o => [.agg [.lit (.int .i64 o.Kind), .lit (.string o.Name), .lit (.string o.Text), .lit (.string o.F.Kind), .sl .eVal o.F.Fields, .lit (.string o.Key), .lit (.bool o.Ok), .lit (.int .i64 o.V.K), .lit (.int .i64 o.V.N), .lit (.string o.V.S), .lit (.int .i64 o.N)]]
  pre := fun o => []
  res := fun o => ⟨[.one (.lit (.bool (opOk o)))], true, []⟩
  law := by intro l x h; (try simp only at h); split at h <;> cases h; rfl
def ann_impl_OpOk : con_impl_OpOk.α → Nat → Option (Ann UU) := fun o => annL []
def use_impl_OpOk : List (FuncId × Con UU) := [(63, con_impl_bareOp)]
theorem vc_impl_OpOk (o : DOp) : goal EE use_impl_OpOk Go.Proofs.Try.f16 con_impl_OpOk ann_impl_OpOk o = (bif !bareOk o then Lf [DV.one (Cell.lit (Value.bool false))] [DV.one (Cell.lit (Value.bool (opOk o)))] else bif !ByteArray.toList (bareO o).Name == ByteArray.toList { data := #[] : ByteArray } then Lf [DV.one (Cell.lit (Value.bool false))] [DV.one (Cell.lit (Value.bool (opOk o)))] else bif !ByteArray.toList (bareO o).Text == ByteArray.toList { data := #[] : ByteArray } then Lf [DV.one (Cell.lit (Value.bool false))] [DV.one (Cell.lit (Value.bool (opOk o)))] else bif !ByteArray.toList (bareO o).Key == ByteArray.toList { data := #[] : ByteArray } then Lf [DV.one (Cell.lit (Value.bool false))] [DV.one (Cell.lit (Value.bool (opOk o)))] else bif (bareO o).Ok then Lf [DV.one (Cell.lit (Value.bool false))] [DV.one (Cell.lit (Value.bool (opOk o)))] else bif (bareO o).N != (0 : Int) then Lf [DV.one (Cell.lit (Value.bool false))] [DV.one (Cell.lit (Value.bool (opOk o)))] else bif ByteArray.toList (bareO o).F.Kind == ByteArray.toList { data := #[] : ByteArray } then bif (↑(List.length (bareO o).F.Fields) : Int) == (0 : Int) then Lf [DV.one (Cell.lit (Value.bool ((bareO o).V.K == (0 : Int) && ((bareO o).V.N == (0 : Int) && (ByteArray.toList (bareO o).V.S == ByteArray.toList { data := #[] : ByteArray } && true)))))] [DV.one (Cell.lit (Value.bool (opOk o)))] else Lf [DV.one (Cell.lit (Value.bool false))] [DV.one (Cell.lit (Value.bool (opOk o)))] else Lf [DV.one (Cell.lit (Value.bool false))] [DV.one (Cell.lit (Value.bool (opOk o)))]) := by kernel_rfl
theorem ok_impl_OpOk : Holds EE (16, con_impl_OpOk) := by
  refine holds_of EE_ok Go.Proofs.Try.func16 con_impl_OpOk (by kernel_rfl) use_impl_OpOk (all_cons ok_impl_bareOp all_nil) ann_impl_OpOk (fun (o : DOp) hp hb => ?_)
  have hb_o : BdDV (U := UU) (.agg [.lit (.int .i64 o.Kind), .lit (.string o.Name), .lit (.string o.Text), .lit (.string o.F.Kind), .sl .eVal o.F.Fields, .lit (.string o.Key), .lit (.bool o.Ok), .lit (.int .i64 o.V.K), .lit (.int .i64 o.V.N), .lit (.string o.V.S), .lit (.int .i64 o.N)]) := hb _ (List.mem_cons_self)
  have hl_o_Name : o.Name.size ≤ 9223372036854775807 := Bd.str (hb_o _ (by simp))
  have hl_o_Text : o.Text.size ≤ 9223372036854775807 := Bd.str (hb_o _ (by simp))
  have hl_o_F_Kind : o.F.Kind.size ≤ 9223372036854775807 := Bd.str (hb_o _ (by simp))
  have hl_o_F_Fields : o.F.Fields.length ≤ 9223372036854775807 := Bd.len (U := UU) (τ := .eVal) (xs := o.F.Fields) (hb_o _ (by simp))
  have hl_o_Key : o.Key.size ≤ 9223372036854775807 := Bd.str (hb_o _ (by simp))
  have hl_o_V_S : o.V.S.size ≤ 9223372036854775807 := Bd.str (hb_o _ (by simp))
  clear hp hb
  rw [vc_impl_OpOk o]
  have e : ∀ s : ByteArray, (ByteArray.toList s == ByteArray.toList { data := #[] }) = decide (s = noBytes) := fun s => toList_beq _ _
  have e2 : ∀ v : DVal, (v.K == 0 && (v.N == 0 && (decide (v.S = noBytes) && true))) = decide (v = zVal) := fun v => by rw [← val_beq v zVal, toList_beq]; rfl
  simp only [e, e2]
  rw [opOk_bare]
  simp only [noFact]
  repeat' (refine if_cond (fun h => ?_) (fun h => ?_))
  all_goals (refine Lf_b ?_; grind)
theorem ofInt_toNat {m : Int} (h0 : 0 ≤ m) (h : m < 9223372036854775808) : (BitVec.ofInt 64 m).toNat = m.toNat := by
  rw [BitVec.toNat_ofInt]
  omega
theorem and_i64 {m : Int} (h0 : 0 ≤ m) (h : m < 9223372036854775808) (k : Nat) (hk : k ≤ 62) : IntKind.wrap .i64 (((BitVec.ofInt 64 m &&& BitVec.ofInt 64 (2 ^ k - 1 : Int)).toNat : Nat) : Int) = m % (2 ^ k : Nat) := by
  have h2 : (2 : Nat) ^ k ≤ 2 ^ 62 := Nat.pow_le_pow_right (by omega) hk
  have hp : 0 < 2 ^ k := Nat.two_pow_pos k
  have e : (BitVec.ofInt 64 (2 ^ k - 1 : Int)).toNat = 2 ^ k - 1 := by
    rw [BitVec.toNat_ofInt]
    have : ((2 : Int) ^ k) = ((2 ^ k : Nat) : Int) := by norm_cast
    rw [this]
    omega
  rw [BitVec.toNat_and, ofInt_toNat h0 h, e, Nat.and_two_pow_sub_one_eq_mod]
  have hm : m.toNat % 2 ^ k < 2 ^ k := Nat.mod_lt _ hp
  rw [wrap_i64 (by omega) (by omega)]
  have hm2 : m = ((m.toNat : Nat) : Int) := by omega
  conv => rhs; rw [hm2]
  norm_cast
theorem and127 {m : Int} (h0 : 0 ≤ m) (h : m < 9223372036854775808) : IntKind.wrap .i64 (((BitVec.ofInt (IntKind.bits .i64) m &&& BitVec.ofInt (IntKind.bits .i64) 127).toNat : Nat) : Int) = m % 128 := and_i64 h0 h 7 (by omega)
theorem and1 {m : Int} (h0 : 0 ≤ m) (h : m < 9223372036854775808) : IntKind.wrap .i64 (((BitVec.ofInt (IntKind.bits .i64) m &&& BitVec.ofInt (IntKind.bits .i64) 1).toNat : Nat) : Int) = m % 2 := and_i64 h0 h 1 (by omega)
theorem or_i64 {x y : Int} (h0 : 0 ≤ x) (h1 : 0 ≤ y) (k : Nat) (hk : k ≤ 61) (hx : x < (2 ^ k : Nat)) (hy : y % (2 ^ k : Nat) = 0) (hy2 : y < 4611686018427387904) : IntKind.wrap .i64 (((BitVec.ofInt (IntKind.bits .i64) x ||| BitVec.ofInt (IntKind.bits .i64) y).toNat : Nat) : Int) = x + y := by
  have h2 : (2 : Nat) ^ k ≤ 2 ^ 61 := Nat.pow_le_pow_right (by omega) hk
  have e1 : (BitVec.ofInt 64 x).toNat = x.toNat := ofInt_toNat h0 (by omega)
  have e2 : (BitVec.ofInt 64 y).toNat = y.toNat := ofInt_toNat h1 (by omega)
  show IntKind.wrap .i64 (((BitVec.ofInt 64 x ||| BitVec.ofInt 64 y).toNat : Nat) : Int) = x + y
  rw [BitVec.toNat_or, e1, e2]
  obtain ⟨q, hq⟩ : ∃ q : Nat, y.toNat = 2 ^ k * q := by
    have : (y.toNat : Int) % ((2 ^ k : Nat) : Int) = 0 := by rw [Int.toNat_of_nonneg h1]; exact hy
    have h3 : y.toNat % 2 ^ k = 0 := by exact_mod_cast this
    exact ⟨y.toNat / 2 ^ k, (Nat.mul_div_cancel' (Nat.dvd_of_mod_eq_zero h3)).symm⟩
  have e3 : x.toNat ||| y.toNat = x.toNat + y.toNat := by
    rw [hq, Nat.or_comm, ← Nat.two_pow_add_eq_or_of_lt (by omega : x.toNat < 2 ^ k)]
    omega
  rw [e3, wrap_i64 (by omega) (by omega)]
  omega
theorem or128 {x : Int} (h0 : 0 ≤ x) (h : x < 128) : IntKind.wrap .i64 (((BitVec.ofInt (IntKind.bits .i64) x ||| BitVec.ofInt (IntKind.bits .i64) 128).toNat : Nat) : Int) = x + 128 := or_i64 h0 (by omega) 7 (by omega) (by simpa using h) (by decide) (by omega)
theorem shr_i64 {m : Int} (h0 : 0 ≤ m) (k : Nat) (hk : k ≤ 63) : Int.fdiv m (2 ^ (min (Int.toNat (k : Int)) (IntKind.bits .i64))) = m / (2 ^ k : Nat) := by
  have : min (Int.toNat (k : Int)) (IntKind.bits .i64) = k := by show min (Int.toNat (k : Int)) 64 = k; omega
  rw [this, Int.fdiv_eq_ediv_of_nonneg _ (by have : (0 : Int) ≤ 2 ^ k := Int.pow_nonneg (by omega); exact this)]
  norm_cast
theorem wrap_u8 {n : Int} (h : 0 ≤ n) (h' : n ≤ 255) : IntKind.wrap .u8 n = n := by
  simp only [IntKind.wrap]
  simp [IntKind.bits, IntKind.signed]
  omega
def vi (m : Nat) : List Int := if m ≤ 127 then [(m : Int)] else ((m % 128 + 128 : Nat) : Int) :: vi (m / 128)
termination_by m
decreasing_by omega
theorem vi_len : ∀ (k m : Nat), m < 128 ^ (k + 1) → (vi m).length ≤ k + 1
  | 0, m, h => by rw [vi, if_pos (by simpa using Nat.le_of_lt_succ (by simpa using h))]; simp
  | k + 1, m, h => by
    rw [vi]
    split
    · simp
    · have : m / 128 < 128 ^ (k + 1) := by
        rw [Nat.div_lt_iff_lt_mul (by omega)]
        rw [Nat.pow_succ] at h
        exact h
      have := vi_len k (m / 128) this
      simp only [List.length_cons]; omega
def clampI (n : Int) : Int := if (if n < 1000000000 then n else 1000000000) > -1000000000 then (if n < 1000000000 then n else 1000000000) else -1000000000
theorem clampI_le (n : Int) : -1000000000 ≤ clampI n ∧ clampI n ≤ 1000000000 := by unfold clampI; split <;> split <;> omega
def zigI (n : Int) : Int := if clampI n < 0 then -2 * clampI n - 1 else 2 * clampI n
theorem zigI_le (n : Int) : 0 ≤ zigI n ∧ zigI n ≤ 2000000000 := by have := clampI_le n; unfold zigI; split <;> omega
def numB (n : Int) : List Int := vi (zigI n).toNat
theorem numB_len (n : Int) : (numB n).length ≤ 5 := vi_len 4 _ (by have := zigI_le n; omega)
theorem vi_small {u : Int} (h0 : 0 ≤ u) (h : u ≤ 127) : vi u.toNat = [u] := by rw [vi, if_pos (by omega)]; simp; omega
theorem vi_big {u : Int} (h0 : 0 ≤ u) (h : ¬ u ≤ 127) : vi u.toNat = (u % 128 + 128) :: vi (u / 128).toNat := by
  rw [vi, if_neg (by omega)]
  have e : (u / 128).toNat = u.toNat / 128 := by omega
  rw [e]
  congr 1
  omega
def txtI (s : ByteArray) : List Int := (bs s).map fun b => (b.toNat : Int)
theorem txtI_len (s : ByteArray) : (txtI s).length = s.size := by rw [txtI, List.length_map, bs_len]
def textB (s : ByteArray) : List Int := numB s.size ++ txtI s
def valB (v : DVal) : List Int := numB v.K ++ (if v.K = 1 then numB v.N else textB v.S)
def valsB (l : List DVal) : List Int := l.flatMap valB
def factB (f : DFact) : List Int := textB f.Kind ++ numB f.Fields.length ++ valsB f.Fields
def flagB (b : Bool) : List Int := numB (if b then 1 else 0)
def opB (o : DOp) : List Int := if opOk o = true then
    numB o.Kind ++ textB o.Name ++ textB o.Text ++ (if o.Kind = 3 then numB 1 ++ factB o.F else numB 0) ++ textB o.Key ++ flagB o.Ok ++ (if o.Kind = 4 then numB 1 ++ valB o.V else numB 0) ++ numB o.N else []
theorem textB_len (s : ByteArray) : (textB s).length ≤ 5 + s.size := by have := numB_len s.size; simp only [textB, List.length_append, txtI_len]; omega
theorem valB_len (v : DVal) : (valB v).length ≤ 10 + v.S.size := by
  have h1 := numB_len v.K; have h2 := numB_len v.N; have h3 := textB_len v.S
  simp only [valB, List.length_append]; split <;> omega
def con_impl_putNum : Con UU where
  α := (List Int) × Int
  md := [.mv, .ro]
  of := fun | [.one (.sl .byte a0), .one (.lit (.int .i64 a1))] => some (a0, a1) | _ => none
  ds := fun (b, n) => [.one (.sl .byte b), .one (.lit (.int .i64 n))]
  pre := fun (b, n) => [b.length ≤ 4294967280]
  res := fun (b, n) => ⟨[.one (.sl .byte (b ++ numB n))], true, []⟩
  law := by intro l x h; (try simp only at h); split at h <;> cases h; rfl
def I_impl_putNum_5 (b : (List Int)) (n : Int) : List Int × Int × Unit → Prop := fun (out, u, _) => 0 ≤ u ∧ u ≤ 2000000000 ∧ out ++ vi u.toNat = b ++ numB n
def μ_impl_putNum_5 (b : (List Int)) (n : Int) : List Int × Int × Unit → Nat := fun (out, u, _) => u.toNat
def ann_impl_putNum : con_impl_putNum.α → Nat → Option (Ann UU) := fun (b, n) => annL [(5, annOf [.slot 0 (0, 1024) (.own .byte true), .slot 5 (5, 1024) (.lit (.int .i64))] (fun _ => I_impl_putNum_5 b n) (μ_impl_putNum_5 b n))]
def use_impl_putNum : List (FuncId × Con UU) := []
theorem vc_impl_putNum (b : (List Int)) (n : Int) : goal EE use_impl_putNum Go.Proofs.Try.f39 con_impl_putNum ann_impl_putNum (b, n) = (let x0 : Int := if (if n < (1000000000 : Int) then n else (1000000000 : Int)) > (-1000000000 : Int) then if n < (1000000000 : Int) then n else (1000000000 : Int) else (-1000000000 : Int);
bif decide (x0 < (0 : Int)) then
  I_impl_putNum_5 b n (b, IntKind.wrap IntKind.i64 (IntKind.wrap IntKind.i64 ((-2 : Int) * x0) - (1 : Int)), PUnit.unit) ∧
    ∀ (y : List Int × Int × PUnit),
      let x1 : List Int := [IntKind.wrap IntKind.u8 (IntKind.wrap IntKind.i64 ((128 : Int) + Int.tmod y.2.1 (128 : Int)))];
      let x2 : List Int := [IntKind.wrap IntKind.u8 y.2.1];
      I_impl_putNum_5 b n y → bif decide (y.2.1 > (127 : Int)) then (128 : Int) ≠ (0 : Int) ∧ List.length y.1 + List.length x1 ≤ (4294967296 : Nat) ∧ (128 : Int) ≠ (0 : Int) ∧ I_impl_putNum_5 b n (y.1 ++ x1, IntKind.wrap IntKind.i64 (Int.tdiv y.2.1 (128 : Int)), PUnit.unit) ∧ μ_impl_putNum_5 b n (y.1 ++ x1, IntKind.wrap IntKind.i64 (Int.tdiv y.2.1 (128 : Int)), PUnit.unit) < μ_impl_putNum_5 b n y else List.length y.1 + List.length x2 ≤ (4294967296 : Nat) ∧ Lf [DV.one (Cell.sl Cd.byte (y.1 ++ x2))] [DV.one (Cell.sl Cd.byte (b ++ numB n))]
else
  I_impl_putNum_5 b n (b, IntKind.wrap IntKind.i64 ((2 : Int) * x0), PUnit.unit) ∧
    ∀ (y : List Int × Int × PUnit),
      let x1 : List Int := [IntKind.wrap IntKind.u8 (IntKind.wrap IntKind.i64 ((128 : Int) + Int.tmod y.2.1 (128 : Int)))];
      let x2 : List Int := [IntKind.wrap IntKind.u8 y.2.1];
      I_impl_putNum_5 b n y → bif decide (y.2.1 > (127 : Int)) then (128 : Int) ≠ (0 : Int) ∧ List.length y.1 + List.length x1 ≤ (4294967296 : Nat) ∧ (128 : Int) ≠ (0 : Int) ∧ I_impl_putNum_5 b n (y.1 ++ x1, IntKind.wrap IntKind.i64 (Int.tdiv y.2.1 (128 : Int)), PUnit.unit) ∧ μ_impl_putNum_5 b n (y.1 ++ x1, IntKind.wrap IntKind.i64 (Int.tdiv y.2.1 (128 : Int)), PUnit.unit) < μ_impl_putNum_5 b n y else List.length y.1 + List.length x2 ≤ (4294967296 : Nat) ∧ Lf [DV.one (Cell.sl Cd.byte (y.1 ++ x2))] [DV.one (Cell.sl Cd.byte (b ++ numB n))]) := by kernel_rfl
theorem ok_impl_putNum : Holds EE (39, con_impl_putNum) := by
  refine holds_of EE_ok Go.Proofs.Try.func39 con_impl_putNum (by kernel_rfl) use_impl_putNum all_nil ann_impl_putNum (fun x hp hb => ?_)
  obtain ⟨b, n⟩ := x
  have hb_b : BdDV (U := UU) (.one (.sl .byte b)) := hb _ (List.mem_cons_self)
  have hl_b : b.length ≤ 9223372036854775807 := Bd.len hb_b
  have hb_n : BdDV (U := UU) (.one (.lit (.int .i64 n))) := hb _ (List.mem_cons_of_mem _ (List.mem_cons_self))
  have hl_n := Bd.i64 hb_n
  have hp0 : b.length ≤ 4294967280 := hp _ (List.mem_cons_self)
  clear hp hb
  rw [vc_impl_putNum b n]
  dsimp only
  have hz := zigI_le n
  have hc := clampI_le n
  have hn := numB_len n
  have he : ∀ e : Int, e = zigI n → I_impl_putNum_5 b n (b, e, PUnit.unit) := fun e h => by subst h; exact ⟨hz.1, hz.2, rfl⟩
  refine if_cond (fun h => ⟨he _ ?_, fun y hI => ?_⟩) (fun h => ⟨he _ ?_, fun y hI => ?_⟩)
  · have h : clampI n < 0 := of_decide_eq_true h
    show IntKind.wrap .i64 (IntKind.wrap .i64 (-2 * clampI n) - 1) = zigI n
    rw [zigI, if_pos h, wrap_i64 (n := -2 * clampI n) (by omega) (by omega), wrap_i64 (by omega) (by omega)]
  rotate_left
  · have h : ¬ clampI n < 0 := of_decide_eq_false h
    show IntKind.wrap .i64 (2 * clampI n) = zigI n
    rw [zigI, if_neg h, wrap_i64 (by omega) (by omega)]
  all_goals
    obtain ⟨out, u, _⟩ := y
    obtain ⟨h0, h1, h2⟩ := (hI : 0 ≤ u ∧ u ≤ 2000000000 ∧ out ++ vi u.toNat = b ++ numB n)
    dsimp only
    have hl : out.length + (vi u.toNat).length = b.length + (numB n).length := by rw [← List.length_append, h2, List.length_append]
    refine if_cond (fun hu => ?_) (fun hu => ?_)
    · have hu := of_decide_eq_true hu
      have e1 : IntKind.wrap .u8 (IntKind.wrap .i64 (128 + u.tmod 128)) = u % 128 + 128 := by
        rw [Int.tmod_eq_emod_of_nonneg h0, wrap_i64 (by omega) (by omega), wrap_u8 (by omega) (by omega)]; omega
      have e2 : IntKind.wrap .i64 (u.tdiv 128) = u / 128 := by rw [Int.tdiv_eq_ediv_of_nonneg h0, wrap_i64 (by omega) (by omega)]
      rw [vi_big h0 (by omega)] at h2 hl
      simp only [List.length_cons] at hl
      simp only [e1, e2]
      repeat' (first | refine And.intro (by first | omega | (simp only [List.length_cons, List.length_nil]; omega)) ?_ | fail)
      all_goals first
        | (refine ⟨⟨by omega, by omega, ?_⟩, ?_⟩
           · rw [List.append_assoc]; exact h2
           · show (u / 128).toNat < u.toNat; omega)
    · have hu := of_decide_eq_false hu
      rw [vi_small h0 (by omega)] at h2 hl
      rw [wrap_u8 h0 (by omega), h2]
      exact ⟨by simp at hl ⊢; omega, Lf_rfl _⟩
def con_spec_PutNum : Con UU where
  α := (List Int) × Int
  md := [.ro, .ro]
  of := fun | [.one (.sl .byte a0), .one (.lit (.int .i64 a1))] => some (a0, a1) | _ => none
  ds := fun (b, n) => [.one (.sl .byte b), .one (.lit (.int .i64 n))]
  pre := fun (b, n) => [b.length ≤ 4294967280]
  res := fun (b, n) => ⟨[.one (.sl .byte (b ++ numB n))], true, []⟩
  law := by intro l x h; (try simp only at h); split at h <;> cases h; rfl
def I_spec_PutNum_9 (b : (List Int)) (n : Int) : List Int × Int × Unit → Prop := fun (out, u, _) => 0 ≤ u ∧ u ≤ 2000000000 ∧ out ++ vi u.toNat = b ++ numB n
def μ_spec_PutNum_9 (b : (List Int)) (n : Int) : List Int × Int × Unit → Nat := fun (out, u, _) => u.toNat
def ann_spec_PutNum : con_spec_PutNum.α → Nat → Option (Ann UU) := fun (b, n) => annL [(9, annOf [.slot 5 (5, 1024) (.own .byte true), .slot 6 (6, 1024) (.lit (.int .i64))] (fun _ => I_spec_PutNum_9 b n) (μ_spec_PutNum_9 b n))]
def use_spec_PutNum : List (FuncId × Con UU) := []
theorem vc_spec_PutNum (b : (List Int)) (n : Int) : goal EE use_spec_PutNum Go.Proofs.Try.f86 con_spec_PutNum ann_spec_PutNum (b, n) = (let x0 : List Int := [] ++ b;
(0 : Nat) + List.length b ≤ (4294967296 : Nat) ∧
  bif decide (n > (1000000000 : Int)) then
    I_spec_PutNum_9 b n (x0, IntKind.wrap IntKind.i64 ((2 : Int) * (1000000000 : Int)), PUnit.unit) ∧
      ∀ (y : List Int × Int × PUnit),
        let x1 : List Int := [IntKind.wrap IntKind.u8 (IntKind.wrap IntKind.i64 (↑(BitVec.toNat (BitVec.ofInt (IntKind.bits IntKind.i64) (IntKind.wrap IntKind.i64 (↑(BitVec.toNat (BitVec.ofInt (IntKind.bits IntKind.i64) y.2.1 &&& BitVec.ofInt (IntKind.bits IntKind.i64) (127 : Int))) : Int)) ||| BitVec.ofInt (IntKind.bits IntKind.i64) (128 : Int))) : Int))];
        let x2 : List Int := [IntKind.wrap IntKind.u8 y.2.1];
        I_spec_PutNum_9 b n y → bif decide (y.2.1 > (127 : Int)) then List.length y.1 + List.length x1 ≤ (4294967296 : Nat) ∧ (0 : Int) ≤ (7 : Int) ∧ I_spec_PutNum_9 b n (y.1 ++ x1, Int.fdiv y.2.1 ((2 : Int) ^ min (Int.toNat (7 : Int)) (IntKind.bits IntKind.i64)), PUnit.unit) ∧ μ_spec_PutNum_9 b n (y.1 ++ x1, Int.fdiv y.2.1 ((2 : Int) ^ min (Int.toNat (7 : Int)) (IntKind.bits IntKind.i64)), PUnit.unit) < μ_spec_PutNum_9 b n y else List.length y.1 + List.length x2 ≤ (4294967296 : Nat) ∧ Lf [DV.one (Cell.sl Cd.byte (y.1 ++ x2))] [DV.one (Cell.sl Cd.byte (b ++ numB n))]
  else
    bif decide (n < (-1000000000 : Int)) then
      I_spec_PutNum_9 b n (x0, IntKind.wrap IntKind.i64 (IntKind.wrap IntKind.i64 ((-2 : Int) * (-1000000000 : Int)) - (1 : Int)), PUnit.unit) ∧
        ∀ (y : List Int × Int × PUnit),
          let x1 : List Int := [IntKind.wrap IntKind.u8 (IntKind.wrap IntKind.i64 (↑(BitVec.toNat (BitVec.ofInt (IntKind.bits IntKind.i64) (IntKind.wrap IntKind.i64 (↑(BitVec.toNat (BitVec.ofInt (IntKind.bits IntKind.i64) y.2.1 &&& BitVec.ofInt (IntKind.bits IntKind.i64) (127 : Int))) : Int)) ||| BitVec.ofInt (IntKind.bits IntKind.i64) (128 : Int))) : Int))];
          let x2 : List Int := [IntKind.wrap IntKind.u8 y.2.1];
          I_spec_PutNum_9 b n y → bif decide (y.2.1 > (127 : Int)) then List.length y.1 + List.length x1 ≤ (4294967296 : Nat) ∧ (0 : Int) ≤ (7 : Int) ∧ I_spec_PutNum_9 b n (y.1 ++ x1, Int.fdiv y.2.1 ((2 : Int) ^ min (Int.toNat (7 : Int)) (IntKind.bits IntKind.i64)), PUnit.unit) ∧ μ_spec_PutNum_9 b n (y.1 ++ x1, Int.fdiv y.2.1 ((2 : Int) ^ min (Int.toNat (7 : Int)) (IntKind.bits IntKind.i64)), PUnit.unit) < μ_spec_PutNum_9 b n y else List.length y.1 + List.length x2 ≤ (4294967296 : Nat) ∧ Lf [DV.one (Cell.sl Cd.byte (y.1 ++ x2))] [DV.one (Cell.sl Cd.byte (b ++ numB n))]
    else
      bif decide (n < (0 : Int)) then
        I_spec_PutNum_9 b n (x0, IntKind.wrap IntKind.i64 (IntKind.wrap IntKind.i64 ((-2 : Int) * n) - (1 : Int)), PUnit.unit) ∧
          ∀ (y : List Int × Int × PUnit),
            let x1 : List Int := [IntKind.wrap IntKind.u8 (IntKind.wrap IntKind.i64 (↑(BitVec.toNat (BitVec.ofInt (IntKind.bits IntKind.i64) (IntKind.wrap IntKind.i64 (↑(BitVec.toNat (BitVec.ofInt (IntKind.bits IntKind.i64) y.2.1 &&& BitVec.ofInt (IntKind.bits IntKind.i64) (127 : Int))) : Int)) ||| BitVec.ofInt (IntKind.bits IntKind.i64) (128 : Int))) : Int))];
            let x2 : List Int := [IntKind.wrap IntKind.u8 y.2.1];
            I_spec_PutNum_9 b n y → bif decide (y.2.1 > (127 : Int)) then List.length y.1 + List.length x1 ≤ (4294967296 : Nat) ∧ (0 : Int) ≤ (7 : Int) ∧ I_spec_PutNum_9 b n (y.1 ++ x1, Int.fdiv y.2.1 ((2 : Int) ^ min (Int.toNat (7 : Int)) (IntKind.bits IntKind.i64)), PUnit.unit) ∧ μ_spec_PutNum_9 b n (y.1 ++ x1, Int.fdiv y.2.1 ((2 : Int) ^ min (Int.toNat (7 : Int)) (IntKind.bits IntKind.i64)), PUnit.unit) < μ_spec_PutNum_9 b n y else List.length y.1 + List.length x2 ≤ (4294967296 : Nat) ∧ Lf [DV.one (Cell.sl Cd.byte (y.1 ++ x2))] [DV.one (Cell.sl Cd.byte (b ++ numB n))]
      else
        I_spec_PutNum_9 b n (x0, IntKind.wrap IntKind.i64 ((2 : Int) * n), PUnit.unit) ∧
          ∀ (y : List Int × Int × PUnit),
            let x1 : List Int := [IntKind.wrap IntKind.u8 (IntKind.wrap IntKind.i64 (↑(BitVec.toNat (BitVec.ofInt (IntKind.bits IntKind.i64) (IntKind.wrap IntKind.i64 (↑(BitVec.toNat (BitVec.ofInt (IntKind.bits IntKind.i64) y.2.1 &&& BitVec.ofInt (IntKind.bits IntKind.i64) (127 : Int))) : Int)) ||| BitVec.ofInt (IntKind.bits IntKind.i64) (128 : Int))) : Int))];
            let x2 : List Int := [IntKind.wrap IntKind.u8 y.2.1];
            I_spec_PutNum_9 b n y → bif decide (y.2.1 > (127 : Int)) then List.length y.1 + List.length x1 ≤ (4294967296 : Nat) ∧ (0 : Int) ≤ (7 : Int) ∧ I_spec_PutNum_9 b n (y.1 ++ x1, Int.fdiv y.2.1 ((2 : Int) ^ min (Int.toNat (7 : Int)) (IntKind.bits IntKind.i64)), PUnit.unit) ∧ μ_spec_PutNum_9 b n (y.1 ++ x1, Int.fdiv y.2.1 ((2 : Int) ^ min (Int.toNat (7 : Int)) (IntKind.bits IntKind.i64)), PUnit.unit) < μ_spec_PutNum_9 b n y else List.length y.1 + List.length x2 ≤ (4294967296 : Nat) ∧ Lf [DV.one (Cell.sl Cd.byte (y.1 ++ x2))] [DV.one (Cell.sl Cd.byte (b ++ numB n))]) := by kernel_rfl
theorem ok_spec_PutNum : Holds EE (86, con_spec_PutNum) := by
  refine holds_of EE_ok Go.Proofs.Try.func86 con_spec_PutNum (by kernel_rfl) use_spec_PutNum all_nil ann_spec_PutNum (fun x hp hb => ?_)
  obtain ⟨b, n⟩ := x
  have hb_b : BdDV (U := UU) (.one (.sl .byte b)) := hb _ (List.mem_cons_self)
  have hl_b : b.length ≤ 9223372036854775807 := Bd.len hb_b
  have hb_n : BdDV (U := UU) (.one (.lit (.int .i64 n))) := hb _ (List.mem_cons_of_mem _ (List.mem_cons_self))
  have hl_n := Bd.i64 hb_n
  have hp0 : b.length ≤ 4294967280 := hp _ (List.mem_cons_self)
  clear hp hb
  rw [vc_spec_PutNum b n]
  dsimp only
  have hz := zigI_le n
  have hc := clampI_le n
  have hn := numB_len n
  have he : ∀ e : Int, e = zigI n → I_spec_PutNum_9 b n ([] ++ b, e, PUnit.unit) := fun e h => by subst h; exact ⟨hz.1, hz.2, rfl⟩
  refine ⟨by simp; omega, if_cond (fun h => ⟨he _ ?_, fun y hI => ?_⟩) (fun h => if_cond (fun h3 => ⟨he _ ?_, fun y hI => ?_⟩) (fun h3 => if_cond (fun h4 => ⟨he _ ?_, fun y hI => ?_⟩) (fun h4 => ⟨he _ ?_, fun y hI => ?_⟩)))⟩
  · have h := of_decide_eq_true h
    rw [wrap_i64 (by omega) (by omega)]; simp only [zigI, clampI]; split <;> (try split at *) <;> (try split at *) <;> omega
  rotate_left
  · have h := of_decide_eq_false h; have h3 := of_decide_eq_true h3
    rw [wrap_i64 (n := -2 * -1000000000) (by omega) (by omega), wrap_i64 (by omega) (by omega)]; simp only [zigI, clampI]; split <;> (try split at *) <;> (try split at *) <;> omega
  rotate_left
  · have h := of_decide_eq_false h; have h3 := of_decide_eq_false h3; have h4 := of_decide_eq_true h4
    rw [wrap_i64 (n := -2 * n) (by omega) (by omega), wrap_i64 (by omega) (by omega)]; simp only [zigI, clampI]; split <;> (try split at *) <;> (try split at *) <;> omega
  rotate_left
  · have h := of_decide_eq_false h; have h3 := of_decide_eq_false h3; have h4 := of_decide_eq_false h4
    rw [wrap_i64 (by omega) (by omega)]; simp only [zigI, clampI]; split <;> (try split at *) <;> (try split at *) <;> omega
  all_goals
    obtain ⟨out, u, _⟩ := y
    obtain ⟨h0, h1, h2⟩ := (hI : 0 ≤ u ∧ u ≤ 2000000000 ∧ out ++ vi u.toNat = b ++ numB n)
    dsimp only
    have hl : out.length + (vi u.toNat).length = b.length + (numB n).length := by rw [← List.length_append, h2, List.length_append]
    refine if_cond (fun hu => ?_) (fun hu => ?_)
    · have hu := of_decide_eq_true hu
      have e1 : IntKind.wrap .u8 (IntKind.wrap .i64 (((BitVec.ofInt (IntKind.bits .i64) (IntKind.wrap .i64 (((BitVec.ofInt (IntKind.bits .i64) u &&& BitVec.ofInt (IntKind.bits .i64) 127).toNat : Nat) : Int)) ||| BitVec.ofInt (IntKind.bits .i64) 128).toNat : Nat) : Int)) = u % 128 + 128 := by
        rw [and127 h0 (by omega), or128 (by omega) (by omega), wrap_u8 (by omega) (by omega)]
      have e2 : Int.fdiv u ((2 : Int) ^ min (Int.toNat (7 : Int)) (IntKind.bits .i64)) = u / 128 := shr_i64 h0 7 (by omega)
      rw [vi_big h0 (by omega)] at h2 hl
      simp only [List.length_cons] at hl
      simp only [e1, e2]
      repeat' (first | refine And.intro (by first | omega | (simp only [List.length_cons, List.length_nil]; omega)) ?_ | fail)
      all_goals first
        | (refine ⟨⟨by omega, by omega, ?_⟩, ?_⟩
           · rw [List.append_assoc]; exact h2
           · show (u / 128).toNat < u.toNat; omega)
    · have hu := of_decide_eq_false hu
      rw [vi_small h0 (by omega)] at h2 hl
      rw [wrap_u8 h0 (by omega), h2]
      exact ⟨by simp at hl ⊢; omega, Lf_rfl _⟩
theorem Lf_sl {x y : List Int} (h : x = y) : Lf [.one (.sl .byte x)] [.one (.sl .byte y)] := by rw [h]; exact Lf_rfl _
theorem valsB_step (l : List DVal) {i : Int} (h0 : 0 ≤ i) (h : i < l.length) : valsB (l.drop i.toNat) = valB (List.getD l i.toNat zVal) ++ valsB (l.drop (i + 1).toNat) := by
  have hn : i.toNat < l.length := by omega
  have e : (i + 1).toNat = i.toNat + 1 := by omega
  have e2 : List.getD l i.toNat zVal = l[i.toNat] := by simp [List.getD, hn]
  rw [List.drop_eq_getElem_cons hn, e, e2]
  rfl
def con_impl_putText : Con UU where
  α := (List Int) × ByteArray
  md := [.mv, .ro]
  of := fun | [.one (.sl .byte a0), .one (.lit (.string a1))] => some (a0, a1) | _ => none
  ds := fun (b, s) => [.one (.sl .byte b), .one (.lit (.string s))]
  pre := fun (b, s) => [b.length + (textB s).length ≤ 4294967280]
  res := fun (b, s) => ⟨[.one (.sl .byte (b ++ textB s))], true, []⟩
  law := by intro l x h; (try simp only at h); split at h <;> cases h; rfl
def ann_impl_putText : con_impl_putText.α → Nat → Option (Ann UU) := fun (b, s) => annL []
def use_impl_putText : List (FuncId × Con UU) := [(39, con_impl_putNum)]
theorem vc_impl_putText (b : (List Int)) (s : ByteArray) : goal EE use_impl_putText Go.Proofs.Try.f38 con_impl_putText ann_impl_putText (b, s) = (let x0 : List Int := b ++ numB (↑(ByteArray.size s) : Int);
let x1 : List Int := List.map (fun (b : UInt8) => (↑(UInt8.toNat b) : Int)) s.data.toList;
List.length b ≤ (4294967280 : Nat) ∧ List.length x0 + List.length x1 ≤ (4294967296 : Nat) ∧ Lf [DV.one (Cell.sl Cd.byte (x0 ++ x1))] [DV.one (Cell.sl Cd.byte (b ++ textB s))]) := by kernel_rfl
theorem ok_impl_putText : Holds EE (38, con_impl_putText) := by
  refine holds_of EE_ok Go.Proofs.Try.func38 con_impl_putText (by kernel_rfl) use_impl_putText (all_cons ok_impl_putNum all_nil) ann_impl_putText (fun x hp hb => ?_)
  obtain ⟨b, s⟩ := x
  have hb_b : BdDV (U := UU) (.one (.sl .byte b)) := hb _ (List.mem_cons_self)
  have hl_b : b.length ≤ 9223372036854775807 := Bd.len hb_b
  have hb_s : BdDV (U := UU) (.one (.lit (.string s))) := hb _ (List.mem_cons_of_mem _ (List.mem_cons_self))
  have hl_s : s.size ≤ 9223372036854775807 := Bd.str hb_s
  have hp0 : b.length + (textB s).length ≤ 4294967280 := hp _ (List.mem_cons_self)
  clear hp hb
  rw [vc_impl_putText b s]
  dsimp only
  have hl : (textB s).length = (numB s.size).length + s.size := by simp only [textB, List.length_append, txtI_len]
  have h2 : (List.map (fun (b : UInt8) => (b.toNat : Int)) s.data.toList).length = s.size := txtI_len s
  refine ⟨by omega, ?_, Lf_sl (List.append_assoc _ _ _)⟩
  rw [List.length_append, h2]; omega
def con_spec_PutText : Con UU where
  α := (List Int) × ByteArray
  md := [.ro, .ro]
  of := fun | [.one (.sl .byte a0), .one (.lit (.string a1))] => some (a0, a1) | _ => none
  ds := fun (b, s) => [.one (.sl .byte b), .one (.lit (.string s))]
  pre := fun (b, s) => [b.length + (textB s).length ≤ 4294967280]
  res := fun (b, s) => ⟨[.one (.sl .byte (b ++ textB s))], true, []⟩
  law := by intro l x h; (try simp only at h); split at h <;> cases h; rfl
def ann_spec_PutText : con_spec_PutText.α → Nat → Option (Ann UU) := fun (b, s) => annL []
def use_spec_PutText : List (FuncId × Con UU) := [(86, con_spec_PutNum)]
theorem vc_spec_PutText (b : (List Int)) (s : ByteArray) : goal EE use_spec_PutText Go.Proofs.Try.f85 con_spec_PutText ann_spec_PutText (b, s) = (let x0 : List Int := b ++ numB (↑(ByteArray.size s) : Int);
let x1 : List Int := List.map (fun (b : UInt8) => (↑(UInt8.toNat b) : Int)) s.data.toList;
List.length b ≤ (4294967280 : Nat) ∧ List.length x0 + List.length x1 ≤ (4294967296 : Nat) ∧ Lf [DV.one (Cell.sl Cd.byte (x0 ++ x1))] [DV.one (Cell.sl Cd.byte (b ++ textB s))]) := by kernel_rfl
theorem ok_spec_PutText : Holds EE (85, con_spec_PutText) := by
  refine holds_of EE_ok Go.Proofs.Try.func85 con_spec_PutText (by kernel_rfl) use_spec_PutText (all_cons ok_spec_PutNum all_nil) ann_spec_PutText (fun x hp hb => ?_)
  obtain ⟨b, s⟩ := x
  have hb_b : BdDV (U := UU) (.one (.sl .byte b)) := hb _ (List.mem_cons_self)
  have hl_b : b.length ≤ 9223372036854775807 := Bd.len hb_b
  have hb_s : BdDV (U := UU) (.one (.lit (.string s))) := hb _ (List.mem_cons_of_mem _ (List.mem_cons_self))
  have hl_s : s.size ≤ 9223372036854775807 := Bd.str hb_s
  have hp0 : b.length + (textB s).length ≤ 4294967280 := hp _ (List.mem_cons_self)
  clear hp hb
  rw [vc_spec_PutText b s]
  dsimp only
  have hl : (textB s).length = (numB s.size).length + s.size := by simp only [textB, List.length_append, txtI_len]
  have h2 : (List.map (fun (b : UInt8) => (b.toNat : Int)) s.data.toList).length = s.size := txtI_len s
  refine ⟨by omega, ?_, Lf_sl (List.append_assoc _ _ _)⟩
  rw [List.length_append, h2]; omega
def con_impl_putVal : Con UU where
  α := (List Int) × DVal
  md := [.mv, .ro]
  of := fun | [.one (.sl .byte a0), .agg [.lit (.int .i64 a1), .lit (.int .i64 a2), .lit (.string a3)]] => some (a0, ⟨a1, a2, a3⟩) | _ => none
  ds := fun (b, v) => [.one (.sl .byte b), .agg [.lit (.int .i64 v.K), .lit (.int .i64 v.N), .lit (.string v.S)]]
  pre := fun (b, v) => [b.length + (valB v).length ≤ 4294967280]
  res := fun (b, v) => ⟨[.one (.sl .byte (b ++ valB v))], true, []⟩
  law := by intro l x h; (try simp only at h); split at h <;> cases h; rfl
def ann_impl_putVal : con_impl_putVal.α → Nat → Option (Ann UU) := fun (b, v) => annL []
def use_impl_putVal : List (FuncId × Con UU) := [(39, con_impl_putNum), (38, con_impl_putText)]
theorem vc_impl_putVal (b : (List Int)) (v : DVal) : goal EE use_impl_putVal Go.Proofs.Try.f42 con_impl_putVal ann_impl_putVal (b, v) = (let x0 : List Int := b ++ numB v.K;
List.length b ≤ (4294967280 : Nat) ∧ bif v.K == (1 : Int) then List.length x0 ≤ (4294967280 : Nat) ∧ Lf [DV.one (Cell.sl Cd.byte (x0 ++ numB v.N))] [DV.one (Cell.sl Cd.byte (b ++ valB v))] else List.length x0 + List.length (textB v.S) ≤ (4294967280 : Nat) ∧ Lf [DV.one (Cell.sl Cd.byte (x0 ++ textB v.S))] [DV.one (Cell.sl Cd.byte (b ++ valB v))]) := by kernel_rfl
theorem ok_impl_putVal : Holds EE (42, con_impl_putVal) := by
  refine holds_of EE_ok Go.Proofs.Try.func42 con_impl_putVal (by kernel_rfl) use_impl_putVal (all_cons ok_impl_putNum (all_cons ok_impl_putText all_nil)) ann_impl_putVal (fun x hp hb => ?_)
  obtain ⟨b, v⟩ := x
  have hb_b : BdDV (U := UU) (.one (.sl .byte b)) := hb _ (List.mem_cons_self)
  have hl_b : b.length ≤ 9223372036854775807 := Bd.len hb_b
  have hb_v : BdDV (U := UU) (.agg [.lit (.int .i64 v.K), .lit (.int .i64 v.N), .lit (.string v.S)]) := hb _ (List.mem_cons_of_mem _ (List.mem_cons_self))
  have hl_v_S : v.S.size ≤ 9223372036854775807 := Bd.str (hb_v _ (by simp))
  have hp0 : b.length + (valB v).length ≤ 4294967280 := hp _ (List.mem_cons_self)
  clear hp hb
  rw [vc_impl_putVal b v]
  dsimp only
  have hl : (valB v).length = (numB v.K).length + (if v.K = 1 then numB v.N else textB v.S).length := by simp only [valB, List.length_append]
  refine ⟨by omega, if_cond (fun h => ?_) (fun h => ?_)⟩
  · have h : v.K = 1 := by simpa using h
    rw [if_pos h] at hl
    refine ⟨by rw [List.length_append]; omega, Lf_sl ?_⟩
    rw [valB, if_pos h, List.append_assoc]
  · have h : ¬ v.K = 1 := by simpa using h
    rw [if_neg h] at hl
    refine ⟨by rw [List.length_append]; omega, Lf_sl ?_⟩
    rw [valB, if_neg h, List.append_assoc]
def con_spec_PutVal : Con UU where
  α := (List Int) × DVal
  md := [.ro, .ro]
  of := fun | [.one (.sl .byte a0), .agg [.lit (.int .i64 a1), .lit (.int .i64 a2), .lit (.string a3)]] => some (a0, ⟨a1, a2, a3⟩) | _ => none
  ds := fun (b, v) => [.one (.sl .byte b), .agg [.lit (.int .i64 v.K), .lit (.int .i64 v.N), .lit (.string v.S)]]
  pre := fun (b, v) => [b.length + (valB v).length ≤ 4294967280]
  res := fun (b, v) => ⟨[.one (.sl .byte (b ++ valB v))], true, []⟩
  law := by intro l x h; (try simp only at h); split at h <;> cases h; rfl
def ann_spec_PutVal : con_spec_PutVal.α → Nat → Option (Ann UU) := fun (b, v) => annL []
def use_spec_PutVal : List (FuncId × Con UU) := [(86, con_spec_PutNum), (85, con_spec_PutText)]
theorem vc_spec_PutVal (b : (List Int)) (v : DVal) : goal EE use_spec_PutVal Go.Proofs.Try.f88 con_spec_PutVal ann_spec_PutVal (b, v) = (let x0 : List Int := b ++ numB v.K;
List.length b ≤ (4294967280 : Nat) ∧ bif v.K == (1 : Int) then List.length x0 ≤ (4294967280 : Nat) ∧ Lf [DV.one (Cell.sl Cd.byte (x0 ++ numB v.N))] [DV.one (Cell.sl Cd.byte (b ++ valB v))] else List.length x0 + List.length (textB v.S) ≤ (4294967280 : Nat) ∧ Lf [DV.one (Cell.sl Cd.byte (x0 ++ textB v.S))] [DV.one (Cell.sl Cd.byte (b ++ valB v))]) := by kernel_rfl
theorem ok_spec_PutVal : Holds EE (88, con_spec_PutVal) := by
  refine holds_of EE_ok Go.Proofs.Try.func88 con_spec_PutVal (by kernel_rfl) use_spec_PutVal (all_cons ok_spec_PutNum (all_cons ok_spec_PutText all_nil)) ann_spec_PutVal (fun x hp hb => ?_)
  obtain ⟨b, v⟩ := x
  have hb_b : BdDV (U := UU) (.one (.sl .byte b)) := hb _ (List.mem_cons_self)
  have hl_b : b.length ≤ 9223372036854775807 := Bd.len hb_b
  have hb_v : BdDV (U := UU) (.agg [.lit (.int .i64 v.K), .lit (.int .i64 v.N), .lit (.string v.S)]) := hb _ (List.mem_cons_of_mem _ (List.mem_cons_self))
  have hl_v_S : v.S.size ≤ 9223372036854775807 := Bd.str (hb_v _ (by simp))
  have hp0 : b.length + (valB v).length ≤ 4294967280 := hp _ (List.mem_cons_self)
  clear hp hb
  rw [vc_spec_PutVal b v]
  dsimp only
  have hl : (valB v).length = (numB v.K).length + (if v.K = 1 then numB v.N else textB v.S).length := by simp only [valB, List.length_append]
  refine ⟨by omega, if_cond (fun h => ?_) (fun h => ?_)⟩
  · have h : v.K = 1 := by simpa using h
    rw [if_pos h] at hl
    refine ⟨by rw [List.length_append]; omega, Lf_sl ?_⟩
    rw [valB, if_pos h, List.append_assoc]
  · have h : ¬ v.K = 1 := by simpa using h
    rw [if_neg h] at hl
    refine ⟨by rw [List.length_append]; omega, Lf_sl ?_⟩
    rw [valB, if_neg h, List.append_assoc]
def con_impl_putFlag : Con UU where
  α := (List Int) × Bool
  md := [.mv, .ro]
  of := fun | [.one (.sl .byte a0), .one (.lit (.bool a1))] => some (a0, a1) | _ => none
  ds := fun (b, flag) => [.one (.sl .byte b), .one (.lit (.bool flag))]
  pre := fun (b, flag) => [b.length + (flagB flag).length ≤ 4294967280]
  res := fun (b, flag) => ⟨[.one (.sl .byte (b ++ flagB flag))], true, []⟩
  law := by intro l x h; (try simp only at h); split at h <;> cases h; rfl
def ann_impl_putFlag : con_impl_putFlag.α → Nat → Option (Ann UU) := fun (b, flag) => annL []
def use_impl_putFlag : List (FuncId × Con UU) := [(39, con_impl_putNum)]
theorem vc_impl_putFlag (b : (List Int)) (flag : Bool) : goal EE use_impl_putFlag Go.Proofs.Try.f40 con_impl_putFlag ann_impl_putFlag (b, flag) = (bif flag then List.length b ≤ (4294967280 : Nat) ∧ Lf [DV.one (Cell.sl Cd.byte (b ++ numB (1 : Int)))] [DV.one (Cell.sl Cd.byte (b ++ flagB flag))] else List.length b ≤ (4294967280 : Nat) ∧ Lf [DV.one (Cell.sl Cd.byte (b ++ numB (0 : Int)))] [DV.one (Cell.sl Cd.byte (b ++ flagB flag))]) := by kernel_rfl
theorem ok_impl_putFlag : Holds EE (40, con_impl_putFlag) := by
  refine holds_of EE_ok Go.Proofs.Try.func40 con_impl_putFlag (by kernel_rfl) use_impl_putFlag (all_cons ok_impl_putNum all_nil) ann_impl_putFlag (fun x hp hb => ?_)
  obtain ⟨b, flag⟩ := x
  have hb_b : BdDV (U := UU) (.one (.sl .byte b)) := hb _ (List.mem_cons_self)
  have hl_b : b.length ≤ 9223372036854775807 := Bd.len hb_b
  have hb_flag : BdDV (U := UU) (.one (.lit (.bool flag))) := hb _ (List.mem_cons_of_mem _ (List.mem_cons_self))
  have hp0 : b.length + (flagB flag).length ≤ 4294967280 := hp _ (List.mem_cons_self)
  clear hp hb
  rw [vc_impl_putFlag b flag]
  refine if_cond (fun h => ⟨by omega, Lf_sl ?_⟩) (fun h => ⟨by omega, Lf_sl ?_⟩) <;> rw [flagB, h] <;> rfl
def con_spec_l3PutVals : Con UU where
  α := (List Int) × (List DVal)
  md := [.ro, .ro]
  of := fun | [.one (.sl .byte a0), .one (.sl .eVal a1)] => some (a0, a1) | _ => none
  ds := fun (b, l) => [.one (.sl .byte b), .one (.sl .eVal l)]
  pre := fun (b, l) => [b.length + (numB l.length ++ valsB l).length ≤ 4294967280]
  res := fun (b, l) => ⟨[.one (.sl .byte (b ++ (numB l.length ++ valsB l)))], true, []⟩
  law := by intro l x h; (try simp only at h); split at h <;> cases h; rfl
def I_spec_l3PutVals_3 (b : (List Int)) (l : (List DVal)) : List Int × Int × Unit → Prop := fun (out, i, _) => 0 ≤ i ∧ i ≤ l.length ∧ out ++ valsB (l.drop i.toNat) = b ++ (numB l.length ++ valsB l)
def μ_spec_l3PutVals_3 (b : (List Int)) (l : (List DVal)) : List Int × Int × Unit → Nat := fun (out, i, _) => l.length - i.toNat
def ann_spec_l3PutVals : con_spec_l3PutVals.α → Nat → Option (Ann UU) := fun (b, l) => annL [(3, annOf [.slot 0 (0, 1024) (.own .byte true), .slot 5 (5, 1024) (.lit (.int .i64))] (fun _ => I_spec_l3PutVals_3 b l) (μ_spec_l3PutVals_3 b l))]
def use_spec_l3PutVals : List (FuncId × Con UU) := [(86, con_spec_PutNum), (88, con_spec_PutVal)]
theorem vc_spec_l3PutVals (b : (List Int)) (l : (List DVal)) : goal EE use_spec_l3PutVals Go.Proofs.Try.f119 con_spec_l3PutVals ann_spec_l3PutVals (b, l) = (List.length b ≤ (4294967280 : Nat) ∧
  I_spec_l3PutVals_3 b l (b ++ numB (↑(List.length l) : Int), (0 : Int), PUnit.unit) ∧
    ∀ (y : List Int × Int × PUnit),
      let x0 : List Int := valB (List.getD l (Int.toNat y.2.1) zVal);
      I_spec_l3PutVals_3 b l y → bif decide (y.2.1 < (↑(List.length l) : Int)) then (0 : Int) ≤ y.2.1 ∧ Int.toNat y.2.1 < List.length l ∧ List.length y.1 + List.length x0 ≤ (4294967280 : Nat) ∧ I_spec_l3PutVals_3 b l (y.1 ++ x0, IntKind.wrap IntKind.i64 (y.2.1 + (1 : Int)), PUnit.unit) ∧ μ_spec_l3PutVals_3 b l (y.1 ++ x0, IntKind.wrap IntKind.i64 (y.2.1 + (1 : Int)), PUnit.unit) < μ_spec_l3PutVals_3 b l y else Lf [DV.one (Cell.sl Cd.byte y.1)] [DV.one (Cell.sl Cd.byte (b ++ (numB (↑(List.length l) : Int) ++ valsB l)))]) := by kernel_rfl
theorem ok_spec_l3PutVals : Holds EE (119, con_spec_l3PutVals) := by
  refine holds_of EE_ok Go.Proofs.Try.func119 con_spec_l3PutVals (by kernel_rfl) use_spec_l3PutVals (all_cons ok_spec_PutNum (all_cons ok_spec_PutVal all_nil)) ann_spec_l3PutVals (fun x hp hb => ?_)
  obtain ⟨b, l⟩ := x
  have hb_b : BdDV (U := UU) (.one (.sl .byte b)) := hb _ (List.mem_cons_self)
  have hl_b : b.length ≤ 9223372036854775807 := Bd.len hb_b
  have hb_l : BdDV (U := UU) (.one (.sl .eVal l)) := hb _ (List.mem_cons_of_mem _ (List.mem_cons_self))
  have hl_l : l.length ≤ 9223372036854775807 := Bd.len hb_l
  have hp0 : b.length + (numB l.length ++ valsB l).length ≤ 4294967280 := hp _ (List.mem_cons_self)
  clear hp hb
  rw [vc_spec_l3PutVals b l]
  dsimp only
  have hn := numB_len l.length
  refine ⟨by omega, ⟨by omega, by omega, by rw [List.append_assoc]; rfl⟩, ?_⟩
  rintro ⟨out, i, ⟨⟩⟩ ⟨h1, h2, hR⟩
  simp only
  have hlen := congrArg List.length hR
  rw [List.length_append, List.length_append] at hlen
  refine if_cond (fun hc => ?_) (fun hc => ?_)
  · have hc : i < l.length := of_decide_eq_true hc
    rw [valsB_step l h1 hc] at hR hlen
    rw [List.length_append] at hlen
    rw [wrap_i64 (by omega) (by omega)]
    refine ⟨h1, by omega, by omega, ⟨by omega, by omega, ?_⟩, ?_⟩
    · rw [List.append_assoc]; exact hR
    · simp only [μ_spec_l3PutVals_3]; omega
  · have hc : ¬ i < l.length := of_decide_eq_false hc
    refine Lf_sl ?_
    rw [← hR, List.drop_eq_nil_of_le (by omega)]
    exact (List.append_nil _).symm
def con_spec_PutFact : Con UU where
  α := (List Int) × DFact
  md := [.ro, .ro]
  of := fun | [.one (.sl .byte a0), .agg [.lit (.string a1), .sl .eVal a2]] => some (a0, ⟨a1, a2⟩) | _ => none
  ds := fun (b, f) => [.one (.sl .byte b), .agg [.lit (.string f.Kind), .sl .eVal f.Fields]]
  pre := fun (b, f) => [b.length + (factB f).length ≤ 4294967280]
  res := fun (b, f) => ⟨[.one (.sl .byte (b ++ factB f))], true, []⟩
  law := by intro l x h; (try simp only at h); split at h <;> cases h; rfl
def ann_spec_PutFact : con_spec_PutFact.α → Nat → Option (Ann UU) := fun (b, f) => annL []
def use_spec_PutFact : List (FuncId × Con UU) := [(85, con_spec_PutText), (119, con_spec_l3PutVals)]
theorem vc_spec_PutFact (b : (List Int)) (f : DFact) : goal EE use_spec_PutFact Go.Proofs.Try.f87 con_spec_PutFact ann_spec_PutFact (b, f) = (let x0 : List Int := numB (↑(List.length f.Fields) : Int) ++ valsB f.Fields;
List.length b + List.length (textB f.Kind) ≤ (4294967280 : Nat) ∧ List.length (b ++ textB f.Kind) + List.length x0 ≤ (4294967280 : Nat) ∧ Lf [DV.one (Cell.sl Cd.byte (b ++ textB f.Kind ++ x0))] [DV.one (Cell.sl Cd.byte (b ++ factB f))]) := by kernel_rfl
theorem ok_spec_PutFact : Holds EE (87, con_spec_PutFact) := by
  refine holds_of EE_ok Go.Proofs.Try.func87 con_spec_PutFact (by kernel_rfl) use_spec_PutFact (all_cons ok_spec_PutText (all_cons ok_spec_l3PutVals all_nil)) ann_spec_PutFact (fun x hp hb => ?_)
  obtain ⟨b, f⟩ := x
  have hb_b : BdDV (U := UU) (.one (.sl .byte b)) := hb _ (List.mem_cons_self)
  have hl_b : b.length ≤ 9223372036854775807 := Bd.len hb_b
  have hb_f : BdDV (U := UU) (.agg [.lit (.string f.Kind), .sl .eVal f.Fields]) := hb _ (List.mem_cons_of_mem _ (List.mem_cons_self))
  have hl_f_Kind : f.Kind.size ≤ 9223372036854775807 := Bd.str (hb_f _ (by simp))
  have hl_f_Fields : f.Fields.length ≤ 9223372036854775807 := Bd.len (U := UU) (τ := .eVal) (xs := f.Fields) (hb_f _ (by simp))
  have hp0 : b.length + (factB f).length ≤ 4294967280 := hp _ (List.mem_cons_self)
  clear hp hb
  rw [vc_spec_PutFact b f]
  dsimp only
  have hl : (factB f).length = (textB f.Kind).length + (numB f.Fields.length).length + (valsB f.Fields).length := by simp only [factB, List.length_append]
  refine ⟨by omega, by simp only [List.length_append]; omega, Lf_sl ?_⟩
  simp only [factB, List.append_assoc]
def con_impl_putFact : Con UU where
  α := (List Int) × DFact
  md := [.mv, .ro]
  of := fun | [.one (.sl .byte a0), .agg [.lit (.string a1), .sl .eVal a2]] => some (a0, ⟨a1, a2⟩) | _ => none
  ds := fun (b, f) => [.one (.sl .byte b), .agg [.lit (.string f.Kind), .sl .eVal f.Fields]]
  pre := fun (b, f) => [b.length + (factB f).length ≤ 4294967280]
  res := fun (b, f) => ⟨[.one (.sl .byte (b ++ factB f))], true, []⟩
  law := by intro l x h; (try simp only at h); split at h <;> cases h; rfl
def I_impl_putFact_3 (b : (List Int)) (f : DFact) : List Int × Int × Unit → Prop := fun (out, i, _) => 0 ≤ i ∧ i ≤ f.Fields.length ∧ out ++ valsB (f.Fields.drop i.toNat) = b ++ factB f
def μ_impl_putFact_3 (b : (List Int)) (f : DFact) : List Int × Int × Unit → Nat := fun (out, i, _) => f.Fields.length - i.toNat
def ann_impl_putFact : con_impl_putFact.α → Nat → Option (Ann UU) := fun (b, f) => annL [(3, annOf [.slot 0 (0, 1024) (.own .byte true), .slot 18 (18, 1024) (.lit (.int .i64))] (fun _ => I_impl_putFact_3 b f) (μ_impl_putFact_3 b f))]
def use_impl_putFact : List (FuncId × Con UU) := [(38, con_impl_putText), (39, con_impl_putNum), (42, con_impl_putVal)]
theorem vc_impl_putFact (b : (List Int)) (f : DFact) : goal EE use_impl_putFact Go.Proofs.Try.f41 con_impl_putFact ann_impl_putFact (b, f) = (let x0 : Int := (↑(List.length f.Fields) : Int);
List.length b + List.length (textB f.Kind) ≤ (4294967280 : Nat) ∧
  List.length (b ++ textB f.Kind) ≤ (4294967280 : Nat) ∧
    I_impl_putFact_3 b f (b ++ textB f.Kind ++ numB x0, (0 : Int), PUnit.unit) ∧
      ∀ (y : List Int × Int × PUnit),
        let x1 : List Int := valB (List.getD f.Fields (Int.toNat y.2.1) zVal);
        I_impl_putFact_3 b f y → bif decide (y.2.1 < x0) then (0 : Int) ≤ y.2.1 ∧ Int.toNat y.2.1 < List.length f.Fields ∧ List.length y.1 + List.length x1 ≤ (4294967280 : Nat) ∧ I_impl_putFact_3 b f (y.1 ++ x1, IntKind.wrap IntKind.i64 (y.2.1 + (1 : Int)), PUnit.unit) ∧ μ_impl_putFact_3 b f (y.1 ++ x1, IntKind.wrap IntKind.i64 (y.2.1 + (1 : Int)), PUnit.unit) < μ_impl_putFact_3 b f y else Lf [DV.one (Cell.sl Cd.byte y.1)] [DV.one (Cell.sl Cd.byte (b ++ factB f))]) := by kernel_rfl
theorem ok_impl_putFact : Holds EE (41, con_impl_putFact) := by
  refine holds_of EE_ok Go.Proofs.Try.func41 con_impl_putFact (by kernel_rfl) use_impl_putFact (all_cons ok_impl_putText (all_cons ok_impl_putNum (all_cons ok_impl_putVal all_nil))) ann_impl_putFact (fun x hp hb => ?_)
  obtain ⟨b, f⟩ := x
  have hb_b : BdDV (U := UU) (.one (.sl .byte b)) := hb _ (List.mem_cons_self)
  have hl_b : b.length ≤ 9223372036854775807 := Bd.len hb_b
  have hb_f : BdDV (U := UU) (.agg [.lit (.string f.Kind), .sl .eVal f.Fields]) := hb _ (List.mem_cons_of_mem _ (List.mem_cons_self))
  have hl_f_Kind : f.Kind.size ≤ 9223372036854775807 := Bd.str (hb_f _ (by simp))
  have hl_f_Fields : f.Fields.length ≤ 9223372036854775807 := Bd.len (U := UU) (τ := .eVal) (xs := f.Fields) (hb_f _ (by simp))
  have hp0 : b.length + (factB f).length ≤ 4294967280 := hp _ (List.mem_cons_self)
  clear hp hb
  rw [vc_impl_putFact b f]
  dsimp only
  have hl : (factB f).length = (textB f.Kind).length + (numB f.Fields.length).length + (valsB f.Fields).length := by simp only [factB, List.length_append]
  have hn := numB_len f.Fields.length
  refine ⟨by omega, by simp only [List.length_append]; omega, ⟨by omega, by omega, by simp only [factB, List.append_assoc]; rfl⟩, ?_⟩
  rintro ⟨out, i, ⟨⟩⟩ ⟨h1, h2, hR⟩
  simp only
  have hlen := congrArg List.length hR
  rw [List.length_append, List.length_append] at hlen
  refine if_cond (fun hc => ?_) (fun hc => ?_)
  · have hc : i < f.Fields.length := of_decide_eq_true hc
    rw [valsB_step f.Fields h1 hc] at hR hlen
    rw [List.length_append] at hlen
    rw [wrap_i64 (by omega) (by omega)]
    refine ⟨h1, by omega, by omega, ⟨by omega, by omega, ?_⟩, ?_⟩
    · rw [List.append_assoc]; exact hR
    · simp only [μ_impl_putFact_3]; omega
  · have hc : ¬ i < f.Fields.length := of_decide_eq_false hc
    refine Lf_sl ?_
    rw [← hR, List.drop_eq_nil_of_le (by omega)]
    exact (List.append_nil _).symm
theorem opB_ok {o : DOp} (h : opOk o = true) : opB o = numB o.Kind ++ textB o.Name ++ textB o.Text ++ (if o.Kind = 3 then numB 1 ++ factB o.F else numB 0) ++ textB o.Key ++ flagB o.Ok ++ (if o.Kind = 4 then numB 1 ++ valB o.V else numB 0) ++ numB o.N := by rw [opB, if_pos h]
theorem kind34 (o : DOp) : ((o.Kind = 3) = True ∧ (o.Kind = 4) = False) ∨ ((o.Kind = 3) = False ∧ (o.Kind = 4) = True) ∨ ((o.Kind = 3) = False ∧ (o.Kind = 4) = False) := by
  by_cases h3 : o.Kind = 3
  · exact Or.inl ⟨eq_true h3, eq_false (by omega)⟩
  · by_cases h4 : o.Kind = 4
    · exact Or.inr (Or.inl ⟨eq_false h3, eq_true h4⟩)
    · exact Or.inr (Or.inr ⟨eq_false h3, eq_false h4⟩)
def con_spec_PutOp : Con UU where
  α := DOp
  md := [.ro]
  of := fun | [.agg [.lit (.int .i64 a0), .lit (.string a1), .lit (.string a2), .lit (.string a3), .sl .eVal a4, .lit (.string a5), .lit (.bool a6), .lit (.int .i64 a7), .lit (.int .i64 a8), .lit (.string a9), .lit (.int .i64 a10)]] => some ⟨a0, a1, a2, ⟨a3, a4⟩, a5, a6, ⟨a7, a8, a9⟩, a10⟩ | _ => none
  ds := fun o => [.agg [.lit (.int .i64 o.Kind), .lit (.string o.Name), .lit (.string o.Text), .lit (.string o.F.Kind), .sl .eVal o.F.Fields, .lit (.string o.Key), .lit (.bool o.Ok), .lit (.int .i64 o.V.K), .lit (.int .i64 o.V.N), .lit (.string o.V.S), .lit (.int .i64 o.N)]]
  pre := fun o => [(opB o).length ≤ 4294967200]
  res := fun o => ⟨[.one (.sl .byte (opB o))], true, []⟩
  law := by intro l x h; (try simp only at h); split at h <;> cases h; rfl
def ann_spec_PutOp : con_spec_PutOp.α → Nat → Option (Ann UU) := fun o => annL []
def use_spec_PutOp : List (FuncId × Con UU) := [(15, con_spec_OpOk), (85, con_spec_PutText), (86, con_spec_PutNum), (87, con_spec_PutFact), (88, con_spec_PutVal)]
theorem vc_spec_PutOp (o : DOp) : goal EE use_spec_PutOp Go.Proofs.Try.f43 con_spec_PutOp ann_spec_PutOp o = (let x0 : List Int := [] ++ numB o.Kind ++ textB o.Name ++ textB o.Text ++ numB (1 : Int) ++ factB o.F ++ textB o.Key ++ numB (1 : Int);
let x1 : List Int := [] ++ numB o.Kind ++ textB o.Name ++ textB o.Text ++ numB (1 : Int) ++ factB o.F ++ textB o.Key ++ numB (0 : Int);
let x2 : List Int := [] ++ numB o.Kind ++ textB o.Name ++ textB o.Text ++ numB (0 : Int) ++ textB o.Key ++ numB (0 : Int);
let x3 : List Int := [] ++ numB o.Kind ++ textB o.Name ++ textB o.Text ++ numB (0 : Int) ++ textB o.Key ++ numB (1 : Int);
let x4 : List Int := [] ++ numB o.Kind ++ textB o.Name ++ textB o.Text;
let x5 : List Int := x3 ++ numB (1 : Int) ++ valB o.V;
let x6 : List Int := x2 ++ numB (1 : Int) ++ valB o.V;
let x7 : List Int := x0 ++ numB (1 : Int) ++ valB o.V;
let x8 : List Int := x1 ++ numB (1 : Int) ++ valB o.V;
let x9 : List Int := x4 ++ numB (1 : Int) ++ factB o.F;
let x10 : Bool := o.Kind == (4 : Int);
let x11 : Nat := List.length (valB o.V);
let x12 : List Int := [] ++ numB o.Kind;
let x13 : List Int := x1 ++ numB (0 : Int);
let x14 : List Int := x3 ++ numB (0 : Int);
let x15 : List Int := x4 ++ numB (0 : Int);
let x16 : List Int := x2 ++ numB (0 : Int);
let x17 : List Int := x0 ++ numB (0 : Int);
bif !opOk o then Lf [DV.one (Cell.sl Cd.byte [])] [DV.one (Cell.sl Cd.byte (opB o))] else (0 : Nat) ≤ (4294967280 : Nat) ∧ List.length x12 + List.length (textB o.Name) ≤ (4294967280 : Nat) ∧ List.length (x12 ++ textB o.Name) + List.length (textB o.Text) ≤ (4294967280 : Nat) ∧ bif o.Kind == (3 : Int) then List.length x4 ≤ (4294967280 : Nat) ∧ List.length (x4 ++ numB (1 : Int)) + List.length (factB o.F) ≤ (4294967280 : Nat) ∧ List.length x9 + List.length (textB o.Key) ≤ (4294967280 : Nat) ∧ bif o.Ok then List.length (x9 ++ textB o.Key) ≤ (4294967280 : Nat) ∧ bif x10 then List.length x0 ≤ (4294967280 : Nat) ∧ List.length (x0 ++ numB (1 : Int)) + x11 ≤ (4294967280 : Nat) ∧ List.length x7 ≤ (4294967280 : Nat) ∧ Lf [DV.one (Cell.sl Cd.byte (x7 ++ numB o.N))] [DV.one (Cell.sl Cd.byte (opB o))] else List.length x0 ≤ (4294967280 : Nat) ∧ List.length x17 ≤ (4294967280 : Nat) ∧ Lf [DV.one (Cell.sl Cd.byte (x17 ++ numB o.N))] [DV.one (Cell.sl Cd.byte (opB o))] else List.length (x9 ++ textB o.Key) ≤ (4294967280 : Nat) ∧ bif x10 then List.length x1 ≤ (4294967280 : Nat) ∧ List.length (x1 ++ numB (1 : Int)) + x11 ≤ (4294967280 : Nat) ∧ List.length x8 ≤ (4294967280 : Nat) ∧ Lf [DV.one (Cell.sl Cd.byte (x8 ++ numB o.N))] [DV.one (Cell.sl Cd.byte (opB o))] else List.length x1 ≤ (4294967280 : Nat) ∧ List.length x13 ≤ (4294967280 : Nat) ∧ Lf [DV.one (Cell.sl Cd.byte (x13 ++ numB o.N))] [DV.one (Cell.sl Cd.byte (opB o))] else List.length x4 ≤ (4294967280 : Nat) ∧ List.length x15 + List.length (textB o.Key) ≤ (4294967280 : Nat) ∧ bif o.Ok then List.length (x15 ++ textB o.Key) ≤ (4294967280 : Nat) ∧ bif x10 then List.length x3 ≤ (4294967280 : Nat) ∧ List.length (x3 ++ numB (1 : Int)) + x11 ≤ (4294967280 : Nat) ∧ List.length x5 ≤ (4294967280 : Nat) ∧ Lf [DV.one (Cell.sl Cd.byte (x5 ++ numB o.N))] [DV.one (Cell.sl Cd.byte (opB o))] else List.length x3 ≤ (4294967280 : Nat) ∧ List.length x14 ≤ (4294967280 : Nat) ∧ Lf [DV.one (Cell.sl Cd.byte (x14 ++ numB o.N))] [DV.one (Cell.sl Cd.byte (opB o))] else List.length (x15 ++ textB o.Key) ≤ (4294967280 : Nat) ∧ bif x10 then List.length x2 ≤ (4294967280 : Nat) ∧ List.length (x2 ++ numB (1 : Int)) + x11 ≤ (4294967280 : Nat) ∧ List.length x6 ≤ (4294967280 : Nat) ∧ Lf [DV.one (Cell.sl Cd.byte (x6 ++ numB o.N))] [DV.one (Cell.sl Cd.byte (opB o))] else List.length x2 ≤ (4294967280 : Nat) ∧ List.length x16 ≤ (4294967280 : Nat) ∧ Lf [DV.one (Cell.sl Cd.byte (x16 ++ numB o.N))] [DV.one (Cell.sl Cd.byte (opB o))]) := by kernel_rfl
theorem ok_spec_PutOp : Holds EE (43, con_spec_PutOp) := by
  refine holds_of EE_ok Go.Proofs.Try.func43 con_spec_PutOp (by kernel_rfl) use_spec_PutOp (all_cons ok_spec_OpOk (all_cons ok_spec_PutText (all_cons ok_spec_PutNum (all_cons ok_spec_PutFact (all_cons ok_spec_PutVal all_nil))))) ann_spec_PutOp (fun (o : DOp) hp hb => ?_)
  have hb_o : BdDV (U := UU) (.agg [.lit (.int .i64 o.Kind), .lit (.string o.Name), .lit (.string o.Text), .lit (.string o.F.Kind), .sl .eVal o.F.Fields, .lit (.string o.Key), .lit (.bool o.Ok), .lit (.int .i64 o.V.K), .lit (.int .i64 o.V.N), .lit (.string o.V.S), .lit (.int .i64 o.N)]) := hb _ (List.mem_cons_self)
  have hl_o_Name : o.Name.size ≤ 9223372036854775807 := Bd.str (hb_o _ (by simp))
  have hl_o_Text : o.Text.size ≤ 9223372036854775807 := Bd.str (hb_o _ (by simp))
  have hl_o_F_Kind : o.F.Kind.size ≤ 9223372036854775807 := Bd.str (hb_o _ (by simp))
  have hl_o_F_Fields : o.F.Fields.length ≤ 9223372036854775807 := Bd.len (U := UU) (τ := .eVal) (xs := o.F.Fields) (hb_o _ (by simp))
  have hl_o_Key : o.Key.size ≤ 9223372036854775807 := Bd.str (hb_o _ (by simp))
  have hl_o_V_S : o.V.S.size ≤ 9223372036854775807 := Bd.str (hb_o _ (by simp))
  have hp0 : (opB o).length ≤ 4294967200 := hp _ (List.mem_cons_self)
  clear hp hb
  rw [vc_spec_PutOp o]
  dsimp only
  refine if_cond (fun h => Lf_sl (show opB o = [] from if_neg (by simpa using h)).symm) (fun h => ?_)
  have h : opOk o = true := by simpa using h
  have eo := opB_ok h
  rw [eo] at hp0 ⊢
  have e31 : (o.Kind == 3) = decide (o.Kind = 3) := rfl
  have e41 : (o.Kind == 4) = decide (o.Kind = 4) := rfl
  rcases kind34 o with ⟨h3, h4⟩ | ⟨h3, h4⟩ | ⟨h3, h4⟩ <;> cases ho : o.Ok
  all_goals
    simp only [e31, e41, h3, h4, ho, flagB, decide_true, decide_false, cond_true, cond_false, if_true, if_false, List.nil_append, List.length_append, List.length_nil, Bool.false_eq_true] at hp0 ⊢
    repeat' (first | refine And.intro (by omega) ?_ | fail)
    exact Lf_sl (by simp only [List.append_assoc])
def con_impl_PutOp : Con UU where
  α := DOp
  md := [.ro]
  of := fun | [.agg [.lit (.int .i64 a0), .lit (.string a1), .lit (.string a2), .lit (.string a3), .sl .eVal a4, .lit (.string a5), .lit (.bool a6), .lit (.int .i64 a7), .lit (.int .i64 a8), .lit (.string a9), .lit (.int .i64 a10)]] => some ⟨a0, a1, a2, ⟨a3, a4⟩, a5, a6, ⟨a7, a8, a9⟩, a10⟩ | _ => none
  ds := fun o => [.agg [.lit (.int .i64 o.Kind), .lit (.string o.Name), .lit (.string o.Text), .lit (.string o.F.Kind), .sl .eVal o.F.Fields, .lit (.string o.Key), .lit (.bool o.Ok), .lit (.int .i64 o.V.K), .lit (.int .i64 o.V.N), .lit (.string o.V.S), .lit (.int .i64 o.N)]]
  pre := fun o => [(opB o).length ≤ 4294967200]
  res := fun o => ⟨[.one (.sl .byte (opB o))], true, []⟩
  law := by intro l x h; (try simp only at h); split at h <;> cases h; rfl
def ann_impl_PutOp : con_impl_PutOp.α → Nat → Option (Ann UU) := fun o => annL []
def use_impl_PutOp : List (FuncId × Con UU) := [(16, con_impl_OpOk), (38, con_impl_putText), (39, con_impl_putNum), (41, con_impl_putFact), (42, con_impl_putVal), (40, con_impl_putFlag)]
theorem vc_impl_PutOp (o : DOp) : goal EE use_impl_PutOp Go.Proofs.Try.f10 con_impl_PutOp ann_impl_PutOp o = (let x0 : List Int := [] ++ numB o.Kind ++ textB o.Name ++ textB o.Text ++ flagB (o.Kind == (3 : Int)) ++ factB o.F ++ textB o.Key ++ flagB o.Ok ++ flagB (o.Kind == (4 : Int));
let x1 : List Int := [] ++ numB o.Kind ++ textB o.Name ++ textB o.Text ++ flagB (o.Kind == (3 : Int)) ++ textB o.Key ++ flagB o.Ok ++ flagB (o.Kind == (4 : Int));
let x2 : List Int := [] ++ numB o.Kind ++ textB o.Name ++ textB o.Text ++ flagB (o.Kind == (3 : Int));
let x3 : List Int := [] ++ numB o.Kind ++ textB o.Name;
let x4 : List Int := x2 ++ factB o.F ++ textB o.Key;
let x5 : Bool := o.Kind == (4 : Int);
bif !opOk o then Lf [DV.one (Cell.sl Cd.byte [])] [DV.one (Cell.sl Cd.byte (opB o))] else (0 : Nat) ≤ (4294967280 : Nat) ∧ List.length ([] ++ numB o.Kind) + List.length (textB o.Name) ≤ (4294967280 : Nat) ∧ List.length x3 + List.length (textB o.Text) ≤ (4294967280 : Nat) ∧ List.length (x3 ++ textB o.Text) + List.length (flagB (o.Kind == (3 : Int))) ≤ (4294967280 : Nat) ∧ bif o.Kind == (3 : Int) then List.length x2 + List.length (factB o.F) ≤ (4294967280 : Nat) ∧ List.length (x2 ++ factB o.F) + List.length (textB o.Key) ≤ (4294967280 : Nat) ∧ List.length x4 + List.length (flagB o.Ok) ≤ (4294967280 : Nat) ∧ List.length (x4 ++ flagB o.Ok) + List.length (flagB x5) ≤ (4294967280 : Nat) ∧ bif x5 then List.length x0 + List.length (valB o.V) ≤ (4294967280 : Nat) ∧ List.length (x0 ++ valB o.V) ≤ (4294967280 : Nat) ∧ Lf [DV.one (Cell.sl Cd.byte (x0 ++ valB o.V ++ numB o.N))] [DV.one (Cell.sl Cd.byte (opB o))] else List.length x0 ≤ (4294967280 : Nat) ∧ Lf [DV.one (Cell.sl Cd.byte (x0 ++ numB o.N))] [DV.one (Cell.sl Cd.byte (opB o))] else List.length x2 + List.length (textB o.Key) ≤ (4294967280 : Nat) ∧ List.length (x2 ++ textB o.Key) + List.length (flagB o.Ok) ≤ (4294967280 : Nat) ∧ List.length (x2 ++ textB o.Key ++ flagB o.Ok) + List.length (flagB x5) ≤ (4294967280 : Nat) ∧ bif x5 then List.length x1 + List.length (valB o.V) ≤ (4294967280 : Nat) ∧ List.length (x1 ++ valB o.V) ≤ (4294967280 : Nat) ∧ Lf [DV.one (Cell.sl Cd.byte (x1 ++ valB o.V ++ numB o.N))] [DV.one (Cell.sl Cd.byte (opB o))] else List.length x1 ≤ (4294967280 : Nat) ∧ Lf [DV.one (Cell.sl Cd.byte (x1 ++ numB o.N))] [DV.one (Cell.sl Cd.byte (opB o))]) := by kernel_rfl
theorem ok_impl_PutOp : Holds EE (10, con_impl_PutOp) := by
  refine holds_of EE_ok Go.Proofs.Try.func10 con_impl_PutOp (by kernel_rfl) use_impl_PutOp (all_cons ok_impl_OpOk (all_cons ok_impl_putText (all_cons ok_impl_putNum (all_cons ok_impl_putFact (all_cons ok_impl_putVal (all_cons ok_impl_putFlag all_nil)))))) ann_impl_PutOp (fun (o : DOp) hp hb => ?_)
  have hb_o : BdDV (U := UU) (.agg [.lit (.int .i64 o.Kind), .lit (.string o.Name), .lit (.string o.Text), .lit (.string o.F.Kind), .sl .eVal o.F.Fields, .lit (.string o.Key), .lit (.bool o.Ok), .lit (.int .i64 o.V.K), .lit (.int .i64 o.V.N), .lit (.string o.V.S), .lit (.int .i64 o.N)]) := hb _ (List.mem_cons_self)
  have hl_o_Name : o.Name.size ≤ 9223372036854775807 := Bd.str (hb_o _ (by simp))
  have hl_o_Text : o.Text.size ≤ 9223372036854775807 := Bd.str (hb_o _ (by simp))
  have hl_o_F_Kind : o.F.Kind.size ≤ 9223372036854775807 := Bd.str (hb_o _ (by simp))
  have hl_o_F_Fields : o.F.Fields.length ≤ 9223372036854775807 := Bd.len (U := UU) (τ := .eVal) (xs := o.F.Fields) (hb_o _ (by simp))
  have hl_o_Key : o.Key.size ≤ 9223372036854775807 := Bd.str (hb_o _ (by simp))
  have hl_o_V_S : o.V.S.size ≤ 9223372036854775807 := Bd.str (hb_o _ (by simp))
  have hp0 : (opB o).length ≤ 4294967200 := hp _ (List.mem_cons_self)
  clear hp hb
  rw [vc_impl_PutOp o]
  dsimp only
  refine if_cond (fun h => Lf_sl (show opB o = [] from if_neg (by simpa using h)).symm) (fun h => ?_)
  have h : opOk o = true := by simpa using h
  have eo := opB_ok h
  rw [eo] at hp0 ⊢
  have e31 : (o.Kind == 3) = decide (o.Kind = 3) := rfl
  have e41 : (o.Kind == 4) = decide (o.Kind = 4) := rfl
  rcases kind34 o with ⟨h3, h4⟩ | ⟨h3, h4⟩ | ⟨h3, h4⟩ <;> cases ho : o.Ok
  all_goals
    simp only [e31, e41, h3, h4, ho, flagB, decide_true, decide_false, cond_true, cond_false, if_true, if_false, List.nil_append, List.length_append, List.length_nil, Bool.false_eq_true] at hp0 ⊢
    repeat' (first | refine And.intro (by omega) ?_ | fail)
    exact Lf_sl (by simp only [List.append_assoc])
def numMax (n : Int) : Prop := -1000000000 ≤ n ∧ n ≤ 1000000000
instance (n : Int) : Decidable (numMax n) := inferInstanceAs (Decidable (_ ∧ _))
def unzig (m : Int) : Int := if m % 2 = 1 then -(m / 2) - 1 else m / 2
def gLoop (b : List Int) (at0 : Int) : Nat → Int → Int → Int × Int × Bool
  | 0, _, _ => (0, 0, false)
  | j + 1, k, m => if at0 + k < b.length then
      (if 127 < List.getD b (at0 + k).toNat 0 then gLoop b at0 j (k + 1) (m + List.getD b (at0 + k).toNat 0 % 128 * (2 ^ (7 * k).toNat : Nat))
       else if (0 < k ∧ List.getD b (at0 + k).toNat 0 = 0) ∨ ¬ numMax (unzig (m + List.getD b (at0 + k).toNat 0 % 128 * (2 ^ (7 * k).toNat : Nat))) then (0, 0, false)
       else (unzig (m + List.getD b (at0 + k).toNat 0 % 128 * (2 ^ (7 * k).toNat : Nat)), at0 + k + 1, true))
    else (0, 0, false)
def gNum (b : List Int) (at0 : Int) : Int × Int × Bool := if 0 ≤ at0 then gLoop b at0 5 0 0 else (0, 0, false)
def bytesOk (b : List Int) : Prop := ∀ x ∈ b, 0 ≤ x ∧ x ≤ 255
theorem pow_step {k : Int} (h : 0 ≤ k) : ((2 ^ (7 * (k + 1)).toNat : Nat) : Int) = 128 * ((2 ^ (7 * k).toNat : Nat) : Int) := by
  have e : (7 * (k + 1)).toNat = (7 * k).toNat + 7 := by omega
  rw [e, Nat.pow_add]
  push_cast
  omega
theorem drop_get {b : List Int} {i : Int} (h0 : 0 ≤ i) (h : i < b.length) : b.drop i.toNat = List.getD b i.toNat 0 :: b.drop (i + 1).toNat := drop_step b 0 h0 h
theorem gLoop_canon {b : List Int} {at0 : Int} (hb : bytesOk b) (h0 : 0 ≤ at0) : ∀ (j : Nat) (k m n nx : Int), 0 ≤ k → gLoop b at0 j k m = (n, nx, true) →
    ∃ u : Nat, (0 < k → u ≠ 0) ∧ b.drop (at0 + k).toNat = vi u ++ b.drop nx.toNat ∧ at0 + k < nx ∧ nx ≤ b.length ∧ n = unzig (m + u * (2 ^ (7 * k).toNat : Nat)) ∧ numMax n
  | 0, k, m, n, nx, hk, h => by simp [gLoop] at h
  | j + 1, k, m, n, nx, hk, h => by
    rw [gLoop] at h
    split at h
    rotate_left
    · simp at h
    rename_i hlt
    have hc := hb _ (getD_mem b (0 : Int) (i := at0 + k) (by omega) hlt)
    have hd := drop_get (b := b) (i := at0 + k) (by omega) hlt
    generalize List.getD b (at0 + k).toNat 0 = c at h hc hd
    split at h
    · rename_i hbig
      obtain ⟨u, h1, h2, h3, h4, h5, h6⟩ := gLoop_canon hb h0 j (k + 1) _ n nx (by omega) h
      have hu : u ≠ 0 := h1 (by omega)
      refine ⟨(c % 128).toNat + 128 * u, fun _ => by omega, ?_, by omega, h4, ?_, h6⟩
      · have hv : vi ((c % 128).toNat + 128 * u) = c :: vi u := by
          have e0 : (c % 128).toNat + 128 * u = (c % 128 + 128 * u).toNat := by omega
          rw [e0, vi_big (by omega) (by omega)]
          have e1 : (c % 128 + 128 * (u : Int)) % 128 + 128 = c := by omega
          have e2 : ((c % 128 + 128 * (u : Int)) / 128).toNat = u := by omega
          rw [e1, e2]
        rw [hd, show at0 + k + 1 = at0 + (k + 1) by omega, h2, hv]; rfl
      · rw [h5, pow_step hk]
        congr 1
        have e3 : (((c % 128).toNat + 128 * u : Nat) : Int) = c % 128 + 128 * u := by omega
        rw [e3, Int.add_mul, Int.mul_assoc, Int.add_assoc]
        congr 2
        rw [← Int.mul_assoc, ← Int.mul_assoc]
        congr 1
        omega
    · rename_i hsm
      split at h
      · simp at h
      · rename_i hok
        simp only [Prod.mk.injEq, and_true] at h
        obtain ⟨rfl, rfl⟩ := h
        rw [not_or, Decidable.not_not] at hok
        have e : c % 128 = c := by omega
        refine ⟨c.toNat, fun hk0 e0 => hok.1 ⟨hk0, by omega⟩, ?_, by omega, by omega, ?_, hok.2⟩
        · rw [hd, vi_small (by omega) (by omega)]; rfl
        · have : ((c.toNat : Nat) : Int) = c := by omega
          rw [this, e]
theorem gLoop_round {b : List Int} {at0 : Int} (h0 : 0 ≤ at0) : ∀ (j : Nat) (k m : Int) (u : Nat) (r : List Int), (0 < j ∨ 0 < k) → 0 ≤ k → (0 < k → u ≠ 0) → u < 128 ^ j → b.drop (at0 + k).toNat = vi u ++ r → numMax (unzig (m + u * (2 ^ (7 * k).toNat : Nat))) →
    gLoop b at0 j k m = (unzig (m + u * (2 ^ (7 * k).toNat : Nat)), at0 + k + (vi u).length, true)
  | 0, k, m, u, r, hz, hk, hu, hj, hd, hn => by
    have hu0 : u = 0 := by simpa using hj
    exact absurd hu0 (hu (by omega))
  | j + 1, k, m, u, r, hz, hk, hu, hj, hd, hn => by
    have hlen : at0 + k < b.length := by
      have := congrArg List.length hd
      have hp : 0 < (vi u).length := by rw [vi]; split <;> simp
      rw [List.length_drop, List.length_append] at this
      omega
    have hg := drop_get (b := b) (i := at0 + k) (by omega) hlen
    rw [hg] at hd
    rw [gLoop, if_pos hlen]
    generalize List.getD b (at0 + k).toNat 0 = c at hd ⊢
    rw [vi] at hd
    by_cases hsm : u ≤ 127
    · rw [if_pos hsm] at hd
      simp only [List.cons_append, List.nil_append, List.cons.injEq] at hd
      obtain ⟨rfl, hd⟩ := hd
      have e : ((u : Nat) : Int) % 128 = u := by omega
      rw [if_neg (by omega), e, if_neg (by rw [not_or, Decidable.not_not]; exact ⟨fun hh => hu hh.1 (by omega), hn⟩), vi, if_pos hsm]
      simp
    · rw [if_neg hsm] at hd
      simp only [List.cons_append, List.cons.injEq] at hd
      obtain ⟨rfl, hd⟩ := hd
      have e1 : (((u % 128 + 128 : Nat) : Int) % 128) = ((u % 128 : Nat) : Int) := by omega
      have e4 : ((u : Nat) : Int) = ((u % 128 : Nat) : Int) + 128 * ((u / 128 : Nat) : Int) := by omega
      have key : m + ((u % 128 : Nat) : Int) * ((2 ^ (7 * k).toNat : Nat) : Int) + ((u / 128 : Nat) : Int) * ((2 ^ (7 * (k + 1)).toNat : Nat) : Int) = m + (u : Int) * ((2 ^ (7 * k).toNat : Nat) : Int) := by
        rw [pow_step hk]
        conv => rhs; rw [e4]
        rw [Int.add_mul, Int.add_assoc]
        congr 2
        rw [← Int.mul_assoc]
        congr 1
        omega
      have hvl : (vi u).length = (vi (u / 128)).length + 1 := by
        conv => lhs; rw [vi, if_neg hsm]
        simp
      have hjj : u / 128 < 128 ^ j := by
        rw [Nat.pow_succ] at hj
        exact Nat.div_lt_of_lt_mul (by omega)
      have := gLoop_round (b := b) h0 j (k + 1) (m + ((u % 128 : Nat) : Int) * ((2 ^ (7 * k).toNat : Nat) : Int)) (u / 128) r (.inr (by omega)) (by omega) (fun _ => by omega) hjj (by rw [show at0 + (k + 1) = at0 + k + 1 by omega]; exact hd) (by rw [key]; exact hn)
      rw [key] at this
      rw [if_pos (by omega), e1, this, hvl]
      simp only [Prod.mk.injEq, true_and, and_true]
      omega
theorem unzig_zig {n : Int} (h : numMax n) : unzig (zigI n) = n ∧ clampI n = n := by
  unfold numMax at h
  have hc : clampI n = n := by unfold clampI; split <;> split <;> omega
  refine ⟨?_, hc⟩
  unfold unzig zigI
  rw [hc]; split <;> split <;> omega
theorem gNum_canon {b : List Int} {at0 n nx : Int} (hb : bytesOk b) (h : gNum b at0 = (n, nx, true)) : 0 ≤ at0 ∧ b.drop at0.toNat = numB n ++ b.drop nx.toNat ∧ at0 < nx ∧ nx ≤ b.length ∧ numMax n := by
  unfold gNum at h
  split at h
  · rename_i h0
    obtain ⟨u, h1, h2, h3, h4, h5, h6⟩ := gLoop_canon hb h0 5 0 0 n nx (by omega) h
    have e : at0 + 0 = at0 := by omega
    simp only [e] at h2 h3
    refine ⟨h0, ?_, h3, h4, h6⟩
    have hu : unzig (u : Int) = n := by
      rw [h5]
      simp
    have hz : zigI n = u := by
      have hc := (unzig_zig h6).2
      unfold zigI
      rw [hc, ← hu]
      unfold unzig
      split <;> split <;> omega
    rw [numB, hz]
    exact h2
  · simp at h
theorem gNum_round {b : List Int} {at0 n : Int} {r : List Int} (h0 : 0 ≤ at0) (hn : numMax n) (hd : b.drop at0.toNat = numB n ++ r) : gNum b at0 = (n, at0 + (numB n).length, true) := by
  have hz := zigI_le n
  have e0 : (((zigI n).toNat : Nat) : Int) = zigI n := by omega
  have hu : unzig (0 + (((zigI n).toNat : Nat) : Int) * ((2 ^ (7 * (0 : Int)).toNat : Nat) : Int)) = n := by
    rw [e0]; simp [(unzig_zig hn).1]
  have := gLoop_round (b := b) h0 5 0 0 (zigI n).toNat r (.inl (by omega)) (by omega) (by omega) (by omega) (by simpa [numB] using hd) (by rw [hu]; exact hn)
  rw [hu] at this
  rw [gNum, if_pos h0, this]
  simp [numB]
theorem drop_app {b p r : List Int} {i : Int} (h0 : 0 ≤ i) (h : b.drop i.toNat = p ++ r) : b.drop (i + p.length).toNat = r := by
  have e : (i + p.length).toNat = i.toNat + p.length := by omega
  rw [e, ← List.drop_drop, h, List.drop_left]
theorem Bd.u8 {n : Int} (h : Bd (U := UU) (.lit (.int .u8 n))) : 0 ≤ n ∧ n ≤ 255 := by
  cases h with
  | lit _ h => exact h.2
theorem bytes_of {b : List Int} (h : BdDV (U := UU) (.one (.sl Cd.byte b))) : bytesOk b := fun x hx => Bd.u8 (Bd.row (U := UU) (τ := Cd.byte) h hx (c := .lit (.int .u8 x)) List.mem_cons_self)
theorem pow_le {k : Int} (h : 0 ≤ k ∧ k ≤ 4) : 1 ≤ ((2 ^ (7 * k).toNat : Nat) : Int) ∧ ((2 ^ (7 * k).toNat : Nat) : Int) ≤ 268435456 := by
  have : k = 0 ∨ k = 1 ∨ k = 2 ∨ k = 3 ∨ k = 4 := by omega
  rcases this with rfl | rfl | rfl | rfl | rfl <;> decide
theorem u64_small {n : Int} (h : 0 ≤ n) (h' : n ≤ 1000) : IntKind.wrap .u64 n = n := by
  simp only [IntKind.wrap]
  simp [IntKind.bits, IntKind.signed]
  omega
theorem orStep {k m c : Int} (hk : 0 ≤ k ∧ k ≤ 4) (hm : 0 ≤ m ∧ m < ((2 ^ (7 * k).toNat : Nat) : Int)) (hc : 0 ≤ c ∧ c ≤ 255) :
    IntKind.wrap .i64 (((BitVec.ofInt (IntKind.bits .i64) m ||| BitVec.ofInt (IntKind.bits .i64) (IntKind.wrap .i64 (IntKind.wrap .i64 (((BitVec.ofInt (IntKind.bits .i64) c &&& BitVec.ofInt (IntKind.bits .i64) 127).toNat : Nat) : Int) * (2 : Int) ^ min (Int.toNat (IntKind.wrap .u64 (IntKind.wrap .i64 (7 * k)))) (IntKind.bits .i64)))).toNat : Nat) : Int) = m + c % 128 * ((2 ^ (7 * k).toNat : Nat) : Int)
      ∧ 0 ≤ m + c % 128 * ((2 ^ (7 * k).toNat : Nat) : Int) ∧ m + c % 128 * ((2 ^ (7 * k).toNat : Nat) : Int) < ((2 ^ (7 * (k + 1)).toNat : Nat) : Int) ∧ m + c % 128 * ((2 ^ (7 * k).toNat : Nat) : Int) ≤ 34359738368 := by
  have hp := pow_le hk
  have hps := pow_step hk.1
  rw [and127 (by omega) (by omega), wrap_i64 (n := 7 * k) (by omega) (by omega), u64_small (by omega) (by omega)]
  have e1 : min (7 * k).toNat (IntKind.bits .i64) = (7 * k).toNat := by show min _ 64 = _; omega
  have e2 : ((2 : Int) ^ (7 * k).toNat) = ((2 ^ (7 * k).toNat : Nat) : Int) := by norm_cast
  rw [e1, e2]
  have hmod : (c % 128 * ((2 ^ (7 * k).toNat : Nat) : Int)) % ((2 ^ (7 * k).toNat : Nat) : Int) = 0 := Int.mul_emod_left _ _
  have hb1 : 0 ≤ c % 128 * ((2 ^ (7 * k).toNat : Nat) : Int) := Int.mul_nonneg (by omega) (by omega)
  have hb2 : c % 128 * ((2 ^ (7 * k).toNat : Nat) : Int) ≤ 127 * ((2 ^ (7 * k).toNat : Nat) : Int) := Int.mul_le_mul_of_nonneg_right (by omega) (by omega)
  rw [wrap_i64 (n := c % 128 * ((2 ^ (7 * k).toNat : Nat) : Int)) (by omega) (by omega)]
  refine ⟨or_i64 hm.1 hb1 (7 * k).toNat (by omega) hm.2 hmod (by omega), by omega, by rw [hps]; omega, by omega⟩
theorem gLoop_end {b : List Int} {pos k m : Int} {j : Nat} (h : ¬ (pos + k < b.length)) : gLoop b pos j k m = (0, 0, false) := by
  cases j with
  | zero => rfl
  | succ j => rw [gLoop, if_neg h]
theorem gNum_neg {b : List Int} {pos : Int} (h : ¬ 0 ≤ pos) : gNum b pos = (0, 0, false) := if_neg h
end
end AM
