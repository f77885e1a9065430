/- Functions of the program with their contracts: put together by gen/link.py for FnExactPutOp. -/
import Derived.Test.YtdpgbnahacdkeaaAmLib
import Derived.Test.YtdpgbnahacdkeaaAmModels
namespace AM
open Go
set_option linter.unusedVariables false
set_option linter.unusedSimpArgs false
set_option maxRecDepth 100000
noncomputable section
def smallB (b : Int) : Bool := decide (97 ≤ b ∧ b ≤ 122)
def wordB (b : Int) : Bool := smallB b || decide (48 ≤ b ∧ b ≤ 57) || decide (b = 95)
def wordS (s : ByteArray) : Bool := (bs s).all (byteP wordB)
def nameOk (s : ByteArray) : Bool := decide (1 ≤ s.size ∧ s.size ≤ 12) && smallB (List.getD (bs s) 0 0).toNat && wordS s
def valOk (v : DVal) : Bool := bif decide (v.K = 1) then decide (-1000000000 ≤ v.N ∧ v.N ≤ 1000000000) && decide (v.S = noBytes) else bif decide (v.K = 2) then decide (v.N = 0) && decide (v.S.size ≤ 20) && wordS v.S else false
def factOk (f : DFact) : Bool := nameOk f.Kind && decide (f.Fields.length ≤ 5) && f.Fields.all valOk
def con_impl_inRange : Con UU where
  α := Int × Int × Int
  md := [.ro, .ro, .ro]
  of := fun | [.one (.lit (.int .i64 a0)), .one (.lit (.int .i64 a1)), .one (.lit (.int .i64 a2))] => some (a0, a1, a2) | _ => none
  ds := fun (n, least, most) => [.one (.lit (.int .i64 n)), .one (.lit (.int .i64 least)), .one (.lit (.int .i64 most))]
  pre := fun (n, least, most) => []
  res := fun (n, least, most) => ⟨[.one (.lit (.bool (decide (least ≤ n ∧ n ≤ most))))], true, []⟩
  law := by intro l x h; (try simp only at h); split at h <;> cases h; rfl
def ann_impl_inRange : con_impl_inRange.α → Nat → Option (Ann UU) := fun (n, least, most) => annL []
def use_impl_inRange : List (FuncId × Con UU) := []
theorem vc_impl_inRange (n : Int) (least : Int) (most : Int) : goal EE use_impl_inRange Go.Proofs.Try.f146 con_impl_inRange ann_impl_inRange (n, least, most) = (bif decide (n ≥ least) then Lf [DV.one (Cell.lit (Value.bool (decide (n ≤ most))))] [DV.one (Cell.lit (Value.bool (decide (least ≤ n ∧ n ≤ most))))] else Lf [DV.one (Cell.lit (Value.bool false))] [DV.one (Cell.lit (Value.bool (decide (least ≤ n ∧ n ≤ most))))]) := by kernel_rfl
theorem ok_impl_inRange : Holds EE (146, con_impl_inRange) := by
  refine holds_of EE_ok Go.Proofs.Try.func146 con_impl_inRange (by kernel_rfl) rfl use_impl_inRange all_nil ann_impl_inRange (fun x hp hb => ?_)
  obtain ⟨n, least, most⟩ := x
  have hb_n : BdDV (U := UU) (.one (.lit (.int .i64 n))) := hb _ (List.mem_cons_self)
  have hl_n := Bd.i64 hb_n
  have hb_least : BdDV (U := UU) (.one (.lit (.int .i64 least))) := hb _ (List.mem_cons_of_mem _ (List.mem_cons_self))
  have hl_least := Bd.i64 hb_least
  have hb_most : BdDV (U := UU) (.one (.lit (.int .i64 most))) := hb _ (List.mem_cons_of_mem _ (List.mem_cons_of_mem _ (List.mem_cons_self)))
  have hl_most := Bd.i64 hb_most
  clear hp hb
  rw [vc_impl_inRange n least most]
  refine if_cond (fun h => Lf_b ?_) (fun h => Lf_b ?_) <;> grind
def con_spec_l1In : Con UU where
  α := Int × Int × Int
  md := [.ro, .ro, .ro]
  of := fun | [.one (.lit (.int .i64 a0)), .one (.lit (.int .i64 a1)), .one (.lit (.int .i64 a2))] => some (a0, a1, a2) | _ => none
  ds := fun (x, least, most) => [.one (.lit (.int .i64 x)), .one (.lit (.int .i64 least)), .one (.lit (.int .i64 most))]
  pre := fun (x, least, most) => []
  res := fun (x, least, most) => ⟨[.one (.lit (.bool (decide (least ≤ x ∧ x ≤ most))))], true, []⟩
  law := by intro l x h; (try simp only at h); split at h <;> cases h; rfl
def ann_spec_l1In : con_spec_l1In.α → Nat → Option (Ann UU) := fun (x, least, most) => annL []
def use_spec_l1In : List (FuncId × Con UU) := []
theorem vc_spec_l1In (x : Int) (least : Int) (most : Int) : goal EE use_spec_l1In Go.Proofs.Try.f69 con_spec_l1In ann_spec_l1In (x, least, most) = (bif decide (x ≥ least) then Lf [DV.one (Cell.lit (Value.bool (decide (x ≤ most))))] [DV.one (Cell.lit (Value.bool (decide (least ≤ x ∧ x ≤ most))))] else Lf [DV.one (Cell.lit (Value.bool false))] [DV.one (Cell.lit (Value.bool (decide (least ≤ x ∧ x ≤ most))))]) := by kernel_rfl
theorem ok_spec_l1In : Holds EE (69, con_spec_l1In) := by
  refine holds_of EE_ok Go.Proofs.Try.func69 con_spec_l1In (by kernel_rfl) rfl use_spec_l1In all_nil ann_spec_l1In (fun x hp hb => ?_)
  obtain ⟨x, least, most⟩ := x
  have hb_x : BdDV (U := UU) (.one (.lit (.int .i64 x))) := hb _ (List.mem_cons_self)
  have hl_x := Bd.i64 hb_x
  have hb_least : BdDV (U := UU) (.one (.lit (.int .i64 least))) := hb _ (List.mem_cons_of_mem _ (List.mem_cons_self))
  have hl_least := Bd.i64 hb_least
  have hb_most : BdDV (U := UU) (.one (.lit (.int .i64 most))) := hb _ (List.mem_cons_of_mem _ (List.mem_cons_of_mem _ (List.mem_cons_self)))
  have hl_most := Bd.i64 hb_most
  clear hp hb
  rw [vc_spec_l1In x least most]
  refine if_cond (fun h => Lf_b ?_) (fun h => Lf_b ?_) <;> grind
def con_impl_isSmall : Con UU where
  α := Int
  md := [.ro]
  of := fun | [.one (.lit (.int .u8 a0))] => some a0 | _ => none
  ds := fun b => [.one (.lit (.int .u8 b))]
  pre := fun b => []
  res := fun b => ⟨[.one (.lit (.bool (smallB b)))], true, []⟩
  law := by intro l x h; (try simp only at h); split at h <;> cases h; rfl
def ann_impl_isSmall : con_impl_isSmall.α → Nat → Option (Ann UU) := fun b => annL []
def use_impl_isSmall : List (FuncId × Con UU) := []
theorem vc_impl_isSmall (b : Int) : goal EE use_impl_isSmall Go.Proofs.Try.f178 con_impl_isSmall ann_impl_isSmall b = (bif decide (b ≥ (97 : Int)) then Lf [DV.one (Cell.lit (Value.bool (decide (b ≤ (122 : Int)))))] [DV.one (Cell.lit (Value.bool (smallB b)))] else Lf [DV.one (Cell.lit (Value.bool false))] [DV.one (Cell.lit (Value.bool (smallB b)))]) := by kernel_rfl
theorem ok_impl_isSmall : Holds EE (178, con_impl_isSmall) := by
  refine holds_of EE_ok Go.Proofs.Try.func178 con_impl_isSmall (by kernel_rfl) rfl use_impl_isSmall all_nil ann_impl_isSmall (fun (b : Int) hp hb => ?_)
  have hb_b : BdDV (U := UU) (.one (.lit (.int .u8 b))) := hb _ (List.mem_cons_self)
  clear hp hb
  rw [vc_impl_isSmall b]
  refine if_cond (fun h => Lf_b ?_) (fun h => Lf_b ?_) <;> grind [smallB]
def con_impl_isDigit : Con UU where
  α := Int
  md := [.ro]
  of := fun | [.one (.lit (.int .u8 a0))] => some a0 | _ => none
  ds := fun b => [.one (.lit (.int .u8 b))]
  pre := fun b => []
  res := fun b => ⟨[.one (.lit (.bool (decide (48 ≤ b ∧ b ≤ 57))))], true, []⟩
  law := by intro l x h; (try simp only at h); split at h <;> cases h; rfl
def ann_impl_isDigit : con_impl_isDigit.α → Nat → Option (Ann UU) := fun b => annL []
def use_impl_isDigit : List (FuncId × Con UU) := []
theorem vc_impl_isDigit (b : Int) : goal EE use_impl_isDigit Go.Proofs.Try.f197 con_impl_isDigit ann_impl_isDigit b = (bif decide (b ≥ (48 : Int)) then Lf [DV.one (Cell.lit (Value.bool (decide (b ≤ (57 : Int)))))] [DV.one (Cell.lit (Value.bool (decide ((48 : Int) ≤ b ∧ b ≤ (57 : Int)))))] else Lf [DV.one (Cell.lit (Value.bool false))] [DV.one (Cell.lit (Value.bool (decide ((48 : Int) ≤ b ∧ b ≤ (57 : Int)))))]) := by kernel_rfl
theorem ok_impl_isDigit : Holds EE (197, con_impl_isDigit) := by
  refine holds_of EE_ok Go.Proofs.Try.func197 con_impl_isDigit (by kernel_rfl) rfl use_impl_isDigit all_nil ann_impl_isDigit (fun (b : Int) hp hb => ?_)
  have hb_b : BdDV (U := UU) (.one (.lit (.int .u8 b))) := hb _ (List.mem_cons_self)
  clear hp hb
  rw [vc_impl_isDigit b]
  refine if_cond (fun h => Lf_b ?_) (fun h => Lf_b ?_) <;> grind
def con_impl_isWordByte : Con UU where
  α := Int
  md := [.ro]
  of := fun | [.one (.lit (.int .u8 a0))] => some a0 | _ => none
  ds := fun b => [.one (.lit (.int .u8 b))]
  pre := fun b => []
  res := fun b => ⟨[.one (.lit (.bool (wordB b)))], true, []⟩
  law := by intro l x h; (try simp only at h); split at h <;> cases h; rfl
def ann_impl_isWordByte : con_impl_isWordByte.α → Nat → Option (Ann UU) := fun b => annL []
def use_impl_isWordByte : List (FuncId × Con UU) := [(178, con_impl_isSmall), (197, con_impl_isDigit)]
theorem vc_impl_isWordByte (b : Int) : goal EE use_impl_isWordByte Go.Proofs.Try.f192 con_impl_isWordByte ann_impl_isWordByte b = (bif smallB b then Lf [DV.one (Cell.lit (Value.bool true))] [DV.one (Cell.lit (Value.bool (wordB b)))] else bif decide ((48 : Int) ≤ b ∧ b ≤ (57 : Int)) then Lf [DV.one (Cell.lit (Value.bool true))] [DV.one (Cell.lit (Value.bool (wordB b)))] else Lf [DV.one (Cell.lit (Value.bool (b == (95 : Int))))] [DV.one (Cell.lit (Value.bool (wordB b)))]) := by kernel_rfl
theorem ok_impl_isWordByte : Holds EE (192, con_impl_isWordByte) := by
  refine holds_of EE_ok Go.Proofs.Try.func192 con_impl_isWordByte (by kernel_rfl) rfl use_impl_isWordByte (all_cons ok_impl_isSmall (all_cons ok_impl_isDigit all_nil)) ann_impl_isWordByte (fun (b : Int) hp hb => ?_)
  have hb_b : BdDV (U := UU) (.one (.lit (.int .u8 b))) := hb _ (List.mem_cons_self)
  clear hp hb
  rw [vc_impl_isWordByte b]
  refine if_cond (fun h => Lf_b ?_) (fun h => ?_)
  · grind [wordB]
  refine if_cond (fun h => Lf_b ?_) (fun h => Lf_b ?_) <;> grind [wordB]
def con_spec_l1Letter : Con UU where
  α := Int
  md := [.ro]
  of := fun | [.one (.lit (.int .u8 a0))] => some a0 | _ => none
  ds := fun c => [.one (.lit (.int .u8 c))]
  pre := fun c => [0 ≤ c ∧ c ≤ 255]
  res := fun c => ⟨[.one (.lit (.bool (wordB c)))], true, []⟩
  law := by intro l x h; (try simp only at h); split at h <;> cases h; rfl
def ann_spec_l1Letter : con_spec_l1Letter.α → Nat → Option (Ann UU) := fun c => annL []
def use_spec_l1Letter : List (FuncId × Con UU) := [(69, con_spec_l1In)]
theorem vc_spec_l1Letter (c : Int) : goal EE use_spec_l1Letter Go.Proofs.Try.f151 con_spec_l1Letter ann_spec_l1Letter c = (bif decide ((97 : Int) ≤ IntKind.wrap IntKind.i64 c ∧ IntKind.wrap IntKind.i64 c ≤ (122 : Int)) then Lf [DV.one (Cell.lit (Value.bool true))] [DV.one (Cell.lit (Value.bool (wordB c)))] else bif decide ((48 : Int) ≤ IntKind.wrap IntKind.i64 c ∧ IntKind.wrap IntKind.i64 c ≤ (57 : Int)) then Lf [DV.one (Cell.lit (Value.bool true))] [DV.one (Cell.lit (Value.bool (wordB c)))] else Lf [DV.one (Cell.lit (Value.bool (c == (95 : Int))))] [DV.one (Cell.lit (Value.bool (wordB c)))]) := by kernel_rfl
theorem ok_spec_l1Letter : Holds EE (151, con_spec_l1Letter) := by
  refine holds_of EE_ok Go.Proofs.Try.func151 con_spec_l1Letter (by kernel_rfl) rfl use_spec_l1Letter (all_cons ok_spec_l1In all_nil) ann_spec_l1Letter (fun (c : Int) hp hb => ?_)
  have hb_c : BdDV (U := UU) (.one (.lit (.int .u8 c))) := hb _ (List.mem_cons_self)
  have hp0 : 0 ≤ c ∧ c ≤ 255 := hp _ (List.mem_cons_self)
  clear hp hb
  rw [vc_spec_l1Letter c]
  rw [wrap_i64 (by omega) (by omega)]
  refine if_cond (fun h => Lf_b ?_) (fun h => ?_)
  · grind [wordB, smallB]
  refine if_cond (fun h => Lf_b ?_) (fun h => Lf_b ?_) <;> grind [wordB, smallB]
def con_impl_isWord : Con UU where
  α := ByteArray × Int
  md := [.ro, .ro]
  of := fun | [.one (.lit (.string a0)), .one (.lit (.int .i64 a1))] => some (a0, a1) | _ => none
  ds := fun (s, most) => [.one (.lit (.string s)), .one (.lit (.int .i64 most))]
  pre := fun (s, most) => []
  res := fun (s, most) => ⟨[.one (.lit (.bool (decide (s.size ≤ most) && wordS s)))], true, []⟩
  law := by intro l x h; (try simp only at h); split at h <;> cases h; rfl
def I_impl_isWord_4 (s : ByteArray) (most : Int) : Int × Unit → Prop := fun (i, _) => 0 ≤ i ∧ i ≤ s.size ∧ s.size ≤ most ∧ ((bs s).drop i.toNat).all (byteP wordB) = wordS s
def μ_impl_isWord_4 (s : ByteArray) (most : Int) : Int × Unit → Nat := fun (i, _) => s.size - i.toNat
def ann_impl_isWord : con_impl_isWord.α → Nat → Option (Ann UU) := fun (s, most) => annL [(4, annOf [.slot 5 (5, 1024) (.lit (.int .i64))] (fun _ => I_impl_isWord_4 s most) (μ_impl_isWord_4 s most))]
def use_impl_isWord : List (FuncId × Con UU) := [(192, con_impl_isWordByte)]
theorem vc_impl_isWord (s : ByteArray) (most : Int) : goal EE use_impl_isWord Go.Proofs.Try.f179 con_impl_isWord ann_impl_isWord (s, most) = (bif decide ((↑(ByteArray.size s) : Int) > most) then Lf [DV.one (Cell.lit (Value.bool false))] [DV.one (Cell.lit (Value.bool (decide ((↑(ByteArray.size s) : Int) ≤ most) && wordS s)))] else I_impl_isWord_4 s most ((0 : Int), PUnit.unit) ∧ ∀ (y : Int × PUnit), I_impl_isWord_4 s most y → bif decide (y.1 < (↑(ByteArray.size s) : Int)) then (0 : Int) ≤ y.1 ∧ Int.toNat y.1 < ByteArray.size s ∧ bif !wordB (↑(UInt8.toNat (List.getD s.data.toList (Int.toNat y.1) (0 : UInt8))) : Int) then Lf [DV.one (Cell.lit (Value.bool false))] [DV.one (Cell.lit (Value.bool (decide ((↑(ByteArray.size s) : Int) ≤ most) && wordS s)))] else I_impl_isWord_4 s most (IntKind.wrap IntKind.i64 (y.1 + (1 : Int)), PUnit.unit) ∧ μ_impl_isWord_4 s most (IntKind.wrap IntKind.i64 (y.1 + (1 : Int)), PUnit.unit) < μ_impl_isWord_4 s most y else Lf [DV.one (Cell.lit (Value.bool true))] [DV.one (Cell.lit (Value.bool (decide ((↑(ByteArray.size s) : Int) ≤ most) && wordS s)))]) := by kernel_rfl
theorem ok_impl_isWord : Holds EE (179, con_impl_isWord) := by
  refine holds_of EE_ok Go.Proofs.Try.func179 con_impl_isWord (by kernel_rfl) rfl use_impl_isWord (all_cons ok_impl_isWordByte all_nil) ann_impl_isWord (fun x hp hb => ?_)
  obtain ⟨s, most⟩ := x
  have hb_s : BdDV (U := UU) (.one (.lit (.string s))) := hb _ (List.mem_cons_self)
  have hl_s : s.size ≤ 9223372036854775807 := Bd.str hb_s
  have hb_most : BdDV (U := UU) (.one (.lit (.int .i64 most))) := hb _ (List.mem_cons_of_mem _ (List.mem_cons_self))
  have hl_most := Bd.i64 hb_most
  clear hp hb
  rw [vc_impl_isWord s most]
  refine if_cond (fun h => Lf_ff ?_) (fun h => ?_)
  · have h := of_decide_eq_true h; rw [decide_eq_false (by omega)]; rfl
  have h0 := of_decide_eq_false h
  refine ⟨⟨by omega, by omega, by omega, rfl⟩, ?_⟩
  rintro ⟨i, ⟨⟩⟩ ⟨h1, h2, h3, hR⟩
  have hl := bs_len s
  simp only [bs_eq]
  refine if_cond (fun hc => ?_) (fun hc => ?_)
  · have hc := of_decide_eq_true hc
    rw [all_step _ _ 0 h1 (by omega)] at hR
    rw [wrap_i64 (by omega) (by omega)]
    refine ⟨by omega, by omega, if_cond (fun h => Lf_ff ?_) (fun h => ⟨⟨by omega, by omega, by omega, ?_⟩, ?_⟩)⟩
    · rw [← hR]; simp only [byteP]; simp at h; simp [h]
    · rw [← hR]; simp only [byteP]; simp at h; simp [h]
    · simp only [μ_impl_isWord_4]; omega
  · have hc := of_decide_eq_false hc
    rw [drop_end _ (by omega)] at hR
    exact Lf_tt (by rw [← hR, decide_eq_true h3]; rfl)
def con_impl_NameOk : Con UU where
  α := ByteArray
  md := [.ro]
  of := fun | [.one (.lit (.string a0))] => some a0 | _ => none
  ds := fun s => [.one (.lit (.string s))]
  pre := fun s => []
  res := fun s => ⟨[.one (.lit (.bool (nameOk s)))], true, []⟩
  law := by intro l x h; (try simp only at h); split at h <;> cases h; rfl
def ann_impl_NameOk : con_impl_NameOk.α → Nat → Option (Ann UU) := fun s => annL []
def use_impl_NameOk : List (FuncId × Con UU) := [(178, con_impl_isSmall), (179, con_impl_isWord)]
theorem vc_impl_NameOk (s : ByteArray) : goal EE use_impl_NameOk Go.Proofs.Try.f147 con_impl_NameOk ann_impl_NameOk s = (bif decide ((↑(ByteArray.size s) : Int) > (0 : Int)) then (0 : Int) ≤ (0 : Int) ∧ Int.toNat (0 : Int) < ByteArray.size s ∧ bif smallB (↑(UInt8.toNat (List.getD s.data.toList (Int.toNat (0 : Int)) (0 : UInt8))) : Int) then Lf [DV.one (Cell.lit (Value.bool (decide ((↑(ByteArray.size s) : Int) ≤ (12 : Int)) && wordS s)))] [DV.one (Cell.lit (Value.bool (nameOk s)))] else Lf [DV.one (Cell.lit (Value.bool false))] [DV.one (Cell.lit (Value.bool (nameOk s)))] else Lf [DV.one (Cell.lit (Value.bool false))] [DV.one (Cell.lit (Value.bool (nameOk s)))]) := by kernel_rfl
theorem ok_impl_NameOk : Holds EE (147, con_impl_NameOk) := by
  refine holds_of EE_ok Go.Proofs.Try.func147 con_impl_NameOk (by kernel_rfl) rfl use_impl_NameOk (all_cons ok_impl_isSmall (all_cons ok_impl_isWord all_nil)) ann_impl_NameOk (fun (s : ByteArray) hp hb => ?_)
  have hb_s : BdDV (U := UU) (.one (.lit (.string s))) := hb _ (List.mem_cons_self)
  have hl_s : s.size ≤ 9223372036854775807 := Bd.str hb_s
  clear hp hb
  rw [vc_impl_NameOk s]
  have hl := bs_len s
  simp only [bs_eq]
  refine if_cond (fun h => ?_) (fun h => Lf_ff ?_)
  · have h := of_decide_eq_true h
    refine ⟨by omega, by omega, if_cond (fun h' => Lf_b ?_) (fun h' => Lf_ff ?_)⟩
    · have h' : smallB ((List.getD (bs s) 0 0).toNat : Int) = true := h'
      simp only [nameOk, h']
      have e : decide (1 ≤ s.size ∧ s.size ≤ 12) = decide ((s.size : Int) ≤ 12) := by rw [decide_eq_decide]; omega
      rw [e]; simp
    · have h' : smallB ((List.getD (bs s) 0 0).toNat : Int) = false := h'
      simp only [nameOk, h']; grind
  · have h := of_decide_eq_false h
    simp only [nameOk]; rw [decide_eq_false (by omega)]; rfl
def con_spec_NameOk : Con UU where
  α := ByteArray
  md := [.ro]
  of := fun | [.one (.lit (.string a0))] => some a0 | _ => none
  ds := fun s => [.one (.lit (.string s))]
  pre := fun s => []
  res := fun s => ⟨[.one (.lit (.bool (nameOk s)))], true, []⟩
  law := by intro l x h; (try simp only at h); split at h <;> cases h; rfl
def I_spec_NameOk_2 (s : ByteArray) : Int × Unit → Prop := fun (i, _) => 0 ≤ i ∧ i ≤ s.size ∧ ((bs s).drop i.toNat).all (byteP wordB) = wordS s ∧ (0 < i → smallB (List.getD (bs s) 0 0).toNat = true)
def μ_spec_NameOk_2 (s : ByteArray) : Int × Unit → Nat := fun (i, _) => s.size - i.toNat
def ann_spec_NameOk : con_spec_NameOk.α → Nat → Option (Ann UU) := fun s => annL [(2, annOf [.slot 3 (3, 1024) (.lit (.int .i64))] (fun _ => I_spec_NameOk_2 s) (μ_spec_NameOk_2 s))]
def use_spec_NameOk : List (FuncId × Con UU) := [(151, con_spec_l1Letter), (69, con_spec_l1In)]
theorem vc_spec_NameOk (s : ByteArray) : goal EE use_spec_NameOk Go.Proofs.Try.f78 con_spec_NameOk ann_spec_NameOk s = (I_spec_NameOk_2 s ((0 : Int), PUnit.unit) ∧
  ∀ (y : Int × PUnit),
    let x0 : Int := (↑(UInt8.toNat (List.getD s.data.toList (Int.toNat y.1) (0 : UInt8))) : Int);
    I_spec_NameOk_2 s y → bif decide (y.1 < (↑(ByteArray.size s) : Int)) then (0 : Int) ≤ y.1 ∧ Int.toNat y.1 < ByteArray.size s ∧ ((0 : Int) ≤ x0 ∧ x0 ≤ (255 : Int)) ∧ bif !wordB x0 then Lf [DV.one (Cell.lit (Value.bool false))] [DV.one (Cell.lit (Value.bool (nameOk s)))] else bif y.1 == (0 : Int) then (0 : Int) ≤ y.1 ∧ Int.toNat y.1 < ByteArray.size s ∧ bif !decide ((97 : Int) ≤ IntKind.wrap IntKind.i64 x0 ∧ IntKind.wrap IntKind.i64 x0 ≤ (122 : Int)) then Lf [DV.one (Cell.lit (Value.bool false))] [DV.one (Cell.lit (Value.bool (nameOk s)))] else I_spec_NameOk_2 s (IntKind.wrap IntKind.i64 (y.1 + (1 : Int)), PUnit.unit) ∧ μ_spec_NameOk_2 s (IntKind.wrap IntKind.i64 (y.1 + (1 : Int)), PUnit.unit) < μ_spec_NameOk_2 s y else I_spec_NameOk_2 s (IntKind.wrap IntKind.i64 (y.1 + (1 : Int)), PUnit.unit) ∧ μ_spec_NameOk_2 s (IntKind.wrap IntKind.i64 (y.1 + (1 : Int)), PUnit.unit) < μ_spec_NameOk_2 s y else Lf [DV.one (Cell.lit (Value.bool (decide ((1 : Int) ≤ (↑(ByteArray.size s) : Int) ∧ (↑(ByteArray.size s) : Int) ≤ (12 : Int)))))] [DV.one (Cell.lit (Value.bool (nameOk s)))]) := by kernel_rfl
theorem ok_spec_NameOk : Holds EE (78, con_spec_NameOk) := by
  refine holds_of EE_ok Go.Proofs.Try.func78 con_spec_NameOk (by kernel_rfl) rfl use_spec_NameOk (all_cons ok_spec_l1Letter (all_cons ok_spec_l1In all_nil)) ann_spec_NameOk (fun (s : ByteArray) hp hb => ?_)
  have hb_s : BdDV (U := UU) (.one (.lit (.string s))) := hb _ (List.mem_cons_self)
  have hl_s : s.size ≤ 9223372036854775807 := Bd.str hb_s
  clear hp hb
  rw [vc_spec_NameOk s]
  dsimp only
  refine ⟨⟨by omega, by omega, rfl, by omega⟩, ?_⟩
  rintro ⟨i, ⟨⟩⟩ ⟨h1, h2, hR, hS⟩
  have hl := bs_len s
  simp only [bs_eq, u8_i64]
  refine if_cond (fun hc => ?_) (fun hc => ?_)
  · have hc := of_decide_eq_true hc
    have hb := (List.getD (bs s) i.toNat 0).toNat_lt
    rw [all_step _ _ 0 h1 (by omega)] at hR
    rw [wrap_i64 (by omega) (by omega)]
    have hN : wordS s = false → nameOk s = false := fun h => by simp [nameOk, h]
    refine ⟨by omega, by omega, ⟨by omega, by omega⟩, if_cond (fun h => Lf_ff (hN ?_)) (fun h => if_cond (fun h' => ⟨by omega, by omega, if_cond (fun h'' => Lf_ff ?_) (fun h'' => ⟨⟨by omega, by omega, ?_, fun _ => ?_⟩, ?_⟩)⟩) (fun h' => ⟨⟨by omega, by omega, ?_, fun _ => hS ?_⟩, ?_⟩))⟩
    · rw [← hR]; simp only [byteP]; simp at h; simp [h]
    · have h' : i = 0 := by simpa using h'
      subst h'
      have h'' : smallB ((List.getD (bs s) 0 0).toNat : Int) = false := by simp only [smallB]; grind
      simp only [nameOk, h'']; grind
    · rw [← hR]; simp only [byteP]; simp at h; simp [h]
    · have h' : i = 0 := by simpa using h'
      subst h'
      simpa [smallB] using h''
    · simp only [μ_spec_NameOk_2]; omega
    · rw [← hR]; simp only [byteP]; simp at h; simp [h]
    · have h' : ¬ i = 0 := by simpa using h'
      omega
    · simp only [μ_spec_NameOk_2]; omega
  · have hc := of_decide_eq_false hc
    rw [drop_end _ (by omega)] at hR
    refine Lf_b ?_
    simp only [nameOk, ← hR]
    by_cases hz : 0 < i
    · rw [hS hz]; simp only [List.all_nil]; grind
    · rw [decide_eq_false (by omega), decide_eq_false (by omega)]; rfl
def con_spec_l2Plain : Con UU where
  α := ByteArray
  md := [.ro]
  of := fun | [.one (.lit (.string a0))] => some a0 | _ => none
  ds := fun s => [.one (.lit (.string s))]
  pre := fun s => []
  res := fun s => ⟨[.one (.lit (.bool (decide (s.size ≤ 20) && wordS s)))], true, []⟩
  law := by intro l x h; (try simp only at h); split at h <;> cases h; rfl
def I_spec_l2Plain_2 (s : ByteArray) : Int × Unit → Prop := fun (i, _) => 0 ≤ i ∧ i ≤ s.size ∧ ((bs s).drop i.toNat).all (byteP wordB) = wordS s
def μ_spec_l2Plain_2 (s : ByteArray) : Int × Unit → Nat := fun (i, _) => s.size - i.toNat
def ann_spec_l2Plain : con_spec_l2Plain.α → Nat → Option (Ann UU) := fun s => annL [(2, annOf [.slot 3 (3, 1024) (.lit (.int .i64))] (fun _ => I_spec_l2Plain_2 s) (μ_spec_l2Plain_2 s))]
def use_spec_l2Plain : List (FuncId × Con UU) := [(151, con_spec_l1Letter)]
theorem vc_spec_l2Plain (s : ByteArray) : goal EE use_spec_l2Plain Go.Proofs.Try.f152 con_spec_l2Plain ann_spec_l2Plain s = (I_spec_l2Plain_2 s ((0 : Int), PUnit.unit) ∧
  ∀ (y : Int × PUnit),
    let x0 : Int := (↑(UInt8.toNat (List.getD s.data.toList (Int.toNat y.1) (0 : UInt8))) : Int);
    I_spec_l2Plain_2 s y → bif decide (y.1 < (↑(ByteArray.size s) : Int)) then (0 : Int) ≤ y.1 ∧ Int.toNat y.1 < ByteArray.size s ∧ ((0 : Int) ≤ x0 ∧ x0 ≤ (255 : Int)) ∧ bif !wordB x0 then Lf [DV.one (Cell.lit (Value.bool false))] [DV.one (Cell.lit (Value.bool (decide (ByteArray.size s ≤ (20 : Nat)) && wordS s)))] else I_spec_l2Plain_2 s (IntKind.wrap IntKind.i64 (y.1 + (1 : Int)), PUnit.unit) ∧ μ_spec_l2Plain_2 s (IntKind.wrap IntKind.i64 (y.1 + (1 : Int)), PUnit.unit) < μ_spec_l2Plain_2 s y else Lf [DV.one (Cell.lit (Value.bool (decide ((↑(ByteArray.size s) : Int) ≤ (20 : Int)))))] [DV.one (Cell.lit (Value.bool (decide (ByteArray.size s ≤ (20 : Nat)) && wordS s)))]) := by kernel_rfl
theorem ok_spec_l2Plain : Holds EE (152, con_spec_l2Plain) := by
  refine holds_of EE_ok Go.Proofs.Try.func152 con_spec_l2Plain (by kernel_rfl) rfl use_spec_l2Plain (all_cons ok_spec_l1Letter all_nil) ann_spec_l2Plain (fun (s : ByteArray) hp hb => ?_)
  have hb_s : BdDV (U := UU) (.one (.lit (.string s))) := hb _ (List.mem_cons_self)
  have hl_s : s.size ≤ 9223372036854775807 := Bd.str hb_s
  clear hp hb
  rw [vc_spec_l2Plain s]
  dsimp only
  refine ⟨⟨by omega, by omega, rfl⟩, ?_⟩
  rintro ⟨i, ⟨⟩⟩ ⟨h1, h2, hR⟩
  have hl := bs_len s
  simp only [bs_eq]
  refine if_cond (fun hc => ?_) (fun hc => ?_)
  · have hc := of_decide_eq_true hc
    have hb := (List.getD (bs s) i.toNat 0).toNat_lt
    rw [all_step _ _ 0 h1 (by omega)] at hR
    rw [wrap_i64 (by omega) (by omega)]
    refine ⟨by omega, by omega, ⟨by omega, by omega⟩, if_cond (fun h => Lf_ff ?_) (fun h => ⟨⟨by omega, by omega, ?_⟩, ?_⟩)⟩
    · rw [← hR]; simp only [byteP]; simp at h; simp [h]
    · rw [← hR]; simp only [byteP]; simp at h; simp [h]
    · simp only [μ_spec_l2Plain_2]; omega
  · have hc := of_decide_eq_false hc
    rw [drop_end _ (by omega)] at hR
    refine Lf_b ?_
    rw [← hR]; simp; omega
def con_impl_ValOk : Con UU where
  α := DVal
  md := [.ro]
  of := fun | [.agg [.lit (.int .i64 a0), .lit (.int .i64 a1), .lit (.string a2)]] => some ⟨a0, a1, a2⟩ | _ => none
  ds := fun v => [.agg [.lit (.int .i64 v.K), .lit (.int .i64 v.N), .lit (.string v.S)]]
  pre := fun v => []
  res := fun v => ⟨[.one (.lit (.bool (valOk v)))], true, []⟩
  law := by intro l x h; (try simp only at h); split at h <;> cases h; rfl
def ann_impl_ValOk : con_impl_ValOk.α → Nat → Option (Ann UU) := fun v => annL []
def use_impl_ValOk : List (FuncId × Con UU) := [(146, con_impl_inRange), (179, con_impl_isWord)]
theorem vc_impl_ValOk (v : DVal) : goal EE use_impl_ValOk Go.Proofs.Try.f148 con_impl_ValOk ann_impl_ValOk v = (bif v.K == (1 : Int) then bif decide ((-1000000000 : Int) ≤ v.N ∧ v.N ≤ (1000000000 : Int)) then Lf [DV.one (Cell.lit (Value.bool (ByteArray.toList v.S == ByteArray.toList { data := #[] : ByteArray })))] [DV.one (Cell.lit (Value.bool (valOk v)))] else Lf [DV.one (Cell.lit (Value.bool false))] [DV.one (Cell.lit (Value.bool (valOk v)))] else bif v.K == (2 : Int) then bif v.N == (0 : Int) then Lf [DV.one (Cell.lit (Value.bool (decide ((↑(ByteArray.size v.S) : Int) ≤ (20 : Int)) && wordS v.S)))] [DV.one (Cell.lit (Value.bool (valOk v)))] else Lf [DV.one (Cell.lit (Value.bool false))] [DV.one (Cell.lit (Value.bool (valOk v)))] else Lf [DV.one (Cell.lit (Value.bool false))] [DV.one (Cell.lit (Value.bool (valOk v)))]) := by kernel_rfl
theorem ok_impl_ValOk : Holds EE (148, con_impl_ValOk) := by
  refine holds_of EE_ok Go.Proofs.Try.func148 con_impl_ValOk (by kernel_rfl) rfl use_impl_ValOk (all_cons ok_impl_inRange (all_cons ok_impl_isWord all_nil)) ann_impl_ValOk (fun (v : DVal) hp hb => ?_)
  have hb_v : BdDV (U := UU) (.agg [.lit (.int .i64 v.K), .lit (.int .i64 v.N), .lit (.string v.S)]) := hb _ (List.mem_cons_self)
  have hl_v_S : v.S.size ≤ 9223372036854775807 := Bd.str (hb_v _ (by simp))
  clear hp hb
  rw [vc_impl_ValOk v]
  have e : (ByteArray.toList (DVal.S v) == ByteArray.toList { data := #[] }) = decide (v.S = noBytes) := toList_beq _ _
  simp only [e, valOk]
  repeat' (refine if_cond (fun h => ?_) (fun h => ?_))
  all_goals (refine Lf_b ?_; grind)
def con_spec_ValOk : Con UU where
  α := DVal
  md := [.ro]
  of := fun | [.agg [.lit (.int .i64 a0), .lit (.int .i64 a1), .lit (.string a2)]] => some ⟨a0, a1, a2⟩ | _ => none
  ds := fun v => [.agg [.lit (.int .i64 v.K), .lit (.int .i64 v.N), .lit (.string v.S)]]
  pre := fun v => []
  res := fun v => ⟨[.one (.lit (.bool (valOk v)))], true, []⟩
  law := by intro l x h; (try simp only at h); split at h <;> cases h; rfl
def ann_spec_ValOk : con_spec_ValOk.α → Nat → Option (Ann UU) := fun v => annL []
def use_spec_ValOk : List (FuncId × Con UU) := [(69, con_spec_l1In), (152, con_spec_l2Plain)]
theorem vc_spec_ValOk (v : DVal) : goal EE use_spec_ValOk Go.Proofs.Try.f79 con_spec_ValOk ann_spec_ValOk v = (bif v.K == (1 : Int) then bif decide ((-1000000000 : Int) ≤ v.N ∧ v.N ≤ (1000000000 : Int)) then Lf [DV.one (Cell.lit (Value.bool (ByteArray.toList v.S == ByteArray.toList { data := #[] : ByteArray })))] [DV.one (Cell.lit (Value.bool (valOk v)))] else Lf [DV.one (Cell.lit (Value.bool false))] [DV.one (Cell.lit (Value.bool (valOk v)))] else bif v.K == (2 : Int) then bif decide (ByteArray.size v.S ≤ (20 : Nat)) && wordS v.S then Lf [DV.one (Cell.lit (Value.bool (v.N == (0 : Int))))] [DV.one (Cell.lit (Value.bool (valOk v)))] else Lf [DV.one (Cell.lit (Value.bool false))] [DV.one (Cell.lit (Value.bool (valOk v)))] else Lf [DV.one (Cell.lit (Value.bool false))] [DV.one (Cell.lit (Value.bool (valOk v)))]) := by kernel_rfl
theorem ok_spec_ValOk : Holds EE (79, con_spec_ValOk) := by
  refine holds_of EE_ok Go.Proofs.Try.func79 con_spec_ValOk (by kernel_rfl) rfl use_spec_ValOk (all_cons ok_spec_l1In (all_cons ok_spec_l2Plain all_nil)) ann_spec_ValOk (fun (v : DVal) hp hb => ?_)
  have hb_v : BdDV (U := UU) (.agg [.lit (.int .i64 v.K), .lit (.int .i64 v.N), .lit (.string v.S)]) := hb _ (List.mem_cons_self)
  have hl_v_S : v.S.size ≤ 9223372036854775807 := Bd.str (hb_v _ (by simp))
  clear hp hb
  rw [vc_spec_ValOk v]
  have e : (ByteArray.toList (DVal.S v) == ByteArray.toList { data := #[] }) = decide (v.S = noBytes) := toList_beq _ _
  simp only [e, valOk]
  repeat' (refine if_cond (fun h => ?_) (fun h => ?_))
  all_goals (refine Lf_b ?_; grind)
def con_spec_l3Vals : Con UU where
  α := (List DVal)
  md := [.ro]
  of := fun | [.one (.sl .eVal a0)] => some a0 | _ => none
  ds := fun l => [.one (.sl .eVal l)]
  pre := fun l => []
  res := fun l => ⟨[.one (.lit (.bool (decide (l.length ≤ 5) && l.all valOk)))], true, []⟩
  law := by intro l x h; (try simp only at h); split at h <;> cases h; rfl
def I_spec_l3Vals_2 (l : (List DVal)) : Int × Unit → Prop := fun (i, _) => 0 ≤ i ∧ i ≤ l.length ∧ (l.drop i.toNat).all valOk = l.all valOk
def μ_spec_l3Vals_2 (l : (List DVal)) : Int × Unit → Nat := fun (i, _) => l.length - i.toNat
def ann_spec_l3Vals : con_spec_l3Vals.α → Nat → Option (Ann UU) := fun l => annL [(2, annOf [.slot 3 (3, 1024) (.lit (.int .i64))] (fun _ => I_spec_l3Vals_2 l) (μ_spec_l3Vals_2 l))]
def use_spec_l3Vals : List (FuncId × Con UU) := [(79, con_spec_ValOk)]
theorem vc_spec_l3Vals (l : (List DVal)) : goal EE use_spec_l3Vals Go.Proofs.Try.f145 con_spec_l3Vals ann_spec_l3Vals l = (let x0 : Int := (↑(List.length l) : Int);
I_spec_l3Vals_2 l ((0 : Int), PUnit.unit) ∧ ∀ (y : Int × PUnit), I_spec_l3Vals_2 l y → bif decide (y.1 < x0) then (0 : Int) ≤ y.1 ∧ Int.toNat y.1 < List.length l ∧ bif !valOk (List.getD l (Int.toNat y.1) zVal) then Lf [DV.one (Cell.lit (Value.bool false))] [DV.one (Cell.lit (Value.bool (decide (List.length l ≤ (5 : Nat)) && List.all l valOk)))] else I_spec_l3Vals_2 l (IntKind.wrap IntKind.i64 (y.1 + (1 : Int)), PUnit.unit) ∧ μ_spec_l3Vals_2 l (IntKind.wrap IntKind.i64 (y.1 + (1 : Int)), PUnit.unit) < μ_spec_l3Vals_2 l y else Lf [DV.one (Cell.lit (Value.bool (decide (x0 ≤ (5 : Int)))))] [DV.one (Cell.lit (Value.bool (decide (List.length l ≤ (5 : Nat)) && List.all l valOk)))]) := by kernel_rfl
theorem ok_spec_l3Vals : Holds EE (145, con_spec_l3Vals) := by
  refine holds_of EE_ok Go.Proofs.Try.func145 con_spec_l3Vals (by kernel_rfl) rfl use_spec_l3Vals (all_cons ok_spec_ValOk all_nil) ann_spec_l3Vals (fun (l : (List DVal)) hp hb => ?_)
  have hb_l : BdDV (U := UU) (.one (.sl .eVal l)) := hb _ (List.mem_cons_self)
  have hl_l : l.length ≤ 9223372036854775807 := Bd.len hb_l
  clear hp hb
  rw [vc_spec_l3Vals l]
  dsimp only
  refine ⟨⟨by omega, by omega, rfl⟩, ?_⟩
  rintro ⟨i, ⟨⟩⟩ ⟨h1, h2, hR⟩
  simp only
  refine if_cond (fun hc => ?_) (fun hc => ?_)
  · have hc := of_decide_eq_true hc
    rw [all_step _ _ zVal h1 (by omega)] at hR
    rw [wrap_i64 (by omega) (by omega)]
    refine ⟨by omega, by omega, if_cond (fun h => Lf_ff ?_) (fun h => ⟨⟨by omega, by omega, ?_⟩, ?_⟩)⟩
    · rw [← hR]; simp at h; simp [h]
    · rw [← hR]; simp at h; simp [h]
    · simp only [μ_spec_l3Vals_2]; omega
  · have hc := of_decide_eq_false hc
    rw [drop_end _ (by omega)] at hR
    refine Lf_b ?_
    rw [← hR]; simp; omega
def con_spec_FactOk : Con UU where
  α := DFact
  md := [.ro]
  of := fun | [.agg [.lit (.string a0), .sl .eVal a1]] => some ⟨a0, a1⟩ | _ => none
  ds := fun f => [.agg [.lit (.string f.Kind), .sl .eVal f.Fields]]
  pre := fun f => []
  res := fun f => ⟨[.one (.lit (.bool (factOk f)))], true, []⟩
  law := by intro l x h; (try simp only at h); split at h <;> cases h; rfl
def ann_spec_FactOk : con_spec_FactOk.α → Nat → Option (Ann UU) := fun f => annL []
def use_spec_FactOk : List (FuncId × Con UU) := [(78, con_spec_NameOk), (145, con_spec_l3Vals)]
theorem vc_spec_FactOk (f : DFact) : goal EE use_spec_FactOk Go.Proofs.Try.f70 con_spec_FactOk ann_spec_FactOk f = (bif nameOk f.Kind then Lf [DV.one (Cell.lit (Value.bool (decide (List.length f.Fields ≤ (5 : Nat)) && List.all f.Fields valOk)))] [DV.one (Cell.lit (Value.bool (factOk f)))] else Lf [DV.one (Cell.lit (Value.bool false))] [DV.one (Cell.lit (Value.bool (factOk f)))]) := by kernel_rfl
theorem ok_spec_FactOk : Holds EE (70, con_spec_FactOk) := by
  refine holds_of EE_ok Go.Proofs.Try.func70 con_spec_FactOk (by kernel_rfl) rfl use_spec_FactOk (all_cons ok_spec_NameOk (all_cons ok_spec_l3Vals all_nil)) ann_spec_FactOk (fun (f : DFact) hp hb => ?_)
  have hb_f : BdDV (U := UU) (.agg [.lit (.string f.Kind), .sl .eVal f.Fields]) := hb _ (List.mem_cons_self)
  have hl_f_Kind : f.Kind.size ≤ 9223372036854775807 := Bd.str (hb_f _ (by simp))
  have hl_f_Fields : f.Fields.length ≤ 9223372036854775807 := Bd.len (U := UU) (τ := .eVal) (xs := f.Fields) (hb_f _ (by simp))
  clear hp hb
  rw [vc_spec_FactOk f]
  simp only [factOk]
  refine if_cond (fun h => Lf_b ?_) (fun h => Lf_b ?_) <;> grind
def con_impl_FactOk : Con UU where
  α := DFact
  md := [.ro]
  of := fun | [.agg [.lit (.string a0), .sl .eVal a1]] => some ⟨a0, a1⟩ | _ => none
  ds := fun f => [.agg [.lit (.string f.Kind), .sl .eVal f.Fields]]
  pre := fun f => []
  res := fun f => ⟨[.one (.lit (.bool (factOk f)))], true, []⟩
  law := by intro l x h; (try simp only at h); split at h <;> cases h; rfl
def I_impl_FactOk_4 (f : DFact) : Int × Unit → Prop := fun (i, _) => 0 ≤ i ∧ i ≤ f.Fields.length ∧ f.Fields.length ≤ 5 ∧ nameOk f.Kind = true ∧ (f.Fields.drop i.toNat).all valOk = f.Fields.all valOk
def μ_impl_FactOk_4 (f : DFact) : Int × Unit → Nat := fun (i, _) => f.Fields.length - i.toNat
def ann_impl_FactOk : con_impl_FactOk.α → Nat → Option (Ann UU) := fun f => annL [(4, annOf [.slot 18 (18, 1024) (.lit (.int .i64))] (fun _ => I_impl_FactOk_4 f) (μ_impl_FactOk_4 f))]
def use_impl_FactOk : List (FuncId × Con UU) := [(147, con_impl_NameOk), (148, con_impl_ValOk)]
theorem vc_impl_FactOk (f : DFact) : goal EE use_impl_FactOk Go.Proofs.Try.f73 con_impl_FactOk ann_impl_FactOk f = (let x0 : Int := (↑(List.length f.Fields) : Int);
bif !nameOk f.Kind then Lf [DV.one (Cell.lit (Value.bool false))] [DV.one (Cell.lit (Value.bool (factOk f)))] else bif decide (x0 > (5 : Int)) then Lf [DV.one (Cell.lit (Value.bool false))] [DV.one (Cell.lit (Value.bool (factOk f)))] else I_impl_FactOk_4 f ((0 : Int), PUnit.unit) ∧ ∀ (y : Int × PUnit), I_impl_FactOk_4 f y → bif decide (y.1 < x0) then (0 : Int) ≤ y.1 ∧ Int.toNat y.1 < List.length f.Fields ∧ bif !valOk (List.getD f.Fields (Int.toNat y.1) zVal) then Lf [DV.one (Cell.lit (Value.bool false))] [DV.one (Cell.lit (Value.bool (factOk f)))] else I_impl_FactOk_4 f (IntKind.wrap IntKind.i64 (y.1 + (1 : Int)), PUnit.unit) ∧ μ_impl_FactOk_4 f (IntKind.wrap IntKind.i64 (y.1 + (1 : Int)), PUnit.unit) < μ_impl_FactOk_4 f y else Lf [DV.one (Cell.lit (Value.bool true))] [DV.one (Cell.lit (Value.bool (factOk f)))]) := by kernel_rfl
theorem ok_impl_FactOk : Holds EE (73, con_impl_FactOk) := by
  refine holds_of EE_ok Go.Proofs.Try.func73 con_impl_FactOk (by kernel_rfl) rfl use_impl_FactOk (all_cons ok_impl_NameOk (all_cons ok_impl_ValOk all_nil)) ann_impl_FactOk (fun (f : DFact) hp hb => ?_)
  have hb_f : BdDV (U := UU) (.agg [.lit (.string f.Kind), .sl .eVal f.Fields]) := hb _ (List.mem_cons_self)
  have hl_f_Kind : f.Kind.size ≤ 9223372036854775807 := Bd.str (hb_f _ (by simp))
  have hl_f_Fields : f.Fields.length ≤ 9223372036854775807 := Bd.len (U := UU) (τ := .eVal) (xs := f.Fields) (hb_f _ (by simp))
  clear hp hb
  rw [vc_impl_FactOk f]
  dsimp only
  refine if_cond (fun h => Lf_b ?_) (fun h => if_cond (fun h' => Lf_b ?_) (fun h' => ⟨⟨by omega, by omega, by simp at h'; omega, by simpa using h, rfl⟩, ?_⟩))
  · simp only [factOk]; grind
  · simp only [factOk]; grind
  rintro ⟨i, ⟨⟩⟩ ⟨h1, h2, h3, h4, hR⟩
  simp only
  refine if_cond (fun hc => ?_) (fun hc => ?_)
  · have hc := of_decide_eq_true hc
    rw [all_step _ _ zVal h1 (by omega)] at hR
    rw [wrap_i64 (by omega) (by omega)]
    refine ⟨by omega, by omega, if_cond (fun h => Lf_ff ?_) (fun h => ⟨⟨by omega, by omega, by omega, h4, ?_⟩, ?_⟩)⟩
    · simp only [factOk]; rw [← hR]; simp at h; simp [h]
    · rw [← hR]; simp at h; simp [h]
    · simp only [μ_impl_FactOk_4]; omega
  · have hc := of_decide_eq_false hc
    rw [drop_end _ (by omega)] at hR
    refine Lf_b ?_
    simp only [factOk, ← hR, h4]; simp; omega
def con_laws_markText : Con UU where
  α := Int
  md := [.ro]
  of := fun | [.one (.lit (.int .i64 a0))] => some a0 | _ => none
  ds := fun k => [.one (.lit (.int .i64 k))]
  pre := fun k => [k ≤ 4611686018427387903]
  res := fun k => ⟨[.one (.lit (.string (markText k)))], true, []⟩
  law := by intro l x h; (try simp only at h); split at h <;> cases h; rfl
def I_laws_markText_4 (k : Int) : Int × ByteArray × Unit → Prop := fun (j, out, _) => 0 ≤ j ∧ j ≤ k ∧ (∃ l d, out = ⟨l.toArray⟩ ∧ j.toNat ≤ d ∧ mtl d j.toNat l = mtl k.toNat k.toNat [] ∧ l.length ≤ k - j)
def μ_laws_markText_4 (k : Int) : Int × ByteArray × Unit → Nat := fun (j, out, _) => j.toNat
def ann_laws_markText : con_laws_markText.α → Nat → Option (Ann UU) := fun k => annL [(4, annOf [.slot 0 (0, 1024) (.lit (.int .i64)), .slot 3 (3, 1024) (.lit .str)] (fun _ => I_laws_markText_4 k) (μ_laws_markText_4 k))]
def use_laws_markText : List (FuncId × Con UU) := []
theorem vc_laws_markText (k : Int) : goal EE use_laws_markText Go.Proofs.Try.f89 con_laws_markText ann_laws_markText k = (bif decide (k ≤ (0 : Int)) then Lf [DV.one (Cell.lit (Value.string { data := #[(109 : UInt8), (48 : UInt8)] : ByteArray }))] [DV.one (Cell.lit (Value.string (markText k)))]
else
  I_laws_markText_4 k (k, { data := #[] : ByteArray }, PUnit.unit) ∧
    ∀ (y : Int × ByteArray × PUnit),
      let x0 : Nat := ByteArray.size y.2.1;
      let x1 : ByteArray := strOfNums (List.map (fun (x : Cd.T Cd.byte) => x) [IntKind.wrap IntKind.u8 (IntKind.wrap IntKind.i64 ((48 : Int) + Int.tmod y.1 (10 : Int)))]);
      I_laws_markText_4 k y → bif decide (y.1 > (0 : Int)) then (10 : Int) ≠ (0 : Int) ∧ ByteArray.size x1 + x0 ≤ (4611686018427387904 : Nat) ∧ (10 : Int) ≠ (0 : Int) ∧ I_laws_markText_4 k (IntKind.wrap IntKind.i64 (Int.tdiv y.1 (10 : Int)), x1 ++ y.2.1, PUnit.unit) ∧ μ_laws_markText_4 k (IntKind.wrap IntKind.i64 (Int.tdiv y.1 (10 : Int)), x1 ++ y.2.1, PUnit.unit) < μ_laws_markText_4 k y else ByteArray.size { data := #[(109 : UInt8)] : ByteArray } + x0 ≤ (4611686018427387904 : Nat) ∧ Lf [DV.one (Cell.lit (Value.string ({ data := #[(109 : UInt8)] : ByteArray } ++ y.2.1)))] [DV.one (Cell.lit (Value.string (markText k)))]) := by kernel_rfl
theorem ok_laws_markText : Holds EE (89, con_laws_markText) := by
  refine holds_of EE_ok Go.Proofs.Try.func89 con_laws_markText (by kernel_rfl) rfl use_laws_markText all_nil ann_laws_markText (fun (k : Int) hp hb => ?_)
  have hb_k : BdDV (U := UU) (.one (.lit (.int .i64 k))) := hb _ (List.mem_cons_self)
  have hl_k := Bd.i64 hb_k
  have hp0 : k ≤ 4611686018427387903 := hp _ (List.mem_cons_self)
  clear hp hb
  rw [vc_laws_markText k]
  dsimp only
  refine if_cond (fun h => Lf_s ?_) (fun h => ?_)
  · have h := of_decide_eq_true h; simp only [markText]; rw [if_pos h]
  have h0 := of_decide_eq_false h
  refine ⟨⟨by omega, by omega, [], k.toNat, rfl, Nat.le_refl _, rfl, by simp⟩, ?_⟩
  rintro ⟨j, out, ⟨⟩⟩ ⟨h1, h2, l, d, rfl, hd, hm, hl⟩
  simp only
  have hz : ∀ l : List UInt8, (ByteArray.mk l.toArray).size = l.length := fun l => by simp [ByteArray.size]
  refine if_cond (fun h => ?_) (fun h => ?_)
  · have h := of_decide_eq_true h
    have ht : Int.tmod j 10 = j % 10 := Int.tmod_eq_emod_of_nonneg h1
    have hq : Int.tdiv j 10 = j / 10 := Int.tdiv_eq_ediv_of_nonneg h1
    have hu : IntKind.wrap .u8 (48 + j % 10) = 48 + j % 10 := by simp only [IntKind.wrap]; simp [IntKind.bits, IntKind.signed]; omega
    rw [ht, hq, wrap_i64 (by omega) (by omega), wrap_i64 (by omega) (by omega), hu]
    have hs : ∀ l : List UInt8, strOfNums (List.map (fun (x : Int) => x) [48 + j % 10]) ++ (⟨l.toArray⟩ : ByteArray) = ⟨((UInt8.ofNat (48 + j.toNat % 10)) :: l).toArray⟩ := fun l => by
      have e : (48 + j % 10).toNat = 48 + j.toNat % 10 := by omega
      simp only [strOfNums, List.map_cons, List.map_nil, e]
      apply ByteArray.ext
      simp
    have hs1 : (strOfNums (List.map (fun (x : Int) => x) [48 + j % 10])).size = 1 := rfl
    refine ⟨by omega, by erw [hs1]; rw [hz]; omega, by omega, ⟨by omega, by omega, _, d - 1, hs l, by omega, ?_, by simp only [List.length_cons]; omega⟩, by simp only [μ_laws_markText_4]; omega⟩
    rw [← hm]
    obtain ⟨d, rfl⟩ : ∃ e, d = e + 1 := ⟨d - 1, by omega⟩
    have e : (j / 10).toNat = j.toNat / 10 := by omega
    rw [e]
    simp only [Nat.add_sub_cancel, mtl]
    rw [if_neg (by omega)]
  · have h := of_decide_eq_false h
    have hj : j.toNat = 0 := by omega
    rw [hj, mtl_zero] at hm
    refine ⟨by rw [hz]; simp [ByteArray.size]; omega, Lf_s ?_⟩
    simp only [markText]
    rw [if_neg h0, ← hm]
    apply ByteArray.ext
    simp
def con_laws_eqByteS : Con UU where
  α := (List Int) × (List Int)
  md := [.ro, .ro]
  of := fun | [.one (.sl .byte a0), .one (.sl .byte a1)] => some (a0, a1) | _ => none
  ds := fun (a, b) => [.one (.sl .byte a), .one (.sl .byte b)]
  pre := fun (a, b) => []
  res := fun (a, b) => ⟨[.one (.lit (.bool (decide (a = b))))], true, []⟩
  law := by intro l x h; (try simp only at h); split at h <;> cases h; rfl
def I_laws_eqByteS_4 (a : (List Int)) (b : (List Int)) : Int × Unit → Prop := fun (i, _) => 0 ≤ i ∧ i ≤ a.length ∧ a.length = b.length ∧ (a.drop i.toNat = b.drop i.toNat ↔ a = b)
def μ_laws_eqByteS_4 (a : (List Int)) (b : (List Int)) : Int × Unit → Nat := fun (i, _) => a.length - i.toNat
def ann_laws_eqByteS : con_laws_eqByteS.α → Nat → Option (Ann UU) := fun (a, b) => annL [(4, annOf [.slot 5 (5, 1024) (.lit (.int .i64))] (fun _ => I_laws_eqByteS_4 a b) (μ_laws_eqByteS_4 a b))]
def use_laws_eqByteS : List (FuncId × Con UU) := []
theorem vc_laws_eqByteS (a : (List Int)) (b : (List Int)) : goal EE use_laws_eqByteS Go.Proofs.Try.f34 con_laws_eqByteS ann_laws_eqByteS (a, b) = (bif (↑(List.length a) : Int) != (↑(List.length b) : Int) then Lf [DV.one (Cell.lit (Value.bool false))] [DV.one (Cell.lit (Value.bool (decide (a = b))))] else I_laws_eqByteS_4 a b ((0 : Int), PUnit.unit) ∧ ∀ (y : Int × PUnit), I_laws_eqByteS_4 a b y → bif decide (y.1 < (↑(List.length a) : Int)) then (0 : Int) ≤ y.1 ∧ Int.toNat y.1 < List.length a ∧ (0 : Int) ≤ y.1 ∧ Int.toNat y.1 < List.length b ∧ bif List.getD a (Int.toNat y.1) (0 : Int) != List.getD b (Int.toNat y.1) (0 : Int) then Lf [DV.one (Cell.lit (Value.bool false))] [DV.one (Cell.lit (Value.bool (decide (a = b))))] else I_laws_eqByteS_4 a b (IntKind.wrap IntKind.i64 (y.1 + (1 : Int)), PUnit.unit) ∧ μ_laws_eqByteS_4 a b (IntKind.wrap IntKind.i64 (y.1 + (1 : Int)), PUnit.unit) < μ_laws_eqByteS_4 a b y else Lf [DV.one (Cell.lit (Value.bool true))] [DV.one (Cell.lit (Value.bool (decide (a = b))))]) := by kernel_rfl
theorem ok_laws_eqByteS : Holds EE (34, con_laws_eqByteS) := by
  refine holds_of EE_ok Go.Proofs.Try.func34 con_laws_eqByteS (by kernel_rfl) rfl use_laws_eqByteS all_nil ann_laws_eqByteS (fun x hp hb => ?_)
  obtain ⟨a, b⟩ := x
  have hb_a : BdDV (U := UU) (.one (.sl .byte a)) := hb _ (List.mem_cons_self)
  have hl_a : a.length ≤ 9223372036854775807 := Bd.len hb_a
  have hb_b : BdDV (U := UU) (.one (.sl .byte b)) := hb _ (List.mem_cons_of_mem _ (List.mem_cons_self))
  have hl_b : b.length ≤ 9223372036854775807 := Bd.len hb_b
  clear hp hb
  rw [vc_laws_eqByteS a b]
  refine if_cond (fun h => Lf_f ?_) (fun h => ⟨?_, ?_⟩)
  · rintro rfl; simp at h
  · simp [I_laws_eqByteS_4] at *; omega
  rintro ⟨i, ⟨⟩⟩ ⟨h1, h2, h3, hR⟩
  simp only at *
  refine if_cond (fun hc => ?_) (fun hc => ?_)
  · have hc : i < a.length := by simpa using hc
    rw [drop_step a (0 : Int) h1 hc, drop_step b (0 : Int) h1 (by omega)] at hR
    rw [wrap_i64 (by omega) (by omega)]
    refine ⟨by omega, by omega, by omega, by omega, if_cond (fun h => Lf_f ?_) (fun h => ⟨⟨by omega, by omega, h3, ?_⟩, ?_⟩)⟩
    · rw [← hR]; simp at h; simp [h]
    · rw [← hR]; simp at h; simp [h]
    · simp only [μ_laws_eqByteS_4]; omega
  · have hc : a.length ≤ i := by simpa using hc
    rw [drop_end a hc, drop_end b (by omega)] at hR
    exact Lf_t (hR.1 rfl)
def con_laws_markByteS : Con UU where
  α := (List Int) × Int
  md := [.wr, .ro]
  of := fun | [.one (.sl .byte a0), .one (.lit (.int .i64 a1))] => some (a0, a1) | _ => none
  ds := fun (a, k) => [.one (.sl .byte a), .one (.lit (.int .i64 k))]
  pre := fun (a, k) => [0 ≤ k, k + cntByteS a ≤ 4611686018427387904]
  res := fun (a, k) => ⟨[.one (.lit (.int .i64 (k + cntByteS a)))], true, [.one (.sl .byte (markByteS a k))]⟩
  law := by intro l x h; (try simp only at h); split at h <;> cases h; rfl
def I_laws_markByteS_2 (a : (List Int)) (k : Int) : List Int × Int × Int × Unit → Prop := fun (row, kk, i, _) => 0 ≤ i ∧ i ≤ a.length ∧ row = (mkS (fun _ k => markByte k) (fun _ => 1) a k).take i.toNat ++ a.drop i.toNat ∧ kk = k + ctS (fun _ => 1) (a.take i.toNat)
def μ_laws_markByteS_2 (a : (List Int)) (k : Int) : List Int × Int × Int × Unit → Nat := fun (row, kk, i, _) => a.length - i.toNat
def ann_laws_markByteS : con_laws_markByteS.α → Nat → Option (Ann UU) := fun (a, k) => annL [(2, annOf [.slot 0 (2000000, 0) (.own .byte true), .slot 1 (1, 1024) (.lit (.int .i64)), .slot 5 (5, 1024) (.lit (.int .i64))] (fun _ => I_laws_markByteS_2 a k) (μ_laws_markByteS_2 a k))]
def use_laws_markByteS : List (FuncId × Con UU) := []
theorem vc_laws_markByteS (a : (List Int)) (k : Int) : goal EE use_laws_markByteS Go.Proofs.Try.f36 con_laws_markByteS ann_laws_markByteS (a, k) = (I_laws_markByteS_2 a k (a, k, (0 : Int), PUnit.unit) ∧
  ∀ (y : List Int × Int × Int × PUnit),
    let x0 : Nat := Int.toNat y.2.2.1;
    I_laws_markByteS_2 a k y → bif decide (y.2.2.1 < (↑(List.length y.1) : Int)) then (0 : Int) ≤ y.2.2.1 ∧ x0 < List.length y.1 ∧ x0 < List.length y.1 ∧ I_laws_markByteS_2 a k (List.set y.1 x0 (IntKind.wrap IntKind.u8 y.2.1), IntKind.wrap IntKind.i64 (y.2.1 + (1 : Int)), IntKind.wrap IntKind.i64 (y.2.2.1 + (1 : Int)), PUnit.unit) ∧ μ_laws_markByteS_2 a k (List.set y.1 x0 (IntKind.wrap IntKind.u8 y.2.1), IntKind.wrap IntKind.i64 (y.2.1 + (1 : Int)), IntKind.wrap IntKind.i64 (y.2.2.1 + (1 : Int)), PUnit.unit) < μ_laws_markByteS_2 a k y else asD [DV.one (Cell.lit (Value.int IntKind.i64 y.2.1))] = asD [DV.one (Cell.lit (Value.int IntKind.i64 (k + (↑(cntByteS a) : Int))))] ∧ asD [DV.one (Cell.sl Cd.byte y.1)] = asD [DV.one (Cell.sl Cd.byte (markByteS a k))]) := by kernel_rfl
theorem ok_laws_markByteS : Holds EE (36, con_laws_markByteS) := by
  refine holds_of EE_ok Go.Proofs.Try.func36 con_laws_markByteS (by kernel_rfl) rfl use_laws_markByteS all_nil ann_laws_markByteS (fun x hp hb => ?_)
  obtain ⟨a, k⟩ := x
  have hb_a : BdDV (U := UU) (.one (.sl .byte a)) := hb _ (List.mem_cons_self)
  have hl_a : a.length ≤ 9223372036854775807 := Bd.len hb_a
  have hb_k : BdDV (U := UU) (.one (.lit (.int .i64 k))) := hb _ (List.mem_cons_of_mem _ (List.mem_cons_self))
  have hl_k := Bd.i64 hb_k
  have hp0 : 0 ≤ k := hp _ (List.mem_cons_self)
  have hp1 : k + cntByteS a ≤ 4611686018427387904 := hp _ (List.mem_cons_of_mem _ (List.mem_cons_self))
  clear hp hb
  rw [vc_laws_markByteS a k]
  dsimp only
  refine ⟨⟨by omega, by omega, by simp, by simp [ctS]⟩, ?_⟩
  rintro ⟨row, kk, i, ⟨⟩⟩ ⟨h1, h2, rfl, rfl⟩
  simp only
  have hl := mk_rl (fun _ k => markByte k) (fun _ => 1) a k h1 h2
  refine if_cond (fun hc => ?_) (fun hc => ?_)
  · have hc : i < a.length := by have hc := of_decide_eq_true hc; omega
    have hct := ctS_take (fun _ => 1) a (0 : Int) h1 hc
    have hle := ctS_take_le (fun _ => 1) a (i + 1).toNat
    have hg := mk_getD _ a (0 : Int) (mk_tl (fun _ k => markByte k) (fun _ => 1) a k h1 h2) h1 hc
    have hM := mkS_step (fun _ k => markByte k) (fun _ => 1) a (0 : Int) k h1 hc
    have hq : (cntByteS a : Int) = ctS (fun _ => 1) a := rfl
    generalize List.getD a i.toNat (0 : Int) = x at *
    generalize hkk : k + (ctS (fun _ => 1) (a.take i.toNat) : Int) = kk at *
    generalize List.take i.toNat (mkS (fun _ k => markByte k) (fun _ => 1) a k) ++ List.drop i.toNat a = R at *
    simp (disch := first | omega | (simp only [List.length_modify]; omega)) only [List.length_modify, wrap_i64, getD_modify, modify_modify, hg, hl]
    repeat' (first | refine And.intro (by omega) ?_ | fail)
    exact ⟨⟨by omega, by omega, hM, by omega⟩, by simp only [μ_laws_markByteS_2]; omega⟩
  · have hc : a.length ≤ i := by have hc := of_decide_eq_false hc; omega
    rw [mk_done (fun _ k => markByte k) (fun _ => 1) a k hc, ct_done (fun _ => 1) a hc]
    exact ⟨rfl, rfl⟩
def con_laws_heldByteS : Con UU where
  α := (List Int) × Int
  md := [.ro, .ro]
  of := fun | [.one (.sl .byte a0), .one (.lit (.int .i64 a1))] => some (a0, a1) | _ => none
  ds := fun (a, k) => [.one (.sl .byte a), .one (.lit (.int .i64 k))]
  pre := fun (a, k) => [0 ≤ k, k + cntByteS a ≤ 4611686018427387904]
  res := fun (a, k) => ⟨[.one (.lit (.int .i64 (if markByteS a k = a then k + cntByteS a else -1)))], true, []⟩
  law := by intro l x h; (try simp only at h); split at h <;> cases h; rfl
def I_laws_heldByteS_2 (a : (List Int)) (k : Int) : Int × Int × Unit → Prop := fun (kk, i, _) => 0 ≤ i ∧ i ≤ a.length ∧ kk = k + ctS (fun _ => 1) (a.take i.toNat) ∧ (mkS (fun _ k => markByte k) (fun _ => 1) (a.drop i.toNat) kk = a.drop i.toNat ↔ mkS (fun _ k => markByte k) (fun _ => 1) a k = a)
def μ_laws_heldByteS_2 (a : (List Int)) (k : Int) : Int × Int × Unit → Nat := fun (kk, i, _) => a.length - i.toNat
def ann_laws_heldByteS : con_laws_heldByteS.α → Nat → Option (Ann UU) := fun (a, k) => annL [(2, annOf [.slot 1 (1, 1024) (.lit (.int .i64)), .slot 5 (5, 1024) (.lit (.int .i64))] (fun _ => I_laws_heldByteS_2 a k) (μ_laws_heldByteS_2 a k))]
def use_laws_heldByteS : List (FuncId × Con UU) := []
theorem vc_laws_heldByteS (a : (List Int)) (k : Int) : goal EE use_laws_heldByteS Go.Proofs.Try.f37 con_laws_heldByteS ann_laws_heldByteS (a, k) = (I_laws_heldByteS_2 a k (k, (0 : Int), PUnit.unit) ∧
  ∀ (y : Int × Int × PUnit),
    let x0 : Nat := Int.toNat y.2.1;
    I_laws_heldByteS_2 a k y → bif decide (y.2.1 < (↑(List.length a) : Int)) then (0 : Int) ≤ y.2.1 ∧ x0 < List.length a ∧ bif List.getD a x0 (0 : Int) != IntKind.wrap IntKind.u8 y.1 then Lf [DV.one (Cell.lit (Value.int IntKind.i64 (-1 : Int)))] [DV.one (Cell.lit (Value.int IntKind.i64 (if markByteS a k = a then k + (↑(cntByteS a) : Int) else (-1 : Int))))] else I_laws_heldByteS_2 a k (IntKind.wrap IntKind.i64 (y.1 + (1 : Int)), IntKind.wrap IntKind.i64 (y.2.1 + (1 : Int)), PUnit.unit) ∧ μ_laws_heldByteS_2 a k (IntKind.wrap IntKind.i64 (y.1 + (1 : Int)), IntKind.wrap IntKind.i64 (y.2.1 + (1 : Int)), PUnit.unit) < μ_laws_heldByteS_2 a k y else Lf [DV.one (Cell.lit (Value.int IntKind.i64 y.1))] [DV.one (Cell.lit (Value.int IntKind.i64 (if markByteS a k = a then k + (↑(cntByteS a) : Int) else (-1 : Int))))]) := by kernel_rfl
theorem ok_laws_heldByteS : Holds EE (37, con_laws_heldByteS) := by
  refine holds_of EE_ok Go.Proofs.Try.func37 con_laws_heldByteS (by kernel_rfl) rfl use_laws_heldByteS all_nil ann_laws_heldByteS (fun x hp hb => ?_)
  obtain ⟨a, k⟩ := x
  have hb_a : BdDV (U := UU) (.one (.sl .byte a)) := hb _ (List.mem_cons_self)
  have hl_a : a.length ≤ 9223372036854775807 := Bd.len hb_a
  have hb_k : BdDV (U := UU) (.one (.lit (.int .i64 k))) := hb _ (List.mem_cons_of_mem _ (List.mem_cons_self))
  have hl_k := Bd.i64 hb_k
  have hp0 : 0 ≤ k := hp _ (List.mem_cons_self)
  have hp1 : k + cntByteS a ≤ 4611686018427387904 := hp _ (List.mem_cons_of_mem _ (List.mem_cons_self))
  clear hp hb
  rw [vc_laws_heldByteS a k]
  dsimp only
  refine ⟨⟨by omega, by omega, by simp [ctS], by simp⟩, ?_⟩
  rintro ⟨kk, i, ⟨⟩⟩ ⟨h1, h2, hkk, hR⟩
  simp only
  simp only [markByteS]
  refine if_cond (fun hc => ?_) (fun hc => ?_)
  · have hc : i < a.length := by have hc := of_decide_eq_true hc; omega
    have hct := ctS_take (fun _ => 1) a (0 : Int) h1 hc
    have hle := ctS_take_le (fun _ => 1) a (i + 1).toNat
    have hq : (cntByteS a : Int) = ctS (fun _ => 1) a := rfl
    rw [drop_step a (0 : Int) h1 hc] at hR
    generalize List.getD a i.toNat (0 : Int) = x at *
    simp only [mkS, List.cons.injEq] at hR
    have e : kk + (((1 : Nat) : Int) : Int) = kk + 1 := by rfl
    rw [e] at hR
    skip
    have hmb : ∀ k, IntKind.wrap .u8 k = markByte k := fun _ => rfl
    simp only [hmb]
    simp (disch := omega) only [wrap_i64, bne_int, toList_beq]
    repeat' (first | refine And.intro (by omega) ?_ | fail)
    refine if_cond (fun h => Lf_no (fun hh => ?_)) (fun h => ?_)
    · have hh := hR.2 hh; simp_all
    have h : x = markByte (kk) := by simpa using h
    subst x
    exact ⟨⟨by omega, by omega, by omega, by simpa using hR⟩, by simp only [μ_laws_heldByteS_2]; omega⟩
  · have hc : a.length ≤ i := by have hc := of_decide_eq_false hc; omega
    rw [drop_end a hc] at hR
    exact Lf_yes (hR.1 rfl) (by rw [hkk, ct_done _ _ hc]; rfl)
def con_laws_szVal : Con UU where
  α := DVal × Int
  md := [.ro, .ro]
  of := fun | [.agg [.lit (.int .i64 a0), .lit (.int .i64 a1), .lit (.string a2)], .one (.lit (.int .i64 a3))] => some (⟨a0, a1, a2⟩, a3) | _ => none
  ds := fun (a, left) => [.agg [.lit (.int .i64 a.K), .lit (.int .i64 a.N), .lit (.string a.S)], .one (.lit (.int .i64 left))]
  pre := fun (a, left) => [0 ≤ left]
  res := fun (a, left) => ⟨[.one (.lit (.int .i64 (szr left (sizeVal a))))], true, []⟩
  law := by intro l x h; (try simp only at h); split at h <;> cases h; rfl
def ann_laws_szVal : con_laws_szVal.α → Nat → Option (Ann UU) := fun (a, left) => annL []
def use_laws_szVal : List (FuncId × Con UU) := []
theorem vc_laws_szVal (a : DVal) (left : Int) : goal EE use_laws_szVal Go.Proofs.Try.f76 con_laws_szVal ann_laws_szVal (a, left) = (let x0 : Int := IntKind.wrap IntKind.i64 (left - (↑(ByteArray.size a.S) : Int));
bif decide (x0 < (0 : Int)) then Lf [DV.one (Cell.lit (Value.int IntKind.i64 (-1 : Int)))] [DV.one (Cell.lit (Value.int IntKind.i64 (szr left (sizeVal a))))] else Lf [DV.one (Cell.lit (Value.int IntKind.i64 x0))] [DV.one (Cell.lit (Value.int IntKind.i64 (szr left (sizeVal a))))]) := by kernel_rfl
theorem ok_laws_szVal : Holds EE (76, con_laws_szVal) := by
  refine holds_of EE_ok Go.Proofs.Try.func76 con_laws_szVal (by kernel_rfl) rfl use_laws_szVal all_nil ann_laws_szVal (fun x hp hb => ?_)
  obtain ⟨a, left⟩ := x
  have hb_a : BdDV (U := UU) (.agg [.lit (.int .i64 a.K), .lit (.int .i64 a.N), .lit (.string a.S)]) := hb _ (List.mem_cons_self)
  have hl_a_S : a.S.size ≤ 9223372036854775807 := Bd.str (hb_a _ (by simp))
  have hb_left : BdDV (U := UU) (.one (.lit (.int .i64 left))) := hb _ (List.mem_cons_of_mem _ (List.mem_cons_self))
  have hl_left := Bd.i64 hb_left
  have hp0 : 0 ≤ left := hp _ (List.mem_cons_self)
  clear hp hb
  rw [vc_laws_szVal a left]
  dsimp only
  rw [wrap_i64 (by omega) (by omega)]
  refine if_cond (fun h => Lf_i (szr_bad' ?_)) (fun h => ?_)
  · have h := of_decide_eq_true h; simp only [sizeVal]; omega
  have h0 := of_decide_eq_false h
  exact Lf_i (by rw [← szr_ok' (by simp only [sizeVal]; omega)]; simp only [sizeVal]; try omega)
def con_laws_toVal : Con UU where
  α := DVal
  md := [.ro]
  of := fun | [.agg [.lit (.int .i64 a0), .lit (.int .i64 a1), .lit (.string a2)]] => some ⟨a0, a1, a2⟩ | _ => none
  ds := fun a => [.agg [.lit (.int .i64 a.K), .lit (.int .i64 a.N), .lit (.string a.S)]]
  pre := fun a => [sizeVal a ≤ 4294967296]
  res := fun a => ⟨[.agg [.lit (.int .i64 a.K), .lit (.int .i64 a.N), .lit (.string a.S)]], true, []⟩
  law := by intro l x h; (try simp only at h); split at h <;> cases h; rfl
def ann_laws_toVal : con_laws_toVal.α → Nat → Option (Ann UU) := fun a => annL []
def use_laws_toVal : List (FuncId × Con UU) := []
theorem vc_laws_toVal (a : DVal) : goal EE use_laws_toVal Go.Proofs.Try.f80 con_laws_toVal ann_laws_toVal a = (Lf [DV.agg [Cell.lit (Value.int IntKind.i64 a.K), Cell.lit (Value.int IntKind.i64 a.N), Cell.lit (Value.string a.S)]] [DV.agg [Cell.lit (Value.int IntKind.i64 a.K), Cell.lit (Value.int IntKind.i64 a.N), Cell.lit (Value.string a.S)]]) := by kernel_rfl
theorem ok_laws_toVal : Holds EE (80, con_laws_toVal) := by
  refine holds_of EE_ok Go.Proofs.Try.func80 con_laws_toVal (by kernel_rfl) rfl use_laws_toVal all_nil ann_laws_toVal (fun (a : DVal) hp hb => ?_)
  have hb_a : BdDV (U := UU) (.agg [.lit (.int .i64 a.K), .lit (.int .i64 a.N), .lit (.string a.S)]) := hb _ (List.mem_cons_self)
  have hl_a_S : a.S.size ≤ 9223372036854775807 := Bd.str (hb_a _ (by simp))
  have hp0 : sizeVal a ≤ 4294967296 := hp _ (List.mem_cons_self)
  clear hp hb
  rw [vc_laws_toVal a]
  simp only [sizeVal] at hp0
  repeat' (first | exact Lf_rfl _ | (refine And.intro (by omega) ?_))
def con_laws_eqVal : Con UU where
  α := DVal × DVal
  md := [.ro, .ro]
  of := fun | [.agg [.lit (.int .i64 a0), .lit (.int .i64 a1), .lit (.string a2)], .agg [.lit (.int .i64 a3), .lit (.int .i64 a4), .lit (.string a5)]] => some (⟨a0, a1, a2⟩, ⟨a3, a4, a5⟩) | _ => none
  ds := fun (a, b) => [.agg [.lit (.int .i64 a.K), .lit (.int .i64 a.N), .lit (.string a.S)], .agg [.lit (.int .i64 b.K), .lit (.int .i64 b.N), .lit (.string b.S)]]
  pre := fun (a, b) => []
  res := fun (a, b) => ⟨[.one (.lit (.bool (decide (a = b))))], true, []⟩
  law := by intro l x h; (try simp only at h); split at h <;> cases h; rfl
def ann_laws_eqVal : con_laws_eqVal.α → Nat → Option (Ann UU) := fun (a, b) => annL []
def use_laws_eqVal : List (FuncId × Con UU) := []
theorem vc_laws_eqVal (a : DVal) (b : DVal) : goal EE use_laws_eqVal Go.Proofs.Try.f82 con_laws_eqVal ann_laws_eqVal (a, b) = (bif a.K != b.K then Lf [DV.one (Cell.lit (Value.bool false))] [DV.one (Cell.lit (Value.bool (decide (a = b))))] else bif a.N != b.N then Lf [DV.one (Cell.lit (Value.bool false))] [DV.one (Cell.lit (Value.bool (decide (a = b))))] else bif !ByteArray.toList a.S == ByteArray.toList b.S then Lf [DV.one (Cell.lit (Value.bool false))] [DV.one (Cell.lit (Value.bool (decide (a = b))))] else Lf [DV.one (Cell.lit (Value.bool true))] [DV.one (Cell.lit (Value.bool (decide (a = b))))]) := by kernel_rfl
theorem ok_laws_eqVal : Holds EE (82, con_laws_eqVal) := by
  refine holds_of EE_ok Go.Proofs.Try.func82 con_laws_eqVal (by kernel_rfl) rfl use_laws_eqVal all_nil ann_laws_eqVal (fun x hp hb => ?_)
  obtain ⟨a, b⟩ := x
  have hb_a : BdDV (U := UU) (.agg [.lit (.int .i64 a.K), .lit (.int .i64 a.N), .lit (.string a.S)]) := hb _ (List.mem_cons_self)
  have hl_a_S : a.S.size ≤ 9223372036854775807 := Bd.str (hb_a _ (by simp))
  have hb_b : BdDV (U := UU) (.agg [.lit (.int .i64 b.K), .lit (.int .i64 b.N), .lit (.string b.S)]) := hb _ (List.mem_cons_of_mem _ (List.mem_cons_self))
  have hl_b_S : b.S.size ≤ 9223372036854775807 := Bd.str (hb_b _ (by simp))
  clear hp hb
  rw [vc_laws_eqVal a b]
  obtain ⟨aK, aN, aS⟩ := a
  obtain ⟨bK, bN, bS⟩ := b
  repeat' (apply if_cond <;> intro _)
  all_goals (first | apply Lf_t | apply Lf_f) <;> simp_all
def con_laws_szValS : Con UU where
  α := (List DVal) × Int
  md := [.ro, .ro]
  of := fun | [.one (.sl .lVal a0), .one (.lit (.int .i64 a1))] => some (a0, a1) | _ => none
  ds := fun (a, left) => [.one (.sl .lVal a), .one (.lit (.int .i64 left))]
  pre := fun (a, left) => [0 ≤ left]
  res := fun (a, left) => ⟨[.one (.lit (.int .i64 (szr left (sizeValS a))))], true, []⟩
  law := by intro l x h; (try simp only at h); split at h <;> cases h; rfl
def I_laws_szValS_5 (a : (List DVal)) (left : Int) : Int × Int × Unit → Prop := fun (lf, i, _) => 0 ≤ lf ∧ 0 ≤ i ∧ i ≤ a.length ∧ szr lf ((a.drop i.toNat).map sizeVal).sum = szr left (sizeValS a)
def μ_laws_szValS_5 (a : (List DVal)) (left : Int) : Int × Int × Unit → Nat := fun (lf, i, _) => a.length - i.toNat
def ann_laws_szValS : con_laws_szValS.α → Nat → Option (Ann UU) := fun (a, left) => annL [(5, annOf [.slot 1 (1, 1024) (.lit (.int .i64)), .slot 5 (5, 1024) (.lit (.int .i64))] (fun _ => I_laws_szValS_5 a left) (μ_laws_szValS_5 a left))]
def use_laws_szValS : List (FuncId × Con UU) := [(76, con_laws_szVal)]
theorem vc_laws_szValS (a : (List DVal)) (left : Int) : goal EE use_laws_szValS Go.Proofs.Try.f114 con_laws_szValS ann_laws_szValS (a, left) = (let x0 : Int := IntKind.wrap IntKind.i64 (left - (↑(List.length a) : Int));
bif decide (x0 < (0 : Int)) then Lf [DV.one (Cell.lit (Value.int IntKind.i64 (-1 : Int)))] [DV.one (Cell.lit (Value.int IntKind.i64 (szr left (sizeValS a))))]
else
  I_laws_szValS_5 a left (x0, (0 : Int), PUnit.unit) ∧
    ∀ (y : Int × Int × PUnit),
      let x1 : Int := szr y.1 (sizeVal (List.getD a (Int.toNat y.2.1) zVal));
      I_laws_szValS_5 a left y → bif decide (y.2.1 < (↑(List.length a) : Int)) then (0 : Int) ≤ y.2.1 ∧ Int.toNat y.2.1 < List.length a ∧ (0 : Int) ≤ y.1 ∧ bif decide (x1 < (0 : Int)) then Lf [DV.one (Cell.lit (Value.int IntKind.i64 (-1 : Int)))] [DV.one (Cell.lit (Value.int IntKind.i64 (szr left (sizeValS a))))] else I_laws_szValS_5 a left (x1, IntKind.wrap IntKind.i64 (y.2.1 + (1 : Int)), PUnit.unit) ∧ μ_laws_szValS_5 a left (x1, IntKind.wrap IntKind.i64 (y.2.1 + (1 : Int)), PUnit.unit) < μ_laws_szValS_5 a left y else Lf [DV.one (Cell.lit (Value.int IntKind.i64 y.1))] [DV.one (Cell.lit (Value.int IntKind.i64 (szr left (sizeValS a))))]) := by kernel_rfl
theorem ok_laws_szValS : Holds EE (114, con_laws_szValS) := by
  refine holds_of EE_ok Go.Proofs.Try.func114 con_laws_szValS (by kernel_rfl) rfl use_laws_szValS (all_cons ok_laws_szVal all_nil) ann_laws_szValS (fun x hp hb => ?_)
  obtain ⟨a, left⟩ := x
  have hb_a : BdDV (U := UU) (.one (.sl .lVal a)) := hb _ (List.mem_cons_self)
  have hl_a : a.length ≤ 9223372036854775807 := Bd.len hb_a
  have hb_left : BdDV (U := UU) (.one (.lit (.int .i64 left))) := hb _ (List.mem_cons_of_mem _ (List.mem_cons_self))
  have hl_left := Bd.i64 hb_left
  have hp0 : 0 ≤ left := hp _ (List.mem_cons_self)
  clear hp hb
  rw [vc_laws_szValS a left]
  dsimp only
  rw [wrap_i64 (by omega) (by omega)]
  refine if_cond (fun h => Lf_i ?_) (fun h => ⟨?_, ?_⟩)
  · simp [szr, sizeValS] at *; omega
  · simp only [I_laws_szValS_5, sizeValS]; simp at h; have h' : 0 ≤ left - a.length := by omega
    exact ⟨h', by omega, by omega, szr_sub h'⟩
  rintro ⟨lf, i, ⟨⟩⟩ ⟨h0, h1, h2, hR⟩
  refine if_cond (fun hc => ?_) (fun hc => ?_)
  · have hc : i < a.length := by simpa using hc
    rw [drop_step a zVal h1 hc, List.map_cons, List.sum_cons] at hR
    simp only at *
    rw [wrap_i64 (by omega) (by omega)]
    generalize List.getD a i.toNat zVal = x at *
    refine ⟨by omega, by omega, by omega, if_cond (fun h => Lf_i ?_) (fun h => ⟨⟨?_, by omega, by omega, ?_⟩, ?_⟩)⟩
    · rw [← hR]; exact (szr_bad (of_decide_eq_true h)).symm
    · simp at h; omega
    · rw [← hR]; simp at h; exact szr_szr h
    · simp only [μ_laws_szValS_5]; omega
  · have hc : a.length ≤ i := by simpa using hc
    rw [drop_end a hc] at hR
    apply Lf_i; rw [← hR]; simp [szr, h0]
def con_laws_toValS : Con UU where
  α := (List DVal)
  md := [.ro]
  of := fun | [.one (.sl .lVal a0)] => some a0 | _ => none
  ds := fun a => [.one (.sl .lVal a)]
  pre := fun a => [sizeValS a ≤ 4294967296]
  res := fun a => ⟨[.one (.sl .eVal a)], true, []⟩
  law := by intro l x h; (try simp only at h); split at h <;> cases h; rfl
def I_laws_toValS_3 (a : (List DVal)) : List DVal × Int × Unit → Prop := fun (out, i, _) => 0 ≤ i ∧ i ≤ a.length ∧ out = a.take i.toNat ++ List.replicate (a.length - i.toNat) zVal
def μ_laws_toValS_3 (a : (List DVal)) : List DVal × Int × Unit → Nat := fun (out, i, _) => a.length - i.toNat
def ann_laws_toValS : con_laws_toValS.α → Nat → Option (Ann UU) := fun a => annL [(3, annOf [.slot 3 (3, 1024) (.own .eVal true), .slot 4 (4, 1024) (.lit (.int .i64))] (fun _ => I_laws_toValS_3 a) (μ_laws_toValS_3 a))]
def use_laws_toValS : List (FuncId × Con UU) := [(80, con_laws_toVal)]
theorem vc_laws_toValS (a : (List DVal)) : goal EE use_laws_toValS Go.Proofs.Try.f117 con_laws_toValS ann_laws_toValS a = (let x0 : Int := (↑(List.length a) : Int);
(0 : Int) ≤ x0 ∧
  x0 = x0 ∧
    x0 ≤ (4294967296 : Int) ∧
      I_laws_toValS_3 a (List.replicate (Int.toNat x0) zVal, (0 : Int), PUnit.unit) ∧
        ∀ (y : List DVal × Int × PUnit),
          let x1 : Nat := Int.toNat y.2.1;
          I_laws_toValS_3 a y → bif decide (y.2.1 < x0) then (0 : Int) ≤ y.2.1 ∧ x1 < List.length a ∧ sizeVal (List.getD a x1 zVal) ≤ (4294967296 : Nat) ∧ (0 : Int) ≤ y.2.1 ∧ x1 < List.length y.1 ∧ x1 < List.length y.1 ∧ I_laws_toValS_3 a (List.set y.1 x1 (List.getD a x1 zVal), IntKind.wrap IntKind.i64 (y.2.1 + (1 : Int)), PUnit.unit) ∧ μ_laws_toValS_3 a (List.set y.1 x1 (List.getD a x1 zVal), IntKind.wrap IntKind.i64 (y.2.1 + (1 : Int)), PUnit.unit) < μ_laws_toValS_3 a y else Lf [DV.one (Cell.sl Cd.eVal y.1)] [DV.one (Cell.sl Cd.eVal a)]) := by kernel_rfl
theorem ok_laws_toValS : Holds EE (117, con_laws_toValS) := by
  refine holds_of EE_ok Go.Proofs.Try.func117 con_laws_toValS (by kernel_rfl) rfl use_laws_toValS (all_cons ok_laws_toVal all_nil) ann_laws_toValS (fun (a : (List DVal)) hp hb => ?_)
  have hb_a : BdDV (U := UU) (.one (.sl .lVal a)) := hb _ (List.mem_cons_self)
  have hl_a : a.length ≤ 9223372036854775807 := Bd.len hb_a
  have hp0 : sizeValS a ≤ 4294967296 := hp _ (List.mem_cons_self)
  clear hp hb
  rw [vc_laws_toValS a]
  dsimp only
  have hlen : a.length ≤ 4294967296 := by simp only [sizeValS] at hp0; omega
  refine ⟨by omega, rfl, by omega, ?_, ?_⟩
  · simp [I_laws_toValS_3]
  rintro ⟨out, i, ⟨⟩⟩ ⟨h1, h2, rfl⟩
  simp only at *
  refine if_cond (fun hc => ?_) (fun hc => ?_)
  · have hc : i < a.length := by simpa using hc
    rw [wrap_i64 (by omega) (by omega), set_fill a zVal h1 hc]
    exact ⟨h1, by omega, by exact Nat.le_trans (sum_getD_le sizeVal a zVal h1 hc) (by simp only [sizeValS] at hp0; omega), h1, by simp; omega, by simp; omega, ⟨by omega, by omega, rfl⟩, by simp only [μ_laws_toValS_3]; omega⟩
  · have hc : a.length ≤ i := by simpa using hc
    have e : i.toNat = a.length := by omega
    rw [e]; simp; exact Lf_rfl _
def con_laws_eqValS : Con UU where
  α := (List DVal) × (List DVal)
  md := [.ro, .ro]
  of := fun | [.one (.sl .eVal a0), .one (.sl .eVal a1)] => some (a0, a1) | _ => none
  ds := fun (a, b) => [.one (.sl .eVal a), .one (.sl .eVal b)]
  pre := fun (a, b) => []
  res := fun (a, b) => ⟨[.one (.lit (.bool (decide (a = b))))], true, []⟩
  law := by intro l x h; (try simp only at h); split at h <;> cases h; rfl
def I_laws_eqValS_4 (a : (List DVal)) (b : (List DVal)) : Int × Unit → Prop := fun (i, _) => 0 ≤ i ∧ i ≤ a.length ∧ a.length = b.length ∧ (a.drop i.toNat = b.drop i.toNat ↔ a = b)
def μ_laws_eqValS_4 (a : (List DVal)) (b : (List DVal)) : Int × Unit → Nat := fun (i, _) => a.length - i.toNat
def ann_laws_eqValS : con_laws_eqValS.α → Nat → Option (Ann UU) := fun (a, b) => annL [(4, annOf [.slot 5 (5, 1024) (.lit (.int .i64))] (fun _ => I_laws_eqValS_4 a b) (μ_laws_eqValS_4 a b))]
def use_laws_eqValS : List (FuncId × Con UU) := [(82, con_laws_eqVal)]
theorem vc_laws_eqValS (a : (List DVal)) (b : (List DVal)) : goal EE use_laws_eqValS Go.Proofs.Try.f120 con_laws_eqValS ann_laws_eqValS (a, b) = (bif (↑(List.length a) : Int) != (↑(List.length b) : Int) then Lf [DV.one (Cell.lit (Value.bool false))] [DV.one (Cell.lit (Value.bool (decide (a = b))))] else I_laws_eqValS_4 a b ((0 : Int), PUnit.unit) ∧ ∀ (y : Int × PUnit), I_laws_eqValS_4 a b y → bif decide (y.1 < (↑(List.length a) : Int)) then (0 : Int) ≤ y.1 ∧ Int.toNat y.1 < List.length a ∧ (0 : Int) ≤ y.1 ∧ Int.toNat y.1 < List.length b ∧ bif !decide (List.getD a (Int.toNat y.1) zVal = List.getD b (Int.toNat y.1) zVal) then Lf [DV.one (Cell.lit (Value.bool false))] [DV.one (Cell.lit (Value.bool (decide (a = b))))] else I_laws_eqValS_4 a b (IntKind.wrap IntKind.i64 (y.1 + (1 : Int)), PUnit.unit) ∧ μ_laws_eqValS_4 a b (IntKind.wrap IntKind.i64 (y.1 + (1 : Int)), PUnit.unit) < μ_laws_eqValS_4 a b y else Lf [DV.one (Cell.lit (Value.bool true))] [DV.one (Cell.lit (Value.bool (decide (a = b))))]) := by kernel_rfl
theorem ok_laws_eqValS : Holds EE (120, con_laws_eqValS) := by
  refine holds_of EE_ok Go.Proofs.Try.func120 con_laws_eqValS (by kernel_rfl) rfl use_laws_eqValS (all_cons ok_laws_eqVal all_nil) ann_laws_eqValS (fun x hp hb => ?_)
  obtain ⟨a, b⟩ := x
  have hb_a : BdDV (U := UU) (.one (.sl .eVal a)) := hb _ (List.mem_cons_self)
  have hl_a : a.length ≤ 9223372036854775807 := Bd.len hb_a
  have hb_b : BdDV (U := UU) (.one (.sl .eVal b)) := hb _ (List.mem_cons_of_mem _ (List.mem_cons_self))
  have hl_b : b.length ≤ 9223372036854775807 := Bd.len hb_b
  clear hp hb
  rw [vc_laws_eqValS a b]
  refine if_cond (fun h => Lf_f ?_) (fun h => ⟨?_, ?_⟩)
  · rintro rfl; simp at h
  · simp [I_laws_eqValS_4] at *; omega
  rintro ⟨i, ⟨⟩⟩ ⟨h1, h2, h3, hR⟩
  simp only at *
  refine if_cond (fun hc => ?_) (fun hc => ?_)
  · have hc : i < a.length := by simpa using hc
    rw [drop_step a zVal h1 hc, drop_step b zVal h1 (by omega)] at hR
    rw [wrap_i64 (by omega) (by omega)]
    refine ⟨by omega, by omega, by omega, by omega, if_cond (fun h => Lf_f ?_) (fun h => ⟨⟨by omega, by omega, h3, ?_⟩, ?_⟩)⟩
    · rw [← hR]; simp at h; simp [h]
    · rw [← hR]; simp at h; simp [h]
    · simp only [μ_laws_eqValS_4]; omega
  · have hc : a.length ≤ i := by simpa using hc
    rw [drop_end a hc, drop_end b (by omega)] at hR
    exact Lf_t (hR.1 rfl)
def con_laws_markValS : Con UU where
  α := (List DVal) × Int
  md := [.wr, .ro]
  of := fun | [.one (.sl .eVal a0), .one (.lit (.int .i64 a1))] => some (a0, a1) | _ => none
  ds := fun (a, k) => [.one (.sl .eVal a), .one (.lit (.int .i64 k))]
  pre := fun (a, k) => [0 ≤ k, k + cntValS a ≤ 4611686018427387904]
  res := fun (a, k) => ⟨[.one (.lit (.int .i64 (k + cntValS a)))], true, [.one (.sl .eVal (markValS a k))]⟩
  law := by intro l x h; (try simp only at h); split at h <;> cases h; rfl
def I_laws_markValS_2 (a : (List DVal)) (k : Int) : List DVal × Int × Int × Unit → Prop := fun (row, kk, i, _) => 0 ≤ i ∧ i ≤ a.length ∧ row = (mkS markVal cntVal a k).take i.toNat ++ a.drop i.toNat ∧ kk = k + ctS cntVal (a.take i.toNat)
def μ_laws_markValS_2 (a : (List DVal)) (k : Int) : List DVal × Int × Int × Unit → Nat := fun (row, kk, i, _) => a.length - i.toNat
def ann_laws_markValS : con_laws_markValS.α → Nat → Option (Ann UU) := fun (a, k) => annL [(2, annOf [.slot 0 (2000000, 0) (.own .eVal true), .slot 1 (1, 1024) (.lit (.int .i64)), .slot 5 (5, 1024) (.lit (.int .i64))] (fun _ => I_laws_markValS_2 a k) (μ_laws_markValS_2 a k))]
def use_laws_markValS : List (FuncId × Con UU) := [(89, con_laws_markText)]
theorem vc_laws_markValS (a : (List DVal)) (k : Int) : goal EE use_laws_markValS Go.Proofs.Try.f90 con_laws_markValS ann_laws_markValS (a, k) = (I_laws_markValS_2 a k (a, k, (0 : Int), PUnit.unit) ∧
  ∀ (y : List DVal × Int × Int × PUnit),
    let x0 : Nat := Int.toNat y.2.2.1;
    let x1 : Int := IntKind.wrap IntKind.i64 (IntKind.wrap IntKind.i64 (y.2.1 + (1 : Int)) + (1 : Int));
    let x2 : List DVal := List.modify (List.modify y.1 x0 fun (x : DVal) => { K := y.2.1, N := x.N, S := x.S : DVal }) x0 fun (x : DVal) => { K := x.K, N := IntKind.wrap IntKind.i64 (y.2.1 + (1 : Int)), S := x.S : DVal };
    I_laws_markValS_2 a k y → bif decide (y.2.2.1 < (↑(List.length y.1) : Int)) then (0 : Int) ≤ y.2.2.1 ∧ x0 < List.length y.1 ∧ x0 < List.length y.1 ∧ (0 : Int) ≤ y.2.2.1 ∧ x0 < List.length (List.modify y.1 x0 fun (x : DVal) => { K := y.2.1, N := x.N, S := x.S : DVal }) ∧ x0 < List.length (List.modify y.1 x0 fun (x : DVal) => { K := y.2.1, N := x.N, S := x.S : DVal }) ∧ x1 ≤ (4611686018427387903 : Int) ∧ (0 : Int) ≤ y.2.2.1 ∧ x0 < List.length x2 ∧ x0 < List.length x2 ∧ I_laws_markValS_2 a k (List.modify x2 x0 fun (x : DVal) => { K := x.K, N := x.N, S := markText x1 : DVal }, IntKind.wrap IntKind.i64 (x1 + (1 : Int)), IntKind.wrap IntKind.i64 (y.2.2.1 + (1 : Int)), PUnit.unit) ∧ μ_laws_markValS_2 a k (List.modify x2 x0 fun (x : DVal) => { K := x.K, N := x.N, S := markText x1 : DVal }, IntKind.wrap IntKind.i64 (x1 + (1 : Int)), IntKind.wrap IntKind.i64 (y.2.2.1 + (1 : Int)), PUnit.unit) < μ_laws_markValS_2 a k y else asD [DV.one (Cell.lit (Value.int IntKind.i64 y.2.1))] = asD [DV.one (Cell.lit (Value.int IntKind.i64 (k + (↑(cntValS a) : Int))))] ∧ asD [DV.one (Cell.sl Cd.eVal y.1)] = asD [DV.one (Cell.sl Cd.eVal (markValS a k))]) := by kernel_rfl
theorem ok_laws_markValS : Holds EE (90, con_laws_markValS) := by
  refine holds_of EE_ok Go.Proofs.Try.func90 con_laws_markValS (by kernel_rfl) rfl use_laws_markValS (all_cons ok_laws_markText all_nil) ann_laws_markValS (fun x hp hb => ?_)
  obtain ⟨a, k⟩ := x
  have hb_a : BdDV (U := UU) (.one (.sl .eVal a)) := hb _ (List.mem_cons_self)
  have hl_a : a.length ≤ 9223372036854775807 := Bd.len hb_a
  have hb_k : BdDV (U := UU) (.one (.lit (.int .i64 k))) := hb _ (List.mem_cons_of_mem _ (List.mem_cons_self))
  have hl_k := Bd.i64 hb_k
  have hp0 : 0 ≤ k := hp _ (List.mem_cons_self)
  have hp1 : k + cntValS a ≤ 4611686018427387904 := hp _ (List.mem_cons_of_mem _ (List.mem_cons_self))
  clear hp hb
  rw [vc_laws_markValS a k]
  dsimp only
  refine ⟨⟨by omega, by omega, by simp, by simp [ctS]⟩, ?_⟩
  rintro ⟨row, kk, i, ⟨⟩⟩ ⟨h1, h2, rfl, rfl⟩
  simp only
  have hl := mk_rl markVal cntVal a k h1 h2
  refine if_cond (fun hc => ?_) (fun hc => ?_)
  · have hc : i < a.length := by have hc := of_decide_eq_true hc; omega
    have hct := ctS_take cntVal a zVal h1 hc
    have hle := ctS_take_le cntVal a (i + 1).toNat
    have hg := mk_getD _ a zVal (mk_tl markVal cntVal a k h1 h2) h1 hc
    have hM := fun F hF => mkS_mod markVal cntVal a zVal k (i := i) F h1 hc hF
    have hq : (cntValS a : Int) = ctS cntVal a := rfl
    generalize List.getD a i.toNat zVal = x at *
    generalize hkk : k + (ctS cntVal (a.take i.toNat) : Int) = kk at *
    generalize List.take i.toNat (mkS markVal cntVal a k) ++ List.drop i.toNat a = R at *
    simp only [cntVal] at hct
    simp (disch := first | omega | (simp only [List.length_modify]; omega)) only [List.length_modify, wrap_i64, getD_modify, modify_modify, hg, hl]
    repeat' (first | refine And.intro (by omega) ?_ | fail)
    exact ⟨⟨by omega, by omega, hM _ rfl, by omega⟩, by simp only [μ_laws_markValS_2]; omega⟩
  · have hc : a.length ≤ i := by have hc := of_decide_eq_false hc; omega
    rw [mk_done markVal cntVal a k hc, ct_done cntVal a hc]
    exact ⟨rfl, rfl⟩
def con_laws_szFact : Con UU where
  α := DFact × Int
  md := [.ro, .ro]
  of := fun | [.agg [.lit (.string a0), .sl .lVal a1], .one (.lit (.int .i64 a2))] => some (⟨a0, a1⟩, a2) | _ => none
  ds := fun (a, left) => [.agg [.lit (.string a.Kind), .sl .lVal a.Fields], .one (.lit (.int .i64 left))]
  pre := fun (a, left) => [0 ≤ left]
  res := fun (a, left) => ⟨[.one (.lit (.int .i64 (szr left (sizeFact a))))], true, []⟩
  law := by intro l x h; (try simp only at h); split at h <;> cases h; rfl
def ann_laws_szFact : con_laws_szFact.α → Nat → Option (Ann UU) := fun (a, left) => annL []
def use_laws_szFact : List (FuncId × Con UU) := [(114, con_laws_szValS)]
theorem vc_laws_szFact (a : DFact) (left : Int) : goal EE use_laws_szFact Go.Proofs.Try.f49 con_laws_szFact ann_laws_szFact (a, left) = (let x0 : Int := IntKind.wrap IntKind.i64 (left - (↑(ByteArray.size a.Kind) : Int));
bif decide (x0 < (0 : Int)) then Lf [DV.one (Cell.lit (Value.int IntKind.i64 (-1 : Int)))] [DV.one (Cell.lit (Value.int IntKind.i64 (szr left (sizeFact a))))] else (0 : Int) ≤ x0 ∧ bif decide (szr x0 (sizeValS a.Fields) < (0 : Int)) then Lf [DV.one (Cell.lit (Value.int IntKind.i64 (-1 : Int)))] [DV.one (Cell.lit (Value.int IntKind.i64 (szr left (sizeFact a))))] else Lf [DV.one (Cell.lit (Value.int IntKind.i64 (szr x0 (sizeValS a.Fields))))] [DV.one (Cell.lit (Value.int IntKind.i64 (szr left (sizeFact a))))]) := by kernel_rfl
theorem ok_laws_szFact : Holds EE (49, con_laws_szFact) := by
  refine holds_of EE_ok Go.Proofs.Try.func49 con_laws_szFact (by kernel_rfl) rfl use_laws_szFact (all_cons ok_laws_szValS all_nil) ann_laws_szFact (fun x hp hb => ?_)
  obtain ⟨a, left⟩ := x
  have hb_a : BdDV (U := UU) (.agg [.lit (.string a.Kind), .sl .lVal a.Fields]) := hb _ (List.mem_cons_self)
  have hl_a_Kind : a.Kind.size ≤ 9223372036854775807 := Bd.str (hb_a _ (by simp))
  have hl_a_Fields : a.Fields.length ≤ 9223372036854775807 := Bd.len (U := UU) (τ := .lVal) (xs := a.Fields) (hb_a _ (by simp))
  have hb_left : BdDV (U := UU) (.one (.lit (.int .i64 left))) := hb _ (List.mem_cons_of_mem _ (List.mem_cons_self))
  have hl_left := Bd.i64 hb_left
  have hp0 : 0 ≤ left := hp _ (List.mem_cons_self)
  clear hp hb
  rw [vc_laws_szFact a left]
  dsimp only
  rw [wrap_i64 (by omega) (by omega)]
  refine if_cond (fun h => Lf_i (szr_bad' ?_)) (fun h => ?_)
  · have h := of_decide_eq_true h; simp only [sizeFact]; omega
  have h0 := of_decide_eq_false h
  refine ⟨by omega, if_cond (fun h => Lf_i (szr_bad' ?_)) (fun h => ?_)⟩
  · have h := szr_neg h; simp only [sizeFact]; omega
  obtain ⟨e1, h1⟩ := szr_pos h
  rw [e1]
  exact Lf_i (by rw [← szr_ok' (by simp only [sizeFact]; omega)]; simp only [sizeFact]; try omega)
def con_laws_toFact : Con UU where
  α := DFact
  md := [.ro]
  of := fun | [.agg [.lit (.string a0), .sl .lVal a1]] => some ⟨a0, a1⟩ | _ => none
  ds := fun a => [.agg [.lit (.string a.Kind), .sl .lVal a.Fields]]
  pre := fun a => [sizeFact a ≤ 4294967296]
  res := fun a => ⟨[.agg [.lit (.string a.Kind), .sl .eVal a.Fields]], true, []⟩
  law := by intro l x h; (try simp only at h); split at h <;> cases h; rfl
def ann_laws_toFact : con_laws_toFact.α → Nat → Option (Ann UU) := fun a => annL []
def use_laws_toFact : List (FuncId × Con UU) := [(117, con_laws_toValS)]
theorem vc_laws_toFact (a : DFact) : goal EE use_laws_toFact Go.Proofs.Try.f51 con_laws_toFact ann_laws_toFact a = (sizeValS a.Fields ≤ (4294967296 : Nat) ∧ Lf [DV.agg [Cell.lit (Value.string a.Kind), Cell.sl Cd.eVal a.Fields]] [DV.agg [Cell.lit (Value.string a.Kind), Cell.sl Cd.eVal a.Fields]]) := by kernel_rfl
theorem ok_laws_toFact : Holds EE (51, con_laws_toFact) := by
  refine holds_of EE_ok Go.Proofs.Try.func51 con_laws_toFact (by kernel_rfl) rfl use_laws_toFact (all_cons ok_laws_toValS all_nil) ann_laws_toFact (fun (a : DFact) hp hb => ?_)
  have hb_a : BdDV (U := UU) (.agg [.lit (.string a.Kind), .sl .lVal a.Fields]) := hb _ (List.mem_cons_self)
  have hl_a_Kind : a.Kind.size ≤ 9223372036854775807 := Bd.str (hb_a _ (by simp))
  have hl_a_Fields : a.Fields.length ≤ 9223372036854775807 := Bd.len (U := UU) (τ := .lVal) (xs := a.Fields) (hb_a _ (by simp))
  have hp0 : sizeFact a ≤ 4294967296 := hp _ (List.mem_cons_self)
  clear hp hb
  rw [vc_laws_toFact a]
  simp only [sizeFact] at hp0
  repeat' (first | exact Lf_rfl _ | (refine And.intro (by omega) ?_))
def con_laws_eqFact : Con UU where
  α := DFact × DFact
  md := [.ro, .ro]
  of := fun | [.agg [.lit (.string a0), .sl .eVal a1], .agg [.lit (.string a2), .sl .eVal a3]] => some (⟨a0, a1⟩, ⟨a2, a3⟩) | _ => none
  ds := fun (a, b) => [.agg [.lit (.string a.Kind), .sl .eVal a.Fields], .agg [.lit (.string b.Kind), .sl .eVal b.Fields]]
  pre := fun (a, b) => []
  res := fun (a, b) => ⟨[.one (.lit (.bool (decide (a = b))))], true, []⟩
  law := by intro l x h; (try simp only at h); split at h <;> cases h; rfl
def ann_laws_eqFact : con_laws_eqFact.α → Nat → Option (Ann UU) := fun (a, b) => annL []
def use_laws_eqFact : List (FuncId × Con UU) := [(120, con_laws_eqValS)]
theorem vc_laws_eqFact (a : DFact) (b : DFact) : goal EE use_laws_eqFact Go.Proofs.Try.f53 con_laws_eqFact ann_laws_eqFact (a, b) = (bif !ByteArray.toList a.Kind == ByteArray.toList b.Kind then Lf [DV.one (Cell.lit (Value.bool false))] [DV.one (Cell.lit (Value.bool (decide (a = b))))] else bif !decide (a.Fields = b.Fields) then Lf [DV.one (Cell.lit (Value.bool false))] [DV.one (Cell.lit (Value.bool (decide (a = b))))] else Lf [DV.one (Cell.lit (Value.bool true))] [DV.one (Cell.lit (Value.bool (decide (a = b))))]) := by kernel_rfl
theorem ok_laws_eqFact : Holds EE (53, con_laws_eqFact) := by
  refine holds_of EE_ok Go.Proofs.Try.func53 con_laws_eqFact (by kernel_rfl) rfl use_laws_eqFact (all_cons ok_laws_eqValS all_nil) ann_laws_eqFact (fun x hp hb => ?_)
  obtain ⟨a, b⟩ := x
  have hb_a : BdDV (U := UU) (.agg [.lit (.string a.Kind), .sl .eVal a.Fields]) := hb _ (List.mem_cons_self)
  have hl_a_Kind : a.Kind.size ≤ 9223372036854775807 := Bd.str (hb_a _ (by simp))
  have hl_a_Fields : a.Fields.length ≤ 9223372036854775807 := Bd.len (U := UU) (τ := .eVal) (xs := a.Fields) (hb_a _ (by simp))
  have hb_b : BdDV (U := UU) (.agg [.lit (.string b.Kind), .sl .eVal b.Fields]) := hb _ (List.mem_cons_of_mem _ (List.mem_cons_self))
  have hl_b_Kind : b.Kind.size ≤ 9223372036854775807 := Bd.str (hb_b _ (by simp))
  have hl_b_Fields : b.Fields.length ≤ 9223372036854775807 := Bd.len (U := UU) (τ := .eVal) (xs := b.Fields) (hb_b _ (by simp))
  clear hp hb
  rw [vc_laws_eqFact a b]
  obtain ⟨aKind, aFields⟩ := a
  obtain ⟨bKind, bFields⟩ := b
  repeat' (apply if_cond <;> intro _)
  all_goals (first | apply Lf_t | apply Lf_f) <;> simp_all
def con_laws_markFact : Con UU where
  α := DFact × Int
  md := [.wr, .ro]
  of := fun | [.agg [.lit (.string a0), .sl .eVal a1], .one (.lit (.int .i64 a2))] => some (⟨a0, a1⟩, a2) | _ => none
  ds := fun (a, k) => [.agg [.lit (.string a.Kind), .sl .eVal a.Fields], .one (.lit (.int .i64 k))]
  pre := fun (a, k) => [0 ≤ k, k + ctFact a ≤ 4611686018427387904]
  res := fun (a, k) => ⟨[.one (.lit (.int .i64 (k + ctFact a)))], true, [.agg [.lit (.string ((mkFact a k)).Kind), .sl .eVal ((mkFact a k)).Fields]]⟩
  law := by intro l x h; (try simp only at h); split at h <;> cases h; rfl
def ann_laws_markFact : con_laws_markFact.α → Nat → Option (Ann UU) := fun (a, k) => annL []
def use_laws_markFact : List (FuncId × Con UU) := [(90, con_laws_markValS)]
theorem vc_laws_markFact (a : DFact) (k : Int) : goal EE use_laws_markFact Go.Proofs.Try.f54 con_laws_markFact ann_laws_markFact (a, k) = ((0 : Int) ≤ k ∧ k + (↑(cntValS a.Fields) : Int) ≤ (4611686018427387904 : Int) ∧ asD [DV.one (Cell.lit (Value.int IntKind.i64 (k + (↑(cntValS a.Fields) : Int))))] = asD [DV.one (Cell.lit (Value.int IntKind.i64 (k + (↑(ctFact a) : Int))))] ∧ asD [DV.agg [Cell.lit (Value.string a.Kind), Cell.sl Cd.eVal (markValS a.Fields k)]] = asD [DV.agg [Cell.lit (Value.string (mkFact a k).Kind), Cell.sl Cd.eVal (mkFact a k).Fields]]) := by kernel_rfl
theorem ok_laws_markFact : Holds EE (54, con_laws_markFact) := by
  refine holds_of EE_ok Go.Proofs.Try.func54 con_laws_markFact (by kernel_rfl) rfl use_laws_markFact (all_cons ok_laws_markValS all_nil) ann_laws_markFact (fun x hp hb => ?_)
  obtain ⟨a, k⟩ := x
  have hb_a : BdDV (U := UU) (.agg [.lit (.string a.Kind), .sl .eVal a.Fields]) := hb _ (List.mem_cons_self)
  have hl_a_Kind : a.Kind.size ≤ 9223372036854775807 := Bd.str (hb_a _ (by simp))
  have hl_a_Fields : a.Fields.length ≤ 9223372036854775807 := Bd.len (U := UU) (τ := .eVal) (xs := a.Fields) (hb_a _ (by simp))
  have hb_k : BdDV (U := UU) (.one (.lit (.int .i64 k))) := hb _ (List.mem_cons_of_mem _ (List.mem_cons_self))
  have hl_k := Bd.i64 hb_k
  have hp0 : 0 ≤ k := hp _ (List.mem_cons_self)
  have hp1 : k + ctFact a ≤ 4611686018427387904 := hp _ (List.mem_cons_of_mem _ (List.mem_cons_self))
  clear hp hb
  rw [vc_laws_markFact a k]
  simp only [ctFact] at hp1
  repeat' (first | refine And.intro (by omega) ?_ | fail)
  exact ⟨by simp only [ctFact, Int.natCast_add, Int.add_assoc], rfl⟩
def allI (n : Nat) (p : Nat → Bool) : Bool := (List.range n).all p
theorem allI_true {n : Nat} {p : Nat → Bool} (h : ∀ j, j < n → p j = true) : allI n p = true := by simpa [allI] using h
theorem allI_false {n : Nat} {p : Nat → Bool} {j : Nat} (h : j < n) (hj : p j = false) : allI n p = false := by
  simp only [allI, List.all_eq_false, List.mem_range]
  exact ⟨j, h, by simp [hj]⟩
theorem upto_step {i : Int} {p : Nat → Bool} (h0 : 0 ≤ i) (h : ∀ j : Nat, (j : Int) < i → p j = true) (hi : p i.toNat = true) : ∀ j : Nat, (j : Int) < i + 1 → p j = true := by
  intro j hj
  by_cases hji : (j : Int) < i
  · exact h j hji
  · have : j = i.toNat := by omega
    subst this; exact hi
def timerOk (x : DTimer) : Bool := decide (0 ≤ x.At ∧ x.At ≤ 1000000000) && factOk x.F
def timerAt (l : List DTimer) (i : Nat) : Bool := timerOk (List.getD l i zTimer) && (decide (i = 0) || decide ((List.getD l (i - 1) zTimer).At ≤ (List.getD l i zTimer).At))
def timersOk (l : List DTimer) : Bool := decide (l.length ≤ 30) && allI l.length (timerAt l)
def con_impl_isTime : Con UU where
  α := Int
  md := [.ro]
  of := fun | [.one (.lit (.int .i64 a0))] => some a0 | _ => none
  ds := fun n => [.one (.lit (.int .i64 n))]
  pre := fun n => []
  res := fun n => ⟨[.one (.lit (.bool (decide (0 ≤ n ∧ n ≤ 1000000000))))], true, []⟩
  law := by intro l x h; (try simp only at h); split at h <;> cases h; rfl
def ann_impl_isTime : con_impl_isTime.α → Nat → Option (Ann UU) := fun n => annL []
def use_impl_isTime : List (FuncId × Con UU) := [(146, con_impl_inRange)]
theorem vc_impl_isTime (n : Int) : goal EE use_impl_isTime Go.Proofs.Try.f119 con_impl_isTime ann_impl_isTime n = (Lf [DV.one (Cell.lit (Value.bool (decide ((0 : Int) ≤ n ∧ n ≤ (1000000000 : Int)))))] [DV.one (Cell.lit (Value.bool (decide ((0 : Int) ≤ n ∧ n ≤ (1000000000 : Int)))))]) := by kernel_rfl
theorem ok_impl_isTime : Holds EE (119, con_impl_isTime) := by
  refine holds_of EE_ok Go.Proofs.Try.func119 con_impl_isTime (by kernel_rfl) rfl use_impl_isTime (all_cons ok_impl_inRange all_nil) ann_impl_isTime (fun (n : Int) hp hb => ?_)
  have hb_n : BdDV (U := UU) (.one (.lit (.int .i64 n))) := hb _ (List.mem_cons_self)
  have hl_n := Bd.i64 hb_n
  clear hp hb
  rw [vc_impl_isTime n]
  exact Lf_rfl _
/-- The first place where p holds; -1. -/
def idxI (n : Nat) (p : Nat → Bool) : Int := match (List.range n).find? p with | some i => i | none => -1
def anyI (n : Nat) (p : Nat → Bool) : Bool := (List.range n).any p
theorem idxI_found {n i : Nat} {p : Nat → Bool} (h : i < n) (hp : p i = true) (hj : ∀ j, j < i → p j = false) : idxI n p = i := by
  have : (List.range n).find? p = some i := by
    rw [List.find?_range_eq_some]
    exact ⟨hp, List.mem_range.2 h, fun j hj' => by simp [hj j hj']⟩
  simp [idxI, this]
theorem idxI_none {n : Nat} {p : Nat → Bool} (hj : ∀ j, j < n → p j = false) : idxI n p = -1 := by
  have : (List.range n).find? p = none := by
    rw [List.find?_eq_none]
    intro j hj'
    simp [hj j (List.mem_range.1 hj')]
  simp [idxI, this]
theorem idxI_cases (n : Nat) (p : Nat → Bool) : (idxI n p = -1 ∧ ∀ j, j < n → p j = false) ∨ ∃ i, i < n ∧ idxI n p = (i : Int) ∧ p i = true ∧ ∀ j, j < i → p j = false := by
  cases h : (List.range n).find? p with
  | none =>
    refine .inl ⟨by simp [idxI, h], fun j hj => ?_⟩
    have := List.find?_eq_none.1 h j (List.mem_range.2 hj)
    simpa using this
  | some i =>
    rw [List.find?_range_eq_some] at h
    obtain ⟨h1, h2, h3⟩ := h
    exact .inr ⟨i, List.mem_range.1 h2, idxI_found (List.mem_range.1 h2) h1 (fun j hj => by simpa using h3 j hj), h1, fun j hj => by simpa using h3 j hj⟩
theorem idxI_congr {n : Nat} {p q : Nat → Bool} (h : ∀ j, j < n → p j = q j) : idxI n p = idxI n q := by
  rcases idxI_cases n q with ⟨h1, h2⟩ | ⟨i, h1, h2, h3, h4⟩
  · rw [h1, idxI_none (fun j hj => by rw [h j hj, h2 j hj])]
  · rw [h2, idxI_found h1 (by rw [h i h1, h3]) (fun j hj => by rw [h j (by omega), h4 j hj])]
theorem anyI_true {n j : Nat} {p : Nat → Bool} (h : j < n) (hp : p j = true) : anyI n p = true := by
  simp only [anyI, List.any_eq_true, List.mem_range]
  exact ⟨j, h, hp⟩
theorem anyI_false {n : Nat} {p : Nat → Bool} (h : ∀ j, j < n → p j = false) : anyI n p = false := by
  simp only [anyI, List.any_eq_false, List.mem_range]
  exact fun j hj => by simp [h j hj]
theorem anyI_iff {n : Nat} {p : Nat → Bool} : anyI n p = true ↔ ∃ j, j < n ∧ p j = true := by
  simp only [anyI, List.any_eq_true, List.mem_range]
theorem anyI_not {n : Nat} {p : Nat → Bool} : anyI n p = false ↔ ∀ j, j < n → p j = false := by
  simp only [anyI, List.any_eq_false, List.mem_range, Bool.not_eq_true]
theorem allI_iff {n : Nat} {p : Nat → Bool} : allI n p = true ↔ ∀ j, j < n → p j = true := by
  simp only [allI, List.all_eq_true, List.mem_range]
theorem allI_not {n : Nat} {p : Nat → Bool} : allI n p = false ↔ ∃ j, j < n ∧ p j = false := by
  simp only [allI, List.all_eq_false, List.mem_range, Bool.not_eq_true]
theorem anyI_congr {n : Nat} {p q : Nat → Bool} (h : ∀ j, j < n → p j = q j) : anyI n p = anyI n q := by
  rw [Bool.eq_iff_iff, anyI_iff, anyI_iff]
  exact ⟨fun ⟨j, h1, h2⟩ => ⟨j, h1, by rw [← h j h1]; exact h2⟩, fun ⟨j, h1, h2⟩ => ⟨j, h1, by rw [h j h1]; exact h2⟩⟩
theorem allI_congr {n : Nat} {p q : Nat → Bool} (h : ∀ j, j < n → p j = q j) : allI n p = allI n q := by
  rw [Bool.eq_iff_iff, allI_iff, allI_iff]
  exact ⟨fun g j hj => by rw [← h j hj]; exact g j hj, fun g j hj => by rw [h j hj]; exact g j hj⟩
theorem idxI_ge {n : Nat} {p : Nat → Bool} : decide (0 ≤ idxI n p) = anyI n p := by
  rcases idxI_cases n p with ⟨h1, h2⟩ | ⟨i, h1, h2, h3, h4⟩
  · rw [h1, anyI_false h2]; rfl
  · rw [h2, anyI_true h1 h3]; simp
theorem getD_take {α : Type} (l : List α) (z : α) {i j : Nat} (h : j < i) : List.getD (l.take i) j z = List.getD l j z := by
  rw [List.getD_eq_getElem?_getD, List.getD_eq_getElem?_getD, List.getElem?_take, if_pos h]
/-- What a closure answers. -/
theorem closP_of {k : Con UU} {caps : List (DV UU)} {ds : List (DA UU)} {x : k.α} {v : Value} (h : k.of (ds.map DA.dv ++ caps) = some x) (hv : (k.res x).val = [.one (.lit v)]) (hm : (k.res x).muts = [])
    (hl : k.md.length = ds.length + caps.length) (hp : ∀ p ∈ k.pre x, p) : closP k caps ds = some v := by
  unfold closP
  simp only [h, hv, hm]
  rw [if_pos ⟨hl, hp⟩]
theorem val_beq (a b : DVal) : (a.K == b.K && (a.N == b.N && (ByteArray.toList a.S == ByteArray.toList b.S && true))) = decide (a = b) := by
  obtain ⟨K, N, S⟩ := a
  obtain ⟨K', N', S'⟩ := b
  simp only [toList_beq, Bool.and_true]
  rw [Bool.eq_iff_iff]
  simp only [Bool.and_eq_true, beq_iff_eq, decide_eq_true_eq, DVal.mk.injEq]
/-- The end of a search. -/
theorem upto_no {i : Int} {p : Nat → Bool} (h0 : 0 ≤ i) (h : ∀ j : Nat, (j : Int) < i → p j = false) (hi : p i.toNat = false) : ∀ j : Nat, (j : Int) < i + 1 → p j = false := by
  intro j hj
  by_cases hji : (j : Int) < i
  · exact h j hji
  · have : j = i.toNat := by omega
    subst this; exact hi
def daUndo (x : DUndo) : DA UU := ⟨true, [.lit (.string x.Key), .lit (.string x.F.Kind), .sl .eVal x.F.Fields]⟩
def undoAt (l : List DUndo) (i : Nat) : Bool := decide (1 ≤ (List.getD l i zUndo).Key.size ∧ (List.getD l i zUndo).Key.size ≤ 200) && factOk (List.getD l i zUndo).F && !(anyI i fun k => decide ((List.getD l k zUndo).Key = (List.getD l i zUndo).Key))
def undosOk (l : List DUndo) : Bool := decide (l.length ≤ 30) && allI l.length (undoAt l)
def hasKey (l : List DUndo) (key : ByteArray) : Bool := anyI l.length fun k => decide ((List.getD l k zUndo).Key = key)
def con_impl_isKey : Con UU where
  α := ByteArray
  md := [.ro]
  of := fun | [.one (.lit (.string a0))] => some a0 | _ => none
  ds := fun s => [.one (.lit (.string s))]
  pre := fun s => []
  res := fun s => ⟨[.one (.lit (.bool (decide (1 ≤ s.size ∧ s.size ≤ 200))))], true, []⟩
  law := by intro l x h; (try simp only at h); split at h <;> cases h; rfl
def ann_impl_isKey : con_impl_isKey.α → Nat → Option (Ann UU) := fun s => annL []
def use_impl_isKey : List (FuncId × Con UU) := [(146, con_impl_inRange)]
theorem vc_impl_isKey (s : ByteArray) : goal EE use_impl_isKey Go.Proofs.Try.f72 con_impl_isKey ann_impl_isKey s = (Lf [DV.one (Cell.lit (Value.bool (decide ((1 : Int) ≤ (↑(ByteArray.size s) : Int) ∧ (↑(ByteArray.size s) : Int) ≤ (200 : Int)))))] [DV.one (Cell.lit (Value.bool (decide ((1 : Nat) ≤ ByteArray.size s ∧ ByteArray.size s ≤ (200 : Nat)))))]) := by kernel_rfl
theorem ok_impl_isKey : Holds EE (72, con_impl_isKey) := by
  refine holds_of EE_ok Go.Proofs.Try.func72 con_impl_isKey (by kernel_rfl) rfl use_impl_isKey (all_cons ok_impl_inRange all_nil) ann_impl_isKey (fun (s : ByteArray) hp hb => ?_)
  have hb_s : BdDV (U := UU) (.one (.lit (.string s))) := hb _ (List.mem_cons_self)
  have hl_s : s.size ≤ 9223372036854775807 := Bd.str hb_s
  clear hp hb
  rw [vc_impl_isKey s]
  refine Lf_b ?_
  rw [decide_eq_decide]; omega
def undoLast (l : List DUndo) : DFact := if l = [] then zFact else (List.getD l (l.length - 1) zUndo).F
theorem undoLast_ct (l : List DUndo) : ctFact (undoLast l) ≤ 20 * sizeUndoS l := by
  unfold undoLast
  split
  · exact Nat.zero_le _
  · rename_i hl
    have h0 : 0 < l.length := List.length_pos_iff.2 hl
    have h1 : (l.length - 1 : Int).toNat = l.length - 1 := by omega
    have hs := sum_getD_le sizeUndo l zUndo (i := l.length - 1) (by omega) (by omega)
    rw [h1] at hs
    have := ctFact_le (List.getD l (l.length - 1) zUndo).F
    simp only [sizeUndo] at hs
    simp only [sizeUndoS, sizeUndo]
    omega
theorem sum_take_le {α : Type} (f : α → Nat) (l : List α) (n : Nat) : ((l.take n).map f).sum ≤ (l.map f).sum := by
  have h := congrArg (fun q => (q.map f).sum) (List.take_append_drop n l)
  simp only [List.map_append, List.sum_append] at h
  omega
theorem sizeUndoS_take (l : List DUndo) (n : Nat) : sizeUndoS (l.take n) ≤ sizeUndoS l := by
  have := sum_take_le sizeUndo l n
  simp only [sizeUndoS, List.length_take]
  omega
def undoOk (s : ByteArray) : Bool := decide (s = noBytes) || nameOk s
def taskOk (t : DTask) : Bool := factOk t.F && undoOk t.Undo && decide (1 ≤ t.State ∧ t.State ≤ 4) && decide (0 ≤ t.Tries ∧ t.Tries ≤ 4) && decide (0 ≤ t.Due ∧ t.Due ≤ 1000001000) && (decide (t.V = zVal) || valOk t.V) && decide ((t.State = 1 → t.Tries = 0) ∧ (t.State = 2 → t.Tries ≠ 0))
def taskAt (l : List DTask) (i : Nat) : Bool := taskOk (List.getD l i zTask) && !(anyI i fun k => decide ((List.getD l k zTask).F = (List.getD l i zTask).F))
def tasksOk (l : List DTask) : Bool := decide (l.length ≤ 30) && allI l.length (taskAt l)
def placeOf (l : List DTask) (f : DFact) : Int := idxI l.length fun k => decide ((List.getD l k zTask).F = f)
def isOpen (t : DTask) : Bool := decide (t.State = 1 ∨ t.State = 2)
def giveUp1 (t : DTask) : DTask := if t.State = 1 ∨ t.State = 2 then ⟨t.F, t.Undo, 4, t.Tries, t.Due, t.V⟩ else t
def giveUp (l : List DTask) : List DTask := l.map giveUp1
def daTask (x : DTask) : DA UU := ⟨true, [.lit (.string x.F.Kind), .sl .eVal x.F.Fields, .lit (.string x.Undo), .lit (.int .i64 x.State), .lit (.int .i64 x.Tries), .lit (.int .i64 x.Due), .lit (.int .i64 x.V.K), .lit (.int .i64 x.V.N), .lit (.string x.V.S)]⟩
theorem fact_ext {a b : DFact} : a = b ↔ a.Kind = b.Kind ∧ a.Fields = b.Fields := by
  obtain ⟨k, f⟩ := a; obtain ⟨k', f'⟩ := b; simp
theorem map_mod {α : Type} (f : α → α) (l : List α) (z : α) {i : Int} (F : α → α) (h0 : 0 ≤ i) (h : i < l.length) (hF : F (List.getD l i.toNat z) = f (List.getD l i.toNat z)) :
    ((l.map f).take i.toNat ++ l.drop i.toNat).modify i.toNat F = (l.map f).take (i + 1).toNat ++ l.drop (i + 1).toNat := by
  have hn : i.toNat < l.length := by omega
  have e : (i + 1).toNat = i.toNat + 1 := by omega
  have ht : ((l.map f).take i.toNat).length = i.toNat := by rw [List.length_take, List.length_map]; omega
  rw [modify_set _ z, mk_getD _ l z ht h0 h, hF, drop_step l z h0 h, List.set_append_right _ _ (by rw [ht]; exact Nat.le_refl _), ht, Nat.sub_self, List.set_cons_zero, e, List.take_succ_eq_append_getElem (by simpa using hn), List.append_assoc, List.getElem_map]
  rw [List.getD_eq_getElem?_getD, List.getElem?_eq_getElem hn]
  rfl
theorem map_skip {α : Type} (f : α → α) (l : List α) (z : α) {i : Int} (h0 : 0 ≤ i) (h : i < l.length) (hF : List.getD l i.toNat z = f (List.getD l i.toNat z)) :
    (l.map f).take i.toNat ++ l.drop i.toNat = (l.map f).take (i + 1).toNat ++ l.drop (i + 1).toNat := by
  rw [← map_mod f l z (fun x => x) h0 h hF]
  have : ∀ (m : List α) (n : Nat), m.modify n (fun x => x) = m := by
    intro m n
    refine List.ext_getElem? fun j => ?_
    rw [List.getElem?_modify]
    cases m[j]? <;> simp
  rw [this]
theorem map_row {α : Type} (f : α → α) (l : List α) {i : Int} (h0 : 0 ≤ i) (h : i ≤ l.length) : ((l.map f).take i.toNat ++ l.drop i.toNat).length = l.length := by
  rw [List.length_append, List.length_take, List.length_map, List.length_drop]; omega
theorem map_tl {α : Type} (f : α → α) (l : List α) {i : Int} (h0 : 0 ≤ i) (h : i ≤ l.length) : ((l.map f).take i.toNat).length = i.toNat := by
  rw [List.length_take, List.length_map]; omega
theorem map_done {α : Type} (f : α → α) (l : List α) {i : Int} (h : l.length ≤ i) : (l.map f).take i.toNat ++ l.drop i.toNat = l.map f := by
  rw [List.drop_eq_nil_of_le (by omega), List.append_nil, List.take_of_length_le (by rw [List.length_map]; omega)]
def noFact (f : DFact) : Bool := decide (f.Kind = noBytes) && decide (f.Fields.length = 0)
def noReply (o : DOp) : Bool := decide (o.Key = noBytes) && !o.Ok && decide (o.V = zVal)
def opOk (o : DOp) : Bool :=
  bif decide (o.Kind = 1) then decide (o.Name = noBytes) && decide (o.Text.size ≤ 1000) && noFact o.F && noReply o && decide (o.N = 0) else
  bif decide (o.Kind = 2) then nameOk o.Name && nameOk o.Text && noFact o.F && noReply o && decide (o.N = 0) else
  bif decide (o.Kind = 3) then nameOk o.Name && decide (o.Text = noBytes) && factOk o.F && noReply o && decide (o.N = 0) else
  bif decide (o.Kind = 4) then nameOk o.Name && decide (o.Text = noBytes) && noFact o.F && decide (1 ≤ o.Key.size ∧ o.Key.size ≤ 200) && valOk o.V && decide (o.N = 0) else
  bif decide (o.Kind = 5) then decide (o.Name = noBytes) && decide (o.Text = noBytes) && noFact o.F && noReply o && decide (0 ≤ o.N ∧ o.N ≤ 1000000000) else
  bif decide (o.Kind = 6) then decide (o.Name = noBytes) && decide (o.Text = noBytes) && noFact o.F && noReply o && decide (o.N = 0) else
  bif decide (o.Kind = 7) then nameOk o.Name && decide (o.Text = noBytes) && noFact o.F && noReply o && decide (o.N = 0) else false
def bareO (o : DOp) : DOp :=
  bif decide (o.Kind = 1) then ⟨o.Kind, o.Name, noBytes, o.F, o.Key, o.Ok, o.V, o.N⟩ else
  bif decide (o.Kind = 2) then ⟨o.Kind, noBytes, noBytes, o.F, o.Key, o.Ok, o.V, o.N⟩ else
  bif decide (o.Kind = 3) then ⟨o.Kind, noBytes, o.Text, zFact, o.Key, o.Ok, o.V, o.N⟩ else
  bif decide (o.Kind = 4) then ⟨o.Kind, noBytes, o.Text, o.F, noBytes, false, zVal, o.N⟩ else
  bif decide (o.Kind = 5) then ⟨o.Kind, o.Name, o.Text, o.F, o.Key, o.Ok, o.V, 0⟩ else
  bif decide (o.Kind = 6) then o else
  bif decide (o.Kind = 7) then ⟨o.Kind, noBytes, o.Text, o.F, o.Key, o.Ok, o.V, o.N⟩ else o
def bareOk (o : DOp) : Bool :=
  bif decide (o.Kind = 1) then decide (o.Text.size ≤ 1000) else
  bif decide (o.Kind = 2) then nameOk o.Name && nameOk o.Text else
  bif decide (o.Kind = 3) then nameOk o.Name && factOk o.F else
  bif decide (o.Kind = 4) then nameOk o.Name && decide (1 ≤ o.Key.size ∧ o.Key.size ≤ 200) && valOk o.V else
  bif decide (o.Kind = 5) then decide (0 ≤ o.N ∧ o.N ≤ 1000000000) else
  bif decide (o.Kind = 6) then true else
  bif decide (o.Kind = 7) then nameOk o.Name else false
theorem kinds7 (n : Int) : n = 1 ∨ n = 2 ∨ n = 3 ∨ n = 4 ∨ n = 5 ∨ n = 6 ∨ n = 7 ∨ (n ≠ 1 ∧ n ≠ 2 ∧ n ≠ 3 ∧ n ≠ 4 ∧ n ≠ 5 ∧ n ≠ 6 ∧ n ≠ 7) := by omega
theorem opOk_bare (o : DOp) : opOk o = (bareOk o && decide ((bareO o).Name = noBytes) && decide ((bareO o).Text = noBytes) && decide ((bareO o).Key = noBytes) && !(bareO o).Ok && decide ((bareO o).N = 0) && noFact (bareO o).F && decide ((bareO o).V = zVal)) := by
  have hz : noFact zFact = true := rfl
  rcases kinds7 o.Kind with h | h | h | h | h | h | h | h <;> simp [opOk, bareOk, bareO, noReply, h, hz] <;> grind
def con_spec_l22NoFact : Con UU where
  α := DFact
  md := [.ro]
  of := fun | [.agg [.lit (.string a0), .sl .eVal a1]] => some ⟨a0, a1⟩ | _ => none
  ds := fun f => [.agg [.lit (.string f.Kind), .sl .eVal f.Fields]]
  pre := fun f => []
  res := fun f => ⟨[.one (.lit (.bool (noFact f)))], true, []⟩
  law := by intro l x h; (try simp only at h); split at h <;> cases h; rfl
def ann_spec_l22NoFact : con_spec_l22NoFact.α → Nat → Option (Ann UU) := fun f => annL []
def use_spec_l22NoFact : List (FuncId × Con UU) := []
theorem vc_spec_l22NoFact (f : DFact) : goal EE use_spec_l22NoFact Go.Proofs.Try.f77 con_spec_l22NoFact ann_spec_l22NoFact f = (bif ByteArray.toList f.Kind == ByteArray.toList { data := #[] : ByteArray } then Lf [DV.one (Cell.lit (Value.bool ((↑(List.length f.Fields) : Int) == (0 : Int))))] [DV.one (Cell.lit (Value.bool (noFact f)))] else Lf [DV.one (Cell.lit (Value.bool false))] [DV.one (Cell.lit (Value.bool (noFact f)))]) := by kernel_rfl
theorem ok_spec_l22NoFact : Holds EE (77, con_spec_l22NoFact) := by
  refine holds_of EE_ok Go.Proofs.Try.func77 con_spec_l22NoFact (by kernel_rfl) rfl use_spec_l22NoFact all_nil ann_spec_l22NoFact (fun (f : DFact) hp hb => ?_)
  have hb_f : BdDV (U := UU) (.agg [.lit (.string f.Kind), .sl .eVal f.Fields]) := hb _ (List.mem_cons_self)
  have hl_f_Kind : f.Kind.size ≤ 9223372036854775807 := Bd.str (hb_f _ (by simp))
  have hl_f_Fields : f.Fields.length ≤ 9223372036854775807 := Bd.len (U := UU) (τ := .eVal) (xs := f.Fields) (hb_f _ (by simp))
  clear hp hb
  rw [vc_spec_l22NoFact f]
  have e : ∀ s : ByteArray, (ByteArray.toList s == ByteArray.toList { data := #[] }) = decide (s = noBytes) := fun s => toList_beq _ _
  simp only [e, noFact]
  refine if_cond (fun h => Lf_b ?_) (fun h => Lf_b ?_) <;> grind
def con_spec_OpOk : Con UU where
  α := DOp
  md := [.ro]
  of := fun | [.agg [.lit (.int .i64 a0), .lit (.string a1), .lit (.string a2), .lit (.string a3), .sl .eVal a4, .lit (.string a5), .lit (.bool a6), .lit (.int .i64 a7), .lit (.int .i64 a8), .lit (.string a9), .lit (.int .i64 a10)]] => some ⟨a0, a1, a2, ⟨a3, a4⟩, a5, a6, ⟨a7, a8, a9⟩, a10⟩ | _ => none
  ds := fun o => [.agg [.lit (.int .i64 o.Kind), .lit (.string o.Name), .lit (.string o.Text), .lit (.string o.F.Kind), .sl .eVal o.F.Fields, .lit (.string o.Key), .lit (.bool o.Ok), .lit (.int .i64 o.V.K), .lit (.int .i64 o.V.N), .lit (.string o.V.S), .lit (.int .i64 o.N)]]
  pre := fun o => []
  res := fun o => ⟨[.one (.lit (.bool (opOk o)))], true, []⟩
  law := by intro l x h; (try simp only at h); split at h <;> cases h; rfl
def ann_spec_OpOk : con_spec_OpOk.α → Nat → Option (Ann UU) := fun o => annL []
def use_spec_OpOk : List (FuncId × Con UU) := [(77, con_spec_l22NoFact), (78, con_spec_NameOk), (70, con_spec_FactOk), (79, con_spec_ValOk), (69, con_spec_l1In)]
theorem vc_spec_OpOk (o : DOp) : goal EE use_spec_OpOk Go.Proofs.Try.f19 con_spec_OpOk ann_spec_OpOk o = (let x0 : Bool := ByteArray.toList o.Text == ByteArray.toList { data := #[] : ByteArray };
let x1 : Bool := ByteArray.toList o.Name == ByteArray.toList { data := #[] : ByteArray };
let x2 : Bool := o.V.K == (0 : Int) && (o.V.N == (0 : Int) && (ByteArray.toList o.V.S == ByteArray.toList { data := #[] : ByteArray } && true));
let x3 : Bool := decide ((↑(ByteArray.size o.Text) : Int) ≤ (1000 : Int));
bif ByteArray.toList o.Key == ByteArray.toList { data := #[] : ByteArray } then bif !o.Ok then bif o.Kind == (1 : Int) then bif x1 then bif x3 then bif noFact o.F then bif x2 then Lf [DV.one (Cell.lit (Value.bool (o.N == (0 : Int))))] [DV.one (Cell.lit (Value.bool (opOk o)))] else Lf [DV.one (Cell.lit (Value.bool false))] [DV.one (Cell.lit (Value.bool (opOk o)))] else Lf [DV.one (Cell.lit (Value.bool false))] [DV.one (Cell.lit (Value.bool (opOk o)))] else Lf [DV.one (Cell.lit (Value.bool false))] [DV.one (Cell.lit (Value.bool (opOk o)))] else Lf [DV.one (Cell.lit (Value.bool false))] [DV.one (Cell.lit (Value.bool (opOk o)))] else bif o.Kind == (2 : Int) then bif nameOk o.Name then bif nameOk o.Text then bif noFact o.F then bif x2 then Lf [DV.one (Cell.lit (Value.bool (o.N == (0 : Int))))] [DV.one (Cell.lit (Value.bool (opOk o)))] else Lf [DV.one (Cell.lit (Value.bool false))] [DV.one (Cell.lit (Value.bool (opOk o)))] else Lf [DV.one (Cell.lit (Value.bool false))] [DV.one (Cell.lit (Value.bool (opOk o)))] else Lf [DV.one (Cell.lit (Value.bool false))] [DV.one (Cell.lit (Value.bool (opOk o)))] else Lf [DV.one (Cell.lit (Value.bool false))] [DV.one (Cell.lit (Value.bool (opOk o)))] else bif o.Kind == (3 : Int) then bif nameOk o.Name then bif x0 then bif factOk o.F then bif x2 then Lf [DV.one (Cell.lit (Value.bool (o.N == (0 : Int))))] [DV.one (Cell.lit (Value.bool (opOk o)))] else Lf [DV.one (Cell.lit (Value.bool false))] [DV.one (Cell.lit (Value.bool (opOk o)))] else Lf [DV.one (Cell.lit (Value.bool false))] [DV.one (Cell.lit (Value.bool (opOk o)))] else Lf [DV.one (Cell.lit (Value.bool false))] [DV.one (Cell.lit (Value.bool (opOk o)))] else Lf [DV.one (Cell.lit (Value.bool false))] [DV.one (Cell.lit (Value.bool (opOk o)))] else bif o.Kind == (4 : Int) then bif nameOk o.Name then bif x0 then bif noFact o.F then bif decide ((1 : Int) ≤ (↑(ByteArray.size o.Key) : Int) ∧ (↑(ByteArray.size o.Key) : Int) ≤ (200 : Int)) then bif valOk o.V then Lf [DV.one (Cell.lit (Value.bool (o.N == (0 : Int))))] [DV.one (Cell.lit (Value.bool (opOk o)))] else Lf [DV.one (Cell.lit (Value.bool false))] [DV.one (Cell.lit (Value.bool (opOk o)))] else Lf [DV.one (Cell.lit (Value.bool false))] [DV.one (Cell.lit (Value.bool (opOk o)))] else Lf [DV.one (Cell.lit (Value.bool false))] [DV.one (Cell.lit (Value.bool (opOk o)))] else Lf [DV.one (Cell.lit (Value.bool false))] [DV.one (Cell.lit (Value.bool (opOk o)))] else Lf [DV.one (Cell.lit (Value.bool false))] [DV.one (Cell.lit (Value.bool (opOk o)))] else bif o.Kind == (5 : Int) then bif x1 then bif x0 then bif noFact o.F then bif x2 then Lf [DV.one (Cell.lit (Value.bool (decide ((0 : Int) ≤ o.N ∧ o.N ≤ (1000000000 : Int)))))] [DV.one (Cell.lit (Value.bool (opOk o)))] else Lf [DV.one (Cell.lit (Value.bool false))] [DV.one (Cell.lit (Value.bool (opOk o)))] else Lf [DV.one (Cell.lit (Value.bool false))] [DV.one (Cell.lit (Value.bool (opOk o)))] else Lf [DV.one (Cell.lit (Value.bool false))] [DV.one (Cell.lit (Value.bool (opOk o)))] else Lf [DV.one (Cell.lit (Value.bool false))] [DV.one (Cell.lit (Value.bool (opOk o)))] else bif o.Kind == (6 : Int) then bif x1 then bif x0 then bif noFact o.F then bif x2 then Lf [DV.one (Cell.lit (Value.bool (o.N == (0 : Int))))] [DV.one (Cell.lit (Value.bool (opOk o)))] else Lf [DV.one (Cell.lit (Value.bool false))] [DV.one (Cell.lit (Value.bool (opOk o)))] else Lf [DV.one (Cell.lit (Value.bool false))] [DV.one (Cell.lit (Value.bool (opOk o)))] else Lf [DV.one (Cell.lit (Value.bool false))] [DV.one (Cell.lit (Value.bool (opOk o)))] else Lf [DV.one (Cell.lit (Value.bool false))] [DV.one (Cell.lit (Value.bool (opOk o)))] else bif o.Kind == (7 : Int) then bif nameOk o.Name then bif x0 then bif noFact o.F then bif x2 then Lf [DV.one (Cell.lit (Value.bool (o.N == (0 : Int))))] [DV.one (Cell.lit (Value.bool (opOk o)))] else Lf [DV.one (Cell.lit (Value.bool false))] [DV.one (Cell.lit (Value.bool (opOk o)))] else Lf [DV.one (Cell.lit (Value.bool false))] [DV.one (Cell.lit (Value.bool (opOk o)))] else Lf [DV.one (Cell.lit (Value.bool false))] [DV.one (Cell.lit (Value.bool (opOk o)))] else Lf [DV.one (Cell.lit (Value.bool false))] [DV.one (Cell.lit (Value.bool (opOk o)))] else Lf [DV.one (Cell.lit (Value.bool false))] [DV.one (Cell.lit (Value.bool (opOk o)))] else bif o.Kind == (1 : Int) then bif x1 then bif x3 then bif noFact o.F then Lf [DV.one (Cell.lit (Value.bool false))] [DV.one (Cell.lit (Value.bool (opOk o)))] else Lf [DV.one (Cell.lit (Value.bool false))] [DV.one (Cell.lit (Value.bool (opOk o)))] else Lf [DV.one (Cell.lit (Value.bool false))] [DV.one (Cell.lit (Value.bool (opOk o)))] else Lf [DV.one (Cell.lit (Value.bool false))] [DV.one (Cell.lit (Value.bool (opOk o)))] else bif o.Kind == (2 : Int) then bif nameOk o.Name then bif nameOk o.Text then bif noFact o.F then Lf [DV.one (Cell.lit (Value.bool false))] [DV.one (Cell.lit (Value.bool (opOk o)))] else Lf [DV.one (Cell.lit (Value.bool false))] [DV.one (Cell.lit (Value.bool (opOk o)))] else Lf [DV.one (Cell.lit (Value.bool false))] [DV.one (Cell.lit (Value.bool (opOk o)))] else Lf [DV.one (Cell.lit (Value.bool false))] [DV.one (Cell.lit (Value.bool (opOk o)))] else bif o.Kind == (3 : Int) then bif nameOk o.Name then bif x0 then bif factOk o.F then Lf [DV.one (Cell.lit (Value.bool false))] [DV.one (Cell.lit (Value.bool (opOk o)))] else Lf [DV.one (Cell.lit (Value.bool false))] [DV.one (Cell.lit (Value.bool (opOk o)))] else Lf [DV.one (Cell.lit (Value.bool false))] [DV.one (Cell.lit (Value.bool (opOk o)))] else Lf [DV.one (Cell.lit (Value.bool false))] [DV.one (Cell.lit (Value.bool (opOk o)))] else bif o.Kind == (4 : Int) then bif nameOk o.Name then bif x0 then bif noFact o.F then bif decide ((1 : Int) ≤ (↑(ByteArray.size o.Key) : Int) ∧ (↑(ByteArray.size o.Key) : Int) ≤ (200 : Int)) then bif valOk o.V then Lf [DV.one (Cell.lit (Value.bool (o.N == (0 : Int))))] [DV.one (Cell.lit (Value.bool (opOk o)))] else Lf [DV.one (Cell.lit (Value.bool false))] [DV.one (Cell.lit (Value.bool (opOk o)))] else Lf [DV.one (Cell.lit (Value.bool false))] [DV.one (Cell.lit (Value.bool (opOk o)))] else Lf [DV.one (Cell.lit (Value.bool false))] [DV.one (Cell.lit (Value.bool (opOk o)))] else Lf [DV.one (Cell.lit (Value.bool false))] [DV.one (Cell.lit (Value.bool (opOk o)))] else Lf [DV.one (Cell.lit (Value.bool false))] [DV.one (Cell.lit (Value.bool (opOk o)))] else bif o.Kind == (5 : Int) then bif x1 then bif x0 then bif noFact o.F then Lf [DV.one (Cell.lit (Value.bool false))] [DV.one (Cell.lit (Value.bool (opOk o)))] else Lf [DV.one (Cell.lit (Value.bool false))] [DV.one (Cell.lit (Value.bool (opOk o)))] else Lf [DV.one (Cell.lit (Value.bool false))] [DV.one (Cell.lit (Value.bool (opOk o)))] else Lf [DV.one (Cell.lit (Value.bool false))] [DV.one (Cell.lit (Value.bool (opOk o)))] else bif o.Kind == (6 : Int) then bif x1 then bif x0 then bif noFact o.F then Lf [DV.one (Cell.lit (Value.bool false))] [DV.one (Cell.lit (Value.bool (opOk o)))] else Lf [DV.one (Cell.lit (Value.bool false))] [DV.one (Cell.lit (Value.bool (opOk o)))] else Lf [DV.one (Cell.lit (Value.bool false))] [DV.one (Cell.lit (Value.bool (opOk o)))] else Lf [DV.one (Cell.lit (Value.bool false))] [DV.one (Cell.lit (Value.bool (opOk o)))] else bif o.Kind == (7 : Int) then bif nameOk o.Name then bif x0 then bif noFact o.F then Lf [DV.one (Cell.lit (Value.bool false))] [DV.one (Cell.lit (Value.bool (opOk o)))] else Lf [DV.one (Cell.lit (Value.bool false))] [DV.one (Cell.lit (Value.bool (opOk o)))] else Lf [DV.one (Cell.lit (Value.bool false))] [DV.one (Cell.lit (Value.bool (opOk o)))] else Lf [DV.one (Cell.lit (Value.bool false))] [DV.one (Cell.lit (Value.bool (opOk o)))] else Lf [DV.one (Cell.lit (Value.bool false))] [DV.one (Cell.lit (Value.bool (opOk o)))] else bif o.Kind == (1 : Int) then bif x1 then bif x3 then bif noFact o.F then Lf [DV.one (Cell.lit (Value.bool false))] [DV.one (Cell.lit (Value.bool (opOk o)))] else Lf [DV.one (Cell.lit (Value.bool false))] [DV.one (Cell.lit (Value.bool (opOk o)))] else Lf [DV.one (Cell.lit (Value.bool false))] [DV.one (Cell.lit (Value.bool (opOk o)))] else Lf [DV.one (Cell.lit (Value.bool false))] [DV.one (Cell.lit (Value.bool (opOk o)))] else bif o.Kind == (2 : Int) then bif nameOk o.Name then bif nameOk o.Text then bif noFact o.F then Lf [DV.one (Cell.lit (Value.bool false))] [DV.one (Cell.lit (Value.bool (opOk o)))] else Lf [DV.one (Cell.lit (Value.bool false))] [DV.one (Cell.lit (Value.bool (opOk o)))] else Lf [DV.one (Cell.lit (Value.bool false))] [DV.one (Cell.lit (Value.bool (opOk o)))] else Lf [DV.one (Cell.lit (Value.bool false))] [DV.one (Cell.lit (Value.bool (opOk o)))] else bif o.Kind == (3 : Int) then bif nameOk o.Name then bif x0 then bif factOk o.F then Lf [DV.one (Cell.lit (Value.bool false))] [DV.one (Cell.lit (Value.bool (opOk o)))] else Lf [DV.one (Cell.lit (Value.bool false))] [DV.one (Cell.lit (Value.bool (opOk o)))] else Lf [DV.one (Cell.lit (Value.bool false))] [DV.one (Cell.lit (Value.bool (opOk o)))] else Lf [DV.one (Cell.lit (Value.bool false))] [DV.one (Cell.lit (Value.bool (opOk o)))] else bif o.Kind == (4 : Int) then bif nameOk o.Name then bif x0 then bif noFact o.F then bif decide ((1 : Int) ≤ (↑(ByteArray.size o.Key) : Int) ∧ (↑(ByteArray.size o.Key) : Int) ≤ (200 : Int)) then bif valOk o.V then Lf [DV.one (Cell.lit (Value.bool (o.N == (0 : Int))))] [DV.one (Cell.lit (Value.bool (opOk o)))] else Lf [DV.one (Cell.lit (Value.bool false))] [DV.one (Cell.lit (Value.bool (opOk o)))] else Lf [DV.one (Cell.lit (Value.bool false))] [DV.one (Cell.lit (Value.bool (opOk o)))] else Lf [DV.one (Cell.lit (Value.bool false))] [DV.one (Cell.lit (Value.bool (opOk o)))] else Lf [DV.one (Cell.lit (Value.bool false))] [DV.one (Cell.lit (Value.bool (opOk o)))] else Lf [DV.one (Cell.lit (Value.bool false))] [DV.one (Cell.lit (Value.bool (opOk o)))] else bif o.Kind == (5 : Int) then bif x1 then bif x0 then bif noFact o.F then Lf [DV.one (Cell.lit (Value.bool false))] [DV.one (Cell.lit (Value.bool (opOk o)))] else Lf [DV.one (Cell.lit (Value.bool false))] [DV.one (Cell.lit (Value.bool (opOk o)))] else Lf [DV.one (Cell.lit (Value.bool false))] [DV.one (Cell.lit (Value.bool (opOk o)))] else Lf [DV.one (Cell.lit (Value.bool false))] [DV.one (Cell.lit (Value.bool (opOk o)))] else bif o.Kind == (6 : Int) then bif x1 then bif x0 then bif noFact o.F then Lf [DV.one (Cell.lit (Value.bool false))] [DV.one (Cell.lit (Value.bool (opOk o)))] else Lf [DV.one (Cell.lit (Value.bool false))] [DV.one (Cell.lit (Value.bool (opOk o)))] else Lf [DV.one (Cell.lit (Value.bool false))] [DV.one (Cell.lit (Value.bool (opOk o)))] else Lf [DV.one (Cell.lit (Value.bool false))] [DV.one (Cell.lit (Value.bool (opOk o)))] else bif o.Kind == (7 : Int) then bif nameOk o.Name then bif x0 then bif noFact o.F then Lf [DV.one (Cell.lit (Value.bool false))] [DV.one (Cell.lit (Value.bool (opOk o)))] else Lf [DV.one (Cell.lit (Value.bool false))] [DV.one (Cell.lit (Value.bool (opOk o)))] else Lf [DV.one (Cell.lit (Value.bool false))] [DV.one (Cell.lit (Value.bool (opOk o)))] else Lf [DV.one (Cell.lit (Value.bool false))] [DV.one (Cell.lit (Value.bool (opOk o)))] else Lf [DV.one (Cell.lit (Value.bool false))] [DV.one (Cell.lit (Value.bool (opOk o)))]) := by kernel_rfl
theorem ok_spec_OpOk : Holds EE (19, con_spec_OpOk) := by
  refine holds_of EE_ok Go.Proofs.Try.func19 con_spec_OpOk (by kernel_rfl) rfl use_spec_OpOk (all_cons ok_spec_l22NoFact (all_cons ok_spec_NameOk (all_cons ok_spec_FactOk (all_cons ok_spec_ValOk (all_cons ok_spec_l1In all_nil))))) ann_spec_OpOk (fun (o : DOp) hp hb => ?_)
  have hb_o : BdDV (U := UU) (.agg [.lit (.int .i64 o.Kind), .lit (.string o.Name), .lit (.string o.Text), .lit (.string o.F.Kind), .sl .eVal o.F.Fields, .lit (.string o.Key), .lit (.bool o.Ok), .lit (.int .i64 o.V.K), .lit (.int .i64 o.V.N), .lit (.string o.V.S), .lit (.int .i64 o.N)]) := hb _ (List.mem_cons_self)
  have hl_o_Name : o.Name.size ≤ 9223372036854775807 := Bd.str (hb_o _ (by simp))
  have hl_o_Text : o.Text.size ≤ 9223372036854775807 := Bd.str (hb_o _ (by simp))
  have hl_o_F_Kind : o.F.Kind.size ≤ 9223372036854775807 := Bd.str (hb_o _ (by simp))
  have hl_o_F_Fields : o.F.Fields.length ≤ 9223372036854775807 := Bd.len (U := UU) (τ := .eVal) (xs := o.F.Fields) (hb_o _ (by simp))
  have hl_o_Key : o.Key.size ≤ 9223372036854775807 := Bd.str (hb_o _ (by simp))
  have hl_o_V_S : o.V.S.size ≤ 9223372036854775807 := Bd.str (hb_o _ (by simp))
  clear hp hb
  rw [vc_spec_OpOk o]
  dsimp only
  have e : ∀ s : ByteArray, (ByteArray.toList s == ByteArray.toList { data := #[] }) = decide (s = noBytes) := fun s => toList_beq _ _
  have e2 : ∀ v : DVal, (v.K == 0 && (v.N == 0 && (decide (v.S = noBytes) && true))) = decide (v = zVal) := fun v => by rw [← val_beq v zVal, toList_beq]; rfl
  simp only [e, e2]
  simp only [opOk, noReply]
  repeat' (refine if_cond (fun h => ?_) (fun h => ?_))
  all_goals (refine Lf_b ?_; grind)
def con_impl_bareOp : Con UU where
  α := DOp
  md := [.ro]
  of := fun | [.agg [.lit (.int .i64 a0), .lit (.string a1), .lit (.string a2), .lit (.string a3), .sl .eVal a4, .lit (.string a5), .lit (.bool a6), .lit (.int .i64 a7), .lit (.int .i64 a8), .lit (.string a9), .lit (.int .i64 a10)]] => some ⟨a0, a1, a2, ⟨a3, a4⟩, a5, a6, ⟨a7, a8, a9⟩, a10⟩ | _ => none
  ds := fun o => [.agg [.lit (.int .i64 o.Kind), .lit (.string o.Name), .lit (.string o.Text), .lit (.string o.F.Kind), .sl .eVal o.F.Fields, .lit (.string o.Key), .lit (.bool o.Ok), .lit (.int .i64 o.V.K), .lit (.int .i64 o.V.N), .lit (.string o.V.S), .lit (.int .i64 o.N)]]
  pre := fun o => []
  res := fun o => ⟨[.agg [.lit (.int .i64 ((bareO o)).Kind), .lit (.string ((bareO o)).Name), .lit (.string ((bareO o)).Text), .lit (.string (((bareO o)).F).Kind), .sl .eVal (((bareO o)).F).Fields, .lit (.string ((bareO o)).Key), .lit (.bool ((bareO o)).Ok), .lit (.int .i64 (((bareO o)).V).K), .lit (.int .i64 (((bareO o)).V).N), .lit (.string (((bareO o)).V).S), .lit (.int .i64 ((bareO o)).N)], .one (.lit (.bool (bareOk o)))], false, []⟩
  law := by intro l x h; (try simp only at h); split at h <;> cases h; rfl
def ann_impl_bareOp : con_impl_bareOp.α → Nat → Option (Ann UU) := fun o => annL []
def use_impl_bareOp : List (FuncId × Con UU) := [(147, con_impl_NameOk), (73, con_impl_FactOk), (72, con_impl_isKey), (148, con_impl_ValOk), (119, con_impl_isTime)]
theorem vc_impl_bareOp (o : DOp) : goal EE use_impl_bareOp Go.Proofs.Try.f81 con_impl_bareOp ann_impl_bareOp o = (bif o.Kind == (1 : Int) then Lf [DV.agg [Cell.lit (Value.int IntKind.i64 o.Kind), Cell.lit (Value.string o.Name), Cell.lit (Value.string { data := #[] : ByteArray }), Cell.lit (Value.string o.F.Kind), Cell.sl Cd.eVal o.F.Fields, Cell.lit (Value.string o.Key), Cell.lit (Value.bool o.Ok), Cell.lit (Value.int IntKind.i64 o.V.K), Cell.lit (Value.int IntKind.i64 o.V.N), Cell.lit (Value.string o.V.S), Cell.lit (Value.int IntKind.i64 o.N)], DV.one (Cell.lit (Value.bool (decide ((↑(ByteArray.size o.Text) : Int) ≤ (1000 : Int)))))] [DV.agg [Cell.lit (Value.int IntKind.i64 (bareO o).Kind), Cell.lit (Value.string (bareO o).Name), Cell.lit (Value.string (bareO o).Text), Cell.lit (Value.string (bareO o).F.Kind), Cell.sl Cd.eVal (bareO o).F.Fields, Cell.lit (Value.string (bareO o).Key), Cell.lit (Value.bool (bareO o).Ok), Cell.lit (Value.int IntKind.i64 (bareO o).V.K), Cell.lit (Value.int IntKind.i64 (bareO o).V.N), Cell.lit (Value.string (bareO o).V.S), Cell.lit (Value.int IntKind.i64 (bareO o).N)], DV.one (Cell.lit (Value.bool (bareOk o)))] else bif o.Kind == (2 : Int) then bif nameOk o.Name then Lf [DV.agg [Cell.lit (Value.int IntKind.i64 o.Kind), Cell.lit (Value.string { data := #[] : ByteArray }), Cell.lit (Value.string { data := #[] : ByteArray }), Cell.lit (Value.string o.F.Kind), Cell.sl Cd.eVal o.F.Fields, Cell.lit (Value.string o.Key), Cell.lit (Value.bool o.Ok), Cell.lit (Value.int IntKind.i64 o.V.K), Cell.lit (Value.int IntKind.i64 o.V.N), Cell.lit (Value.string o.V.S), Cell.lit (Value.int IntKind.i64 o.N)], DV.one (Cell.lit (Value.bool (nameOk o.Text)))] [DV.agg [Cell.lit (Value.int IntKind.i64 (bareO o).Kind), Cell.lit (Value.string (bareO o).Name), Cell.lit (Value.string (bareO o).Text), Cell.lit (Value.string (bareO o).F.Kind), Cell.sl Cd.eVal (bareO o).F.Fields, Cell.lit (Value.string (bareO o).Key), Cell.lit (Value.bool (bareO o).Ok), Cell.lit (Value.int IntKind.i64 (bareO o).V.K), Cell.lit (Value.int IntKind.i64 (bareO o).V.N), Cell.lit (Value.string (bareO o).V.S), Cell.lit (Value.int IntKind.i64 (bareO o).N)], DV.one (Cell.lit (Value.bool (bareOk o)))] else Lf [DV.agg [Cell.lit (Value.int IntKind.i64 o.Kind), Cell.lit (Value.string { data := #[] : ByteArray }), Cell.lit (Value.string { data := #[] : ByteArray }), Cell.lit (Value.string o.F.Kind), Cell.sl Cd.eVal o.F.Fields, Cell.lit (Value.string o.Key), Cell.lit (Value.bool o.Ok), Cell.lit (Value.int IntKind.i64 o.V.K), Cell.lit (Value.int IntKind.i64 o.V.N), Cell.lit (Value.string o.V.S), Cell.lit (Value.int IntKind.i64 o.N)], DV.one (Cell.lit (Value.bool false))] [DV.agg [Cell.lit (Value.int IntKind.i64 (bareO o).Kind), Cell.lit (Value.string (bareO o).Name), Cell.lit (Value.string (bareO o).Text), Cell.lit (Value.string (bareO o).F.Kind), Cell.sl Cd.eVal (bareO o).F.Fields, Cell.lit (Value.string (bareO o).Key), Cell.lit (Value.bool (bareO o).Ok), Cell.lit (Value.int IntKind.i64 (bareO o).V.K), Cell.lit (Value.int IntKind.i64 (bareO o).V.N), Cell.lit (Value.string (bareO o).V.S), Cell.lit (Value.int IntKind.i64 (bareO o).N)], DV.one (Cell.lit (Value.bool (bareOk o)))] else bif o.Kind == (3 : Int) then bif nameOk o.Name then Lf [DV.agg [Cell.lit (Value.int IntKind.i64 o.Kind), Cell.lit (Value.string { data := #[] : ByteArray }), Cell.lit (Value.string o.Text), Cell.lit (Value.string { data := #[] : ByteArray }), Cell.sl Cd.eVal [], Cell.lit (Value.string o.Key), Cell.lit (Value.bool o.Ok), Cell.lit (Value.int IntKind.i64 o.V.K), Cell.lit (Value.int IntKind.i64 o.V.N), Cell.lit (Value.string o.V.S), Cell.lit (Value.int IntKind.i64 o.N)], DV.one (Cell.lit (Value.bool (factOk o.F)))] [DV.agg [Cell.lit (Value.int IntKind.i64 (bareO o).Kind), Cell.lit (Value.string (bareO o).Name), Cell.lit (Value.string (bareO o).Text), Cell.lit (Value.string (bareO o).F.Kind), Cell.sl Cd.eVal (bareO o).F.Fields, Cell.lit (Value.string (bareO o).Key), Cell.lit (Value.bool (bareO o).Ok), Cell.lit (Value.int IntKind.i64 (bareO o).V.K), Cell.lit (Value.int IntKind.i64 (bareO o).V.N), Cell.lit (Value.string (bareO o).V.S), Cell.lit (Value.int IntKind.i64 (bareO o).N)], DV.one (Cell.lit (Value.bool (bareOk o)))] else Lf [DV.agg [Cell.lit (Value.int IntKind.i64 o.Kind), Cell.lit (Value.string { data := #[] : ByteArray }), Cell.lit (Value.string o.Text), Cell.lit (Value.string { data := #[] : ByteArray }), Cell.sl Cd.eVal [], Cell.lit (Value.string o.Key), Cell.lit (Value.bool o.Ok), Cell.lit (Value.int IntKind.i64 o.V.K), Cell.lit (Value.int IntKind.i64 o.V.N), Cell.lit (Value.string o.V.S), Cell.lit (Value.int IntKind.i64 o.N)], DV.one (Cell.lit (Value.bool false))] [DV.agg [Cell.lit (Value.int IntKind.i64 (bareO o).Kind), Cell.lit (Value.string (bareO o).Name), Cell.lit (Value.string (bareO o).Text), Cell.lit (Value.string (bareO o).F.Kind), Cell.sl Cd.eVal (bareO o).F.Fields, Cell.lit (Value.string (bareO o).Key), Cell.lit (Value.bool (bareO o).Ok), Cell.lit (Value.int IntKind.i64 (bareO o).V.K), Cell.lit (Value.int IntKind.i64 (bareO o).V.N), Cell.lit (Value.string (bareO o).V.S), Cell.lit (Value.int IntKind.i64 (bareO o).N)], DV.one (Cell.lit (Value.bool (bareOk o)))] else bif o.Kind == (4 : Int) then bif nameOk o.Name then bif decide ((1 : Nat) ≤ ByteArray.size o.Key ∧ ByteArray.size o.Key ≤ (200 : Nat)) then Lf [DV.agg [Cell.lit (Value.int IntKind.i64 o.Kind), Cell.lit (Value.string { data := #[] : ByteArray }), Cell.lit (Value.string o.Text), Cell.lit (Value.string o.F.Kind), Cell.sl Cd.eVal o.F.Fields, Cell.lit (Value.string { data := #[] : ByteArray }), Cell.lit (Value.bool false), Cell.lit (Value.int IntKind.i64 (0 : Int)), Cell.lit (Value.int IntKind.i64 (0 : Int)), Cell.lit (Value.string { data := #[] : ByteArray }), Cell.lit (Value.int IntKind.i64 o.N)], DV.one (Cell.lit (Value.bool (valOk o.V)))] [DV.agg [Cell.lit (Value.int IntKind.i64 (bareO o).Kind), Cell.lit (Value.string (bareO o).Name), Cell.lit (Value.string (bareO o).Text), Cell.lit (Value.string (bareO o).F.Kind), Cell.sl Cd.eVal (bareO o).F.Fields, Cell.lit (Value.string (bareO o).Key), Cell.lit (Value.bool (bareO o).Ok), Cell.lit (Value.int IntKind.i64 (bareO o).V.K), Cell.lit (Value.int IntKind.i64 (bareO o).V.N), Cell.lit (Value.string (bareO o).V.S), Cell.lit (Value.int IntKind.i64 (bareO o).N)], DV.one (Cell.lit (Value.bool (bareOk o)))] else Lf [DV.agg [Cell.lit (Value.int IntKind.i64 o.Kind), Cell.lit (Value.string { data := #[] : ByteArray }), Cell.lit (Value.string o.Text), Cell.lit (Value.string o.F.Kind), Cell.sl Cd.eVal o.F.Fields, Cell.lit (Value.string { data := #[] : ByteArray }), Cell.lit (Value.bool false), Cell.lit (Value.int IntKind.i64 (0 : Int)), Cell.lit (Value.int IntKind.i64 (0 : Int)), Cell.lit (Value.string { data := #[] : ByteArray }), Cell.lit (Value.int IntKind.i64 o.N)], DV.one (Cell.lit (Value.bool false))] [DV.agg [Cell.lit (Value.int IntKind.i64 (bareO o).Kind), Cell.lit (Value.string (bareO o).Name), Cell.lit (Value.string (bareO o).Text), Cell.lit (Value.string (bareO o).F.Kind), Cell.sl Cd.eVal (bareO o).F.Fields, Cell.lit (Value.string (bareO o).Key), Cell.lit (Value.bool (bareO o).Ok), Cell.lit (Value.int IntKind.i64 (bareO o).V.K), Cell.lit (Value.int IntKind.i64 (bareO o).V.N), Cell.lit (Value.string (bareO o).V.S), Cell.lit (Value.int IntKind.i64 (bareO o).N)], DV.one (Cell.lit (Value.bool (bareOk o)))] else Lf [DV.agg [Cell.lit (Value.int IntKind.i64 o.Kind), Cell.lit (Value.string { data := #[] : ByteArray }), Cell.lit (Value.string o.Text), Cell.lit (Value.string o.F.Kind), Cell.sl Cd.eVal o.F.Fields, Cell.lit (Value.string { data := #[] : ByteArray }), Cell.lit (Value.bool false), Cell.lit (Value.int IntKind.i64 (0 : Int)), Cell.lit (Value.int IntKind.i64 (0 : Int)), Cell.lit (Value.string { data := #[] : ByteArray }), Cell.lit (Value.int IntKind.i64 o.N)], DV.one (Cell.lit (Value.bool false))] [DV.agg [Cell.lit (Value.int IntKind.i64 (bareO o).Kind), Cell.lit (Value.string (bareO o).Name), Cell.lit (Value.string (bareO o).Text), Cell.lit (Value.string (bareO o).F.Kind), Cell.sl Cd.eVal (bareO o).F.Fields, Cell.lit (Value.string (bareO o).Key), Cell.lit (Value.bool (bareO o).Ok), Cell.lit (Value.int IntKind.i64 (bareO o).V.K), Cell.lit (Value.int IntKind.i64 (bareO o).V.N), Cell.lit (Value.string (bareO o).V.S), Cell.lit (Value.int IntKind.i64 (bareO o).N)], DV.one (Cell.lit (Value.bool (bareOk o)))] else bif o.Kind == (5 : Int) then Lf [DV.agg [Cell.lit (Value.int IntKind.i64 o.Kind), Cell.lit (Value.string o.Name), Cell.lit (Value.string o.Text), Cell.lit (Value.string o.F.Kind), Cell.sl Cd.eVal o.F.Fields, Cell.lit (Value.string o.Key), Cell.lit (Value.bool o.Ok), Cell.lit (Value.int IntKind.i64 o.V.K), Cell.lit (Value.int IntKind.i64 o.V.N), Cell.lit (Value.string o.V.S), Cell.lit (Value.int IntKind.i64 (0 : Int))], DV.one (Cell.lit (Value.bool (decide ((0 : Int) ≤ o.N ∧ o.N ≤ (1000000000 : Int)))))] [DV.agg [Cell.lit (Value.int IntKind.i64 (bareO o).Kind), Cell.lit (Value.string (bareO o).Name), Cell.lit (Value.string (bareO o).Text), Cell.lit (Value.string (bareO o).F.Kind), Cell.sl Cd.eVal (bareO o).F.Fields, Cell.lit (Value.string (bareO o).Key), Cell.lit (Value.bool (bareO o).Ok), Cell.lit (Value.int IntKind.i64 (bareO o).V.K), Cell.lit (Value.int IntKind.i64 (bareO o).V.N), Cell.lit (Value.string (bareO o).V.S), Cell.lit (Value.int IntKind.i64 (bareO o).N)], DV.one (Cell.lit (Value.bool (bareOk o)))] else bif o.Kind == (6 : Int) then Lf [DV.agg [Cell.lit (Value.int IntKind.i64 o.Kind), Cell.lit (Value.string o.Name), Cell.lit (Value.string o.Text), Cell.lit (Value.string o.F.Kind), Cell.sl Cd.eVal o.F.Fields, Cell.lit (Value.string o.Key), Cell.lit (Value.bool o.Ok), Cell.lit (Value.int IntKind.i64 o.V.K), Cell.lit (Value.int IntKind.i64 o.V.N), Cell.lit (Value.string o.V.S), Cell.lit (Value.int IntKind.i64 o.N)], DV.one (Cell.lit (Value.bool true))] [DV.agg [Cell.lit (Value.int IntKind.i64 (bareO o).Kind), Cell.lit (Value.string (bareO o).Name), Cell.lit (Value.string (bareO o).Text), Cell.lit (Value.string (bareO o).F.Kind), Cell.sl Cd.eVal (bareO o).F.Fields, Cell.lit (Value.string (bareO o).Key), Cell.lit (Value.bool (bareO o).Ok), Cell.lit (Value.int IntKind.i64 (bareO o).V.K), Cell.lit (Value.int IntKind.i64 (bareO o).V.N), Cell.lit (Value.string (bareO o).V.S), Cell.lit (Value.int IntKind.i64 (bareO o).N)], DV.one (Cell.lit (Value.bool (bareOk o)))] else bif o.Kind == (7 : Int) then Lf [DV.agg [Cell.lit (Value.int IntKind.i64 o.Kind), Cell.lit (Value.string { data := #[] : ByteArray }), Cell.lit (Value.string o.Text), Cell.lit (Value.string o.F.Kind), Cell.sl Cd.eVal o.F.Fields, Cell.lit (Value.string o.Key), Cell.lit (Value.bool o.Ok), Cell.lit (Value.int IntKind.i64 o.V.K), Cell.lit (Value.int IntKind.i64 o.V.N), Cell.lit (Value.string o.V.S), Cell.lit (Value.int IntKind.i64 o.N)], DV.one (Cell.lit (Value.bool (nameOk o.Name)))] [DV.agg [Cell.lit (Value.int IntKind.i64 (bareO o).Kind), Cell.lit (Value.string (bareO o).Name), Cell.lit (Value.string (bareO o).Text), Cell.lit (Value.string (bareO o).F.Kind), Cell.sl Cd.eVal (bareO o).F.Fields, Cell.lit (Value.string (bareO o).Key), Cell.lit (Value.bool (bareO o).Ok), Cell.lit (Value.int IntKind.i64 (bareO o).V.K), Cell.lit (Value.int IntKind.i64 (bareO o).V.N), Cell.lit (Value.string (bareO o).V.S), Cell.lit (Value.int IntKind.i64 (bareO o).N)], DV.one (Cell.lit (Value.bool (bareOk o)))] else Lf [DV.agg [Cell.lit (Value.int IntKind.i64 o.Kind), Cell.lit (Value.string o.Name), Cell.lit (Value.string o.Text), Cell.lit (Value.string o.F.Kind), Cell.sl Cd.eVal o.F.Fields, Cell.lit (Value.string o.Key), Cell.lit (Value.bool o.Ok), Cell.lit (Value.int IntKind.i64 o.V.K), Cell.lit (Value.int IntKind.i64 o.V.N), Cell.lit (Value.string o.V.S), Cell.lit (Value.int IntKind.i64 o.N)], DV.one (Cell.lit (Value.bool false))] [DV.agg [Cell.lit (Value.int IntKind.i64 (bareO o).Kind), Cell.lit (Value.string (bareO o).Name), Cell.lit (Value.string (bareO o).Text), Cell.lit (Value.string (bareO o).F.Kind), Cell.sl Cd.eVal (bareO o).F.Fields, Cell.lit (Value.string (bareO o).Key), Cell.lit (Value.bool (bareO o).Ok), Cell.lit (Value.int IntKind.i64 (bareO o).V.K), Cell.lit (Value.int IntKind.i64 (bareO o).V.N), Cell.lit (Value.string (bareO o).V.S), Cell.lit (Value.int IntKind.i64 (bareO o).N)], DV.one (Cell.lit (Value.bool (bareOk o)))]) := by kernel_rfl
theorem ok_impl_bareOp : Holds EE (81, con_impl_bareOp) := by
  refine holds_of EE_ok Go.Proofs.Try.func81 con_impl_bareOp (by kernel_rfl) rfl use_impl_bareOp (all_cons ok_impl_NameOk (all_cons ok_impl_FactOk (all_cons ok_impl_isKey (all_cons ok_impl_ValOk (all_cons ok_impl_isTime all_nil))))) ann_impl_bareOp (fun (o : DOp) hp hb => ?_)
  have hb_o : BdDV (U := UU) (.agg [.lit (.int .i64 o.Kind), .lit (.string o.Name), .lit (.string o.Text), .lit (.string o.F.Kind), .sl .eVal o.F.Fields, .lit (.string o.Key), .lit (.bool o.Ok), .lit (.int .i64 o.V.K), .lit (.int .i64 o.V.N), .lit (.string o.V.S), .lit (.int .i64 o.N)]) := hb _ (List.mem_cons_self)
  have hl_o_Name : o.Name.size ≤ 9223372036854775807 := Bd.str (hb_o _ (by simp))
  have hl_o_Text : o.Text.size ≤ 9223372036854775807 := Bd.str (hb_o _ (by simp))
  have hl_o_F_Kind : o.F.Kind.size ≤ 9223372036854775807 := Bd.str (hb_o _ (by simp))
  have hl_o_F_Fields : o.F.Fields.length ≤ 9223372036854775807 := Bd.len (U := UU) (τ := .eVal) (xs := o.F.Fields) (hb_o _ (by simp))
  have hl_o_Key : o.Key.size ≤ 9223372036854775807 := Bd.str (hb_o _ (by simp))
  have hl_o_V_S : o.V.S.size ≤ 9223372036854775807 := Bd.str (hb_o _ (by simp))
  clear hp hb
  rw [vc_impl_bareOp o]
  have z1 : zFact = ⟨⟨#[]⟩, []⟩ := rfl
  have z2 : zVal = ⟨0, 0, ⟨#[]⟩⟩ := rfl
  have z3 : noBytes = ⟨#[]⟩ := rfl
  repeat' (refine if_cond (fun h => ?_) (fun h => ?_))
  all_goals (refine Lf_r ?_; simp_all [bareO, bareOk] <;> first | rfl | omega)
def con_impl_OpOk : Con UU where
  α := DOp
  md := [.ro]
  of := fun | [.agg [.lit (.int .i64 a0), .lit (.string a1), .lit (.string a2), .lit (.string a3), .sl .eVal a4, .lit (.string a5), .lit (.bool a6), .lit (.int .i64 a7), .lit (.int .i64 a8), .lit (.string a9), .lit (.int .i64 a10)]] => some ⟨a0, a1, a2, ⟨a3, a4⟩, a5, a6, ⟨a7, a8, a9⟩, a10⟩ | _ => none
  ds := fun o => [.agg [.lit (.int .i64 o.Kind), .lit (.string o.Name), .lit (.string o.Text), .lit (.string o.F.Kind), .sl .eVal o.F.Fields, .lit (.string o.Key), .lit (.bool o.Ok), .lit (.int .i64 o.V.K), .lit (.int .i64 o.V.N), .lit (.string o.V.S), .lit (.int .i64 o.N)]]
  pre := fun o => []
  res := fun o => ⟨[.one (.lit (.bool (opOk o)))], true, []⟩
  law := by intro l x h; (try simp only at h); split at h <;> cases h; rfl
def ann_impl_OpOk : con_impl_OpOk.α → Nat → Option (Ann UU) := fun o => annL []
def use_impl_OpOk : List (FuncId × Con UU) := [(81, con_impl_bareOp)]
theorem vc_impl_OpOk (o : DOp) : goal EE use_impl_OpOk Go.Proofs.Try.f21 con_impl_OpOk ann_impl_OpOk o = (bif !bareOk o then Lf [DV.one (Cell.lit (Value.bool false))] [DV.one (Cell.lit (Value.bool (opOk o)))] else bif !ByteArray.toList (bareO o).Name == ByteArray.toList { data := #[] : ByteArray } then Lf [DV.one (Cell.lit (Value.bool false))] [DV.one (Cell.lit (Value.bool (opOk o)))] else bif !ByteArray.toList (bareO o).Text == ByteArray.toList { data := #[] : ByteArray } then Lf [DV.one (Cell.lit (Value.bool false))] [DV.one (Cell.lit (Value.bool (opOk o)))] else bif !ByteArray.toList (bareO o).Key == ByteArray.toList { data := #[] : ByteArray } then Lf [DV.one (Cell.lit (Value.bool false))] [DV.one (Cell.lit (Value.bool (opOk o)))] else bif (bareO o).Ok then Lf [DV.one (Cell.lit (Value.bool false))] [DV.one (Cell.lit (Value.bool (opOk o)))] else bif (bareO o).N != (0 : Int) then Lf [DV.one (Cell.lit (Value.bool false))] [DV.one (Cell.lit (Value.bool (opOk o)))] else bif ByteArray.toList (bareO o).F.Kind == ByteArray.toList { data := #[] : ByteArray } then bif (↑(List.length (bareO o).F.Fields) : Int) == (0 : Int) then Lf [DV.one (Cell.lit (Value.bool ((bareO o).V.K == (0 : Int) && ((bareO o).V.N == (0 : Int) && (ByteArray.toList (bareO o).V.S == ByteArray.toList { data := #[] : ByteArray } && true)))))] [DV.one (Cell.lit (Value.bool (opOk o)))] else Lf [DV.one (Cell.lit (Value.bool false))] [DV.one (Cell.lit (Value.bool (opOk o)))] else Lf [DV.one (Cell.lit (Value.bool false))] [DV.one (Cell.lit (Value.bool (opOk o)))]) := by kernel_rfl
theorem ok_impl_OpOk : Holds EE (21, con_impl_OpOk) := by
  refine holds_of EE_ok Go.Proofs.Try.func21 con_impl_OpOk (by kernel_rfl) rfl use_impl_OpOk (all_cons ok_impl_bareOp all_nil) ann_impl_OpOk (fun (o : DOp) hp hb => ?_)
  have hb_o : BdDV (U := UU) (.agg [.lit (.int .i64 o.Kind), .lit (.string o.Name), .lit (.string o.Text), .lit (.string o.F.Kind), .sl .eVal o.F.Fields, .lit (.string o.Key), .lit (.bool o.Ok), .lit (.int .i64 o.V.K), .lit (.int .i64 o.V.N), .lit (.string o.V.S), .lit (.int .i64 o.N)]) := hb _ (List.mem_cons_self)
  have hl_o_Name : o.Name.size ≤ 9223372036854775807 := Bd.str (hb_o _ (by simp))
  have hl_o_Text : o.Text.size ≤ 9223372036854775807 := Bd.str (hb_o _ (by simp))
  have hl_o_F_Kind : o.F.Kind.size ≤ 9223372036854775807 := Bd.str (hb_o _ (by simp))
  have hl_o_F_Fields : o.F.Fields.length ≤ 9223372036854775807 := Bd.len (U := UU) (τ := .eVal) (xs := o.F.Fields) (hb_o _ (by simp))
  have hl_o_Key : o.Key.size ≤ 9223372036854775807 := Bd.str (hb_o _ (by simp))
  have hl_o_V_S : o.V.S.size ≤ 9223372036854775807 := Bd.str (hb_o _ (by simp))
  clear hp hb
  rw [vc_impl_OpOk o]
  have e : ∀ s : ByteArray, (ByteArray.toList s == ByteArray.toList { data := #[] }) = decide (s = noBytes) := fun s => toList_beq _ _
  have e2 : ∀ v : DVal, (v.K == 0 && (v.N == 0 && (decide (v.S = noBytes) && true))) = decide (v = zVal) := fun v => by rw [← val_beq v zVal, toList_beq]; rfl
  simp only [e, e2]
  rw [opOk_bare]
  simp only [noFact]
  repeat' (refine if_cond (fun h => ?_) (fun h => ?_))
  all_goals (refine Lf_b ?_; grind)
theorem ofInt_toNat {m : Int} (h0 : 0 ≤ m) (h : m < 9223372036854775808) : (BitVec.ofInt 64 m).toNat = m.toNat := by
  rw [BitVec.toNat_ofInt]
  omega
theorem and_i64 {m : Int} (h0 : 0 ≤ m) (h : m < 9223372036854775808) (k : Nat) (hk : k ≤ 62) : IntKind.wrap .i64 (((BitVec.ofInt 64 m &&& BitVec.ofInt 64 (2 ^ k - 1 : Int)).toNat : Nat) : Int) = m % (2 ^ k : Nat) := by
  have h2 : (2 : Nat) ^ k ≤ 2 ^ 62 := Nat.pow_le_pow_right (by omega) hk
  have hp : 0 < 2 ^ k := Nat.two_pow_pos k
  have e : (BitVec.ofInt 64 (2 ^ k - 1 : Int)).toNat = 2 ^ k - 1 := by
    rw [BitVec.toNat_ofInt]
    have : ((2 : Int) ^ k) = ((2 ^ k : Nat) : Int) := by norm_cast
    rw [this]
    omega
  rw [BitVec.toNat_and, ofInt_toNat h0 h, e, Nat.and_two_pow_sub_one_eq_mod]
  have hm : m.toNat % 2 ^ k < 2 ^ k := Nat.mod_lt _ hp
  rw [wrap_i64 (by omega) (by omega)]
  have hm2 : m = ((m.toNat : Nat) : Int) := by omega
  conv => rhs; rw [hm2]
  norm_cast
theorem and127 {m : Int} (h0 : 0 ≤ m) (h : m < 9223372036854775808) : IntKind.wrap .i64 (((BitVec.ofInt (IntKind.bits .i64) m &&& BitVec.ofInt (IntKind.bits .i64) 127).toNat : Nat) : Int) = m % 128 := and_i64 h0 h 7 (by omega)
theorem and1 {m : Int} (h0 : 0 ≤ m) (h : m < 9223372036854775808) : IntKind.wrap .i64 (((BitVec.ofInt (IntKind.bits .i64) m &&& BitVec.ofInt (IntKind.bits .i64) 1).toNat : Nat) : Int) = m % 2 := and_i64 h0 h 1 (by omega)
theorem or_i64 {x y : Int} (h0 : 0 ≤ x) (h1 : 0 ≤ y) (k : Nat) (hk : k ≤ 61) (hx : x < (2 ^ k : Nat)) (hy : y % (2 ^ k : Nat) = 0) (hy2 : y < 4611686018427387904) : IntKind.wrap .i64 (((BitVec.ofInt (IntKind.bits .i64) x ||| BitVec.ofInt (IntKind.bits .i64) y).toNat : Nat) : Int) = x + y := by
  have h2 : (2 : Nat) ^ k ≤ 2 ^ 61 := Nat.pow_le_pow_right (by omega) hk
  have e1 : (BitVec.ofInt 64 x).toNat = x.toNat := ofInt_toNat h0 (by omega)
  have e2 : (BitVec.ofInt 64 y).toNat = y.toNat := ofInt_toNat h1 (by omega)
  show IntKind.wrap .i64 (((BitVec.ofInt 64 x ||| BitVec.ofInt 64 y).toNat : Nat) : Int) = x + y
  rw [BitVec.toNat_or, e1, e2]
  obtain ⟨q, hq⟩ : ∃ q : Nat, y.toNat = 2 ^ k * q := by
    have : (y.toNat : Int) % ((2 ^ k : Nat) : Int) = 0 := by rw [Int.toNat_of_nonneg h1]; exact hy
    have h3 : y.toNat % 2 ^ k = 0 := by exact_mod_cast this
    exact ⟨y.toNat / 2 ^ k, (Nat.mul_div_cancel' (Nat.dvd_of_mod_eq_zero h3)).symm⟩
  have e3 : x.toNat ||| y.toNat = x.toNat + y.toNat := by
    rw [hq, Nat.or_comm, ← Nat.two_pow_add_eq_or_of_lt (by omega : x.toNat < 2 ^ k)]
    omega
  rw [e3, wrap_i64 (by omega) (by omega)]
  omega
theorem or128 {x : Int} (h0 : 0 ≤ x) (h : x < 128) : IntKind.wrap .i64 (((BitVec.ofInt (IntKind.bits .i64) x ||| BitVec.ofInt (IntKind.bits .i64) 128).toNat : Nat) : Int) = x + 128 := or_i64 h0 (by omega) 7 (by omega) (by simpa using h) (by decide) (by omega)
theorem shr_i64 {m : Int} (h0 : 0 ≤ m) (k : Nat) (hk : k ≤ 63) : Int.fdiv m (2 ^ (min (Int.toNat (k : Int)) (IntKind.bits .i64))) = m / (2 ^ k : Nat) := by
  have : min (Int.toNat (k : Int)) (IntKind.bits .i64) = k := by show min (Int.toNat (k : Int)) 64 = k; omega
  rw [this, Int.fdiv_eq_ediv_of_nonneg _ (by have : (0 : Int) ≤ 2 ^ k := Int.pow_nonneg (by omega); exact this)]
  norm_cast
theorem wrap_u8 {n : Int} (h : 0 ≤ n) (h' : n ≤ 255) : IntKind.wrap .u8 n = n := by
  simp only [IntKind.wrap]
  simp [IntKind.bits, IntKind.signed]
  omega
def vi (m : Nat) : List Int := if m ≤ 127 then [(m : Int)] else ((m % 128 + 128 : Nat) : Int) :: vi (m / 128)
termination_by m
decreasing_by omega
theorem vi_len : ∀ (k m : Nat), m < 128 ^ (k + 1) → (vi m).length ≤ k + 1
  | 0, m, h => by rw [vi, if_pos (by simpa using Nat.le_of_lt_succ (by simpa using h))]; simp
  | k + 1, m, h => by
    rw [vi]
    split
    · simp
    · have : m / 128 < 128 ^ (k + 1) := by
        rw [Nat.div_lt_iff_lt_mul (by omega)]
        rw [Nat.pow_succ] at h
        exact h
      have := vi_len k (m / 128) this
      simp only [List.length_cons]; omega
def clampI (n : Int) : Int := if (if n < 1000000000 then n else 1000000000) > -1000000000 then (if n < 1000000000 then n else 1000000000) else -1000000000
theorem clampI_le (n : Int) : -1000000000 ≤ clampI n ∧ clampI n ≤ 1000000000 := by unfold clampI; split <;> split <;> omega
def zigI (n : Int) : Int := if clampI n < 0 then -2 * clampI n - 1 else 2 * clampI n
theorem zigI_le (n : Int) : 0 ≤ zigI n ∧ zigI n ≤ 2000000000 := by have := clampI_le n; unfold zigI; split <;> omega
def numB (n : Int) : List Int := vi (zigI n).toNat
theorem numB_len (n : Int) : (numB n).length ≤ 5 := vi_len 4 _ (by have := zigI_le n; omega)
theorem vi_small {u : Int} (h0 : 0 ≤ u) (h : u ≤ 127) : vi u.toNat = [u] := by rw [vi, if_pos (by omega)]; simp; omega
theorem vi_big {u : Int} (h0 : 0 ≤ u) (h : ¬ u ≤ 127) : vi u.toNat = (u % 128 + 128) :: vi (u / 128).toNat := by
  rw [vi, if_neg (by omega)]
  have e : (u / 128).toNat = u.toNat / 128 := by omega
  rw [e]
  congr 1
  omega
def txtI (s : ByteArray) : List Int := (bs s).map fun b => (b.toNat : Int)
theorem txtI_len (s : ByteArray) : (txtI s).length = s.size := by rw [txtI, List.length_map, bs_len]
def textB (s : ByteArray) : List Int := numB s.size ++ txtI s
def valB (v : DVal) : List Int := numB v.K ++ (if v.K = 1 then numB v.N else textB v.S)
def valsB (l : List DVal) : List Int := l.flatMap valB
def factB (f : DFact) : List Int := textB f.Kind ++ numB f.Fields.length ++ valsB f.Fields
def flagB (b : Bool) : List Int := numB (if b then 1 else 0)
def opB (o : DOp) : List Int := if opOk o = true then
    numB o.Kind ++ textB o.Name ++ textB o.Text ++ (if o.Kind = 3 then numB 1 ++ factB o.F else numB 0) ++ textB o.Key ++ flagB o.Ok ++ (if o.Kind = 4 then numB 1 ++ valB o.V else numB 0) ++ numB o.N else []
theorem textB_len (s : ByteArray) : (textB s).length ≤ 5 + s.size := by have := numB_len s.size; simp only [textB, List.length_append, txtI_len]; omega
theorem valB_len (v : DVal) : (valB v).length ≤ 10 + v.S.size := by
  have h1 := numB_len v.K; have h2 := numB_len v.N; have h3 := textB_len v.S
  simp only [valB, List.length_append]; split <;> omega
def con_impl_putNum : Con UU where
  α := (List Int) × Int
  md := [.mv, .ro]
  of := fun | [.one (.sl .byte a0), .one (.lit (.int .i64 a1))] => some (a0, a1) | _ => none
  ds := fun (b, n) => [.one (.sl .byte b), .one (.lit (.int .i64 n))]
  pre := fun (b, n) => [b.length ≤ 4294967280]
  res := fun (b, n) => ⟨[.one (.sl .byte (b ++ numB n))], true, []⟩
  law := by intro l x h; (try simp only at h); split at h <;> cases h; rfl
def I_impl_putNum_5 (b : (List Int)) (n : Int) : List Int × Int × Unit → Prop := fun (out, u, _) => 0 ≤ u ∧ u ≤ 2000000000 ∧ out ++ vi u.toNat = b ++ numB n
def μ_impl_putNum_5 (b : (List Int)) (n : Int) : List Int × Int × Unit → Nat := fun (out, u, _) => u.toNat
def ann_impl_putNum : con_impl_putNum.α → Nat → Option (Ann UU) := fun (b, n) => annL [(5, annOf [.slot 0 (0, 1024) (.own .byte true), .slot 5 (5, 1024) (.lit (.int .i64))] (fun _ => I_impl_putNum_5 b n) (μ_impl_putNum_5 b n))]
def use_impl_putNum : List (FuncId × Con UU) := []
theorem vc_impl_putNum (b : (List Int)) (n : Int) : goal EE use_impl_putNum Go.Proofs.Try.f101 con_impl_putNum ann_impl_putNum (b, n) = (let x0 : Int := if (if n < (1000000000 : Int) then n else (1000000000 : Int)) > (-1000000000 : Int) then if n < (1000000000 : Int) then n else (1000000000 : Int) else (-1000000000 : Int);
bif decide (x0 < (0 : Int)) then
  I_impl_putNum_5 b n (b, IntKind.wrap IntKind.i64 (IntKind.wrap IntKind.i64 ((-2 : Int) * x0) - (1 : Int)), PUnit.unit) ∧
    ∀ (y : List Int × Int × PUnit),
      let x1 : List Int := [IntKind.wrap IntKind.u8 (IntKind.wrap IntKind.i64 ((128 : Int) + Int.tmod y.2.1 (128 : Int)))];
      let x2 : List Int := [IntKind.wrap IntKind.u8 y.2.1];
      I_impl_putNum_5 b n y → bif decide (y.2.1 > (127 : Int)) then (128 : Int) ≠ (0 : Int) ∧ List.length y.1 + List.length x1 ≤ (4294967296 : Nat) ∧ (128 : Int) ≠ (0 : Int) ∧ I_impl_putNum_5 b n (y.1 ++ x1, IntKind.wrap IntKind.i64 (Int.tdiv y.2.1 (128 : Int)), PUnit.unit) ∧ μ_impl_putNum_5 b n (y.1 ++ x1, IntKind.wrap IntKind.i64 (Int.tdiv y.2.1 (128 : Int)), PUnit.unit) < μ_impl_putNum_5 b n y else List.length y.1 + List.length x2 ≤ (4294967296 : Nat) ∧ Lf [DV.one (Cell.sl Cd.byte (y.1 ++ x2))] [DV.one (Cell.sl Cd.byte (b ++ numB n))]
else
  I_impl_putNum_5 b n (b, IntKind.wrap IntKind.i64 ((2 : Int) * x0), PUnit.unit) ∧
    ∀ (y : List Int × Int × PUnit),
      let x1 : List Int := [IntKind.wrap IntKind.u8 (IntKind.wrap IntKind.i64 ((128 : Int) + Int.tmod y.2.1 (128 : Int)))];
      let x2 : List Int := [IntKind.wrap IntKind.u8 y.2.1];
      I_impl_putNum_5 b n y → bif decide (y.2.1 > (127 : Int)) then (128 : Int) ≠ (0 : Int) ∧ List.length y.1 + List.length x1 ≤ (4294967296 : Nat) ∧ (128 : Int) ≠ (0 : Int) ∧ I_impl_putNum_5 b n (y.1 ++ x1, IntKind.wrap IntKind.i64 (Int.tdiv y.2.1 (128 : Int)), PUnit.unit) ∧ μ_impl_putNum_5 b n (y.1 ++ x1, IntKind.wrap IntKind.i64 (Int.tdiv y.2.1 (128 : Int)), PUnit.unit) < μ_impl_putNum_5 b n y else List.length y.1 + List.length x2 ≤ (4294967296 : Nat) ∧ Lf [DV.one (Cell.sl Cd.byte (y.1 ++ x2))] [DV.one (Cell.sl Cd.byte (b ++ numB n))]) := by kernel_rfl
theorem ok_impl_putNum : Holds EE (101, con_impl_putNum) := by
  refine holds_of EE_ok Go.Proofs.Try.func101 con_impl_putNum (by kernel_rfl) rfl use_impl_putNum all_nil ann_impl_putNum (fun x hp hb => ?_)
  obtain ⟨b, n⟩ := x
  have hb_b : BdDV (U := UU) (.one (.sl .byte b)) := hb _ (List.mem_cons_self)
  have hl_b : b.length ≤ 9223372036854775807 := Bd.len hb_b
  have hb_n : BdDV (U := UU) (.one (.lit (.int .i64 n))) := hb _ (List.mem_cons_of_mem _ (List.mem_cons_self))
  have hl_n := Bd.i64 hb_n
  have hp0 : b.length ≤ 4294967280 := hp _ (List.mem_cons_self)
  clear hp hb
  rw [vc_impl_putNum b n]
  dsimp only
  have hz := zigI_le n
  have hc := clampI_le n
  have hn := numB_len n
  have he : ∀ e : Int, e = zigI n → I_impl_putNum_5 b n (b, e, PUnit.unit) := fun e h => by subst h; exact ⟨hz.1, hz.2, rfl⟩
  refine if_cond (fun h => ⟨he _ ?_, fun y hI => ?_⟩) (fun h => ⟨he _ ?_, fun y hI => ?_⟩)
  · have h : clampI n < 0 := of_decide_eq_true h
    show IntKind.wrap .i64 (IntKind.wrap .i64 (-2 * clampI n) - 1) = zigI n
    rw [zigI, if_pos h, wrap_i64 (n := -2 * clampI n) (by omega) (by omega), wrap_i64 (by omega) (by omega)]
  rotate_left
  · have h : ¬ clampI n < 0 := of_decide_eq_false h
    show IntKind.wrap .i64 (2 * clampI n) = zigI n
    rw [zigI, if_neg h, wrap_i64 (by omega) (by omega)]
  all_goals
    obtain ⟨out, u, _⟩ := y
    obtain ⟨h0, h1, h2⟩ := (hI : 0 ≤ u ∧ u ≤ 2000000000 ∧ out ++ vi u.toNat = b ++ numB n)
    dsimp only
    have hl : out.length + (vi u.toNat).length = b.length + (numB n).length := by rw [← List.length_append, h2, List.length_append]
    refine if_cond (fun hu => ?_) (fun hu => ?_)
    · have hu := of_decide_eq_true hu
      have e1 : IntKind.wrap .u8 (IntKind.wrap .i64 (128 + u.tmod 128)) = u % 128 + 128 := by
        rw [Int.tmod_eq_emod_of_nonneg h0, wrap_i64 (by omega) (by omega), wrap_u8 (by omega) (by omega)]; omega
      have e2 : IntKind.wrap .i64 (u.tdiv 128) = u / 128 := by rw [Int.tdiv_eq_ediv_of_nonneg h0, wrap_i64 (by omega) (by omega)]
      rw [vi_big h0 (by omega)] at h2 hl
      simp only [List.length_cons] at hl
      simp only [e1, e2]
      repeat' (first | refine And.intro (by first | omega | (simp only [List.length_cons, List.length_nil]; omega)) ?_ | fail)
      all_goals first
        | (refine ⟨⟨by omega, by omega, ?_⟩, ?_⟩
           · rw [List.append_assoc]; exact h2
           · show (u / 128).toNat < u.toNat; omega)
    · have hu := of_decide_eq_false hu
      rw [vi_small h0 (by omega)] at h2 hl
      rw [wrap_u8 h0 (by omega), h2]
      exact ⟨by simp at hl ⊢; omega, Lf_rfl _⟩
def con_spec_PutNum : Con UU where
  α := (List Int) × Int
  md := [.ro, .ro]
  of := fun | [.one (.sl .byte a0), .one (.lit (.int .i64 a1))] => some (a0, a1) | _ => none
  ds := fun (b, n) => [.one (.sl .byte b), .one (.lit (.int .i64 n))]
  pre := fun (b, n) => [b.length ≤ 4294967280]
  res := fun (b, n) => ⟨[.one (.sl .byte (b ++ numB n))], true, []⟩
  law := by intro l x h; (try simp only at h); split at h <;> cases h; rfl
def I_spec_PutNum_9 (b : (List Int)) (n : Int) : List Int × Int × Unit → Prop := fun (out, u, _) => 0 ≤ u ∧ u ≤ 2000000000 ∧ out ++ vi u.toNat = b ++ numB n
def μ_spec_PutNum_9 (b : (List Int)) (n : Int) : List Int × Int × Unit → Nat := fun (out, u, _) => u.toNat
def ann_spec_PutNum : con_spec_PutNum.α → Nat → Option (Ann UU) := fun (b, n) => annL [(9, annOf [.slot 5 (5, 1024) (.own .byte true), .slot 6 (6, 1024) (.lit (.int .i64))] (fun _ => I_spec_PutNum_9 b n) (μ_spec_PutNum_9 b n))]
def use_spec_PutNum : List (FuncId × Con UU) := []
theorem vc_spec_PutNum (b : (List Int)) (n : Int) : goal EE use_spec_PutNum Go.Proofs.Try.f97 con_spec_PutNum ann_spec_PutNum (b, n) = (let x0 : List Int := [] ++ b;
(0 : Nat) + List.length b ≤ (4294967296 : Nat) ∧
  bif decide (n > (1000000000 : Int)) then
    I_spec_PutNum_9 b n (x0, IntKind.wrap IntKind.i64 ((2 : Int) * (1000000000 : Int)), PUnit.unit) ∧
      ∀ (y : List Int × Int × PUnit),
        let x1 : List Int := [IntKind.wrap IntKind.u8 (IntKind.wrap IntKind.i64 (↑(BitVec.toNat (BitVec.ofInt (IntKind.bits IntKind.i64) (IntKind.wrap IntKind.i64 (↑(BitVec.toNat (BitVec.ofInt (IntKind.bits IntKind.i64) y.2.1 &&& BitVec.ofInt (IntKind.bits IntKind.i64) (127 : Int))) : Int)) ||| BitVec.ofInt (IntKind.bits IntKind.i64) (128 : Int))) : Int))];
        let x2 : List Int := [IntKind.wrap IntKind.u8 y.2.1];
        I_spec_PutNum_9 b n y → bif decide (y.2.1 > (127 : Int)) then List.length y.1 + List.length x1 ≤ (4294967296 : Nat) ∧ (0 : Int) ≤ (7 : Int) ∧ I_spec_PutNum_9 b n (y.1 ++ x1, Int.fdiv y.2.1 ((2 : Int) ^ min (Int.toNat (7 : Int)) (IntKind.bits IntKind.i64)), PUnit.unit) ∧ μ_spec_PutNum_9 b n (y.1 ++ x1, Int.fdiv y.2.1 ((2 : Int) ^ min (Int.toNat (7 : Int)) (IntKind.bits IntKind.i64)), PUnit.unit) < μ_spec_PutNum_9 b n y else List.length y.1 + List.length x2 ≤ (4294967296 : Nat) ∧ Lf [DV.one (Cell.sl Cd.byte (y.1 ++ x2))] [DV.one (Cell.sl Cd.byte (b ++ numB n))]
  else
    bif decide (n < (-1000000000 : Int)) then
      I_spec_PutNum_9 b n (x0, IntKind.wrap IntKind.i64 (IntKind.wrap IntKind.i64 ((-2 : Int) * (-1000000000 : Int)) - (1 : Int)), PUnit.unit) ∧
        ∀ (y : List Int × Int × PUnit),
          let x1 : List Int := [IntKind.wrap IntKind.u8 (IntKind.wrap IntKind.i64 (↑(BitVec.toNat (BitVec.ofInt (IntKind.bits IntKind.i64) (IntKind.wrap IntKind.i64 (↑(BitVec.toNat (BitVec.ofInt (IntKind.bits IntKind.i64) y.2.1 &&& BitVec.ofInt (IntKind.bits IntKind.i64) (127 : Int))) : Int)) ||| BitVec.ofInt (IntKind.bits IntKind.i64) (128 : Int))) : Int))];
          let x2 : List Int := [IntKind.wrap IntKind.u8 y.2.1];
          I_spec_PutNum_9 b n y → bif decide (y.2.1 > (127 : Int)) then List.length y.1 + List.length x1 ≤ (4294967296 : Nat) ∧ (0 : Int) ≤ (7 : Int) ∧ I_spec_PutNum_9 b n (y.1 ++ x1, Int.fdiv y.2.1 ((2 : Int) ^ min (Int.toNat (7 : Int)) (IntKind.bits IntKind.i64)), PUnit.unit) ∧ μ_spec_PutNum_9 b n (y.1 ++ x1, Int.fdiv y.2.1 ((2 : Int) ^ min (Int.toNat (7 : Int)) (IntKind.bits IntKind.i64)), PUnit.unit) < μ_spec_PutNum_9 b n y else List.length y.1 + List.length x2 ≤ (4294967296 : Nat) ∧ Lf [DV.one (Cell.sl Cd.byte (y.1 ++ x2))] [DV.one (Cell.sl Cd.byte (b ++ numB n))]
    else
      bif decide (n < (0 : Int)) then
        I_spec_PutNum_9 b n (x0, IntKind.wrap IntKind.i64 (IntKind.wrap IntKind.i64 ((-2 : Int) * n) - (1 : Int)), PUnit.unit) ∧
          ∀ (y : List Int × Int × PUnit),
            let x1 : List Int := [IntKind.wrap IntKind.u8 (IntKind.wrap IntKind.i64 (↑(BitVec.toNat (BitVec.ofInt (IntKind.bits IntKind.i64) (IntKind.wrap IntKind.i64 (↑(BitVec.toNat (BitVec.ofInt (IntKind.bits IntKind.i64) y.2.1 &&& BitVec.ofInt (IntKind.bits IntKind.i64) (127 : Int))) : Int)) ||| BitVec.ofInt (IntKind.bits IntKind.i64) (128 : Int))) : Int))];
            let x2 : List Int := [IntKind.wrap IntKind.u8 y.2.1];
            I_spec_PutNum_9 b n y → bif decide (y.2.1 > (127 : Int)) then List.length y.1 + List.length x1 ≤ (4294967296 : Nat) ∧ (0 : Int) ≤ (7 : Int) ∧ I_spec_PutNum_9 b n (y.1 ++ x1, Int.fdiv y.2.1 ((2 : Int) ^ min (Int.toNat (7 : Int)) (IntKind.bits IntKind.i64)), PUnit.unit) ∧ μ_spec_PutNum_9 b n (y.1 ++ x1, Int.fdiv y.2.1 ((2 : Int) ^ min (Int.toNat (7 : Int)) (IntKind.bits IntKind.i64)), PUnit.unit) < μ_spec_PutNum_9 b n y else List.length y.1 + List.length x2 ≤ (4294967296 : Nat) ∧ Lf [DV.one (Cell.sl Cd.byte (y.1 ++ x2))] [DV.one (Cell.sl Cd.byte (b ++ numB n))]
      else
        I_spec_PutNum_9 b n (x0, IntKind.wrap IntKind.i64 ((2 : Int) * n), PUnit.unit) ∧
          ∀ (y : List Int × Int × PUnit),
            let x1 : List Int := [IntKind.wrap IntKind.u8 (IntKind.wrap IntKind.i64 (↑(BitVec.toNat (BitVec.ofInt (IntKind.bits IntKind.i64) (IntKind.wrap IntKind.i64 (↑(BitVec.toNat (BitVec.ofInt (IntKind.bits IntKind.i64) y.2.1 &&& BitVec.ofInt (IntKind.bits IntKind.i64) (127 : Int))) : Int)) ||| BitVec.ofInt (IntKind.bits IntKind.i64) (128 : Int))) : Int))];
            let x2 : List Int := [IntKind.wrap IntKind.u8 y.2.1];
            I_spec_PutNum_9 b n y → bif decide (y.2.1 > (127 : Int)) then List.length y.1 + List.length x1 ≤ (4294967296 : Nat) ∧ (0 : Int) ≤ (7 : Int) ∧ I_spec_PutNum_9 b n (y.1 ++ x1, Int.fdiv y.2.1 ((2 : Int) ^ min (Int.toNat (7 : Int)) (IntKind.bits IntKind.i64)), PUnit.unit) ∧ μ_spec_PutNum_9 b n (y.1 ++ x1, Int.fdiv y.2.1 ((2 : Int) ^ min (Int.toNat (7 : Int)) (IntKind.bits IntKind.i64)), PUnit.unit) < μ_spec_PutNum_9 b n y else List.length y.1 + List.length x2 ≤ (4294967296 : Nat) ∧ Lf [DV.one (Cell.sl Cd.byte (y.1 ++ x2))] [DV.one (Cell.sl Cd.byte (b ++ numB n))]) := by kernel_rfl
theorem ok_spec_PutNum : Holds EE (97, con_spec_PutNum) := by
  refine holds_of EE_ok Go.Proofs.Try.func97 con_spec_PutNum (by kernel_rfl) rfl use_spec_PutNum all_nil ann_spec_PutNum (fun x hp hb => ?_)
  obtain ⟨b, n⟩ := x
  have hb_b : BdDV (U := UU) (.one (.sl .byte b)) := hb _ (List.mem_cons_self)
  have hl_b : b.length ≤ 9223372036854775807 := Bd.len hb_b
  have hb_n : BdDV (U := UU) (.one (.lit (.int .i64 n))) := hb _ (List.mem_cons_of_mem _ (List.mem_cons_self))
  have hl_n := Bd.i64 hb_n
  have hp0 : b.length ≤ 4294967280 := hp _ (List.mem_cons_self)
  clear hp hb
  rw [vc_spec_PutNum b n]
  dsimp only
  have hz := zigI_le n
  have hc := clampI_le n
  have hn := numB_len n
  have he : ∀ e : Int, e = zigI n → I_spec_PutNum_9 b n ([] ++ b, e, PUnit.unit) := fun e h => by subst h; exact ⟨hz.1, hz.2, rfl⟩
  refine ⟨by simp; omega, if_cond (fun h => ⟨he _ ?_, fun y hI => ?_⟩) (fun h => if_cond (fun h3 => ⟨he _ ?_, fun y hI => ?_⟩) (fun h3 => if_cond (fun h4 => ⟨he _ ?_, fun y hI => ?_⟩) (fun h4 => ⟨he _ ?_, fun y hI => ?_⟩)))⟩
  · have h := of_decide_eq_true h
    rw [wrap_i64 (by omega) (by omega)]; simp only [zigI, clampI]; split <;> (try split at *) <;> (try split at *) <;> omega
  rotate_left
  · have h := of_decide_eq_false h; have h3 := of_decide_eq_true h3
    rw [wrap_i64 (n := -2 * -1000000000) (by omega) (by omega), wrap_i64 (by omega) (by omega)]; simp only [zigI, clampI]; split <;> (try split at *) <;> (try split at *) <;> omega
  rotate_left
  · have h := of_decide_eq_false h; have h3 := of_decide_eq_false h3; have h4 := of_decide_eq_true h4
    rw [wrap_i64 (n := -2 * n) (by omega) (by omega), wrap_i64 (by omega) (by omega)]; simp only [zigI, clampI]; split <;> (try split at *) <;> (try split at *) <;> omega
  rotate_left
  · have h := of_decide_eq_false h; have h3 := of_decide_eq_false h3; have h4 := of_decide_eq_false h4
    rw [wrap_i64 (by omega) (by omega)]; simp only [zigI, clampI]; split <;> (try split at *) <;> (try split at *) <;> omega
  all_goals
    obtain ⟨out, u, _⟩ := y
    obtain ⟨h0, h1, h2⟩ := (hI : 0 ≤ u ∧ u ≤ 2000000000 ∧ out ++ vi u.toNat = b ++ numB n)
    dsimp only
    have hl : out.length + (vi u.toNat).length = b.length + (numB n).length := by rw [← List.length_append, h2, List.length_append]
    refine if_cond (fun hu => ?_) (fun hu => ?_)
    · have hu := of_decide_eq_true hu
      have e1 : IntKind.wrap .u8 (IntKind.wrap .i64 (((BitVec.ofInt (IntKind.bits .i64) (IntKind.wrap .i64 (((BitVec.ofInt (IntKind.bits .i64) u &&& BitVec.ofInt (IntKind.bits .i64) 127).toNat : Nat) : Int)) ||| BitVec.ofInt (IntKind.bits .i64) 128).toNat : Nat) : Int)) = u % 128 + 128 := by
        rw [and127 h0 (by omega), or128 (by omega) (by omega), wrap_u8 (by omega) (by omega)]
      have e2 : Int.fdiv u ((2 : Int) ^ min (Int.toNat (7 : Int)) (IntKind.bits .i64)) = u / 128 := shr_i64 h0 7 (by omega)
      rw [vi_big h0 (by omega)] at h2 hl
      simp only [List.length_cons] at hl
      simp only [e1, e2]
      repeat' (first | refine And.intro (by first | omega | (simp only [List.length_cons, List.length_nil]; omega)) ?_ | fail)
      all_goals first
        | (refine ⟨⟨by omega, by omega, ?_⟩, ?_⟩
           · rw [List.append_assoc]; exact h2
           · show (u / 128).toNat < u.toNat; omega)
    · have hu := of_decide_eq_false hu
      rw [vi_small h0 (by omega)] at h2 hl
      rw [wrap_u8 h0 (by omega), h2]
      exact ⟨by simp at hl ⊢; omega, Lf_rfl _⟩
theorem Lf_sl {x y : List Int} (h : x = y) : Lf [.one (.sl .byte x)] [.one (.sl .byte y)] := by rw [h]; exact Lf_rfl _
theorem valsB_step (l : List DVal) {i : Int} (h0 : 0 ≤ i) (h : i < l.length) : valsB (l.drop i.toNat) = valB (List.getD l i.toNat zVal) ++ valsB (l.drop (i + 1).toNat) := by
  have hn : i.toNat < l.length := by omega
  have e : (i + 1).toNat = i.toNat + 1 := by omega
  have e2 : List.getD l i.toNat zVal = l[i.toNat] := by simp [List.getD, hn]
  rw [List.drop_eq_getElem_cons hn, e, e2]
  rfl
def con_impl_putText : Con UU where
  α := (List Int) × ByteArray
  md := [.mv, .ro]
  of := fun | [.one (.sl .byte a0), .one (.lit (.string a1))] => some (a0, a1) | _ => none
  ds := fun (b, s) => [.one (.sl .byte b), .one (.lit (.string s))]
  pre := fun (b, s) => [b.length + (textB s).length ≤ 4294967280]
  res := fun (b, s) => ⟨[.one (.sl .byte (b ++ textB s))], true, []⟩
  law := by intro l x h; (try simp only at h); split at h <;> cases h; rfl
def ann_impl_putText : con_impl_putText.α → Nat → Option (Ann UU) := fun (b, s) => annL []
def use_impl_putText : List (FuncId × Con UU) := [(101, con_impl_putNum)]
theorem vc_impl_putText (b : (List Int)) (s : ByteArray) : goal EE use_impl_putText Go.Proofs.Try.f100 con_impl_putText ann_impl_putText (b, s) = (let x0 : List Int := b ++ numB (↑(ByteArray.size s) : Int);
let x1 : List Int := List.map (fun (b : UInt8) => (↑(UInt8.toNat b) : Int)) s.data.toList;
List.length b ≤ (4294967280 : Nat) ∧ List.length x0 + List.length x1 ≤ (4294967296 : Nat) ∧ Lf [DV.one (Cell.sl Cd.byte (x0 ++ x1))] [DV.one (Cell.sl Cd.byte (b ++ textB s))]) := by kernel_rfl
theorem ok_impl_putText : Holds EE (100, con_impl_putText) := by
  refine holds_of EE_ok Go.Proofs.Try.func100 con_impl_putText (by kernel_rfl) rfl use_impl_putText (all_cons ok_impl_putNum all_nil) ann_impl_putText (fun x hp hb => ?_)
  obtain ⟨b, s⟩ := x
  have hb_b : BdDV (U := UU) (.one (.sl .byte b)) := hb _ (List.mem_cons_self)
  have hl_b : b.length ≤ 9223372036854775807 := Bd.len hb_b
  have hb_s : BdDV (U := UU) (.one (.lit (.string s))) := hb _ (List.mem_cons_of_mem _ (List.mem_cons_self))
  have hl_s : s.size ≤ 9223372036854775807 := Bd.str hb_s
  have hp0 : b.length + (textB s).length ≤ 4294967280 := hp _ (List.mem_cons_self)
  clear hp hb
  rw [vc_impl_putText b s]
  dsimp only
  have hl : (textB s).length = (numB s.size).length + s.size := by simp only [textB, List.length_append, txtI_len]
  have h2 : (List.map (fun (b : UInt8) => (b.toNat : Int)) s.data.toList).length = s.size := txtI_len s
  refine ⟨by omega, ?_, Lf_sl (List.append_assoc _ _ _)⟩
  rw [List.length_append, h2]; omega
def con_spec_PutText : Con UU where
  α := (List Int) × ByteArray
  md := [.ro, .ro]
  of := fun | [.one (.sl .byte a0), .one (.lit (.string a1))] => some (a0, a1) | _ => none
  ds := fun (b, s) => [.one (.sl .byte b), .one (.lit (.string s))]
  pre := fun (b, s) => [b.length + (textB s).length ≤ 4294967280]
  res := fun (b, s) => ⟨[.one (.sl .byte (b ++ textB s))], true, []⟩
  law := by intro l x h; (try simp only at h); split at h <;> cases h; rfl
def ann_spec_PutText : con_spec_PutText.α → Nat → Option (Ann UU) := fun (b, s) => annL []
def use_spec_PutText : List (FuncId × Con UU) := [(97, con_spec_PutNum)]
theorem vc_spec_PutText (b : (List Int)) (s : ByteArray) : goal EE use_spec_PutText Go.Proofs.Try.f96 con_spec_PutText ann_spec_PutText (b, s) = (let x0 : List Int := b ++ numB (↑(ByteArray.size s) : Int);
let x1 : List Int := List.map (fun (b : UInt8) => (↑(UInt8.toNat b) : Int)) s.data.toList;
List.length b ≤ (4294967280 : Nat) ∧ List.length x0 + List.length x1 ≤ (4294967296 : Nat) ∧ Lf [DV.one (Cell.sl Cd.byte (x0 ++ x1))] [DV.one (Cell.sl Cd.byte (b ++ textB s))]) := by kernel_rfl
theorem ok_spec_PutText : Holds EE (96, con_spec_PutText) := by
  refine holds_of EE_ok Go.Proofs.Try.func96 con_spec_PutText (by kernel_rfl) rfl use_spec_PutText (all_cons ok_spec_PutNum all_nil) ann_spec_PutText (fun x hp hb => ?_)
  obtain ⟨b, s⟩ := x
  have hb_b : BdDV (U := UU) (.one (.sl .byte b)) := hb _ (List.mem_cons_self)
  have hl_b : b.length ≤ 9223372036854775807 := Bd.len hb_b
  have hb_s : BdDV (U := UU) (.one (.lit (.string s))) := hb _ (List.mem_cons_of_mem _ (List.mem_cons_self))
  have hl_s : s.size ≤ 9223372036854775807 := Bd.str hb_s
  have hp0 : b.length + (textB s).length ≤ 4294967280 := hp _ (List.mem_cons_self)
  clear hp hb
  rw [vc_spec_PutText b s]
  dsimp only
  have hl : (textB s).length = (numB s.size).length + s.size := by simp only [textB, List.length_append, txtI_len]
  have h2 : (List.map (fun (b : UInt8) => (b.toNat : Int)) s.data.toList).length = s.size := txtI_len s
  refine ⟨by omega, ?_, Lf_sl (List.append_assoc _ _ _)⟩
  rw [List.length_append, h2]; omega
def con_impl_putVal : Con UU where
  α := (List Int) × DVal
  md := [.mv, .ro]
  of := fun | [.one (.sl .byte a0), .agg [.lit (.int .i64 a1), .lit (.int .i64 a2), .lit (.string a3)]] => some (a0, ⟨a1, a2, a3⟩) | _ => none
  ds := fun (b, v) => [.one (.sl .byte b), .agg [.lit (.int .i64 v.K), .lit (.int .i64 v.N), .lit (.string v.S)]]
  pre := fun (b, v) => [b.length + (valB v).length ≤ 4294967280]
  res := fun (b, v) => ⟨[.one (.sl .byte (b ++ valB v))], true, []⟩
  law := by intro l x h; (try simp only at h); split at h <;> cases h; rfl
def ann_impl_putVal : con_impl_putVal.α → Nat → Option (Ann UU) := fun (b, v) => annL []
def use_impl_putVal : List (FuncId × Con UU) := [(101, con_impl_putNum), (100, con_impl_putText)]
theorem vc_impl_putVal (b : (List Int)) (v : DVal) : goal EE use_impl_putVal Go.Proofs.Try.f104 con_impl_putVal ann_impl_putVal (b, v) = (let x0 : List Int := b ++ numB v.K;
List.length b ≤ (4294967280 : Nat) ∧ bif v.K == (1 : Int) then List.length x0 ≤ (4294967280 : Nat) ∧ Lf [DV.one (Cell.sl Cd.byte (x0 ++ numB v.N))] [DV.one (Cell.sl Cd.byte (b ++ valB v))] else List.length x0 + List.length (textB v.S) ≤ (4294967280 : Nat) ∧ Lf [DV.one (Cell.sl Cd.byte (x0 ++ textB v.S))] [DV.one (Cell.sl Cd.byte (b ++ valB v))]) := by kernel_rfl
theorem ok_impl_putVal : Holds EE (104, con_impl_putVal) := by
  refine holds_of EE_ok Go.Proofs.Try.func104 con_impl_putVal (by kernel_rfl) rfl use_impl_putVal (all_cons ok_impl_putNum (all_cons ok_impl_putText all_nil)) ann_impl_putVal (fun x hp hb => ?_)
  obtain ⟨b, v⟩ := x
  have hb_b : BdDV (U := UU) (.one (.sl .byte b)) := hb _ (List.mem_cons_self)
  have hl_b : b.length ≤ 9223372036854775807 := Bd.len hb_b
  have hb_v : BdDV (U := UU) (.agg [.lit (.int .i64 v.K), .lit (.int .i64 v.N), .lit (.string v.S)]) := hb _ (List.mem_cons_of_mem _ (List.mem_cons_self))
  have hl_v_S : v.S.size ≤ 9223372036854775807 := Bd.str (hb_v _ (by simp))
  have hp0 : b.length + (valB v).length ≤ 4294967280 := hp _ (List.mem_cons_self)
  clear hp hb
  rw [vc_impl_putVal b v]
  dsimp only
  have hl : (valB v).length = (numB v.K).length + (if v.K = 1 then numB v.N else textB v.S).length := by simp only [valB, List.length_append]
  refine ⟨by omega, if_cond (fun h => ?_) (fun h => ?_)⟩
  · have h : v.K = 1 := by simpa using h
    rw [if_pos h] at hl
    refine ⟨by rw [List.length_append]; omega, Lf_sl ?_⟩
    rw [valB, if_pos h, List.append_assoc]
  · have h : ¬ v.K = 1 := by simpa using h
    rw [if_neg h] at hl
    refine ⟨by rw [List.length_append]; omega, Lf_sl ?_⟩
    rw [valB, if_neg h, List.append_assoc]
def con_spec_PutVal : Con UU where
  α := (List Int) × DVal
  md := [.ro, .ro]
  of := fun | [.one (.sl .byte a0), .agg [.lit (.int .i64 a1), .lit (.int .i64 a2), .lit (.string a3)]] => some (a0, ⟨a1, a2, a3⟩) | _ => none
  ds := fun (b, v) => [.one (.sl .byte b), .agg [.lit (.int .i64 v.K), .lit (.int .i64 v.N), .lit (.string v.S)]]
  pre := fun (b, v) => [b.length + (valB v).length ≤ 4294967280]
  res := fun (b, v) => ⟨[.one (.sl .byte (b ++ valB v))], true, []⟩
  law := by intro l x h; (try simp only at h); split at h <;> cases h; rfl
def ann_spec_PutVal : con_spec_PutVal.α → Nat → Option (Ann UU) := fun (b, v) => annL []
def use_spec_PutVal : List (FuncId × Con UU) := [(97, con_spec_PutNum), (96, con_spec_PutText)]
theorem vc_spec_PutVal (b : (List Int)) (v : DVal) : goal EE use_spec_PutVal Go.Proofs.Try.f99 con_spec_PutVal ann_spec_PutVal (b, v) = (let x0 : List Int := b ++ numB v.K;
List.length b ≤ (4294967280 : Nat) ∧ bif v.K == (1 : Int) then List.length x0 ≤ (4294967280 : Nat) ∧ Lf [DV.one (Cell.sl Cd.byte (x0 ++ numB v.N))] [DV.one (Cell.sl Cd.byte (b ++ valB v))] else List.length x0 + List.length (textB v.S) ≤ (4294967280 : Nat) ∧ Lf [DV.one (Cell.sl Cd.byte (x0 ++ textB v.S))] [DV.one (Cell.sl Cd.byte (b ++ valB v))]) := by kernel_rfl
theorem ok_spec_PutVal : Holds EE (99, con_spec_PutVal) := by
  refine holds_of EE_ok Go.Proofs.Try.func99 con_spec_PutVal (by kernel_rfl) rfl use_spec_PutVal (all_cons ok_spec_PutNum (all_cons ok_spec_PutText all_nil)) ann_spec_PutVal (fun x hp hb => ?_)
  obtain ⟨b, v⟩ := x
  have hb_b : BdDV (U := UU) (.one (.sl .byte b)) := hb _ (List.mem_cons_self)
  have hl_b : b.length ≤ 9223372036854775807 := Bd.len hb_b
  have hb_v : BdDV (U := UU) (.agg [.lit (.int .i64 v.K), .lit (.int .i64 v.N), .lit (.string v.S)]) := hb _ (List.mem_cons_of_mem _ (List.mem_cons_self))
  have hl_v_S : v.S.size ≤ 9223372036854775807 := Bd.str (hb_v _ (by simp))
  have hp0 : b.length + (valB v).length ≤ 4294967280 := hp _ (List.mem_cons_self)
  clear hp hb
  rw [vc_spec_PutVal b v]
  dsimp only
  have hl : (valB v).length = (numB v.K).length + (if v.K = 1 then numB v.N else textB v.S).length := by simp only [valB, List.length_append]
  refine ⟨by omega, if_cond (fun h => ?_) (fun h => ?_)⟩
  · have h : v.K = 1 := by simpa using h
    rw [if_pos h] at hl
    refine ⟨by rw [List.length_append]; omega, Lf_sl ?_⟩
    rw [valB, if_pos h, List.append_assoc]
  · have h : ¬ v.K = 1 := by simpa using h
    rw [if_neg h] at hl
    refine ⟨by rw [List.length_append]; omega, Lf_sl ?_⟩
    rw [valB, if_neg h, List.append_assoc]
def con_impl_putFlag : Con UU where
  α := (List Int) × Bool
  md := [.mv, .ro]
  of := fun | [.one (.sl .byte a0), .one (.lit (.bool a1))] => some (a0, a1) | _ => none
  ds := fun (b, flag) => [.one (.sl .byte b), .one (.lit (.bool flag))]
  pre := fun (b, flag) => [b.length + (flagB flag).length ≤ 4294967280]
  res := fun (b, flag) => ⟨[.one (.sl .byte (b ++ flagB flag))], true, []⟩
  law := by intro l x h; (try simp only at h); split at h <;> cases h; rfl
def ann_impl_putFlag : con_impl_putFlag.α → Nat → Option (Ann UU) := fun (b, flag) => annL []
def use_impl_putFlag : List (FuncId × Con UU) := [(101, con_impl_putNum)]
theorem vc_impl_putFlag (b : (List Int)) (flag : Bool) : goal EE use_impl_putFlag Go.Proofs.Try.f102 con_impl_putFlag ann_impl_putFlag (b, flag) = (bif flag then List.length b ≤ (4294967280 : Nat) ∧ Lf [DV.one (Cell.sl Cd.byte (b ++ numB (1 : Int)))] [DV.one (Cell.sl Cd.byte (b ++ flagB flag))] else List.length b ≤ (4294967280 : Nat) ∧ Lf [DV.one (Cell.sl Cd.byte (b ++ numB (0 : Int)))] [DV.one (Cell.sl Cd.byte (b ++ flagB flag))]) := by kernel_rfl
theorem ok_impl_putFlag : Holds EE (102, con_impl_putFlag) := by
  refine holds_of EE_ok Go.Proofs.Try.func102 con_impl_putFlag (by kernel_rfl) rfl use_impl_putFlag (all_cons ok_impl_putNum all_nil) ann_impl_putFlag (fun x hp hb => ?_)
  obtain ⟨b, flag⟩ := x
  have hb_b : BdDV (U := UU) (.one (.sl .byte b)) := hb _ (List.mem_cons_self)
  have hl_b : b.length ≤ 9223372036854775807 := Bd.len hb_b
  have hb_flag : BdDV (U := UU) (.one (.lit (.bool flag))) := hb _ (List.mem_cons_of_mem _ (List.mem_cons_self))
  have hp0 : b.length + (flagB flag).length ≤ 4294967280 := hp _ (List.mem_cons_self)
  clear hp hb
  rw [vc_impl_putFlag b flag]
  refine if_cond (fun h => ⟨by omega, Lf_sl ?_⟩) (fun h => ⟨by omega, Lf_sl ?_⟩) <;> rw [flagB, h] <;> rfl
def con_spec_l3PutVals : Con UU where
  α := (List Int) × (List DVal)
  md := [.ro, .ro]
  of := fun | [.one (.sl .byte a0), .one (.sl .eVal a1)] => some (a0, a1) | _ => none
  ds := fun (b, l) => [.one (.sl .byte b), .one (.sl .eVal l)]
  pre := fun (b, l) => [b.length + (numB l.length ++ valsB l).length ≤ 4294967280]
  res := fun (b, l) => ⟨[.one (.sl .byte (b ++ (numB l.length ++ valsB l)))], true, []⟩
  law := by intro l x h; (try simp only at h); split at h <;> cases h; rfl
def I_spec_l3PutVals_3 (b : (List Int)) (l : (List DVal)) : List Int × Int × Unit → Prop := fun (out, i, _) => 0 ≤ i ∧ i ≤ l.length ∧ out ++ valsB (l.drop i.toNat) = b ++ (numB l.length ++ valsB l)
def μ_spec_l3PutVals_3 (b : (List Int)) (l : (List DVal)) : List Int × Int × Unit → Nat := fun (out, i, _) => l.length - i.toNat
def ann_spec_l3PutVals : con_spec_l3PutVals.α → Nat → Option (Ann UU) := fun (b, l) => annL [(3, annOf [.slot 0 (0, 1024) (.own .byte true), .slot 5 (5, 1024) (.lit (.int .i64))] (fun _ => I_spec_l3PutVals_3 b l) (μ_spec_l3PutVals_3 b l))]
def use_spec_l3PutVals : List (FuncId × Con UU) := [(97, con_spec_PutNum), (99, con_spec_PutVal)]
theorem vc_spec_l3PutVals (b : (List Int)) (l : (List DVal)) : goal EE use_spec_l3PutVals Go.Proofs.Try.f157 con_spec_l3PutVals ann_spec_l3PutVals (b, l) = (List.length b ≤ (4294967280 : Nat) ∧
  I_spec_l3PutVals_3 b l (b ++ numB (↑(List.length l) : Int), (0 : Int), PUnit.unit) ∧
    ∀ (y : List Int × Int × PUnit),
      let x0 : List Int := valB (List.getD l (Int.toNat y.2.1) zVal);
      I_spec_l3PutVals_3 b l y → bif decide (y.2.1 < (↑(List.length l) : Int)) then (0 : Int) ≤ y.2.1 ∧ Int.toNat y.2.1 < List.length l ∧ List.length y.1 + List.length x0 ≤ (4294967280 : Nat) ∧ I_spec_l3PutVals_3 b l (y.1 ++ x0, IntKind.wrap IntKind.i64 (y.2.1 + (1 : Int)), PUnit.unit) ∧ μ_spec_l3PutVals_3 b l (y.1 ++ x0, IntKind.wrap IntKind.i64 (y.2.1 + (1 : Int)), PUnit.unit) < μ_spec_l3PutVals_3 b l y else Lf [DV.one (Cell.sl Cd.byte y.1)] [DV.one (Cell.sl Cd.byte (b ++ (numB (↑(List.length l) : Int) ++ valsB l)))]) := by kernel_rfl
theorem ok_spec_l3PutVals : Holds EE (157, con_spec_l3PutVals) := by
  refine holds_of EE_ok Go.Proofs.Try.func157 con_spec_l3PutVals (by kernel_rfl) rfl use_spec_l3PutVals (all_cons ok_spec_PutNum (all_cons ok_spec_PutVal all_nil)) ann_spec_l3PutVals (fun x hp hb => ?_)
  obtain ⟨b, l⟩ := x
  have hb_b : BdDV (U := UU) (.one (.sl .byte b)) := hb _ (List.mem_cons_self)
  have hl_b : b.length ≤ 9223372036854775807 := Bd.len hb_b
  have hb_l : BdDV (U := UU) (.one (.sl .eVal l)) := hb _ (List.mem_cons_of_mem _ (List.mem_cons_self))
  have hl_l : l.length ≤ 9223372036854775807 := Bd.len hb_l
  have hp0 : b.length + (numB l.length ++ valsB l).length ≤ 4294967280 := hp _ (List.mem_cons_self)
  clear hp hb
  rw [vc_spec_l3PutVals b l]
  dsimp only
  have hn := numB_len l.length
  refine ⟨by omega, ⟨by omega, by omega, by rw [List.append_assoc]; rfl⟩, ?_⟩
  rintro ⟨out, i, ⟨⟩⟩ ⟨h1, h2, hR⟩
  simp only
  have hlen := congrArg List.length hR
  rw [List.length_append, List.length_append] at hlen
  refine if_cond (fun hc => ?_) (fun hc => ?_)
  · have hc : i < l.length := of_decide_eq_true hc
    rw [valsB_step l h1 hc] at hR hlen
    rw [List.length_append] at hlen
    rw [wrap_i64 (by omega) (by omega)]
    refine ⟨h1, by omega, by omega, ⟨by omega, by omega, ?_⟩, ?_⟩
    · rw [List.append_assoc]; exact hR
    · simp only [μ_spec_l3PutVals_3]; omega
  · have hc : ¬ i < l.length := of_decide_eq_false hc
    refine Lf_sl ?_
    rw [← hR, List.drop_eq_nil_of_le (by omega)]
    exact (List.append_nil _).symm
def con_spec_PutFact : Con UU where
  α := (List Int) × DFact
  md := [.ro, .ro]
  of := fun | [.one (.sl .byte a0), .agg [.lit (.string a1), .sl .eVal a2]] => some (a0, ⟨a1, a2⟩) | _ => none
  ds := fun (b, f) => [.one (.sl .byte b), .agg [.lit (.string f.Kind), .sl .eVal f.Fields]]
  pre := fun (b, f) => [b.length + (factB f).length ≤ 4294967280]
  res := fun (b, f) => ⟨[.one (.sl .byte (b ++ factB f))], true, []⟩
  law := by intro l x h; (try simp only at h); split at h <;> cases h; rfl
def ann_spec_PutFact : con_spec_PutFact.α → Nat → Option (Ann UU) := fun (b, f) => annL []
def use_spec_PutFact : List (FuncId × Con UU) := [(96, con_spec_PutText), (157, con_spec_l3PutVals)]
theorem vc_spec_PutFact (b : (List Int)) (f : DFact) : goal EE use_spec_PutFact Go.Proofs.Try.f98 con_spec_PutFact ann_spec_PutFact (b, f) = (let x0 : List Int := numB (↑(List.length f.Fields) : Int) ++ valsB f.Fields;
List.length b + List.length (textB f.Kind) ≤ (4294967280 : Nat) ∧ List.length (b ++ textB f.Kind) + List.length x0 ≤ (4294967280 : Nat) ∧ Lf [DV.one (Cell.sl Cd.byte (b ++ textB f.Kind ++ x0))] [DV.one (Cell.sl Cd.byte (b ++ factB f))]) := by kernel_rfl
theorem ok_spec_PutFact : Holds EE (98, con_spec_PutFact) := by
  refine holds_of EE_ok Go.Proofs.Try.func98 con_spec_PutFact (by kernel_rfl) rfl use_spec_PutFact (all_cons ok_spec_PutText (all_cons ok_spec_l3PutVals all_nil)) ann_spec_PutFact (fun x hp hb => ?_)
  obtain ⟨b, f⟩ := x
  have hb_b : BdDV (U := UU) (.one (.sl .byte b)) := hb _ (List.mem_cons_self)
  have hl_b : b.length ≤ 9223372036854775807 := Bd.len hb_b
  have hb_f : BdDV (U := UU) (.agg [.lit (.string f.Kind), .sl .eVal f.Fields]) := hb _ (List.mem_cons_of_mem _ (List.mem_cons_self))
  have hl_f_Kind : f.Kind.size ≤ 9223372036854775807 := Bd.str (hb_f _ (by simp))
  have hl_f_Fields : f.Fields.length ≤ 9223372036854775807 := Bd.len (U := UU) (τ := .eVal) (xs := f.Fields) (hb_f _ (by simp))
  have hp0 : b.length + (factB f).length ≤ 4294967280 := hp _ (List.mem_cons_self)
  clear hp hb
  rw [vc_spec_PutFact b f]
  dsimp only
  have hl : (factB f).length = (textB f.Kind).length + (numB f.Fields.length).length + (valsB f.Fields).length := by simp only [factB, List.length_append]
  refine ⟨by omega, by simp only [List.length_append]; omega, Lf_sl ?_⟩
  simp only [factB, List.append_assoc]
def con_impl_putFact : Con UU where
  α := (List Int) × DFact
  md := [.mv, .ro]
  of := fun | [.one (.sl .byte a0), .agg [.lit (.string a1), .sl .eVal a2]] => some (a0, ⟨a1, a2⟩) | _ => none
  ds := fun (b, f) => [.one (.sl .byte b), .agg [.lit (.string f.Kind), .sl .eVal f.Fields]]
  pre := fun (b, f) => [b.length + (factB f).length ≤ 4294967280]
  res := fun (b, f) => ⟨[.one (.sl .byte (b ++ factB f))], true, []⟩
  law := by intro l x h; (try simp only at h); split at h <;> cases h; rfl
def I_impl_putFact_3 (b : (List Int)) (f : DFact) : List Int × Int × Unit → Prop := fun (out, i, _) => 0 ≤ i ∧ i ≤ f.Fields.length ∧ out ++ valsB (f.Fields.drop i.toNat) = b ++ factB f
def μ_impl_putFact_3 (b : (List Int)) (f : DFact) : List Int × Int × Unit → Nat := fun (out, i, _) => f.Fields.length - i.toNat
def ann_impl_putFact : con_impl_putFact.α → Nat → Option (Ann UU) := fun (b, f) => annL [(3, annOf [.slot 0 (0, 1024) (.own .byte true), .slot 18 (18, 1024) (.lit (.int .i64))] (fun _ => I_impl_putFact_3 b f) (μ_impl_putFact_3 b f))]
def use_impl_putFact : List (FuncId × Con UU) := [(100, con_impl_putText), (101, con_impl_putNum), (104, con_impl_putVal)]
theorem vc_impl_putFact (b : (List Int)) (f : DFact) : goal EE use_impl_putFact Go.Proofs.Try.f103 con_impl_putFact ann_impl_putFact (b, f) = (let x0 : Int := (↑(List.length f.Fields) : Int);
List.length b + List.length (textB f.Kind) ≤ (4294967280 : Nat) ∧
  List.length (b ++ textB f.Kind) ≤ (4294967280 : Nat) ∧
    I_impl_putFact_3 b f (b ++ textB f.Kind ++ numB x0, (0 : Int), PUnit.unit) ∧
      ∀ (y : List Int × Int × PUnit),
        let x1 : List Int := valB (List.getD f.Fields (Int.toNat y.2.1) zVal);
        I_impl_putFact_3 b f y → bif decide (y.2.1 < x0) then (0 : Int) ≤ y.2.1 ∧ Int.toNat y.2.1 < List.length f.Fields ∧ List.length y.1 + List.length x1 ≤ (4294967280 : Nat) ∧ I_impl_putFact_3 b f (y.1 ++ x1, IntKind.wrap IntKind.i64 (y.2.1 + (1 : Int)), PUnit.unit) ∧ μ_impl_putFact_3 b f (y.1 ++ x1, IntKind.wrap IntKind.i64 (y.2.1 + (1 : Int)), PUnit.unit) < μ_impl_putFact_3 b f y else Lf [DV.one (Cell.sl Cd.byte y.1)] [DV.one (Cell.sl Cd.byte (b ++ factB f))]) := by kernel_rfl
theorem ok_impl_putFact : Holds EE (103, con_impl_putFact) := by
  refine holds_of EE_ok Go.Proofs.Try.func103 con_impl_putFact (by kernel_rfl) rfl use_impl_putFact (all_cons ok_impl_putText (all_cons ok_impl_putNum (all_cons ok_impl_putVal all_nil))) ann_impl_putFact (fun x hp hb => ?_)
  obtain ⟨b, f⟩ := x
  have hb_b : BdDV (U := UU) (.one (.sl .byte b)) := hb _ (List.mem_cons_self)
  have hl_b : b.length ≤ 9223372036854775807 := Bd.len hb_b
  have hb_f : BdDV (U := UU) (.agg [.lit (.string f.Kind), .sl .eVal f.Fields]) := hb _ (List.mem_cons_of_mem _ (List.mem_cons_self))
  have hl_f_Kind : f.Kind.size ≤ 9223372036854775807 := Bd.str (hb_f _ (by simp))
  have hl_f_Fields : f.Fields.length ≤ 9223372036854775807 := Bd.len (U := UU) (τ := .eVal) (xs := f.Fields) (hb_f _ (by simp))
  have hp0 : b.length + (factB f).length ≤ 4294967280 := hp _ (List.mem_cons_self)
  clear hp hb
  rw [vc_impl_putFact b f]
  dsimp only
  have hl : (factB f).length = (textB f.Kind).length + (numB f.Fields.length).length + (valsB f.Fields).length := by simp only [factB, List.length_append]
  have hn := numB_len f.Fields.length
  refine ⟨by omega, by simp only [List.length_append]; omega, ⟨by omega, by omega, by simp only [factB, List.append_assoc]; rfl⟩, ?_⟩
  rintro ⟨out, i, ⟨⟩⟩ ⟨h1, h2, hR⟩
  simp only
  have hlen := congrArg List.length hR
  rw [List.length_append, List.length_append] at hlen
  refine if_cond (fun hc => ?_) (fun hc => ?_)
  · have hc : i < f.Fields.length := of_decide_eq_true hc
    rw [valsB_step f.Fields h1 hc] at hR hlen
    rw [List.length_append] at hlen
    rw [wrap_i64 (by omega) (by omega)]
    refine ⟨h1, by omega, by omega, ⟨by omega, by omega, ?_⟩, ?_⟩
    · rw [List.append_assoc]; exact hR
    · simp only [μ_impl_putFact_3]; omega
  · have hc : ¬ i < f.Fields.length := of_decide_eq_false hc
    refine Lf_sl ?_
    rw [← hR, List.drop_eq_nil_of_le (by omega)]
    exact (List.append_nil _).symm
theorem opB_ok {o : DOp} (h : opOk o = true) : opB o = numB o.Kind ++ textB o.Name ++ textB o.Text ++ (if o.Kind = 3 then numB 1 ++ factB o.F else numB 0) ++ textB o.Key ++ flagB o.Ok ++ (if o.Kind = 4 then numB 1 ++ valB o.V else numB 0) ++ numB o.N := by rw [opB, if_pos h]
theorem kind34 (o : DOp) : ((o.Kind = 3) = True ∧ (o.Kind = 4) = False) ∨ ((o.Kind = 3) = False ∧ (o.Kind = 4) = True) ∨ ((o.Kind = 3) = False ∧ (o.Kind = 4) = False) := by
  by_cases h3 : o.Kind = 3
  · exact Or.inl ⟨eq_true h3, eq_false (by omega)⟩
  · by_cases h4 : o.Kind = 4
    · exact Or.inr (Or.inl ⟨eq_false h3, eq_true h4⟩)
    · exact Or.inr (Or.inr ⟨eq_false h3, eq_false h4⟩)
def con_spec_PutOp : Con UU where
  α := DOp
  md := [.ro]
  of := fun | [.agg [.lit (.int .i64 a0), .lit (.string a1), .lit (.string a2), .lit (.string a3), .sl .eVal a4, .lit (.string a5), .lit (.bool a6), .lit (.int .i64 a7), .lit (.int .i64 a8), .lit (.string a9), .lit (.int .i64 a10)]] => some ⟨a0, a1, a2, ⟨a3, a4⟩, a5, a6, ⟨a7, a8, a9⟩, a10⟩ | _ => none
  ds := fun o => [.agg [.lit (.int .i64 o.Kind), .lit (.string o.Name), .lit (.string o.Text), .lit (.string o.F.Kind), .sl .eVal o.F.Fields, .lit (.string o.Key), .lit (.bool o.Ok), .lit (.int .i64 o.V.K), .lit (.int .i64 o.V.N), .lit (.string o.V.S), .lit (.int .i64 o.N)]]
  pre := fun o => [(opB o).length ≤ 4294967200]
  res := fun o => ⟨[.one (.sl .byte (opB o))], true, []⟩
  law := by intro l x h; (try simp only at h); split at h <;> cases h; rfl
def ann_spec_PutOp : con_spec_PutOp.α → Nat → Option (Ann UU) := fun o => annL []
def use_spec_PutOp : List (FuncId × Con UU) := [(19, con_spec_OpOk), (96, con_spec_PutText), (97, con_spec_PutNum), (98, con_spec_PutFact), (99, con_spec_PutVal)]
theorem vc_spec_PutOp (o : DOp) : goal EE use_spec_PutOp Go.Proofs.Try.f32 con_spec_PutOp ann_spec_PutOp o = (let x0 : List Int := [] ++ numB o.Kind ++ textB o.Name ++ textB o.Text ++ numB (1 : Int) ++ factB o.F ++ textB o.Key ++ numB (1 : Int);
let x1 : List Int := [] ++ numB o.Kind ++ textB o.Name ++ textB o.Text ++ numB (1 : Int) ++ factB o.F ++ textB o.Key ++ numB (0 : Int);
let x2 : List Int := [] ++ numB o.Kind ++ textB o.Name ++ textB o.Text ++ numB (0 : Int) ++ textB o.Key ++ numB (0 : Int);
let x3 : List Int := [] ++ numB o.Kind ++ textB o.Name ++ textB o.Text ++ numB (0 : Int) ++ textB o.Key ++ numB (1 : Int);
let x4 : List Int := [] ++ numB o.Kind ++ textB o.Name ++ textB o.Text;
let x5 : List Int := x2 ++ numB (1 : Int) ++ valB o.V;
let x6 : List Int := x4 ++ numB (1 : Int) ++ factB o.F;
let x7 : List Int := x0 ++ numB (1 : Int) ++ valB o.V;
let x8 : List Int := x3 ++ numB (1 : Int) ++ valB o.V;
let x9 : List Int := x1 ++ numB (1 : Int) ++ valB o.V;
let x10 : Bool := o.Kind == (4 : Int);
let x11 : Nat := List.length (valB o.V);
let x12 : List Int := [] ++ numB o.Kind;
let x13 : List Int := x0 ++ numB (0 : Int);
let x14 : List Int := x1 ++ numB (0 : Int);
let x15 : List Int := x2 ++ numB (0 : Int);
let x16 : List Int := x3 ++ numB (0 : Int);
let x17 : List Int := x4 ++ numB (0 : Int);
bif !opOk o then Lf [DV.one (Cell.sl Cd.byte [])] [DV.one (Cell.sl Cd.byte (opB o))] else (0 : Nat) ≤ (4294967280 : Nat) ∧ List.length x12 + List.length (textB o.Name) ≤ (4294967280 : Nat) ∧ List.length (x12 ++ textB o.Name) + List.length (textB o.Text) ≤ (4294967280 : Nat) ∧ bif o.Kind == (3 : Int) then List.length x4 ≤ (4294967280 : Nat) ∧ List.length (x4 ++ numB (1 : Int)) + List.length (factB o.F) ≤ (4294967280 : Nat) ∧ List.length x6 + List.length (textB o.Key) ≤ (4294967280 : Nat) ∧ bif o.Ok then List.length (x6 ++ textB o.Key) ≤ (4294967280 : Nat) ∧ bif x10 then List.length x0 ≤ (4294967280 : Nat) ∧ List.length (x0 ++ numB (1 : Int)) + x11 ≤ (4294967280 : Nat) ∧ List.length x7 ≤ (4294967280 : Nat) ∧ Lf [DV.one (Cell.sl Cd.byte (x7 ++ numB o.N))] [DV.one (Cell.sl Cd.byte (opB o))] else List.length x0 ≤ (4294967280 : Nat) ∧ List.length x13 ≤ (4294967280 : Nat) ∧ Lf [DV.one (Cell.sl Cd.byte (x13 ++ numB o.N))] [DV.one (Cell.sl Cd.byte (opB o))] else List.length (x6 ++ textB o.Key) ≤ (4294967280 : Nat) ∧ bif x10 then List.length x1 ≤ (4294967280 : Nat) ∧ List.length (x1 ++ numB (1 : Int)) + x11 ≤ (4294967280 : Nat) ∧ List.length x9 ≤ (4294967280 : Nat) ∧ Lf [DV.one (Cell.sl Cd.byte (x9 ++ numB o.N))] [DV.one (Cell.sl Cd.byte (opB o))] else List.length x1 ≤ (4294967280 : Nat) ∧ List.length x14 ≤ (4294967280 : Nat) ∧ Lf [DV.one (Cell.sl Cd.byte (x14 ++ numB o.N))] [DV.one (Cell.sl Cd.byte (opB o))] else List.length x4 ≤ (4294967280 : Nat) ∧ List.length x17 + List.length (textB o.Key) ≤ (4294967280 : Nat) ∧ bif o.Ok then List.length (x17 ++ textB o.Key) ≤ (4294967280 : Nat) ∧ bif x10 then List.length x3 ≤ (4294967280 : Nat) ∧ List.length (x3 ++ numB (1 : Int)) + x11 ≤ (4294967280 : Nat) ∧ List.length x8 ≤ (4294967280 : Nat) ∧ Lf [DV.one (Cell.sl Cd.byte (x8 ++ numB o.N))] [DV.one (Cell.sl Cd.byte (opB o))] else List.length x3 ≤ (4294967280 : Nat) ∧ List.length x16 ≤ (4294967280 : Nat) ∧ Lf [DV.one (Cell.sl Cd.byte (x16 ++ numB o.N))] [DV.one (Cell.sl Cd.byte (opB o))] else List.length (x17 ++ textB o.Key) ≤ (4294967280 : Nat) ∧ bif x10 then List.length x2 ≤ (4294967280 : Nat) ∧ List.length (x2 ++ numB (1 : Int)) + x11 ≤ (4294967280 : Nat) ∧ List.length x5 ≤ (4294967280 : Nat) ∧ Lf [DV.one (Cell.sl Cd.byte (x5 ++ numB o.N))] [DV.one (Cell.sl Cd.byte (opB o))] else List.length x2 ≤ (4294967280 : Nat) ∧ List.length x15 ≤ (4294967280 : Nat) ∧ Lf [DV.one (Cell.sl Cd.byte (x15 ++ numB o.N))] [DV.one (Cell.sl Cd.byte (opB o))]) := by kernel_rfl
theorem ok_spec_PutOp : Holds EE (32, con_spec_PutOp) := by
  refine holds_of EE_ok Go.Proofs.Try.func32 con_spec_PutOp (by kernel_rfl) rfl use_spec_PutOp (all_cons ok_spec_OpOk (all_cons ok_spec_PutText (all_cons ok_spec_PutNum (all_cons ok_spec_PutFact (all_cons ok_spec_PutVal all_nil))))) ann_spec_PutOp (fun (o : DOp) hp hb => ?_)
  have hb_o : BdDV (U := UU) (.agg [.lit (.int .i64 o.Kind), .lit (.string o.Name), .lit (.string o.Text), .lit (.string o.F.Kind), .sl .eVal o.F.Fields, .lit (.string o.Key), .lit (.bool o.Ok), .lit (.int .i64 o.V.K), .lit (.int .i64 o.V.N), .lit (.string o.V.S), .lit (.int .i64 o.N)]) := hb _ (List.mem_cons_self)
  have hl_o_Name : o.Name.size ≤ 9223372036854775807 := Bd.str (hb_o _ (by simp))
  have hl_o_Text : o.Text.size ≤ 9223372036854775807 := Bd.str (hb_o _ (by simp))
  have hl_o_F_Kind : o.F.Kind.size ≤ 9223372036854775807 := Bd.str (hb_o _ (by simp))
  have hl_o_F_Fields : o.F.Fields.length ≤ 9223372036854775807 := Bd.len (U := UU) (τ := .eVal) (xs := o.F.Fields) (hb_o _ (by simp))
  have hl_o_Key : o.Key.size ≤ 9223372036854775807 := Bd.str (hb_o _ (by simp))
  have hl_o_V_S : o.V.S.size ≤ 9223372036854775807 := Bd.str (hb_o _ (by simp))
  have hp0 : (opB o).length ≤ 4294967200 := hp _ (List.mem_cons_self)
  clear hp hb
  rw [vc_spec_PutOp o]
  dsimp only
  refine if_cond (fun h => Lf_sl (show opB o = [] from if_neg (by simpa using h)).symm) (fun h => ?_)
  have h : opOk o = true := by simpa using h
  have eo := opB_ok h
  rw [eo] at hp0 ⊢
  have e31 : (o.Kind == 3) = decide (o.Kind = 3) := rfl
  have e41 : (o.Kind == 4) = decide (o.Kind = 4) := rfl
  rcases kind34 o with ⟨h3, h4⟩ | ⟨h3, h4⟩ | ⟨h3, h4⟩ <;> cases ho : o.Ok
  all_goals
    simp only [e31, e41, h3, h4, ho, flagB, decide_true, decide_false, cond_true, cond_false, if_true, if_false, List.nil_append, List.length_append, List.length_nil, Bool.false_eq_true] at hp0 ⊢
    repeat' (first | refine And.intro (by omega) ?_ | fail)
    exact Lf_sl (by simp only [List.append_assoc])
def con_impl_PutOp : Con UU where
  α := DOp
  md := [.ro]
  of := fun | [.agg [.lit (.int .i64 a0), .lit (.string a1), .lit (.string a2), .lit (.string a3), .sl .eVal a4, .lit (.string a5), .lit (.bool a6), .lit (.int .i64 a7), .lit (.int .i64 a8), .lit (.string a9), .lit (.int .i64 a10)]] => some ⟨a0, a1, a2, ⟨a3, a4⟩, a5, a6, ⟨a7, a8, a9⟩, a10⟩ | _ => none
  ds := fun o => [.agg [.lit (.int .i64 o.Kind), .lit (.string o.Name), .lit (.string o.Text), .lit (.string o.F.Kind), .sl .eVal o.F.Fields, .lit (.string o.Key), .lit (.bool o.Ok), .lit (.int .i64 o.V.K), .lit (.int .i64 o.V.N), .lit (.string o.V.S), .lit (.int .i64 o.N)]]
  pre := fun o => [(opB o).length ≤ 4294967200]
  res := fun o => ⟨[.one (.sl .byte (opB o))], true, []⟩
  law := by intro l x h; (try simp only at h); split at h <;> cases h; rfl
def ann_impl_PutOp : con_impl_PutOp.α → Nat → Option (Ann UU) := fun o => annL []
def use_impl_PutOp : List (FuncId × Con UU) := [(21, con_impl_OpOk), (100, con_impl_putText), (101, con_impl_putNum), (103, con_impl_putFact), (104, con_impl_putVal), (102, con_impl_putFlag)]
theorem vc_impl_PutOp (o : DOp) : goal EE use_impl_PutOp Go.Proofs.Try.f33 con_impl_PutOp ann_impl_PutOp o = (let x0 : List Int := [] ++ numB o.Kind ++ textB o.Name ++ textB o.Text ++ flagB (o.Kind == (3 : Int)) ++ factB o.F ++ textB o.Key ++ flagB o.Ok ++ flagB (o.Kind == (4 : Int));
let x1 : List Int := [] ++ numB o.Kind ++ textB o.Name ++ textB o.Text ++ flagB (o.Kind == (3 : Int)) ++ textB o.Key ++ flagB o.Ok ++ flagB (o.Kind == (4 : Int));
let x2 : List Int := [] ++ numB o.Kind ++ textB o.Name ++ textB o.Text ++ flagB (o.Kind == (3 : Int));
let x3 : List Int := [] ++ numB o.Kind ++ textB o.Name;
let x4 : List Int := x2 ++ factB o.F ++ textB o.Key;
let x5 : Bool := o.Kind == (4 : Int);
bif !opOk o then Lf [DV.one (Cell.sl Cd.byte [])] [DV.one (Cell.sl Cd.byte (opB o))] else (0 : Nat) ≤ (4294967280 : Nat) ∧ List.length ([] ++ numB o.Kind) + List.length (textB o.Name) ≤ (4294967280 : Nat) ∧ List.length x3 + List.length (textB o.Text) ≤ (4294967280 : Nat) ∧ List.length (x3 ++ textB o.Text) + List.length (flagB (o.Kind == (3 : Int))) ≤ (4294967280 : Nat) ∧ bif o.Kind == (3 : Int) then List.length x2 + List.length (factB o.F) ≤ (4294967280 : Nat) ∧ List.length (x2 ++ factB o.F) + List.length (textB o.Key) ≤ (4294967280 : Nat) ∧ List.length x4 + List.length (flagB o.Ok) ≤ (4294967280 : Nat) ∧ List.length (x4 ++ flagB o.Ok) + List.length (flagB x5) ≤ (4294967280 : Nat) ∧ bif x5 then List.length x0 + List.length (valB o.V) ≤ (4294967280 : Nat) ∧ List.length (x0 ++ valB o.V) ≤ (4294967280 : Nat) ∧ Lf [DV.one (Cell.sl Cd.byte (x0 ++ valB o.V ++ numB o.N))] [DV.one (Cell.sl Cd.byte (opB o))] else List.length x0 ≤ (4294967280 : Nat) ∧ Lf [DV.one (Cell.sl Cd.byte (x0 ++ numB o.N))] [DV.one (Cell.sl Cd.byte (opB o))] else List.length x2 + List.length (textB o.Key) ≤ (4294967280 : Nat) ∧ List.length (x2 ++ textB o.Key) + List.length (flagB o.Ok) ≤ (4294967280 : Nat) ∧ List.length (x2 ++ textB o.Key ++ flagB o.Ok) + List.length (flagB x5) ≤ (4294967280 : Nat) ∧ bif x5 then List.length x1 + List.length (valB o.V) ≤ (4294967280 : Nat) ∧ List.length (x1 ++ valB o.V) ≤ (4294967280 : Nat) ∧ Lf [DV.one (Cell.sl Cd.byte (x1 ++ valB o.V ++ numB o.N))] [DV.one (Cell.sl Cd.byte (opB o))] else List.length x1 ≤ (4294967280 : Nat) ∧ Lf [DV.one (Cell.sl Cd.byte (x1 ++ numB o.N))] [DV.one (Cell.sl Cd.byte (opB o))]) := by kernel_rfl
theorem ok_impl_PutOp : Holds EE (33, con_impl_PutOp) := by
  refine holds_of EE_ok Go.Proofs.Try.func33 con_impl_PutOp (by kernel_rfl) rfl use_impl_PutOp (all_cons ok_impl_OpOk (all_cons ok_impl_putText (all_cons ok_impl_putNum (all_cons ok_impl_putFact (all_cons ok_impl_putVal (all_cons ok_impl_putFlag all_nil)))))) ann_impl_PutOp (fun (o : DOp) hp hb => ?_)
  have hb_o : BdDV (U := UU) (.agg [.lit (.int .i64 o.Kind), .lit (.string o.Name), .lit (.string o.Text), .lit (.string o.F.Kind), .sl .eVal o.F.Fields, .lit (.string o.Key), .lit (.bool o.Ok), .lit (.int .i64 o.V.K), .lit (.int .i64 o.V.N), .lit (.string o.V.S), .lit (.int .i64 o.N)]) := hb _ (List.mem_cons_self)
  have hl_o_Name : o.Name.size ≤ 9223372036854775807 := Bd.str (hb_o _ (by simp))
  have hl_o_Text : o.Text.size ≤ 9223372036854775807 := Bd.str (hb_o _ (by simp))
  have hl_o_F_Kind : o.F.Kind.size ≤ 9223372036854775807 := Bd.str (hb_o _ (by simp))
  have hl_o_F_Fields : o.F.Fields.length ≤ 9223372036854775807 := Bd.len (U := UU) (τ := .eVal) (xs := o.F.Fields) (hb_o _ (by simp))
  have hl_o_Key : o.Key.size ≤ 9223372036854775807 := Bd.str (hb_o _ (by simp))
  have hl_o_V_S : o.V.S.size ≤ 9223372036854775807 := Bd.str (hb_o _ (by simp))
  have hp0 : (opB o).length ≤ 4294967200 := hp _ (List.mem_cons_self)
  clear hp hb
  rw [vc_impl_PutOp o]
  dsimp only
  refine if_cond (fun h => Lf_sl (show opB o = [] from if_neg (by simpa using h)).symm) (fun h => ?_)
  have h : opOk o = true := by simpa using h
  have eo := opB_ok h
  rw [eo] at hp0 ⊢
  have e31 : (o.Kind == 3) = decide (o.Kind = 3) := rfl
  have e41 : (o.Kind == 4) = decide (o.Kind = 4) := rfl
  rcases kind34 o with ⟨h3, h4⟩ | ⟨h3, h4⟩ | ⟨h3, h4⟩ <;> cases ho : o.Ok
  all_goals
    simp only [e31, e41, h3, h4, ho, flagB, decide_true, decide_false, cond_true, cond_false, if_true, if_false, List.nil_append, List.length_append, List.length_nil, Bool.false_eq_true] at hp0 ⊢
    repeat' (first | refine And.intro (by omega) ?_ | fail)
    exact Lf_sl (by simp only [List.append_assoc])
theorem valsB_len : ∀ l : List DVal, (valsB l).length ≤ 10 * l.length + (l.map sizeVal).sum
  | [] => by simp [valsB]
  | v :: l => by
    have h1 := valsB_len l
    have h2 := valB_len v
    have e : valsB (v :: l) = valB v ++ valsB l := rfl
    rw [e]; simp only [List.length_append, List.length_cons, List.map_cons, List.sum_cons, sizeVal] at *; omega
theorem factB_len (f : DFact) : (factB f).length ≤ 10 + 10 * sizeFact f := by
  have h1 := textB_len f.Kind; have h2 := numB_len f.Fields.length; have h3 := valsB_len f.Fields
  simp only [factB, List.length_append, sizeFact, sizeValS]; omega
theorem opB_len (o : DOp) : (opB o).length ≤ 100 + 10 * sizeOp o := by
  have h1 := numB_len o.Kind; have h2 := textB_len o.Name; have h3 := textB_len o.Text; have h4 := factB_len o.F; have h5 := textB_len o.Key; have h6 := valB_len o.V
  have h7 := numB_len 0; have h8 := numB_len 1; have h9 := numB_len o.N
  have h10 : (flagB o.Ok).length ≤ 5 := numB_len _
  unfold opB
  split
  · simp only [List.length_append, sizeOp, sizeVal]
    split <;> split <;> (try simp only [List.length_append]) <;> omega
  · simp
def con_laws_szOp : Con UU where
  α := DOp × Int
  md := [.ro, .ro]
  of := fun | [.agg [.lit (.int .i64 a0), .lit (.string a1), .lit (.string a2), .lit (.string a3), .sl .lVal a4, .lit (.string a5), .lit (.bool a6), .lit (.int .i64 a7), .lit (.int .i64 a8), .lit (.string a9), .lit (.int .i64 a10)], .one (.lit (.int .i64 a11))] => some (⟨a0, a1, a2, ⟨a3, a4⟩, a5, a6, ⟨a7, a8, a9⟩, a10⟩, a11) | _ => none
  ds := fun (a, left) => [.agg [.lit (.int .i64 a.Kind), .lit (.string a.Name), .lit (.string a.Text), .lit (.string a.F.Kind), .sl .lVal a.F.Fields, .lit (.string a.Key), .lit (.bool a.Ok), .lit (.int .i64 a.V.K), .lit (.int .i64 a.V.N), .lit (.string a.V.S), .lit (.int .i64 a.N)], .one (.lit (.int .i64 left))]
  pre := fun (a, left) => [0 ≤ left]
  res := fun (a, left) => ⟨[.one (.lit (.int .i64 (szr left (sizeOp a))))], true, []⟩
  law := by intro l x h; (try simp only at h); split at h <;> cases h; rfl
def ann_laws_szOp : con_laws_szOp.α → Nat → Option (Ann UU) := fun (a, left) => annL []
def use_laws_szOp : List (FuncId × Con UU) := [(49, con_laws_szFact), (76, con_laws_szVal)]
theorem vc_laws_szOp (a : DOp) (left : Int) : goal EE use_laws_szOp Go.Proofs.Try.f18 con_laws_szOp ann_laws_szOp (a, left) = (let x0 : Int := IntKind.wrap IntKind.i64 (szr (IntKind.wrap IntKind.i64 (IntKind.wrap IntKind.i64 (left - (↑(ByteArray.size a.Name) : Int)) - (↑(ByteArray.size a.Text) : Int))) (sizeFact a.F) - (↑(ByteArray.size a.Key) : Int));
let x1 : Int := IntKind.wrap IntKind.i64 (IntKind.wrap IntKind.i64 (left - (↑(ByteArray.size a.Name) : Int)) - (↑(ByteArray.size a.Text) : Int));
let x2 : Int := IntKind.wrap IntKind.i64 (left - (↑(ByteArray.size a.Name) : Int));
bif decide (x2 < (0 : Int)) then Lf [DV.one (Cell.lit (Value.int IntKind.i64 (-1 : Int)))] [DV.one (Cell.lit (Value.int IntKind.i64 (szr left (sizeOp a))))] else bif decide (x1 < (0 : Int)) then Lf [DV.one (Cell.lit (Value.int IntKind.i64 (-1 : Int)))] [DV.one (Cell.lit (Value.int IntKind.i64 (szr left (sizeOp a))))] else (0 : Int) ≤ x1 ∧ bif decide (szr x1 (sizeFact a.F) < (0 : Int)) then Lf [DV.one (Cell.lit (Value.int IntKind.i64 (-1 : Int)))] [DV.one (Cell.lit (Value.int IntKind.i64 (szr left (sizeOp a))))] else bif decide (x0 < (0 : Int)) then Lf [DV.one (Cell.lit (Value.int IntKind.i64 (-1 : Int)))] [DV.one (Cell.lit (Value.int IntKind.i64 (szr left (sizeOp a))))] else (0 : Int) ≤ x0 ∧ bif decide (szr x0 (sizeVal a.V) < (0 : Int)) then Lf [DV.one (Cell.lit (Value.int IntKind.i64 (-1 : Int)))] [DV.one (Cell.lit (Value.int IntKind.i64 (szr left (sizeOp a))))] else Lf [DV.one (Cell.lit (Value.int IntKind.i64 (szr x0 (sizeVal a.V))))] [DV.one (Cell.lit (Value.int IntKind.i64 (szr left (sizeOp a))))]) := by kernel_rfl
theorem ok_laws_szOp : Holds EE (18, con_laws_szOp) := by
  refine holds_of EE_ok Go.Proofs.Try.func18 con_laws_szOp (by kernel_rfl) rfl use_laws_szOp (all_cons ok_laws_szFact (all_cons ok_laws_szVal all_nil)) ann_laws_szOp (fun x hp hb => ?_)
  obtain ⟨a, left⟩ := x
  have hb_a : BdDV (U := UU) (.agg [.lit (.int .i64 a.Kind), .lit (.string a.Name), .lit (.string a.Text), .lit (.string a.F.Kind), .sl .lVal a.F.Fields, .lit (.string a.Key), .lit (.bool a.Ok), .lit (.int .i64 a.V.K), .lit (.int .i64 a.V.N), .lit (.string a.V.S), .lit (.int .i64 a.N)]) := hb _ (List.mem_cons_self)
  have hl_a_Name : a.Name.size ≤ 9223372036854775807 := Bd.str (hb_a _ (by simp))
  have hl_a_Text : a.Text.size ≤ 9223372036854775807 := Bd.str (hb_a _ (by simp))
  have hl_a_F_Kind : a.F.Kind.size ≤ 9223372036854775807 := Bd.str (hb_a _ (by simp))
  have hl_a_F_Fields : a.F.Fields.length ≤ 9223372036854775807 := Bd.len (U := UU) (τ := .lVal) (xs := a.F.Fields) (hb_a _ (by simp))
  have hl_a_Key : a.Key.size ≤ 9223372036854775807 := Bd.str (hb_a _ (by simp))
  have hl_a_V_S : a.V.S.size ≤ 9223372036854775807 := Bd.str (hb_a _ (by simp))
  have hb_left : BdDV (U := UU) (.one (.lit (.int .i64 left))) := hb _ (List.mem_cons_of_mem _ (List.mem_cons_self))
  have hl_left := Bd.i64 hb_left
  have hp0 : 0 ≤ left := hp _ (List.mem_cons_self)
  clear hp hb
  rw [vc_laws_szOp a left]
  dsimp only
  rw [wrap_i64 (by omega) (by omega)]
  refine if_cond (fun h => Lf_i (szr_bad' ?_)) (fun h => ?_)
  · have h := of_decide_eq_true h; simp only [sizeOp]; omega
  have h0 := of_decide_eq_false h
  rw [wrap_i64 (by omega) (by omega)]
  refine if_cond (fun h => Lf_i (szr_bad' ?_)) (fun h => ?_)
  · have h := of_decide_eq_true h; simp only [sizeOp]; omega
  have h1 := of_decide_eq_false h
  refine ⟨by omega, if_cond (fun h => Lf_i (szr_bad' ?_)) (fun h => ?_)⟩
  · have h := szr_neg h; simp only [sizeOp]; omega
  obtain ⟨e2, h2⟩ := szr_pos h
  rw [e2]
  rw [wrap_i64 (by omega) (by omega)]
  refine if_cond (fun h => Lf_i (szr_bad' ?_)) (fun h => ?_)
  · have h := of_decide_eq_true h; simp only [sizeOp]; omega
  have h3 := of_decide_eq_false h
  refine ⟨by omega, if_cond (fun h => Lf_i (szr_bad' ?_)) (fun h => ?_)⟩
  · have h := szr_neg h; simp only [sizeOp]; omega
  obtain ⟨e4, h4⟩ := szr_pos h
  rw [e4]
  exact Lf_i (by rw [← szr_ok' (by simp only [sizeOp]; omega)]; simp only [sizeOp]; try omega)
def con_laws_toOp : Con UU where
  α := DOp
  md := [.ro]
  of := fun | [.agg [.lit (.int .i64 a0), .lit (.string a1), .lit (.string a2), .lit (.string a3), .sl .lVal a4, .lit (.string a5), .lit (.bool a6), .lit (.int .i64 a7), .lit (.int .i64 a8), .lit (.string a9), .lit (.int .i64 a10)]] => some ⟨a0, a1, a2, ⟨a3, a4⟩, a5, a6, ⟨a7, a8, a9⟩, a10⟩ | _ => none
  ds := fun a => [.agg [.lit (.int .i64 a.Kind), .lit (.string a.Name), .lit (.string a.Text), .lit (.string a.F.Kind), .sl .lVal a.F.Fields, .lit (.string a.Key), .lit (.bool a.Ok), .lit (.int .i64 a.V.K), .lit (.int .i64 a.V.N), .lit (.string a.V.S), .lit (.int .i64 a.N)]]
  pre := fun a => [sizeOp a ≤ 4294967296]
  res := fun a => ⟨[.agg [.lit (.int .i64 a.Kind), .lit (.string a.Name), .lit (.string a.Text), .lit (.string a.F.Kind), .sl .eVal a.F.Fields, .lit (.string a.Key), .lit (.bool a.Ok), .lit (.int .i64 a.V.K), .lit (.int .i64 a.V.N), .lit (.string a.V.S), .lit (.int .i64 a.N)]], true, []⟩
  law := by intro l x h; (try simp only at h); split at h <;> cases h; rfl
def ann_laws_toOp : con_laws_toOp.α → Nat → Option (Ann UU) := fun a => annL []
def use_laws_toOp : List (FuncId × Con UU) := [(51, con_laws_toFact), (80, con_laws_toVal)]
theorem vc_laws_toOp (a : DOp) : goal EE use_laws_toOp Go.Proofs.Try.f20 con_laws_toOp ann_laws_toOp a = (sizeFact a.F ≤ (4294967296 : Nat) ∧ sizeVal a.V ≤ (4294967296 : Nat) ∧ Lf [DV.agg [Cell.lit (Value.int IntKind.i64 a.Kind), Cell.lit (Value.string a.Name), Cell.lit (Value.string a.Text), Cell.lit (Value.string a.F.Kind), Cell.sl Cd.eVal a.F.Fields, Cell.lit (Value.string a.Key), Cell.lit (Value.bool a.Ok), Cell.lit (Value.int IntKind.i64 a.V.K), Cell.lit (Value.int IntKind.i64 a.V.N), Cell.lit (Value.string a.V.S), Cell.lit (Value.int IntKind.i64 a.N)]] [DV.agg [Cell.lit (Value.int IntKind.i64 a.Kind), Cell.lit (Value.string a.Name), Cell.lit (Value.string a.Text), Cell.lit (Value.string a.F.Kind), Cell.sl Cd.eVal a.F.Fields, Cell.lit (Value.string a.Key), Cell.lit (Value.bool a.Ok), Cell.lit (Value.int IntKind.i64 a.V.K), Cell.lit (Value.int IntKind.i64 a.V.N), Cell.lit (Value.string a.V.S), Cell.lit (Value.int IntKind.i64 a.N)]]) := by kernel_rfl
theorem ok_laws_toOp : Holds EE (20, con_laws_toOp) := by
  refine holds_of EE_ok Go.Proofs.Try.func20 con_laws_toOp (by kernel_rfl) rfl use_laws_toOp (all_cons ok_laws_toFact (all_cons ok_laws_toVal all_nil)) ann_laws_toOp (fun (a : DOp) hp hb => ?_)
  have hb_a : BdDV (U := UU) (.agg [.lit (.int .i64 a.Kind), .lit (.string a.Name), .lit (.string a.Text), .lit (.string a.F.Kind), .sl .lVal a.F.Fields, .lit (.string a.Key), .lit (.bool a.Ok), .lit (.int .i64 a.V.K), .lit (.int .i64 a.V.N), .lit (.string a.V.S), .lit (.int .i64 a.N)]) := hb _ (List.mem_cons_self)
  have hl_a_Name : a.Name.size ≤ 9223372036854775807 := Bd.str (hb_a _ (by simp))
  have hl_a_Text : a.Text.size ≤ 9223372036854775807 := Bd.str (hb_a _ (by simp))
  have hl_a_F_Kind : a.F.Kind.size ≤ 9223372036854775807 := Bd.str (hb_a _ (by simp))
  have hl_a_F_Fields : a.F.Fields.length ≤ 9223372036854775807 := Bd.len (U := UU) (τ := .lVal) (xs := a.F.Fields) (hb_a _ (by simp))
  have hl_a_Key : a.Key.size ≤ 9223372036854775807 := Bd.str (hb_a _ (by simp))
  have hl_a_V_S : a.V.S.size ≤ 9223372036854775807 := Bd.str (hb_a _ (by simp))
  have hp0 : sizeOp a ≤ 4294967296 := hp _ (List.mem_cons_self)
  clear hp hb
  rw [vc_laws_toOp a]
  simp only [sizeOp] at hp0
  repeat' (first | exact Lf_rfl _ | (refine And.intro (by omega) ?_))
def con_laws_eqOp : Con UU where
  α := DOp × DOp
  md := [.ro, .ro]
  of := fun | [.agg [.lit (.int .i64 a0), .lit (.string a1), .lit (.string a2), .lit (.string a3), .sl .eVal a4, .lit (.string a5), .lit (.bool a6), .lit (.int .i64 a7), .lit (.int .i64 a8), .lit (.string a9), .lit (.int .i64 a10)], .agg [.lit (.int .i64 a11), .lit (.string a12), .lit (.string a13), .lit (.string a14), .sl .eVal a15, .lit (.string a16), .lit (.bool a17), .lit (.int .i64 a18), .lit (.int .i64 a19), .lit (.string a20), .lit (.int .i64 a21)]] => some (⟨a0, a1, a2, ⟨a3, a4⟩, a5, a6, ⟨a7, a8, a9⟩, a10⟩, ⟨a11, a12, a13, ⟨a14, a15⟩, a16, a17, ⟨a18, a19, a20⟩, a21⟩) | _ => none
  ds := fun (a, b) => [.agg [.lit (.int .i64 a.Kind), .lit (.string a.Name), .lit (.string a.Text), .lit (.string a.F.Kind), .sl .eVal a.F.Fields, .lit (.string a.Key), .lit (.bool a.Ok), .lit (.int .i64 a.V.K), .lit (.int .i64 a.V.N), .lit (.string a.V.S), .lit (.int .i64 a.N)], .agg [.lit (.int .i64 b.Kind), .lit (.string b.Name), .lit (.string b.Text), .lit (.string b.F.Kind), .sl .eVal b.F.Fields, .lit (.string b.Key), .lit (.bool b.Ok), .lit (.int .i64 b.V.K), .lit (.int .i64 b.V.N), .lit (.string b.V.S), .lit (.int .i64 b.N)]]
  pre := fun (a, b) => []
  res := fun (a, b) => ⟨[.one (.lit (.bool (decide (a = b))))], true, []⟩
  law := by intro l x h; (try simp only at h); split at h <;> cases h; rfl
def ann_laws_eqOp : con_laws_eqOp.α → Nat → Option (Ann UU) := fun (a, b) => annL []
def use_laws_eqOp : List (FuncId × Con UU) := [(53, con_laws_eqFact), (82, con_laws_eqVal)]
theorem vc_laws_eqOp (a : DOp) (b : DOp) : goal EE use_laws_eqOp Go.Proofs.Try.f22 con_laws_eqOp ann_laws_eqOp (a, b) = (bif a.Kind != b.Kind then Lf [DV.one (Cell.lit (Value.bool false))] [DV.one (Cell.lit (Value.bool (decide (a = b))))] else bif !ByteArray.toList a.Name == ByteArray.toList b.Name then Lf [DV.one (Cell.lit (Value.bool false))] [DV.one (Cell.lit (Value.bool (decide (a = b))))] else bif !ByteArray.toList a.Text == ByteArray.toList b.Text then Lf [DV.one (Cell.lit (Value.bool false))] [DV.one (Cell.lit (Value.bool (decide (a = b))))] else bif !decide (a.F = b.F) then Lf [DV.one (Cell.lit (Value.bool false))] [DV.one (Cell.lit (Value.bool (decide (a = b))))] else bif !ByteArray.toList a.Key == ByteArray.toList b.Key then Lf [DV.one (Cell.lit (Value.bool false))] [DV.one (Cell.lit (Value.bool (decide (a = b))))] else bif !a.Ok == b.Ok then Lf [DV.one (Cell.lit (Value.bool false))] [DV.one (Cell.lit (Value.bool (decide (a = b))))] else bif !decide (a.V = b.V) then Lf [DV.one (Cell.lit (Value.bool false))] [DV.one (Cell.lit (Value.bool (decide (a = b))))] else bif a.N != b.N then Lf [DV.one (Cell.lit (Value.bool false))] [DV.one (Cell.lit (Value.bool (decide (a = b))))] else Lf [DV.one (Cell.lit (Value.bool true))] [DV.one (Cell.lit (Value.bool (decide (a = b))))]) := by kernel_rfl
theorem ok_laws_eqOp : Holds EE (22, con_laws_eqOp) := by
  refine holds_of EE_ok Go.Proofs.Try.func22 con_laws_eqOp (by kernel_rfl) rfl use_laws_eqOp (all_cons ok_laws_eqFact (all_cons ok_laws_eqVal all_nil)) ann_laws_eqOp (fun x hp hb => ?_)
  obtain ⟨a, b⟩ := x
  have hb_a : BdDV (U := UU) (.agg [.lit (.int .i64 a.Kind), .lit (.string a.Name), .lit (.string a.Text), .lit (.string a.F.Kind), .sl .eVal a.F.Fields, .lit (.string a.Key), .lit (.bool a.Ok), .lit (.int .i64 a.V.K), .lit (.int .i64 a.V.N), .lit (.string a.V.S), .lit (.int .i64 a.N)]) := hb _ (List.mem_cons_self)
  have hl_a_Name : a.Name.size ≤ 9223372036854775807 := Bd.str (hb_a _ (by simp))
  have hl_a_Text : a.Text.size ≤ 9223372036854775807 := Bd.str (hb_a _ (by simp))
  have hl_a_F_Kind : a.F.Kind.size ≤ 9223372036854775807 := Bd.str (hb_a _ (by simp))
  have hl_a_F_Fields : a.F.Fields.length ≤ 9223372036854775807 := Bd.len (U := UU) (τ := .eVal) (xs := a.F.Fields) (hb_a _ (by simp))
  have hl_a_Key : a.Key.size ≤ 9223372036854775807 := Bd.str (hb_a _ (by simp))
  have hl_a_V_S : a.V.S.size ≤ 9223372036854775807 := Bd.str (hb_a _ (by simp))
  have hb_b : BdDV (U := UU) (.agg [.lit (.int .i64 b.Kind), .lit (.string b.Name), .lit (.string b.Text), .lit (.string b.F.Kind), .sl .eVal b.F.Fields, .lit (.string b.Key), .lit (.bool b.Ok), .lit (.int .i64 b.V.K), .lit (.int .i64 b.V.N), .lit (.string b.V.S), .lit (.int .i64 b.N)]) := hb _ (List.mem_cons_of_mem _ (List.mem_cons_self))
  have hl_b_Name : b.Name.size ≤ 9223372036854775807 := Bd.str (hb_b _ (by simp))
  have hl_b_Text : b.Text.size ≤ 9223372036854775807 := Bd.str (hb_b _ (by simp))
  have hl_b_F_Kind : b.F.Kind.size ≤ 9223372036854775807 := Bd.str (hb_b _ (by simp))
  have hl_b_F_Fields : b.F.Fields.length ≤ 9223372036854775807 := Bd.len (U := UU) (τ := .eVal) (xs := b.F.Fields) (hb_b _ (by simp))
  have hl_b_Key : b.Key.size ≤ 9223372036854775807 := Bd.str (hb_b _ (by simp))
  have hl_b_V_S : b.V.S.size ≤ 9223372036854775807 := Bd.str (hb_b _ (by simp))
  clear hp hb
  rw [vc_laws_eqOp a b]
  obtain ⟨aKind, aName, aText, aF, aKey, aOk, aV, aN⟩ := a
  obtain ⟨bKind, bName, bText, bF, bKey, bOk, bV, bN⟩ := b
  repeat' (apply if_cond <;> intro _)
  all_goals (first | apply Lf_t | apply Lf_f) <;> simp_all
def con_laws_markOp : Con UU where
  α := DOp × Int
  md := [.wr, .ro]
  of := fun | [.agg [.lit (.int .i64 a0), .lit (.string a1), .lit (.string a2), .lit (.string a3), .sl .eVal a4, .lit (.string a5), .lit (.bool a6), .lit (.int .i64 a7), .lit (.int .i64 a8), .lit (.string a9), .lit (.int .i64 a10)], .one (.lit (.int .i64 a11))] => some (⟨a0, a1, a2, ⟨a3, a4⟩, a5, a6, ⟨a7, a8, a9⟩, a10⟩, a11) | _ => none
  ds := fun (a, k) => [.agg [.lit (.int .i64 a.Kind), .lit (.string a.Name), .lit (.string a.Text), .lit (.string a.F.Kind), .sl .eVal a.F.Fields, .lit (.string a.Key), .lit (.bool a.Ok), .lit (.int .i64 a.V.K), .lit (.int .i64 a.V.N), .lit (.string a.V.S), .lit (.int .i64 a.N)], .one (.lit (.int .i64 k))]
  pre := fun (a, k) => [0 ≤ k, k + ctOp a ≤ 4611686018427387904]
  res := fun (a, k) => ⟨[.one (.lit (.int .i64 (k + ctOp a)))], true, [.agg [.lit (.int .i64 ((mkOp a k)).Kind), .lit (.string ((mkOp a k)).Name), .lit (.string ((mkOp a k)).Text), .lit (.string (((mkOp a k)).F).Kind), .sl .eVal (((mkOp a k)).F).Fields, .lit (.string ((mkOp a k)).Key), .lit (.bool ((mkOp a k)).Ok), .lit (.int .i64 (((mkOp a k)).V).K), .lit (.int .i64 (((mkOp a k)).V).N), .lit (.string (((mkOp a k)).V).S), .lit (.int .i64 ((mkOp a k)).N)]]⟩
  law := by intro l x h; (try simp only at h); split at h <;> cases h; rfl
def ann_laws_markOp : con_laws_markOp.α → Nat → Option (Ann UU) := fun (a, k) => annL []
def use_laws_markOp : List (FuncId × Con UU) := [(54, con_laws_markFact)]
theorem vc_laws_markOp (a : DOp) (k : Int) : goal EE use_laws_markOp Go.Proofs.Try.f35 con_laws_markOp ann_laws_markOp (a, k) = ((0 : Int) ≤ k ∧ k + (↑(ctFact a.F) : Int) ≤ (4611686018427387904 : Int) ∧ asD [DV.one (Cell.lit (Value.int IntKind.i64 (k + (↑(ctFact a.F) : Int))))] = asD [DV.one (Cell.lit (Value.int IntKind.i64 (k + (↑(ctOp a) : Int))))] ∧ asD [DV.agg [Cell.lit (Value.int IntKind.i64 a.Kind), Cell.lit (Value.string a.Name), Cell.lit (Value.string a.Text), Cell.lit (Value.string a.F.Kind), Cell.sl Cd.eVal (mkFact a.F k).Fields, Cell.lit (Value.string a.Key), Cell.lit (Value.bool a.Ok), Cell.lit (Value.int IntKind.i64 a.V.K), Cell.lit (Value.int IntKind.i64 a.V.N), Cell.lit (Value.string a.V.S), Cell.lit (Value.int IntKind.i64 a.N)]] = asD [DV.agg [Cell.lit (Value.int IntKind.i64 (mkOp a k).Kind), Cell.lit (Value.string (mkOp a k).Name), Cell.lit (Value.string (mkOp a k).Text), Cell.lit (Value.string (mkOp a k).F.Kind), Cell.sl Cd.eVal (mkOp a k).F.Fields, Cell.lit (Value.string (mkOp a k).Key), Cell.lit (Value.bool (mkOp a k).Ok), Cell.lit (Value.int IntKind.i64 (mkOp a k).V.K), Cell.lit (Value.int IntKind.i64 (mkOp a k).V.N), Cell.lit (Value.string (mkOp a k).V.S), Cell.lit (Value.int IntKind.i64 (mkOp a k).N)]]) := by kernel_rfl
theorem ok_laws_markOp : Holds EE (35, con_laws_markOp) := by
  refine holds_of EE_ok Go.Proofs.Try.func35 con_laws_markOp (by kernel_rfl) rfl use_laws_markOp (all_cons ok_laws_markFact all_nil) ann_laws_markOp (fun x hp hb => ?_)
  obtain ⟨a, k⟩ := x
  have hb_a : BdDV (U := UU) (.agg [.lit (.int .i64 a.Kind), .lit (.string a.Name), .lit (.string a.Text), .lit (.string a.F.Kind), .sl .eVal a.F.Fields, .lit (.string a.Key), .lit (.bool a.Ok), .lit (.int .i64 a.V.K), .lit (.int .i64 a.V.N), .lit (.string a.V.S), .lit (.int .i64 a.N)]) := hb _ (List.mem_cons_self)
  have hl_a_Name : a.Name.size ≤ 9223372036854775807 := Bd.str (hb_a _ (by simp))
  have hl_a_Text : a.Text.size ≤ 9223372036854775807 := Bd.str (hb_a _ (by simp))
  have hl_a_F_Kind : a.F.Kind.size ≤ 9223372036854775807 := Bd.str (hb_a _ (by simp))
  have hl_a_F_Fields : a.F.Fields.length ≤ 9223372036854775807 := Bd.len (U := UU) (τ := .eVal) (xs := a.F.Fields) (hb_a _ (by simp))
  have hl_a_Key : a.Key.size ≤ 9223372036854775807 := Bd.str (hb_a _ (by simp))
  have hl_a_V_S : a.V.S.size ≤ 9223372036854775807 := Bd.str (hb_a _ (by simp))
  have hb_k : BdDV (U := UU) (.one (.lit (.int .i64 k))) := hb _ (List.mem_cons_of_mem _ (List.mem_cons_self))
  have hl_k := Bd.i64 hb_k
  have hp0 : 0 ≤ k := hp _ (List.mem_cons_self)
  have hp1 : k + ctOp a ≤ 4611686018427387904 := hp _ (List.mem_cons_of_mem _ (List.mem_cons_self))
  clear hp hb
  rw [vc_laws_markOp a k]
  simp only [ctOp] at hp1
  repeat' (first | refine And.intro (by omega) ?_ | fail)
  exact ⟨by simp only [ctOp, Int.natCast_add, Int.add_assoc], rfl⟩
def con_laws_FnExactPutOp : Con UU where
  α := DOp
  md := [.ro]
  of := fun | [.agg [.lit (.int .i64 a0), .lit (.string a1), .lit (.string a2), .lit (.string a3), .sl .lVal a4, .lit (.string a5), .lit (.bool a6), .lit (.int .i64 a7), .lit (.int .i64 a8), .lit (.string a9), .lit (.int .i64 a10)]] => some ⟨a0, a1, a2, ⟨a3, a4⟩, a5, a6, ⟨a7, a8, a9⟩, a10⟩ | _ => none
  ds := fun aO => [.agg [.lit (.int .i64 aO.Kind), .lit (.string aO.Name), .lit (.string aO.Text), .lit (.string aO.F.Kind), .sl .lVal aO.F.Fields, .lit (.string aO.Key), .lit (.bool aO.Ok), .lit (.int .i64 aO.V.K), .lit (.int .i64 aO.V.N), .lit (.string aO.V.S), .lit (.int .i64 aO.N)]]
  pre := fun aO => []
  res := fun aO => ⟨[.one (.lit (.bool true))], true, []⟩
  law := by intro l x h; (try simp only at h); split at h <;> cases h; rfl
def ann_laws_FnExactPutOp : con_laws_FnExactPutOp.α → Nat → Option (Ann UU) := fun aO => annL []
def use_laws_FnExactPutOp : List (FuncId × Con UU) := [(18, con_laws_szOp), (20, con_laws_toOp), (32, con_spec_PutOp), (33, con_impl_PutOp), (34, con_laws_eqByteS), (22, con_laws_eqOp), (35, con_laws_markOp), (36, con_laws_markByteS), (37, con_laws_heldByteS)]
theorem vc_laws_FnExactPutOp (aO : DOp) : goal EE use_laws_FnExactPutOp Go.Proofs.Try.f7 con_laws_FnExactPutOp ann_laws_FnExactPutOp aO = (let x0 : Bool := decide ((if markByteS (markByteS (opB aO) (1 : Int)) (1 : Int) = markByteS (opB aO) (1 : Int) then (1 : Int) + (↑(cntByteS (markByteS (opB aO) (1 : Int))) : Int) else (-1 : Int)) < (0 : Int));
let x1 : Bool := (if markByteS (markByteS (opB aO) (1 : Int)) (1 : Int) = markByteS (opB aO) (1 : Int) then (1 : Int) + (↑(cntByteS (markByteS (opB aO) (1 : Int))) : Int) else (-1 : Int)) != (1 : Int) + (↑(cntByteS (opB aO)) : Int);
let x2 : Bool := !decide (opB aO = opB aO);
(0 : Int) ≤ (1048576 : Int) ∧ bif decide (szr (1048576 : Int) (sizeOp aO) < (0 : Int)) then Lf [DV.one (Cell.lit (Value.bool true))] [DV.one (Cell.lit (Value.bool true))] else sizeOp aO ≤ (4294967296 : Nat) ∧ List.length (opB aO) ≤ (4294967200 : Nat) ∧ sizeOp aO ≤ (4294967296 : Nat) ∧ List.length (opB aO) ≤ (4294967200 : Nat) ∧ bif x2 then Lf [DV.one (Cell.lit (Value.bool false))] [DV.one (Cell.lit (Value.bool true))] else sizeOp aO ≤ (4294967296 : Nat) ∧ bif !decide (aO = aO) then Lf [DV.one (Cell.lit (Value.bool false))] [DV.one (Cell.lit (Value.bool true))] else (0 : Int) ≤ (1 : Int) ∧ (1 : Int) + (↑(ctOp aO) : Int) ≤ (4611686018427387904 : Int) ∧ bif x2 then Lf [DV.one (Cell.lit (Value.bool false))] [DV.one (Cell.lit (Value.bool true))] else (0 : Int) ≤ (1 : Int) ∧ (1 : Int) + (↑(cntByteS (opB aO)) : Int) ≤ (4611686018427387904 : Int) ∧ (0 : Int) ≤ (1 : Int) ∧ (1 : Int) + (↑(cntByteS (markByteS (opB aO) (1 : Int))) : Int) ≤ (4611686018427387904 : Int) ∧ bif x0 then Lf [DV.one (Cell.lit (Value.bool false))] [DV.one (Cell.lit (Value.bool true))] else bif x1 then Lf [DV.one (Cell.lit (Value.bool false))] [DV.one (Cell.lit (Value.bool true))] else sizeOp aO ≤ (4294967296 : Nat) ∧ List.length (opB aO) ≤ (4294967200 : Nat) ∧ bif x2 then Lf [DV.one (Cell.lit (Value.bool false))] [DV.one (Cell.lit (Value.bool true))] else (0 : Int) ≤ (1 : Int) ∧ (1 : Int) + (↑(cntByteS (markByteS (opB aO) (1 : Int))) : Int) ≤ (4611686018427387904 : Int) ∧ bif x0 then Lf [DV.one (Cell.lit (Value.bool false))] [DV.one (Cell.lit (Value.bool true))] else bif x1 then Lf [DV.one (Cell.lit (Value.bool false))] [DV.one (Cell.lit (Value.bool true))] else Lf [DV.one (Cell.lit (Value.bool true))] [DV.one (Cell.lit (Value.bool true))]) := by kernel_rfl
theorem ok_laws_FnExactPutOp : Holds EE (7, con_laws_FnExactPutOp) := by
  refine holds_of EE_ok Go.Proofs.Try.func7 con_laws_FnExactPutOp (by kernel_rfl) rfl use_laws_FnExactPutOp (all_cons ok_laws_szOp (all_cons ok_laws_toOp (all_cons ok_spec_PutOp (all_cons ok_impl_PutOp (all_cons ok_laws_eqByteS (all_cons ok_laws_eqOp (all_cons ok_laws_markOp (all_cons ok_laws_markByteS (all_cons ok_laws_heldByteS all_nil))))))))) ann_laws_FnExactPutOp (fun (aO : DOp) hp hb => ?_)
  have hb_aO : BdDV (U := UU) (.agg [.lit (.int .i64 aO.Kind), .lit (.string aO.Name), .lit (.string aO.Text), .lit (.string aO.F.Kind), .sl .lVal aO.F.Fields, .lit (.string aO.Key), .lit (.bool aO.Ok), .lit (.int .i64 aO.V.K), .lit (.int .i64 aO.V.N), .lit (.string aO.V.S), .lit (.int .i64 aO.N)]) := hb _ (List.mem_cons_self)
  have hl_aO_Name : aO.Name.size ≤ 9223372036854775807 := Bd.str (hb_aO _ (by simp))
  have hl_aO_Text : aO.Text.size ≤ 9223372036854775807 := Bd.str (hb_aO _ (by simp))
  have hl_aO_F_Kind : aO.F.Kind.size ≤ 9223372036854775807 := Bd.str (hb_aO _ (by simp))
  have hl_aO_F_Fields : aO.F.Fields.length ≤ 9223372036854775807 := Bd.len (U := UU) (τ := .lVal) (xs := aO.F.Fields) (hb_aO _ (by simp))
  have hl_aO_Key : aO.Key.size ≤ 9223372036854775807 := Bd.str (hb_aO _ (by simp))
  have hl_aO_V_S : aO.V.S.size ≤ 9223372036854775807 := Bd.str (hb_aO _ (by simp))
  clear hp hb
  rw [vc_laws_FnExactPutOp aO]
  dsimp only
  refine ⟨by omega, if_cond (fun h => Lf_rfl _) (fun h => ?_)⟩
  obtain ⟨e0, h0⟩ := szr_pos h
  have hl := opB_len aO
  have hc := cntByteS_le (opB aO)
  have hs : sizeByteS (opB aO) = (opB aO).length := rfl
  have hco := ctOp_le aO
  simp only [markByteS_idem, markByteS_ct, if_true]
  repeat' (first | exact Lf_rfl _ | refine And.intro (by omega) ?_ | refine if_cond (fun h => absurd h (by first | (simp; done) | (simp; omega))) (fun h => ?_) | fail)
end
end AM
