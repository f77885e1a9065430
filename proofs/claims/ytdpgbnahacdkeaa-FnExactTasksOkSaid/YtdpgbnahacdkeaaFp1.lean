/- Functions of the program with their contracts: written by gen/fn.py out of p1.fn. -/
import Derived.Test.YtdpgbnahacdkeaaAmLib
import Derived.Test.YtdpgbnahacdkeaaAmModels
namespace AM
open Go
set_option linter.unusedVariables false
set_option linter.unusedSimpArgs false
set_option maxRecDepth 100000
noncomputable section
def smallB (b : Int) : Bool := decide (97 ≤ b ∧ b ≤ 122)
def wordB (b : Int) : Bool := smallB b || decide (48 ≤ b ∧ b ≤ 57) || decide (b = 95)
def wordS (s : ByteArray) : Bool := (bs s).all (byteP wordB)
def nameOk (s : ByteArray) : Bool := decide (1 ≤ s.size ∧ s.size ≤ 12) && smallB (List.getD (bs s) 0 0).toNat && wordS s
def valOk (v : DVal) : Bool := bif decide (v.K = 1) then decide (-1000000000 ≤ v.N ∧ v.N ≤ 1000000000) && decide (v.S = noBytes) else bif decide (v.K = 2) then decide (v.N = 0) && decide (v.S.size ≤ 20) && wordS v.S else false
def factOk (f : DFact) : Bool := nameOk f.Kind && decide (f.Fields.length ≤ 5) && f.Fields.all valOk
def con_impl_inRange : Con UU where
  α := Int × Int × Int
  md := [.ro, .ro, .ro]
  of := fun | [.one (.lit (.int .i64 a0)), .one (.lit (.int .i64 a1)), .one (.lit (.int .i64 a2))] => some (a0, a1, a2) | _ => none
  ds := fun (n, least, most) => [.one (.lit (.int .i64 n)), .one (.lit (.int .i64 least)), .one (.lit (.int .i64 most))]
  pre := fun (n, least, most) => []
  res := fun (n, least, most) => ⟨[.one (.lit (.bool (decide (least ≤ n ∧ n ≤ most))))], true, []⟩
  law := by intro l x h; (try simp only at h); split at h <;> cases h; rfl
def ann_impl_inRange : con_impl_inRange.α → Nat → Option (Ann UU) := fun (n, least, most) => annL []
def use_impl_inRange : List (FuncId × Con UU) := []
theorem vc_impl_inRange (n : Int) (least : Int) (most : Int) : goal EE use_impl_inRange Go.Proofs.Try.f146 con_impl_inRange ann_impl_inRange (n, least, most) = (bif decide (n ≥ least) then Lf [DV.one (Cell.lit (Value.bool (decide (n ≤ most))))] [DV.one (Cell.lit (Value.bool (decide (least ≤ n ∧ n ≤ most))))] else Lf [DV.one (Cell.lit (Value.bool false))] [DV.one (Cell.lit (Value.bool (decide (least ≤ n ∧ n ≤ most))))]) := by kernel_rfl
theorem ok_impl_inRange : Holds EE (146, con_impl_inRange) := by
  refine holds_of EE_ok Go.Proofs.Try.func146 con_impl_inRange (by kernel_rfl) rfl use_impl_inRange all_nil ann_impl_inRange (fun x hp hb => ?_)
  obtain ⟨n, least, most⟩ := x
  have hb_n : BdDV (U := UU) (.one (.lit (.int .i64 n))) := hb _ (List.mem_cons_self)
  have hl_n := Bd.i64 hb_n
  have hb_least : BdDV (U := UU) (.one (.lit (.int .i64 least))) := hb _ (List.mem_cons_of_mem _ (List.mem_cons_self))
  have hl_least := Bd.i64 hb_least
  have hb_most : BdDV (U := UU) (.one (.lit (.int .i64 most))) := hb _ (List.mem_cons_of_mem _ (List.mem_cons_of_mem _ (List.mem_cons_self)))
  have hl_most := Bd.i64 hb_most
  clear hp hb
  rw [vc_impl_inRange n least most]
  refine if_cond (fun h => Lf_b ?_) (fun h => Lf_b ?_) <;> grind
def con_spec_l1In : Con UU where
  α := Int × Int × Int
  md := [.ro, .ro, .ro]
  of := fun | [.one (.lit (.int .i64 a0)), .one (.lit (.int .i64 a1)), .one (.lit (.int .i64 a2))] => some (a0, a1, a2) | _ => none
  ds := fun (x, least, most) => [.one (.lit (.int .i64 x)), .one (.lit (.int .i64 least)), .one (.lit (.int .i64 most))]
  pre := fun (x, least, most) => []
  res := fun (x, least, most) => ⟨[.one (.lit (.bool (decide (least ≤ x ∧ x ≤ most))))], true, []⟩
  law := by intro l x h; (try simp only at h); split at h <;> cases h; rfl
def ann_spec_l1In : con_spec_l1In.α → Nat → Option (Ann UU) := fun (x, least, most) => annL []
def use_spec_l1In : List (FuncId × Con UU) := []
theorem vc_spec_l1In (x : Int) (least : Int) (most : Int) : goal EE use_spec_l1In Go.Proofs.Try.f69 con_spec_l1In ann_spec_l1In (x, least, most) = (bif decide (x ≥ least) then Lf [DV.one (Cell.lit (Value.bool (decide (x ≤ most))))] [DV.one (Cell.lit (Value.bool (decide (least ≤ x ∧ x ≤ most))))] else Lf [DV.one (Cell.lit (Value.bool false))] [DV.one (Cell.lit (Value.bool (decide (least ≤ x ∧ x ≤ most))))]) := by kernel_rfl
theorem ok_spec_l1In : Holds EE (69, con_spec_l1In) := by
  refine holds_of EE_ok Go.Proofs.Try.func69 con_spec_l1In (by kernel_rfl) rfl use_spec_l1In all_nil ann_spec_l1In (fun x hp hb => ?_)
  obtain ⟨x, least, most⟩ := x
  have hb_x : BdDV (U := UU) (.one (.lit (.int .i64 x))) := hb _ (List.mem_cons_self)
  have hl_x := Bd.i64 hb_x
  have hb_least : BdDV (U := UU) (.one (.lit (.int .i64 least))) := hb _ (List.mem_cons_of_mem _ (List.mem_cons_self))
  have hl_least := Bd.i64 hb_least
  have hb_most : BdDV (U := UU) (.one (.lit (.int .i64 most))) := hb _ (List.mem_cons_of_mem _ (List.mem_cons_of_mem _ (List.mem_cons_self)))
  have hl_most := Bd.i64 hb_most
  clear hp hb
  rw [vc_spec_l1In x least most]
  refine if_cond (fun h => Lf_b ?_) (fun h => Lf_b ?_) <;> grind
def con_impl_isSmall : Con UU where
  α := Int
  md := [.ro]
  of := fun | [.one (.lit (.int .u8 a0))] => some a0 | _ => none
  ds := fun b => [.one (.lit (.int .u8 b))]
  pre := fun b => []
  res := fun b => ⟨[.one (.lit (.bool (smallB b)))], true, []⟩
  law := by intro l x h; (try simp only at h); split at h <;> cases h; rfl
def ann_impl_isSmall : con_impl_isSmall.α → Nat → Option (Ann UU) := fun b => annL []
def use_impl_isSmall : List (FuncId × Con UU) := []
theorem vc_impl_isSmall (b : Int) : goal EE use_impl_isSmall Go.Proofs.Try.f178 con_impl_isSmall ann_impl_isSmall b = (bif decide (b ≥ (97 : Int)) then Lf [DV.one (Cell.lit (Value.bool (decide (b ≤ (122 : Int)))))] [DV.one (Cell.lit (Value.bool (smallB b)))] else Lf [DV.one (Cell.lit (Value.bool false))] [DV.one (Cell.lit (Value.bool (smallB b)))]) := by kernel_rfl
theorem ok_impl_isSmall : Holds EE (178, con_impl_isSmall) := by
  refine holds_of EE_ok Go.Proofs.Try.func178 con_impl_isSmall (by kernel_rfl) rfl use_impl_isSmall all_nil ann_impl_isSmall (fun (b : Int) hp hb => ?_)
  have hb_b : BdDV (U := UU) (.one (.lit (.int .u8 b))) := hb _ (List.mem_cons_self)
  clear hp hb
  rw [vc_impl_isSmall b]
  refine if_cond (fun h => Lf_b ?_) (fun h => Lf_b ?_) <;> grind [smallB]
def con_impl_isDigit : Con UU where
  α := Int
  md := [.ro]
  of := fun | [.one (.lit (.int .u8 a0))] => some a0 | _ => none
  ds := fun b => [.one (.lit (.int .u8 b))]
  pre := fun b => []
  res := fun b => ⟨[.one (.lit (.bool (decide (48 ≤ b ∧ b ≤ 57))))], true, []⟩
  law := by intro l x h; (try simp only at h); split at h <;> cases h; rfl
def ann_impl_isDigit : con_impl_isDigit.α → Nat → Option (Ann UU) := fun b => annL []
def use_impl_isDigit : List (FuncId × Con UU) := []
theorem vc_impl_isDigit (b : Int) : goal EE use_impl_isDigit Go.Proofs.Try.f197 con_impl_isDigit ann_impl_isDigit b = (bif decide (b ≥ (48 : Int)) then Lf [DV.one (Cell.lit (Value.bool (decide (b ≤ (57 : Int)))))] [DV.one (Cell.lit (Value.bool (decide ((48 : Int) ≤ b ∧ b ≤ (57 : Int)))))] else Lf [DV.one (Cell.lit (Value.bool false))] [DV.one (Cell.lit (Value.bool (decide ((48 : Int) ≤ b ∧ b ≤ (57 : Int)))))]) := by kernel_rfl
theorem ok_impl_isDigit : Holds EE (197, con_impl_isDigit) := by
  refine holds_of EE_ok Go.Proofs.Try.func197 con_impl_isDigit (by kernel_rfl) rfl use_impl_isDigit all_nil ann_impl_isDigit (fun (b : Int) hp hb => ?_)
  have hb_b : BdDV (U := UU) (.one (.lit (.int .u8 b))) := hb _ (List.mem_cons_self)
  clear hp hb
  rw [vc_impl_isDigit b]
  refine if_cond (fun h => Lf_b ?_) (fun h => Lf_b ?_) <;> grind
def con_impl_isWordByte : Con UU where
  α := Int
  md := [.ro]
  of := fun | [.one (.lit (.int .u8 a0))] => some a0 | _ => none
  ds := fun b => [.one (.lit (.int .u8 b))]
  pre := fun b => []
  res := fun b => ⟨[.one (.lit (.bool (wordB b)))], true, []⟩
  law := by intro l x h; (try simp only at h); split at h <;> cases h; rfl
def ann_impl_isWordByte : con_impl_isWordByte.α → Nat → Option (Ann UU) := fun b => annL []
def use_impl_isWordByte : List (FuncId × Con UU) := [(178, con_impl_isSmall), (197, con_impl_isDigit)]
theorem vc_impl_isWordByte (b : Int) : goal EE use_impl_isWordByte Go.Proofs.Try.f192 con_impl_isWordByte ann_impl_isWordByte b = (bif smallB b then Lf [DV.one (Cell.lit (Value.bool true))] [DV.one (Cell.lit (Value.bool (wordB b)))] else bif decide ((48 : Int) ≤ b ∧ b ≤ (57 : Int)) then Lf [DV.one (Cell.lit (Value.bool true))] [DV.one (Cell.lit (Value.bool (wordB b)))] else Lf [DV.one (Cell.lit (Value.bool (b == (95 : Int))))] [DV.one (Cell.lit (Value.bool (wordB b)))]) := by kernel_rfl
theorem ok_impl_isWordByte : Holds EE (192, con_impl_isWordByte) := by
  refine holds_of EE_ok Go.Proofs.Try.func192 con_impl_isWordByte (by kernel_rfl) rfl use_impl_isWordByte (all_cons ok_impl_isSmall (all_cons ok_impl_isDigit all_nil)) ann_impl_isWordByte (fun (b : Int) hp hb => ?_)
  have hb_b : BdDV (U := UU) (.one (.lit (.int .u8 b))) := hb _ (List.mem_cons_self)
  clear hp hb
  rw [vc_impl_isWordByte b]
  refine if_cond (fun h => Lf_b ?_) (fun h => ?_)
  · grind [wordB]
  refine if_cond (fun h => Lf_b ?_) (fun h => Lf_b ?_) <;> grind [wordB]
def con_spec_l1Letter : Con UU where
  α := Int
  md := [.ro]
  of := fun | [.one (.lit (.int .u8 a0))] => some a0 | _ => none
  ds := fun c => [.one (.lit (.int .u8 c))]
  pre := fun c => [0 ≤ c ∧ c ≤ 255]
  res := fun c => ⟨[.one (.lit (.bool (wordB c)))], true, []⟩
  law := by intro l x h; (try simp only at h); split at h <;> cases h; rfl
def ann_spec_l1Letter : con_spec_l1Letter.α → Nat → Option (Ann UU) := fun c => annL []
def use_spec_l1Letter : List (FuncId × Con UU) := [(69, con_spec_l1In)]
theorem vc_spec_l1Letter (c : Int) : goal EE use_spec_l1Letter Go.Proofs.Try.f151 con_spec_l1Letter ann_spec_l1Letter c = (bif decide ((97 : Int) ≤ IntKind.wrap IntKind.i64 c ∧ IntKind.wrap IntKind.i64 c ≤ (122 : Int)) then Lf [DV.one (Cell.lit (Value.bool true))] [DV.one (Cell.lit (Value.bool (wordB c)))] else bif decide ((48 : Int) ≤ IntKind.wrap IntKind.i64 c ∧ IntKind.wrap IntKind.i64 c ≤ (57 : Int)) then Lf [DV.one (Cell.lit (Value.bool true))] [DV.one (Cell.lit (Value.bool (wordB c)))] else Lf [DV.one (Cell.lit (Value.bool (c == (95 : Int))))] [DV.one (Cell.lit (Value.bool (wordB c)))]) := by kernel_rfl
theorem ok_spec_l1Letter : Holds EE (151, con_spec_l1Letter) := by
  refine holds_of EE_ok Go.Proofs.Try.func151 con_spec_l1Letter (by kernel_rfl) rfl use_spec_l1Letter (all_cons ok_spec_l1In all_nil) ann_spec_l1Letter (fun (c : Int) hp hb => ?_)
  have hb_c : BdDV (U := UU) (.one (.lit (.int .u8 c))) := hb _ (List.mem_cons_self)
  have hp0 : 0 ≤ c ∧ c ≤ 255 := hp _ (List.mem_cons_self)
  clear hp hb
  rw [vc_spec_l1Letter c]
  rw [wrap_i64 (by omega) (by omega)]
  refine if_cond (fun h => Lf_b ?_) (fun h => ?_)
  · grind [wordB, smallB]
  refine if_cond (fun h => Lf_b ?_) (fun h => Lf_b ?_) <;> grind [wordB, smallB]
def con_impl_isWord : Con UU where
  α := ByteArray × Int
  md := [.ro, .ro]
  of := fun | [.one (.lit (.string a0)), .one (.lit (.int .i64 a1))] => some (a0, a1) | _ => none
  ds := fun (s, most) => [.one (.lit (.string s)), .one (.lit (.int .i64 most))]
  pre := fun (s, most) => []
  res := fun (s, most) => ⟨[.one (.lit (.bool (decide (s.size ≤ most) && wordS s)))], true, []⟩
  law := by intro l x h; (try simp only at h); split at h <;> cases h; rfl
def I_impl_isWord_4 (s : ByteArray) (most : Int) : Int × Unit → Prop := fun (i, _) => 0 ≤ i ∧ i ≤ s.size ∧ s.size ≤ most ∧ ((bs s).drop i.toNat).all (byteP wordB) = wordS s
def μ_impl_isWord_4 (s : ByteArray) (most : Int) : Int × Unit → Nat := fun (i, _) => s.size - i.toNat
def ann_impl_isWord : con_impl_isWord.α → Nat → Option (Ann UU) := fun (s, most) => annL [(4, annOf [.slot 5 (5, 1024) (.lit (.int .i64))] (fun _ => I_impl_isWord_4 s most) (μ_impl_isWord_4 s most))]
def use_impl_isWord : List (FuncId × Con UU) := [(192, con_impl_isWordByte)]
theorem vc_impl_isWord (s : ByteArray) (most : Int) : goal EE use_impl_isWord Go.Proofs.Try.f179 con_impl_isWord ann_impl_isWord (s, most) = (bif decide ((↑(ByteArray.size s) : Int) > most) then Lf [DV.one (Cell.lit (Value.bool false))] [DV.one (Cell.lit (Value.bool (decide ((↑(ByteArray.size s) : Int) ≤ most) && wordS s)))] else I_impl_isWord_4 s most ((0 : Int), PUnit.unit) ∧ ∀ (y : Int × PUnit), I_impl_isWord_4 s most y → bif decide (y.1 < (↑(ByteArray.size s) : Int)) then (0 : Int) ≤ y.1 ∧ Int.toNat y.1 < ByteArray.size s ∧ bif !wordB (↑(UInt8.toNat (List.getD (Array.toList (ByteArray.data s)) (Int.toNat y.1) (0 : UInt8))) : Int) then Lf [DV.one (Cell.lit (Value.bool false))] [DV.one (Cell.lit (Value.bool (decide ((↑(ByteArray.size s) : Int) ≤ most) && wordS s)))] else I_impl_isWord_4 s most (IntKind.wrap IntKind.i64 (y.1 + (1 : Int)), PUnit.unit) ∧ μ_impl_isWord_4 s most (IntKind.wrap IntKind.i64 (y.1 + (1 : Int)), PUnit.unit) < μ_impl_isWord_4 s most y else Lf [DV.one (Cell.lit (Value.bool true))] [DV.one (Cell.lit (Value.bool (decide ((↑(ByteArray.size s) : Int) ≤ most) && wordS s)))]) := by kernel_rfl
theorem ok_impl_isWord : Holds EE (179, con_impl_isWord) := by
  refine holds_of EE_ok Go.Proofs.Try.func179 con_impl_isWord (by kernel_rfl) rfl use_impl_isWord (all_cons ok_impl_isWordByte all_nil) ann_impl_isWord (fun x hp hb => ?_)
  obtain ⟨s, most⟩ := x
  have hb_s : BdDV (U := UU) (.one (.lit (.string s))) := hb _ (List.mem_cons_self)
  have hl_s : s.size ≤ 9223372036854775807 := Bd.str hb_s
  have hb_most : BdDV (U := UU) (.one (.lit (.int .i64 most))) := hb _ (List.mem_cons_of_mem _ (List.mem_cons_self))
  have hl_most := Bd.i64 hb_most
  clear hp hb
  rw [vc_impl_isWord s most]
  refine if_cond (fun h => Lf_ff ?_) (fun h => ?_)
  · have h := of_decide_eq_true h; rw [decide_eq_false (by omega)]; rfl
  have h0 := of_decide_eq_false h
  refine ⟨⟨by omega, by omega, by omega, rfl⟩, ?_⟩
  rintro ⟨i, ⟨⟩⟩ ⟨h1, h2, h3, hR⟩
  have hl := bs_len s
  simp only [bs_eq]
  refine if_cond (fun hc => ?_) (fun hc => ?_)
  · have hc := of_decide_eq_true hc
    rw [all_step _ _ 0 h1 (by omega)] at hR
    rw [wrap_i64 (by omega) (by omega)]
    refine ⟨by omega, by omega, if_cond (fun h => Lf_ff ?_) (fun h => ⟨⟨by omega, by omega, by omega, ?_⟩, ?_⟩)⟩
    · rw [← hR]; simp only [byteP]; simp at h; simp [h]
    · rw [← hR]; simp only [byteP]; simp at h; simp [h]
    · simp only [μ_impl_isWord_4]; omega
  · have hc := of_decide_eq_false hc
    rw [drop_end _ (by omega)] at hR
    exact Lf_tt (by rw [← hR, decide_eq_true h3]; rfl)
def con_impl_NameOk : Con UU where
  α := ByteArray
  md := [.ro]
  of := fun | [.one (.lit (.string a0))] => some a0 | _ => none
  ds := fun s => [.one (.lit (.string s))]
  pre := fun s => []
  res := fun s => ⟨[.one (.lit (.bool (nameOk s)))], true, []⟩
  law := by intro l x h; (try simp only at h); split at h <;> cases h; rfl
def ann_impl_NameOk : con_impl_NameOk.α → Nat → Option (Ann UU) := fun s => annL []
def use_impl_NameOk : List (FuncId × Con UU) := [(178, con_impl_isSmall), (179, con_impl_isWord)]
theorem vc_impl_NameOk (s : ByteArray) : goal EE use_impl_NameOk Go.Proofs.Try.f147 con_impl_NameOk ann_impl_NameOk s = (bif decide ((↑(ByteArray.size s) : Int) > (0 : Int)) then (0 : Int) ≤ (0 : Int) ∧ Int.toNat (0 : Int) < ByteArray.size s ∧ bif smallB (↑(UInt8.toNat (List.getD (Array.toList (ByteArray.data s)) (Int.toNat (0 : Int)) (0 : UInt8))) : Int) then Lf [DV.one (Cell.lit (Value.bool (decide ((↑(ByteArray.size s) : Int) ≤ (12 : Int)) && wordS s)))] [DV.one (Cell.lit (Value.bool (nameOk s)))] else Lf [DV.one (Cell.lit (Value.bool false))] [DV.one (Cell.lit (Value.bool (nameOk s)))] else Lf [DV.one (Cell.lit (Value.bool false))] [DV.one (Cell.lit (Value.bool (nameOk s)))]) := by kernel_rfl
theorem ok_impl_NameOk : Holds EE (147, con_impl_NameOk) := by
  refine holds_of EE_ok Go.Proofs.Try.func147 con_impl_NameOk (by kernel_rfl) rfl use_impl_NameOk (all_cons ok_impl_isSmall (all_cons ok_impl_isWord all_nil)) ann_impl_NameOk (fun (s : ByteArray) hp hb => ?_)
  have hb_s : BdDV (U := UU) (.one (.lit (.string s))) := hb _ (List.mem_cons_self)
  have hl_s : s.size ≤ 9223372036854775807 := Bd.str hb_s
  clear hp hb
  rw [vc_impl_NameOk s]
  have hl := bs_len s
  simp only [bs_eq]
  refine if_cond (fun h => ?_) (fun h => Lf_ff ?_)
  · have h := of_decide_eq_true h
    refine ⟨by omega, by omega, if_cond (fun h' => Lf_b ?_) (fun h' => Lf_ff ?_)⟩
    · have h' : smallB ((List.getD (bs s) 0 0).toNat : Int) = true := h'
      simp only [nameOk, h']
      have e : decide (1 ≤ s.size ∧ s.size ≤ 12) = decide ((s.size : Int) ≤ 12) := by rw [decide_eq_decide]; omega
      rw [e]; simp
    · have h' : smallB ((List.getD (bs s) 0 0).toNat : Int) = false := h'
      simp only [nameOk, h']; grind
  · have h := of_decide_eq_false h
    simp only [nameOk]; rw [decide_eq_false (by omega)]; rfl
def con_spec_NameOk : Con UU where
  α := ByteArray
  md := [.ro]
  of := fun | [.one (.lit (.string a0))] => some a0 | _ => none
  ds := fun s => [.one (.lit (.string s))]
  pre := fun s => []
  res := fun s => ⟨[.one (.lit (.bool (nameOk s)))], true, []⟩
  law := by intro l x h; (try simp only at h); split at h <;> cases h; rfl
def I_spec_NameOk_2 (s : ByteArray) : Int × Unit → Prop := fun (i, _) => 0 ≤ i ∧ i ≤ s.size ∧ ((bs s).drop i.toNat).all (byteP wordB) = wordS s ∧ (0 < i → smallB (List.getD (bs s) 0 0).toNat = true)
def μ_spec_NameOk_2 (s : ByteArray) : Int × Unit → Nat := fun (i, _) => s.size - i.toNat
def ann_spec_NameOk : con_spec_NameOk.α → Nat → Option (Ann UU) := fun s => annL [(2, annOf [.slot 3 (3, 1024) (.lit (.int .i64))] (fun _ => I_spec_NameOk_2 s) (μ_spec_NameOk_2 s))]
def use_spec_NameOk : List (FuncId × Con UU) := [(151, con_spec_l1Letter), (69, con_spec_l1In)]
theorem vc_spec_NameOk (s : ByteArray) : goal EE use_spec_NameOk Go.Proofs.Try.f78 con_spec_NameOk ann_spec_NameOk s = (I_spec_NameOk_2 s ((0 : Int), PUnit.unit) ∧ ∀ (y : Int × PUnit), I_spec_NameOk_2 s y → bif decide (y.1 < (↑(ByteArray.size s) : Int)) then (0 : Int) ≤ y.1 ∧ Int.toNat y.1 < ByteArray.size s ∧ ((0 : Int) ≤ (↑(UInt8.toNat (List.getD (Array.toList (ByteArray.data s)) (Int.toNat y.1) (0 : UInt8))) : Int) ∧ (↑(UInt8.toNat (List.getD (Array.toList (ByteArray.data s)) (Int.toNat y.1) (0 : UInt8))) : Int) ≤ (255 : Int)) ∧ bif !wordB (↑(UInt8.toNat (List.getD (Array.toList (ByteArray.data s)) (Int.toNat y.1) (0 : UInt8))) : Int) then Lf [DV.one (Cell.lit (Value.bool false))] [DV.one (Cell.lit (Value.bool (nameOk s)))] else bif y.1 == (0 : Int) then (0 : Int) ≤ y.1 ∧ Int.toNat y.1 < ByteArray.size s ∧ bif !decide ((97 : Int) ≤ IntKind.wrap IntKind.i64 (↑(UInt8.toNat (List.getD (Array.toList (ByteArray.data s)) (Int.toNat y.1) (0 : UInt8))) : Int) ∧ IntKind.wrap IntKind.i64 (↑(UInt8.toNat (List.getD (Array.toList (ByteArray.data s)) (Int.toNat y.1) (0 : UInt8))) : Int) ≤ (122 : Int)) then Lf [DV.one (Cell.lit (Value.bool false))] [DV.one (Cell.lit (Value.bool (nameOk s)))] else I_spec_NameOk_2 s (IntKind.wrap IntKind.i64 (y.1 + (1 : Int)), PUnit.unit) ∧ μ_spec_NameOk_2 s (IntKind.wrap IntKind.i64 (y.1 + (1 : Int)), PUnit.unit) < μ_spec_NameOk_2 s y else I_spec_NameOk_2 s (IntKind.wrap IntKind.i64 (y.1 + (1 : Int)), PUnit.unit) ∧ μ_spec_NameOk_2 s (IntKind.wrap IntKind.i64 (y.1 + (1 : Int)), PUnit.unit) < μ_spec_NameOk_2 s y else Lf [DV.one (Cell.lit (Value.bool (decide ((1 : Int) ≤ (↑(ByteArray.size s) : Int) ∧ (↑(ByteArray.size s) : Int) ≤ (12 : Int)))))] [DV.one (Cell.lit (Value.bool (nameOk s)))]) := by kernel_rfl
theorem ok_spec_NameOk : Holds EE (78, con_spec_NameOk) := by
  refine holds_of EE_ok Go.Proofs.Try.func78 con_spec_NameOk (by kernel_rfl) rfl use_spec_NameOk (all_cons ok_spec_l1Letter (all_cons ok_spec_l1In all_nil)) ann_spec_NameOk (fun (s : ByteArray) hp hb => ?_)
  have hb_s : BdDV (U := UU) (.one (.lit (.string s))) := hb _ (List.mem_cons_self)
  have hl_s : s.size ≤ 9223372036854775807 := Bd.str hb_s
  clear hp hb
  rw [vc_spec_NameOk s]
  refine ⟨⟨by omega, by omega, rfl, by omega⟩, ?_⟩
  rintro ⟨i, ⟨⟩⟩ ⟨h1, h2, hR, hS⟩
  have hl := bs_len s
  simp only [bs_eq, u8_i64]
  refine if_cond (fun hc => ?_) (fun hc => ?_)
  · have hc := of_decide_eq_true hc
    have hb := (List.getD (bs s) i.toNat 0).toNat_lt
    rw [all_step _ _ 0 h1 (by omega)] at hR
    rw [wrap_i64 (by omega) (by omega)]
    have hN : wordS s = false → nameOk s = false := fun h => by simp [nameOk, h]
    refine ⟨by omega, by omega, ⟨by omega, by omega⟩, if_cond (fun h => Lf_ff (hN ?_)) (fun h => if_cond (fun h' => ⟨by omega, by omega, if_cond (fun h'' => Lf_ff ?_) (fun h'' => ⟨⟨by omega, by omega, ?_, fun _ => ?_⟩, ?_⟩)⟩) (fun h' => ⟨⟨by omega, by omega, ?_, fun _ => hS ?_⟩, ?_⟩))⟩
    · rw [← hR]; simp only [byteP]; simp at h; simp [h]
    · have h' : i = 0 := by simpa using h'
      subst h'
      have h'' : smallB ((List.getD (bs s) 0 0).toNat : Int) = false := by simp only [smallB]; grind
      simp only [nameOk, h'']; grind
    · rw [← hR]; simp only [byteP]; simp at h; simp [h]
    · have h' : i = 0 := by simpa using h'
      subst h'
      simpa [smallB] using h''
    · simp only [μ_spec_NameOk_2]; omega
    · rw [← hR]; simp only [byteP]; simp at h; simp [h]
    · have h' : ¬ i = 0 := by simpa using h'
      omega
    · simp only [μ_spec_NameOk_2]; omega
  · have hc := of_decide_eq_false hc
    rw [drop_end _ (by omega)] at hR
    refine Lf_b ?_
    simp only [nameOk, ← hR]
    by_cases hz : 0 < i
    · rw [hS hz]; simp only [List.all_nil]; grind
    · rw [decide_eq_false (by omega), decide_eq_false (by omega)]; rfl
def con_spec_l2Plain : Con UU where
  α := ByteArray
  md := [.ro]
  of := fun | [.one (.lit (.string a0))] => some a0 | _ => none
  ds := fun s => [.one (.lit (.string s))]
  pre := fun s => []
  res := fun s => ⟨[.one (.lit (.bool (decide (s.size ≤ 20) && wordS s)))], true, []⟩
  law := by intro l x h; (try simp only at h); split at h <;> cases h; rfl
def I_spec_l2Plain_2 (s : ByteArray) : Int × Unit → Prop := fun (i, _) => 0 ≤ i ∧ i ≤ s.size ∧ ((bs s).drop i.toNat).all (byteP wordB) = wordS s
def μ_spec_l2Plain_2 (s : ByteArray) : Int × Unit → Nat := fun (i, _) => s.size - i.toNat
def ann_spec_l2Plain : con_spec_l2Plain.α → Nat → Option (Ann UU) := fun s => annL [(2, annOf [.slot 3 (3, 1024) (.lit (.int .i64))] (fun _ => I_spec_l2Plain_2 s) (μ_spec_l2Plain_2 s))]
def use_spec_l2Plain : List (FuncId × Con UU) := [(151, con_spec_l1Letter)]
theorem vc_spec_l2Plain (s : ByteArray) : goal EE use_spec_l2Plain Go.Proofs.Try.f152 con_spec_l2Plain ann_spec_l2Plain s = (I_spec_l2Plain_2 s ((0 : Int), PUnit.unit) ∧ ∀ (y : Int × PUnit), I_spec_l2Plain_2 s y → bif decide (y.1 < (↑(ByteArray.size s) : Int)) then (0 : Int) ≤ y.1 ∧ Int.toNat y.1 < ByteArray.size s ∧ ((0 : Int) ≤ (↑(UInt8.toNat (List.getD (Array.toList (ByteArray.data s)) (Int.toNat y.1) (0 : UInt8))) : Int) ∧ (↑(UInt8.toNat (List.getD (Array.toList (ByteArray.data s)) (Int.toNat y.1) (0 : UInt8))) : Int) ≤ (255 : Int)) ∧ bif !wordB (↑(UInt8.toNat (List.getD (Array.toList (ByteArray.data s)) (Int.toNat y.1) (0 : UInt8))) : Int) then Lf [DV.one (Cell.lit (Value.bool false))] [DV.one (Cell.lit (Value.bool (decide (ByteArray.size s ≤ (20 : Nat)) && wordS s)))] else I_spec_l2Plain_2 s (IntKind.wrap IntKind.i64 (y.1 + (1 : Int)), PUnit.unit) ∧ μ_spec_l2Plain_2 s (IntKind.wrap IntKind.i64 (y.1 + (1 : Int)), PUnit.unit) < μ_spec_l2Plain_2 s y else Lf [DV.one (Cell.lit (Value.bool (decide ((↑(ByteArray.size s) : Int) ≤ (20 : Int)))))] [DV.one (Cell.lit (Value.bool (decide (ByteArray.size s ≤ (20 : Nat)) && wordS s)))]) := by kernel_rfl
theorem ok_spec_l2Plain : Holds EE (152, con_spec_l2Plain) := by
  refine holds_of EE_ok Go.Proofs.Try.func152 con_spec_l2Plain (by kernel_rfl) rfl use_spec_l2Plain (all_cons ok_spec_l1Letter all_nil) ann_spec_l2Plain (fun (s : ByteArray) hp hb => ?_)
  have hb_s : BdDV (U := UU) (.one (.lit (.string s))) := hb _ (List.mem_cons_self)
  have hl_s : s.size ≤ 9223372036854775807 := Bd.str hb_s
  clear hp hb
  rw [vc_spec_l2Plain s]
  refine ⟨⟨by omega, by omega, rfl⟩, ?_⟩
  rintro ⟨i, ⟨⟩⟩ ⟨h1, h2, hR⟩
  have hl := bs_len s
  simp only [bs_eq]
  refine if_cond (fun hc => ?_) (fun hc => ?_)
  · have hc := of_decide_eq_true hc
    have hb := (List.getD (bs s) i.toNat 0).toNat_lt
    rw [all_step _ _ 0 h1 (by omega)] at hR
    rw [wrap_i64 (by omega) (by omega)]
    refine ⟨by omega, by omega, ⟨by omega, by omega⟩, if_cond (fun h => Lf_ff ?_) (fun h => ⟨⟨by omega, by omega, ?_⟩, ?_⟩)⟩
    · rw [← hR]; simp only [byteP]; simp at h; simp [h]
    · rw [← hR]; simp only [byteP]; simp at h; simp [h]
    · simp only [μ_spec_l2Plain_2]; omega
  · have hc := of_decide_eq_false hc
    rw [drop_end _ (by omega)] at hR
    refine Lf_b ?_
    rw [← hR]; simp; omega
def con_impl_ValOk : Con UU where
  α := DVal
  md := [.ro]
  of := fun | [.agg [.lit (.int .i64 a0), .lit (.int .i64 a1), .lit (.string a2)]] => some ⟨a0, a1, a2⟩ | _ => none
  ds := fun v => [.agg [.lit (.int .i64 v.K), .lit (.int .i64 v.N), .lit (.string v.S)]]
  pre := fun v => []
  res := fun v => ⟨[.one (.lit (.bool (valOk v)))], true, []⟩
  law := by intro l x h; (try simp only at h); split at h <;> cases h; rfl
def ann_impl_ValOk : con_impl_ValOk.α → Nat → Option (Ann UU) := fun v => annL []
def use_impl_ValOk : List (FuncId × Con UU) := [(146, con_impl_inRange), (179, con_impl_isWord)]
theorem vc_impl_ValOk (v : DVal) : goal EE use_impl_ValOk Go.Proofs.Try.f148 con_impl_ValOk ann_impl_ValOk v = (bif DVal.K v == (1 : Int) then bif decide ((-1000000000 : Int) ≤ DVal.N v ∧ DVal.N v ≤ (1000000000 : Int)) then Lf [DV.one (Cell.lit (Value.bool (ByteArray.toList (DVal.S v) == ByteArray.toList { data := #[] })))] [DV.one (Cell.lit (Value.bool (valOk v)))] else Lf [DV.one (Cell.lit (Value.bool false))] [DV.one (Cell.lit (Value.bool (valOk v)))] else bif DVal.K v == (2 : Int) then bif DVal.N v == (0 : Int) then Lf [DV.one (Cell.lit (Value.bool (decide ((↑(ByteArray.size (DVal.S v)) : Int) ≤ (20 : Int)) && wordS (DVal.S v))))] [DV.one (Cell.lit (Value.bool (valOk v)))] else Lf [DV.one (Cell.lit (Value.bool false))] [DV.one (Cell.lit (Value.bool (valOk v)))] else Lf [DV.one (Cell.lit (Value.bool false))] [DV.one (Cell.lit (Value.bool (valOk v)))]) := by kernel_rfl
theorem ok_impl_ValOk : Holds EE (148, con_impl_ValOk) := by
  refine holds_of EE_ok Go.Proofs.Try.func148 con_impl_ValOk (by kernel_rfl) rfl use_impl_ValOk (all_cons ok_impl_inRange (all_cons ok_impl_isWord all_nil)) ann_impl_ValOk (fun (v : DVal) hp hb => ?_)
  have hb_v : BdDV (U := UU) (.agg [.lit (.int .i64 v.K), .lit (.int .i64 v.N), .lit (.string v.S)]) := hb _ (List.mem_cons_self)
  have hl_v_S : v.S.size ≤ 9223372036854775807 := Bd.str (hb_v _ (by simp))
  clear hp hb
  rw [vc_impl_ValOk v]
  have e : (ByteArray.toList (DVal.S v) == ByteArray.toList { data := #[] }) = decide (v.S = noBytes) := toList_beq _ _
  simp only [e, valOk]
  repeat' (refine if_cond (fun h => ?_) (fun h => ?_))
  all_goals (refine Lf_b ?_; grind)
def con_spec_ValOk : Con UU where
  α := DVal
  md := [.ro]
  of := fun | [.agg [.lit (.int .i64 a0), .lit (.int .i64 a1), .lit (.string a2)]] => some ⟨a0, a1, a2⟩ | _ => none
  ds := fun v => [.agg [.lit (.int .i64 v.K), .lit (.int .i64 v.N), .lit (.string v.S)]]
  pre := fun v => []
  res := fun v => ⟨[.one (.lit (.bool (valOk v)))], true, []⟩
  law := by intro l x h; (try simp only at h); split at h <;> cases h; rfl
def ann_spec_ValOk : con_spec_ValOk.α → Nat → Option (Ann UU) := fun v => annL []
def use_spec_ValOk : List (FuncId × Con UU) := [(69, con_spec_l1In), (152, con_spec_l2Plain)]
theorem vc_spec_ValOk (v : DVal) : goal EE use_spec_ValOk Go.Proofs.Try.f79 con_spec_ValOk ann_spec_ValOk v = (bif DVal.K v == (1 : Int) then bif decide ((-1000000000 : Int) ≤ DVal.N v ∧ DVal.N v ≤ (1000000000 : Int)) then Lf [DV.one (Cell.lit (Value.bool (ByteArray.toList (DVal.S v) == ByteArray.toList { data := #[] })))] [DV.one (Cell.lit (Value.bool (valOk v)))] else Lf [DV.one (Cell.lit (Value.bool false))] [DV.one (Cell.lit (Value.bool (valOk v)))] else bif DVal.K v == (2 : Int) then bif decide (ByteArray.size (DVal.S v) ≤ (20 : Nat)) && wordS (DVal.S v) then Lf [DV.one (Cell.lit (Value.bool (DVal.N v == (0 : Int))))] [DV.one (Cell.lit (Value.bool (valOk v)))] else Lf [DV.one (Cell.lit (Value.bool false))] [DV.one (Cell.lit (Value.bool (valOk v)))] else Lf [DV.one (Cell.lit (Value.bool false))] [DV.one (Cell.lit (Value.bool (valOk v)))]) := by kernel_rfl
theorem ok_spec_ValOk : Holds EE (79, con_spec_ValOk) := by
  refine holds_of EE_ok Go.Proofs.Try.func79 con_spec_ValOk (by kernel_rfl) rfl use_spec_ValOk (all_cons ok_spec_l1In (all_cons ok_spec_l2Plain all_nil)) ann_spec_ValOk (fun (v : DVal) hp hb => ?_)
  have hb_v : BdDV (U := UU) (.agg [.lit (.int .i64 v.K), .lit (.int .i64 v.N), .lit (.string v.S)]) := hb _ (List.mem_cons_self)
  have hl_v_S : v.S.size ≤ 9223372036854775807 := Bd.str (hb_v _ (by simp))
  clear hp hb
  rw [vc_spec_ValOk v]
  have e : (ByteArray.toList (DVal.S v) == ByteArray.toList { data := #[] }) = decide (v.S = noBytes) := toList_beq _ _
  simp only [e, valOk]
  repeat' (refine if_cond (fun h => ?_) (fun h => ?_))
  all_goals (refine Lf_b ?_; grind)
def con_spec_l3Vals : Con UU where
  α := (List DVal)
  md := [.ro]
  of := fun | [.one (.sl .eVal a0)] => some a0 | _ => none
  ds := fun l => [.one (.sl .eVal l)]
  pre := fun l => []
  res := fun l => ⟨[.one (.lit (.bool (decide (l.length ≤ 5) && l.all valOk)))], true, []⟩
  law := by intro l x h; (try simp only at h); split at h <;> cases h; rfl
def I_spec_l3Vals_2 (l : (List DVal)) : Int × Unit → Prop := fun (i, _) => 0 ≤ i ∧ i ≤ l.length ∧ (l.drop i.toNat).all valOk = l.all valOk
def μ_spec_l3Vals_2 (l : (List DVal)) : Int × Unit → Nat := fun (i, _) => l.length - i.toNat
def ann_spec_l3Vals : con_spec_l3Vals.α → Nat → Option (Ann UU) := fun l => annL [(2, annOf [.slot 3 (3, 1024) (.lit (.int .i64))] (fun _ => I_spec_l3Vals_2 l) (μ_spec_l3Vals_2 l))]
def use_spec_l3Vals : List (FuncId × Con UU) := [(79, con_spec_ValOk)]
theorem vc_spec_l3Vals (l : (List DVal)) : goal EE use_spec_l3Vals Go.Proofs.Try.f145 con_spec_l3Vals ann_spec_l3Vals l = (I_spec_l3Vals_2 l ((0 : Int), PUnit.unit) ∧ ∀ (y : Int × PUnit), I_spec_l3Vals_2 l y → bif decide (y.1 < (↑(List.length l) : Int)) then (0 : Int) ≤ y.1 ∧ Int.toNat y.1 < List.length l ∧ bif !valOk (List.getD l (Int.toNat y.1) zVal) then Lf [DV.one (Cell.lit (Value.bool false))] [DV.one (Cell.lit (Value.bool (decide (List.length l ≤ (5 : Nat)) && List.all l valOk)))] else I_spec_l3Vals_2 l (IntKind.wrap IntKind.i64 (y.1 + (1 : Int)), PUnit.unit) ∧ μ_spec_l3Vals_2 l (IntKind.wrap IntKind.i64 (y.1 + (1 : Int)), PUnit.unit) < μ_spec_l3Vals_2 l y else Lf [DV.one (Cell.lit (Value.bool (decide ((↑(List.length l) : Int) ≤ (5 : Int)))))] [DV.one (Cell.lit (Value.bool (decide (List.length l ≤ (5 : Nat)) && List.all l valOk)))]) := by kernel_rfl
theorem ok_spec_l3Vals : Holds EE (145, con_spec_l3Vals) := by
  refine holds_of EE_ok Go.Proofs.Try.func145 con_spec_l3Vals (by kernel_rfl) rfl use_spec_l3Vals (all_cons ok_spec_ValOk all_nil) ann_spec_l3Vals (fun (l : (List DVal)) hp hb => ?_)
  have hb_l : BdDV (U := UU) (.one (.sl .eVal l)) := hb _ (List.mem_cons_self)
  have hl_l : l.length ≤ 9223372036854775807 := Bd.len hb_l
  clear hp hb
  rw [vc_spec_l3Vals l]
  refine ⟨⟨by omega, by omega, rfl⟩, ?_⟩
  rintro ⟨i, ⟨⟩⟩ ⟨h1, h2, hR⟩
  simp only
  refine if_cond (fun hc => ?_) (fun hc => ?_)
  · have hc := of_decide_eq_true hc
    rw [all_step _ _ zVal h1 (by omega)] at hR
    rw [wrap_i64 (by omega) (by omega)]
    refine ⟨by omega, by omega, if_cond (fun h => Lf_ff ?_) (fun h => ⟨⟨by omega, by omega, ?_⟩, ?_⟩)⟩
    · rw [← hR]; simp at h; simp [h]
    · rw [← hR]; simp at h; simp [h]
    · simp only [μ_spec_l3Vals_2]; omega
  · have hc := of_decide_eq_false hc
    rw [drop_end _ (by omega)] at hR
    refine Lf_b ?_
    rw [← hR]; simp; omega
def con_spec_FactOk : Con UU where
  α := DFact
  md := [.ro]
  of := fun | [.agg [.lit (.string a0), .sl .eVal a1]] => some ⟨a0, a1⟩ | _ => none
  ds := fun f => [.agg [.lit (.string f.Kind), .sl .eVal f.Fields]]
  pre := fun f => []
  res := fun f => ⟨[.one (.lit (.bool (factOk f)))], true, []⟩
  law := by intro l x h; (try simp only at h); split at h <;> cases h; rfl
def ann_spec_FactOk : con_spec_FactOk.α → Nat → Option (Ann UU) := fun f => annL []
def use_spec_FactOk : List (FuncId × Con UU) := [(78, con_spec_NameOk), (145, con_spec_l3Vals)]
theorem vc_spec_FactOk (f : DFact) : goal EE use_spec_FactOk Go.Proofs.Try.f70 con_spec_FactOk ann_spec_FactOk f = (bif nameOk (DFact.Kind f) then Lf [DV.one (Cell.lit (Value.bool (decide (List.length (DFact.Fields f) ≤ (5 : Nat)) && List.all (DFact.Fields f) valOk)))] [DV.one (Cell.lit (Value.bool (factOk f)))] else Lf [DV.one (Cell.lit (Value.bool false))] [DV.one (Cell.lit (Value.bool (factOk f)))]) := by kernel_rfl
theorem ok_spec_FactOk : Holds EE (70, con_spec_FactOk) := by
  refine holds_of EE_ok Go.Proofs.Try.func70 con_spec_FactOk (by kernel_rfl) rfl use_spec_FactOk (all_cons ok_spec_NameOk (all_cons ok_spec_l3Vals all_nil)) ann_spec_FactOk (fun (f : DFact) hp hb => ?_)
  have hb_f : BdDV (U := UU) (.agg [.lit (.string f.Kind), .sl .eVal f.Fields]) := hb _ (List.mem_cons_self)
  have hl_f_Kind : f.Kind.size ≤ 9223372036854775807 := Bd.str (hb_f _ (by simp))
  have hl_f_Fields : f.Fields.length ≤ 9223372036854775807 := Bd.len (U := UU) (τ := .eVal) (xs := f.Fields) (hb_f _ (by simp))
  clear hp hb
  rw [vc_spec_FactOk f]
  simp only [factOk]
  refine if_cond (fun h => Lf_b ?_) (fun h => Lf_b ?_) <;> grind
def con_impl_FactOk : Con UU where
  α := DFact
  md := [.ro]
  of := fun | [.agg [.lit (.string a0), .sl .eVal a1]] => some ⟨a0, a1⟩ | _ => none
  ds := fun f => [.agg [.lit (.string f.Kind), .sl .eVal f.Fields]]
  pre := fun f => []
  res := fun f => ⟨[.one (.lit (.bool (factOk f)))], true, []⟩
  law := by intro l x h; (try simp only at h); split at h <;> cases h; rfl
def I_impl_FactOk_4 (f : DFact) : Int × Unit → Prop := fun (i, _) => 0 ≤ i ∧ i ≤ f.Fields.length ∧ f.Fields.length ≤ 5 ∧ nameOk f.Kind = true ∧ (f.Fields.drop i.toNat).all valOk = f.Fields.all valOk
def μ_impl_FactOk_4 (f : DFact) : Int × Unit → Nat := fun (i, _) => f.Fields.length - i.toNat
def ann_impl_FactOk : con_impl_FactOk.α → Nat → Option (Ann UU) := fun f => annL [(4, annOf [.slot 18 (18, 1024) (.lit (.int .i64))] (fun _ => I_impl_FactOk_4 f) (μ_impl_FactOk_4 f))]
def use_impl_FactOk : List (FuncId × Con UU) := [(147, con_impl_NameOk), (148, con_impl_ValOk)]
theorem vc_impl_FactOk (f : DFact) : goal EE use_impl_FactOk Go.Proofs.Try.f73 con_impl_FactOk ann_impl_FactOk f = (bif !nameOk (DFact.Kind f) then Lf [DV.one (Cell.lit (Value.bool false))] [DV.one (Cell.lit (Value.bool (factOk f)))] else bif decide ((↑(List.length (DFact.Fields f)) : Int) > (5 : Int)) then Lf [DV.one (Cell.lit (Value.bool false))] [DV.one (Cell.lit (Value.bool (factOk f)))] else I_impl_FactOk_4 f ((0 : Int), PUnit.unit) ∧ ∀ (y : Int × PUnit), I_impl_FactOk_4 f y → bif decide (y.1 < (↑(List.length (DFact.Fields f)) : Int)) then (0 : Int) ≤ y.1 ∧ Int.toNat y.1 < List.length (DFact.Fields f) ∧ bif !valOk (List.getD (DFact.Fields f) (Int.toNat y.1) zVal) then Lf [DV.one (Cell.lit (Value.bool false))] [DV.one (Cell.lit (Value.bool (factOk f)))] else I_impl_FactOk_4 f (IntKind.wrap IntKind.i64 (y.1 + (1 : Int)), PUnit.unit) ∧ μ_impl_FactOk_4 f (IntKind.wrap IntKind.i64 (y.1 + (1 : Int)), PUnit.unit) < μ_impl_FactOk_4 f y else Lf [DV.one (Cell.lit (Value.bool true))] [DV.one (Cell.lit (Value.bool (factOk f)))]) := by kernel_rfl
theorem ok_impl_FactOk : Holds EE (73, con_impl_FactOk) := by
  refine holds_of EE_ok Go.Proofs.Try.func73 con_impl_FactOk (by kernel_rfl) rfl use_impl_FactOk (all_cons ok_impl_NameOk (all_cons ok_impl_ValOk all_nil)) ann_impl_FactOk (fun (f : DFact) hp hb => ?_)
  have hb_f : BdDV (U := UU) (.agg [.lit (.string f.Kind), .sl .eVal f.Fields]) := hb _ (List.mem_cons_self)
  have hl_f_Kind : f.Kind.size ≤ 9223372036854775807 := Bd.str (hb_f _ (by simp))
  have hl_f_Fields : f.Fields.length ≤ 9223372036854775807 := Bd.len (U := UU) (τ := .eVal) (xs := f.Fields) (hb_f _ (by simp))
  clear hp hb
  rw [vc_impl_FactOk f]
  refine if_cond (fun h => Lf_b ?_) (fun h => if_cond (fun h' => Lf_b ?_) (fun h' => ⟨⟨by omega, by omega, by simp at h'; omega, by simpa using h, rfl⟩, ?_⟩))
  · simp only [factOk]; grind
  · simp only [factOk]; grind
  rintro ⟨i, ⟨⟩⟩ ⟨h1, h2, h3, h4, hR⟩
  simp only
  refine if_cond (fun hc => ?_) (fun hc => ?_)
  · have hc := of_decide_eq_true hc
    rw [all_step _ _ zVal h1 (by omega)] at hR
    rw [wrap_i64 (by omega) (by omega)]
    refine ⟨by omega, by omega, if_cond (fun h => Lf_ff ?_) (fun h => ⟨⟨by omega, by omega, by omega, h4, ?_⟩, ?_⟩)⟩
    · simp only [factOk]; rw [← hR]; simp at h; simp [h]
    · rw [← hR]; simp at h; simp [h]
    · simp only [μ_impl_FactOk_4]; omega
  · have hc := of_decide_eq_false hc
    rw [drop_end _ (by omega)] at hR
    refine Lf_b ?_
    simp only [factOk, ← hR, h4]; simp; omega
end
end AM
