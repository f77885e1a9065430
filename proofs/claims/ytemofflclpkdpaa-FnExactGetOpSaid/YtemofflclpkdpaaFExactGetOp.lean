/- Functions of the program with their contracts: put together by gen/link.py for FnExactGetOp. -/
import Derived.Test.YtemofflclpkdpaaAmLib
import Derived.Test.YtemofflclpkdpaaAmModels
namespace AM
open Go
set_option linter.unusedVariables false
set_option linter.unusedSimpArgs false
set_option maxRecDepth 100000
noncomputable section
def smallB (b : Int) : Bool := decide (97 ≤ b ∧ b ≤ 122)
def wordB (b : Int) : Bool := smallB b || decide (48 ≤ b ∧ b ≤ 57) || decide (b = 95)
def wordS (s : ByteArray) : Bool := (bs s).all (byteP wordB)
def nameOk (s : ByteArray) : Bool := decide (1 ≤ s.size ∧ s.size ≤ 12) && smallB (List.getD (bs s) 0 0).toNat && wordS s
def valOk (v : DVal) : Bool := bif decide (v.K = 1) then decide (-1000000000 ≤ v.N ∧ v.N ≤ 1000000000) && decide (v.S = noBytes) else bif decide (v.K = 2) then decide (v.N = 0) && decide (v.S.size ≤ 20) && wordS v.S else false
def factOk (f : DFact) : Bool := nameOk f.Kind && decide (f.Fields.length ≤ 5) && f.Fields.all valOk
def con_impl_inRange : Con UU where
  α := Int × Int × Int
  md := [.ro, .ro, .ro]
  of := fun | [.one (.lit (.int .i64 a0)), .one (.lit (.int .i64 a1)), .one (.lit (.int .i64 a2))] => some (a0, a1, a2) | _ => none
  ds := fun (n, least, most) => [.one (.lit (.int .i64 n)), .one (.lit (.int .i64 least)), .one (.lit (.int .i64 most))]
  pre := fun (n, least, most) => []
  res := fun (n, least, most) => ⟨[.one (.lit (.bool (decide (least ≤ n ∧ n ≤ most))))], true, []⟩
  law := by intro l x h; (try simp only at h); split at h <;> cases h; rfl
def ann_impl_inRange : con_impl_inRange.α → Nat → Option (Ann UU) := fun (n, least, most) => annL []
def use_impl_inRange : List (FuncId × Con UU) := []
theorem vc_impl_inRange (n : Int) (least : Int) (most : Int) : goal EE use_impl_inRange Go.Proofs.Try.f40 con_impl_inRange ann_impl_inRange (n, least, most) = (bif decide (n ≥ least) then Lf [DV.one (Cell.lit (Value.bool (decide (n ≤ most))))] [DV.one (Cell.lit (Value.bool (decide (least ≤ n ∧ n ≤ most))))] else Lf [DV.one (Cell.lit (Value.bool false))] [DV.one (Cell.lit (Value.bool (decide (least ≤ n ∧ n ≤ most))))]) := by kernel_rfl
theorem ok_impl_inRange : Holds EE (40, con_impl_inRange) := by
  refine holds_of EE_ok Go.Proofs.Try.func40 con_impl_inRange (by kernel_rfl) use_impl_inRange all_nil ann_impl_inRange (fun x hp hb => ?_)
  obtain ⟨n, least, most⟩ := x
  have hb_n : BdDV (U := UU) (.one (.lit (.int .i64 n))) := hb _ (List.mem_cons_self)
  have hl_n := Bd.i64 hb_n
  have hb_least : BdDV (U := UU) (.one (.lit (.int .i64 least))) := hb _ (List.mem_cons_of_mem _ (List.mem_cons_self))
  have hl_least := Bd.i64 hb_least
  have hb_most : BdDV (U := UU) (.one (.lit (.int .i64 most))) := hb _ (List.mem_cons_of_mem _ (List.mem_cons_of_mem _ (List.mem_cons_self)))
  have hl_most := Bd.i64 hb_most
  clear hp hb
  rw [vc_impl_inRange n least most]
  refine if_cond (fun h => Lf_b ?_) (fun h => Lf_b ?_) <;> grind
def con_spec_l1In : Con UU where
  α := Int × Int × Int
  md := [.ro, .ro, .ro]
  of := fun | [.one (.lit (.int .i64 a0)), .one (.lit (.int .i64 a1)), .one (.lit (.int .i64 a2))] => some (a0, a1, a2) | _ => none
  ds := fun (x, least, most) => [.one (.lit (.int .i64 x)), .one (.lit (.int .i64 least)), .one (.lit (.int .i64 most))]
  pre := fun (x, least, most) => []
  res := fun (x, least, most) => ⟨[.one (.lit (.bool (decide (least ≤ x ∧ x ≤ most))))], true, []⟩
  law := by intro l x h; (try simp only at h); split at h <;> cases h; rfl
def ann_spec_l1In : con_spec_l1In.α → Nat → Option (Ann UU) := fun (x, least, most) => annL []
def use_spec_l1In : List (FuncId × Con UU) := []
theorem vc_spec_l1In (x : Int) (least : Int) (most : Int) : goal EE use_spec_l1In Go.Proofs.Try.f32 con_spec_l1In ann_spec_l1In (x, least, most) = (bif decide (x ≥ least) then Lf [DV.one (Cell.lit (Value.bool (decide (x ≤ most))))] [DV.one (Cell.lit (Value.bool (decide (least ≤ x ∧ x ≤ most))))] else Lf [DV.one (Cell.lit (Value.bool false))] [DV.one (Cell.lit (Value.bool (decide (least ≤ x ∧ x ≤ most))))]) := by kernel_rfl
theorem ok_spec_l1In : Holds EE (32, con_spec_l1In) := by
  refine holds_of EE_ok Go.Proofs.Try.func32 con_spec_l1In (by kernel_rfl) use_spec_l1In all_nil ann_spec_l1In (fun x hp hb => ?_)
  obtain ⟨x, least, most⟩ := x
  have hb_x : BdDV (U := UU) (.one (.lit (.int .i64 x))) := hb _ (List.mem_cons_self)
  have hl_x := Bd.i64 hb_x
  have hb_least : BdDV (U := UU) (.one (.lit (.int .i64 least))) := hb _ (List.mem_cons_of_mem _ (List.mem_cons_self))
  have hl_least := Bd.i64 hb_least
  have hb_most : BdDV (U := UU) (.one (.lit (.int .i64 most))) := hb _ (List.mem_cons_of_mem _ (List.mem_cons_of_mem _ (List.mem_cons_self)))
  have hl_most := Bd.i64 hb_most
  clear hp hb
  rw [vc_spec_l1In x least most]
  refine if_cond (fun h => Lf_b ?_) (fun h => Lf_b ?_) <;> grind
def con_impl_isSmall : Con UU where
  α := Int
  md := [.ro]
  of := fun | [.one (.lit (.int .u8 a0))] => some a0 | _ => none
  ds := fun b => [.one (.lit (.int .u8 b))]
  pre := fun b => []
  res := fun b => ⟨[.one (.lit (.bool (smallB b)))], true, []⟩
  law := by intro l x h; (try simp only at h); split at h <;> cases h; rfl
def ann_impl_isSmall : con_impl_isSmall.α → Nat → Option (Ann UU) := fun b => annL []
def use_impl_isSmall : List (FuncId × Con UU) := []
theorem vc_impl_isSmall (b : Int) : goal EE use_impl_isSmall Go.Proofs.Try.f60 con_impl_isSmall ann_impl_isSmall b = (bif decide (b ≥ (97 : Int)) then Lf [DV.one (Cell.lit (Value.bool (decide (b ≤ (122 : Int)))))] [DV.one (Cell.lit (Value.bool (smallB b)))] else Lf [DV.one (Cell.lit (Value.bool false))] [DV.one (Cell.lit (Value.bool (smallB b)))]) := by kernel_rfl
theorem ok_impl_isSmall : Holds EE (60, con_impl_isSmall) := by
  refine holds_of EE_ok Go.Proofs.Try.func60 con_impl_isSmall (by kernel_rfl) use_impl_isSmall all_nil ann_impl_isSmall (fun (b : Int) hp hb => ?_)
  have hb_b : BdDV (U := UU) (.one (.lit (.int .u8 b))) := hb _ (List.mem_cons_self)
  clear hp hb
  rw [vc_impl_isSmall b]
  refine if_cond (fun h => Lf_b ?_) (fun h => Lf_b ?_) <;> grind [smallB]
def con_impl_isDigit : Con UU where
  α := Int
  md := [.ro]
  of := fun | [.one (.lit (.int .u8 a0))] => some a0 | _ => none
  ds := fun b => [.one (.lit (.int .u8 b))]
  pre := fun b => []
  res := fun b => ⟨[.one (.lit (.bool (decide (48 ≤ b ∧ b ≤ 57))))], true, []⟩
  law := by intro l x h; (try simp only at h); split at h <;> cases h; rfl
def ann_impl_isDigit : con_impl_isDigit.α → Nat → Option (Ann UU) := fun b => annL []
def use_impl_isDigit : List (FuncId × Con UU) := []
theorem vc_impl_isDigit (b : Int) : goal EE use_impl_isDigit Go.Proofs.Try.f62 con_impl_isDigit ann_impl_isDigit b = (bif decide (b ≥ (48 : Int)) then Lf [DV.one (Cell.lit (Value.bool (decide (b ≤ (57 : Int)))))] [DV.one (Cell.lit (Value.bool (decide ((48 : Int) ≤ b ∧ b ≤ (57 : Int)))))] else Lf [DV.one (Cell.lit (Value.bool false))] [DV.one (Cell.lit (Value.bool (decide ((48 : Int) ≤ b ∧ b ≤ (57 : Int)))))]) := by kernel_rfl
theorem ok_impl_isDigit : Holds EE (62, con_impl_isDigit) := by
  refine holds_of EE_ok Go.Proofs.Try.func62 con_impl_isDigit (by kernel_rfl) use_impl_isDigit all_nil ann_impl_isDigit (fun (b : Int) hp hb => ?_)
  have hb_b : BdDV (U := UU) (.one (.lit (.int .u8 b))) := hb _ (List.mem_cons_self)
  clear hp hb
  rw [vc_impl_isDigit b]
  refine if_cond (fun h => Lf_b ?_) (fun h => Lf_b ?_) <;> grind
def con_impl_isWordByte : Con UU where
  α := Int
  md := [.ro]
  of := fun | [.one (.lit (.int .u8 a0))] => some a0 | _ => none
  ds := fun b => [.one (.lit (.int .u8 b))]
  pre := fun b => []
  res := fun b => ⟨[.one (.lit (.bool (wordB b)))], true, []⟩
  law := by intro l x h; (try simp only at h); split at h <;> cases h; rfl
def ann_impl_isWordByte : con_impl_isWordByte.α → Nat → Option (Ann UU) := fun b => annL []
def use_impl_isWordByte : List (FuncId × Con UU) := [(60, con_impl_isSmall), (62, con_impl_isDigit)]
theorem vc_impl_isWordByte (b : Int) : goal EE use_impl_isWordByte Go.Proofs.Try.f61 con_impl_isWordByte ann_impl_isWordByte b = (bif smallB b then Lf [DV.one (Cell.lit (Value.bool true))] [DV.one (Cell.lit (Value.bool (wordB b)))] else bif decide ((48 : Int) ≤ b ∧ b ≤ (57 : Int)) then Lf [DV.one (Cell.lit (Value.bool true))] [DV.one (Cell.lit (Value.bool (wordB b)))] else Lf [DV.one (Cell.lit (Value.bool (b == (95 : Int))))] [DV.one (Cell.lit (Value.bool (wordB b)))]) := by kernel_rfl
theorem ok_impl_isWordByte : Holds EE (61, con_impl_isWordByte) := by
  refine holds_of EE_ok Go.Proofs.Try.func61 con_impl_isWordByte (by kernel_rfl) use_impl_isWordByte (all_cons ok_impl_isSmall (all_cons ok_impl_isDigit all_nil)) ann_impl_isWordByte (fun (b : Int) hp hb => ?_)
  have hb_b : BdDV (U := UU) (.one (.lit (.int .u8 b))) := hb _ (List.mem_cons_self)
  clear hp hb
  rw [vc_impl_isWordByte b]
  refine if_cond (fun h => Lf_b ?_) (fun h => ?_)
  · grind [wordB]
  refine if_cond (fun h => Lf_b ?_) (fun h => Lf_b ?_) <;> grind [wordB]
def con_spec_l1Letter : Con UU where
  α := Int
  md := [.ro]
  of := fun | [.one (.lit (.int .u8 a0))] => some a0 | _ => none
  ds := fun c => [.one (.lit (.int .u8 c))]
  pre := fun c => [0 ≤ c ∧ c ≤ 255]
  res := fun c => ⟨[.one (.lit (.bool (wordB c)))], true, []⟩
  law := by intro l x h; (try simp only at h); split at h <;> cases h; rfl
def ann_spec_l1Letter : con_spec_l1Letter.α → Nat → Option (Ann UU) := fun c => annL []
def use_spec_l1Letter : List (FuncId × Con UU) := [(32, con_spec_l1In)]
theorem vc_spec_l1Letter (c : Int) : goal EE use_spec_l1Letter Go.Proofs.Try.f54 con_spec_l1Letter ann_spec_l1Letter c = (bif decide ((97 : Int) ≤ IntKind.wrap IntKind.i64 c ∧ IntKind.wrap IntKind.i64 c ≤ (122 : Int)) then Lf [DV.one (Cell.lit (Value.bool true))] [DV.one (Cell.lit (Value.bool (wordB c)))] else bif decide ((48 : Int) ≤ IntKind.wrap IntKind.i64 c ∧ IntKind.wrap IntKind.i64 c ≤ (57 : Int)) then Lf [DV.one (Cell.lit (Value.bool true))] [DV.one (Cell.lit (Value.bool (wordB c)))] else Lf [DV.one (Cell.lit (Value.bool (c == (95 : Int))))] [DV.one (Cell.lit (Value.bool (wordB c)))]) := by kernel_rfl
theorem ok_spec_l1Letter : Holds EE (54, con_spec_l1Letter) := by
  refine holds_of EE_ok Go.Proofs.Try.func54 con_spec_l1Letter (by kernel_rfl) use_spec_l1Letter (all_cons ok_spec_l1In all_nil) ann_spec_l1Letter (fun (c : Int) hp hb => ?_)
  have hb_c : BdDV (U := UU) (.one (.lit (.int .u8 c))) := hb _ (List.mem_cons_self)
  have hp0 : 0 ≤ c ∧ c ≤ 255 := hp _ (List.mem_cons_self)
  clear hp hb
  rw [vc_spec_l1Letter c]
  rw [wrap_i64 (by omega) (by omega)]
  refine if_cond (fun h => Lf_b ?_) (fun h => ?_)
  · grind [wordB, smallB]
  refine if_cond (fun h => Lf_b ?_) (fun h => Lf_b ?_) <;> grind [wordB, smallB]
def con_impl_isWord : Con UU where
  α := ByteArray × Int
  md := [.ro, .ro]
  of := fun | [.one (.lit (.string a0)), .one (.lit (.int .i64 a1))] => some (a0, a1) | _ => none
  ds := fun (s, most) => [.one (.lit (.string s)), .one (.lit (.int .i64 most))]
  pre := fun (s, most) => []
  res := fun (s, most) => ⟨[.one (.lit (.bool (decide (s.size ≤ most) && wordS s)))], true, []⟩
  law := by intro l x h; (try simp only at h); split at h <;> cases h; rfl
def I_impl_isWord_4 (s : ByteArray) (most : Int) : Int × Unit → Prop := fun (i, _) => 0 ≤ i ∧ i ≤ s.size ∧ s.size ≤ most ∧ ((bs s).drop i.toNat).all (byteP wordB) = wordS s
def μ_impl_isWord_4 (s : ByteArray) (most : Int) : Int × Unit → Nat := fun (i, _) => s.size - i.toNat
def ann_impl_isWord : con_impl_isWord.α → Nat → Option (Ann UU) := fun (s, most) => annL [(4, annOf [.slot 5 (5, 1024) (.lit (.int .i64))] (fun _ => I_impl_isWord_4 s most) (μ_impl_isWord_4 s most))]
def use_impl_isWord : List (FuncId × Con UU) := [(61, con_impl_isWordByte)]
theorem vc_impl_isWord (s : ByteArray) (most : Int) : goal EE use_impl_isWord Go.Proofs.Try.f56 con_impl_isWord ann_impl_isWord (s, most) = (bif decide ((↑(ByteArray.size s) : Int) > most) then Lf [DV.one (Cell.lit (Value.bool false))] [DV.one (Cell.lit (Value.bool (decide ((↑(ByteArray.size s) : Int) ≤ most) && wordS s)))] else I_impl_isWord_4 s most ((0 : Int), PUnit.unit) ∧ ∀ (y : Int × PUnit), I_impl_isWord_4 s most y → bif decide (y.1 < (↑(ByteArray.size s) : Int)) then (0 : Int) ≤ y.1 ∧ Int.toNat y.1 < ByteArray.size s ∧ bif !wordB (↑(UInt8.toNat (List.getD s.data.toList (Int.toNat y.1) (0 : UInt8))) : Int) then Lf [DV.one (Cell.lit (Value.bool false))] [DV.one (Cell.lit (Value.bool (decide ((↑(ByteArray.size s) : Int) ≤ most) && wordS s)))] else I_impl_isWord_4 s most (IntKind.wrap IntKind.i64 (y.1 + (1 : Int)), PUnit.unit) ∧ μ_impl_isWord_4 s most (IntKind.wrap IntKind.i64 (y.1 + (1 : Int)), PUnit.unit) < μ_impl_isWord_4 s most y else Lf [DV.one (Cell.lit (Value.bool true))] [DV.one (Cell.lit (Value.bool (decide ((↑(ByteArray.size s) : Int) ≤ most) && wordS s)))]) := by kernel_rfl
theorem ok_impl_isWord : Holds EE (56, con_impl_isWord) := by
  refine holds_of EE_ok Go.Proofs.Try.func56 con_impl_isWord (by kernel_rfl) use_impl_isWord (all_cons ok_impl_isWordByte all_nil) ann_impl_isWord (fun x hp hb => ?_)
  obtain ⟨s, most⟩ := x
  have hb_s : BdDV (U := UU) (.one (.lit (.string s))) := hb _ (List.mem_cons_self)
  have hl_s : s.size ≤ 9223372036854775807 := Bd.str hb_s
  have hb_most : BdDV (U := UU) (.one (.lit (.int .i64 most))) := hb _ (List.mem_cons_of_mem _ (List.mem_cons_self))
  have hl_most := Bd.i64 hb_most
  clear hp hb
  rw [vc_impl_isWord s most]
  refine if_cond (fun h => Lf_ff ?_) (fun h => ?_)
  · have h := of_decide_eq_true h; rw [decide_eq_false (by omega)]; rfl
  have h0 := of_decide_eq_false h
  refine ⟨⟨by omega, by omega, by omega, rfl⟩, ?_⟩
  rintro ⟨i, ⟨⟩⟩ ⟨h1, h2, h3, hR⟩
  have hl := bs_len s
  simp only [bs_eq]
  refine if_cond (fun hc => ?_) (fun hc => ?_)
  · have hc := of_decide_eq_true hc
    rw [all_step _ _ 0 h1 (by omega)] at hR
    rw [wrap_i64 (by omega) (by omega)]
    refine ⟨by omega, by omega, if_cond (fun h => Lf_ff ?_) (fun h => ⟨⟨by omega, by omega, by omega, ?_⟩, ?_⟩)⟩
    · rw [← hR]; simp only [byteP]; simp at h; simp [h]
    · rw [← hR]; simp only [byteP]; simp at h; simp [h]
    · simp only [μ_impl_isWord_4]; omega
  · have hc := of_decide_eq_false hc
    rw [drop_end _ (by omega)] at hR
    exact Lf_tt (by rw [← hR, decide_eq_true h3]; rfl)
def con_impl_NameOk : Con UU where
  α := ByteArray
  md := [.ro]
  of := fun | [.one (.lit (.string a0))] => some a0 | _ => none
  ds := fun s => [.one (.lit (.string s))]
  pre := fun s => []
  res := fun s => ⟨[.one (.lit (.bool (nameOk s)))], true, []⟩
  law := by intro l x h; (try simp only at h); split at h <;> cases h; rfl
def ann_impl_NameOk : con_impl_NameOk.α → Nat → Option (Ann UU) := fun s => annL []
def use_impl_NameOk : List (FuncId × Con UU) := [(60, con_impl_isSmall), (56, con_impl_isWord)]
theorem vc_impl_NameOk (s : ByteArray) : goal EE use_impl_NameOk Go.Proofs.Try.f55 con_impl_NameOk ann_impl_NameOk s = (bif decide ((↑(ByteArray.size s) : Int) > (0 : Int)) then (0 : Int) ≤ (0 : Int) ∧ Int.toNat (0 : Int) < ByteArray.size s ∧ bif smallB (↑(UInt8.toNat (List.getD s.data.toList (Int.toNat (0 : Int)) (0 : UInt8))) : Int) then Lf [DV.one (Cell.lit (Value.bool (decide ((↑(ByteArray.size s) : Int) ≤ (12 : Int)) && wordS s)))] [DV.one (Cell.lit (Value.bool (nameOk s)))] else Lf [DV.one (Cell.lit (Value.bool false))] [DV.one (Cell.lit (Value.bool (nameOk s)))] else Lf [DV.one (Cell.lit (Value.bool false))] [DV.one (Cell.lit (Value.bool (nameOk s)))]) := by kernel_rfl
theorem ok_impl_NameOk : Holds EE (55, con_impl_NameOk) := by
  refine holds_of EE_ok Go.Proofs.Try.func55 con_impl_NameOk (by kernel_rfl) use_impl_NameOk (all_cons ok_impl_isSmall (all_cons ok_impl_isWord all_nil)) ann_impl_NameOk (fun (s : ByteArray) hp hb => ?_)
  have hb_s : BdDV (U := UU) (.one (.lit (.string s))) := hb _ (List.mem_cons_self)
  have hl_s : s.size ≤ 9223372036854775807 := Bd.str hb_s
  clear hp hb
  rw [vc_impl_NameOk s]
  have hl := bs_len s
  simp only [bs_eq]
  refine if_cond (fun h => ?_) (fun h => Lf_ff ?_)
  · have h := of_decide_eq_true h
    refine ⟨by omega, by omega, if_cond (fun h' => Lf_b ?_) (fun h' => Lf_ff ?_)⟩
    · have h' : smallB ((List.getD (bs s) 0 0).toNat : Int) = true := h'
      simp only [nameOk, h']
      have e : decide (1 ≤ s.size ∧ s.size ≤ 12) = decide ((s.size : Int) ≤ 12) := by rw [decide_eq_decide]; omega
      rw [e]; simp
    · have h' : smallB ((List.getD (bs s) 0 0).toNat : Int) = false := h'
      simp only [nameOk, h']; grind
  · have h := of_decide_eq_false h
    simp only [nameOk]; rw [decide_eq_false (by omega)]; rfl
def con_spec_NameOk : Con UU where
  α := ByteArray
  md := [.ro]
  of := fun | [.one (.lit (.string a0))] => some a0 | _ => none
  ds := fun s => [.one (.lit (.string s))]
  pre := fun s => []
  res := fun s => ⟨[.one (.lit (.bool (nameOk s)))], true, []⟩
  law := by intro l x h; (try simp only at h); split at h <;> cases h; rfl
def I_spec_NameOk_2 (s : ByteArray) : Int × Unit → Prop := fun (i, _) => 0 ≤ i ∧ i ≤ s.size ∧ ((bs s).drop i.toNat).all (byteP wordB) = wordS s ∧ (0 < i → smallB (List.getD (bs s) 0 0).toNat = true)
def μ_spec_NameOk_2 (s : ByteArray) : Int × Unit → Nat := fun (i, _) => s.size - i.toNat
def ann_spec_NameOk : con_spec_NameOk.α → Nat → Option (Ann UU) := fun s => annL [(2, annOf [.slot 3 (3, 1024) (.lit (.int .i64))] (fun _ => I_spec_NameOk_2 s) (μ_spec_NameOk_2 s))]
def use_spec_NameOk : List (FuncId × Con UU) := [(54, con_spec_l1Letter), (32, con_spec_l1In)]
theorem vc_spec_NameOk (s : ByteArray) : goal EE use_spec_NameOk Go.Proofs.Try.f37 con_spec_NameOk ann_spec_NameOk s = (I_spec_NameOk_2 s ((0 : Int), PUnit.unit) ∧
  ∀ (y : Int × PUnit),
    let x0 : Int := (↑(UInt8.toNat (List.getD s.data.toList (Int.toNat y.1) (0 : UInt8))) : Int);
    I_spec_NameOk_2 s y → bif decide (y.1 < (↑(ByteArray.size s) : Int)) then (0 : Int) ≤ y.1 ∧ Int.toNat y.1 < ByteArray.size s ∧ ((0 : Int) ≤ x0 ∧ x0 ≤ (255 : Int)) ∧ bif !wordB x0 then Lf [DV.one (Cell.lit (Value.bool false))] [DV.one (Cell.lit (Value.bool (nameOk s)))] else bif y.1 == (0 : Int) then (0 : Int) ≤ y.1 ∧ Int.toNat y.1 < ByteArray.size s ∧ bif !decide ((97 : Int) ≤ IntKind.wrap IntKind.i64 x0 ∧ IntKind.wrap IntKind.i64 x0 ≤ (122 : Int)) then Lf [DV.one (Cell.lit (Value.bool false))] [DV.one (Cell.lit (Value.bool (nameOk s)))] else I_spec_NameOk_2 s (IntKind.wrap IntKind.i64 (y.1 + (1 : Int)), PUnit.unit) ∧ μ_spec_NameOk_2 s (IntKind.wrap IntKind.i64 (y.1 + (1 : Int)), PUnit.unit) < μ_spec_NameOk_2 s y else I_spec_NameOk_2 s (IntKind.wrap IntKind.i64 (y.1 + (1 : Int)), PUnit.unit) ∧ μ_spec_NameOk_2 s (IntKind.wrap IntKind.i64 (y.1 + (1 : Int)), PUnit.unit) < μ_spec_NameOk_2 s y else Lf [DV.one (Cell.lit (Value.bool (decide ((1 : Int) ≤ (↑(ByteArray.size s) : Int) ∧ (↑(ByteArray.size s) : Int) ≤ (12 : Int)))))] [DV.one (Cell.lit (Value.bool (nameOk s)))]) := by kernel_rfl
theorem ok_spec_NameOk : Holds EE (37, con_spec_NameOk) := by
  refine holds_of EE_ok Go.Proofs.Try.func37 con_spec_NameOk (by kernel_rfl) use_spec_NameOk (all_cons ok_spec_l1Letter (all_cons ok_spec_l1In all_nil)) ann_spec_NameOk (fun (s : ByteArray) hp hb => ?_)
  have hb_s : BdDV (U := UU) (.one (.lit (.string s))) := hb _ (List.mem_cons_self)
  have hl_s : s.size ≤ 9223372036854775807 := Bd.str hb_s
  clear hp hb
  rw [vc_spec_NameOk s]
  dsimp only
  refine ⟨⟨by omega, by omega, rfl, by omega⟩, ?_⟩
  rintro ⟨i, ⟨⟩⟩ ⟨h1, h2, hR, hS⟩
  have hl := bs_len s
  simp only [bs_eq, u8_i64]
  refine if_cond (fun hc => ?_) (fun hc => ?_)
  · have hc := of_decide_eq_true hc
    have hb := (List.getD (bs s) i.toNat 0).toNat_lt
    rw [all_step _ _ 0 h1 (by omega)] at hR
    rw [wrap_i64 (by omega) (by omega)]
    have hN : wordS s = false → nameOk s = false := fun h => by simp [nameOk, h]
    refine ⟨by omega, by omega, ⟨by omega, by omega⟩, if_cond (fun h => Lf_ff (hN ?_)) (fun h => if_cond (fun h' => ⟨by omega, by omega, if_cond (fun h'' => Lf_ff ?_) (fun h'' => ⟨⟨by omega, by omega, ?_, fun _ => ?_⟩, ?_⟩)⟩) (fun h' => ⟨⟨by omega, by omega, ?_, fun _ => hS ?_⟩, ?_⟩))⟩
    · rw [← hR]; simp only [byteP]; simp at h; simp [h]
    · have h' : i = 0 := by simpa using h'
      subst h'
      have h'' : smallB ((List.getD (bs s) 0 0).toNat : Int) = false := by simp only [smallB]; grind
      simp only [nameOk, h'']; grind
    · rw [← hR]; simp only [byteP]; simp at h; simp [h]
    · have h' : i = 0 := by simpa using h'
      subst h'
      simpa [smallB] using h''
    · simp only [μ_spec_NameOk_2]; omega
    · rw [← hR]; simp only [byteP]; simp at h; simp [h]
    · have h' : ¬ i = 0 := by simpa using h'
      omega
    · simp only [μ_spec_NameOk_2]; omega
  · have hc := of_decide_eq_false hc
    rw [drop_end _ (by omega)] at hR
    refine Lf_b ?_
    simp only [nameOk, ← hR]
    by_cases hz : 0 < i
    · rw [hS hz]; simp only [List.all_nil]; grind
    · rw [decide_eq_false (by omega), decide_eq_false (by omega)]; rfl
def con_spec_l2Plain : Con UU where
  α := ByteArray
  md := [.ro]
  of := fun | [.one (.lit (.string a0))] => some a0 | _ => none
  ds := fun s => [.one (.lit (.string s))]
  pre := fun s => []
  res := fun s => ⟨[.one (.lit (.bool (decide (s.size ≤ 20) && wordS s)))], true, []⟩
  law := by intro l x h; (try simp only at h); split at h <;> cases h; rfl
def I_spec_l2Plain_2 (s : ByteArray) : Int × Unit → Prop := fun (i, _) => 0 ≤ i ∧ i ≤ s.size ∧ ((bs s).drop i.toNat).all (byteP wordB) = wordS s
def μ_spec_l2Plain_2 (s : ByteArray) : Int × Unit → Nat := fun (i, _) => s.size - i.toNat
def ann_spec_l2Plain : con_spec_l2Plain.α → Nat → Option (Ann UU) := fun s => annL [(2, annOf [.slot 3 (3, 1024) (.lit (.int .i64))] (fun _ => I_spec_l2Plain_2 s) (μ_spec_l2Plain_2 s))]
def use_spec_l2Plain : List (FuncId × Con UU) := [(54, con_spec_l1Letter)]
theorem vc_spec_l2Plain (s : ByteArray) : goal EE use_spec_l2Plain Go.Proofs.Try.f53 con_spec_l2Plain ann_spec_l2Plain s = (I_spec_l2Plain_2 s ((0 : Int), PUnit.unit) ∧
  ∀ (y : Int × PUnit),
    let x0 : Int := (↑(UInt8.toNat (List.getD s.data.toList (Int.toNat y.1) (0 : UInt8))) : Int);
    I_spec_l2Plain_2 s y → bif decide (y.1 < (↑(ByteArray.size s) : Int)) then (0 : Int) ≤ y.1 ∧ Int.toNat y.1 < ByteArray.size s ∧ ((0 : Int) ≤ x0 ∧ x0 ≤ (255 : Int)) ∧ bif !wordB x0 then Lf [DV.one (Cell.lit (Value.bool false))] [DV.one (Cell.lit (Value.bool (decide (ByteArray.size s ≤ (20 : Nat)) && wordS s)))] else I_spec_l2Plain_2 s (IntKind.wrap IntKind.i64 (y.1 + (1 : Int)), PUnit.unit) ∧ μ_spec_l2Plain_2 s (IntKind.wrap IntKind.i64 (y.1 + (1 : Int)), PUnit.unit) < μ_spec_l2Plain_2 s y else Lf [DV.one (Cell.lit (Value.bool (decide ((↑(ByteArray.size s) : Int) ≤ (20 : Int)))))] [DV.one (Cell.lit (Value.bool (decide (ByteArray.size s ≤ (20 : Nat)) && wordS s)))]) := by kernel_rfl
theorem ok_spec_l2Plain : Holds EE (53, con_spec_l2Plain) := by
  refine holds_of EE_ok Go.Proofs.Try.func53 con_spec_l2Plain (by kernel_rfl) use_spec_l2Plain (all_cons ok_spec_l1Letter all_nil) ann_spec_l2Plain (fun (s : ByteArray) hp hb => ?_)
  have hb_s : BdDV (U := UU) (.one (.lit (.string s))) := hb _ (List.mem_cons_self)
  have hl_s : s.size ≤ 9223372036854775807 := Bd.str hb_s
  clear hp hb
  rw [vc_spec_l2Plain s]
  dsimp only
  refine ⟨⟨by omega, by omega, rfl⟩, ?_⟩
  rintro ⟨i, ⟨⟩⟩ ⟨h1, h2, hR⟩
  have hl := bs_len s
  simp only [bs_eq]
  refine if_cond (fun hc => ?_) (fun hc => ?_)
  · have hc := of_decide_eq_true hc
    have hb := (List.getD (bs s) i.toNat 0).toNat_lt
    rw [all_step _ _ 0 h1 (by omega)] at hR
    rw [wrap_i64 (by omega) (by omega)]
    refine ⟨by omega, by omega, ⟨by omega, by omega⟩, if_cond (fun h => Lf_ff ?_) (fun h => ⟨⟨by omega, by omega, ?_⟩, ?_⟩)⟩
    · rw [← hR]; simp only [byteP]; simp at h; simp [h]
    · rw [← hR]; simp only [byteP]; simp at h; simp [h]
    · simp only [μ_spec_l2Plain_2]; omega
  · have hc := of_decide_eq_false hc
    rw [drop_end _ (by omega)] at hR
    refine Lf_b ?_
    rw [← hR]; simp; omega
def con_impl_ValOk : Con UU where
  α := DVal
  md := [.ro]
  of := fun | [.agg [.lit (.int .i64 a0), .lit (.int .i64 a1), .lit (.string a2)]] => some ⟨a0, a1, a2⟩ | _ => none
  ds := fun v => [.agg [.lit (.int .i64 v.K), .lit (.int .i64 v.N), .lit (.string v.S)]]
  pre := fun v => []
  res := fun v => ⟨[.one (.lit (.bool (valOk v)))], true, []⟩
  law := by intro l x h; (try simp only at h); split at h <;> cases h; rfl
def ann_impl_ValOk : con_impl_ValOk.α → Nat → Option (Ann UU) := fun v => annL []
def use_impl_ValOk : List (FuncId × Con UU) := [(40, con_impl_inRange), (56, con_impl_isWord)]
theorem vc_impl_ValOk (v : DVal) : goal EE use_impl_ValOk Go.Proofs.Try.f42 con_impl_ValOk ann_impl_ValOk v = (bif v.K == (1 : Int) then bif decide ((-1000000000 : Int) ≤ v.N ∧ v.N ≤ (1000000000 : Int)) then Lf [DV.one (Cell.lit (Value.bool (ByteArray.toList v.S == ByteArray.toList { data := #[] : ByteArray })))] [DV.one (Cell.lit (Value.bool (valOk v)))] else Lf [DV.one (Cell.lit (Value.bool false))] [DV.one (Cell.lit (Value.bool (valOk v)))] else bif v.K == (2 : Int) then bif v.N == (0 : Int) then Lf [DV.one (Cell.lit (Value.bool (decide ((↑(ByteArray.size v.S) : Int) ≤ (20 : Int)) && wordS v.S)))] [DV.one (Cell.lit (Value.bool (valOk v)))] else Lf [DV.one (Cell.lit (Value.bool false))] [DV.one (Cell.lit (Value.bool (valOk v)))] else Lf [DV.one (Cell.lit (Value.bool false))] [DV.one (Cell.lit (Value.bool (valOk v)))]) := by kernel_rfl
theorem ok_impl_ValOk : Holds EE (42, con_impl_ValOk) := by
  refine holds_of EE_ok Go.Proofs.Try.func42 con_impl_ValOk (by kernel_rfl) use_impl_ValOk (all_cons ok_impl_inRange (all_cons ok_impl_isWord all_nil)) ann_impl_ValOk (fun (v : DVal) hp hb => ?_)
  have hb_v : BdDV (U := UU) (.agg [.lit (.int .i64 v.K), .lit (.int .i64 v.N), .lit (.string v.S)]) := hb _ (List.mem_cons_self)
  have hl_v_S : v.S.size ≤ 9223372036854775807 := Bd.str (hb_v _ (by simp))
  clear hp hb
  rw [vc_impl_ValOk v]
  have e : (ByteArray.toList (DVal.S v) == ByteArray.toList { data := #[] }) = decide (v.S = noBytes) := toList_beq _ _
  simp only [e, valOk]
  repeat' (refine if_cond (fun h => ?_) (fun h => ?_))
  all_goals (refine Lf_b ?_; grind)
def con_spec_ValOk : Con UU where
  α := DVal
  md := [.ro]
  of := fun | [.agg [.lit (.int .i64 a0), .lit (.int .i64 a1), .lit (.string a2)]] => some ⟨a0, a1, a2⟩ | _ => none
  ds := fun v => [.agg [.lit (.int .i64 v.K), .lit (.int .i64 v.N), .lit (.string v.S)]]
  pre := fun v => []
  res := fun v => ⟨[.one (.lit (.bool (valOk v)))], true, []⟩
  law := by intro l x h; (try simp only at h); split at h <;> cases h; rfl
def ann_spec_ValOk : con_spec_ValOk.α → Nat → Option (Ann UU) := fun v => annL []
def use_spec_ValOk : List (FuncId × Con UU) := [(32, con_spec_l1In), (53, con_spec_l2Plain)]
theorem vc_spec_ValOk (v : DVal) : goal EE use_spec_ValOk Go.Proofs.Try.f35 con_spec_ValOk ann_spec_ValOk v = (bif v.K == (1 : Int) then bif decide ((-1000000000 : Int) ≤ v.N ∧ v.N ≤ (1000000000 : Int)) then Lf [DV.one (Cell.lit (Value.bool (ByteArray.toList v.S == ByteArray.toList { data := #[] : ByteArray })))] [DV.one (Cell.lit (Value.bool (valOk v)))] else Lf [DV.one (Cell.lit (Value.bool false))] [DV.one (Cell.lit (Value.bool (valOk v)))] else bif v.K == (2 : Int) then bif decide (ByteArray.size v.S ≤ (20 : Nat)) && wordS v.S then Lf [DV.one (Cell.lit (Value.bool (v.N == (0 : Int))))] [DV.one (Cell.lit (Value.bool (valOk v)))] else Lf [DV.one (Cell.lit (Value.bool false))] [DV.one (Cell.lit (Value.bool (valOk v)))] else Lf [DV.one (Cell.lit (Value.bool false))] [DV.one (Cell.lit (Value.bool (valOk v)))]) := by kernel_rfl
theorem ok_spec_ValOk : Holds EE (35, con_spec_ValOk) := by
  refine holds_of EE_ok Go.Proofs.Try.func35 con_spec_ValOk (by kernel_rfl) use_spec_ValOk (all_cons ok_spec_l1In (all_cons ok_spec_l2Plain all_nil)) ann_spec_ValOk (fun (v : DVal) hp hb => ?_)
  have hb_v : BdDV (U := UU) (.agg [.lit (.int .i64 v.K), .lit (.int .i64 v.N), .lit (.string v.S)]) := hb _ (List.mem_cons_self)
  have hl_v_S : v.S.size ≤ 9223372036854775807 := Bd.str (hb_v _ (by simp))
  clear hp hb
  rw [vc_spec_ValOk v]
  have e : (ByteArray.toList (DVal.S v) == ByteArray.toList { data := #[] }) = decide (v.S = noBytes) := toList_beq _ _
  simp only [e, valOk]
  repeat' (refine if_cond (fun h => ?_) (fun h => ?_))
  all_goals (refine Lf_b ?_; grind)
def con_spec_l3Vals : Con UU where
  α := (List DVal)
  md := [.ro]
  of := fun | [.one (.sl .eVal a0)] => some a0 | _ => none
  ds := fun l => [.one (.sl .eVal l)]
  pre := fun l => []
  res := fun l => ⟨[.one (.lit (.bool (decide (l.length ≤ 5) && l.all valOk)))], true, []⟩
  law := by intro l x h; (try simp only at h); split at h <;> cases h; rfl
def I_spec_l3Vals_2 (l : (List DVal)) : Int × Unit → Prop := fun (i, _) => 0 ≤ i ∧ i ≤ l.length ∧ (l.drop i.toNat).all valOk = l.all valOk
def μ_spec_l3Vals_2 (l : (List DVal)) : Int × Unit → Nat := fun (i, _) => l.length - i.toNat
def ann_spec_l3Vals : con_spec_l3Vals.α → Nat → Option (Ann UU) := fun l => annL [(2, annOf [.slot 3 (3, 1024) (.lit (.int .i64))] (fun _ => I_spec_l3Vals_2 l) (μ_spec_l3Vals_2 l))]
def use_spec_l3Vals : List (FuncId × Con UU) := [(35, con_spec_ValOk)]
theorem vc_spec_l3Vals (l : (List DVal)) : goal EE use_spec_l3Vals Go.Proofs.Try.f52 con_spec_l3Vals ann_spec_l3Vals l = (let x0 : Int := (↑(List.length l) : Int);
I_spec_l3Vals_2 l ((0 : Int), PUnit.unit) ∧ ∀ (y : Int × PUnit), I_spec_l3Vals_2 l y → bif decide (y.1 < x0) then (0 : Int) ≤ y.1 ∧ Int.toNat y.1 < List.length l ∧ bif !valOk (List.getD l (Int.toNat y.1) zVal) then Lf [DV.one (Cell.lit (Value.bool false))] [DV.one (Cell.lit (Value.bool (decide (List.length l ≤ (5 : Nat)) && List.all l valOk)))] else I_spec_l3Vals_2 l (IntKind.wrap IntKind.i64 (y.1 + (1 : Int)), PUnit.unit) ∧ μ_spec_l3Vals_2 l (IntKind.wrap IntKind.i64 (y.1 + (1 : Int)), PUnit.unit) < μ_spec_l3Vals_2 l y else Lf [DV.one (Cell.lit (Value.bool (decide (x0 ≤ (5 : Int)))))] [DV.one (Cell.lit (Value.bool (decide (List.length l ≤ (5 : Nat)) && List.all l valOk)))]) := by kernel_rfl
theorem ok_spec_l3Vals : Holds EE (52, con_spec_l3Vals) := by
  refine holds_of EE_ok Go.Proofs.Try.func52 con_spec_l3Vals (by kernel_rfl) use_spec_l3Vals (all_cons ok_spec_ValOk all_nil) ann_spec_l3Vals (fun (l : (List DVal)) hp hb => ?_)
  have hb_l : BdDV (U := UU) (.one (.sl .eVal l)) := hb _ (List.mem_cons_self)
  have hl_l : l.length ≤ 9223372036854775807 := Bd.len hb_l
  clear hp hb
  rw [vc_spec_l3Vals l]
  dsimp only
  refine ⟨⟨by omega, by omega, rfl⟩, ?_⟩
  rintro ⟨i, ⟨⟩⟩ ⟨h1, h2, hR⟩
  simp only
  refine if_cond (fun hc => ?_) (fun hc => ?_)
  · have hc := of_decide_eq_true hc
    rw [all_step _ _ zVal h1 (by omega)] at hR
    rw [wrap_i64 (by omega) (by omega)]
    refine ⟨by omega, by omega, if_cond (fun h => Lf_ff ?_) (fun h => ⟨⟨by omega, by omega, ?_⟩, ?_⟩)⟩
    · rw [← hR]; simp at h; simp [h]
    · rw [← hR]; simp at h; simp [h]
    · simp only [μ_spec_l3Vals_2]; omega
  · have hc := of_decide_eq_false hc
    rw [drop_end _ (by omega)] at hR
    refine Lf_b ?_
    rw [← hR]; simp; omega
def con_spec_FactOk : Con UU where
  α := DFact
  md := [.ro]
  of := fun | [.agg [.lit (.string a0), .sl .eVal a1]] => some ⟨a0, a1⟩ | _ => none
  ds := fun f => [.agg [.lit (.string f.Kind), .sl .eVal f.Fields]]
  pre := fun f => []
  res := fun f => ⟨[.one (.lit (.bool (factOk f)))], true, []⟩
  law := by intro l x h; (try simp only at h); split at h <;> cases h; rfl
def ann_spec_FactOk : con_spec_FactOk.α → Nat → Option (Ann UU) := fun f => annL []
def use_spec_FactOk : List (FuncId × Con UU) := [(37, con_spec_NameOk), (52, con_spec_l3Vals)]
theorem vc_spec_FactOk (f : DFact) : goal EE use_spec_FactOk Go.Proofs.Try.f34 con_spec_FactOk ann_spec_FactOk f = (bif nameOk f.Kind then Lf [DV.one (Cell.lit (Value.bool (decide (List.length f.Fields ≤ (5 : Nat)) && List.all f.Fields valOk)))] [DV.one (Cell.lit (Value.bool (factOk f)))] else Lf [DV.one (Cell.lit (Value.bool false))] [DV.one (Cell.lit (Value.bool (factOk f)))]) := by kernel_rfl
theorem ok_spec_FactOk : Holds EE (34, con_spec_FactOk) := by
  refine holds_of EE_ok Go.Proofs.Try.func34 con_spec_FactOk (by kernel_rfl) use_spec_FactOk (all_cons ok_spec_NameOk (all_cons ok_spec_l3Vals all_nil)) ann_spec_FactOk (fun (f : DFact) hp hb => ?_)
  have hb_f : BdDV (U := UU) (.agg [.lit (.string f.Kind), .sl .eVal f.Fields]) := hb _ (List.mem_cons_self)
  have hl_f_Kind : f.Kind.size ≤ 9223372036854775807 := Bd.str (hb_f _ (by simp))
  have hl_f_Fields : f.Fields.length ≤ 9223372036854775807 := Bd.len (U := UU) (τ := .eVal) (xs := f.Fields) (hb_f _ (by simp))
  clear hp hb
  rw [vc_spec_FactOk f]
  simp only [factOk]
  refine if_cond (fun h => Lf_b ?_) (fun h => Lf_b ?_) <;> grind
def con_impl_FactOk : Con UU where
  α := DFact
  md := [.ro]
  of := fun | [.agg [.lit (.string a0), .sl .eVal a1]] => some ⟨a0, a1⟩ | _ => none
  ds := fun f => [.agg [.lit (.string f.Kind), .sl .eVal f.Fields]]
  pre := fun f => []
  res := fun f => ⟨[.one (.lit (.bool (factOk f)))], true, []⟩
  law := by intro l x h; (try simp only at h); split at h <;> cases h; rfl
def I_impl_FactOk_4 (f : DFact) : Int × Unit → Prop := fun (i, _) => 0 ≤ i ∧ i ≤ f.Fields.length ∧ f.Fields.length ≤ 5 ∧ nameOk f.Kind = true ∧ (f.Fields.drop i.toNat).all valOk = f.Fields.all valOk
def μ_impl_FactOk_4 (f : DFact) : Int × Unit → Nat := fun (i, _) => f.Fields.length - i.toNat
def ann_impl_FactOk : con_impl_FactOk.α → Nat → Option (Ann UU) := fun f => annL [(4, annOf [.slot 18 (18, 1024) (.lit (.int .i64))] (fun _ => I_impl_FactOk_4 f) (μ_impl_FactOk_4 f))]
def use_impl_FactOk : List (FuncId × Con UU) := [(55, con_impl_NameOk), (42, con_impl_ValOk)]
theorem vc_impl_FactOk (f : DFact) : goal EE use_impl_FactOk Go.Proofs.Try.f41 con_impl_FactOk ann_impl_FactOk f = (let x0 : Int := (↑(List.length f.Fields) : Int);
bif !nameOk f.Kind then Lf [DV.one (Cell.lit (Value.bool false))] [DV.one (Cell.lit (Value.bool (factOk f)))] else bif decide (x0 > (5 : Int)) then Lf [DV.one (Cell.lit (Value.bool false))] [DV.one (Cell.lit (Value.bool (factOk f)))] else I_impl_FactOk_4 f ((0 : Int), PUnit.unit) ∧ ∀ (y : Int × PUnit), I_impl_FactOk_4 f y → bif decide (y.1 < x0) then (0 : Int) ≤ y.1 ∧ Int.toNat y.1 < List.length f.Fields ∧ bif !valOk (List.getD f.Fields (Int.toNat y.1) zVal) then Lf [DV.one (Cell.lit (Value.bool false))] [DV.one (Cell.lit (Value.bool (factOk f)))] else I_impl_FactOk_4 f (IntKind.wrap IntKind.i64 (y.1 + (1 : Int)), PUnit.unit) ∧ μ_impl_FactOk_4 f (IntKind.wrap IntKind.i64 (y.1 + (1 : Int)), PUnit.unit) < μ_impl_FactOk_4 f y else Lf [DV.one (Cell.lit (Value.bool true))] [DV.one (Cell.lit (Value.bool (factOk f)))]) := by kernel_rfl
theorem ok_impl_FactOk : Holds EE (41, con_impl_FactOk) := by
  refine holds_of EE_ok Go.Proofs.Try.func41 con_impl_FactOk (by kernel_rfl) use_impl_FactOk (all_cons ok_impl_NameOk (all_cons ok_impl_ValOk all_nil)) ann_impl_FactOk (fun (f : DFact) hp hb => ?_)
  have hb_f : BdDV (U := UU) (.agg [.lit (.string f.Kind), .sl .eVal f.Fields]) := hb _ (List.mem_cons_self)
  have hl_f_Kind : f.Kind.size ≤ 9223372036854775807 := Bd.str (hb_f _ (by simp))
  have hl_f_Fields : f.Fields.length ≤ 9223372036854775807 := Bd.len (U := UU) (τ := .eVal) (xs := f.Fields) (hb_f _ (by simp))
  clear hp hb
  rw [vc_impl_FactOk f]
  dsimp only
  refine if_cond (fun h => Lf_b ?_) (fun h => if_cond (fun h' => Lf_b ?_) (fun h' => ⟨⟨by omega, by omega, by simp at h'; omega, by simpa using h, rfl⟩, ?_⟩))
  · simp only [factOk]; grind
  · simp only [factOk]; grind
  rintro ⟨i, ⟨⟩⟩ ⟨h1, h2, h3, h4, hR⟩
  simp only
  refine if_cond (fun hc => ?_) (fun hc => ?_)
  · have hc := of_decide_eq_true hc
    rw [all_step _ _ zVal h1 (by omega)] at hR
    rw [wrap_i64 (by omega) (by omega)]
    refine ⟨by omega, by omega, if_cond (fun h => Lf_ff ?_) (fun h => ⟨⟨by omega, by omega, by omega, h4, ?_⟩, ?_⟩)⟩
    · simp only [factOk]; rw [← hR]; simp at h; simp [h]
    · rw [← hR]; simp at h; simp [h]
    · simp only [μ_impl_FactOk_4]; omega
  · have hc := of_decide_eq_false hc
    rw [drop_end _ (by omega)] at hR
    refine Lf_b ?_
    simp only [factOk, ← hR, h4]; simp; omega
def con_laws_markText : Con UU where
  α := Int
  md := [.ro]
  of := fun | [.one (.lit (.int .i64 a0))] => some a0 | _ => none
  ds := fun k => [.one (.lit (.int .i64 k))]
  pre := fun k => [k ≤ 4611686018427387903]
  res := fun k => ⟨[.one (.lit (.string (markText k)))], true, []⟩
  law := by intro l x h; (try simp only at h); split at h <;> cases h; rfl
def I_laws_markText_4 (k : Int) : Int × ByteArray × Unit → Prop := fun (j, out, _) => 0 ≤ j ∧ j ≤ k ∧ (∃ l d, out = ⟨l.toArray⟩ ∧ j.toNat ≤ d ∧ mtl d j.toNat l = mtl k.toNat k.toNat [] ∧ l.length ≤ k - j)
def μ_laws_markText_4 (k : Int) : Int × ByteArray × Unit → Nat := fun (j, out, _) => j.toNat
def ann_laws_markText : con_laws_markText.α → Nat → Option (Ann UU) := fun k => annL [(4, annOf [.slot 0 (0, 1024) (.lit (.int .i64)), .slot 3 (3, 1024) (.lit .str)] (fun _ => I_laws_markText_4 k) (μ_laws_markText_4 k))]
def use_laws_markText : List (FuncId × Con UU) := []
theorem vc_laws_markText (k : Int) : goal EE use_laws_markText Go.Proofs.Try.f59 con_laws_markText ann_laws_markText k = (bif decide (k ≤ (0 : Int)) then Lf [DV.one (Cell.lit (Value.string { data := #[(109 : UInt8), (48 : UInt8)] : ByteArray }))] [DV.one (Cell.lit (Value.string (markText k)))]
else
  I_laws_markText_4 k (k, { data := #[] : ByteArray }, PUnit.unit) ∧
    ∀ (y : Int × ByteArray × PUnit),
      let x0 : Nat := ByteArray.size y.2.1;
      let x1 : ByteArray := strOfNums (List.map (fun (x : Cd.T Cd.byte) => x) [IntKind.wrap IntKind.u8 (IntKind.wrap IntKind.i64 ((48 : Int) + Int.tmod y.1 (10 : Int)))]);
      I_laws_markText_4 k y → bif decide (y.1 > (0 : Int)) then (10 : Int) ≠ (0 : Int) ∧ ByteArray.size x1 + x0 ≤ (4611686018427387904 : Nat) ∧ (10 : Int) ≠ (0 : Int) ∧ I_laws_markText_4 k (IntKind.wrap IntKind.i64 (Int.tdiv y.1 (10 : Int)), x1 ++ y.2.1, PUnit.unit) ∧ μ_laws_markText_4 k (IntKind.wrap IntKind.i64 (Int.tdiv y.1 (10 : Int)), x1 ++ y.2.1, PUnit.unit) < μ_laws_markText_4 k y else ByteArray.size { data := #[(109 : UInt8)] : ByteArray } + x0 ≤ (4611686018427387904 : Nat) ∧ Lf [DV.one (Cell.lit (Value.string ({ data := #[(109 : UInt8)] : ByteArray } ++ y.2.1)))] [DV.one (Cell.lit (Value.string (markText k)))]) := by kernel_rfl
theorem ok_laws_markText : Holds EE (59, con_laws_markText) := by
  refine holds_of EE_ok Go.Proofs.Try.func59 con_laws_markText (by kernel_rfl) use_laws_markText all_nil ann_laws_markText (fun (k : Int) hp hb => ?_)
  have hb_k : BdDV (U := UU) (.one (.lit (.int .i64 k))) := hb _ (List.mem_cons_self)
  have hl_k := Bd.i64 hb_k
  have hp0 : k ≤ 4611686018427387903 := hp _ (List.mem_cons_self)
  clear hp hb
  rw [vc_laws_markText k]
  dsimp only
  refine if_cond (fun h => Lf_s ?_) (fun h => ?_)
  · have h := of_decide_eq_true h; simp only [markText]; rw [if_pos h]
  have h0 := of_decide_eq_false h
  refine ⟨⟨by omega, by omega, [], k.toNat, rfl, Nat.le_refl _, rfl, by simp⟩, ?_⟩
  rintro ⟨j, out, ⟨⟩⟩ ⟨h1, h2, l, d, rfl, hd, hm, hl⟩
  simp only
  have hz : ∀ l : List UInt8, (ByteArray.mk l.toArray).size = l.length := fun l => by simp [ByteArray.size]
  refine if_cond (fun h => ?_) (fun h => ?_)
  · have h := of_decide_eq_true h
    have ht : Int.tmod j 10 = j % 10 := Int.tmod_eq_emod_of_nonneg h1
    have hq : Int.tdiv j 10 = j / 10 := Int.tdiv_eq_ediv_of_nonneg h1
    have hu : IntKind.wrap .u8 (48 + j % 10) = 48 + j % 10 := by simp only [IntKind.wrap]; simp [IntKind.bits, IntKind.signed]; omega
    rw [ht, hq, wrap_i64 (by omega) (by omega), wrap_i64 (by omega) (by omega), hu]
    have hs : ∀ l : List UInt8, strOfNums (List.map (fun (x : Int) => x) [48 + j % 10]) ++ (⟨l.toArray⟩ : ByteArray) = ⟨((UInt8.ofNat (48 + j.toNat % 10)) :: l).toArray⟩ := fun l => by
      have e : (48 + j % 10).toNat = 48 + j.toNat % 10 := by omega
      simp only [strOfNums, List.map_cons, List.map_nil, e]
      apply ByteArray.ext
      simp
    have hs1 : (strOfNums (List.map (fun (x : Int) => x) [48 + j % 10])).size = 1 := rfl
    refine ⟨by omega, by erw [hs1]; rw [hz]; omega, by omega, ⟨by omega, by omega, _, d - 1, hs l, by omega, ?_, by simp only [List.length_cons]; omega⟩, by simp only [μ_laws_markText_4]; omega⟩
    rw [← hm]
    obtain ⟨d, rfl⟩ : ∃ e, d = e + 1 := ⟨d - 1, by omega⟩
    have e : (j / 10).toNat = j.toNat / 10 := by omega
    rw [e]
    simp only [Nat.add_sub_cancel, mtl]
    rw [if_neg (by omega)]
  · have h := of_decide_eq_false h
    have hj : j.toNat = 0 := by omega
    rw [hj, mtl_zero] at hm
    refine ⟨by rw [hz]; simp [ByteArray.size]; omega, Lf_s ?_⟩
    simp only [markText]
    rw [if_neg h0, ← hm]
    apply ByteArray.ext
    simp
def con_laws_toByteS : Con UU where
  α := (List Int)
  md := [.ro]
  of := fun | [.one (.sl .byte a0)] => some a0 | _ => none
  ds := fun a => [.one (.sl .byte a)]
  pre := fun a => [sizeByteS a ≤ 4294967296]
  res := fun a => ⟨[.one (.sl .byte a)], true, []⟩
  law := by intro l x h; (try simp only at h); split at h <;> cases h; rfl
def I_laws_toByteS_3 (a : (List Int)) : List Int × Int × Unit → Prop := fun (out, i, _) => 0 ≤ i ∧ i ≤ a.length ∧ out = a.take i.toNat ++ List.replicate (a.length - i.toNat) (0 : Int)
def μ_laws_toByteS_3 (a : (List Int)) : List Int × Int × Unit → Nat := fun (out, i, _) => a.length - i.toNat
def ann_laws_toByteS : con_laws_toByteS.α → Nat → Option (Ann UU) := fun a => annL [(3, annOf [.slot 3 (3, 1024) (.own .byte true), .slot 4 (4, 1024) (.lit (.int .i64))] (fun _ => I_laws_toByteS_3 a) (μ_laws_toByteS_3 a))]
def use_laws_toByteS : List (FuncId × Con UU) := []
theorem vc_laws_toByteS (a : (List Int)) : goal EE use_laws_toByteS Go.Proofs.Try.f5 con_laws_toByteS ann_laws_toByteS a = (let x0 : Int := (↑(List.length a) : Int);
(0 : Int) ≤ x0 ∧
  x0 = x0 ∧
    x0 ≤ (4294967296 : Int) ∧
      I_laws_toByteS_3 a (List.replicate (Int.toNat x0) (0 : Int), (0 : Int), PUnit.unit) ∧
        ∀ (y : List Int × Int × PUnit),
          let x1 : Nat := Int.toNat y.2.1;
          I_laws_toByteS_3 a y → bif decide (y.2.1 < x0) then (0 : Int) ≤ y.2.1 ∧ x1 < List.length a ∧ (0 : Int) ≤ y.2.1 ∧ x1 < List.length y.1 ∧ x1 < List.length y.1 ∧ I_laws_toByteS_3 a (List.set y.1 x1 (List.getD a x1 (0 : Int)), IntKind.wrap IntKind.i64 (y.2.1 + (1 : Int)), PUnit.unit) ∧ μ_laws_toByteS_3 a (List.set y.1 x1 (List.getD a x1 (0 : Int)), IntKind.wrap IntKind.i64 (y.2.1 + (1 : Int)), PUnit.unit) < μ_laws_toByteS_3 a y else Lf [DV.one (Cell.sl Cd.byte y.1)] [DV.one (Cell.sl Cd.byte a)]) := by kernel_rfl
theorem ok_laws_toByteS : Holds EE (5, con_laws_toByteS) := by
  refine holds_of EE_ok Go.Proofs.Try.func5 con_laws_toByteS (by kernel_rfl) use_laws_toByteS all_nil ann_laws_toByteS (fun (a : (List Int)) hp hb => ?_)
  have hb_a : BdDV (U := UU) (.one (.sl .byte a)) := hb _ (List.mem_cons_self)
  have hl_a : a.length ≤ 9223372036854775807 := Bd.len hb_a
  have hp0 : sizeByteS a ≤ 4294967296 := hp _ (List.mem_cons_self)
  clear hp hb
  rw [vc_laws_toByteS a]
  dsimp only
  have hlen : a.length ≤ 4294967296 := by simp only [sizeByteS] at hp0; omega
  refine ⟨by omega, rfl, by omega, ?_, ?_⟩
  · simp [I_laws_toByteS_3]
  rintro ⟨out, i, ⟨⟩⟩ ⟨h1, h2, rfl⟩
  simp only at *
  refine if_cond (fun hc => ?_) (fun hc => ?_)
  · have hc : i < a.length := by simpa using hc
    rw [wrap_i64 (by omega) (by omega), set_fill a (0 : Int) h1 hc]
    exact ⟨h1, by omega, h1, by simp; omega, by simp; omega, ⟨by omega, by omega, rfl⟩, by simp only [μ_laws_toByteS_3]; omega⟩
  · have hc : a.length ≤ i := by simpa using hc
    have e : i.toNat = a.length := by omega
    rw [e]; simp; exact Lf_rfl _
def con_laws_eqByteS : Con UU where
  α := (List Int) × (List Int)
  md := [.ro, .ro]
  of := fun | [.one (.sl .byte a0), .one (.sl .byte a1)] => some (a0, a1) | _ => none
  ds := fun (a, b) => [.one (.sl .byte a), .one (.sl .byte b)]
  pre := fun (a, b) => []
  res := fun (a, b) => ⟨[.one (.lit (.bool (decide (a = b))))], true, []⟩
  law := by intro l x h; (try simp only at h); split at h <;> cases h; rfl
def I_laws_eqByteS_4 (a : (List Int)) (b : (List Int)) : Int × Unit → Prop := fun (i, _) => 0 ≤ i ∧ i ≤ a.length ∧ a.length = b.length ∧ (a.drop i.toNat = b.drop i.toNat ↔ a = b)
def μ_laws_eqByteS_4 (a : (List Int)) (b : (List Int)) : Int × Unit → Nat := fun (i, _) => a.length - i.toNat
def ann_laws_eqByteS : con_laws_eqByteS.α → Nat → Option (Ann UU) := fun (a, b) => annL [(4, annOf [.slot 5 (5, 1024) (.lit (.int .i64))] (fun _ => I_laws_eqByteS_4 a b) (μ_laws_eqByteS_4 a b))]
def use_laws_eqByteS : List (FuncId × Con UU) := []
theorem vc_laws_eqByteS (a : (List Int)) (b : (List Int)) : goal EE use_laws_eqByteS Go.Proofs.Try.f8 con_laws_eqByteS ann_laws_eqByteS (a, b) = (bif (↑(List.length a) : Int) != (↑(List.length b) : Int) then Lf [DV.one (Cell.lit (Value.bool false))] [DV.one (Cell.lit (Value.bool (decide (a = b))))] else I_laws_eqByteS_4 a b ((0 : Int), PUnit.unit) ∧ ∀ (y : Int × PUnit), I_laws_eqByteS_4 a b y → bif decide (y.1 < (↑(List.length a) : Int)) then (0 : Int) ≤ y.1 ∧ Int.toNat y.1 < List.length a ∧ (0 : Int) ≤ y.1 ∧ Int.toNat y.1 < List.length b ∧ bif List.getD a (Int.toNat y.1) (0 : Int) != List.getD b (Int.toNat y.1) (0 : Int) then Lf [DV.one (Cell.lit (Value.bool false))] [DV.one (Cell.lit (Value.bool (decide (a = b))))] else I_laws_eqByteS_4 a b (IntKind.wrap IntKind.i64 (y.1 + (1 : Int)), PUnit.unit) ∧ μ_laws_eqByteS_4 a b (IntKind.wrap IntKind.i64 (y.1 + (1 : Int)), PUnit.unit) < μ_laws_eqByteS_4 a b y else Lf [DV.one (Cell.lit (Value.bool true))] [DV.one (Cell.lit (Value.bool (decide (a = b))))]) := by kernel_rfl
theorem ok_laws_eqByteS : Holds EE (8, con_laws_eqByteS) := by
  refine holds_of EE_ok Go.Proofs.Try.func8 con_laws_eqByteS (by kernel_rfl) use_laws_eqByteS all_nil ann_laws_eqByteS (fun x hp hb => ?_)
  obtain ⟨a, b⟩ := x
  have hb_a : BdDV (U := UU) (.one (.sl .byte a)) := hb _ (List.mem_cons_self)
  have hl_a : a.length ≤ 9223372036854775807 := Bd.len hb_a
  have hb_b : BdDV (U := UU) (.one (.sl .byte b)) := hb _ (List.mem_cons_of_mem _ (List.mem_cons_self))
  have hl_b : b.length ≤ 9223372036854775807 := Bd.len hb_b
  clear hp hb
  rw [vc_laws_eqByteS a b]
  refine if_cond (fun h => Lf_f ?_) (fun h => ⟨?_, ?_⟩)
  · rintro rfl; simp at h
  · simp [I_laws_eqByteS_4] at *; omega
  rintro ⟨i, ⟨⟩⟩ ⟨h1, h2, h3, hR⟩
  simp only at *
  refine if_cond (fun hc => ?_) (fun hc => ?_)
  · have hc : i < a.length := by simpa using hc
    rw [drop_step a (0 : Int) h1 hc, drop_step b (0 : Int) h1 (by omega)] at hR
    rw [wrap_i64 (by omega) (by omega)]
    refine ⟨by omega, by omega, by omega, by omega, if_cond (fun h => Lf_f ?_) (fun h => ⟨⟨by omega, by omega, h3, ?_⟩, ?_⟩)⟩
    · rw [← hR]; simp at h; simp [h]
    · rw [← hR]; simp at h; simp [h]
    · simp only [μ_laws_eqByteS_4]; omega
  · have hc : a.length ≤ i := by simpa using hc
    rw [drop_end a hc, drop_end b (by omega)] at hR
    exact Lf_t (hR.1 rfl)
def con_laws_markByteS : Con UU where
  α := (List Int) × Int
  md := [.wr, .ro]
  of := fun | [.one (.sl .byte a0), .one (.lit (.int .i64 a1))] => some (a0, a1) | _ => none
  ds := fun (a, k) => [.one (.sl .byte a), .one (.lit (.int .i64 k))]
  pre := fun (a, k) => [0 ≤ k, k + cntByteS a ≤ 4611686018427387904]
  res := fun (a, k) => ⟨[.one (.lit (.int .i64 (k + cntByteS a)))], true, [.one (.sl .byte (markByteS a k))]⟩
  law := by intro l x h; (try simp only at h); split at h <;> cases h; rfl
def I_laws_markByteS_2 (a : (List Int)) (k : Int) : List Int × Int × Int × Unit → Prop := fun (row, kk, i, _) => 0 ≤ i ∧ i ≤ a.length ∧ row = (mkS (fun _ k => markByte k) (fun _ => 1) a k).take i.toNat ++ a.drop i.toNat ∧ kk = k + ctS (fun _ => 1) (a.take i.toNat)
def μ_laws_markByteS_2 (a : (List Int)) (k : Int) : List Int × Int × Int × Unit → Nat := fun (row, kk, i, _) => a.length - i.toNat
def ann_laws_markByteS : con_laws_markByteS.α → Nat → Option (Ann UU) := fun (a, k) => annL [(2, annOf [.slot 0 (2000000, 0) (.own .byte true), .slot 1 (1, 1024) (.lit (.int .i64)), .slot 5 (5, 1024) (.lit (.int .i64))] (fun _ => I_laws_markByteS_2 a k) (μ_laws_markByteS_2 a k))]
def use_laws_markByteS : List (FuncId × Con UU) := []
theorem vc_laws_markByteS (a : (List Int)) (k : Int) : goal EE use_laws_markByteS Go.Proofs.Try.f9 con_laws_markByteS ann_laws_markByteS (a, k) = (I_laws_markByteS_2 a k (a, k, (0 : Int), PUnit.unit) ∧
  ∀ (y : List Int × Int × Int × PUnit),
    let x0 : Nat := Int.toNat y.2.2.1;
    I_laws_markByteS_2 a k y → bif decide (y.2.2.1 < (↑(List.length y.1) : Int)) then (0 : Int) ≤ y.2.2.1 ∧ x0 < List.length y.1 ∧ x0 < List.length y.1 ∧ I_laws_markByteS_2 a k (List.set y.1 x0 (IntKind.wrap IntKind.u8 y.2.1), IntKind.wrap IntKind.i64 (y.2.1 + (1 : Int)), IntKind.wrap IntKind.i64 (y.2.2.1 + (1 : Int)), PUnit.unit) ∧ μ_laws_markByteS_2 a k (List.set y.1 x0 (IntKind.wrap IntKind.u8 y.2.1), IntKind.wrap IntKind.i64 (y.2.1 + (1 : Int)), IntKind.wrap IntKind.i64 (y.2.2.1 + (1 : Int)), PUnit.unit) < μ_laws_markByteS_2 a k y else asD [DV.one (Cell.lit (Value.int IntKind.i64 y.2.1))] = asD [DV.one (Cell.lit (Value.int IntKind.i64 (k + (↑(cntByteS a) : Int))))] ∧ asD [DV.one (Cell.sl Cd.byte y.1)] = asD [DV.one (Cell.sl Cd.byte (markByteS a k))]) := by kernel_rfl
theorem ok_laws_markByteS : Holds EE (9, con_laws_markByteS) := by
  refine holds_of EE_ok Go.Proofs.Try.func9 con_laws_markByteS (by kernel_rfl) use_laws_markByteS all_nil ann_laws_markByteS (fun x hp hb => ?_)
  obtain ⟨a, k⟩ := x
  have hb_a : BdDV (U := UU) (.one (.sl .byte a)) := hb _ (List.mem_cons_self)
  have hl_a : a.length ≤ 9223372036854775807 := Bd.len hb_a
  have hb_k : BdDV (U := UU) (.one (.lit (.int .i64 k))) := hb _ (List.mem_cons_of_mem _ (List.mem_cons_self))
  have hl_k := Bd.i64 hb_k
  have hp0 : 0 ≤ k := hp _ (List.mem_cons_self)
  have hp1 : k + cntByteS a ≤ 4611686018427387904 := hp _ (List.mem_cons_of_mem _ (List.mem_cons_self))
  clear hp hb
  rw [vc_laws_markByteS a k]
  dsimp only
  refine ⟨⟨by omega, by omega, by simp, by simp [ctS]⟩, ?_⟩
  rintro ⟨row, kk, i, ⟨⟩⟩ ⟨h1, h2, rfl, rfl⟩
  simp only
  have hl := mk_rl (fun _ k => markByte k) (fun _ => 1) a k h1 h2
  refine if_cond (fun hc => ?_) (fun hc => ?_)
  · have hc : i < a.length := by have hc := of_decide_eq_true hc; omega
    have hct := ctS_take (fun _ => 1) a (0 : Int) h1 hc
    have hle := ctS_take_le (fun _ => 1) a (i + 1).toNat
    have hg := mk_getD _ a (0 : Int) (mk_tl (fun _ k => markByte k) (fun _ => 1) a k h1 h2) h1 hc
    have hM := mkS_step (fun _ k => markByte k) (fun _ => 1) a (0 : Int) k h1 hc
    have hq : (cntByteS a : Int) = ctS (fun _ => 1) a := rfl
    generalize List.getD a i.toNat (0 : Int) = x at *
    generalize hkk : k + (ctS (fun _ => 1) (a.take i.toNat) : Int) = kk at *
    generalize List.take i.toNat (mkS (fun _ k => markByte k) (fun _ => 1) a k) ++ List.drop i.toNat a = R at *
    simp (disch := first | omega | (simp only [List.length_modify]; omega)) only [List.length_modify, wrap_i64, getD_modify, modify_modify, hg, hl]
    repeat' (first | refine And.intro (by omega) ?_ | fail)
    exact ⟨⟨by omega, by omega, hM, by omega⟩, by simp only [μ_laws_markByteS_2]; omega⟩
  · have hc : a.length ≤ i := by have hc := of_decide_eq_false hc; omega
    rw [mk_done (fun _ k => markByte k) (fun _ => 1) a k hc, ct_done (fun _ => 1) a hc]
    exact ⟨rfl, rfl⟩
def con_laws_eqVal : Con UU where
  α := DVal × DVal
  md := [.ro, .ro]
  of := fun | [.agg [.lit (.int .i64 a0), .lit (.int .i64 a1), .lit (.string a2)], .agg [.lit (.int .i64 a3), .lit (.int .i64 a4), .lit (.string a5)]] => some (⟨a0, a1, a2⟩, ⟨a3, a4, a5⟩) | _ => none
  ds := fun (a, b) => [.agg [.lit (.int .i64 a.K), .lit (.int .i64 a.N), .lit (.string a.S)], .agg [.lit (.int .i64 b.K), .lit (.int .i64 b.N), .lit (.string b.S)]]
  pre := fun (a, b) => []
  res := fun (a, b) => ⟨[.one (.lit (.bool (decide (a = b))))], true, []⟩
  law := by intro l x h; (try simp only at h); split at h <;> cases h; rfl
def ann_laws_eqVal : con_laws_eqVal.α → Nat → Option (Ann UU) := fun (a, b) => annL []
def use_laws_eqVal : List (FuncId × Con UU) := []
theorem vc_laws_eqVal (a : DVal) (b : DVal) : goal EE use_laws_eqVal Go.Proofs.Try.f27 con_laws_eqVal ann_laws_eqVal (a, b) = (bif a.K != b.K then Lf [DV.one (Cell.lit (Value.bool false))] [DV.one (Cell.lit (Value.bool (decide (a = b))))] else bif a.N != b.N then Lf [DV.one (Cell.lit (Value.bool false))] [DV.one (Cell.lit (Value.bool (decide (a = b))))] else bif !ByteArray.toList a.S == ByteArray.toList b.S then Lf [DV.one (Cell.lit (Value.bool false))] [DV.one (Cell.lit (Value.bool (decide (a = b))))] else Lf [DV.one (Cell.lit (Value.bool true))] [DV.one (Cell.lit (Value.bool (decide (a = b))))]) := by kernel_rfl
theorem ok_laws_eqVal : Holds EE (27, con_laws_eqVal) := by
  refine holds_of EE_ok Go.Proofs.Try.func27 con_laws_eqVal (by kernel_rfl) use_laws_eqVal all_nil ann_laws_eqVal (fun x hp hb => ?_)
  obtain ⟨a, b⟩ := x
  have hb_a : BdDV (U := UU) (.agg [.lit (.int .i64 a.K), .lit (.int .i64 a.N), .lit (.string a.S)]) := hb _ (List.mem_cons_self)
  have hl_a_S : a.S.size ≤ 9223372036854775807 := Bd.str (hb_a _ (by simp))
  have hb_b : BdDV (U := UU) (.agg [.lit (.int .i64 b.K), .lit (.int .i64 b.N), .lit (.string b.S)]) := hb _ (List.mem_cons_of_mem _ (List.mem_cons_self))
  have hl_b_S : b.S.size ≤ 9223372036854775807 := Bd.str (hb_b _ (by simp))
  clear hp hb
  rw [vc_laws_eqVal a b]
  obtain ⟨aK, aN, aS⟩ := a
  obtain ⟨bK, bN, bS⟩ := b
  repeat' (apply if_cond <;> intro _)
  all_goals (first | apply Lf_t | apply Lf_f) <;> simp_all
def con_laws_eqValS : Con UU where
  α := (List DVal) × (List DVal)
  md := [.ro, .ro]
  of := fun | [.one (.sl .eVal a0), .one (.sl .eVal a1)] => some (a0, a1) | _ => none
  ds := fun (a, b) => [.one (.sl .eVal a), .one (.sl .eVal b)]
  pre := fun (a, b) => []
  res := fun (a, b) => ⟨[.one (.lit (.bool (decide (a = b))))], true, []⟩
  law := by intro l x h; (try simp only at h); split at h <;> cases h; rfl
def I_laws_eqValS_4 (a : (List DVal)) (b : (List DVal)) : Int × Unit → Prop := fun (i, _) => 0 ≤ i ∧ i ≤ a.length ∧ a.length = b.length ∧ (a.drop i.toNat = b.drop i.toNat ↔ a = b)
def μ_laws_eqValS_4 (a : (List DVal)) (b : (List DVal)) : Int × Unit → Nat := fun (i, _) => a.length - i.toNat
def ann_laws_eqValS : con_laws_eqValS.α → Nat → Option (Ann UU) := fun (a, b) => annL [(4, annOf [.slot 5 (5, 1024) (.lit (.int .i64))] (fun _ => I_laws_eqValS_4 a b) (μ_laws_eqValS_4 a b))]
def use_laws_eqValS : List (FuncId × Con UU) := [(27, con_laws_eqVal)]
theorem vc_laws_eqValS (a : (List DVal)) (b : (List DVal)) : goal EE use_laws_eqValS Go.Proofs.Try.f49 con_laws_eqValS ann_laws_eqValS (a, b) = (bif (↑(List.length a) : Int) != (↑(List.length b) : Int) then Lf [DV.one (Cell.lit (Value.bool false))] [DV.one (Cell.lit (Value.bool (decide (a = b))))] else I_laws_eqValS_4 a b ((0 : Int), PUnit.unit) ∧ ∀ (y : Int × PUnit), I_laws_eqValS_4 a b y → bif decide (y.1 < (↑(List.length a) : Int)) then (0 : Int) ≤ y.1 ∧ Int.toNat y.1 < List.length a ∧ (0 : Int) ≤ y.1 ∧ Int.toNat y.1 < List.length b ∧ bif !decide (List.getD a (Int.toNat y.1) zVal = List.getD b (Int.toNat y.1) zVal) then Lf [DV.one (Cell.lit (Value.bool false))] [DV.one (Cell.lit (Value.bool (decide (a = b))))] else I_laws_eqValS_4 a b (IntKind.wrap IntKind.i64 (y.1 + (1 : Int)), PUnit.unit) ∧ μ_laws_eqValS_4 a b (IntKind.wrap IntKind.i64 (y.1 + (1 : Int)), PUnit.unit) < μ_laws_eqValS_4 a b y else Lf [DV.one (Cell.lit (Value.bool true))] [DV.one (Cell.lit (Value.bool (decide (a = b))))]) := by kernel_rfl
theorem ok_laws_eqValS : Holds EE (49, con_laws_eqValS) := by
  refine holds_of EE_ok Go.Proofs.Try.func49 con_laws_eqValS (by kernel_rfl) use_laws_eqValS (all_cons ok_laws_eqVal all_nil) ann_laws_eqValS (fun x hp hb => ?_)
  obtain ⟨a, b⟩ := x
  have hb_a : BdDV (U := UU) (.one (.sl .eVal a)) := hb _ (List.mem_cons_self)
  have hl_a : a.length ≤ 9223372036854775807 := Bd.len hb_a
  have hb_b : BdDV (U := UU) (.one (.sl .eVal b)) := hb _ (List.mem_cons_of_mem _ (List.mem_cons_self))
  have hl_b : b.length ≤ 9223372036854775807 := Bd.len hb_b
  clear hp hb
  rw [vc_laws_eqValS a b]
  refine if_cond (fun h => Lf_f ?_) (fun h => ⟨?_, ?_⟩)
  · rintro rfl; simp at h
  · simp [I_laws_eqValS_4] at *; omega
  rintro ⟨i, ⟨⟩⟩ ⟨h1, h2, h3, hR⟩
  simp only at *
  refine if_cond (fun hc => ?_) (fun hc => ?_)
  · have hc : i < a.length := by simpa using hc
    rw [drop_step a zVal h1 hc, drop_step b zVal h1 (by omega)] at hR
    rw [wrap_i64 (by omega) (by omega)]
    refine ⟨by omega, by omega, by omega, by omega, if_cond (fun h => Lf_f ?_) (fun h => ⟨⟨by omega, by omega, h3, ?_⟩, ?_⟩)⟩
    · rw [← hR]; simp at h; simp [h]
    · rw [← hR]; simp at h; simp [h]
    · simp only [μ_laws_eqValS_4]; omega
  · have hc : a.length ≤ i := by simpa using hc
    rw [drop_end a hc, drop_end b (by omega)] at hR
    exact Lf_t (hR.1 rfl)
def con_laws_markValS : Con UU where
  α := (List DVal) × Int
  md := [.wr, .ro]
  of := fun | [.one (.sl .eVal a0), .one (.lit (.int .i64 a1))] => some (a0, a1) | _ => none
  ds := fun (a, k) => [.one (.sl .eVal a), .one (.lit (.int .i64 k))]
  pre := fun (a, k) => [0 ≤ k, k + cntValS a ≤ 4611686018427387904]
  res := fun (a, k) => ⟨[.one (.lit (.int .i64 (k + cntValS a)))], true, [.one (.sl .eVal (markValS a k))]⟩
  law := by intro l x h; (try simp only at h); split at h <;> cases h; rfl
def I_laws_markValS_2 (a : (List DVal)) (k : Int) : List DVal × Int × Int × Unit → Prop := fun (row, kk, i, _) => 0 ≤ i ∧ i ≤ a.length ∧ row = (mkS markVal cntVal a k).take i.toNat ++ a.drop i.toNat ∧ kk = k + ctS cntVal (a.take i.toNat)
def μ_laws_markValS_2 (a : (List DVal)) (k : Int) : List DVal × Int × Int × Unit → Nat := fun (row, kk, i, _) => a.length - i.toNat
def ann_laws_markValS : con_laws_markValS.α → Nat → Option (Ann UU) := fun (a, k) => annL [(2, annOf [.slot 0 (2000000, 0) (.own .eVal true), .slot 1 (1, 1024) (.lit (.int .i64)), .slot 5 (5, 1024) (.lit (.int .i64))] (fun _ => I_laws_markValS_2 a k) (μ_laws_markValS_2 a k))]
def use_laws_markValS : List (FuncId × Con UU) := [(59, con_laws_markText)]
theorem vc_laws_markValS (a : (List DVal)) (k : Int) : goal EE use_laws_markValS Go.Proofs.Try.f50 con_laws_markValS ann_laws_markValS (a, k) = (I_laws_markValS_2 a k (a, k, (0 : Int), PUnit.unit) ∧
  ∀ (y : List DVal × Int × Int × PUnit),
    let x0 : Nat := Int.toNat y.2.2.1;
    let x1 : Int := IntKind.wrap IntKind.i64 (IntKind.wrap IntKind.i64 (y.2.1 + (1 : Int)) + (1 : Int));
    let x2 : List DVal := List.modify (List.modify y.1 x0 fun (x : DVal) => { K := y.2.1, N := x.N, S := x.S : DVal }) x0 fun (x : DVal) => { K := x.K, N := IntKind.wrap IntKind.i64 (y.2.1 + (1 : Int)), S := x.S : DVal };
    I_laws_markValS_2 a k y → bif decide (y.2.2.1 < (↑(List.length y.1) : Int)) then (0 : Int) ≤ y.2.2.1 ∧ x0 < List.length y.1 ∧ x0 < List.length y.1 ∧ (0 : Int) ≤ y.2.2.1 ∧ x0 < List.length (List.modify y.1 x0 fun (x : DVal) => { K := y.2.1, N := x.N, S := x.S : DVal }) ∧ x0 < List.length (List.modify y.1 x0 fun (x : DVal) => { K := y.2.1, N := x.N, S := x.S : DVal }) ∧ x1 ≤ (4611686018427387903 : Int) ∧ (0 : Int) ≤ y.2.2.1 ∧ x0 < List.length x2 ∧ x0 < List.length x2 ∧ I_laws_markValS_2 a k (List.modify x2 x0 fun (x : DVal) => { K := x.K, N := x.N, S := markText x1 : DVal }, IntKind.wrap IntKind.i64 (x1 + (1 : Int)), IntKind.wrap IntKind.i64 (y.2.2.1 + (1 : Int)), PUnit.unit) ∧ μ_laws_markValS_2 a k (List.modify x2 x0 fun (x : DVal) => { K := x.K, N := x.N, S := markText x1 : DVal }, IntKind.wrap IntKind.i64 (x1 + (1 : Int)), IntKind.wrap IntKind.i64 (y.2.2.1 + (1 : Int)), PUnit.unit) < μ_laws_markValS_2 a k y else asD [DV.one (Cell.lit (Value.int IntKind.i64 y.2.1))] = asD [DV.one (Cell.lit (Value.int IntKind.i64 (k + (↑(cntValS a) : Int))))] ∧ asD [DV.one (Cell.sl Cd.eVal y.1)] = asD [DV.one (Cell.sl Cd.eVal (markValS a k))]) := by kernel_rfl
theorem ok_laws_markValS : Holds EE (50, con_laws_markValS) := by
  refine holds_of EE_ok Go.Proofs.Try.func50 con_laws_markValS (by kernel_rfl) use_laws_markValS (all_cons ok_laws_markText all_nil) ann_laws_markValS (fun x hp hb => ?_)
  obtain ⟨a, k⟩ := x
  have hb_a : BdDV (U := UU) (.one (.sl .eVal a)) := hb _ (List.mem_cons_self)
  have hl_a : a.length ≤ 9223372036854775807 := Bd.len hb_a
  have hb_k : BdDV (U := UU) (.one (.lit (.int .i64 k))) := hb _ (List.mem_cons_of_mem _ (List.mem_cons_self))
  have hl_k := Bd.i64 hb_k
  have hp0 : 0 ≤ k := hp _ (List.mem_cons_self)
  have hp1 : k + cntValS a ≤ 4611686018427387904 := hp _ (List.mem_cons_of_mem _ (List.mem_cons_self))
  clear hp hb
  rw [vc_laws_markValS a k]
  dsimp only
  refine ⟨⟨by omega, by omega, by simp, by simp [ctS]⟩, ?_⟩
  rintro ⟨row, kk, i, ⟨⟩⟩ ⟨h1, h2, rfl, rfl⟩
  simp only
  have hl := mk_rl markVal cntVal a k h1 h2
  refine if_cond (fun hc => ?_) (fun hc => ?_)
  · have hc : i < a.length := by have hc := of_decide_eq_true hc; omega
    have hct := ctS_take cntVal a zVal h1 hc
    have hle := ctS_take_le cntVal a (i + 1).toNat
    have hg := mk_getD _ a zVal (mk_tl markVal cntVal a k h1 h2) h1 hc
    have hM := fun F hF => mkS_mod markVal cntVal a zVal k (i := i) F h1 hc hF
    have hq : (cntValS a : Int) = ctS cntVal a := rfl
    generalize List.getD a i.toNat zVal = x at *
    generalize hkk : k + (ctS cntVal (a.take i.toNat) : Int) = kk at *
    generalize List.take i.toNat (mkS markVal cntVal a k) ++ List.drop i.toNat a = R at *
    simp only [cntVal] at hct
    simp (disch := first | omega | (simp only [List.length_modify]; omega)) only [List.length_modify, wrap_i64, getD_modify, modify_modify, hg, hl]
    repeat' (first | refine And.intro (by omega) ?_ | fail)
    exact ⟨⟨by omega, by omega, hM _ rfl, by omega⟩, by simp only [μ_laws_markValS_2]; omega⟩
  · have hc : a.length ≤ i := by have hc := of_decide_eq_false hc; omega
    rw [mk_done markVal cntVal a k hc, ct_done cntVal a hc]
    exact ⟨rfl, rfl⟩
def con_laws_heldValS : Con UU where
  α := (List DVal) × Int
  md := [.ro, .ro]
  of := fun | [.one (.sl .eVal a0), .one (.lit (.int .i64 a1))] => some (a0, a1) | _ => none
  ds := fun (a, k) => [.one (.sl .eVal a), .one (.lit (.int .i64 k))]
  pre := fun (a, k) => [0 ≤ k, k + cntValS a ≤ 4611686018427387904]
  res := fun (a, k) => ⟨[.one (.lit (.int .i64 (if markValS a k = a then k + cntValS a else -1)))], true, []⟩
  law := by intro l x h; (try simp only at h); split at h <;> cases h; rfl
def I_laws_heldValS_2 (a : (List DVal)) (k : Int) : Int × Int × Unit → Prop := fun (kk, i, _) => 0 ≤ i ∧ i ≤ a.length ∧ kk = k + ctS cntVal (a.take i.toNat) ∧ (mkS markVal cntVal (a.drop i.toNat) kk = a.drop i.toNat ↔ mkS markVal cntVal a k = a)
def μ_laws_heldValS_2 (a : (List DVal)) (k : Int) : Int × Int × Unit → Nat := fun (kk, i, _) => a.length - i.toNat
def ann_laws_heldValS : con_laws_heldValS.α → Nat → Option (Ann UU) := fun (a, k) => annL [(2, annOf [.slot 1 (1, 1024) (.lit (.int .i64)), .slot 5 (5, 1024) (.lit (.int .i64))] (fun _ => I_laws_heldValS_2 a k) (μ_laws_heldValS_2 a k))]
def use_laws_heldValS : List (FuncId × Con UU) := [(59, con_laws_markText)]
theorem vc_laws_heldValS (a : (List DVal)) (k : Int) : goal EE use_laws_heldValS Go.Proofs.Try.f51 con_laws_heldValS ann_laws_heldValS (a, k) = (I_laws_heldValS_2 a k (k, (0 : Int), PUnit.unit) ∧
  ∀ (y : Int × Int × PUnit),
    let x0 : DVal := List.getD a (Int.toNat y.2.1) zVal;
    let x1 : Int := IntKind.wrap IntKind.i64 (IntKind.wrap IntKind.i64 (y.1 + (1 : Int)) + (1 : Int));
    I_laws_heldValS_2 a k y → bif decide (y.2.1 < (↑(List.length a) : Int)) then (0 : Int) ≤ y.2.1 ∧ Int.toNat y.2.1 < List.length a ∧ bif x0.K != y.1 then Lf [DV.one (Cell.lit (Value.int IntKind.i64 (-1 : Int)))] [DV.one (Cell.lit (Value.int IntKind.i64 (if markValS a k = a then k + (↑(cntValS a) : Int) else (-1 : Int))))] else (0 : Int) ≤ y.2.1 ∧ Int.toNat y.2.1 < List.length a ∧ bif x0.N != IntKind.wrap IntKind.i64 (y.1 + (1 : Int)) then Lf [DV.one (Cell.lit (Value.int IntKind.i64 (-1 : Int)))] [DV.one (Cell.lit (Value.int IntKind.i64 (if markValS a k = a then k + (↑(cntValS a) : Int) else (-1 : Int))))] else (0 : Int) ≤ y.2.1 ∧ Int.toNat y.2.1 < List.length a ∧ x1 ≤ (4611686018427387903 : Int) ∧ bif !ByteArray.toList x0.S == ByteArray.toList (markText x1) then Lf [DV.one (Cell.lit (Value.int IntKind.i64 (-1 : Int)))] [DV.one (Cell.lit (Value.int IntKind.i64 (if markValS a k = a then k + (↑(cntValS a) : Int) else (-1 : Int))))] else I_laws_heldValS_2 a k (IntKind.wrap IntKind.i64 (x1 + (1 : Int)), IntKind.wrap IntKind.i64 (y.2.1 + (1 : Int)), PUnit.unit) ∧ μ_laws_heldValS_2 a k (IntKind.wrap IntKind.i64 (x1 + (1 : Int)), IntKind.wrap IntKind.i64 (y.2.1 + (1 : Int)), PUnit.unit) < μ_laws_heldValS_2 a k y else Lf [DV.one (Cell.lit (Value.int IntKind.i64 y.1))] [DV.one (Cell.lit (Value.int IntKind.i64 (if markValS a k = a then k + (↑(cntValS a) : Int) else (-1 : Int))))]) := by kernel_rfl
theorem ok_laws_heldValS : Holds EE (51, con_laws_heldValS) := by
  refine holds_of EE_ok Go.Proofs.Try.func51 con_laws_heldValS (by kernel_rfl) use_laws_heldValS (all_cons ok_laws_markText all_nil) ann_laws_heldValS (fun x hp hb => ?_)
  obtain ⟨a, k⟩ := x
  have hb_a : BdDV (U := UU) (.one (.sl .eVal a)) := hb _ (List.mem_cons_self)
  have hl_a : a.length ≤ 9223372036854775807 := Bd.len hb_a
  have hb_k : BdDV (U := UU) (.one (.lit (.int .i64 k))) := hb _ (List.mem_cons_of_mem _ (List.mem_cons_self))
  have hl_k := Bd.i64 hb_k
  have hp0 : 0 ≤ k := hp _ (List.mem_cons_self)
  have hp1 : k + cntValS a ≤ 4611686018427387904 := hp _ (List.mem_cons_of_mem _ (List.mem_cons_self))
  clear hp hb
  rw [vc_laws_heldValS a k]
  dsimp only
  refine ⟨⟨by omega, by omega, by simp [ctS], by simp⟩, ?_⟩
  rintro ⟨kk, i, ⟨⟩⟩ ⟨h1, h2, hkk, hR⟩
  simp only
  simp only [markValS]
  refine if_cond (fun hc => ?_) (fun hc => ?_)
  · have hc : i < a.length := by have hc := of_decide_eq_true hc; omega
    have hct := ctS_take cntVal a zVal h1 hc
    have hle := ctS_take_le cntVal a (i + 1).toNat
    have hq : (cntValS a : Int) = ctS cntVal a := rfl
    rw [drop_step a zVal h1 hc] at hR
    generalize List.getD a i.toNat zVal = x at *
    simp only [mkS, List.cons.injEq] at hR
    have e : kk + (cntVal x : Int) = kk + 1 + 1 + 1 := by simp only [cntVal]; omega
    rw [e] at hR
    simp only [markVal, cntVal] at hR hct
    simp (disch := omega) only [wrap_i64, bne_int, toList_beq]
    obtain ⟨x_K, x_N, x_S⟩ := x
    simp only [DVal.mk.injEq] at *
    repeat' (first | refine And.intro (by omega) ?_ | fail)
    refine if_cond (fun h => Lf_no (fun hh => ?_)) (fun h => ?_)
    · have hh := hR.2 hh; simp_all
    have h : x_K = kk := by simpa using h
    subst x_K
    repeat' (first | refine And.intro (by omega) ?_ | fail)
    refine if_cond (fun h => Lf_no (fun hh => ?_)) (fun h => ?_)
    · have hh := hR.2 hh; simp_all
    have h : x_N = kk + 1 := by simpa using h
    subst x_N
    repeat' (first | refine And.intro (by omega) ?_ | fail)
    refine if_cond (fun h => Lf_no (fun hh => ?_)) (fun h => ?_)
    · have hh := hR.2 hh; simp_all
    have h : x_S = markText (kk + 1 + 1) := by simpa using h
    subst x_S
    exact ⟨⟨by omega, by omega, by omega, by simpa using hR⟩, by simp only [μ_laws_heldValS_2]; omega⟩
  · have hc : a.length ≤ i := by have hc := of_decide_eq_false hc; omega
    rw [drop_end a hc] at hR
    exact Lf_yes (hR.1 rfl) (by rw [hkk, ct_done _ _ hc]; rfl)
def con_laws_eqFact : Con UU where
  α := DFact × DFact
  md := [.ro, .ro]
  of := fun | [.agg [.lit (.string a0), .sl .eVal a1], .agg [.lit (.string a2), .sl .eVal a3]] => some (⟨a0, a1⟩, ⟨a2, a3⟩) | _ => none
  ds := fun (a, b) => [.agg [.lit (.string a.Kind), .sl .eVal a.Fields], .agg [.lit (.string b.Kind), .sl .eVal b.Fields]]
  pre := fun (a, b) => []
  res := fun (a, b) => ⟨[.one (.lit (.bool (decide (a = b))))], true, []⟩
  law := by intro l x h; (try simp only at h); split at h <;> cases h; rfl
def ann_laws_eqFact : con_laws_eqFact.α → Nat → Option (Ann UU) := fun (a, b) => annL []
def use_laws_eqFact : List (FuncId × Con UU) := [(49, con_laws_eqValS)]
theorem vc_laws_eqFact (a : DFact) (b : DFact) : goal EE use_laws_eqFact Go.Proofs.Try.f26 con_laws_eqFact ann_laws_eqFact (a, b) = (bif !ByteArray.toList a.Kind == ByteArray.toList b.Kind then Lf [DV.one (Cell.lit (Value.bool false))] [DV.one (Cell.lit (Value.bool (decide (a = b))))] else bif !decide (a.Fields = b.Fields) then Lf [DV.one (Cell.lit (Value.bool false))] [DV.one (Cell.lit (Value.bool (decide (a = b))))] else Lf [DV.one (Cell.lit (Value.bool true))] [DV.one (Cell.lit (Value.bool (decide (a = b))))]) := by kernel_rfl
theorem ok_laws_eqFact : Holds EE (26, con_laws_eqFact) := by
  refine holds_of EE_ok Go.Proofs.Try.func26 con_laws_eqFact (by kernel_rfl) use_laws_eqFact (all_cons ok_laws_eqValS all_nil) ann_laws_eqFact (fun x hp hb => ?_)
  obtain ⟨a, b⟩ := x
  have hb_a : BdDV (U := UU) (.agg [.lit (.string a.Kind), .sl .eVal a.Fields]) := hb _ (List.mem_cons_self)
  have hl_a_Kind : a.Kind.size ≤ 9223372036854775807 := Bd.str (hb_a _ (by simp))
  have hl_a_Fields : a.Fields.length ≤ 9223372036854775807 := Bd.len (U := UU) (τ := .eVal) (xs := a.Fields) (hb_a _ (by simp))
  have hb_b : BdDV (U := UU) (.agg [.lit (.string b.Kind), .sl .eVal b.Fields]) := hb _ (List.mem_cons_of_mem _ (List.mem_cons_self))
  have hl_b_Kind : b.Kind.size ≤ 9223372036854775807 := Bd.str (hb_b _ (by simp))
  have hl_b_Fields : b.Fields.length ≤ 9223372036854775807 := Bd.len (U := UU) (τ := .eVal) (xs := b.Fields) (hb_b _ (by simp))
  clear hp hb
  rw [vc_laws_eqFact a b]
  obtain ⟨aKind, aFields⟩ := a
  obtain ⟨bKind, bFields⟩ := b
  repeat' (apply if_cond <;> intro _)
  all_goals (first | apply Lf_t | apply Lf_f) <;> simp_all
def con_laws_markFact : Con UU where
  α := DFact × Int
  md := [.wr, .ro]
  of := fun | [.agg [.lit (.string a0), .sl .eVal a1], .one (.lit (.int .i64 a2))] => some (⟨a0, a1⟩, a2) | _ => none
  ds := fun (a, k) => [.agg [.lit (.string a.Kind), .sl .eVal a.Fields], .one (.lit (.int .i64 k))]
  pre := fun (a, k) => [0 ≤ k, k + ctFact a ≤ 4611686018427387904]
  res := fun (a, k) => ⟨[.one (.lit (.int .i64 (k + ctFact a)))], true, [.agg [.lit (.string ((mkFact a k)).Kind), .sl .eVal ((mkFact a k)).Fields]]⟩
  law := by intro l x h; (try simp only at h); split at h <;> cases h; rfl
def ann_laws_markFact : con_laws_markFact.α → Nat → Option (Ann UU) := fun (a, k) => annL []
def use_laws_markFact : List (FuncId × Con UU) := [(50, con_laws_markValS)]
theorem vc_laws_markFact (a : DFact) (k : Int) : goal EE use_laws_markFact Go.Proofs.Try.f28 con_laws_markFact ann_laws_markFact (a, k) = ((0 : Int) ≤ k ∧ k + (↑(cntValS a.Fields) : Int) ≤ (4611686018427387904 : Int) ∧ asD [DV.one (Cell.lit (Value.int IntKind.i64 (k + (↑(cntValS a.Fields) : Int))))] = asD [DV.one (Cell.lit (Value.int IntKind.i64 (k + (↑(ctFact a) : Int))))] ∧ asD [DV.agg [Cell.lit (Value.string a.Kind), Cell.sl Cd.eVal (markValS a.Fields k)]] = asD [DV.agg [Cell.lit (Value.string (mkFact a k).Kind), Cell.sl Cd.eVal (mkFact a k).Fields]]) := by kernel_rfl
theorem ok_laws_markFact : Holds EE (28, con_laws_markFact) := by
  refine holds_of EE_ok Go.Proofs.Try.func28 con_laws_markFact (by kernel_rfl) use_laws_markFact (all_cons ok_laws_markValS all_nil) ann_laws_markFact (fun x hp hb => ?_)
  obtain ⟨a, k⟩ := x
  have hb_a : BdDV (U := UU) (.agg [.lit (.string a.Kind), .sl .eVal a.Fields]) := hb _ (List.mem_cons_self)
  have hl_a_Kind : a.Kind.size ≤ 9223372036854775807 := Bd.str (hb_a _ (by simp))
  have hl_a_Fields : a.Fields.length ≤ 9223372036854775807 := Bd.len (U := UU) (τ := .eVal) (xs := a.Fields) (hb_a _ (by simp))
  have hb_k : BdDV (U := UU) (.one (.lit (.int .i64 k))) := hb _ (List.mem_cons_of_mem _ (List.mem_cons_self))
  have hl_k := Bd.i64 hb_k
  have hp0 : 0 ≤ k := hp _ (List.mem_cons_self)
  have hp1 : k + ctFact a ≤ 4611686018427387904 := hp _ (List.mem_cons_of_mem _ (List.mem_cons_self))
  clear hp hb
  rw [vc_laws_markFact a k]
  simp only [ctFact] at hp1
  repeat' (first | refine And.intro (by omega) ?_ | fail)
  exact ⟨by simp only [ctFact, Int.natCast_add, Int.add_assoc], rfl⟩
def con_laws_heldFact : Con UU where
  α := DFact × Int
  md := [.ro, .ro]
  of := fun | [.agg [.lit (.string a0), .sl .eVal a1], .one (.lit (.int .i64 a2))] => some (⟨a0, a1⟩, a2) | _ => none
  ds := fun (a, k) => [.agg [.lit (.string a.Kind), .sl .eVal a.Fields], .one (.lit (.int .i64 k))]
  pre := fun (a, k) => [0 ≤ k, k + ctFact a ≤ 4611686018427387904]
  res := fun (a, k) => ⟨[.one (.lit (.int .i64 (if mkFact a k = a then k + ctFact a else -1)))], true, []⟩
  law := by intro l x h; (try simp only at h); split at h <;> cases h; rfl
def ann_laws_heldFact : con_laws_heldFact.α → Nat → Option (Ann UU) := fun (a, k) => annL []
def use_laws_heldFact : List (FuncId × Con UU) := [(51, con_laws_heldValS)]
theorem vc_laws_heldFact (a : DFact) (k : Int) : goal EE use_laws_heldFact Go.Proofs.Try.f29 con_laws_heldFact ann_laws_heldFact (a, k) = (let x0 : Int := if markValS a.Fields k = a.Fields then k + (↑(cntValS a.Fields) : Int) else (-1 : Int);
(0 : Int) ≤ k ∧ k + (↑(cntValS a.Fields) : Int) ≤ (4611686018427387904 : Int) ∧ bif decide (x0 < (0 : Int)) then Lf [DV.one (Cell.lit (Value.int IntKind.i64 (-1 : Int)))] [DV.one (Cell.lit (Value.int IntKind.i64 (if mkFact a k = a then k + (↑(ctFact a) : Int) else (-1 : Int))))] else Lf [DV.one (Cell.lit (Value.int IntKind.i64 x0))] [DV.one (Cell.lit (Value.int IntKind.i64 (if mkFact a k = a then k + (↑(ctFact a) : Int) else (-1 : Int))))]) := by kernel_rfl
theorem ok_laws_heldFact : Holds EE (29, con_laws_heldFact) := by
  refine holds_of EE_ok Go.Proofs.Try.func29 con_laws_heldFact (by kernel_rfl) use_laws_heldFact (all_cons ok_laws_heldValS all_nil) ann_laws_heldFact (fun x hp hb => ?_)
  obtain ⟨a, k⟩ := x
  have hb_a : BdDV (U := UU) (.agg [.lit (.string a.Kind), .sl .eVal a.Fields]) := hb _ (List.mem_cons_self)
  have hl_a_Kind : a.Kind.size ≤ 9223372036854775807 := Bd.str (hb_a _ (by simp))
  have hl_a_Fields : a.Fields.length ≤ 9223372036854775807 := Bd.len (U := UU) (τ := .eVal) (xs := a.Fields) (hb_a _ (by simp))
  have hb_k : BdDV (U := UU) (.one (.lit (.int .i64 k))) := hb _ (List.mem_cons_of_mem _ (List.mem_cons_self))
  have hl_k := Bd.i64 hb_k
  have hp0 : 0 ≤ k := hp _ (List.mem_cons_self)
  have hp1 : k + ctFact a ≤ 4611686018427387904 := hp _ (List.mem_cons_of_mem _ (List.mem_cons_self))
  clear hp hb
  rw [vc_laws_heldFact a k]
  dsimp only
  simp only [ctFact] at hp1
  repeat' (first | refine And.intro (by omega) ?_ | fail)
  by_cases hm1 : markValS a.Fields (k) = a.Fields
  rotate_left
  · simp only [if_neg hm1]; rw [cond_yes (by decide)]
    exact Lf_no (fun hh => hm1 (congrArg (fun t : DFact => t.Fields) hh))
  simp only [if_pos hm1]
  refine if_cond (fun h => absurd (of_decide_eq_true h) (by omega)) (fun h => ?_)
  exact Lf_yes (by simp only [mkFact, hm1]) (by simp only [ctFact]; try omega)
def con_laws_eqOp : Con UU where
  α := DOp × DOp
  md := [.ro, .ro]
  of := fun | [.agg [.lit (.int .i64 a0), .lit (.string a1), .lit (.string a2), .lit (.string a3), .sl .eVal a4, .lit (.string a5), .lit (.bool a6), .lit (.int .i64 a7), .lit (.int .i64 a8), .lit (.string a9), .lit (.int .i64 a10)], .agg [.lit (.int .i64 a11), .lit (.string a12), .lit (.string a13), .lit (.string a14), .sl .eVal a15, .lit (.string a16), .lit (.bool a17), .lit (.int .i64 a18), .lit (.int .i64 a19), .lit (.string a20), .lit (.int .i64 a21)]] => some (⟨a0, a1, a2, ⟨a3, a4⟩, a5, a6, ⟨a7, a8, a9⟩, a10⟩, ⟨a11, a12, a13, ⟨a14, a15⟩, a16, a17, ⟨a18, a19, a20⟩, a21⟩) | _ => none
  ds := fun (a, b) => [.agg [.lit (.int .i64 a.Kind), .lit (.string a.Name), .lit (.string a.Text), .lit (.string a.F.Kind), .sl .eVal a.F.Fields, .lit (.string a.Key), .lit (.bool a.Ok), .lit (.int .i64 a.V.K), .lit (.int .i64 a.V.N), .lit (.string a.V.S), .lit (.int .i64 a.N)], .agg [.lit (.int .i64 b.Kind), .lit (.string b.Name), .lit (.string b.Text), .lit (.string b.F.Kind), .sl .eVal b.F.Fields, .lit (.string b.Key), .lit (.bool b.Ok), .lit (.int .i64 b.V.K), .lit (.int .i64 b.V.N), .lit (.string b.V.S), .lit (.int .i64 b.N)]]
  pre := fun (a, b) => []
  res := fun (a, b) => ⟨[.one (.lit (.bool (decide (a = b))))], true, []⟩
  law := by intro l x h; (try simp only at h); split at h <;> cases h; rfl
def ann_laws_eqOp : con_laws_eqOp.α → Nat → Option (Ann UU) := fun (a, b) => annL []
def use_laws_eqOp : List (FuncId × Con UU) := [(26, con_laws_eqFact), (27, con_laws_eqVal)]
theorem vc_laws_eqOp (a : DOp) (b : DOp) : goal EE use_laws_eqOp Go.Proofs.Try.f7 con_laws_eqOp ann_laws_eqOp (a, b) = (bif a.Kind != b.Kind then Lf [DV.one (Cell.lit (Value.bool false))] [DV.one (Cell.lit (Value.bool (decide (a = b))))] else bif !ByteArray.toList a.Name == ByteArray.toList b.Name then Lf [DV.one (Cell.lit (Value.bool false))] [DV.one (Cell.lit (Value.bool (decide (a = b))))] else bif !ByteArray.toList a.Text == ByteArray.toList b.Text then Lf [DV.one (Cell.lit (Value.bool false))] [DV.one (Cell.lit (Value.bool (decide (a = b))))] else bif !decide (a.F = b.F) then Lf [DV.one (Cell.lit (Value.bool false))] [DV.one (Cell.lit (Value.bool (decide (a = b))))] else bif !ByteArray.toList a.Key == ByteArray.toList b.Key then Lf [DV.one (Cell.lit (Value.bool false))] [DV.one (Cell.lit (Value.bool (decide (a = b))))] else bif !a.Ok == b.Ok then Lf [DV.one (Cell.lit (Value.bool false))] [DV.one (Cell.lit (Value.bool (decide (a = b))))] else bif !decide (a.V = b.V) then Lf [DV.one (Cell.lit (Value.bool false))] [DV.one (Cell.lit (Value.bool (decide (a = b))))] else bif a.N != b.N then Lf [DV.one (Cell.lit (Value.bool false))] [DV.one (Cell.lit (Value.bool (decide (a = b))))] else Lf [DV.one (Cell.lit (Value.bool true))] [DV.one (Cell.lit (Value.bool (decide (a = b))))]) := by kernel_rfl
theorem ok_laws_eqOp : Holds EE (7, con_laws_eqOp) := by
  refine holds_of EE_ok Go.Proofs.Try.func7 con_laws_eqOp (by kernel_rfl) use_laws_eqOp (all_cons ok_laws_eqFact (all_cons ok_laws_eqVal all_nil)) ann_laws_eqOp (fun x hp hb => ?_)
  obtain ⟨a, b⟩ := x
  have hb_a : BdDV (U := UU) (.agg [.lit (.int .i64 a.Kind), .lit (.string a.Name), .lit (.string a.Text), .lit (.string a.F.Kind), .sl .eVal a.F.Fields, .lit (.string a.Key), .lit (.bool a.Ok), .lit (.int .i64 a.V.K), .lit (.int .i64 a.V.N), .lit (.string a.V.S), .lit (.int .i64 a.N)]) := hb _ (List.mem_cons_self)
  have hl_a_Name : a.Name.size ≤ 9223372036854775807 := Bd.str (hb_a _ (by simp))
  have hl_a_Text : a.Text.size ≤ 9223372036854775807 := Bd.str (hb_a _ (by simp))
  have hl_a_F_Kind : a.F.Kind.size ≤ 9223372036854775807 := Bd.str (hb_a _ (by simp))
  have hl_a_F_Fields : a.F.Fields.length ≤ 9223372036854775807 := Bd.len (U := UU) (τ := .eVal) (xs := a.F.Fields) (hb_a _ (by simp))
  have hl_a_Key : a.Key.size ≤ 9223372036854775807 := Bd.str (hb_a _ (by simp))
  have hl_a_V_S : a.V.S.size ≤ 9223372036854775807 := Bd.str (hb_a _ (by simp))
  have hb_b : BdDV (U := UU) (.agg [.lit (.int .i64 b.Kind), .lit (.string b.Name), .lit (.string b.Text), .lit (.string b.F.Kind), .sl .eVal b.F.Fields, .lit (.string b.Key), .lit (.bool b.Ok), .lit (.int .i64 b.V.K), .lit (.int .i64 b.V.N), .lit (.string b.V.S), .lit (.int .i64 b.N)]) := hb _ (List.mem_cons_of_mem _ (List.mem_cons_self))
  have hl_b_Name : b.Name.size ≤ 9223372036854775807 := Bd.str (hb_b _ (by simp))
  have hl_b_Text : b.Text.size ≤ 9223372036854775807 := Bd.str (hb_b _ (by simp))
  have hl_b_F_Kind : b.F.Kind.size ≤ 9223372036854775807 := Bd.str (hb_b _ (by simp))
  have hl_b_F_Fields : b.F.Fields.length ≤ 9223372036854775807 := Bd.len (U := UU) (τ := .eVal) (xs := b.F.Fields) (hb_b _ (by simp))
  have hl_b_Key : b.Key.size ≤ 9223372036854775807 := Bd.str (hb_b _ (by simp))
  have hl_b_V_S : b.V.S.size ≤ 9223372036854775807 := Bd.str (hb_b _ (by simp))
  clear hp hb
  rw [vc_laws_eqOp a b]
  obtain ⟨aKind, aName, aText, aF, aKey, aOk, aV, aN⟩ := a
  obtain ⟨bKind, bName, bText, bF, bKey, bOk, bV, bN⟩ := b
  repeat' (apply if_cond <;> intro _)
  all_goals (first | apply Lf_t | apply Lf_f) <;> simp_all
def con_laws_markOp : Con UU where
  α := DOp × Int
  md := [.wr, .ro]
  of := fun | [.agg [.lit (.int .i64 a0), .lit (.string a1), .lit (.string a2), .lit (.string a3), .sl .eVal a4, .lit (.string a5), .lit (.bool a6), .lit (.int .i64 a7), .lit (.int .i64 a8), .lit (.string a9), .lit (.int .i64 a10)], .one (.lit (.int .i64 a11))] => some (⟨a0, a1, a2, ⟨a3, a4⟩, a5, a6, ⟨a7, a8, a9⟩, a10⟩, a11) | _ => none
  ds := fun (a, k) => [.agg [.lit (.int .i64 a.Kind), .lit (.string a.Name), .lit (.string a.Text), .lit (.string a.F.Kind), .sl .eVal a.F.Fields, .lit (.string a.Key), .lit (.bool a.Ok), .lit (.int .i64 a.V.K), .lit (.int .i64 a.V.N), .lit (.string a.V.S), .lit (.int .i64 a.N)], .one (.lit (.int .i64 k))]
  pre := fun (a, k) => [0 ≤ k, k + ctOp a ≤ 4611686018427387904]
  res := fun (a, k) => ⟨[.one (.lit (.int .i64 (k + ctOp a)))], true, [.agg [.lit (.int .i64 ((mkOp a k)).Kind), .lit (.string ((mkOp a k)).Name), .lit (.string ((mkOp a k)).Text), .lit (.string (((mkOp a k)).F).Kind), .sl .eVal (((mkOp a k)).F).Fields, .lit (.string ((mkOp a k)).Key), .lit (.bool ((mkOp a k)).Ok), .lit (.int .i64 (((mkOp a k)).V).K), .lit (.int .i64 (((mkOp a k)).V).N), .lit (.string (((mkOp a k)).V).S), .lit (.int .i64 ((mkOp a k)).N)]]⟩
  law := by intro l x h; (try simp only at h); split at h <;> cases h; rfl
def ann_laws_markOp : con_laws_markOp.α → Nat → Option (Ann UU) := fun (a, k) => annL []
def use_laws_markOp : List (FuncId × Con UU) := [(28, con_laws_markFact)]
theorem vc_laws_markOp (a : DOp) (k : Int) : goal EE use_laws_markOp Go.Proofs.Try.f10 con_laws_markOp ann_laws_markOp (a, k) = ((0 : Int) ≤ k ∧ k + (↑(ctFact a.F) : Int) ≤ (4611686018427387904 : Int) ∧ asD [DV.one (Cell.lit (Value.int IntKind.i64 (k + (↑(ctFact a.F) : Int))))] = asD [DV.one (Cell.lit (Value.int IntKind.i64 (k + (↑(ctOp a) : Int))))] ∧ asD [DV.agg [Cell.lit (Value.int IntKind.i64 a.Kind), Cell.lit (Value.string a.Name), Cell.lit (Value.string a.Text), Cell.lit (Value.string a.F.Kind), Cell.sl Cd.eVal (mkFact a.F k).Fields, Cell.lit (Value.string a.Key), Cell.lit (Value.bool a.Ok), Cell.lit (Value.int IntKind.i64 a.V.K), Cell.lit (Value.int IntKind.i64 a.V.N), Cell.lit (Value.string a.V.S), Cell.lit (Value.int IntKind.i64 a.N)]] = asD [DV.agg [Cell.lit (Value.int IntKind.i64 (mkOp a k).Kind), Cell.lit (Value.string (mkOp a k).Name), Cell.lit (Value.string (mkOp a k).Text), Cell.lit (Value.string (mkOp a k).F.Kind), Cell.sl Cd.eVal (mkOp a k).F.Fields, Cell.lit (Value.string (mkOp a k).Key), Cell.lit (Value.bool (mkOp a k).Ok), Cell.lit (Value.int IntKind.i64 (mkOp a k).V.K), Cell.lit (Value.int IntKind.i64 (mkOp a k).V.N), Cell.lit (Value.string (mkOp a k).V.S), Cell.lit (Value.int IntKind.i64 (mkOp a k).N)]]) := by kernel_rfl
theorem ok_laws_markOp : Holds EE (10, con_laws_markOp) := by
  refine holds_of EE_ok Go.Proofs.Try.func10 con_laws_markOp (by kernel_rfl) use_laws_markOp (all_cons ok_laws_markFact all_nil) ann_laws_markOp (fun x hp hb => ?_)
  obtain ⟨a, k⟩ := x
  have hb_a : BdDV (U := UU) (.agg [.lit (.int .i64 a.Kind), .lit (.string a.Name), .lit (.string a.Text), .lit (.string a.F.Kind), .sl .eVal a.F.Fields, .lit (.string a.Key), .lit (.bool a.Ok), .lit (.int .i64 a.V.K), .lit (.int .i64 a.V.N), .lit (.string a.V.S), .lit (.int .i64 a.N)]) := hb _ (List.mem_cons_self)
  have hl_a_Name : a.Name.size ≤ 9223372036854775807 := Bd.str (hb_a _ (by simp))
  have hl_a_Text : a.Text.size ≤ 9223372036854775807 := Bd.str (hb_a _ (by simp))
  have hl_a_F_Kind : a.F.Kind.size ≤ 9223372036854775807 := Bd.str (hb_a _ (by simp))
  have hl_a_F_Fields : a.F.Fields.length ≤ 9223372036854775807 := Bd.len (U := UU) (τ := .eVal) (xs := a.F.Fields) (hb_a _ (by simp))
  have hl_a_Key : a.Key.size ≤ 9223372036854775807 := Bd.str (hb_a _ (by simp))
  have hl_a_V_S : a.V.S.size ≤ 9223372036854775807 := Bd.str (hb_a _ (by simp))
  have hb_k : BdDV (U := UU) (.one (.lit (.int .i64 k))) := hb _ (List.mem_cons_of_mem _ (List.mem_cons_self))
  have hl_k := Bd.i64 hb_k
  have hp0 : 0 ≤ k := hp _ (List.mem_cons_self)
  have hp1 : k + ctOp a ≤ 4611686018427387904 := hp _ (List.mem_cons_of_mem _ (List.mem_cons_self))
  clear hp hb
  rw [vc_laws_markOp a k]
  simp only [ctOp] at hp1
  repeat' (first | refine And.intro (by omega) ?_ | fail)
  exact ⟨by simp only [ctOp, Int.natCast_add, Int.add_assoc], rfl⟩
def con_laws_heldOp : Con UU where
  α := DOp × Int
  md := [.ro, .ro]
  of := fun | [.agg [.lit (.int .i64 a0), .lit (.string a1), .lit (.string a2), .lit (.string a3), .sl .eVal a4, .lit (.string a5), .lit (.bool a6), .lit (.int .i64 a7), .lit (.int .i64 a8), .lit (.string a9), .lit (.int .i64 a10)], .one (.lit (.int .i64 a11))] => some (⟨a0, a1, a2, ⟨a3, a4⟩, a5, a6, ⟨a7, a8, a9⟩, a10⟩, a11) | _ => none
  ds := fun (a, k) => [.agg [.lit (.int .i64 a.Kind), .lit (.string a.Name), .lit (.string a.Text), .lit (.string a.F.Kind), .sl .eVal a.F.Fields, .lit (.string a.Key), .lit (.bool a.Ok), .lit (.int .i64 a.V.K), .lit (.int .i64 a.V.N), .lit (.string a.V.S), .lit (.int .i64 a.N)], .one (.lit (.int .i64 k))]
  pre := fun (a, k) => [0 ≤ k, k + ctOp a ≤ 4611686018427387904]
  res := fun (a, k) => ⟨[.one (.lit (.int .i64 (if mkOp a k = a then k + ctOp a else -1)))], true, []⟩
  law := by intro l x h; (try simp only at h); split at h <;> cases h; rfl
def ann_laws_heldOp : con_laws_heldOp.α → Nat → Option (Ann UU) := fun (a, k) => annL []
def use_laws_heldOp : List (FuncId × Con UU) := [(29, con_laws_heldFact)]
theorem vc_laws_heldOp (a : DOp) (k : Int) : goal EE use_laws_heldOp Go.Proofs.Try.f11 con_laws_heldOp ann_laws_heldOp (a, k) = (let x0 : Int := if mkFact a.F k = a.F then k + (↑(ctFact a.F) : Int) else (-1 : Int);
(0 : Int) ≤ k ∧ k + (↑(ctFact a.F) : Int) ≤ (4611686018427387904 : Int) ∧ bif decide (x0 < (0 : Int)) then Lf [DV.one (Cell.lit (Value.int IntKind.i64 (-1 : Int)))] [DV.one (Cell.lit (Value.int IntKind.i64 (if mkOp a k = a then k + (↑(ctOp a) : Int) else (-1 : Int))))] else Lf [DV.one (Cell.lit (Value.int IntKind.i64 x0))] [DV.one (Cell.lit (Value.int IntKind.i64 (if mkOp a k = a then k + (↑(ctOp a) : Int) else (-1 : Int))))]) := by kernel_rfl
theorem ok_laws_heldOp : Holds EE (11, con_laws_heldOp) := by
  refine holds_of EE_ok Go.Proofs.Try.func11 con_laws_heldOp (by kernel_rfl) use_laws_heldOp (all_cons ok_laws_heldFact all_nil) ann_laws_heldOp (fun x hp hb => ?_)
  obtain ⟨a, k⟩ := x
  have hb_a : BdDV (U := UU) (.agg [.lit (.int .i64 a.Kind), .lit (.string a.Name), .lit (.string a.Text), .lit (.string a.F.Kind), .sl .eVal a.F.Fields, .lit (.string a.Key), .lit (.bool a.Ok), .lit (.int .i64 a.V.K), .lit (.int .i64 a.V.N), .lit (.string a.V.S), .lit (.int .i64 a.N)]) := hb _ (List.mem_cons_self)
  have hl_a_Name : a.Name.size ≤ 9223372036854775807 := Bd.str (hb_a _ (by simp))
  have hl_a_Text : a.Text.size ≤ 9223372036854775807 := Bd.str (hb_a _ (by simp))
  have hl_a_F_Kind : a.F.Kind.size ≤ 9223372036854775807 := Bd.str (hb_a _ (by simp))
  have hl_a_F_Fields : a.F.Fields.length ≤ 9223372036854775807 := Bd.len (U := UU) (τ := .eVal) (xs := a.F.Fields) (hb_a _ (by simp))
  have hl_a_Key : a.Key.size ≤ 9223372036854775807 := Bd.str (hb_a _ (by simp))
  have hl_a_V_S : a.V.S.size ≤ 9223372036854775807 := Bd.str (hb_a _ (by simp))
  have hb_k : BdDV (U := UU) (.one (.lit (.int .i64 k))) := hb _ (List.mem_cons_of_mem _ (List.mem_cons_self))
  have hl_k := Bd.i64 hb_k
  have hp0 : 0 ≤ k := hp _ (List.mem_cons_self)
  have hp1 : k + ctOp a ≤ 4611686018427387904 := hp _ (List.mem_cons_of_mem _ (List.mem_cons_self))
  clear hp hb
  rw [vc_laws_heldOp a k]
  dsimp only
  simp only [ctOp] at hp1
  repeat' (first | refine And.intro (by omega) ?_ | fail)
  by_cases hm1 : mkFact a.F (k) = a.F
  rotate_left
  · simp only [if_neg hm1]; rw [cond_yes (by decide)]
    exact Lf_no (fun hh => hm1 (congrArg (fun t : DOp => t.F) hh))
  simp only [if_pos hm1]
  refine if_cond (fun h => absurd (of_decide_eq_true h) (by omega)) (fun h => ?_)
  exact Lf_yes (by simp only [mkOp, hm1]) (by simp only [ctOp]; try omega)
def allI (n : Nat) (p : Nat → Bool) : Bool := (List.range n).all p
theorem allI_true {n : Nat} {p : Nat → Bool} (h : ∀ j, j < n → p j = true) : allI n p = true := by simpa [allI] using h
theorem allI_false {n : Nat} {p : Nat → Bool} {j : Nat} (h : j < n) (hj : p j = false) : allI n p = false := by
  simp only [allI, List.all_eq_false, List.mem_range]
  exact ⟨j, h, by simp [hj]⟩
theorem upto_step {i : Int} {p : Nat → Bool} (h0 : 0 ≤ i) (h : ∀ j : Nat, (j : Int) < i → p j = true) (hi : p i.toNat = true) : ∀ j : Nat, (j : Int) < i + 1 → p j = true := by
  intro j hj
  by_cases hji : (j : Int) < i
  · exact h j hji
  · have : j = i.toNat := by omega
    subst this; exact hi
def timerOk (x : DTimer) : Bool := decide (0 ≤ x.At ∧ x.At ≤ 1000000000) && factOk x.F
def timerAt (l : List DTimer) (i : Nat) : Bool := timerOk (List.getD l i zTimer) && (decide (i = 0) || decide ((List.getD l (i - 1) zTimer).At ≤ (List.getD l i zTimer).At))
def timersOk (l : List DTimer) : Bool := decide (l.length ≤ 30) && allI l.length (timerAt l)
def con_impl_isTime : Con UU where
  α := Int
  md := [.ro]
  of := fun | [.one (.lit (.int .i64 a0))] => some a0 | _ => none
  ds := fun n => [.one (.lit (.int .i64 n))]
  pre := fun n => []
  res := fun n => ⟨[.one (.lit (.bool (decide (0 ≤ n ∧ n ≤ 1000000000))))], true, []⟩
  law := by intro l x h; (try simp only at h); split at h <;> cases h; rfl
def ann_impl_isTime : con_impl_isTime.α → Nat → Option (Ann UU) := fun n => annL []
def use_impl_isTime : List (FuncId × Con UU) := [(40, con_impl_inRange)]
theorem vc_impl_isTime (n : Int) : goal EE use_impl_isTime Go.Proofs.Try.f58 con_impl_isTime ann_impl_isTime n = (Lf [DV.one (Cell.lit (Value.bool (decide ((0 : Int) ≤ n ∧ n ≤ (1000000000 : Int)))))] [DV.one (Cell.lit (Value.bool (decide ((0 : Int) ≤ n ∧ n ≤ (1000000000 : Int)))))]) := by kernel_rfl
theorem ok_impl_isTime : Holds EE (58, con_impl_isTime) := by
  refine holds_of EE_ok Go.Proofs.Try.func58 con_impl_isTime (by kernel_rfl) use_impl_isTime (all_cons ok_impl_inRange all_nil) ann_impl_isTime (fun (n : Int) hp hb => ?_)
  have hb_n : BdDV (U := UU) (.one (.lit (.int .i64 n))) := hb _ (List.mem_cons_self)
  have hl_n := Bd.i64 hb_n
  clear hp hb
  rw [vc_impl_isTime n]
  exact Lf_rfl _
/-- The first place where p holds; -1. -/
def idxI (n : Nat) (p : Nat → Bool) : Int := match (List.range n).find? p with | some i => i | none => -1
def anyI (n : Nat) (p : Nat → Bool) : Bool := (List.range n).any p
theorem idxI_found {n i : Nat} {p : Nat → Bool} (h : i < n) (hp : p i = true) (hj : ∀ j, j < i → p j = false) : idxI n p = i := by
  have : (List.range n).find? p = some i := by
    rw [List.find?_range_eq_some]
    exact ⟨hp, List.mem_range.2 h, fun j hj' => by simp [hj j hj']⟩
  simp [idxI, this]
theorem idxI_none {n : Nat} {p : Nat → Bool} (hj : ∀ j, j < n → p j = false) : idxI n p = -1 := by
  have : (List.range n).find? p = none := by
    rw [List.find?_eq_none]
    intro j hj'
    simp [hj j (List.mem_range.1 hj')]
  simp [idxI, this]
theorem idxI_cases (n : Nat) (p : Nat → Bool) : (idxI n p = -1 ∧ ∀ j, j < n → p j = false) ∨ ∃ i, i < n ∧ idxI n p = (i : Int) ∧ p i = true ∧ ∀ j, j < i → p j = false := by
  cases h : (List.range n).find? p with
  | none =>
    refine .inl ⟨by simp [idxI, h], fun j hj => ?_⟩
    have := List.find?_eq_none.1 h j (List.mem_range.2 hj)
    simpa using this
  | some i =>
    rw [List.find?_range_eq_some] at h
    obtain ⟨h1, h2, h3⟩ := h
    exact .inr ⟨i, List.mem_range.1 h2, idxI_found (List.mem_range.1 h2) h1 (fun j hj => by simpa using h3 j hj), h1, fun j hj => by simpa using h3 j hj⟩
theorem idxI_congr {n : Nat} {p q : Nat → Bool} (h : ∀ j, j < n → p j = q j) : idxI n p = idxI n q := by
  rcases idxI_cases n q with ⟨h1, h2⟩ | ⟨i, h1, h2, h3, h4⟩
  · rw [h1, idxI_none (fun j hj => by rw [h j hj, h2 j hj])]
  · rw [h2, idxI_found h1 (by rw [h i h1, h3]) (fun j hj => by rw [h j (by omega), h4 j hj])]
theorem anyI_true {n j : Nat} {p : Nat → Bool} (h : j < n) (hp : p j = true) : anyI n p = true := by
  simp only [anyI, List.any_eq_true, List.mem_range]
  exact ⟨j, h, hp⟩
theorem anyI_false {n : Nat} {p : Nat → Bool} (h : ∀ j, j < n → p j = false) : anyI n p = false := by
  simp only [anyI, List.any_eq_false, List.mem_range]
  exact fun j hj => by simp [h j hj]
theorem anyI_iff {n : Nat} {p : Nat → Bool} : anyI n p = true ↔ ∃ j, j < n ∧ p j = true := by
  simp only [anyI, List.any_eq_true, List.mem_range]
theorem anyI_not {n : Nat} {p : Nat → Bool} : anyI n p = false ↔ ∀ j, j < n → p j = false := by
  simp only [anyI, List.any_eq_false, List.mem_range, Bool.not_eq_true]
theorem allI_iff {n : Nat} {p : Nat → Bool} : allI n p = true ↔ ∀ j, j < n → p j = true := by
  simp only [allI, List.all_eq_true, List.mem_range]
theorem allI_not {n : Nat} {p : Nat → Bool} : allI n p = false ↔ ∃ j, j < n ∧ p j = false := by
  simp only [allI, List.all_eq_false, List.mem_range, Bool.not_eq_true]
theorem anyI_congr {n : Nat} {p q : Nat → Bool} (h : ∀ j, j < n → p j = q j) : anyI n p = anyI n q := by
  rw [Bool.eq_iff_iff, anyI_iff, anyI_iff]
  exact ⟨fun ⟨j, h1, h2⟩ => ⟨j, h1, by rw [← h j h1]; exact h2⟩, fun ⟨j, h1, h2⟩ => ⟨j, h1, by rw [h j h1]; exact h2⟩⟩
theorem allI_congr {n : Nat} {p q : Nat → Bool} (h : ∀ j, j < n → p j = q j) : allI n p = allI n q := by
  rw [Bool.eq_iff_iff, allI_iff, allI_iff]
  exact ⟨fun g j hj => by rw [← h j hj]; exact g j hj, fun g j hj => by rw [h j hj]; exact g j hj⟩
theorem idxI_ge {n : Nat} {p : Nat → Bool} : decide (0 ≤ idxI n p) = anyI n p := by
  rcases idxI_cases n p with ⟨h1, h2⟩ | ⟨i, h1, h2, h3, h4⟩
  · rw [h1, anyI_false h2]; rfl
  · rw [h2, anyI_true h1 h3]; simp
theorem getD_take {α : Type} (l : List α) (z : α) {i j : Nat} (h : j < i) : List.getD (l.take i) j z = List.getD l j z := by
  rw [List.getD_eq_getElem?_getD, List.getD_eq_getElem?_getD, List.getElem?_take, if_pos h]
/-- What a closure answers. -/
theorem closP_of {k : Con UU} {caps : List (DV UU)} {ds : List (DA UU)} {x : k.α} {v : Value} (h : k.of (ds.map DA.dv ++ caps) = some x) (hv : (k.res x).val = [.one (.lit v)]) (hm : (k.res x).muts = [])
    (hl : k.md.length = ds.length + caps.length) (hp : ∀ p ∈ k.pre x, p) : closP k caps ds = some v := by
  unfold closP
  simp only [h, hv, hm]
  rw [if_pos ⟨hl, hp⟩]
theorem val_beq (a b : DVal) : (a.K == b.K && (a.N == b.N && (ByteArray.toList a.S == ByteArray.toList b.S && true))) = decide (a = b) := by
  obtain ⟨K, N, S⟩ := a
  obtain ⟨K', N', S'⟩ := b
  simp only [toList_beq, Bool.and_true]
  rw [Bool.eq_iff_iff]
  simp only [Bool.and_eq_true, beq_iff_eq, decide_eq_true_eq, DVal.mk.injEq]
/-- The end of a search. -/
theorem upto_no {i : Int} {p : Nat → Bool} (h0 : 0 ≤ i) (h : ∀ j : Nat, (j : Int) < i → p j = false) (hi : p i.toNat = false) : ∀ j : Nat, (j : Int) < i + 1 → p j = false := by
  intro j hj
  by_cases hji : (j : Int) < i
  · exact h j hji
  · have : j = i.toNat := by omega
    subst this; exact hi
def daUndo (x : DUndo) : DA UU := ⟨true, [.lit (.string x.Key), .lit (.string x.F.Kind), .sl .eVal x.F.Fields]⟩
def undoAt (l : List DUndo) (i : Nat) : Bool := decide (1 ≤ (List.getD l i zUndo).Key.size ∧ (List.getD l i zUndo).Key.size ≤ 200) && factOk (List.getD l i zUndo).F && !(anyI i fun k => decide ((List.getD l k zUndo).Key = (List.getD l i zUndo).Key))
def undosOk (l : List DUndo) : Bool := decide (l.length ≤ 30) && allI l.length (undoAt l)
def hasKey (l : List DUndo) (key : ByteArray) : Bool := anyI l.length fun k => decide ((List.getD l k zUndo).Key = key)
def con_impl_isKey : Con UU where
  α := ByteArray
  md := [.ro]
  of := fun | [.one (.lit (.string a0))] => some a0 | _ => none
  ds := fun s => [.one (.lit (.string s))]
  pre := fun s => []
  res := fun s => ⟨[.one (.lit (.bool (decide (1 ≤ s.size ∧ s.size ≤ 200))))], true, []⟩
  law := by intro l x h; (try simp only at h); split at h <;> cases h; rfl
def ann_impl_isKey : con_impl_isKey.α → Nat → Option (Ann UU) := fun s => annL []
def use_impl_isKey : List (FuncId × Con UU) := [(40, con_impl_inRange)]
theorem vc_impl_isKey (s : ByteArray) : goal EE use_impl_isKey Go.Proofs.Try.f57 con_impl_isKey ann_impl_isKey s = (Lf [DV.one (Cell.lit (Value.bool (decide ((1 : Int) ≤ (↑(ByteArray.size s) : Int) ∧ (↑(ByteArray.size s) : Int) ≤ (200 : Int)))))] [DV.one (Cell.lit (Value.bool (decide ((1 : Nat) ≤ ByteArray.size s ∧ ByteArray.size s ≤ (200 : Nat)))))]) := by kernel_rfl
theorem ok_impl_isKey : Holds EE (57, con_impl_isKey) := by
  refine holds_of EE_ok Go.Proofs.Try.func57 con_impl_isKey (by kernel_rfl) use_impl_isKey (all_cons ok_impl_inRange all_nil) ann_impl_isKey (fun (s : ByteArray) hp hb => ?_)
  have hb_s : BdDV (U := UU) (.one (.lit (.string s))) := hb _ (List.mem_cons_self)
  have hl_s : s.size ≤ 9223372036854775807 := Bd.str hb_s
  clear hp hb
  rw [vc_impl_isKey s]
  refine Lf_b ?_
  rw [decide_eq_decide]; omega
def undoLast (l : List DUndo) : DFact := if l = [] then zFact else (List.getD l (l.length - 1) zUndo).F
theorem undoLast_ct (l : List DUndo) : ctFact (undoLast l) ≤ 20 * sizeUndoS l := by
  unfold undoLast
  split
  · exact Nat.zero_le _
  · rename_i hl
    have h0 : 0 < l.length := List.length_pos_iff.2 hl
    have h1 : (l.length - 1 : Int).toNat = l.length - 1 := by omega
    have hs := sum_getD_le sizeUndo l zUndo (i := l.length - 1) (by omega) (by omega)
    rw [h1] at hs
    have := ctFact_le (List.getD l (l.length - 1) zUndo).F
    simp only [sizeUndo] at hs
    simp only [sizeUndoS, sizeUndo]
    omega
theorem sum_take_le {α : Type} (f : α → Nat) (l : List α) (n : Nat) : ((l.take n).map f).sum ≤ (l.map f).sum := by
  have h := congrArg (fun q => (q.map f).sum) (List.take_append_drop n l)
  simp only [List.map_append, List.sum_append] at h
  omega
theorem sizeUndoS_take (l : List DUndo) (n : Nat) : sizeUndoS (l.take n) ≤ sizeUndoS l := by
  have := sum_take_le sizeUndo l n
  simp only [sizeUndoS, List.length_take]
  omega
def undoOk (s : ByteArray) : Bool := decide (s = noBytes) || nameOk s
def taskOk (t : DTask) : Bool := factOk t.F && undoOk t.Undo && decide (1 ≤ t.State ∧ t.State ≤ 4) && decide (0 ≤ t.Tries ∧ t.Tries ≤ 4) && decide (0 ≤ t.Due ∧ t.Due ≤ 1000001000) && (decide (t.V = zVal) || valOk t.V) && decide ((t.State = 1 → t.Tries = 0) ∧ (t.State = 2 → t.Tries ≠ 0))
def taskAt (l : List DTask) (i : Nat) : Bool := taskOk (List.getD l i zTask) && !(anyI i fun k => decide ((List.getD l k zTask).F = (List.getD l i zTask).F))
def tasksOk (l : List DTask) : Bool := decide (l.length ≤ 30) && allI l.length (taskAt l)
def placeOf (l : List DTask) (f : DFact) : Int := idxI l.length fun k => decide ((List.getD l k zTask).F = f)
def isOpen (t : DTask) : Bool := decide (t.State = 1 ∨ t.State = 2)
def giveUp1 (t : DTask) : DTask := if t.State = 1 ∨ t.State = 2 then ⟨t.F, t.Undo, 4, t.Tries, t.Due, t.V⟩ else t
def giveUp (l : List DTask) : List DTask := l.map giveUp1
def daTask (x : DTask) : DA UU := ⟨true, [.lit (.string x.F.Kind), .sl .eVal x.F.Fields, .lit (.string x.Undo), .lit (.int .i64 x.State), .lit (.int .i64 x.Tries), .lit (.int .i64 x.Due), .lit (.int .i64 x.V.K), .lit (.int .i64 x.V.N), .lit (.string x.V.S)]⟩
theorem fact_ext {a b : DFact} : a = b ↔ a.Kind = b.Kind ∧ a.Fields = b.Fields := by
  obtain ⟨k, f⟩ := a; obtain ⟨k', f'⟩ := b; simp
theorem map_mod {α : Type} (f : α → α) (l : List α) (z : α) {i : Int} (F : α → α) (h0 : 0 ≤ i) (h : i < l.length) (hF : F (List.getD l i.toNat z) = f (List.getD l i.toNat z)) :
    ((l.map f).take i.toNat ++ l.drop i.toNat).modify i.toNat F = (l.map f).take (i + 1).toNat ++ l.drop (i + 1).toNat := by
  have hn : i.toNat < l.length := by omega
  have e : (i + 1).toNat = i.toNat + 1 := by omega
  have ht : ((l.map f).take i.toNat).length = i.toNat := by rw [List.length_take, List.length_map]; omega
  rw [modify_set _ z, mk_getD _ l z ht h0 h, hF, drop_step l z h0 h, List.set_append_right _ _ (by rw [ht]; exact Nat.le_refl _), ht, Nat.sub_self, List.set_cons_zero, e, List.take_succ_eq_append_getElem (by simpa using hn), List.append_assoc, List.getElem_map]
  rw [List.getD_eq_getElem?_getD, List.getElem?_eq_getElem hn]
  rfl
theorem map_skip {α : Type} (f : α → α) (l : List α) (z : α) {i : Int} (h0 : 0 ≤ i) (h : i < l.length) (hF : List.getD l i.toNat z = f (List.getD l i.toNat z)) :
    (l.map f).take i.toNat ++ l.drop i.toNat = (l.map f).take (i + 1).toNat ++ l.drop (i + 1).toNat := by
  rw [← map_mod f l z (fun x => x) h0 h hF]
  have : ∀ (m : List α) (n : Nat), m.modify n (fun x => x) = m := by
    intro m n
    refine List.ext_getElem? fun j => ?_
    rw [List.getElem?_modify]
    cases m[j]? <;> simp
  rw [this]
theorem map_row {α : Type} (f : α → α) (l : List α) {i : Int} (h0 : 0 ≤ i) (h : i ≤ l.length) : ((l.map f).take i.toNat ++ l.drop i.toNat).length = l.length := by
  rw [List.length_append, List.length_take, List.length_map, List.length_drop]; omega
theorem map_tl {α : Type} (f : α → α) (l : List α) {i : Int} (h0 : 0 ≤ i) (h : i ≤ l.length) : ((l.map f).take i.toNat).length = i.toNat := by
  rw [List.length_take, List.length_map]; omega
theorem map_done {α : Type} (f : α → α) (l : List α) {i : Int} (h : l.length ≤ i) : (l.map f).take i.toNat ++ l.drop i.toNat = l.map f := by
  rw [List.drop_eq_nil_of_le (by omega), List.append_nil, List.take_of_length_le (by rw [List.length_map]; omega)]
def noFact (f : DFact) : Bool := decide (f.Kind = noBytes) && decide (f.Fields.length = 0)
def noReply (o : DOp) : Bool := decide (o.Key = noBytes) && !o.Ok && decide (o.V = zVal)
def opOk (o : DOp) : Bool :=
  bif decide (o.Kind = 1) then decide (o.Name = noBytes) && decide (o.Text.size ≤ 1000) && noFact o.F && noReply o && decide (o.N = 0) else
  bif decide (o.Kind = 2) then nameOk o.Name && nameOk o.Text && noFact o.F && noReply o && decide (o.N = 0) else
  bif decide (o.Kind = 3) then nameOk o.Name && decide (o.Text = noBytes) && factOk o.F && noReply o && decide (o.N = 0) else
  bif decide (o.Kind = 4) then nameOk o.Name && decide (o.Text = noBytes) && noFact o.F && decide (1 ≤ o.Key.size ∧ o.Key.size ≤ 200) && valOk o.V && decide (o.N = 0) else
  bif decide (o.Kind = 5) then decide (o.Name = noBytes) && decide (o.Text = noBytes) && noFact o.F && noReply o && decide (0 ≤ o.N ∧ o.N ≤ 1000000000) else
  bif decide (o.Kind = 6) then decide (o.Name = noBytes) && decide (o.Text = noBytes) && noFact o.F && noReply o && decide (o.N = 0) else
  bif decide (o.Kind = 7) then nameOk o.Name && decide (o.Text = noBytes) && noFact o.F && noReply o && decide (o.N = 0) else false
def bareO (o : DOp) : DOp :=
  bif decide (o.Kind = 1) then ⟨o.Kind, o.Name, noBytes, o.F, o.Key, o.Ok, o.V, o.N⟩ else
  bif decide (o.Kind = 2) then ⟨o.Kind, noBytes, noBytes, o.F, o.Key, o.Ok, o.V, o.N⟩ else
  bif decide (o.Kind = 3) then ⟨o.Kind, noBytes, o.Text, zFact, o.Key, o.Ok, o.V, o.N⟩ else
  bif decide (o.Kind = 4) then ⟨o.Kind, noBytes, o.Text, o.F, noBytes, false, zVal, o.N⟩ else
  bif decide (o.Kind = 5) then ⟨o.Kind, o.Name, o.Text, o.F, o.Key, o.Ok, o.V, 0⟩ else
  bif decide (o.Kind = 6) then o else
  bif decide (o.Kind = 7) then ⟨o.Kind, noBytes, o.Text, o.F, o.Key, o.Ok, o.V, o.N⟩ else o
def bareOk (o : DOp) : Bool :=
  bif decide (o.Kind = 1) then decide (o.Text.size ≤ 1000) else
  bif decide (o.Kind = 2) then nameOk o.Name && nameOk o.Text else
  bif decide (o.Kind = 3) then nameOk o.Name && factOk o.F else
  bif decide (o.Kind = 4) then nameOk o.Name && decide (1 ≤ o.Key.size ∧ o.Key.size ≤ 200) && valOk o.V else
  bif decide (o.Kind = 5) then decide (0 ≤ o.N ∧ o.N ≤ 1000000000) else
  bif decide (o.Kind = 6) then true else
  bif decide (o.Kind = 7) then nameOk o.Name else false
theorem kinds7 (n : Int) : n = 1 ∨ n = 2 ∨ n = 3 ∨ n = 4 ∨ n = 5 ∨ n = 6 ∨ n = 7 ∨ (n ≠ 1 ∧ n ≠ 2 ∧ n ≠ 3 ∧ n ≠ 4 ∧ n ≠ 5 ∧ n ≠ 6 ∧ n ≠ 7) := by omega
theorem opOk_bare (o : DOp) : opOk o = (bareOk o && decide ((bareO o).Name = noBytes) && decide ((bareO o).Text = noBytes) && decide ((bareO o).Key = noBytes) && !(bareO o).Ok && decide ((bareO o).N = 0) && noFact (bareO o).F && decide ((bareO o).V = zVal)) := by
  have hz : noFact zFact = true := rfl
  rcases kinds7 o.Kind with h | h | h | h | h | h | h | h <;> simp [opOk, bareOk, bareO, noReply, h, hz] <;> grind
def con_spec_l22NoFact : Con UU where
  α := DFact
  md := [.ro]
  of := fun | [.agg [.lit (.string a0), .sl .eVal a1]] => some ⟨a0, a1⟩ | _ => none
  ds := fun f => [.agg [.lit (.string f.Kind), .sl .eVal f.Fields]]
  pre := fun f => []
  res := fun f => ⟨[.one (.lit (.bool (noFact f)))], true, []⟩
  law := by intro l x h; (try simp only at h); split at h <;> cases h; rfl
def ann_spec_l22NoFact : con_spec_l22NoFact.α → Nat → Option (Ann UU) := fun f => annL []
def use_spec_l22NoFact : List (FuncId × Con UU) := []
theorem vc_spec_l22NoFact (f : DFact) : goal EE use_spec_l22NoFact Go.Proofs.Try.f36 con_spec_l22NoFact ann_spec_l22NoFact f = (bif ByteArray.toList f.Kind == ByteArray.toList { data := #[] : ByteArray } then Lf [DV.one (Cell.lit (Value.bool ((↑(List.length f.Fields) : Int) == (0 : Int))))] [DV.one (Cell.lit (Value.bool (noFact f)))] else Lf [DV.one (Cell.lit (Value.bool false))] [DV.one (Cell.lit (Value.bool (noFact f)))]) := by kernel_rfl
theorem ok_spec_l22NoFact : Holds EE (36, con_spec_l22NoFact) := by
  refine holds_of EE_ok Go.Proofs.Try.func36 con_spec_l22NoFact (by kernel_rfl) use_spec_l22NoFact all_nil ann_spec_l22NoFact (fun (f : DFact) hp hb => ?_)
  have hb_f : BdDV (U := UU) (.agg [.lit (.string f.Kind), .sl .eVal f.Fields]) := hb _ (List.mem_cons_self)
  have hl_f_Kind : f.Kind.size ≤ 9223372036854775807 := Bd.str (hb_f _ (by simp))
  have hl_f_Fields : f.Fields.length ≤ 9223372036854775807 := Bd.len (U := UU) (τ := .eVal) (xs := f.Fields) (hb_f _ (by simp))
  clear hp hb
  rw [vc_spec_l22NoFact f]
  have e : ∀ s : ByteArray, (ByteArray.toList s == ByteArray.toList { data := #[] }) = decide (s = noBytes) := fun s => toList_beq _ _
  simp only [e, noFact]
  refine if_cond (fun h => Lf_b ?_) (fun h => Lf_b ?_) <;> grind
def con_spec_OpOk : Con UU where
  α := DOp
  md := [.ro]
  of := fun | [.agg [.lit (.int .i64 a0), .lit (.string a1), .lit (.string a2), .lit (.string a3), .sl .eVal a4, .lit (.string a5), .lit (.bool a6), .lit (.int .i64 a7), .lit (.int .i64 a8), .lit (.string a9), .lit (.int .i64 a10)]] => some ⟨a0, a1, a2, ⟨a3, a4⟩, a5, a6, ⟨a7, a8, a9⟩, a10⟩ | _ => none
  ds := fun o => [.agg [.lit (.int .i64 o.Kind), .lit (.string o.Name), .lit (.string o.Text), .lit (.string o.F.Kind), .sl .eVal o.F.Fields, .lit (.string o.Key), .lit (.bool o.Ok), .lit (.int .i64 o.V.K), .lit (.int .i64 o.V.N), .lit (.string o.V.S), .lit (.int .i64 o.N)]]
  pre := fun o => []
  res := fun o => ⟨[.one (.lit (.bool (opOk o)))], true, []⟩
  law := by intro l x h; (try simp only at h); split at h <;> cases h; rfl
def ann_spec_OpOk : con_spec_OpOk.α → Nat → Option (Ann UU) := fun o => annL []
def use_spec_OpOk : List (FuncId × Con UU) := [(36, con_spec_l22NoFact), (37, con_spec_NameOk), (34, con_spec_FactOk), (35, con_spec_ValOk), (32, con_spec_l1In)]
theorem vc_spec_OpOk (o : DOp) : goal EE use_spec_OpOk Go.Proofs.Try.f17 con_spec_OpOk ann_spec_OpOk o = (let x0 : Bool := ByteArray.toList o.Text == ByteArray.toList { data := #[] : ByteArray };
let x1 : Bool := ByteArray.toList o.Name == ByteArray.toList { data := #[] : ByteArray };
let x2 : Bool := o.V.K == (0 : Int) && (o.V.N == (0 : Int) && (ByteArray.toList o.V.S == ByteArray.toList { data := #[] : ByteArray } && true));
let x3 : Bool := decide ((↑(ByteArray.size o.Text) : Int) ≤ (1000 : Int));
bif ByteArray.toList o.Key == ByteArray.toList { data := #[] : ByteArray } then bif !o.Ok then bif o.Kind == (1 : Int) then bif x1 then bif x3 then bif noFact o.F then bif x2 then Lf [DV.one (Cell.lit (Value.bool (o.N == (0 : Int))))] [DV.one (Cell.lit (Value.bool (opOk o)))] else Lf [DV.one (Cell.lit (Value.bool false))] [DV.one (Cell.lit (Value.bool (opOk o)))] else Lf [DV.one (Cell.lit (Value.bool false))] [DV.one (Cell.lit (Value.bool (opOk o)))] else Lf [DV.one (Cell.lit (Value.bool false))] [DV.one (Cell.lit (Value.bool (opOk o)))] else Lf [DV.one (Cell.lit (Value.bool false))] [DV.one (Cell.lit (Value.bool (opOk o)))] else bif o.Kind == (2 : Int) then bif nameOk o.Name then bif nameOk o.Text then bif noFact o.F then bif x2 then Lf [DV.one (Cell.lit (Value.bool (o.N == (0 : Int))))] [DV.one (Cell.lit (Value.bool (opOk o)))] else Lf [DV.one (Cell.lit (Value.bool false))] [DV.one (Cell.lit (Value.bool (opOk o)))] else Lf [DV.one (Cell.lit (Value.bool false))] [DV.one (Cell.lit (Value.bool (opOk o)))] else Lf [DV.one (Cell.lit (Value.bool false))] [DV.one (Cell.lit (Value.bool (opOk o)))] else Lf [DV.one (Cell.lit (Value.bool false))] [DV.one (Cell.lit (Value.bool (opOk o)))] else bif o.Kind == (3 : Int) then bif nameOk o.Name then bif x0 then bif factOk o.F then bif x2 then Lf [DV.one (Cell.lit (Value.bool (o.N == (0 : Int))))] [DV.one (Cell.lit (Value.bool (opOk o)))] else Lf [DV.one (Cell.lit (Value.bool false))] [DV.one (Cell.lit (Value.bool (opOk o)))] else Lf [DV.one (Cell.lit (Value.bool false))] [DV.one (Cell.lit (Value.bool (opOk o)))] else Lf [DV.one (Cell.lit (Value.bool false))] [DV.one (Cell.lit (Value.bool (opOk o)))] else Lf [DV.one (Cell.lit (Value.bool false))] [DV.one (Cell.lit (Value.bool (opOk o)))] else bif o.Kind == (4 : Int) then bif nameOk o.Name then bif x0 then bif noFact o.F then bif decide ((1 : Int) ≤ (↑(ByteArray.size o.Key) : Int) ∧ (↑(ByteArray.size o.Key) : Int) ≤ (200 : Int)) then bif valOk o.V then Lf [DV.one (Cell.lit (Value.bool (o.N == (0 : Int))))] [DV.one (Cell.lit (Value.bool (opOk o)))] else Lf [DV.one (Cell.lit (Value.bool false))] [DV.one (Cell.lit (Value.bool (opOk o)))] else Lf [DV.one (Cell.lit (Value.bool false))] [DV.one (Cell.lit (Value.bool (opOk o)))] else Lf [DV.one (Cell.lit (Value.bool false))] [DV.one (Cell.lit (Value.bool (opOk o)))] else Lf [DV.one (Cell.lit (Value.bool false))] [DV.one (Cell.lit (Value.bool (opOk o)))] else Lf [DV.one (Cell.lit (Value.bool false))] [DV.one (Cell.lit (Value.bool (opOk o)))] else bif o.Kind == (5 : Int) then bif x1 then bif x0 then bif noFact o.F then bif x2 then Lf [DV.one (Cell.lit (Value.bool (decide ((0 : Int) ≤ o.N ∧ o.N ≤ (1000000000 : Int)))))] [DV.one (Cell.lit (Value.bool (opOk o)))] else Lf [DV.one (Cell.lit (Value.bool false))] [DV.one (Cell.lit (Value.bool (opOk o)))] else Lf [DV.one (Cell.lit (Value.bool false))] [DV.one (Cell.lit (Value.bool (opOk o)))] else Lf [DV.one (Cell.lit (Value.bool false))] [DV.one (Cell.lit (Value.bool (opOk o)))] else Lf [DV.one (Cell.lit (Value.bool false))] [DV.one (Cell.lit (Value.bool (opOk o)))] else bif o.Kind == (6 : Int) then bif x1 then bif x0 then bif noFact o.F then bif x2 then Lf [DV.one (Cell.lit (Value.bool (o.N == (0 : Int))))] [DV.one (Cell.lit (Value.bool (opOk o)))] else Lf [DV.one (Cell.lit (Value.bool false))] [DV.one (Cell.lit (Value.bool (opOk o)))] else Lf [DV.one (Cell.lit (Value.bool false))] [DV.one (Cell.lit (Value.bool (opOk o)))] else Lf [DV.one (Cell.lit (Value.bool false))] [DV.one (Cell.lit (Value.bool (opOk o)))] else Lf [DV.one (Cell.lit (Value.bool false))] [DV.one (Cell.lit (Value.bool (opOk o)))] else bif o.Kind == (7 : Int) then bif nameOk o.Name then bif x0 then bif noFact o.F then bif x2 then Lf [DV.one (Cell.lit (Value.bool (o.N == (0 : Int))))] [DV.one (Cell.lit (Value.bool (opOk o)))] else Lf [DV.one (Cell.lit (Value.bool false))] [DV.one (Cell.lit (Value.bool (opOk o)))] else Lf [DV.one (Cell.lit (Value.bool false))] [DV.one (Cell.lit (Value.bool (opOk o)))] else Lf [DV.one (Cell.lit (Value.bool false))] [DV.one (Cell.lit (Value.bool (opOk o)))] else Lf [DV.one (Cell.lit (Value.bool false))] [DV.one (Cell.lit (Value.bool (opOk o)))] else Lf [DV.one (Cell.lit (Value.bool false))] [DV.one (Cell.lit (Value.bool (opOk o)))] else bif o.Kind == (1 : Int) then bif x1 then bif x3 then bif noFact o.F then Lf [DV.one (Cell.lit (Value.bool false))] [DV.one (Cell.lit (Value.bool (opOk o)))] else Lf [DV.one (Cell.lit (Value.bool false))] [DV.one (Cell.lit (Value.bool (opOk o)))] else Lf [DV.one (Cell.lit (Value.bool false))] [DV.one (Cell.lit (Value.bool (opOk o)))] else Lf [DV.one (Cell.lit (Value.bool false))] [DV.one (Cell.lit (Value.bool (opOk o)))] else bif o.Kind == (2 : Int) then bif nameOk o.Name then bif nameOk o.Text then bif noFact o.F then Lf [DV.one (Cell.lit (Value.bool false))] [DV.one (Cell.lit (Value.bool (opOk o)))] else Lf [DV.one (Cell.lit (Value.bool false))] [DV.one (Cell.lit (Value.bool (opOk o)))] else Lf [DV.one (Cell.lit (Value.bool false))] [DV.one (Cell.lit (Value.bool (opOk o)))] else Lf [DV.one (Cell.lit (Value.bool false))] [DV.one (Cell.lit (Value.bool (opOk o)))] else bif o.Kind == (3 : Int) then bif nameOk o.Name then bif x0 then bif factOk o.F then Lf [DV.one (Cell.lit (Value.bool false))] [DV.one (Cell.lit (Value.bool (opOk o)))] else Lf [DV.one (Cell.lit (Value.bool false))] [DV.one (Cell.lit (Value.bool (opOk o)))] else Lf [DV.one (Cell.lit (Value.bool false))] [DV.one (Cell.lit (Value.bool (opOk o)))] else Lf [DV.one (Cell.lit (Value.bool false))] [DV.one (Cell.lit (Value.bool (opOk o)))] else bif o.Kind == (4 : Int) then bif nameOk o.Name then bif x0 then bif noFact o.F then bif decide ((1 : Int) ≤ (↑(ByteArray.size o.Key) : Int) ∧ (↑(ByteArray.size o.Key) : Int) ≤ (200 : Int)) then bif valOk o.V then Lf [DV.one (Cell.lit (Value.bool (o.N == (0 : Int))))] [DV.one (Cell.lit (Value.bool (opOk o)))] else Lf [DV.one (Cell.lit (Value.bool false))] [DV.one (Cell.lit (Value.bool (opOk o)))] else Lf [DV.one (Cell.lit (Value.bool false))] [DV.one (Cell.lit (Value.bool (opOk o)))] else Lf [DV.one (Cell.lit (Value.bool false))] [DV.one (Cell.lit (Value.bool (opOk o)))] else Lf [DV.one (Cell.lit (Value.bool false))] [DV.one (Cell.lit (Value.bool (opOk o)))] else Lf [DV.one (Cell.lit (Value.bool false))] [DV.one (Cell.lit (Value.bool (opOk o)))] else bif o.Kind == (5 : Int) then bif x1 then bif x0 then bif noFact o.F then Lf [DV.one (Cell.lit (Value.bool false))] [DV.one (Cell.lit (Value.bool (opOk o)))] else Lf [DV.one (Cell.lit (Value.bool false))] [DV.one (Cell.lit (Value.bool (opOk o)))] else Lf [DV.one (Cell.lit (Value.bool false))] [DV.one (Cell.lit (Value.bool (opOk o)))] else Lf [DV.one (Cell.lit (Value.bool false))] [DV.one (Cell.lit (Value.bool (opOk o)))] else bif o.Kind == (6 : Int) then bif x1 then bif x0 then bif noFact o.F then Lf [DV.one (Cell.lit (Value.bool false))] [DV.one (Cell.lit (Value.bool (opOk o)))] else Lf [DV.one (Cell.lit (Value.bool false))] [DV.one (Cell.lit (Value.bool (opOk o)))] else Lf [DV.one (Cell.lit (Value.bool false))] [DV.one (Cell.lit (Value.bool (opOk o)))] else Lf [DV.one (Cell.lit (Value.bool false))] [DV.one (Cell.lit (Value.bool (opOk o)))] else bif o.Kind == (7 : Int) then bif nameOk o.Name then bif x0 then bif noFact o.F then Lf [DV.one (Cell.lit (Value.bool false))] [DV.one (Cell.lit (Value.bool (opOk o)))] else Lf [DV.one (Cell.lit (Value.bool false))] [DV.one (Cell.lit (Value.bool (opOk o)))] else Lf [DV.one (Cell.lit (Value.bool false))] [DV.one (Cell.lit (Value.bool (opOk o)))] else Lf [DV.one (Cell.lit (Value.bool false))] [DV.one (Cell.lit (Value.bool (opOk o)))] else Lf [DV.one (Cell.lit (Value.bool false))] [DV.one (Cell.lit (Value.bool (opOk o)))] else bif o.Kind == (1 : Int) then bif x1 then bif x3 then bif noFact o.F then Lf [DV.one (Cell.lit (Value.bool false))] [DV.one (Cell.lit (Value.bool (opOk o)))] else Lf [DV.one (Cell.lit (Value.bool false))] [DV.one (Cell.lit (Value.bool (opOk o)))] else Lf [DV.one (Cell.lit (Value.bool false))] [DV.one (Cell.lit (Value.bool (opOk o)))] else Lf [DV.one (Cell.lit (Value.bool false))] [DV.one (Cell.lit (Value.bool (opOk o)))] else bif o.Kind == (2 : Int) then bif nameOk o.Name then bif nameOk o.Text then bif noFact o.F then Lf [DV.one (Cell.lit (Value.bool false))] [DV.one (Cell.lit (Value.bool (opOk o)))] else Lf [DV.one (Cell.lit (Value.bool false))] [DV.one (Cell.lit (Value.bool (opOk o)))] else Lf [DV.one (Cell.lit (Value.bool false))] [DV.one (Cell.lit (Value.bool (opOk o)))] else Lf [DV.one (Cell.lit (Value.bool false))] [DV.one (Cell.lit (Value.bool (opOk o)))] else bif o.Kind == (3 : Int) then bif nameOk o.Name then bif x0 then bif factOk o.F then Lf [DV.one (Cell.lit (Value.bool false))] [DV.one (Cell.lit (Value.bool (opOk o)))] else Lf [DV.one (Cell.lit (Value.bool false))] [DV.one (Cell.lit (Value.bool (opOk o)))] else Lf [DV.one (Cell.lit (Value.bool false))] [DV.one (Cell.lit (Value.bool (opOk o)))] else Lf [DV.one (Cell.lit (Value.bool false))] [DV.one (Cell.lit (Value.bool (opOk o)))] else bif o.Kind == (4 : Int) then bif nameOk o.Name then bif x0 then bif noFact o.F then bif decide ((1 : Int) ≤ (↑(ByteArray.size o.Key) : Int) ∧ (↑(ByteArray.size o.Key) : Int) ≤ (200 : Int)) then bif valOk o.V then Lf [DV.one (Cell.lit (Value.bool (o.N == (0 : Int))))] [DV.one (Cell.lit (Value.bool (opOk o)))] else Lf [DV.one (Cell.lit (Value.bool false))] [DV.one (Cell.lit (Value.bool (opOk o)))] else Lf [DV.one (Cell.lit (Value.bool false))] [DV.one (Cell.lit (Value.bool (opOk o)))] else Lf [DV.one (Cell.lit (Value.bool false))] [DV.one (Cell.lit (Value.bool (opOk o)))] else Lf [DV.one (Cell.lit (Value.bool false))] [DV.one (Cell.lit (Value.bool (opOk o)))] else Lf [DV.one (Cell.lit (Value.bool false))] [DV.one (Cell.lit (Value.bool (opOk o)))] else bif o.Kind == (5 : Int) then bif x1 then bif x0 then bif noFact o.F then Lf [DV.one (Cell.lit (Value.bool false))] [DV.one (Cell.lit (Value.bool (opOk o)))] else Lf [DV.one (Cell.lit (Value.bool false))] [DV.one (Cell.lit (Value.bool (opOk o)))] else Lf [DV.one (Cell.lit (Value.bool false))] [DV.one (Cell.lit (Value.bool (opOk o)))] else Lf [DV.one (Cell.lit (Value.bool false))] [DV.one (Cell.lit (Value.bool (opOk o)))] else bif o.Kind == (6 : Int) then bif x1 then bif x0 then bif noFact o.F then Lf [DV.one (Cell.lit (Value.bool false))] [DV.one (Cell.lit (Value.bool (opOk o)))] else Lf [DV.one (Cell.lit (Value.bool false))] [DV.one (Cell.lit (Value.bool (opOk o)))] else Lf [DV.one (Cell.lit (Value.bool false))] [DV.one (Cell.lit (Value.bool (opOk o)))] else Lf [DV.one (Cell.lit (Value.bool false))] [DV.one (Cell.lit (Value.bool (opOk o)))] else bif o.Kind == (7 : Int) then bif nameOk o.Name then bif x0 then bif noFact o.F then Lf [DV.one (Cell.lit (Value.bool false))] [DV.one (Cell.lit (Value.bool (opOk o)))] else Lf [DV.one (Cell.lit (Value.bool false))] [DV.one (Cell.lit (Value.bool (opOk o)))] else Lf [DV.one (Cell.lit (Value.bool false))] [DV.one (Cell.lit (Value.bool (opOk o)))] else Lf [DV.one (Cell.lit (Value.bool false))] [DV.one (Cell.lit (Value.bool (opOk o)))] else Lf [DV.one (Cell.lit (Value.bool false))] [DV.one (Cell.lit (Value.bool (opOk o)))]) := by kernel_rfl
theorem ok_spec_OpOk : Holds EE (17, con_spec_OpOk) := by
  refine holds_of EE_ok Go.Proofs.Try.func17 con_spec_OpOk (by kernel_rfl) use_spec_OpOk (all_cons ok_spec_l22NoFact (all_cons ok_spec_NameOk (all_cons ok_spec_FactOk (all_cons ok_spec_ValOk (all_cons ok_spec_l1In all_nil))))) ann_spec_OpOk (fun (o : DOp) hp hb => ?_)
  have hb_o : BdDV (U := UU) (.agg [.lit (.int .i64 o.Kind), .lit (.string o.Name), .lit (.string o.Text), .lit (.string o.F.Kind), .sl .eVal o.F.Fields, .lit (.string o.Key), .lit (.bool o.Ok), .lit (.int .i64 o.V.K), .lit (.int .i64 o.V.N), .lit (.string o.V.S), .lit (.int .i64 o.N)]) := hb _ (List.mem_cons_self)
  have hl_o_Name : o.Name.size ≤ 9223372036854775807 := Bd.str (hb_o _ (by simp))
  have hl_o_Text : o.Text.size ≤ 9223372036854775807 := Bd.str (hb_o _ (by simp))
  have hl_o_F_Kind : o.F.Kind.size ≤ 9223372036854775807 := Bd.str (hb_o _ (by simp))
  have hl_o_F_Fields : o.F.Fields.length ≤ 9223372036854775807 := Bd.len (U := UU) (τ := .eVal) (xs := o.F.Fields) (hb_o _ (by simp))
  have hl_o_Key : o.Key.size ≤ 9223372036854775807 := Bd.str (hb_o _ (by simp))
  have hl_o_V_S : o.V.S.size ≤ 9223372036854775807 := Bd.str (hb_o _ (by simp))
  clear hp hb
  rw [vc_spec_OpOk o]
  dsimp only
  have e : ∀ s : ByteArray, (ByteArray.toList s == ByteArray.toList { data := #[] }) = decide (s = noBytes) := fun s => toList_beq _ _
  have e2 : ∀ v : DVal, (v.K == 0 && (v.N == 0 && (decide (v.S = noBytes) && true))) = decide (v = zVal) := fun v => by rw [← val_beq v zVal, toList_beq]; rfl
  simp only [e, e2]
  simp only [opOk, noReply]
  repeat' (refine if_cond (fun h => ?_) (fun h => ?_))
  all_goals (refine Lf_b ?_; grind)
def con_impl_bareOp : Con UU where
  α := DOp
  md := [.ro]
  of := fun | [.agg [.lit (.int .i64 a0), .lit (.string a1), .lit (.string a2), .lit (.string a3), .sl .eVal a4, .lit (.string a5), .lit (.bool a6), .lit (.int .i64 a7), .lit (.int .i64 a8), .lit (.string a9), .lit (.int .i64 a10)]] => some ⟨a0, a1, a2, ⟨a3, a4⟩, a5, a6, ⟨a7, a8, a9⟩, a10⟩ | _ => none
  ds := fun o => [.agg [.lit (.int .i64 o.Kind), .lit (.string o.Name), .lit (.string o.Text), .lit (.string o.F.Kind), .sl .eVal o.F.Fields, .lit (.string o.Key), .lit (.bool o.Ok), .lit (.int .i64 o.V.K), .lit (.int .i64 o.V.N), .lit (.string o.V.S), .lit (.int .i64 o.N)]]
  pre := fun o => []
  res := fun o => ⟨[.agg [.lit (.int .i64 ((bareO o)).Kind), .lit (.string ((bareO o)).Name), .lit (.string ((bareO o)).Text), .lit (.string (((bareO o)).F).Kind), .sl .eVal (((bareO o)).F).Fields, .lit (.string ((bareO o)).Key), .lit (.bool ((bareO o)).Ok), .lit (.int .i64 (((bareO o)).V).K), .lit (.int .i64 (((bareO o)).V).N), .lit (.string (((bareO o)).V).S), .lit (.int .i64 ((bareO o)).N)], .one (.lit (.bool (bareOk o)))], false, []⟩
  law := by intro l x h; (try simp only at h); split at h <;> cases h; rfl
def ann_impl_bareOp : con_impl_bareOp.α → Nat → Option (Ann UU) := fun o => annL []
def use_impl_bareOp : List (FuncId × Con UU) := [(55, con_impl_NameOk), (41, con_impl_FactOk), (57, con_impl_isKey), (42, con_impl_ValOk), (58, con_impl_isTime)]
theorem vc_impl_bareOp (o : DOp) : goal EE use_impl_bareOp Go.Proofs.Try.f43 con_impl_bareOp ann_impl_bareOp o = (bif o.Kind == (1 : Int) then Lf [DV.agg [Cell.lit (Value.int IntKind.i64 o.Kind), Cell.lit (Value.string o.Name), Cell.lit (Value.string { data := #[] : ByteArray }), Cell.lit (Value.string o.F.Kind), Cell.sl Cd.eVal o.F.Fields, Cell.lit (Value.string o.Key), Cell.lit (Value.bool o.Ok), Cell.lit (Value.int IntKind.i64 o.V.K), Cell.lit (Value.int IntKind.i64 o.V.N), Cell.lit (Value.string o.V.S), Cell.lit (Value.int IntKind.i64 o.N)], DV.one (Cell.lit (Value.bool (decide ((↑(ByteArray.size o.Text) : Int) ≤ (1000 : Int)))))] [DV.agg [Cell.lit (Value.int IntKind.i64 (bareO o).Kind), Cell.lit (Value.string (bareO o).Name), Cell.lit (Value.string (bareO o).Text), Cell.lit (Value.string (bareO o).F.Kind), Cell.sl Cd.eVal (bareO o).F.Fields, Cell.lit (Value.string (bareO o).Key), Cell.lit (Value.bool (bareO o).Ok), Cell.lit (Value.int IntKind.i64 (bareO o).V.K), Cell.lit (Value.int IntKind.i64 (bareO o).V.N), Cell.lit (Value.string (bareO o).V.S), Cell.lit (Value.int IntKind.i64 (bareO o).N)], DV.one (Cell.lit (Value.bool (bareOk o)))] else bif o.Kind == (2 : Int) then bif nameOk o.Name then Lf [DV.agg [Cell.lit (Value.int IntKind.i64 o.Kind), Cell.lit (Value.string { data := #[] : ByteArray }), Cell.lit (Value.string { data := #[] : ByteArray }), Cell.lit (Value.string o.F.Kind), Cell.sl Cd.eVal o.F.Fields, Cell.lit (Value.string o.Key), Cell.lit (Value.bool o.Ok), Cell.lit (Value.int IntKind.i64 o.V.K), Cell.lit (Value.int IntKind.i64 o.V.N), Cell.lit (Value.string o.V.S), Cell.lit (Value.int IntKind.i64 o.N)], DV.one (Cell.lit (Value.bool (nameOk o.Text)))] [DV.agg [Cell.lit (Value.int IntKind.i64 (bareO o).Kind), Cell.lit (Value.string (bareO o).Name), Cell.lit (Value.string (bareO o).Text), Cell.lit (Value.string (bareO o).F.Kind), Cell.sl Cd.eVal (bareO o).F.Fields, Cell.lit (Value.string (bareO o).Key), Cell.lit (Value.bool (bareO o).Ok), Cell.lit (Value.int IntKind.i64 (bareO o).V.K), Cell.lit (Value.int IntKind.i64 (bareO o).V.N), Cell.lit (Value.string (bareO o).V.S), Cell.lit (Value.int IntKind.i64 (bareO o).N)], DV.one (Cell.lit (Value.bool (bareOk o)))] else Lf [DV.agg [Cell.lit (Value.int IntKind.i64 o.Kind), Cell.lit (Value.string { data := #[] : ByteArray }), Cell.lit (Value.string { data := #[] : ByteArray }), Cell.lit (Value.string o.F.Kind), Cell.sl Cd.eVal o.F.Fields, Cell.lit (Value.string o.Key), Cell.lit (Value.bool o.Ok), Cell.lit (Value.int IntKind.i64 o.V.K), Cell.lit (Value.int IntKind.i64 o.V.N), Cell.lit (Value.string o.V.S), Cell.lit (Value.int IntKind.i64 o.N)], DV.one (Cell.lit (Value.bool false))] [DV.agg [Cell.lit (Value.int IntKind.i64 (bareO o).Kind), Cell.lit (Value.string (bareO o).Name), Cell.lit (Value.string (bareO o).Text), Cell.lit (Value.string (bareO o).F.Kind), Cell.sl Cd.eVal (bareO o).F.Fields, Cell.lit (Value.string (bareO o).Key), Cell.lit (Value.bool (bareO o).Ok), Cell.lit (Value.int IntKind.i64 (bareO o).V.K), Cell.lit (Value.int IntKind.i64 (bareO o).V.N), Cell.lit (Value.string (bareO o).V.S), Cell.lit (Value.int IntKind.i64 (bareO o).N)], DV.one (Cell.lit (Value.bool (bareOk o)))] else bif o.Kind == (3 : Int) then bif nameOk o.Name then Lf [DV.agg [Cell.lit (Value.int IntKind.i64 o.Kind), Cell.lit (Value.string { data := #[] : ByteArray }), Cell.lit (Value.string o.Text), Cell.lit (Value.string { data := #[] : ByteArray }), Cell.sl Cd.eVal [], Cell.lit (Value.string o.Key), Cell.lit (Value.bool o.Ok), Cell.lit (Value.int IntKind.i64 o.V.K), Cell.lit (Value.int IntKind.i64 o.V.N), Cell.lit (Value.string o.V.S), Cell.lit (Value.int IntKind.i64 o.N)], DV.one (Cell.lit (Value.bool (factOk o.F)))] [DV.agg [Cell.lit (Value.int IntKind.i64 (bareO o).Kind), Cell.lit (Value.string (bareO o).Name), Cell.lit (Value.string (bareO o).Text), Cell.lit (Value.string (bareO o).F.Kind), Cell.sl Cd.eVal (bareO o).F.Fields, Cell.lit (Value.string (bareO o).Key), Cell.lit (Value.bool (bareO o).Ok), Cell.lit (Value.int IntKind.i64 (bareO o).V.K), Cell.lit (Value.int IntKind.i64 (bareO o).V.N), Cell.lit (Value.string (bareO o).V.S), Cell.lit (Value.int IntKind.i64 (bareO o).N)], DV.one (Cell.lit (Value.bool (bareOk o)))] else Lf [DV.agg [Cell.lit (Value.int IntKind.i64 o.Kind), Cell.lit (Value.string { data := #[] : ByteArray }), Cell.lit (Value.string o.Text), Cell.lit (Value.string { data := #[] : ByteArray }), Cell.sl Cd.eVal [], Cell.lit (Value.string o.Key), Cell.lit (Value.bool o.Ok), Cell.lit (Value.int IntKind.i64 o.V.K), Cell.lit (Value.int IntKind.i64 o.V.N), Cell.lit (Value.string o.V.S), Cell.lit (Value.int IntKind.i64 o.N)], DV.one (Cell.lit (Value.bool false))] [DV.agg [Cell.lit (Value.int IntKind.i64 (bareO o).Kind), Cell.lit (Value.string (bareO o).Name), Cell.lit (Value.string (bareO o).Text), Cell.lit (Value.string (bareO o).F.Kind), Cell.sl Cd.eVal (bareO o).F.Fields, Cell.lit (Value.string (bareO o).Key), Cell.lit (Value.bool (bareO o).Ok), Cell.lit (Value.int IntKind.i64 (bareO o).V.K), Cell.lit (Value.int IntKind.i64 (bareO o).V.N), Cell.lit (Value.string (bareO o).V.S), Cell.lit (Value.int IntKind.i64 (bareO o).N)], DV.one (Cell.lit (Value.bool (bareOk o)))] else bif o.Kind == (4 : Int) then bif nameOk o.Name then bif decide ((1 : Nat) ≤ ByteArray.size o.Key ∧ ByteArray.size o.Key ≤ (200 : Nat)) then Lf [DV.agg [Cell.lit (Value.int IntKind.i64 o.Kind), Cell.lit (Value.string { data := #[] : ByteArray }), Cell.lit (Value.string o.Text), Cell.lit (Value.string o.F.Kind), Cell.sl Cd.eVal o.F.Fields, Cell.lit (Value.string { data := #[] : ByteArray }), Cell.lit (Value.bool false), Cell.lit (Value.int IntKind.i64 (0 : Int)), Cell.lit (Value.int IntKind.i64 (0 : Int)), Cell.lit (Value.string { data := #[] : ByteArray }), Cell.lit (Value.int IntKind.i64 o.N)], DV.one (Cell.lit (Value.bool (valOk o.V)))] [DV.agg [Cell.lit (Value.int IntKind.i64 (bareO o).Kind), Cell.lit (Value.string (bareO o).Name), Cell.lit (Value.string (bareO o).Text), Cell.lit (Value.string (bareO o).F.Kind), Cell.sl Cd.eVal (bareO o).F.Fields, Cell.lit (Value.string (bareO o).Key), Cell.lit (Value.bool (bareO o).Ok), Cell.lit (Value.int IntKind.i64 (bareO o).V.K), Cell.lit (Value.int IntKind.i64 (bareO o).V.N), Cell.lit (Value.string (bareO o).V.S), Cell.lit (Value.int IntKind.i64 (bareO o).N)], DV.one (Cell.lit (Value.bool (bareOk o)))] else Lf [DV.agg [Cell.lit (Value.int IntKind.i64 o.Kind), Cell.lit (Value.string { data := #[] : ByteArray }), Cell.lit (Value.string o.Text), Cell.lit (Value.string o.F.Kind), Cell.sl Cd.eVal o.F.Fields, Cell.lit (Value.string { data := #[] : ByteArray }), Cell.lit (Value.bool false), Cell.lit (Value.int IntKind.i64 (0 : Int)), Cell.lit (Value.int IntKind.i64 (0 : Int)), Cell.lit (Value.string { data := #[] : ByteArray }), Cell.lit (Value.int IntKind.i64 o.N)], DV.one (Cell.lit (Value.bool false))] [DV.agg [Cell.lit (Value.int IntKind.i64 (bareO o).Kind), Cell.lit (Value.string (bareO o).Name), Cell.lit (Value.string (bareO o).Text), Cell.lit (Value.string (bareO o).F.Kind), Cell.sl Cd.eVal (bareO o).F.Fields, Cell.lit (Value.string (bareO o).Key), Cell.lit (Value.bool (bareO o).Ok), Cell.lit (Value.int IntKind.i64 (bareO o).V.K), Cell.lit (Value.int IntKind.i64 (bareO o).V.N), Cell.lit (Value.string (bareO o).V.S), Cell.lit (Value.int IntKind.i64 (bareO o).N)], DV.one (Cell.lit (Value.bool (bareOk o)))] else Lf [DV.agg [Cell.lit (Value.int IntKind.i64 o.Kind), Cell.lit (Value.string { data := #[] : ByteArray }), Cell.lit (Value.string o.Text), Cell.lit (Value.string o.F.Kind), Cell.sl Cd.eVal o.F.Fields, Cell.lit (Value.string { data := #[] : ByteArray }), Cell.lit (Value.bool false), Cell.lit (Value.int IntKind.i64 (0 : Int)), Cell.lit (Value.int IntKind.i64 (0 : Int)), Cell.lit (Value.string { data := #[] : ByteArray }), Cell.lit (Value.int IntKind.i64 o.N)], DV.one (Cell.lit (Value.bool false))] [DV.agg [Cell.lit (Value.int IntKind.i64 (bareO o).Kind), Cell.lit (Value.string (bareO o).Name), Cell.lit (Value.string (bareO o).Text), Cell.lit (Value.string (bareO o).F.Kind), Cell.sl Cd.eVal (bareO o).F.Fields, Cell.lit (Value.string (bareO o).Key), Cell.lit (Value.bool (bareO o).Ok), Cell.lit (Value.int IntKind.i64 (bareO o).V.K), Cell.lit (Value.int IntKind.i64 (bareO o).V.N), Cell.lit (Value.string (bareO o).V.S), Cell.lit (Value.int IntKind.i64 (bareO o).N)], DV.one (Cell.lit (Value.bool (bareOk o)))] else bif o.Kind == (5 : Int) then Lf [DV.agg [Cell.lit (Value.int IntKind.i64 o.Kind), Cell.lit (Value.string o.Name), Cell.lit (Value.string o.Text), Cell.lit (Value.string o.F.Kind), Cell.sl Cd.eVal o.F.Fields, Cell.lit (Value.string o.Key), Cell.lit (Value.bool o.Ok), Cell.lit (Value.int IntKind.i64 o.V.K), Cell.lit (Value.int IntKind.i64 o.V.N), Cell.lit (Value.string o.V.S), Cell.lit (Value.int IntKind.i64 (0 : Int))], DV.one (Cell.lit (Value.bool (decide ((0 : Int) ≤ o.N ∧ o.N ≤ (1000000000 : Int)))))] [DV.agg [Cell.lit (Value.int IntKind.i64 (bareO o).Kind), Cell.lit (Value.string (bareO o).Name), Cell.lit (Value.string (bareO o).Text), Cell.lit (Value.string (bareO o).F.Kind), Cell.sl Cd.eVal (bareO o).F.Fields, Cell.lit (Value.string (bareO o).Key), Cell.lit (Value.bool (bareO o).Ok), Cell.lit (Value.int IntKind.i64 (bareO o).V.K), Cell.lit (Value.int IntKind.i64 (bareO o).V.N), Cell.lit (Value.string (bareO o).V.S), Cell.lit (Value.int IntKind.i64 (bareO o).N)], DV.one (Cell.lit (Value.bool (bareOk o)))] else bif o.Kind == (6 : Int) then Lf [DV.agg [Cell.lit (Value.int IntKind.i64 o.Kind), Cell.lit (Value.string o.Name), Cell.lit (Value.string o.Text), Cell.lit (Value.string o.F.Kind), Cell.sl Cd.eVal o.F.Fields, Cell.lit (Value.string o.Key), Cell.lit (Value.bool o.Ok), Cell.lit (Value.int IntKind.i64 o.V.K), Cell.lit (Value.int IntKind.i64 o.V.N), Cell.lit (Value.string o.V.S), Cell.lit (Value.int IntKind.i64 o.N)], DV.one (Cell.lit (Value.bool true))] [DV.agg [Cell.lit (Value.int IntKind.i64 (bareO o).Kind), Cell.lit (Value.string (bareO o).Name), Cell.lit (Value.string (bareO o).Text), Cell.lit (Value.string (bareO o).F.Kind), Cell.sl Cd.eVal (bareO o).F.Fields, Cell.lit (Value.string (bareO o).Key), Cell.lit (Value.bool (bareO o).Ok), Cell.lit (Value.int IntKind.i64 (bareO o).V.K), Cell.lit (Value.int IntKind.i64 (bareO o).V.N), Cell.lit (Value.string (bareO o).V.S), Cell.lit (Value.int IntKind.i64 (bareO o).N)], DV.one (Cell.lit (Value.bool (bareOk o)))] else bif o.Kind == (7 : Int) then Lf [DV.agg [Cell.lit (Value.int IntKind.i64 o.Kind), Cell.lit (Value.string { data := #[] : ByteArray }), Cell.lit (Value.string o.Text), Cell.lit (Value.string o.F.Kind), Cell.sl Cd.eVal o.F.Fields, Cell.lit (Value.string o.Key), Cell.lit (Value.bool o.Ok), Cell.lit (Value.int IntKind.i64 o.V.K), Cell.lit (Value.int IntKind.i64 o.V.N), Cell.lit (Value.string o.V.S), Cell.lit (Value.int IntKind.i64 o.N)], DV.one (Cell.lit (Value.bool (nameOk o.Name)))] [DV.agg [Cell.lit (Value.int IntKind.i64 (bareO o).Kind), Cell.lit (Value.string (bareO o).Name), Cell.lit (Value.string (bareO o).Text), Cell.lit (Value.string (bareO o).F.Kind), Cell.sl Cd.eVal (bareO o).F.Fields, Cell.lit (Value.string (bareO o).Key), Cell.lit (Value.bool (bareO o).Ok), Cell.lit (Value.int IntKind.i64 (bareO o).V.K), Cell.lit (Value.int IntKind.i64 (bareO o).V.N), Cell.lit (Value.string (bareO o).V.S), Cell.lit (Value.int IntKind.i64 (bareO o).N)], DV.one (Cell.lit (Value.bool (bareOk o)))] else Lf [DV.agg [Cell.lit (Value.int IntKind.i64 o.Kind), Cell.lit (Value.string o.Name), Cell.lit (Value.string o.Text), Cell.lit (Value.string o.F.Kind), Cell.sl Cd.eVal o.F.Fields, Cell.lit (Value.string o.Key), Cell.lit (Value.bool o.Ok), Cell.lit (Value.int IntKind.i64 o.V.K), Cell.lit (Value.int IntKind.i64 o.V.N), Cell.lit (Value.string o.V.S), Cell.lit (Value.int IntKind.i64 o.N)], DV.one (Cell.lit (Value.bool false))] [DV.agg [Cell.lit (Value.int IntKind.i64 (bareO o).Kind), Cell.lit (Value.string (bareO o).Name), Cell.lit (Value.string (bareO o).Text), Cell.lit (Value.string (bareO o).F.Kind), Cell.sl Cd.eVal (bareO o).F.Fields, Cell.lit (Value.string (bareO o).Key), Cell.lit (Value.bool (bareO o).Ok), Cell.lit (Value.int IntKind.i64 (bareO o).V.K), Cell.lit (Value.int IntKind.i64 (bareO o).V.N), Cell.lit (Value.string (bareO o).V.S), Cell.lit (Value.int IntKind.i64 (bareO o).N)], DV.one (Cell.lit (Value.bool (bareOk o)))]) := by kernel_rfl
theorem ok_impl_bareOp : Holds EE (43, con_impl_bareOp) := by
  refine holds_of EE_ok Go.Proofs.Try.func43 con_impl_bareOp (by kernel_rfl) use_impl_bareOp (all_cons ok_impl_NameOk (all_cons ok_impl_FactOk (all_cons ok_impl_isKey (all_cons ok_impl_ValOk (all_cons ok_impl_isTime all_nil))))) ann_impl_bareOp (fun (o : DOp) hp hb => ?_)
  have hb_o : BdDV (U := UU) (.agg [.lit (.int .i64 o.Kind), .lit (.string o.Name), .lit (.string o.Text), .lit (.string o.F.Kind), .sl .eVal o.F.Fields, .lit (.string o.Key), .lit (.bool o.Ok), .lit (.int .i64 o.V.K), .lit (.int .i64 o.V.N), .lit (.string o.V.S), .lit (.int .i64 o.N)]) := hb _ (List.mem_cons_self)
  have hl_o_Name : o.Name.size ≤ 9223372036854775807 := Bd.str (hb_o _ (by simp))
  have hl_o_Text : o.Text.size ≤ 9223372036854775807 := Bd.str (hb_o _ (by simp))
  have hl_o_F_Kind : o.F.Kind.size ≤ 9223372036854775807 := Bd.str (hb_o _ (by simp))
  have hl_o_F_Fields : o.F.Fields.length ≤ 9223372036854775807 := Bd.len (U := UU) (τ := .eVal) (xs := o.F.Fields) (hb_o _ (by simp))
  have hl_o_Key : o.Key.size ≤ 9223372036854775807 := Bd.str (hb_o _ (by simp))
  have hl_o_V_S : o.V.S.size ≤ 9223372036854775807 := Bd.str (hb_o _ (by simp))
  clear hp hb
  rw [vc_impl_bareOp o]
  have z1 : zFact = ⟨⟨#[]⟩, []⟩ := rfl
  have z2 : zVal = ⟨0, 0, ⟨#[]⟩⟩ := rfl
  have z3 : noBytes = ⟨#[]⟩ := rfl
  repeat' (refine if_cond (fun h => ?_) (fun h => ?_))
  all_goals (refine Lf_r ?_; simp_all [bareO, bareOk] <;> first | rfl | omega)
def con_impl_OpOk : Con UU where
  α := DOp
  md := [.ro]
  of := fun | [.agg [.lit (.int .i64 a0), .lit (.string a1), .lit (.string a2), .lit (.string a3), .sl .eVal a4, .lit (.string a5), .lit (.bool a6), .lit (.int .i64 a7), .lit (.int .i64 a8), .lit (.string a9), .lit (.int .i64 a10)]] => some ⟨a0, a1, a2, ⟨a3, a4⟩, a5, a6, ⟨a7, a8, a9⟩, a10⟩ | _ => none
  ds := fun o => [.agg [.lit (.int .i64 o.Kind), .lit (.string o.Name), .lit (.string o.Text), .lit (.string o.F.Kind), .sl .eVal o.F.Fields, .lit (.string o.Key), .lit (.bool o.Ok), .lit (.int .i64 o.V.K), .lit (.int .i64 o.V.N), .lit (.string o.V.S), .lit (.int .i64 o.N)]]
  pre := fun o => []
  res := fun o => ⟨[.one (.lit (.bool (opOk o)))], true, []⟩
  law := by intro l x h; (try simp only at h); split at h <;> cases h; rfl
def ann_impl_OpOk : con_impl_OpOk.α → Nat → Option (Ann UU) := fun o => annL []
def use_impl_OpOk : List (FuncId × Con UU) := [(43, con_impl_bareOp)]
theorem vc_impl_OpOk (o : DOp) : goal EE use_impl_OpOk Go.Proofs.Try.f23 con_impl_OpOk ann_impl_OpOk o = (bif !bareOk o then Lf [DV.one (Cell.lit (Value.bool false))] [DV.one (Cell.lit (Value.bool (opOk o)))] else bif !ByteArray.toList (bareO o).Name == ByteArray.toList { data := #[] : ByteArray } then Lf [DV.one (Cell.lit (Value.bool false))] [DV.one (Cell.lit (Value.bool (opOk o)))] else bif !ByteArray.toList (bareO o).Text == ByteArray.toList { data := #[] : ByteArray } then Lf [DV.one (Cell.lit (Value.bool false))] [DV.one (Cell.lit (Value.bool (opOk o)))] else bif !ByteArray.toList (bareO o).Key == ByteArray.toList { data := #[] : ByteArray } then Lf [DV.one (Cell.lit (Value.bool false))] [DV.one (Cell.lit (Value.bool (opOk o)))] else bif (bareO o).Ok then Lf [DV.one (Cell.lit (Value.bool false))] [DV.one (Cell.lit (Value.bool (opOk o)))] else bif (bareO o).N != (0 : Int) then Lf [DV.one (Cell.lit (Value.bool false))] [DV.one (Cell.lit (Value.bool (opOk o)))] else bif ByteArray.toList (bareO o).F.Kind == ByteArray.toList { data := #[] : ByteArray } then bif (↑(List.length (bareO o).F.Fields) : Int) == (0 : Int) then Lf [DV.one (Cell.lit (Value.bool ((bareO o).V.K == (0 : Int) && ((bareO o).V.N == (0 : Int) && (ByteArray.toList (bareO o).V.S == ByteArray.toList { data := #[] : ByteArray } && true)))))] [DV.one (Cell.lit (Value.bool (opOk o)))] else Lf [DV.one (Cell.lit (Value.bool false))] [DV.one (Cell.lit (Value.bool (opOk o)))] else Lf [DV.one (Cell.lit (Value.bool false))] [DV.one (Cell.lit (Value.bool (opOk o)))]) := by kernel_rfl
theorem ok_impl_OpOk : Holds EE (23, con_impl_OpOk) := by
  refine holds_of EE_ok Go.Proofs.Try.func23 con_impl_OpOk (by kernel_rfl) use_impl_OpOk (all_cons ok_impl_bareOp all_nil) ann_impl_OpOk (fun (o : DOp) hp hb => ?_)
  have hb_o : BdDV (U := UU) (.agg [.lit (.int .i64 o.Kind), .lit (.string o.Name), .lit (.string o.Text), .lit (.string o.F.Kind), .sl .eVal o.F.Fields, .lit (.string o.Key), .lit (.bool o.Ok), .lit (.int .i64 o.V.K), .lit (.int .i64 o.V.N), .lit (.string o.V.S), .lit (.int .i64 o.N)]) := hb _ (List.mem_cons_self)
  have hl_o_Name : o.Name.size ≤ 9223372036854775807 := Bd.str (hb_o _ (by simp))
  have hl_o_Text : o.Text.size ≤ 9223372036854775807 := Bd.str (hb_o _ (by simp))
  have hl_o_F_Kind : o.F.Kind.size ≤ 9223372036854775807 := Bd.str (hb_o _ (by simp))
  have hl_o_F_Fields : o.F.Fields.length ≤ 9223372036854775807 := Bd.len (U := UU) (τ := .eVal) (xs := o.F.Fields) (hb_o _ (by simp))
  have hl_o_Key : o.Key.size ≤ 9223372036854775807 := Bd.str (hb_o _ (by simp))
  have hl_o_V_S : o.V.S.size ≤ 9223372036854775807 := Bd.str (hb_o _ (by simp))
  clear hp hb
  rw [vc_impl_OpOk o]
  have e : ∀ s : ByteArray, (ByteArray.toList s == ByteArray.toList { data := #[] }) = decide (s = noBytes) := fun s => toList_beq _ _
  have e2 : ∀ v : DVal, (v.K == 0 && (v.N == 0 && (decide (v.S = noBytes) && true))) = decide (v = zVal) := fun v => by rw [← val_beq v zVal, toList_beq]; rfl
  simp only [e, e2]
  rw [opOk_bare]
  simp only [noFact]
  repeat' (refine if_cond (fun h => ?_) (fun h => ?_))
  all_goals (refine Lf_b ?_; grind)
theorem ofInt_toNat {m : Int} (h0 : 0 ≤ m) (h : m < 9223372036854775808) : (BitVec.ofInt 64 m).toNat = m.toNat := by
  rw [BitVec.toNat_ofInt]
  omega
theorem and_i64 {m : Int} (h0 : 0 ≤ m) (h : m < 9223372036854775808) (k : Nat) (hk : k ≤ 62) : IntKind.wrap .i64 (((BitVec.ofInt 64 m &&& BitVec.ofInt 64 (2 ^ k - 1 : Int)).toNat : Nat) : Int) = m % (2 ^ k : Nat) := by
  have h2 : (2 : Nat) ^ k ≤ 2 ^ 62 := Nat.pow_le_pow_right (by omega) hk
  have hp : 0 < 2 ^ k := Nat.two_pow_pos k
  have e : (BitVec.ofInt 64 (2 ^ k - 1 : Int)).toNat = 2 ^ k - 1 := by
    rw [BitVec.toNat_ofInt]
    have : ((2 : Int) ^ k) = ((2 ^ k : Nat) : Int) := by norm_cast
    rw [this]
    omega
  rw [BitVec.toNat_and, ofInt_toNat h0 h, e, Nat.and_two_pow_sub_one_eq_mod]
  have hm : m.toNat % 2 ^ k < 2 ^ k := Nat.mod_lt _ hp
  rw [wrap_i64 (by omega) (by omega)]
  have hm2 : m = ((m.toNat : Nat) : Int) := by omega
  conv => rhs; rw [hm2]
  norm_cast
theorem and127 {m : Int} (h0 : 0 ≤ m) (h : m < 9223372036854775808) : IntKind.wrap .i64 (((BitVec.ofInt (IntKind.bits .i64) m &&& BitVec.ofInt (IntKind.bits .i64) 127).toNat : Nat) : Int) = m % 128 := and_i64 h0 h 7 (by omega)
theorem and1 {m : Int} (h0 : 0 ≤ m) (h : m < 9223372036854775808) : IntKind.wrap .i64 (((BitVec.ofInt (IntKind.bits .i64) m &&& BitVec.ofInt (IntKind.bits .i64) 1).toNat : Nat) : Int) = m % 2 := and_i64 h0 h 1 (by omega)
theorem or_i64 {x y : Int} (h0 : 0 ≤ x) (h1 : 0 ≤ y) (k : Nat) (hk : k ≤ 61) (hx : x < (2 ^ k : Nat)) (hy : y % (2 ^ k : Nat) = 0) (hy2 : y < 4611686018427387904) : IntKind.wrap .i64 (((BitVec.ofInt (IntKind.bits .i64) x ||| BitVec.ofInt (IntKind.bits .i64) y).toNat : Nat) : Int) = x + y := by
  have h2 : (2 : Nat) ^ k ≤ 2 ^ 61 := Nat.pow_le_pow_right (by omega) hk
  have e1 : (BitVec.ofInt 64 x).toNat = x.toNat := ofInt_toNat h0 (by omega)
  have e2 : (BitVec.ofInt 64 y).toNat = y.toNat := ofInt_toNat h1 (by omega)
  show IntKind.wrap .i64 (((BitVec.ofInt 64 x ||| BitVec.ofInt 64 y).toNat : Nat) : Int) = x + y
  rw [BitVec.toNat_or, e1, e2]
  obtain ⟨q, hq⟩ : ∃ q : Nat, y.toNat = 2 ^ k * q := by
    have : (y.toNat : Int) % ((2 ^ k : Nat) : Int) = 0 := by rw [Int.toNat_of_nonneg h1]; exact hy
    have h3 : y.toNat % 2 ^ k = 0 := by exact_mod_cast this
    exact ⟨y.toNat / 2 ^ k, (Nat.mul_div_cancel' (Nat.dvd_of_mod_eq_zero h3)).symm⟩
  have e3 : x.toNat ||| y.toNat = x.toNat + y.toNat := by
    rw [hq, Nat.or_comm, ← Nat.two_pow_add_eq_or_of_lt (by omega : x.toNat < 2 ^ k)]
    omega
  rw [e3, wrap_i64 (by omega) (by omega)]
  omega
theorem or128 {x : Int} (h0 : 0 ≤ x) (h : x < 128) : IntKind.wrap .i64 (((BitVec.ofInt (IntKind.bits .i64) x ||| BitVec.ofInt (IntKind.bits .i64) 128).toNat : Nat) : Int) = x + 128 := or_i64 h0 (by omega) 7 (by omega) (by simpa using h) (by decide) (by omega)
theorem shr_i64 {m : Int} (h0 : 0 ≤ m) (k : Nat) (hk : k ≤ 63) : Int.fdiv m (2 ^ (min (Int.toNat (k : Int)) (IntKind.bits .i64))) = m / (2 ^ k : Nat) := by
  have : min (Int.toNat (k : Int)) (IntKind.bits .i64) = k := by show min (Int.toNat (k : Int)) 64 = k; omega
  rw [this, Int.fdiv_eq_ediv_of_nonneg _ (by have : (0 : Int) ≤ 2 ^ k := Int.pow_nonneg (by omega); exact this)]
  norm_cast
theorem wrap_u8 {n : Int} (h : 0 ≤ n) (h' : n ≤ 255) : IntKind.wrap .u8 n = n := by
  simp only [IntKind.wrap]
  simp [IntKind.bits, IntKind.signed]
  omega
def vi (m : Nat) : List Int := if m ≤ 127 then [(m : Int)] else ((m % 128 + 128 : Nat) : Int) :: vi (m / 128)
termination_by m
decreasing_by omega
theorem vi_len : ∀ (k m : Nat), m < 128 ^ (k + 1) → (vi m).length ≤ k + 1
  | 0, m, h => by rw [vi, if_pos (by simpa using Nat.le_of_lt_succ (by simpa using h))]; simp
  | k + 1, m, h => by
    rw [vi]
    split
    · simp
    · have : m / 128 < 128 ^ (k + 1) := by
        rw [Nat.div_lt_iff_lt_mul (by omega)]
        rw [Nat.pow_succ] at h
        exact h
      have := vi_len k (m / 128) this
      simp only [List.length_cons]; omega
def clampI (n : Int) : Int := if (if n < 1000000000 then n else 1000000000) > -1000000000 then (if n < 1000000000 then n else 1000000000) else -1000000000
theorem clampI_le (n : Int) : -1000000000 ≤ clampI n ∧ clampI n ≤ 1000000000 := by unfold clampI; split <;> split <;> omega
def zigI (n : Int) : Int := if clampI n < 0 then -2 * clampI n - 1 else 2 * clampI n
theorem zigI_le (n : Int) : 0 ≤ zigI n ∧ zigI n ≤ 2000000000 := by have := clampI_le n; unfold zigI; split <;> omega
def numB (n : Int) : List Int := vi (zigI n).toNat
theorem numB_len (n : Int) : (numB n).length ≤ 5 := vi_len 4 _ (by have := zigI_le n; omega)
theorem vi_small {u : Int} (h0 : 0 ≤ u) (h : u ≤ 127) : vi u.toNat = [u] := by rw [vi, if_pos (by omega)]; simp; omega
theorem vi_big {u : Int} (h0 : 0 ≤ u) (h : ¬ u ≤ 127) : vi u.toNat = (u % 128 + 128) :: vi (u / 128).toNat := by
  rw [vi, if_neg (by omega)]
  have e : (u / 128).toNat = u.toNat / 128 := by omega
  rw [e]
  congr 1
  omega
def txtI (s : ByteArray) : List Int := (bs s).map fun b => (b.toNat : Int)
theorem txtI_len (s : ByteArray) : (txtI s).length = s.size := by rw [txtI, List.length_map, bs_len]
def textB (s : ByteArray) : List Int := numB s.size ++ txtI s
def valB (v : DVal) : List Int := numB v.K ++ (if v.K = 1 then numB v.N else textB v.S)
def valsB (l : List DVal) : List Int := l.flatMap valB
def factB (f : DFact) : List Int := textB f.Kind ++ numB f.Fields.length ++ valsB f.Fields
def flagB (b : Bool) : List Int := numB (if b then 1 else 0)
def opB (o : DOp) : List Int := if opOk o = true then
    numB o.Kind ++ textB o.Name ++ textB o.Text ++ (if o.Kind = 3 then numB 1 ++ factB o.F else numB 0) ++ textB o.Key ++ flagB o.Ok ++ (if o.Kind = 4 then numB 1 ++ valB o.V else numB 0) ++ numB o.N else []
theorem textB_len (s : ByteArray) : (textB s).length ≤ 5 + s.size := by have := numB_len s.size; simp only [textB, List.length_append, txtI_len]; omega
theorem valB_len (v : DVal) : (valB v).length ≤ 10 + v.S.size := by
  have h1 := numB_len v.K; have h2 := numB_len v.N; have h3 := textB_len v.S
  simp only [valB, List.length_append]; split <;> omega
def con_impl_putNum : Con UU where
  α := (List Int) × Int
  md := [.mv, .ro]
  of := fun | [.one (.sl .byte a0), .one (.lit (.int .i64 a1))] => some (a0, a1) | _ => none
  ds := fun (b, n) => [.one (.sl .byte b), .one (.lit (.int .i64 n))]
  pre := fun (b, n) => [b.length ≤ 4294967280]
  res := fun (b, n) => ⟨[.one (.sl .byte (b ++ numB n))], true, []⟩
  law := by intro l x h; (try simp only at h); split at h <;> cases h; rfl
def I_impl_putNum_5 (b : (List Int)) (n : Int) : List Int × Int × Unit → Prop := fun (out, u, _) => 0 ≤ u ∧ u ≤ 2000000000 ∧ out ++ vi u.toNat = b ++ numB n
def μ_impl_putNum_5 (b : (List Int)) (n : Int) : List Int × Int × Unit → Nat := fun (out, u, _) => u.toNat
def ann_impl_putNum : con_impl_putNum.α → Nat → Option (Ann UU) := fun (b, n) => annL [(5, annOf [.slot 0 (0, 1024) (.own .byte true), .slot 5 (5, 1024) (.lit (.int .i64))] (fun _ => I_impl_putNum_5 b n) (μ_impl_putNum_5 b n))]
def use_impl_putNum : List (FuncId × Con UU) := []
theorem vc_impl_putNum (b : (List Int)) (n : Int) : goal EE use_impl_putNum Go.Proofs.Try.f45 con_impl_putNum ann_impl_putNum (b, n) = (let x0 : Int := if (if n < (1000000000 : Int) then n else (1000000000 : Int)) > (-1000000000 : Int) then if n < (1000000000 : Int) then n else (1000000000 : Int) else (-1000000000 : Int);
bif decide (x0 < (0 : Int)) then
  I_impl_putNum_5 b n (b, IntKind.wrap IntKind.i64 (IntKind.wrap IntKind.i64 ((-2 : Int) * x0) - (1 : Int)), PUnit.unit) ∧
    ∀ (y : List Int × Int × PUnit),
      let x1 : List Int := [IntKind.wrap IntKind.u8 (IntKind.wrap IntKind.i64 ((128 : Int) + Int.tmod y.2.1 (128 : Int)))];
      let x2 : List Int := [IntKind.wrap IntKind.u8 y.2.1];
      I_impl_putNum_5 b n y → bif decide (y.2.1 > (127 : Int)) then (128 : Int) ≠ (0 : Int) ∧ List.length y.1 + List.length x1 ≤ (4294967296 : Nat) ∧ (128 : Int) ≠ (0 : Int) ∧ I_impl_putNum_5 b n (y.1 ++ x1, IntKind.wrap IntKind.i64 (Int.tdiv y.2.1 (128 : Int)), PUnit.unit) ∧ μ_impl_putNum_5 b n (y.1 ++ x1, IntKind.wrap IntKind.i64 (Int.tdiv y.2.1 (128 : Int)), PUnit.unit) < μ_impl_putNum_5 b n y else List.length y.1 + List.length x2 ≤ (4294967296 : Nat) ∧ Lf [DV.one (Cell.sl Cd.byte (y.1 ++ x2))] [DV.one (Cell.sl Cd.byte (b ++ numB n))]
else
  I_impl_putNum_5 b n (b, IntKind.wrap IntKind.i64 ((2 : Int) * x0), PUnit.unit) ∧
    ∀ (y : List Int × Int × PUnit),
      let x1 : List Int := [IntKind.wrap IntKind.u8 (IntKind.wrap IntKind.i64 ((128 : Int) + Int.tmod y.2.1 (128 : Int)))];
      let x2 : List Int := [IntKind.wrap IntKind.u8 y.2.1];
      I_impl_putNum_5 b n y → bif decide (y.2.1 > (127 : Int)) then (128 : Int) ≠ (0 : Int) ∧ List.length y.1 + List.length x1 ≤ (4294967296 : Nat) ∧ (128 : Int) ≠ (0 : Int) ∧ I_impl_putNum_5 b n (y.1 ++ x1, IntKind.wrap IntKind.i64 (Int.tdiv y.2.1 (128 : Int)), PUnit.unit) ∧ μ_impl_putNum_5 b n (y.1 ++ x1, IntKind.wrap IntKind.i64 (Int.tdiv y.2.1 (128 : Int)), PUnit.unit) < μ_impl_putNum_5 b n y else List.length y.1 + List.length x2 ≤ (4294967296 : Nat) ∧ Lf [DV.one (Cell.sl Cd.byte (y.1 ++ x2))] [DV.one (Cell.sl Cd.byte (b ++ numB n))]) := by kernel_rfl
theorem ok_impl_putNum : Holds EE (45, con_impl_putNum) := by
  refine holds_of EE_ok Go.Proofs.Try.func45 con_impl_putNum (by kernel_rfl) use_impl_putNum all_nil ann_impl_putNum (fun x hp hb => ?_)
  obtain ⟨b, n⟩ := x
  have hb_b : BdDV (U := UU) (.one (.sl .byte b)) := hb _ (List.mem_cons_self)
  have hl_b : b.length ≤ 9223372036854775807 := Bd.len hb_b
  have hb_n : BdDV (U := UU) (.one (.lit (.int .i64 n))) := hb _ (List.mem_cons_of_mem _ (List.mem_cons_self))
  have hl_n := Bd.i64 hb_n
  have hp0 : b.length ≤ 4294967280 := hp _ (List.mem_cons_self)
  clear hp hb
  rw [vc_impl_putNum b n]
  dsimp only
  have hz := zigI_le n
  have hc := clampI_le n
  have hn := numB_len n
  have he : ∀ e : Int, e = zigI n → I_impl_putNum_5 b n (b, e, PUnit.unit) := fun e h => by subst h; exact ⟨hz.1, hz.2, rfl⟩
  refine if_cond (fun h => ⟨he _ ?_, fun y hI => ?_⟩) (fun h => ⟨he _ ?_, fun y hI => ?_⟩)
  · have h : clampI n < 0 := of_decide_eq_true h
    show IntKind.wrap .i64 (IntKind.wrap .i64 (-2 * clampI n) - 1) = zigI n
    rw [zigI, if_pos h, wrap_i64 (n := -2 * clampI n) (by omega) (by omega), wrap_i64 (by omega) (by omega)]
  rotate_left
  · have h : ¬ clampI n < 0 := of_decide_eq_false h
    show IntKind.wrap .i64 (2 * clampI n) = zigI n
    rw [zigI, if_neg h, wrap_i64 (by omega) (by omega)]
  all_goals
    obtain ⟨out, u, _⟩ := y
    obtain ⟨h0, h1, h2⟩ := (hI : 0 ≤ u ∧ u ≤ 2000000000 ∧ out ++ vi u.toNat = b ++ numB n)
    dsimp only
    have hl : out.length + (vi u.toNat).length = b.length + (numB n).length := by rw [← List.length_append, h2, List.length_append]
    refine if_cond (fun hu => ?_) (fun hu => ?_)
    · have hu := of_decide_eq_true hu
      have e1 : IntKind.wrap .u8 (IntKind.wrap .i64 (128 + u.tmod 128)) = u % 128 + 128 := by
        rw [Int.tmod_eq_emod_of_nonneg h0, wrap_i64 (by omega) (by omega), wrap_u8 (by omega) (by omega)]; omega
      have e2 : IntKind.wrap .i64 (u.tdiv 128) = u / 128 := by rw [Int.tdiv_eq_ediv_of_nonneg h0, wrap_i64 (by omega) (by omega)]
      rw [vi_big h0 (by omega)] at h2 hl
      simp only [List.length_cons] at hl
      simp only [e1, e2]
      repeat' (first | refine And.intro (by first | omega | (simp only [List.length_cons, List.length_nil]; omega)) ?_ | fail)
      all_goals first
        | (refine ⟨⟨by omega, by omega, ?_⟩, ?_⟩
           · rw [List.append_assoc]; exact h2
           · show (u / 128).toNat < u.toNat; omega)
    · have hu := of_decide_eq_false hu
      rw [vi_small h0 (by omega)] at h2 hl
      rw [wrap_u8 h0 (by omega), h2]
      exact ⟨by simp at hl ⊢; omega, Lf_rfl _⟩
theorem Lf_sl {x y : List Int} (h : x = y) : Lf [.one (.sl .byte x)] [.one (.sl .byte y)] := by rw [h]; exact Lf_rfl _
theorem valsB_step (l : List DVal) {i : Int} (h0 : 0 ≤ i) (h : i < l.length) : valsB (l.drop i.toNat) = valB (List.getD l i.toNat zVal) ++ valsB (l.drop (i + 1).toNat) := by
  have hn : i.toNat < l.length := by omega
  have e : (i + 1).toNat = i.toNat + 1 := by omega
  have e2 : List.getD l i.toNat zVal = l[i.toNat] := by simp [List.getD, hn]
  rw [List.drop_eq_getElem_cons hn, e, e2]
  rfl
def con_impl_putText : Con UU where
  α := (List Int) × ByteArray
  md := [.mv, .ro]
  of := fun | [.one (.sl .byte a0), .one (.lit (.string a1))] => some (a0, a1) | _ => none
  ds := fun (b, s) => [.one (.sl .byte b), .one (.lit (.string s))]
  pre := fun (b, s) => [b.length + (textB s).length ≤ 4294967280]
  res := fun (b, s) => ⟨[.one (.sl .byte (b ++ textB s))], true, []⟩
  law := by intro l x h; (try simp only at h); split at h <;> cases h; rfl
def ann_impl_putText : con_impl_putText.α → Nat → Option (Ann UU) := fun (b, s) => annL []
def use_impl_putText : List (FuncId × Con UU) := [(45, con_impl_putNum)]
theorem vc_impl_putText (b : (List Int)) (s : ByteArray) : goal EE use_impl_putText Go.Proofs.Try.f44 con_impl_putText ann_impl_putText (b, s) = (let x0 : List Int := b ++ numB (↑(ByteArray.size s) : Int);
let x1 : List Int := List.map (fun (b : UInt8) => (↑(UInt8.toNat b) : Int)) s.data.toList;
List.length b ≤ (4294967280 : Nat) ∧ List.length x0 + List.length x1 ≤ (4294967296 : Nat) ∧ Lf [DV.one (Cell.sl Cd.byte (x0 ++ x1))] [DV.one (Cell.sl Cd.byte (b ++ textB s))]) := by kernel_rfl
theorem ok_impl_putText : Holds EE (44, con_impl_putText) := by
  refine holds_of EE_ok Go.Proofs.Try.func44 con_impl_putText (by kernel_rfl) use_impl_putText (all_cons ok_impl_putNum all_nil) ann_impl_putText (fun x hp hb => ?_)
  obtain ⟨b, s⟩ := x
  have hb_b : BdDV (U := UU) (.one (.sl .byte b)) := hb _ (List.mem_cons_self)
  have hl_b : b.length ≤ 9223372036854775807 := Bd.len hb_b
  have hb_s : BdDV (U := UU) (.one (.lit (.string s))) := hb _ (List.mem_cons_of_mem _ (List.mem_cons_self))
  have hl_s : s.size ≤ 9223372036854775807 := Bd.str hb_s
  have hp0 : b.length + (textB s).length ≤ 4294967280 := hp _ (List.mem_cons_self)
  clear hp hb
  rw [vc_impl_putText b s]
  dsimp only
  have hl : (textB s).length = (numB s.size).length + s.size := by simp only [textB, List.length_append, txtI_len]
  have h2 : (List.map (fun (b : UInt8) => (b.toNat : Int)) s.data.toList).length = s.size := txtI_len s
  refine ⟨by omega, ?_, Lf_sl (List.append_assoc _ _ _)⟩
  rw [List.length_append, h2]; omega
def con_impl_putVal : Con UU where
  α := (List Int) × DVal
  md := [.mv, .ro]
  of := fun | [.one (.sl .byte a0), .agg [.lit (.int .i64 a1), .lit (.int .i64 a2), .lit (.string a3)]] => some (a0, ⟨a1, a2, a3⟩) | _ => none
  ds := fun (b, v) => [.one (.sl .byte b), .agg [.lit (.int .i64 v.K), .lit (.int .i64 v.N), .lit (.string v.S)]]
  pre := fun (b, v) => [b.length + (valB v).length ≤ 4294967280]
  res := fun (b, v) => ⟨[.one (.sl .byte (b ++ valB v))], true, []⟩
  law := by intro l x h; (try simp only at h); split at h <;> cases h; rfl
def ann_impl_putVal : con_impl_putVal.α → Nat → Option (Ann UU) := fun (b, v) => annL []
def use_impl_putVal : List (FuncId × Con UU) := [(45, con_impl_putNum), (44, con_impl_putText)]
theorem vc_impl_putVal (b : (List Int)) (v : DVal) : goal EE use_impl_putVal Go.Proofs.Try.f48 con_impl_putVal ann_impl_putVal (b, v) = (let x0 : List Int := b ++ numB v.K;
List.length b ≤ (4294967280 : Nat) ∧ bif v.K == (1 : Int) then List.length x0 ≤ (4294967280 : Nat) ∧ Lf [DV.one (Cell.sl Cd.byte (x0 ++ numB v.N))] [DV.one (Cell.sl Cd.byte (b ++ valB v))] else List.length x0 + List.length (textB v.S) ≤ (4294967280 : Nat) ∧ Lf [DV.one (Cell.sl Cd.byte (x0 ++ textB v.S))] [DV.one (Cell.sl Cd.byte (b ++ valB v))]) := by kernel_rfl
theorem ok_impl_putVal : Holds EE (48, con_impl_putVal) := by
  refine holds_of EE_ok Go.Proofs.Try.func48 con_impl_putVal (by kernel_rfl) use_impl_putVal (all_cons ok_impl_putNum (all_cons ok_impl_putText all_nil)) ann_impl_putVal (fun x hp hb => ?_)
  obtain ⟨b, v⟩ := x
  have hb_b : BdDV (U := UU) (.one (.sl .byte b)) := hb _ (List.mem_cons_self)
  have hl_b : b.length ≤ 9223372036854775807 := Bd.len hb_b
  have hb_v : BdDV (U := UU) (.agg [.lit (.int .i64 v.K), .lit (.int .i64 v.N), .lit (.string v.S)]) := hb _ (List.mem_cons_of_mem _ (List.mem_cons_self))
  have hl_v_S : v.S.size ≤ 9223372036854775807 := Bd.str (hb_v _ (by simp))
  have hp0 : b.length + (valB v).length ≤ 4294967280 := hp _ (List.mem_cons_self)
  clear hp hb
  rw [vc_impl_putVal b v]
  dsimp only
  have hl : (valB v).length = (numB v.K).length + (if v.K = 1 then numB v.N else textB v.S).length := by simp only [valB, List.length_append]
  refine ⟨by omega, if_cond (fun h => ?_) (fun h => ?_)⟩
  · have h : v.K = 1 := by simpa using h
    rw [if_pos h] at hl
    refine ⟨by rw [List.length_append]; omega, Lf_sl ?_⟩
    rw [valB, if_pos h, List.append_assoc]
  · have h : ¬ v.K = 1 := by simpa using h
    rw [if_neg h] at hl
    refine ⟨by rw [List.length_append]; omega, Lf_sl ?_⟩
    rw [valB, if_neg h, List.append_assoc]
def con_impl_putFlag : Con UU where
  α := (List Int) × Bool
  md := [.mv, .ro]
  of := fun | [.one (.sl .byte a0), .one (.lit (.bool a1))] => some (a0, a1) | _ => none
  ds := fun (b, flag) => [.one (.sl .byte b), .one (.lit (.bool flag))]
  pre := fun (b, flag) => [b.length + (flagB flag).length ≤ 4294967280]
  res := fun (b, flag) => ⟨[.one (.sl .byte (b ++ flagB flag))], true, []⟩
  law := by intro l x h; (try simp only at h); split at h <;> cases h; rfl
def ann_impl_putFlag : con_impl_putFlag.α → Nat → Option (Ann UU) := fun (b, flag) => annL []
def use_impl_putFlag : List (FuncId × Con UU) := [(45, con_impl_putNum)]
theorem vc_impl_putFlag (b : (List Int)) (flag : Bool) : goal EE use_impl_putFlag Go.Proofs.Try.f46 con_impl_putFlag ann_impl_putFlag (b, flag) = (bif flag then List.length b ≤ (4294967280 : Nat) ∧ Lf [DV.one (Cell.sl Cd.byte (b ++ numB (1 : Int)))] [DV.one (Cell.sl Cd.byte (b ++ flagB flag))] else List.length b ≤ (4294967280 : Nat) ∧ Lf [DV.one (Cell.sl Cd.byte (b ++ numB (0 : Int)))] [DV.one (Cell.sl Cd.byte (b ++ flagB flag))]) := by kernel_rfl
theorem ok_impl_putFlag : Holds EE (46, con_impl_putFlag) := by
  refine holds_of EE_ok Go.Proofs.Try.func46 con_impl_putFlag (by kernel_rfl) use_impl_putFlag (all_cons ok_impl_putNum all_nil) ann_impl_putFlag (fun x hp hb => ?_)
  obtain ⟨b, flag⟩ := x
  have hb_b : BdDV (U := UU) (.one (.sl .byte b)) := hb _ (List.mem_cons_self)
  have hl_b : b.length ≤ 9223372036854775807 := Bd.len hb_b
  have hb_flag : BdDV (U := UU) (.one (.lit (.bool flag))) := hb _ (List.mem_cons_of_mem _ (List.mem_cons_self))
  have hp0 : b.length + (flagB flag).length ≤ 4294967280 := hp _ (List.mem_cons_self)
  clear hp hb
  rw [vc_impl_putFlag b flag]
  refine if_cond (fun h => ⟨by omega, Lf_sl ?_⟩) (fun h => ⟨by omega, Lf_sl ?_⟩) <;> rw [flagB, h] <;> rfl
def con_impl_putFact : Con UU where
  α := (List Int) × DFact
  md := [.mv, .ro]
  of := fun | [.one (.sl .byte a0), .agg [.lit (.string a1), .sl .eVal a2]] => some (a0, ⟨a1, a2⟩) | _ => none
  ds := fun (b, f) => [.one (.sl .byte b), .agg [.lit (.string f.Kind), .sl .eVal f.Fields]]
  pre := fun (b, f) => [b.length + (factB f).length ≤ 4294967280]
  res := fun (b, f) => ⟨[.one (.sl .byte (b ++ factB f))], true, []⟩
  law := by intro l x h; (try simp only at h); split at h <;> cases h; rfl
def I_impl_putFact_3 (b : (List Int)) (f : DFact) : List Int × Int × Unit → Prop := fun (out, i, _) => 0 ≤ i ∧ i ≤ f.Fields.length ∧ out ++ valsB (f.Fields.drop i.toNat) = b ++ factB f
def μ_impl_putFact_3 (b : (List Int)) (f : DFact) : List Int × Int × Unit → Nat := fun (out, i, _) => f.Fields.length - i.toNat
def ann_impl_putFact : con_impl_putFact.α → Nat → Option (Ann UU) := fun (b, f) => annL [(3, annOf [.slot 0 (0, 1024) (.own .byte true), .slot 18 (18, 1024) (.lit (.int .i64))] (fun _ => I_impl_putFact_3 b f) (μ_impl_putFact_3 b f))]
def use_impl_putFact : List (FuncId × Con UU) := [(44, con_impl_putText), (45, con_impl_putNum), (48, con_impl_putVal)]
theorem vc_impl_putFact (b : (List Int)) (f : DFact) : goal EE use_impl_putFact Go.Proofs.Try.f47 con_impl_putFact ann_impl_putFact (b, f) = (let x0 : Int := (↑(List.length f.Fields) : Int);
List.length b + List.length (textB f.Kind) ≤ (4294967280 : Nat) ∧
  List.length (b ++ textB f.Kind) ≤ (4294967280 : Nat) ∧
    I_impl_putFact_3 b f (b ++ textB f.Kind ++ numB x0, (0 : Int), PUnit.unit) ∧
      ∀ (y : List Int × Int × PUnit),
        let x1 : List Int := valB (List.getD f.Fields (Int.toNat y.2.1) zVal);
        I_impl_putFact_3 b f y → bif decide (y.2.1 < x0) then (0 : Int) ≤ y.2.1 ∧ Int.toNat y.2.1 < List.length f.Fields ∧ List.length y.1 + List.length x1 ≤ (4294967280 : Nat) ∧ I_impl_putFact_3 b f (y.1 ++ x1, IntKind.wrap IntKind.i64 (y.2.1 + (1 : Int)), PUnit.unit) ∧ μ_impl_putFact_3 b f (y.1 ++ x1, IntKind.wrap IntKind.i64 (y.2.1 + (1 : Int)), PUnit.unit) < μ_impl_putFact_3 b f y else Lf [DV.one (Cell.sl Cd.byte y.1)] [DV.one (Cell.sl Cd.byte (b ++ factB f))]) := by kernel_rfl
theorem ok_impl_putFact : Holds EE (47, con_impl_putFact) := by
  refine holds_of EE_ok Go.Proofs.Try.func47 con_impl_putFact (by kernel_rfl) use_impl_putFact (all_cons ok_impl_putText (all_cons ok_impl_putNum (all_cons ok_impl_putVal all_nil))) ann_impl_putFact (fun x hp hb => ?_)
  obtain ⟨b, f⟩ := x
  have hb_b : BdDV (U := UU) (.one (.sl .byte b)) := hb _ (List.mem_cons_self)
  have hl_b : b.length ≤ 9223372036854775807 := Bd.len hb_b
  have hb_f : BdDV (U := UU) (.agg [.lit (.string f.Kind), .sl .eVal f.Fields]) := hb _ (List.mem_cons_of_mem _ (List.mem_cons_self))
  have hl_f_Kind : f.Kind.size ≤ 9223372036854775807 := Bd.str (hb_f _ (by simp))
  have hl_f_Fields : f.Fields.length ≤ 9223372036854775807 := Bd.len (U := UU) (τ := .eVal) (xs := f.Fields) (hb_f _ (by simp))
  have hp0 : b.length + (factB f).length ≤ 4294967280 := hp _ (List.mem_cons_self)
  clear hp hb
  rw [vc_impl_putFact b f]
  dsimp only
  have hl : (factB f).length = (textB f.Kind).length + (numB f.Fields.length).length + (valsB f.Fields).length := by simp only [factB, List.length_append]
  have hn := numB_len f.Fields.length
  refine ⟨by omega, by simp only [List.length_append]; omega, ⟨by omega, by omega, by simp only [factB, List.append_assoc]; rfl⟩, ?_⟩
  rintro ⟨out, i, ⟨⟩⟩ ⟨h1, h2, hR⟩
  simp only
  have hlen := congrArg List.length hR
  rw [List.length_append, List.length_append] at hlen
  refine if_cond (fun hc => ?_) (fun hc => ?_)
  · have hc : i < f.Fields.length := of_decide_eq_true hc
    rw [valsB_step f.Fields h1 hc] at hR hlen
    rw [List.length_append] at hlen
    rw [wrap_i64 (by omega) (by omega)]
    refine ⟨h1, by omega, by omega, ⟨by omega, by omega, ?_⟩, ?_⟩
    · rw [List.append_assoc]; exact hR
    · simp only [μ_impl_putFact_3]; omega
  · have hc : ¬ i < f.Fields.length := of_decide_eq_false hc
    refine Lf_sl ?_
    rw [← hR, List.drop_eq_nil_of_le (by omega)]
    exact (List.append_nil _).symm
theorem opB_ok {o : DOp} (h : opOk o = true) : opB o = numB o.Kind ++ textB o.Name ++ textB o.Text ++ (if o.Kind = 3 then numB 1 ++ factB o.F else numB 0) ++ textB o.Key ++ flagB o.Ok ++ (if o.Kind = 4 then numB 1 ++ valB o.V else numB 0) ++ numB o.N := by rw [opB, if_pos h]
theorem kind34 (o : DOp) : ((o.Kind = 3) = True ∧ (o.Kind = 4) = False) ∨ ((o.Kind = 3) = False ∧ (o.Kind = 4) = True) ∨ ((o.Kind = 3) = False ∧ (o.Kind = 4) = False) := by
  by_cases h3 : o.Kind = 3
  · exact Or.inl ⟨eq_true h3, eq_false (by omega)⟩
  · by_cases h4 : o.Kind = 4
    · exact Or.inr (Or.inl ⟨eq_false h3, eq_true h4⟩)
    · exact Or.inr (Or.inr ⟨eq_false h3, eq_false h4⟩)
def con_impl_PutOp : Con UU where
  α := DOp
  md := [.ro]
  of := fun | [.agg [.lit (.int .i64 a0), .lit (.string a1), .lit (.string a2), .lit (.string a3), .sl .eVal a4, .lit (.string a5), .lit (.bool a6), .lit (.int .i64 a7), .lit (.int .i64 a8), .lit (.string a9), .lit (.int .i64 a10)]] => some ⟨a0, a1, a2, ⟨a3, a4⟩, a5, a6, ⟨a7, a8, a9⟩, a10⟩ | _ => none
  ds := fun o => [.agg [.lit (.int .i64 o.Kind), .lit (.string o.Name), .lit (.string o.Text), .lit (.string o.F.Kind), .sl .eVal o.F.Fields, .lit (.string o.Key), .lit (.bool o.Ok), .lit (.int .i64 o.V.K), .lit (.int .i64 o.V.N), .lit (.string o.V.S), .lit (.int .i64 o.N)]]
  pre := fun o => [(opB o).length ≤ 4294967200]
  res := fun o => ⟨[.one (.sl .byte (opB o))], true, []⟩
  law := by intro l x h; (try simp only at h); split at h <;> cases h; rfl
def ann_impl_PutOp : con_impl_PutOp.α → Nat → Option (Ann UU) := fun o => annL []
def use_impl_PutOp : List (FuncId × Con UU) := [(23, con_impl_OpOk), (44, con_impl_putText), (45, con_impl_putNum), (47, con_impl_putFact), (48, con_impl_putVal), (46, con_impl_putFlag)]
theorem vc_impl_PutOp (o : DOp) : goal EE use_impl_PutOp Go.Proofs.Try.f25 con_impl_PutOp ann_impl_PutOp o = (let x0 : List Int := [] ++ numB o.Kind ++ textB o.Name ++ textB o.Text ++ flagB (o.Kind == (3 : Int)) ++ factB o.F ++ textB o.Key ++ flagB o.Ok ++ flagB (o.Kind == (4 : Int));
let x1 : List Int := [] ++ numB o.Kind ++ textB o.Name ++ textB o.Text ++ flagB (o.Kind == (3 : Int)) ++ textB o.Key ++ flagB o.Ok ++ flagB (o.Kind == (4 : Int));
let x2 : List Int := [] ++ numB o.Kind ++ textB o.Name ++ textB o.Text ++ flagB (o.Kind == (3 : Int));
let x3 : List Int := [] ++ numB o.Kind ++ textB o.Name;
let x4 : List Int := x2 ++ factB o.F ++ textB o.Key;
let x5 : Bool := o.Kind == (4 : Int);
bif !opOk o then Lf [DV.one (Cell.sl Cd.byte [])] [DV.one (Cell.sl Cd.byte (opB o))] else (0 : Nat) ≤ (4294967280 : Nat) ∧ List.length ([] ++ numB o.Kind) + List.length (textB o.Name) ≤ (4294967280 : Nat) ∧ List.length x3 + List.length (textB o.Text) ≤ (4294967280 : Nat) ∧ List.length (x3 ++ textB o.Text) + List.length (flagB (o.Kind == (3 : Int))) ≤ (4294967280 : Nat) ∧ bif o.Kind == (3 : Int) then List.length x2 + List.length (factB o.F) ≤ (4294967280 : Nat) ∧ List.length (x2 ++ factB o.F) + List.length (textB o.Key) ≤ (4294967280 : Nat) ∧ List.length x4 + List.length (flagB o.Ok) ≤ (4294967280 : Nat) ∧ List.length (x4 ++ flagB o.Ok) + List.length (flagB x5) ≤ (4294967280 : Nat) ∧ bif x5 then List.length x0 + List.length (valB o.V) ≤ (4294967280 : Nat) ∧ List.length (x0 ++ valB o.V) ≤ (4294967280 : Nat) ∧ Lf [DV.one (Cell.sl Cd.byte (x0 ++ valB o.V ++ numB o.N))] [DV.one (Cell.sl Cd.byte (opB o))] else List.length x0 ≤ (4294967280 : Nat) ∧ Lf [DV.one (Cell.sl Cd.byte (x0 ++ numB o.N))] [DV.one (Cell.sl Cd.byte (opB o))] else List.length x2 + List.length (textB o.Key) ≤ (4294967280 : Nat) ∧ List.length (x2 ++ textB o.Key) + List.length (flagB o.Ok) ≤ (4294967280 : Nat) ∧ List.length (x2 ++ textB o.Key ++ flagB o.Ok) + List.length (flagB x5) ≤ (4294967280 : Nat) ∧ bif x5 then List.length x1 + List.length (valB o.V) ≤ (4294967280 : Nat) ∧ List.length (x1 ++ valB o.V) ≤ (4294967280 : Nat) ∧ Lf [DV.one (Cell.sl Cd.byte (x1 ++ valB o.V ++ numB o.N))] [DV.one (Cell.sl Cd.byte (opB o))] else List.length x1 ≤ (4294967280 : Nat) ∧ Lf [DV.one (Cell.sl Cd.byte (x1 ++ numB o.N))] [DV.one (Cell.sl Cd.byte (opB o))]) := by kernel_rfl
theorem ok_impl_PutOp : Holds EE (25, con_impl_PutOp) := by
  refine holds_of EE_ok Go.Proofs.Try.func25 con_impl_PutOp (by kernel_rfl) use_impl_PutOp (all_cons ok_impl_OpOk (all_cons ok_impl_putText (all_cons ok_impl_putNum (all_cons ok_impl_putFact (all_cons ok_impl_putVal (all_cons ok_impl_putFlag all_nil)))))) ann_impl_PutOp (fun (o : DOp) hp hb => ?_)
  have hb_o : BdDV (U := UU) (.agg [.lit (.int .i64 o.Kind), .lit (.string o.Name), .lit (.string o.Text), .lit (.string o.F.Kind), .sl .eVal o.F.Fields, .lit (.string o.Key), .lit (.bool o.Ok), .lit (.int .i64 o.V.K), .lit (.int .i64 o.V.N), .lit (.string o.V.S), .lit (.int .i64 o.N)]) := hb _ (List.mem_cons_self)
  have hl_o_Name : o.Name.size ≤ 9223372036854775807 := Bd.str (hb_o _ (by simp))
  have hl_o_Text : o.Text.size ≤ 9223372036854775807 := Bd.str (hb_o _ (by simp))
  have hl_o_F_Kind : o.F.Kind.size ≤ 9223372036854775807 := Bd.str (hb_o _ (by simp))
  have hl_o_F_Fields : o.F.Fields.length ≤ 9223372036854775807 := Bd.len (U := UU) (τ := .eVal) (xs := o.F.Fields) (hb_o _ (by simp))
  have hl_o_Key : o.Key.size ≤ 9223372036854775807 := Bd.str (hb_o _ (by simp))
  have hl_o_V_S : o.V.S.size ≤ 9223372036854775807 := Bd.str (hb_o _ (by simp))
  have hp0 : (opB o).length ≤ 4294967200 := hp _ (List.mem_cons_self)
  clear hp hb
  rw [vc_impl_PutOp o]
  dsimp only
  refine if_cond (fun h => Lf_sl (show opB o = [] from if_neg (by simpa using h)).symm) (fun h => ?_)
  have h : opOk o = true := by simpa using h
  have eo := opB_ok h
  rw [eo] at hp0 ⊢
  have e31 : (o.Kind == 3) = decide (o.Kind = 3) := rfl
  have e41 : (o.Kind == 4) = decide (o.Kind = 4) := rfl
  rcases kind34 o with ⟨h3, h4⟩ | ⟨h3, h4⟩ | ⟨h3, h4⟩ <;> cases ho : o.Ok
  all_goals
    simp only [e31, e41, h3, h4, ho, flagB, decide_true, decide_false, cond_true, cond_false, if_true, if_false, List.nil_append, List.length_append, List.length_nil, Bool.false_eq_true] at hp0 ⊢
    repeat' (first | refine And.intro (by omega) ?_ | fail)
    exact Lf_sl (by simp only [List.append_assoc])
theorem valsB_len : ∀ l : List DVal, (valsB l).length ≤ 10 * l.length + (l.map sizeVal).sum
  | [] => by simp [valsB]
  | v :: l => by
    have h1 := valsB_len l
    have h2 := valB_len v
    have e : valsB (v :: l) = valB v ++ valsB l := rfl
    rw [e]; simp only [List.length_append, List.length_cons, List.map_cons, List.sum_cons, sizeVal] at *; omega
theorem factB_len (f : DFact) : (factB f).length ≤ 10 + 10 * sizeFact f := by
  have h1 := textB_len f.Kind; have h2 := numB_len f.Fields.length; have h3 := valsB_len f.Fields
  simp only [factB, List.length_append, sizeFact, sizeValS]; omega
theorem opB_len (o : DOp) : (opB o).length ≤ 100 + 10 * sizeOp o := by
  have h1 := numB_len o.Kind; have h2 := textB_len o.Name; have h3 := textB_len o.Text; have h4 := factB_len o.F; have h5 := textB_len o.Key; have h6 := valB_len o.V
  have h7 := numB_len 0; have h8 := numB_len 1; have h9 := numB_len o.N
  have h10 : (flagB o.Ok).length ≤ 5 := numB_len _
  unfold opB
  split
  · simp only [List.length_append, sizeOp, sizeVal]
    split <;> split <;> (try simp only [List.length_append]) <;> omega
  · simp
def numMax (n : Int) : Prop := -1000000000 ≤ n ∧ n ≤ 1000000000
instance (n : Int) : Decidable (numMax n) := inferInstanceAs (Decidable (_ ∧ _))
def unzig (m : Int) : Int := if m % 2 = 1 then -(m / 2) - 1 else m / 2
def gLoop (b : List Int) (at0 : Int) : Nat → Int → Int → Int × Int × Bool
  | 0, _, _ => (0, 0, false)
  | j + 1, k, m => if at0 + k < b.length then
      (if 127 < List.getD b (at0 + k).toNat 0 then gLoop b at0 j (k + 1) (m + List.getD b (at0 + k).toNat 0 % 128 * (2 ^ (7 * k).toNat : Nat))
       else if (0 < k ∧ List.getD b (at0 + k).toNat 0 = 0) ∨ ¬ numMax (unzig (m + List.getD b (at0 + k).toNat 0 % 128 * (2 ^ (7 * k).toNat : Nat))) then (0, 0, false)
       else (unzig (m + List.getD b (at0 + k).toNat 0 % 128 * (2 ^ (7 * k).toNat : Nat)), at0 + k + 1, true))
    else (0, 0, false)
def gNum (b : List Int) (at0 : Int) : Int × Int × Bool := if 0 ≤ at0 then gLoop b at0 5 0 0 else (0, 0, false)
def bytesOk (b : List Int) : Prop := ∀ x ∈ b, 0 ≤ x ∧ x ≤ 255
theorem pow_step {k : Int} (h : 0 ≤ k) : ((2 ^ (7 * (k + 1)).toNat : Nat) : Int) = 128 * ((2 ^ (7 * k).toNat : Nat) : Int) := by
  have e : (7 * (k + 1)).toNat = (7 * k).toNat + 7 := by omega
  rw [e, Nat.pow_add]
  push_cast
  omega
theorem drop_get {b : List Int} {i : Int} (h0 : 0 ≤ i) (h : i < b.length) : b.drop i.toNat = List.getD b i.toNat 0 :: b.drop (i + 1).toNat := drop_step b 0 h0 h
/-- What is read has these bytes. -/
theorem gLoop_canon {b : List Int} {at0 : Int} (hb : bytesOk b) (h0 : 0 ≤ at0) : ∀ (j : Nat) (k m n nx : Int), 0 ≤ k → gLoop b at0 j k m = (n, nx, true) →
    ∃ u : Nat, (0 < k → u ≠ 0) ∧ b.drop (at0 + k).toNat = vi u ++ b.drop nx.toNat ∧ at0 + k < nx ∧ nx ≤ b.length ∧ n = unzig (m + u * (2 ^ (7 * k).toNat : Nat)) ∧ numMax n
  | 0, k, m, n, nx, hk, h => by simp [gLoop] at h
  | j + 1, k, m, n, nx, hk, h => by
    rw [gLoop] at h
    split at h
    rotate_left
    · simp at h
    rename_i hlt
    have hc := hb _ (getD_mem b (0 : Int) (i := at0 + k) (by omega) hlt)
    have hd := drop_get (b := b) (i := at0 + k) (by omega) hlt
    generalize List.getD b (at0 + k).toNat 0 = c at h hc hd
    split at h
    · rename_i hbig
      obtain ⟨u, h1, h2, h3, h4, h5, h6⟩ := gLoop_canon hb h0 j (k + 1) _ n nx (by omega) h
      have hu : u ≠ 0 := h1 (by omega)
      refine ⟨(c % 128).toNat + 128 * u, fun _ => by omega, ?_, by omega, h4, ?_, h6⟩
      · have hv : vi ((c % 128).toNat + 128 * u) = c :: vi u := by
          have e0 : (c % 128).toNat + 128 * u = (c % 128 + 128 * u).toNat := by omega
          rw [e0, vi_big (by omega) (by omega)]
          have e1 : (c % 128 + 128 * (u : Int)) % 128 + 128 = c := by omega
          have e2 : ((c % 128 + 128 * (u : Int)) / 128).toNat = u := by omega
          rw [e1, e2]
        rw [hd, show at0 + k + 1 = at0 + (k + 1) by omega, h2, hv]; rfl
      · rw [h5, pow_step hk]
        congr 1
        have e3 : (((c % 128).toNat + 128 * u : Nat) : Int) = c % 128 + 128 * u := by omega
        rw [e3, Int.add_mul, Int.mul_assoc, Int.add_assoc]
        congr 2
        rw [← Int.mul_assoc, ← Int.mul_assoc]
        congr 1
        omega
    · rename_i hsm
      split at h
      · simp at h
      · rename_i hok
        simp only [Prod.mk.injEq, and_true] at h
        obtain ⟨rfl, rfl⟩ := h
        rw [not_or, Decidable.not_not] at hok
        have e : c % 128 = c := by omega
        refine ⟨c.toNat, fun hk0 e0 => hok.1 ⟨hk0, by omega⟩, ?_, by omega, by omega, ?_, hok.2⟩
        · rw [hd, vi_small (by omega) (by omega)]; rfl
        · have : ((c.toNat : Nat) : Int) = c := by omega
          rw [this, e]
/-- What was written is read. -/
theorem gLoop_round {b : List Int} {at0 : Int} (h0 : 0 ≤ at0) : ∀ (j : Nat) (k m : Int) (u : Nat) (r : List Int), (0 < j ∨ 0 < k) → 0 ≤ k → (0 < k → u ≠ 0) → u < 128 ^ j → b.drop (at0 + k).toNat = vi u ++ r → numMax (unzig (m + u * (2 ^ (7 * k).toNat : Nat))) →
    gLoop b at0 j k m = (unzig (m + u * (2 ^ (7 * k).toNat : Nat)), at0 + k + (vi u).length, true)
  | 0, k, m, u, r, hz, hk, hu, hj, hd, hn => by
    have hu0 : u = 0 := by simpa using hj
    exact absurd hu0 (hu (by omega))
  | j + 1, k, m, u, r, hz, hk, hu, hj, hd, hn => by
    have hlen : at0 + k < b.length := by
      have := congrArg List.length hd
      have hp : 0 < (vi u).length := by rw [vi]; split <;> simp
      rw [List.length_drop, List.length_append] at this
      omega
    have hg := drop_get (b := b) (i := at0 + k) (by omega) hlen
    rw [hg] at hd
    rw [gLoop, if_pos hlen]
    generalize List.getD b (at0 + k).toNat 0 = c at hd ⊢
    rw [vi] at hd
    by_cases hsm : u ≤ 127
    · rw [if_pos hsm] at hd
      simp only [List.cons_append, List.nil_append, List.cons.injEq] at hd
      obtain ⟨rfl, hd⟩ := hd
      have e : ((u : Nat) : Int) % 128 = u := by omega
      rw [if_neg (by omega), e, if_neg (by rw [not_or, Decidable.not_not]; exact ⟨fun hh => hu hh.1 (by omega), hn⟩), vi, if_pos hsm]
      simp
    · rw [if_neg hsm] at hd
      simp only [List.cons_append, List.cons.injEq] at hd
      obtain ⟨rfl, hd⟩ := hd
      have e1 : (((u % 128 + 128 : Nat) : Int) % 128) = ((u % 128 : Nat) : Int) := by omega
      have e4 : ((u : Nat) : Int) = ((u % 128 : Nat) : Int) + 128 * ((u / 128 : Nat) : Int) := by omega
      have key : m + ((u % 128 : Nat) : Int) * ((2 ^ (7 * k).toNat : Nat) : Int) + ((u / 128 : Nat) : Int) * ((2 ^ (7 * (k + 1)).toNat : Nat) : Int) = m + (u : Int) * ((2 ^ (7 * k).toNat : Nat) : Int) := by
        rw [pow_step hk]
        conv => rhs; rw [e4]
        rw [Int.add_mul, Int.add_assoc]
        congr 2
        rw [← Int.mul_assoc]
        congr 1
        omega
      have hvl : (vi u).length = (vi (u / 128)).length + 1 := by
        conv => lhs; rw [vi, if_neg hsm]
        simp
      have hjj : u / 128 < 128 ^ j := by
        rw [Nat.pow_succ] at hj
        exact Nat.div_lt_of_lt_mul (by omega)
      have := gLoop_round (b := b) h0 j (k + 1) (m + ((u % 128 : Nat) : Int) * ((2 ^ (7 * k).toNat : Nat) : Int)) (u / 128) r (.inr (by omega)) (by omega) (fun _ => by omega) hjj (by rw [show at0 + (k + 1) = at0 + k + 1 by omega]; exact hd) (by rw [key]; exact hn)
      rw [key] at this
      rw [if_pos (by omega), e1, this, hvl]
      simp only [Prod.mk.injEq, true_and, and_true]
      omega
theorem unzig_zig {n : Int} (h : numMax n) : unzig (zigI n) = n ∧ clampI n = n := by
  unfold numMax at h
  have hc : clampI n = n := by unfold clampI; split <;> split <;> omega
  refine ⟨?_, hc⟩
  unfold unzig zigI
  rw [hc]; split <;> split <;> omega
theorem gNum_canon {b : List Int} {at0 n nx : Int} (hb : bytesOk b) (h : gNum b at0 = (n, nx, true)) : 0 ≤ at0 ∧ b.drop at0.toNat = numB n ++ b.drop nx.toNat ∧ at0 < nx ∧ nx ≤ b.length ∧ numMax n := by
  unfold gNum at h
  split at h
  · rename_i h0
    obtain ⟨u, h1, h2, h3, h4, h5, h6⟩ := gLoop_canon hb h0 5 0 0 n nx (by omega) h
    have e : at0 + 0 = at0 := by omega
    simp only [e] at h2 h3
    refine ⟨h0, ?_, h3, h4, h6⟩
    have hu : unzig (u : Int) = n := by
      rw [h5]
      simp
    have hz : zigI n = u := by
      have hc := (unzig_zig h6).2
      unfold zigI
      rw [hc, ← hu]
      unfold unzig
      split <;> split <;> omega
    rw [numB, hz]
    exact h2
  · simp at h
theorem gNum_round {b : List Int} {at0 n : Int} {r : List Int} (h0 : 0 ≤ at0) (hn : numMax n) (hd : b.drop at0.toNat = numB n ++ r) : gNum b at0 = (n, at0 + (numB n).length, true) := by
  have hz := zigI_le n
  have e0 : (((zigI n).toNat : Nat) : Int) = zigI n := by omega
  have hu : unzig (0 + (((zigI n).toNat : Nat) : Int) * ((2 ^ (7 * (0 : Int)).toNat : Nat) : Int)) = n := by
    rw [e0]; simp [(unzig_zig hn).1]
  have := gLoop_round (b := b) h0 5 0 0 (zigI n).toNat r (.inl (by omega)) (by omega) (by omega) (by omega) (by simpa [numB] using hd) (by rw [hu]; exact hn)
  rw [hu] at this
  rw [gNum, if_pos h0, this]
  simp [numB]
theorem drop_app {b p r : List Int} {i : Int} (h0 : 0 ≤ i) (h : b.drop i.toNat = p ++ r) : b.drop (i + p.length).toNat = r := by
  have e : (i + p.length).toNat = i.toNat + p.length := by omega
  rw [e, ← List.drop_drop, h, List.drop_left]
theorem Bd.u8 {n : Int} (h : Bd (U := UU) (.lit (.int .u8 n))) : 0 ≤ n ∧ n ≤ 255 := by
  cases h with
  | lit _ h => exact h.2
theorem bytes_of {b : List Int} (h : BdDV (U := UU) (.one (.sl Cd.byte b))) : bytesOk b := fun x hx => Bd.u8 (Bd.row (U := UU) (τ := Cd.byte) h hx (c := .lit (.int .u8 x)) List.mem_cons_self)
theorem pow_le {k : Int} (h : 0 ≤ k ∧ k ≤ 4) : 1 ≤ ((2 ^ (7 * k).toNat : Nat) : Int) ∧ ((2 ^ (7 * k).toNat : Nat) : Int) ≤ 268435456 := by
  have : k = 0 ∨ k = 1 ∨ k = 2 ∨ k = 3 ∨ k = 4 := by omega
  rcases this with rfl | rfl | rfl | rfl | rfl <;> decide
theorem u64_small {n : Int} (h : 0 ≤ n) (h' : n ≤ 1000) : IntKind.wrap .u64 n = n := by
  simp only [IntKind.wrap]
  simp [IntKind.bits, IntKind.signed]
  omega
theorem orStep {k m c : Int} (hk : 0 ≤ k ∧ k ≤ 4) (hm : 0 ≤ m ∧ m < ((2 ^ (7 * k).toNat : Nat) : Int)) (hc : 0 ≤ c ∧ c ≤ 255) :
    IntKind.wrap .i64 (((BitVec.ofInt (IntKind.bits .i64) m ||| BitVec.ofInt (IntKind.bits .i64) (IntKind.wrap .i64 (IntKind.wrap .i64 (((BitVec.ofInt (IntKind.bits .i64) c &&& BitVec.ofInt (IntKind.bits .i64) 127).toNat : Nat) : Int) * (2 : Int) ^ min (Int.toNat (IntKind.wrap .u64 (IntKind.wrap .i64 (7 * k)))) (IntKind.bits .i64)))).toNat : Nat) : Int) = m + c % 128 * ((2 ^ (7 * k).toNat : Nat) : Int)
      ∧ 0 ≤ m + c % 128 * ((2 ^ (7 * k).toNat : Nat) : Int) ∧ m + c % 128 * ((2 ^ (7 * k).toNat : Nat) : Int) < ((2 ^ (7 * (k + 1)).toNat : Nat) : Int) ∧ m + c % 128 * ((2 ^ (7 * k).toNat : Nat) : Int) ≤ 34359738368 := by
  have hp := pow_le hk
  have hps := pow_step hk.1
  rw [and127 (by omega) (by omega), wrap_i64 (n := 7 * k) (by omega) (by omega), u64_small (by omega) (by omega)]
  have e1 : min (7 * k).toNat (IntKind.bits .i64) = (7 * k).toNat := by show min _ 64 = _; omega
  have e2 : ((2 : Int) ^ (7 * k).toNat) = ((2 ^ (7 * k).toNat : Nat) : Int) := by norm_cast
  rw [e1, e2]
  have hmod : (c % 128 * ((2 ^ (7 * k).toNat : Nat) : Int)) % ((2 ^ (7 * k).toNat : Nat) : Int) = 0 := Int.mul_emod_left _ _
  have hb1 : 0 ≤ c % 128 * ((2 ^ (7 * k).toNat : Nat) : Int) := Int.mul_nonneg (by omega) (by omega)
  have hb2 : c % 128 * ((2 ^ (7 * k).toNat : Nat) : Int) ≤ 127 * ((2 ^ (7 * k).toNat : Nat) : Int) := Int.mul_le_mul_of_nonneg_right (by omega) (by omega)
  rw [wrap_i64 (n := c % 128 * ((2 ^ (7 * k).toNat : Nat) : Int)) (by omega) (by omega)]
  refine ⟨or_i64 hm.1 hb1 (7 * k).toNat (by omega) hm.2 hmod (by omega), by omega, by rw [hps]; omega, by omega⟩
theorem gLoop_end {b : List Int} {pos k m : Int} {j : Nat} (h : ¬ (pos + k < b.length)) : gLoop b pos j k m = (0, 0, false) := by
  cases j with
  | zero => rfl
  | succ j => rw [gLoop, if_neg h]
theorem gNum_neg {b : List Int} {pos : Int} (h : ¬ 0 ≤ pos) : gNum b pos = (0, 0, false) := if_neg h
def con_spec_GetNum : Con UU where
  α := (List Int) × Int
  md := [.ro, .ro]
  of := fun | [.one (.sl .byte a0), .one (.lit (.int .i64 a1))] => some (a0, a1) | _ => none
  ds := fun (b, pos) => [.one (.sl .byte b), .one (.lit (.int .i64 pos))]
  pre := fun (b, pos) => [b.length ≤ 4294967296]
  res := fun (b, pos) => ⟨[.one (.lit (.int .i64 ((gNum b pos).1))), .one (.lit (.int .i64 ((gNum b pos).2.1))), .one (.lit (.bool ((gNum b pos).2.2)))], true, []⟩
  law := by intro l x h; (try simp only at h); split at h <;> cases h; rfl
def I_spec_GetNum_3 (b : (List Int)) (pos : Int) : Int × Int × Unit → Prop := fun (m, k, _) => 0 ≤ k ∧ k ≤ 5 ∧ 0 ≤ m ∧ m < (2 ^ (7 * k).toNat : Nat) ∧ (0 ≤ pos → gLoop b pos (5 - k).toNat k m = gNum b pos)
def μ_spec_GetNum_3 (b : (List Int)) (pos : Int) : Int × Int × Unit → Nat := fun (m, k, _) => (5 - k).toNat
def ann_spec_GetNum : con_spec_GetNum.α → Nat → Option (Ann UU) := fun (b, pos) => annL [(3, annOf [.slot 7 (7, 1024) (.lit (.int .i64)), .slot 8 (8, 1024) (.lit (.int .i64))] (fun _ => I_spec_GetNum_3 b pos) (μ_spec_GetNum_3 b pos))]
def use_spec_GetNum : List (FuncId × Con UU) := [(32, con_spec_l1In)]
theorem vc_spec_GetNum (b : (List Int)) (pos : Int) : goal EE use_spec_GetNum Go.Proofs.Try.f30 con_spec_GetNum ann_spec_GetNum (b, pos) = (let x0 : Int := (↑(List.length b) : Int);
I_spec_GetNum_3 b pos ((0 : Int), (0 : Int), PUnit.unit) ∧
  ∀ (y : Int × Int × PUnit),
    let x1 : Int := Int.fdiv (IntKind.wrap IntKind.i64 (↑(BitVec.toNat (BitVec.ofInt (IntKind.bits IntKind.i64) y.1 ||| BitVec.ofInt (IntKind.bits IntKind.i64) (IntKind.wrap IntKind.i64 (IntKind.wrap IntKind.i64 (↑(BitVec.toNat (BitVec.ofInt (IntKind.bits IntKind.i64) (IntKind.wrap IntKind.i64 (List.getD b (Int.toNat (IntKind.wrap IntKind.i64 (pos + y.2.1))) (0 : Int))) &&& BitVec.ofInt (IntKind.bits IntKind.i64) (127 : Int))) : Int) * (2 : Int) ^ min (Int.toNat (IntKind.wrap IntKind.u64 (IntKind.wrap IntKind.i64 ((7 : Int) * y.2.1)))) (IntKind.bits IntKind.i64))))) : Int)) ((2 : Int) ^ min (Int.toNat (1 : Int)) (IntKind.bits IntKind.i64));
    let x2 : Int := IntKind.wrap IntKind.i64 (pos + y.2.1);
    let x3 : Int := IntKind.wrap IntKind.i64 (↑(BitVec.toNat (BitVec.ofInt (IntKind.bits IntKind.i64) y.1 ||| BitVec.ofInt (IntKind.bits IntKind.i64) (IntKind.wrap IntKind.i64 (IntKind.wrap IntKind.i64 (↑(BitVec.toNat (BitVec.ofInt (IntKind.bits IntKind.i64) (IntKind.wrap IntKind.i64 (List.getD b (Int.toNat x2) (0 : Int))) &&& BitVec.ofInt (IntKind.bits IntKind.i64) (127 : Int))) : Int) * (2 : Int) ^ min (Int.toNat (IntKind.wrap IntKind.u64 (IntKind.wrap IntKind.i64 ((7 : Int) * y.2.1)))) (IntKind.bits IntKind.i64))))) : Int);
    let x4 : Bool := decide (y.2.1 > (0 : Int));
    let x5 : Int := IntKind.wrap IntKind.i64 (IntKind.wrap IntKind.i64 ((0 : Int) - x1) - (1 : Int));
    let x6 : Int := IntKind.wrap IntKind.i64 (List.getD b (Int.toNat x2) (0 : Int));
    I_spec_GetNum_3 b pos y → bif decide (y.2.1 < (5 : Int)) then bif decide (pos ≥ (0 : Int)) then bif decide (pos < x0) then bif decide (x2 < x0) then (0 : Int) ≤ x2 ∧ Int.toNat x2 < List.length b ∧ (0 : Int) ≤ IntKind.wrap IntKind.u64 (IntKind.wrap IntKind.i64 ((7 : Int) * y.2.1)) ∧ bif decide (x6 > (127 : Int)) then I_spec_GetNum_3 b pos (x3, IntKind.wrap IntKind.i64 (y.2.1 + (1 : Int)), PUnit.unit) ∧ μ_spec_GetNum_3 b pos (x3, IntKind.wrap IntKind.i64 (y.2.1 + (1 : Int)), PUnit.unit) < μ_spec_GetNum_3 b pos y else (0 : Int) ≤ (1 : Int) ∧ bif IntKind.wrap IntKind.i64 (↑(BitVec.toNat (BitVec.ofInt (IntKind.bits IntKind.i64) x3 &&& BitVec.ofInt (IntKind.bits IntKind.i64) (1 : Int))) : Int) == (1 : Int) then bif x4 then bif x6 == (0 : Int) then Lf [DV.one (Cell.lit (Value.int IntKind.i64 (0 : Int))), DV.one (Cell.lit (Value.int IntKind.i64 (0 : Int))), DV.one (Cell.lit (Value.bool false))] [DV.one (Cell.lit (Value.int IntKind.i64 (gNum b pos).1)), DV.one (Cell.lit (Value.int IntKind.i64 (gNum b pos).2.1)), DV.one (Cell.lit (Value.bool (gNum b pos).2.2))] else bif !decide ((-1000000000 : Int) ≤ x5 ∧ x5 ≤ (1000000000 : Int)) then Lf [DV.one (Cell.lit (Value.int IntKind.i64 (0 : Int))), DV.one (Cell.lit (Value.int IntKind.i64 (0 : Int))), DV.one (Cell.lit (Value.bool false))] [DV.one (Cell.lit (Value.int IntKind.i64 (gNum b pos).1)), DV.one (Cell.lit (Value.int IntKind.i64 (gNum b pos).2.1)), DV.one (Cell.lit (Value.bool (gNum b pos).2.2))] else Lf [DV.one (Cell.lit (Value.int IntKind.i64 x5)), DV.one (Cell.lit (Value.int IntKind.i64 (IntKind.wrap IntKind.i64 (x2 + (1 : Int))))), DV.one (Cell.lit (Value.bool true))] [DV.one (Cell.lit (Value.int IntKind.i64 (gNum b pos).1)), DV.one (Cell.lit (Value.int IntKind.i64 (gNum b pos).2.1)), DV.one (Cell.lit (Value.bool (gNum b pos).2.2))] else bif !decide ((-1000000000 : Int) ≤ x5 ∧ x5 ≤ (1000000000 : Int)) then Lf [DV.one (Cell.lit (Value.int IntKind.i64 (0 : Int))), DV.one (Cell.lit (Value.int IntKind.i64 (0 : Int))), DV.one (Cell.lit (Value.bool false))] [DV.one (Cell.lit (Value.int IntKind.i64 (gNum b pos).1)), DV.one (Cell.lit (Value.int IntKind.i64 (gNum b pos).2.1)), DV.one (Cell.lit (Value.bool (gNum b pos).2.2))] else Lf [DV.one (Cell.lit (Value.int IntKind.i64 x5)), DV.one (Cell.lit (Value.int IntKind.i64 (IntKind.wrap IntKind.i64 (x2 + (1 : Int))))), DV.one (Cell.lit (Value.bool true))] [DV.one (Cell.lit (Value.int IntKind.i64 (gNum b pos).1)), DV.one (Cell.lit (Value.int IntKind.i64 (gNum b pos).2.1)), DV.one (Cell.lit (Value.bool (gNum b pos).2.2))] else bif x4 then bif x6 == (0 : Int) then Lf [DV.one (Cell.lit (Value.int IntKind.i64 (0 : Int))), DV.one (Cell.lit (Value.int IntKind.i64 (0 : Int))), DV.one (Cell.lit (Value.bool false))] [DV.one (Cell.lit (Value.int IntKind.i64 (gNum b pos).1)), DV.one (Cell.lit (Value.int IntKind.i64 (gNum b pos).2.1)), DV.one (Cell.lit (Value.bool (gNum b pos).2.2))] else bif !decide ((-1000000000 : Int) ≤ x1 ∧ x1 ≤ (1000000000 : Int)) then Lf [DV.one (Cell.lit (Value.int IntKind.i64 (0 : Int))), DV.one (Cell.lit (Value.int IntKind.i64 (0 : Int))), DV.one (Cell.lit (Value.bool false))] [DV.one (Cell.lit (Value.int IntKind.i64 (gNum b pos).1)), DV.one (Cell.lit (Value.int IntKind.i64 (gNum b pos).2.1)), DV.one (Cell.lit (Value.bool (gNum b pos).2.2))] else Lf [DV.one (Cell.lit (Value.int IntKind.i64 x1)), DV.one (Cell.lit (Value.int IntKind.i64 (IntKind.wrap IntKind.i64 (x2 + (1 : Int))))), DV.one (Cell.lit (Value.bool true))] [DV.one (Cell.lit (Value.int IntKind.i64 (gNum b pos).1)), DV.one (Cell.lit (Value.int IntKind.i64 (gNum b pos).2.1)), DV.one (Cell.lit (Value.bool (gNum b pos).2.2))] else bif !decide ((-1000000000 : Int) ≤ x1 ∧ x1 ≤ (1000000000 : Int)) then Lf [DV.one (Cell.lit (Value.int IntKind.i64 (0 : Int))), DV.one (Cell.lit (Value.int IntKind.i64 (0 : Int))), DV.one (Cell.lit (Value.bool false))] [DV.one (Cell.lit (Value.int IntKind.i64 (gNum b pos).1)), DV.one (Cell.lit (Value.int IntKind.i64 (gNum b pos).2.1)), DV.one (Cell.lit (Value.bool (gNum b pos).2.2))] else Lf [DV.one (Cell.lit (Value.int IntKind.i64 x1)), DV.one (Cell.lit (Value.int IntKind.i64 (IntKind.wrap IntKind.i64 (x2 + (1 : Int))))), DV.one (Cell.lit (Value.bool true))] [DV.one (Cell.lit (Value.int IntKind.i64 (gNum b pos).1)), DV.one (Cell.lit (Value.int IntKind.i64 (gNum b pos).2.1)), DV.one (Cell.lit (Value.bool (gNum b pos).2.2))] else Lf [DV.one (Cell.lit (Value.int IntKind.i64 (0 : Int))), DV.one (Cell.lit (Value.int IntKind.i64 (0 : Int))), DV.one (Cell.lit (Value.bool false))] [DV.one (Cell.lit (Value.int IntKind.i64 (gNum b pos).1)), DV.one (Cell.lit (Value.int IntKind.i64 (gNum b pos).2.1)), DV.one (Cell.lit (Value.bool (gNum b pos).2.2))] else Lf [DV.one (Cell.lit (Value.int IntKind.i64 (0 : Int))), DV.one (Cell.lit (Value.int IntKind.i64 (0 : Int))), DV.one (Cell.lit (Value.bool false))] [DV.one (Cell.lit (Value.int IntKind.i64 (gNum b pos).1)), DV.one (Cell.lit (Value.int IntKind.i64 (gNum b pos).2.1)), DV.one (Cell.lit (Value.bool (gNum b pos).2.2))] else Lf [DV.one (Cell.lit (Value.int IntKind.i64 (0 : Int))), DV.one (Cell.lit (Value.int IntKind.i64 (0 : Int))), DV.one (Cell.lit (Value.bool false))] [DV.one (Cell.lit (Value.int IntKind.i64 (gNum b pos).1)), DV.one (Cell.lit (Value.int IntKind.i64 (gNum b pos).2.1)), DV.one (Cell.lit (Value.bool (gNum b pos).2.2))] else Lf [DV.one (Cell.lit (Value.int IntKind.i64 (0 : Int))), DV.one (Cell.lit (Value.int IntKind.i64 (0 : Int))), DV.one (Cell.lit (Value.bool false))] [DV.one (Cell.lit (Value.int IntKind.i64 (gNum b pos).1)), DV.one (Cell.lit (Value.int IntKind.i64 (gNum b pos).2.1)), DV.one (Cell.lit (Value.bool (gNum b pos).2.2))]) := by kernel_rfl
theorem ok_spec_GetNum : Holds EE (30, con_spec_GetNum) := by
  refine holds_of EE_ok Go.Proofs.Try.func30 con_spec_GetNum (by kernel_rfl) use_spec_GetNum (all_cons ok_spec_l1In all_nil) ann_spec_GetNum (fun x hp hb => ?_)
  obtain ⟨b, pos⟩ := x
  have hb_b : BdDV (U := UU) (.one (.sl .byte b)) := hb _ (List.mem_cons_self)
  have hl_b : b.length ≤ 9223372036854775807 := Bd.len hb_b
  have hb_pos : BdDV (U := UU) (.one (.lit (.int .i64 pos))) := hb _ (List.mem_cons_of_mem _ (List.mem_cons_self))
  have hl_pos := Bd.i64 hb_pos
  have hp0 : b.length ≤ 4294967296 := hp _ (List.mem_cons_self)
  clear hp hb
  rw [vc_spec_GetNum b pos]
  dsimp only
  have hby := bytes_of hb_b
  refine ⟨⟨by omega, by omega, by omega, by decide, fun h => by rw [gNum, if_pos h]; rfl⟩, ?_⟩
  rintro ⟨m, k, ⟨⟩⟩ ⟨g1, g2, g3, g4, g5⟩
  dsimp only at g1 g2 g3 g4 g5 ⊢
  have hE : gNum b pos = (0, 0, false) → Lf [.one (.lit (.int .i64 0)), .one (.lit (.int .i64 0)), .one (.lit (.bool false))] [.one (.lit (.int .i64 (gNum b pos).1)), .one (.lit (.int .i64 (gNum b pos).2.1)), .one (.lit (.bool (gNum b pos).2.2))] := fun h => by rw [h]; exact Lf_rfl _
  refine if_cond (fun h5 => ?_) (fun h5 => hE ?_)
  rotate_left
  · have h5 := of_decide_eq_false h5
    by_cases h0 : 0 ≤ pos
    · rw [← g5 h0, show (5 - k).toNat = 0 by omega]; rfl
    · exact gNum_neg h0
  have h5 := of_decide_eq_true h5
  refine if_cond (fun hpos => ?_) (fun hpos => hE (gNum_neg (by have := of_decide_eq_false hpos; omega)))
  have hpos := of_decide_eq_true hpos
  have g5 := g5 hpos
  refine if_cond (fun hl => ?_) (fun hl => hE (by have := of_decide_eq_false hl; rw [← g5, gLoop_end (by omega)]))
  have hl := of_decide_eq_true hl
  rw [wrap_i64 (n := pos + k) (by omega) (by omega)]
  refine if_cond (fun hlt => ?_) (fun hlt => hE (by have := of_decide_eq_false hlt; rw [← g5, gLoop_end (by omega)]))
  have hlt := of_decide_eq_true hlt
  have e : (5 - k).toNat = (4 - k).toNat + 1 := by omega
  rw [e, gLoop, if_pos hlt] at g5
  have hc := hby _ (getD_mem b (0 : Int) (i := pos + k) (by omega) hlt)
  generalize List.getD b (pos + k).toNat 0 = c at g5 hc ⊢
  have hw : IntKind.wrap .i64 c = c := wrap_i64 (by omega) (by omega)
  obtain ⟨o1, o2, o3, o4⟩ := orStep (k := k) (m := m) (c := c) (by omega) ⟨g3, g4⟩ hc
  rw [hw, o1]
  generalize m + c % 128 * ((2 ^ (7 * k).toNat : Nat) : Int) = m2 at g5 o2 o3 o4 ⊢
  have hsh : Int.fdiv m2 ((2 : Int) ^ min (Int.toNat (1 : Int)) (IntKind.bits .i64)) = m2 / 2 := shr_i64 o2 1 (by omega)
  rw [hsh, and1 o2 (by omega), wrap_i64 (n := 7 * k) (by omega) (by omega), u64_small (n := 7 * k) (by omega) (by omega), wrap_i64 (n := k + 1) (by omega) (by omega), wrap_i64 (n := pos + k + 1) (by omega) (by omega), wrap_i64 (n := 0 - m2 / 2) (by omega) (by omega), wrap_i64 (n := 0 - m2 / 2 - 1) (by omega) (by omega)]
  refine ⟨by omega, by omega, by omega, if_cond (fun hbig => ?_) (fun hbig => ?_)⟩
  · have hbig := of_decide_eq_true hbig
    rw [if_pos (by omega)] at g5
    exact ⟨⟨by omega, by omega, o2, o3, fun _ => by rw [show (5 - (k + 1)).toNat = (4 - k).toNat by omega]; exact g5⟩, by simp only [μ_spec_GetNum_3]; omega⟩
  · have hbig := of_decide_eq_false hbig
    rw [if_neg (by omega)] at g5
    have hF : (0 < k ∧ c = 0) ∨ ¬ numMax (unzig m2) → gNum b pos = (0, 0, false) := fun h => by rw [← g5, if_pos h]
    have hT : ∀ n : Int, unzig m2 = n → ¬ (0 < k ∧ c = 0) → numMax n → Lf [.one (.lit (.int .i64 n)), .one (.lit (.int .i64 (pos + k + 1))), .one (.lit (.bool true))] [.one (.lit (.int .i64 (gNum b pos).1)), .one (.lit (.int .i64 (gNum b pos).2.1)), .one (.lit (.bool (gNum b pos).2.2))] := fun n hn h1 h2 => by
      rw [← g5, if_neg (by rw [hn]; exact not_or.2 ⟨h1, not_not_intro h2⟩), hn]; exact Lf_rfl _
    refine ⟨by omega, if_cond (fun hodd => ?_) (fun hodd => ?_)⟩
    · have hodd := eq_of_beq hodd
      have hn : unzig m2 = 0 - m2 / 2 - 1 := by rw [unzig, if_pos hodd]; omega
      refine if_cond (fun hk => if_cond (fun hz => hE (hF (.inl ⟨of_decide_eq_true hk, eq_of_beq hz⟩))) (fun hz => if_cond (fun hr => hE (hF (.inr ?_))) (fun hr => hT _ hn ?_ ?_))) (fun hk => if_cond (fun hr => hE (hF (.inr ?_))) (fun hr => hT _ hn ?_ ?_))
      · rw [hn]; intro hm; unfold numMax at hm; simp at hr; omega
      · intro hh; rw [hh.2] at hz; simp at hz
      · simpa [numMax] using hr
      · rw [hn]; intro hm; unfold numMax at hm; simp at hr; omega
      · intro hh; exact absurd hh.1 (of_decide_eq_false hk)
      · simpa [numMax] using hr
    · have hodd : ¬ m2 % 2 = 1 := by simpa using hodd
      have hn : unzig m2 = m2 / 2 := by rw [unzig, if_neg hodd]
      refine if_cond (fun hk => if_cond (fun hz => hE (hF (.inl ⟨of_decide_eq_true hk, eq_of_beq hz⟩))) (fun hz => if_cond (fun hr => hE (hF (.inr ?_))) (fun hr => hT _ hn ?_ ?_))) (fun hk => if_cond (fun hr => hE (hF (.inr ?_))) (fun hr => hT _ hn ?_ ?_))
      · rw [hn]; intro hm; unfold numMax at hm; simp at hr; omega
      · intro hh; rw [hh.2] at hz; simp at hz
      · simpa [numMax] using hr
      · rw [hn]; intro hm; unfold numMax at hm; simp at hr; omega
      · intro hh; exact absurd hh.1 (of_decide_eq_false hk)
      · simpa [numMax] using hr
def con_impl_GetNum : Con UU where
  α := (List Int) × Int
  md := [.ro, .ro]
  of := fun | [.one (.sl .byte a0), .one (.lit (.int .i64 a1))] => some (a0, a1) | _ => none
  ds := fun (b, pos) => [.one (.sl .byte b), .one (.lit (.int .i64 pos))]
  pre := fun (b, pos) => [b.length ≤ 4294967296]
  res := fun (b, pos) => ⟨[.one (.lit (.int .i64 ((gNum b pos).1))), .one (.lit (.int .i64 ((gNum b pos).2.1))), .one (.lit (.bool ((gNum b pos).2.2)))], true, []⟩
  law := by intro l x h; (try simp only at h); split at h <;> cases h; rfl
def I_impl_GetNum_5 (b : (List Int)) (pos : Int) : Int × Int × Unit → Prop := fun (m, k, _) => 0 ≤ k ∧ k ≤ 5 ∧ 0 ≤ m ∧ m < (2 ^ (7 * k).toNat : Nat) ∧ gLoop b pos (5 - k).toNat k m = gNum b pos
def μ_impl_GetNum_5 (b : (List Int)) (pos : Int) : Int × Int × Unit → Nat := fun (m, k, _) => (5 - k).toNat
def ann_impl_GetNum : con_impl_GetNum.α → Nat → Option (Ann UU) := fun (b, pos) => annL [(5, annOf [.slot 7 (7, 1024) (.lit (.int .i64)), .slot 8 (8, 1024) (.lit (.int .i64))] (fun _ => I_impl_GetNum_5 b pos) (μ_impl_GetNum_5 b pos))]
def use_impl_GetNum : List (FuncId × Con UU) := []
theorem vc_impl_GetNum (b : (List Int)) (pos : Int) : goal EE use_impl_GetNum Go.Proofs.Try.f38 con_impl_GetNum ann_impl_GetNum (b, pos) = (let x0 : Int := (-1000000000 : Int);
bif decide (pos < (0 : Int)) then Lf [DV.one (Cell.lit (Value.int IntKind.i64 (0 : Int))), DV.one (Cell.lit (Value.int IntKind.i64 (0 : Int))), DV.one (Cell.lit (Value.bool false))] [DV.one (Cell.lit (Value.int IntKind.i64 (gNum b pos).1)), DV.one (Cell.lit (Value.int IntKind.i64 (gNum b pos).2.1)), DV.one (Cell.lit (Value.bool (gNum b pos).2.2))]
else
  I_impl_GetNum_5 b pos ((0 : Int), (0 : Int), PUnit.unit) ∧
    ∀ (y : Int × Int × PUnit),
      let x1 : Int := IntKind.wrap IntKind.i64 (Int.tdiv (IntKind.wrap IntKind.i64 (↑(BitVec.toNat (BitVec.ofInt (IntKind.bits IntKind.i64) y.1 ||| BitVec.ofInt (IntKind.bits IntKind.i64) (IntKind.wrap IntKind.i64 (IntKind.wrap IntKind.i64 (↑(BitVec.toNat (BitVec.ofInt (IntKind.bits IntKind.i64) (IntKind.wrap IntKind.i64 (List.getD b (Int.toNat (IntKind.wrap IntKind.i64 (pos + y.2.1))) (0 : Int))) &&& BitVec.ofInt (IntKind.bits IntKind.i64) (127 : Int))) : Int) * (2 : Int) ^ min (Int.toNat (IntKind.wrap IntKind.u64 (IntKind.wrap IntKind.i64 ((7 : Int) * y.2.1)))) (IntKind.bits IntKind.i64))))) : Int)) (2 : Int));
      let x2 : Int := IntKind.wrap IntKind.i64 (↑(BitVec.toNat (BitVec.ofInt (IntKind.bits IntKind.i64) y.1 ||| BitVec.ofInt (IntKind.bits IntKind.i64) (IntKind.wrap IntKind.i64 (IntKind.wrap IntKind.i64 (↑(BitVec.toNat (BitVec.ofInt (IntKind.bits IntKind.i64) (IntKind.wrap IntKind.i64 (List.getD b (Int.toNat (IntKind.wrap IntKind.i64 (pos + y.2.1))) (0 : Int))) &&& BitVec.ofInt (IntKind.bits IntKind.i64) (127 : Int))) : Int) * (2 : Int) ^ min (Int.toNat (IntKind.wrap IntKind.u64 (IntKind.wrap IntKind.i64 ((7 : Int) * y.2.1)))) (IntKind.bits IntKind.i64))))) : Int);
      let x3 : Int := IntKind.wrap IntKind.i64 (List.getD b (Int.toNat (IntKind.wrap IntKind.i64 (pos + y.2.1))) (0 : Int));
      let x4 : Int := IntKind.wrap IntKind.i64 (pos + y.2.1);
      let x5 : Bool := decide (y.2.1 > (0 : Int));
      let x6 : Int := IntKind.wrap IntKind.i64 (IntKind.wrap IntKind.i64 ((0 : Int) - x1) - (1 : Int));
      let x7 : Int := IntKind.wrap IntKind.i64 ((↑(List.length b) : Int) - y.2.1);
      I_impl_GetNum_5 b pos y → bif decide (y.2.1 < (5 : Int)) then bif decide (pos < x7) then (0 : Int) ≤ x4 ∧ Int.toNat x4 < List.length b ∧ (0 : Int) ≤ IntKind.wrap IntKind.u64 (IntKind.wrap IntKind.i64 ((7 : Int) * y.2.1)) ∧ bif decide (x3 ≥ (128 : Int)) then I_impl_GetNum_5 b pos (x2, IntKind.wrap IntKind.i64 (y.2.1 + (1 : Int)), PUnit.unit) ∧ μ_impl_GetNum_5 b pos (x2, IntKind.wrap IntKind.i64 (y.2.1 + (1 : Int)), PUnit.unit) < μ_impl_GetNum_5 b pos y else (2 : Int) ≠ (0 : Int) ∧ (2 : Int) ≠ (0 : Int) ∧ bif Int.tmod x2 (2 : Int) == (1 : Int) then bif x3 == (0 : Int) then bif x5 then Lf [DV.one (Cell.lit (Value.int IntKind.i64 (0 : Int))), DV.one (Cell.lit (Value.int IntKind.i64 (0 : Int))), DV.one (Cell.lit (Value.bool false))] [DV.one (Cell.lit (Value.int IntKind.i64 (gNum b pos).1)), DV.one (Cell.lit (Value.int IntKind.i64 (gNum b pos).2.1)), DV.one (Cell.lit (Value.bool (gNum b pos).2.2))] else bif decide (x6 < x0) then Lf [DV.one (Cell.lit (Value.int IntKind.i64 (0 : Int))), DV.one (Cell.lit (Value.int IntKind.i64 (0 : Int))), DV.one (Cell.lit (Value.bool false))] [DV.one (Cell.lit (Value.int IntKind.i64 (gNum b pos).1)), DV.one (Cell.lit (Value.int IntKind.i64 (gNum b pos).2.1)), DV.one (Cell.lit (Value.bool (gNum b pos).2.2))] else bif decide (x6 > (1000000000 : Int)) then Lf [DV.one (Cell.lit (Value.int IntKind.i64 (0 : Int))), DV.one (Cell.lit (Value.int IntKind.i64 (0 : Int))), DV.one (Cell.lit (Value.bool false))] [DV.one (Cell.lit (Value.int IntKind.i64 (gNum b pos).1)), DV.one (Cell.lit (Value.int IntKind.i64 (gNum b pos).2.1)), DV.one (Cell.lit (Value.bool (gNum b pos).2.2))] else Lf [DV.one (Cell.lit (Value.int IntKind.i64 x6)), DV.one (Cell.lit (Value.int IntKind.i64 (IntKind.wrap IntKind.i64 (x4 + (1 : Int))))), DV.one (Cell.lit (Value.bool true))] [DV.one (Cell.lit (Value.int IntKind.i64 (gNum b pos).1)), DV.one (Cell.lit (Value.int IntKind.i64 (gNum b pos).2.1)), DV.one (Cell.lit (Value.bool (gNum b pos).2.2))] else bif decide (x6 < x0) then Lf [DV.one (Cell.lit (Value.int IntKind.i64 (0 : Int))), DV.one (Cell.lit (Value.int IntKind.i64 (0 : Int))), DV.one (Cell.lit (Value.bool false))] [DV.one (Cell.lit (Value.int IntKind.i64 (gNum b pos).1)), DV.one (Cell.lit (Value.int IntKind.i64 (gNum b pos).2.1)), DV.one (Cell.lit (Value.bool (gNum b pos).2.2))] else bif decide (x6 > (1000000000 : Int)) then Lf [DV.one (Cell.lit (Value.int IntKind.i64 (0 : Int))), DV.one (Cell.lit (Value.int IntKind.i64 (0 : Int))), DV.one (Cell.lit (Value.bool false))] [DV.one (Cell.lit (Value.int IntKind.i64 (gNum b pos).1)), DV.one (Cell.lit (Value.int IntKind.i64 (gNum b pos).2.1)), DV.one (Cell.lit (Value.bool (gNum b pos).2.2))] else Lf [DV.one (Cell.lit (Value.int IntKind.i64 x6)), DV.one (Cell.lit (Value.int IntKind.i64 (IntKind.wrap IntKind.i64 (x4 + (1 : Int))))), DV.one (Cell.lit (Value.bool true))] [DV.one (Cell.lit (Value.int IntKind.i64 (gNum b pos).1)), DV.one (Cell.lit (Value.int IntKind.i64 (gNum b pos).2.1)), DV.one (Cell.lit (Value.bool (gNum b pos).2.2))] else bif x3 == (0 : Int) then bif x5 then Lf [DV.one (Cell.lit (Value.int IntKind.i64 (0 : Int))), DV.one (Cell.lit (Value.int IntKind.i64 (0 : Int))), DV.one (Cell.lit (Value.bool false))] [DV.one (Cell.lit (Value.int IntKind.i64 (gNum b pos).1)), DV.one (Cell.lit (Value.int IntKind.i64 (gNum b pos).2.1)), DV.one (Cell.lit (Value.bool (gNum b pos).2.2))] else bif decide (x1 < x0) then Lf [DV.one (Cell.lit (Value.int IntKind.i64 (0 : Int))), DV.one (Cell.lit (Value.int IntKind.i64 (0 : Int))), DV.one (Cell.lit (Value.bool false))] [DV.one (Cell.lit (Value.int IntKind.i64 (gNum b pos).1)), DV.one (Cell.lit (Value.int IntKind.i64 (gNum b pos).2.1)), DV.one (Cell.lit (Value.bool (gNum b pos).2.2))] else bif decide (x1 > (1000000000 : Int)) then Lf [DV.one (Cell.lit (Value.int IntKind.i64 (0 : Int))), DV.one (Cell.lit (Value.int IntKind.i64 (0 : Int))), DV.one (Cell.lit (Value.bool false))] [DV.one (Cell.lit (Value.int IntKind.i64 (gNum b pos).1)), DV.one (Cell.lit (Value.int IntKind.i64 (gNum b pos).2.1)), DV.one (Cell.lit (Value.bool (gNum b pos).2.2))] else Lf [DV.one (Cell.lit (Value.int IntKind.i64 x1)), DV.one (Cell.lit (Value.int IntKind.i64 (IntKind.wrap IntKind.i64 (x4 + (1 : Int))))), DV.one (Cell.lit (Value.bool true))] [DV.one (Cell.lit (Value.int IntKind.i64 (gNum b pos).1)), DV.one (Cell.lit (Value.int IntKind.i64 (gNum b pos).2.1)), DV.one (Cell.lit (Value.bool (gNum b pos).2.2))] else bif decide (x1 < x0) then Lf [DV.one (Cell.lit (Value.int IntKind.i64 (0 : Int))), DV.one (Cell.lit (Value.int IntKind.i64 (0 : Int))), DV.one (Cell.lit (Value.bool false))] [DV.one (Cell.lit (Value.int IntKind.i64 (gNum b pos).1)), DV.one (Cell.lit (Value.int IntKind.i64 (gNum b pos).2.1)), DV.one (Cell.lit (Value.bool (gNum b pos).2.2))] else bif decide (x1 > (1000000000 : Int)) then Lf [DV.one (Cell.lit (Value.int IntKind.i64 (0 : Int))), DV.one (Cell.lit (Value.int IntKind.i64 (0 : Int))), DV.one (Cell.lit (Value.bool false))] [DV.one (Cell.lit (Value.int IntKind.i64 (gNum b pos).1)), DV.one (Cell.lit (Value.int IntKind.i64 (gNum b pos).2.1)), DV.one (Cell.lit (Value.bool (gNum b pos).2.2))] else Lf [DV.one (Cell.lit (Value.int IntKind.i64 x1)), DV.one (Cell.lit (Value.int IntKind.i64 (IntKind.wrap IntKind.i64 (x4 + (1 : Int))))), DV.one (Cell.lit (Value.bool true))] [DV.one (Cell.lit (Value.int IntKind.i64 (gNum b pos).1)), DV.one (Cell.lit (Value.int IntKind.i64 (gNum b pos).2.1)), DV.one (Cell.lit (Value.bool (gNum b pos).2.2))] else Lf [DV.one (Cell.lit (Value.int IntKind.i64 (0 : Int))), DV.one (Cell.lit (Value.int IntKind.i64 (0 : Int))), DV.one (Cell.lit (Value.bool false))] [DV.one (Cell.lit (Value.int IntKind.i64 (gNum b pos).1)), DV.one (Cell.lit (Value.int IntKind.i64 (gNum b pos).2.1)), DV.one (Cell.lit (Value.bool (gNum b pos).2.2))] else Lf [DV.one (Cell.lit (Value.int IntKind.i64 (0 : Int))), DV.one (Cell.lit (Value.int IntKind.i64 (0 : Int))), DV.one (Cell.lit (Value.bool false))] [DV.one (Cell.lit (Value.int IntKind.i64 (gNum b pos).1)), DV.one (Cell.lit (Value.int IntKind.i64 (gNum b pos).2.1)), DV.one (Cell.lit (Value.bool (gNum b pos).2.2))]) := by kernel_rfl
theorem ok_impl_GetNum : Holds EE (38, con_impl_GetNum) := by
  refine holds_of EE_ok Go.Proofs.Try.func38 con_impl_GetNum (by kernel_rfl) use_impl_GetNum all_nil ann_impl_GetNum (fun x hp hb => ?_)
  obtain ⟨b, pos⟩ := x
  have hb_b : BdDV (U := UU) (.one (.sl .byte b)) := hb _ (List.mem_cons_self)
  have hl_b : b.length ≤ 9223372036854775807 := Bd.len hb_b
  have hb_pos : BdDV (U := UU) (.one (.lit (.int .i64 pos))) := hb _ (List.mem_cons_of_mem _ (List.mem_cons_self))
  have hl_pos := Bd.i64 hb_pos
  have hp0 : b.length ≤ 4294967296 := hp _ (List.mem_cons_self)
  clear hp hb
  rw [vc_impl_GetNum b pos]
  dsimp only
  have hby := bytes_of hb_b
  have hE : gNum b pos = (0, 0, false) → Lf [.one (.lit (.int .i64 0)), .one (.lit (.int .i64 0)), .one (.lit (.bool false))] [.one (.lit (.int .i64 (gNum b pos).1)), .one (.lit (.int .i64 (gNum b pos).2.1)), .one (.lit (.bool (gNum b pos).2.2))] := fun h => by rw [h]; exact Lf_rfl _
  refine if_cond (fun hpos => hE (gNum_neg (by have := of_decide_eq_true hpos; omega))) (fun hpos => ?_)
  have hpos := of_decide_eq_false hpos
  refine ⟨⟨by omega, by omega, by omega, by decide, by rw [gNum, if_pos (by omega)]; rfl⟩, ?_⟩
  rintro ⟨m, k, ⟨⟩⟩ ⟨g1, g2, g3, g4, g5⟩
  dsimp only at g1 g2 g3 g4 g5 ⊢
  refine if_cond (fun h5 => ?_) (fun h5 => hE ?_)
  rotate_left
  · have h5 := of_decide_eq_false h5
    rw [← g5, show (5 - k).toNat = 0 by omega]; rfl
  have h5 := of_decide_eq_true h5
  rw [wrap_i64 (n := (b.length : Int) - k) (by omega) (by omega)]
  refine if_cond (fun hl => ?_) (fun hl => hE (by have := of_decide_eq_false hl; rw [← g5, gLoop_end (by omega)]))
  have hlt := of_decide_eq_true hl
  have hlt : pos + k < b.length := by omega
  rw [wrap_i64 (n := pos + k) (by omega) (by omega)]
  have e : (5 - k).toNat = (4 - k).toNat + 1 := by omega
  rw [e, gLoop, if_pos hlt] at g5
  have hc := hby _ (getD_mem b (0 : Int) (i := pos + k) (by omega) hlt)
  generalize List.getD b (pos + k).toNat 0 = c at g5 hc ⊢
  have hw : IntKind.wrap .i64 c = c := wrap_i64 (by omega) (by omega)
  obtain ⟨o1, o2, o3, o4⟩ := orStep (k := k) (m := m) (c := c) (by omega) ⟨g3, g4⟩ hc
  rw [hw, o1]
  generalize m + c % 128 * ((2 ^ (7 * k).toNat : Nat) : Int) = m2 at g5 o2 o3 o4 ⊢
  have hq : Int.tdiv m2 2 = m2 / 2 := Int.tdiv_eq_ediv_of_nonneg o2
  have hr : Int.tmod m2 2 = m2 % 2 := Int.tmod_eq_emod_of_nonneg o2
  rw [hq, hr, wrap_i64 (n := 7 * k) (by omega) (by omega), u64_small (n := 7 * k) (by omega) (by omega), wrap_i64 (n := k + 1) (by omega) (by omega), wrap_i64 (n := pos + k + 1) (by omega) (by omega), wrap_i64 (n := m2 / 2) (by omega) (by omega), wrap_i64 (n := 0 - m2 / 2) (by omega) (by omega), wrap_i64 (n := 0 - m2 / 2 - 1) (by omega) (by omega)]
  refine ⟨by omega, by omega, by omega, if_cond (fun hbig => ?_) (fun hbig => ?_)⟩
  · have hbig := of_decide_eq_true hbig
    rw [if_pos (by omega)] at g5
    exact ⟨⟨by omega, by omega, o2, o3, by rw [show (5 - (k + 1)).toNat = (4 - k).toNat by omega]; exact g5⟩, by simp only [μ_impl_GetNum_5]; omega⟩
  · have hbig := of_decide_eq_false hbig
    rw [if_neg (by omega)] at g5
    have hF : (0 < k ∧ c = 0) ∨ ¬ numMax (unzig m2) → gNum b pos = (0, 0, false) := fun h => by rw [← g5, if_pos h]
    have hT : ∀ n : Int, unzig m2 = n → ¬ (0 < k ∧ c = 0) → numMax n → Lf [.one (.lit (.int .i64 n)), .one (.lit (.int .i64 (pos + k + 1))), .one (.lit (.bool true))] [.one (.lit (.int .i64 (gNum b pos).1)), .one (.lit (.int .i64 (gNum b pos).2.1)), .one (.lit (.bool (gNum b pos).2.2))] := fun n hn h1 h2 => by
      rw [← g5, if_neg (by rw [hn]; exact not_or.2 ⟨h1, not_not_intro h2⟩), hn]; exact Lf_rfl _
    have hR : ∀ n : Int, unzig m2 = n → ¬ (0 < k ∧ c = 0) → (bif decide (n < -1000000000) then Lf [.one (.lit (.int .i64 0)), .one (.lit (.int .i64 0)), .one (.lit (.bool false))] [.one (.lit (.int .i64 (gNum b pos).1)), .one (.lit (.int .i64 (gNum b pos).2.1)), .one (.lit (.bool (gNum b pos).2.2))] else bif decide (n > 1000000000) then Lf [.one (.lit (.int .i64 0)), .one (.lit (.int .i64 0)), .one (.lit (.bool false))] [.one (.lit (.int .i64 (gNum b pos).1)), .one (.lit (.int .i64 (gNum b pos).2.1)), .one (.lit (.bool (gNum b pos).2.2))] else Lf [.one (.lit (.int .i64 n)), .one (.lit (.int .i64 (pos + k + 1))), .one (.lit (.bool true))] [.one (.lit (.int .i64 (gNum b pos).1)), .one (.lit (.int .i64 (gNum b pos).2.1)), .one (.lit (.bool (gNum b pos).2.2))]) := fun n hn h1 =>
      if_cond (fun ha => hE (hF (.inr (by rw [hn]; intro hm; have := of_decide_eq_true ha; unfold numMax at hm; omega)))) (fun ha => if_cond (fun hb => hE (hF (.inr (by rw [hn]; intro hm; have := of_decide_eq_true hb; unfold numMax at hm; omega)))) (fun hb => hT n hn h1 (by have := of_decide_eq_false ha; have := of_decide_eq_false hb; unfold numMax; omega)))
    refine ⟨by decide, by decide, if_cond (fun hodd => ?_) (fun hodd => ?_)⟩
    · have hodd := eq_of_beq hodd
      have hn : unzig m2 = 0 - m2 / 2 - 1 := by rw [unzig, if_pos hodd]; omega
      exact if_cond (fun hz => if_cond (fun hk => hE (hF (.inl ⟨of_decide_eq_true hk, eq_of_beq hz⟩))) (fun hk => hR _ hn (fun hh => absurd hh.1 (of_decide_eq_false hk)))) (fun hz => hR _ hn (fun hh => by rw [hh.2] at hz; simp at hz))
    · have hodd : ¬ m2 % 2 = 1 := by simpa using hodd
      have hn : unzig m2 = m2 / 2 := by rw [unzig, if_neg hodd]
      exact if_cond (fun hz => if_cond (fun hk => hE (hF (.inl ⟨of_decide_eq_true hk, eq_of_beq hz⟩))) (fun hk => hR _ hn (fun hh => absurd hh.1 (of_decide_eq_false hk)))) (fun hz => hR _ hn (fun hh => by rw [hh.2] at hz; simp at hz))
def sliceI (b : List Int) (i n : Int) : List Int := List.drop i.toNat (List.take (i + n).toNat b)
def txtOf (l : List Int) : ByteArray := strOfNums (l.map fun x => x)
def gText (b : List Int) (pos : Int) : ByteArray × Int × Bool :=
  if (gNum b pos).2.2 = true ∧ 0 ≤ (gNum b pos).1 ∧ (gNum b pos).1 ≤ b.length - (gNum b pos).2.1 then (txtOf (sliceI b (gNum b pos).2.1 (gNum b pos).1), (gNum b pos).2.1 + (gNum b pos).1, true) else (noBytes, 0, false)
theorem vi_pos (m : Nat) : 0 < (vi m).length := by rw [vi]; split <;> simp
theorem numB_pos (n : Int) : 0 < (numB n).length := vi_pos _
theorem gNum_ok {b : List Int} {pos : Int} (hb : bytesOk b) (h : (gNum b pos).2.2 = true) : 0 ≤ pos ∧ b.drop pos.toNat = numB (gNum b pos).1 ++ b.drop (gNum b pos).2.1.toNat ∧ pos < (gNum b pos).2.1 ∧ (gNum b pos).2.1 ≤ b.length ∧ numMax (gNum b pos).1 :=
  gNum_canon hb (by rw [← h])
theorem strOfNums_size (l : List Int) : (strOfNums l).size = l.length := by simp [strOfNums, ByteArray.size]
theorem txtI_of {l : List Int} (h : bytesOk l) : txtI (txtOf l) = l := by
  simp only [txtI, txtOf, strOfNums, bs, List.map_map]
  refine (List.map_congr_left fun x hx => ?_).trans (List.map_id l)
  have := h x hx
  simp only [Function.comp, id]
  rw [UInt8.toNat_ofNat']
  omega
theorem txtOf_txtI (s : ByteArray) : txtOf (txtI s) = s := by
  apply ByteArray.ext
  have e : ((fun (n : Int) => UInt8.ofNat n.toNat) ∘ (fun x => x) ∘ fun (b : UInt8) => ((b.toNat : Nat) : Int)) = id := by
    funext b
    simp
  simp only [txtOf, txtI, strOfNums, bs, List.map_map]
  rw [e, List.map_id]
theorem slice_len {b : List Int} {i n : Int} (h0 : 0 ≤ i) (h1 : 0 ≤ n) (h2 : i + n ≤ b.length) : (sliceI b i n).length = n.toNat := by
  simp only [sliceI, List.length_drop, List.length_take]; omega
theorem slice_app {b : List Int} {i n : Int} (h0 : 0 ≤ i) (h1 : 0 ≤ n) (h2 : i + n ≤ b.length) : b.drop i.toNat = sliceI b i n ++ b.drop (i + n).toNat := by
  have e : (i + n).toNat = i.toNat + n.toNat := by omega
  simp only [sliceI]
  rw [e, ← List.drop_drop]
  conv => lhs; rw [← List.take_append_drop n.toNat (b.drop i.toNat)]
  rw [List.drop_take]
  congr 2
  omega
theorem gText_canon {b : List Int} {pos : Int} (hb : bytesOk b) (h : (gText b pos).2.2 = true) : 0 ≤ pos ∧ b.drop pos.toNat = textB (gText b pos).1 ++ b.drop (gText b pos).2.1.toNat ∧ pos < (gText b pos).2.1 ∧ (gText b pos).2.1 ≤ b.length ∧ ((gText b pos).1.size : Int) ≤ 1000000000 := by
  by_cases hc : (gNum b pos).2.2 = true ∧ 0 ≤ (gNum b pos).1 ∧ (gNum b pos).1 ≤ b.length - (gNum b pos).2.1
  · have e : gText b pos = (txtOf (sliceI b (gNum b pos).2.1 (gNum b pos).1), (gNum b pos).2.1 + (gNum b pos).1, true) := if_pos hc
    rw [e]
    obtain ⟨c1, c2, c3⟩ := hc
    obtain ⟨d1, d2, d3, d4, d5⟩ := gNum_ok hb c1
    generalize (gNum b pos).1 = n at *
    generalize (gNum b pos).2.1 = nx at *
    have hl := slice_len (b := b) (i := nx) (n := n) (by omega) c2 (by omega)
    have hsb : bytesOk (sliceI b nx n) := fun x hx => hb x (List.mem_of_mem_take (List.mem_of_mem_drop hx))
    have hsz : (txtOf (sliceI b nx n)).size = n.toNat := by rw [txtOf, strOfNums_size, List.length_map, hl]
    unfold numMax at d5
    refine ⟨d1, ?_, by dsimp only; omega, by dsimp only; omega, by dsimp only; omega⟩
    dsimp only
    rw [d2, textB, txtI_of hsb, hsz, List.append_assoc, ← slice_app (by omega) c2 (by omega)]
    have : ((n.toNat : Nat) : Int) = n := by omega
    rw [this]
  · have e : gText b pos = (noBytes, 0, false) := if_neg hc
    rw [e] at h; simp at h
theorem gText_round {b : List Int} {pos : Int} {s : ByteArray} {r : List Int} (hb : bytesOk b) (h0 : 0 ≤ pos) (hs : (s.size : Int) ≤ 1000000000) (hd : b.drop pos.toNat = textB s ++ r) : gText b pos = (s, pos + (textB s).length, true) := by
  rw [textB, List.append_assoc] at hd
  have hn := gNum_round h0 (n := s.size) (by unfold numMax; omega) hd
  have hd2 := drop_app h0 hd
  have hlen := congrArg List.length hd
  simp only [List.length_drop, List.length_append, txtI_len] at hlen
  have hpos := numB_len s.size
  have hne := numB_pos (s.size : Int)
  have hc : (gNum b pos).2.2 = true ∧ 0 ≤ (gNum b pos).1 ∧ (gNum b pos).1 ≤ b.length - (gNum b pos).2.1 := by rw [hn]; refine ⟨rfl, by dsimp only; omega, by dsimp only; omega⟩
  rw [gText, if_pos hc, hn]
  dsimp only
  have hsl : sliceI b (pos + (numB s.size).length) s.size = txtI s := by
    have ha := slice_app (b := b) (i := pos + (numB (s.size : Int)).length) (n := s.size) (by omega) (by omega) (by omega)
    rw [hd2] at ha
    have hl := slice_len (b := b) (i := pos + (numB (s.size : Int)).length) (n := s.size) (by omega) (by omega) (by omega)
    exact (List.append_inj_left ha (by rw [hl, txtI_len]; omega)).symm
  rw [hsl, txtOf_txtI, textB, List.length_append, txtI_len]
  simp only [Prod.mk.injEq, true_and, and_true]
  omega
def con_spec_GetText : Con UU where
  α := (List Int) × Int
  md := [.ro, .ro]
  of := fun | [.one (.sl .byte a0), .one (.lit (.int .i64 a1))] => some (a0, a1) | _ => none
  ds := fun (b, pos) => [.one (.sl .byte b), .one (.lit (.int .i64 pos))]
  pre := fun (b, pos) => [b.length ≤ 4294967296]
  res := fun (b, pos) => ⟨[.one (.lit (.string ((gText b pos).1))), .one (.lit (.int .i64 ((gText b pos).2.1))), .one (.lit (.bool ((gText b pos).2.2)))], true, []⟩
  law := by intro l x h; (try simp only at h); split at h <;> cases h; rfl
def ann_spec_GetText : con_spec_GetText.α → Nat → Option (Ann UU) := fun (b, pos) => annL []
def use_spec_GetText : List (FuncId × Con UU) := [(30, con_spec_GetNum)]
theorem vc_spec_GetText (b : (List Int)) (pos : Int) : goal EE use_spec_GetText Go.Proofs.Try.f31 con_spec_GetText ann_spec_GetText (b, pos) = (let x0 : Int := Option.getD (some (IntKind.wrap IntKind.i64 ((gNum b pos).2.1 + (gNum b pos).1))) (↑(List.length b) : Int);
let x1 : Int := Option.getD (some (gNum b pos).2.1) (0 : Int);
let x2 : Int := IntKind.wrap IntKind.i64 ((↑(List.length b) : Int) - (gNum b pos).2.1);
List.length b ≤ (4294967296 : Nat) ∧ bif !(gNum b pos).2.2 then Lf [DV.one (Cell.lit (Value.string { data := #[] : ByteArray })), DV.one (Cell.lit (Value.int IntKind.i64 (0 : Int))), DV.one (Cell.lit (Value.bool false))] [DV.one (Cell.lit (Value.string (gText b pos).1)), DV.one (Cell.lit (Value.int IntKind.i64 (gText b pos).2.1)), DV.one (Cell.lit (Value.bool (gText b pos).2.2))] else bif decide ((gNum b pos).1 < (0 : Int)) then Lf [DV.one (Cell.lit (Value.string { data := #[] : ByteArray })), DV.one (Cell.lit (Value.int IntKind.i64 (0 : Int))), DV.one (Cell.lit (Value.bool false))] [DV.one (Cell.lit (Value.string (gText b pos).1)), DV.one (Cell.lit (Value.int IntKind.i64 (gText b pos).2.1)), DV.one (Cell.lit (Value.bool (gText b pos).2.2))] else bif decide ((gNum b pos).1 > x2) then Lf [DV.one (Cell.lit (Value.string { data := #[] : ByteArray })), DV.one (Cell.lit (Value.int IntKind.i64 (0 : Int))), DV.one (Cell.lit (Value.bool false))] [DV.one (Cell.lit (Value.string (gText b pos).1)), DV.one (Cell.lit (Value.int IntKind.i64 (gText b pos).2.1)), DV.one (Cell.lit (Value.bool (gText b pos).2.2))] else (0 : Int) ≤ x1 ∧ x1 ≤ x0 ∧ x0 ≤ (↑(List.length b) : Int) ∧ Lf [DV.one (Cell.lit (Value.string (strOfNums (List.map (fun (x : Cd.T Cd.byte) => x) (List.drop (Int.toNat x1) (List.take (Int.toNat x0) b)))))), DV.one (Cell.lit (Value.int IntKind.i64 (IntKind.wrap IntKind.i64 ((gNum b pos).2.1 + (gNum b pos).1)))), DV.one (Cell.lit (Value.bool true))] [DV.one (Cell.lit (Value.string (gText b pos).1)), DV.one (Cell.lit (Value.int IntKind.i64 (gText b pos).2.1)), DV.one (Cell.lit (Value.bool (gText b pos).2.2))]) := by kernel_rfl
theorem ok_spec_GetText : Holds EE (31, con_spec_GetText) := by
  refine holds_of EE_ok Go.Proofs.Try.func31 con_spec_GetText (by kernel_rfl) use_spec_GetText (all_cons ok_spec_GetNum all_nil) ann_spec_GetText (fun x hp hb => ?_)
  obtain ⟨b, pos⟩ := x
  have hb_b : BdDV (U := UU) (.one (.sl .byte b)) := hb _ (List.mem_cons_self)
  have hl_b : b.length ≤ 9223372036854775807 := Bd.len hb_b
  have hb_pos : BdDV (U := UU) (.one (.lit (.int .i64 pos))) := hb _ (List.mem_cons_of_mem _ (List.mem_cons_self))
  have hl_pos := Bd.i64 hb_pos
  have hp0 : b.length ≤ 4294967296 := hp _ (List.mem_cons_self)
  clear hp hb
  rw [vc_spec_GetText b pos]
  dsimp only
  have hby := bytes_of hb_b
  have hF : ¬ ((gNum b pos).2.2 = true ∧ 0 ≤ (gNum b pos).1 ∧ (gNum b pos).1 ≤ b.length - (gNum b pos).2.1) → Lf [.one (.lit (.string ⟨#[]⟩)), .one (.lit (.int .i64 0)), .one (.lit (.bool false))] [.one (.lit (.string (gText b pos).1)), .one (.lit (.int .i64 (gText b pos).2.1)), .one (.lit (.bool (gText b pos).2.2))] := fun h => by
    rw [gText, if_neg h]; exact Lf_rfl _
  refine ⟨hp0, if_cond (fun h => hF (fun hh => by rw [hh.1] at h; simp at h)) (fun h => ?_)⟩
  have hok : (gNum b pos).2.2 = true := by simpa using h
  obtain ⟨d1, d2, d3, d4, d5⟩ := gNum_ok hby hok
  unfold numMax at d5
  rw [wrap_i64 (n := (b.length : Int) - (gNum b pos).2.1) (by omega) (by omega), wrap_i64 (n := (gNum b pos).2.1 + (gNum b pos).1) (by omega) (by omega)]
  refine if_cond (fun h1 => hF (fun hh => absurd (of_decide_eq_true h1) (by omega))) (fun h1 => if_cond (fun h2 => hF (fun hh => absurd (of_decide_eq_true h2) (by omega))) (fun h2 => ?_))
  have h1 := of_decide_eq_false h1
  have h2 := of_decide_eq_false h2
  have e : gText b pos = (txtOf (sliceI b (gNum b pos).2.1 (gNum b pos).1), (gNum b pos).2.1 + (gNum b pos).1, true) := if_pos ⟨hok, by omega, by omega⟩
  rw [e]
  exact ⟨by show (0 : Int) ≤ (gNum b pos).2.1; omega, by show (gNum b pos).2.1 ≤ (gNum b pos).2.1 + (gNum b pos).1; omega, by show (gNum b pos).2.1 + (gNum b pos).1 ≤ (b.length : Int); omega, Lf_rfl _⟩
def con_impl_GetText : Con UU where
  α := (List Int) × Int
  md := [.ro, .ro]
  of := fun | [.one (.sl .byte a0), .one (.lit (.int .i64 a1))] => some (a0, a1) | _ => none
  ds := fun (b, pos) => [.one (.sl .byte b), .one (.lit (.int .i64 pos))]
  pre := fun (b, pos) => [b.length ≤ 4294967296]
  res := fun (b, pos) => ⟨[.one (.lit (.string ((gText b pos).1))), .one (.lit (.int .i64 ((gText b pos).2.1))), .one (.lit (.bool ((gText b pos).2.2)))], true, []⟩
  law := by intro l x h; (try simp only at h); split at h <;> cases h; rfl
def ann_impl_GetText : con_impl_GetText.α → Nat → Option (Ann UU) := fun (b, pos) => annL []
def use_impl_GetText : List (FuncId × Con UU) := [(38, con_impl_GetNum)]
theorem vc_impl_GetText (b : (List Int)) (pos : Int) : goal EE use_impl_GetText Go.Proofs.Try.f39 con_impl_GetText ann_impl_GetText (b, pos) = (let x0 : Int := Option.getD (some (IntKind.wrap IntKind.i64 ((gNum b pos).2.1 + (gNum b pos).1))) (↑(List.length b) : Int);
let x1 : Int := Option.getD (some (gNum b pos).2.1) (0 : Int);
let x2 : Int := IntKind.wrap IntKind.i64 ((↑(List.length b) : Int) - (gNum b pos).2.1);
List.length b ≤ (4294967296 : Nat) ∧ bif !(gNum b pos).2.2 then Lf [DV.one (Cell.lit (Value.string { data := #[] : ByteArray })), DV.one (Cell.lit (Value.int IntKind.i64 (0 : Int))), DV.one (Cell.lit (Value.bool false))] [DV.one (Cell.lit (Value.string (gText b pos).1)), DV.one (Cell.lit (Value.int IntKind.i64 (gText b pos).2.1)), DV.one (Cell.lit (Value.bool (gText b pos).2.2))] else bif decide ((gNum b pos).1 < (0 : Int)) then Lf [DV.one (Cell.lit (Value.string { data := #[] : ByteArray })), DV.one (Cell.lit (Value.int IntKind.i64 (0 : Int))), DV.one (Cell.lit (Value.bool false))] [DV.one (Cell.lit (Value.string (gText b pos).1)), DV.one (Cell.lit (Value.int IntKind.i64 (gText b pos).2.1)), DV.one (Cell.lit (Value.bool (gText b pos).2.2))] else bif decide ((gNum b pos).1 > x2) then Lf [DV.one (Cell.lit (Value.string { data := #[] : ByteArray })), DV.one (Cell.lit (Value.int IntKind.i64 (0 : Int))), DV.one (Cell.lit (Value.bool false))] [DV.one (Cell.lit (Value.string (gText b pos).1)), DV.one (Cell.lit (Value.int IntKind.i64 (gText b pos).2.1)), DV.one (Cell.lit (Value.bool (gText b pos).2.2))] else (0 : Int) ≤ x1 ∧ x1 ≤ x0 ∧ x0 ≤ (↑(List.length b) : Int) ∧ Lf [DV.one (Cell.lit (Value.string (strOfNums (List.map (fun (x : Cd.T Cd.byte) => x) (List.drop (Int.toNat x1) (List.take (Int.toNat x0) b)))))), DV.one (Cell.lit (Value.int IntKind.i64 (IntKind.wrap IntKind.i64 ((gNum b pos).2.1 + (gNum b pos).1)))), DV.one (Cell.lit (Value.bool true))] [DV.one (Cell.lit (Value.string (gText b pos).1)), DV.one (Cell.lit (Value.int IntKind.i64 (gText b pos).2.1)), DV.one (Cell.lit (Value.bool (gText b pos).2.2))]) := by kernel_rfl
theorem ok_impl_GetText : Holds EE (39, con_impl_GetText) := by
  refine holds_of EE_ok Go.Proofs.Try.func39 con_impl_GetText (by kernel_rfl) use_impl_GetText (all_cons ok_impl_GetNum all_nil) ann_impl_GetText (fun x hp hb => ?_)
  obtain ⟨b, pos⟩ := x
  have hb_b : BdDV (U := UU) (.one (.sl .byte b)) := hb _ (List.mem_cons_self)
  have hl_b : b.length ≤ 9223372036854775807 := Bd.len hb_b
  have hb_pos : BdDV (U := UU) (.one (.lit (.int .i64 pos))) := hb _ (List.mem_cons_of_mem _ (List.mem_cons_self))
  have hl_pos := Bd.i64 hb_pos
  have hp0 : b.length ≤ 4294967296 := hp _ (List.mem_cons_self)
  clear hp hb
  rw [vc_impl_GetText b pos]
  dsimp only
  have hby := bytes_of hb_b
  have hF : ¬ ((gNum b pos).2.2 = true ∧ 0 ≤ (gNum b pos).1 ∧ (gNum b pos).1 ≤ b.length - (gNum b pos).2.1) → Lf [.one (.lit (.string ⟨#[]⟩)), .one (.lit (.int .i64 0)), .one (.lit (.bool false))] [.one (.lit (.string (gText b pos).1)), .one (.lit (.int .i64 (gText b pos).2.1)), .one (.lit (.bool (gText b pos).2.2))] := fun h => by
    rw [gText, if_neg h]; exact Lf_rfl _
  refine ⟨hp0, if_cond (fun h => hF (fun hh => by rw [hh.1] at h; simp at h)) (fun h => ?_)⟩
  have hok : (gNum b pos).2.2 = true := by simpa using h
  obtain ⟨d1, d2, d3, d4, d5⟩ := gNum_ok hby hok
  unfold numMax at d5
  rw [wrap_i64 (n := (b.length : Int) - (gNum b pos).2.1) (by omega) (by omega), wrap_i64 (n := (gNum b pos).2.1 + (gNum b pos).1) (by omega) (by omega)]
  refine if_cond (fun h1 => hF (fun hh => absurd (of_decide_eq_true h1) (by omega))) (fun h1 => if_cond (fun h2 => hF (fun hh => absurd (of_decide_eq_true h2) (by omega))) (fun h2 => ?_))
  have h1 := of_decide_eq_false h1
  have h2 := of_decide_eq_false h2
  have e : gText b pos = (txtOf (sliceI b (gNum b pos).2.1 (gNum b pos).1), (gNum b pos).2.1 + (gNum b pos).1, true) := if_pos ⟨hok, by omega, by omega⟩
  rw [e]
  exact ⟨by show (0 : Int) ≤ (gNum b pos).2.1; omega, by show (gNum b pos).2.1 ≤ (gNum b pos).2.1 + (gNum b pos).1; omega, by show (gNum b pos).2.1 + (gNum b pos).1 ≤ (b.length : Int); omega, Lf_rfl _⟩
end
end AM
