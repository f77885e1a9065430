/- Functions of the program with their contracts: put together by gen/link.py for FnDue. -/
import Derived.Test.YtmoijfaceanakaaAmLib
import Derived.Test.YtmoijfaceanakaaAmModels
namespace AM
open Go
set_option linter.unusedVariables false
set_option linter.unusedSimpArgs false
set_option maxRecDepth 100000
noncomputable section
def smallB (b : Int) : Bool := decide (97 ≤ b ∧ b ≤ 122)
def wordB (b : Int) : Bool := smallB b || decide (48 ≤ b ∧ b ≤ 57) || decide (b = 95)
def wordS (s : ByteArray) : Bool := (bs s).all (byteP wordB)
def nameOk (s : ByteArray) : Bool := decide (1 ≤ s.size ∧ s.size ≤ 12) && smallB (List.getD (bs s) 0 0).toNat && wordS s
def valOk (v : DVal) : Bool := bif decide (v.K = 1) then decide (-1000000000 ≤ v.N ∧ v.N ≤ 1000000000) && decide (v.S = noBytes) else bif decide (v.K = 2) then decide (v.N = 0) && decide (v.S.size ≤ 20) && wordS v.S else false
def factOk (f : DFact) : Bool := nameOk f.Kind && decide (f.Fields.length ≤ 5) && f.Fields.all valOk
def con_impl_inRange : Con UU where
  α := Int × Int × Int
  md := [.ro, .ro, .ro]
  of := fun | [.one (.lit (.int .i64 a0)), .one (.lit (.int .i64 a1)), .one (.lit (.int .i64 a2))] => some (a0, a1, a2) | _ => none
  ds := fun (n, least, most) => [.one (.lit (.int .i64 n)), .one (.lit (.int .i64 least)), .one (.lit (.int .i64 most))]
  pre := fun (n, least, most) => []
  res := fun (n, least, most) => ⟨[.one (.lit (.bool (decide (least ≤ n ∧ n ≤ most))))], true, []⟩
  law := by intro l x h; (try simp only at h); split at h <;> cases h; rfl
def ann_impl_inRange : con_impl_inRange.α → Nat → Option (Ann UU) := fun (n, least, most) => annL []
def use_impl_inRange : List (FuncId × Con UU) := []
theorem vc_impl_inRange (n : Int) (least : Int) (most : Int) : goal EE use_impl_inRange Go.Proofs.Try.f97 con_impl_inRange ann_impl_inRange (n, least, most) = (bif decide (n ≥ least) then Lf [DV.one (Cell.lit (Value.bool (decide (n ≤ most))))] [DV.one (Cell.lit (Value.bool (decide (least ≤ n ∧ n ≤ most))))] else Lf [DV.one (Cell.lit (Value.bool false))] [DV.one (Cell.lit (Value.bool (decide (least ≤ n ∧ n ≤ most))))]) := by kernel_rfl
theorem ok_impl_inRange : Holds EE (97, con_impl_inRange) := by
  refine holds_of EE_ok Go.Proofs.Try.func97 con_impl_inRange (by kernel_rfl) use_impl_inRange all_nil ann_impl_inRange (fun x hp hb => ?_)
  obtain ⟨n, least, most⟩ := x
  have hb_n : BdDV (U := UU) (.one (.lit (.int .i64 n))) := hb _ (List.mem_cons_self)
  have hl_n := Bd.i64 hb_n
  have hb_least : BdDV (U := UU) (.one (.lit (.int .i64 least))) := hb _ (List.mem_cons_of_mem _ (List.mem_cons_self))
  have hl_least := Bd.i64 hb_least
  have hb_most : BdDV (U := UU) (.one (.lit (.int .i64 most))) := hb _ (List.mem_cons_of_mem _ (List.mem_cons_of_mem _ (List.mem_cons_self)))
  have hl_most := Bd.i64 hb_most
  clear hp hb
  rw [vc_impl_inRange n least most]
  refine if_cond (fun h => Lf_b ?_) (fun h => Lf_b ?_) <;> grind
def con_spec_l1In : Con UU where
  α := Int × Int × Int
  md := [.ro, .ro, .ro]
  of := fun | [.one (.lit (.int .i64 a0)), .one (.lit (.int .i64 a1)), .one (.lit (.int .i64 a2))] => some (a0, a1, a2) | _ => none
  ds := fun (x, least, most) => [.one (.lit (.int .i64 x)), .one (.lit (.int .i64 least)), .one (.lit (.int .i64 most))]
  pre := fun (x, least, most) => []
  res := fun (x, least, most) => ⟨[.one (.lit (.bool (decide (least ≤ x ∧ x ≤ most))))], true, []⟩
  law := by intro l x h; (try simp only at h); split at h <;> cases h; rfl
def ann_spec_l1In : con_spec_l1In.α → Nat → Option (Ann UU) := fun (x, least, most) => annL []
def use_spec_l1In : List (FuncId × Con UU) := []
theorem vc_spec_l1In (x : Int) (least : Int) (most : Int) : goal EE use_spec_l1In Go.Proofs.Try.f61 con_spec_l1In ann_spec_l1In (x, least, most) = (bif decide (x ≥ least) then Lf [DV.one (Cell.lit (Value.bool (decide (x ≤ most))))] [DV.one (Cell.lit (Value.bool (decide (least ≤ x ∧ x ≤ most))))] else Lf [DV.one (Cell.lit (Value.bool false))] [DV.one (Cell.lit (Value.bool (decide (least ≤ x ∧ x ≤ most))))]) := by kernel_rfl
theorem ok_spec_l1In : Holds EE (61, con_spec_l1In) := by
  refine holds_of EE_ok Go.Proofs.Try.func61 con_spec_l1In (by kernel_rfl) use_spec_l1In all_nil ann_spec_l1In (fun x hp hb => ?_)
  obtain ⟨x, least, most⟩ := x
  have hb_x : BdDV (U := UU) (.one (.lit (.int .i64 x))) := hb _ (List.mem_cons_self)
  have hl_x := Bd.i64 hb_x
  have hb_least : BdDV (U := UU) (.one (.lit (.int .i64 least))) := hb _ (List.mem_cons_of_mem _ (List.mem_cons_self))
  have hl_least := Bd.i64 hb_least
  have hb_most : BdDV (U := UU) (.one (.lit (.int .i64 most))) := hb _ (List.mem_cons_of_mem _ (List.mem_cons_of_mem _ (List.mem_cons_self)))
  have hl_most := Bd.i64 hb_most
  clear hp hb
  rw [vc_spec_l1In x least most]
  refine if_cond (fun h => Lf_b ?_) (fun h => Lf_b ?_) <;> grind
def con_impl_isSmall : Con UU where
  α := Int
  md := [.ro]
  of := fun | [.one (.lit (.int .u8 a0))] => some a0 | _ => none
  ds := fun b => [.one (.lit (.int .u8 b))]
  pre := fun b => []
  res := fun b => ⟨[.one (.lit (.bool (smallB b)))], true, []⟩
  law := by intro l x h; (try simp only at h); split at h <;> cases h; rfl
def ann_impl_isSmall : con_impl_isSmall.α → Nat → Option (Ann UU) := fun b => annL []
def use_impl_isSmall : List (FuncId × Con UU) := []
theorem vc_impl_isSmall (b : Int) : goal EE use_impl_isSmall Go.Proofs.Try.f121 con_impl_isSmall ann_impl_isSmall b = (bif decide (b ≥ (97 : Int)) then Lf [DV.one (Cell.lit (Value.bool (decide (b ≤ (122 : Int)))))] [DV.one (Cell.lit (Value.bool (smallB b)))] else Lf [DV.one (Cell.lit (Value.bool false))] [DV.one (Cell.lit (Value.bool (smallB b)))]) := by kernel_rfl
theorem ok_impl_isSmall : Holds EE (121, con_impl_isSmall) := by
  refine holds_of EE_ok Go.Proofs.Try.func121 con_impl_isSmall (by kernel_rfl) use_impl_isSmall all_nil ann_impl_isSmall (fun (b : Int) hp hb => ?_)
  have hb_b : BdDV (U := UU) (.one (.lit (.int .u8 b))) := hb _ (List.mem_cons_self)
  clear hp hb
  rw [vc_impl_isSmall b]
  refine if_cond (fun h => Lf_b ?_) (fun h => Lf_b ?_) <;> grind [smallB]
def con_impl_isDigit : Con UU where
  α := Int
  md := [.ro]
  of := fun | [.one (.lit (.int .u8 a0))] => some a0 | _ => none
  ds := fun b => [.one (.lit (.int .u8 b))]
  pre := fun b => []
  res := fun b => ⟨[.one (.lit (.bool (decide (48 ≤ b ∧ b ≤ 57))))], true, []⟩
  law := by intro l x h; (try simp only at h); split at h <;> cases h; rfl
def ann_impl_isDigit : con_impl_isDigit.α → Nat → Option (Ann UU) := fun b => annL []
def use_impl_isDigit : List (FuncId × Con UU) := []
theorem vc_impl_isDigit (b : Int) : goal EE use_impl_isDigit Go.Proofs.Try.f128 con_impl_isDigit ann_impl_isDigit b = (bif decide (b ≥ (48 : Int)) then Lf [DV.one (Cell.lit (Value.bool (decide (b ≤ (57 : Int)))))] [DV.one (Cell.lit (Value.bool (decide ((48 : Int) ≤ b ∧ b ≤ (57 : Int)))))] else Lf [DV.one (Cell.lit (Value.bool false))] [DV.one (Cell.lit (Value.bool (decide ((48 : Int) ≤ b ∧ b ≤ (57 : Int)))))]) := by kernel_rfl
theorem ok_impl_isDigit : Holds EE (128, con_impl_isDigit) := by
  refine holds_of EE_ok Go.Proofs.Try.func128 con_impl_isDigit (by kernel_rfl) use_impl_isDigit all_nil ann_impl_isDigit (fun (b : Int) hp hb => ?_)
  have hb_b : BdDV (U := UU) (.one (.lit (.int .u8 b))) := hb _ (List.mem_cons_self)
  clear hp hb
  rw [vc_impl_isDigit b]
  refine if_cond (fun h => Lf_b ?_) (fun h => Lf_b ?_) <;> grind
def con_impl_isWordByte : Con UU where
  α := Int
  md := [.ro]
  of := fun | [.one (.lit (.int .u8 a0))] => some a0 | _ => none
  ds := fun b => [.one (.lit (.int .u8 b))]
  pre := fun b => []
  res := fun b => ⟨[.one (.lit (.bool (wordB b)))], true, []⟩
  law := by intro l x h; (try simp only at h); split at h <;> cases h; rfl
def ann_impl_isWordByte : con_impl_isWordByte.α → Nat → Option (Ann UU) := fun b => annL []
def use_impl_isWordByte : List (FuncId × Con UU) := [(121, con_impl_isSmall), (128, con_impl_isDigit)]
theorem vc_impl_isWordByte (b : Int) : goal EE use_impl_isWordByte Go.Proofs.Try.f126 con_impl_isWordByte ann_impl_isWordByte b = (bif smallB b then Lf [DV.one (Cell.lit (Value.bool true))] [DV.one (Cell.lit (Value.bool (wordB b)))] else bif decide ((48 : Int) ≤ b ∧ b ≤ (57 : Int)) then Lf [DV.one (Cell.lit (Value.bool true))] [DV.one (Cell.lit (Value.bool (wordB b)))] else Lf [DV.one (Cell.lit (Value.bool (b == (95 : Int))))] [DV.one (Cell.lit (Value.bool (wordB b)))]) := by kernel_rfl
theorem ok_impl_isWordByte : Holds EE (126, con_impl_isWordByte) := by
  refine holds_of EE_ok Go.Proofs.Try.func126 con_impl_isWordByte (by kernel_rfl) use_impl_isWordByte (all_cons ok_impl_isSmall (all_cons ok_impl_isDigit all_nil)) ann_impl_isWordByte (fun (b : Int) hp hb => ?_)
  have hb_b : BdDV (U := UU) (.one (.lit (.int .u8 b))) := hb _ (List.mem_cons_self)
  clear hp hb
  rw [vc_impl_isWordByte b]
  refine if_cond (fun h => Lf_b ?_) (fun h => ?_)
  · grind [wordB]
  refine if_cond (fun h => Lf_b ?_) (fun h => Lf_b ?_) <;> grind [wordB]
def con_spec_l1Letter : Con UU where
  α := Int
  md := [.ro]
  of := fun | [.one (.lit (.int .u8 a0))] => some a0 | _ => none
  ds := fun c => [.one (.lit (.int .u8 c))]
  pre := fun c => [0 ≤ c ∧ c ≤ 255]
  res := fun c => ⟨[.one (.lit (.bool (wordB c)))], true, []⟩
  law := by intro l x h; (try simp only at h); split at h <;> cases h; rfl
def ann_spec_l1Letter : con_spec_l1Letter.α → Nat → Option (Ann UU) := fun c => annL []
def use_spec_l1Letter : List (FuncId × Con UU) := [(61, con_spec_l1In)]
theorem vc_spec_l1Letter (c : Int) : goal EE use_spec_l1Letter Go.Proofs.Try.f103 con_spec_l1Letter ann_spec_l1Letter c = (bif decide ((97 : Int) ≤ IntKind.wrap IntKind.i64 c ∧ IntKind.wrap IntKind.i64 c ≤ (122 : Int)) then Lf [DV.one (Cell.lit (Value.bool true))] [DV.one (Cell.lit (Value.bool (wordB c)))] else bif decide ((48 : Int) ≤ IntKind.wrap IntKind.i64 c ∧ IntKind.wrap IntKind.i64 c ≤ (57 : Int)) then Lf [DV.one (Cell.lit (Value.bool true))] [DV.one (Cell.lit (Value.bool (wordB c)))] else Lf [DV.one (Cell.lit (Value.bool (c == (95 : Int))))] [DV.one (Cell.lit (Value.bool (wordB c)))]) := by kernel_rfl
theorem ok_spec_l1Letter : Holds EE (103, con_spec_l1Letter) := by
  refine holds_of EE_ok Go.Proofs.Try.func103 con_spec_l1Letter (by kernel_rfl) use_spec_l1Letter (all_cons ok_spec_l1In all_nil) ann_spec_l1Letter (fun (c : Int) hp hb => ?_)
  have hb_c : BdDV (U := UU) (.one (.lit (.int .u8 c))) := hb _ (List.mem_cons_self)
  have hp0 : 0 ≤ c ∧ c ≤ 255 := hp _ (List.mem_cons_self)
  clear hp hb
  rw [vc_spec_l1Letter c]
  rw [wrap_i64 (by omega) (by omega)]
  refine if_cond (fun h => Lf_b ?_) (fun h => ?_)
  · grind [wordB, smallB]
  refine if_cond (fun h => Lf_b ?_) (fun h => Lf_b ?_) <;> grind [wordB, smallB]
def con_impl_isWord : Con UU where
  α := ByteArray × Int
  md := [.ro, .ro]
  of := fun | [.one (.lit (.string a0)), .one (.lit (.int .i64 a1))] => some (a0, a1) | _ => none
  ds := fun (s, most) => [.one (.lit (.string s)), .one (.lit (.int .i64 most))]
  pre := fun (s, most) => []
  res := fun (s, most) => ⟨[.one (.lit (.bool (decide (s.size ≤ most) && wordS s)))], true, []⟩
  law := by intro l x h; (try simp only at h); split at h <;> cases h; rfl
def I_impl_isWord_4 (s : ByteArray) (most : Int) : Int × Unit → Prop := fun (i, _) => 0 ≤ i ∧ i ≤ s.size ∧ s.size ≤ most ∧ ((bs s).drop i.toNat).all (byteP wordB) = wordS s
def μ_impl_isWord_4 (s : ByteArray) (most : Int) : Int × Unit → Nat := fun (i, _) => s.size - i.toNat
def ann_impl_isWord : con_impl_isWord.α → Nat → Option (Ann UU) := fun (s, most) => annL [(4, annOf [.slot 5 (5, 1024) (.lit (.int .i64))] (fun _ => I_impl_isWord_4 s most) (μ_impl_isWord_4 s most))]
def use_impl_isWord : List (FuncId × Con UU) := [(126, con_impl_isWordByte)]
theorem vc_impl_isWord (s : ByteArray) (most : Int) : goal EE use_impl_isWord Go.Proofs.Try.f120 con_impl_isWord ann_impl_isWord (s, most) = (bif decide ((↑(ByteArray.size s) : Int) > most) then Lf [DV.one (Cell.lit (Value.bool false))] [DV.one (Cell.lit (Value.bool (decide ((↑(ByteArray.size s) : Int) ≤ most) && wordS s)))] else I_impl_isWord_4 s most ((0 : Int), PUnit.unit) ∧ ∀ (y : Int × PUnit), I_impl_isWord_4 s most y → bif decide (y.1 < (↑(ByteArray.size s) : Int)) then (0 : Int) ≤ y.1 ∧ Int.toNat y.1 < ByteArray.size s ∧ bif !wordB (↑(UInt8.toNat (List.getD s.data.toList (Int.toNat y.1) (0 : UInt8))) : Int) then Lf [DV.one (Cell.lit (Value.bool false))] [DV.one (Cell.lit (Value.bool (decide ((↑(ByteArray.size s) : Int) ≤ most) && wordS s)))] else I_impl_isWord_4 s most (IntKind.wrap IntKind.i64 (y.1 + (1 : Int)), PUnit.unit) ∧ μ_impl_isWord_4 s most (IntKind.wrap IntKind.i64 (y.1 + (1 : Int)), PUnit.unit) < μ_impl_isWord_4 s most y else Lf [DV.one (Cell.lit (Value.bool true))] [DV.one (Cell.lit (Value.bool (decide ((↑(ByteArray.size s) : Int) ≤ most) && wordS s)))]) := by kernel_rfl
theorem ok_impl_isWord : Holds EE (120, con_impl_isWord) := by
  refine holds_of EE_ok Go.Proofs.Try.func120 con_impl_isWord (by kernel_rfl) use_impl_isWord (all_cons ok_impl_isWordByte all_nil) ann_impl_isWord (fun x hp hb => ?_)
  obtain ⟨s, most⟩ := x
  have hb_s : BdDV (U := UU) (.one (.lit (.string s))) := hb _ (List.mem_cons_self)
  have hl_s : s.size ≤ 9223372036854775807 := Bd.str hb_s
  have hb_most : BdDV (U := UU) (.one (.lit (.int .i64 most))) := hb _ (List.mem_cons_of_mem _ (List.mem_cons_self))
  have hl_most := Bd.i64 hb_most
  clear hp hb
  rw [vc_impl_isWord s most]
  refine if_cond (fun h => Lf_ff ?_) (fun h => ?_)
  · have h := of_decide_eq_true h; rw [decide_eq_false (by omega)]; rfl
  have h0 := of_decide_eq_false h
  refine ⟨⟨by omega, by omega, by omega, rfl⟩, ?_⟩
  rintro ⟨i, ⟨⟩⟩ ⟨h1, h2, h3, hR⟩
  have hl := bs_len s
  simp only [bs_eq]
  refine if_cond (fun hc => ?_) (fun hc => ?_)
  · have hc := of_decide_eq_true hc
    rw [all_step _ _ 0 h1 (by omega)] at hR
    rw [wrap_i64 (by omega) (by omega)]
    refine ⟨by omega, by omega, if_cond (fun h => Lf_ff ?_) (fun h => ⟨⟨by omega, by omega, by omega, ?_⟩, ?_⟩)⟩
    · rw [← hR]; simp only [byteP]; simp at h; simp [h]
    · rw [← hR]; simp only [byteP]; simp at h; simp [h]
    · simp only [μ_impl_isWord_4]; omega
  · have hc := of_decide_eq_false hc
    rw [drop_end _ (by omega)] at hR
    exact Lf_tt (by rw [← hR, decide_eq_true h3]; rfl)
def con_impl_NameOk : Con UU where
  α := ByteArray
  md := [.ro]
  of := fun | [.one (.lit (.string a0))] => some a0 | _ => none
  ds := fun s => [.one (.lit (.string s))]
  pre := fun s => []
  res := fun s => ⟨[.one (.lit (.bool (nameOk s)))], true, []⟩
  law := by intro l x h; (try simp only at h); split at h <;> cases h; rfl
def ann_impl_NameOk : con_impl_NameOk.α → Nat → Option (Ann UU) := fun s => annL []
def use_impl_NameOk : List (FuncId × Con UU) := [(121, con_impl_isSmall), (120, con_impl_isWord)]
theorem vc_impl_NameOk (s : ByteArray) : goal EE use_impl_NameOk Go.Proofs.Try.f106 con_impl_NameOk ann_impl_NameOk s = (bif decide ((↑(ByteArray.size s) : Int) > (0 : Int)) then (0 : Int) ≤ (0 : Int) ∧ Int.toNat (0 : Int) < ByteArray.size s ∧ bif smallB (↑(UInt8.toNat (List.getD s.data.toList (Int.toNat (0 : Int)) (0 : UInt8))) : Int) then Lf [DV.one (Cell.lit (Value.bool (decide ((↑(ByteArray.size s) : Int) ≤ (12 : Int)) && wordS s)))] [DV.one (Cell.lit (Value.bool (nameOk s)))] else Lf [DV.one (Cell.lit (Value.bool false))] [DV.one (Cell.lit (Value.bool (nameOk s)))] else Lf [DV.one (Cell.lit (Value.bool false))] [DV.one (Cell.lit (Value.bool (nameOk s)))]) := by kernel_rfl
theorem ok_impl_NameOk : Holds EE (106, con_impl_NameOk) := by
  refine holds_of EE_ok Go.Proofs.Try.func106 con_impl_NameOk (by kernel_rfl) use_impl_NameOk (all_cons ok_impl_isSmall (all_cons ok_impl_isWord all_nil)) ann_impl_NameOk (fun (s : ByteArray) hp hb => ?_)
  have hb_s : BdDV (U := UU) (.one (.lit (.string s))) := hb _ (List.mem_cons_self)
  have hl_s : s.size ≤ 9223372036854775807 := Bd.str hb_s
  clear hp hb
  rw [vc_impl_NameOk s]
  have hl := bs_len s
  simp only [bs_eq]
  refine if_cond (fun h => ?_) (fun h => Lf_ff ?_)
  · have h := of_decide_eq_true h
    refine ⟨by omega, by omega, if_cond (fun h' => Lf_b ?_) (fun h' => Lf_ff ?_)⟩
    · have h' : smallB ((List.getD (bs s) 0 0).toNat : Int) = true := h'
      simp only [nameOk, h']
      have e : decide (1 ≤ s.size ∧ s.size ≤ 12) = decide ((s.size : Int) ≤ 12) := by rw [decide_eq_decide]; omega
      rw [e]; simp
    · have h' : smallB ((List.getD (bs s) 0 0).toNat : Int) = false := h'
      simp only [nameOk, h']; grind
  · have h := of_decide_eq_false h
    simp only [nameOk]; rw [decide_eq_false (by omega)]; rfl
def con_spec_NameOk : Con UU where
  α := ByteArray
  md := [.ro]
  of := fun | [.one (.lit (.string a0))] => some a0 | _ => none
  ds := fun s => [.one (.lit (.string s))]
  pre := fun s => []
  res := fun s => ⟨[.one (.lit (.bool (nameOk s)))], true, []⟩
  law := by intro l x h; (try simp only at h); split at h <;> cases h; rfl
def I_spec_NameOk_2 (s : ByteArray) : Int × Unit → Prop := fun (i, _) => 0 ≤ i ∧ i ≤ s.size ∧ ((bs s).drop i.toNat).all (byteP wordB) = wordS s ∧ (0 < i → smallB (List.getD (bs s) 0 0).toNat = true)
def μ_spec_NameOk_2 (s : ByteArray) : Int × Unit → Nat := fun (i, _) => s.size - i.toNat
def ann_spec_NameOk : con_spec_NameOk.α → Nat → Option (Ann UU) := fun s => annL [(2, annOf [.slot 3 (3, 1024) (.lit (.int .i64))] (fun _ => I_spec_NameOk_2 s) (μ_spec_NameOk_2 s))]
def use_spec_NameOk : List (FuncId × Con UU) := [(103, con_spec_l1Letter), (61, con_spec_l1In)]
theorem vc_spec_NameOk (s : ByteArray) : goal EE use_spec_NameOk Go.Proofs.Try.f59 con_spec_NameOk ann_spec_NameOk s = (I_spec_NameOk_2 s ((0 : Int), PUnit.unit) ∧
  ∀ (y : Int × PUnit),
    let x0 : Int := (↑(UInt8.toNat (List.getD s.data.toList (Int.toNat y.1) (0 : UInt8))) : Int);
    I_spec_NameOk_2 s y → bif decide (y.1 < (↑(ByteArray.size s) : Int)) then (0 : Int) ≤ y.1 ∧ Int.toNat y.1 < ByteArray.size s ∧ ((0 : Int) ≤ x0 ∧ x0 ≤ (255 : Int)) ∧ bif !wordB x0 then Lf [DV.one (Cell.lit (Value.bool false))] [DV.one (Cell.lit (Value.bool (nameOk s)))] else bif y.1 == (0 : Int) then (0 : Int) ≤ y.1 ∧ Int.toNat y.1 < ByteArray.size s ∧ bif !decide ((97 : Int) ≤ IntKind.wrap IntKind.i64 x0 ∧ IntKind.wrap IntKind.i64 x0 ≤ (122 : Int)) then Lf [DV.one (Cell.lit (Value.bool false))] [DV.one (Cell.lit (Value.bool (nameOk s)))] else I_spec_NameOk_2 s (IntKind.wrap IntKind.i64 (y.1 + (1 : Int)), PUnit.unit) ∧ μ_spec_NameOk_2 s (IntKind.wrap IntKind.i64 (y.1 + (1 : Int)), PUnit.unit) < μ_spec_NameOk_2 s y else I_spec_NameOk_2 s (IntKind.wrap IntKind.i64 (y.1 + (1 : Int)), PUnit.unit) ∧ μ_spec_NameOk_2 s (IntKind.wrap IntKind.i64 (y.1 + (1 : Int)), PUnit.unit) < μ_spec_NameOk_2 s y else Lf [DV.one (Cell.lit (Value.bool (decide ((1 : Int) ≤ (↑(ByteArray.size s) : Int) ∧ (↑(ByteArray.size s) : Int) ≤ (12 : Int)))))] [DV.one (Cell.lit (Value.bool (nameOk s)))]) := by kernel_rfl
theorem ok_spec_NameOk : Holds EE (59, con_spec_NameOk) := by
  refine holds_of EE_ok Go.Proofs.Try.func59 con_spec_NameOk (by kernel_rfl) use_spec_NameOk (all_cons ok_spec_l1Letter (all_cons ok_spec_l1In all_nil)) ann_spec_NameOk (fun (s : ByteArray) hp hb => ?_)
  have hb_s : BdDV (U := UU) (.one (.lit (.string s))) := hb _ (List.mem_cons_self)
  have hl_s : s.size ≤ 9223372036854775807 := Bd.str hb_s
  clear hp hb
  rw [vc_spec_NameOk s]
  dsimp only
  refine ⟨⟨by omega, by omega, rfl, by omega⟩, ?_⟩
  rintro ⟨i, ⟨⟩⟩ ⟨h1, h2, hR, hS⟩
  have hl := bs_len s
  simp only [bs_eq, u8_i64]
  refine if_cond (fun hc => ?_) (fun hc => ?_)
  · have hc := of_decide_eq_true hc
    have hb := (List.getD (bs s) i.toNat 0).toNat_lt
    rw [all_step _ _ 0 h1 (by omega)] at hR
    rw [wrap_i64 (by omega) (by omega)]
    have hN : wordS s = false → nameOk s = false := fun h => by simp [nameOk, h]
    refine ⟨by omega, by omega, ⟨by omega, by omega⟩, if_cond (fun h => Lf_ff (hN ?_)) (fun h => if_cond (fun h' => ⟨by omega, by omega, if_cond (fun h'' => Lf_ff ?_) (fun h'' => ⟨⟨by omega, by omega, ?_, fun _ => ?_⟩, ?_⟩)⟩) (fun h' => ⟨⟨by omega, by omega, ?_, fun _ => hS ?_⟩, ?_⟩))⟩
    · rw [← hR]; simp only [byteP]; simp at h; simp [h]
    · have h' : i = 0 := by simpa using h'
      subst h'
      have h'' : smallB ((List.getD (bs s) 0 0).toNat : Int) = false := by simp only [smallB]; grind
      simp only [nameOk, h'']; grind
    · rw [← hR]; simp only [byteP]; simp at h; simp [h]
    · have h' : i = 0 := by simpa using h'
      subst h'
      simpa [smallB] using h''
    · simp only [μ_spec_NameOk_2]; omega
    · rw [← hR]; simp only [byteP]; simp at h; simp [h]
    · have h' : ¬ i = 0 := by simpa using h'
      omega
    · simp only [μ_spec_NameOk_2]; omega
  · have hc := of_decide_eq_false hc
    rw [drop_end _ (by omega)] at hR
    refine Lf_b ?_
    simp only [nameOk, ← hR]
    by_cases hz : 0 < i
    · rw [hS hz]; simp only [List.all_nil]; grind
    · rw [decide_eq_false (by omega), decide_eq_false (by omega)]; rfl
def con_spec_l2Plain : Con UU where
  α := ByteArray
  md := [.ro]
  of := fun | [.one (.lit (.string a0))] => some a0 | _ => none
  ds := fun s => [.one (.lit (.string s))]
  pre := fun s => []
  res := fun s => ⟨[.one (.lit (.bool (decide (s.size ≤ 20) && wordS s)))], true, []⟩
  law := by intro l x h; (try simp only at h); split at h <;> cases h; rfl
def I_spec_l2Plain_2 (s : ByteArray) : Int × Unit → Prop := fun (i, _) => 0 ≤ i ∧ i ≤ s.size ∧ ((bs s).drop i.toNat).all (byteP wordB) = wordS s
def μ_spec_l2Plain_2 (s : ByteArray) : Int × Unit → Nat := fun (i, _) => s.size - i.toNat
def ann_spec_l2Plain : con_spec_l2Plain.α → Nat → Option (Ann UU) := fun s => annL [(2, annOf [.slot 3 (3, 1024) (.lit (.int .i64))] (fun _ => I_spec_l2Plain_2 s) (μ_spec_l2Plain_2 s))]
def use_spec_l2Plain : List (FuncId × Con UU) := [(103, con_spec_l1Letter)]
theorem vc_spec_l2Plain (s : ByteArray) : goal EE use_spec_l2Plain Go.Proofs.Try.f105 con_spec_l2Plain ann_spec_l2Plain s = (I_spec_l2Plain_2 s ((0 : Int), PUnit.unit) ∧
  ∀ (y : Int × PUnit),
    let x0 : Int := (↑(UInt8.toNat (List.getD s.data.toList (Int.toNat y.1) (0 : UInt8))) : Int);
    I_spec_l2Plain_2 s y → bif decide (y.1 < (↑(ByteArray.size s) : Int)) then (0 : Int) ≤ y.1 ∧ Int.toNat y.1 < ByteArray.size s ∧ ((0 : Int) ≤ x0 ∧ x0 ≤ (255 : Int)) ∧ bif !wordB x0 then Lf [DV.one (Cell.lit (Value.bool false))] [DV.one (Cell.lit (Value.bool (decide (ByteArray.size s ≤ (20 : Nat)) && wordS s)))] else I_spec_l2Plain_2 s (IntKind.wrap IntKind.i64 (y.1 + (1 : Int)), PUnit.unit) ∧ μ_spec_l2Plain_2 s (IntKind.wrap IntKind.i64 (y.1 + (1 : Int)), PUnit.unit) < μ_spec_l2Plain_2 s y else Lf [DV.one (Cell.lit (Value.bool (decide ((↑(ByteArray.size s) : Int) ≤ (20 : Int)))))] [DV.one (Cell.lit (Value.bool (decide (ByteArray.size s ≤ (20 : Nat)) && wordS s)))]) := by kernel_rfl
theorem ok_spec_l2Plain : Holds EE (105, con_spec_l2Plain) := by
  refine holds_of EE_ok Go.Proofs.Try.func105 con_spec_l2Plain (by kernel_rfl) use_spec_l2Plain (all_cons ok_spec_l1Letter all_nil) ann_spec_l2Plain (fun (s : ByteArray) hp hb => ?_)
  have hb_s : BdDV (U := UU) (.one (.lit (.string s))) := hb _ (List.mem_cons_self)
  have hl_s : s.size ≤ 9223372036854775807 := Bd.str hb_s
  clear hp hb
  rw [vc_spec_l2Plain s]
  dsimp only
  refine ⟨⟨by omega, by omega, rfl⟩, ?_⟩
  rintro ⟨i, ⟨⟩⟩ ⟨h1, h2, hR⟩
  have hl := bs_len s
  simp only [bs_eq]
  refine if_cond (fun hc => ?_) (fun hc => ?_)
  · have hc := of_decide_eq_true hc
    have hb := (List.getD (bs s) i.toNat 0).toNat_lt
    rw [all_step _ _ 0 h1 (by omega)] at hR
    rw [wrap_i64 (by omega) (by omega)]
    refine ⟨by omega, by omega, ⟨by omega, by omega⟩, if_cond (fun h => Lf_ff ?_) (fun h => ⟨⟨by omega, by omega, ?_⟩, ?_⟩)⟩
    · rw [← hR]; simp only [byteP]; simp at h; simp [h]
    · rw [← hR]; simp only [byteP]; simp at h; simp [h]
    · simp only [μ_spec_l2Plain_2]; omega
  · have hc := of_decide_eq_false hc
    rw [drop_end _ (by omega)] at hR
    refine Lf_b ?_
    rw [← hR]; simp; omega
def con_impl_ValOk : Con UU where
  α := DVal
  md := [.ro]
  of := fun | [.agg [.lit (.int .i64 a0), .lit (.int .i64 a1), .lit (.string a2)]] => some ⟨a0, a1, a2⟩ | _ => none
  ds := fun v => [.agg [.lit (.int .i64 v.K), .lit (.int .i64 v.N), .lit (.string v.S)]]
  pre := fun v => []
  res := fun v => ⟨[.one (.lit (.bool (valOk v)))], true, []⟩
  law := by intro l x h; (try simp only at h); split at h <;> cases h; rfl
def ann_impl_ValOk : con_impl_ValOk.α → Nat → Option (Ann UU) := fun v => annL []
def use_impl_ValOk : List (FuncId × Con UU) := [(97, con_impl_inRange), (120, con_impl_isWord)]
theorem vc_impl_ValOk (v : DVal) : goal EE use_impl_ValOk Go.Proofs.Try.f99 con_impl_ValOk ann_impl_ValOk v = (bif v.K == (1 : Int) then bif decide ((-1000000000 : Int) ≤ v.N ∧ v.N ≤ (1000000000 : Int)) then Lf [DV.one (Cell.lit (Value.bool (ByteArray.toList v.S == ByteArray.toList { data := #[] : ByteArray })))] [DV.one (Cell.lit (Value.bool (valOk v)))] else Lf [DV.one (Cell.lit (Value.bool false))] [DV.one (Cell.lit (Value.bool (valOk v)))] else bif v.K == (2 : Int) then bif v.N == (0 : Int) then Lf [DV.one (Cell.lit (Value.bool (decide ((↑(ByteArray.size v.S) : Int) ≤ (20 : Int)) && wordS v.S)))] [DV.one (Cell.lit (Value.bool (valOk v)))] else Lf [DV.one (Cell.lit (Value.bool false))] [DV.one (Cell.lit (Value.bool (valOk v)))] else Lf [DV.one (Cell.lit (Value.bool false))] [DV.one (Cell.lit (Value.bool (valOk v)))]) := by kernel_rfl
theorem ok_impl_ValOk : Holds EE (99, con_impl_ValOk) := by
  refine holds_of EE_ok Go.Proofs.Try.func99 con_impl_ValOk (by kernel_rfl) use_impl_ValOk (all_cons ok_impl_inRange (all_cons ok_impl_isWord all_nil)) ann_impl_ValOk (fun (v : DVal) hp hb => ?_)
  have hb_v : BdDV (U := UU) (.agg [.lit (.int .i64 v.K), .lit (.int .i64 v.N), .lit (.string v.S)]) := hb _ (List.mem_cons_self)
  have hl_v_S : v.S.size ≤ 9223372036854775807 := Bd.str (hb_v _ (by simp))
  clear hp hb
  rw [vc_impl_ValOk v]
  have e : (ByteArray.toList (DVal.S v) == ByteArray.toList { data := #[] }) = decide (v.S = noBytes) := toList_beq _ _
  simp only [e, valOk]
  repeat' (refine if_cond (fun h => ?_) (fun h => ?_))
  all_goals (refine Lf_b ?_; grind)
def con_spec_ValOk : Con UU where
  α := DVal
  md := [.ro]
  of := fun | [.agg [.lit (.int .i64 a0), .lit (.int .i64 a1), .lit (.string a2)]] => some ⟨a0, a1, a2⟩ | _ => none
  ds := fun v => [.agg [.lit (.int .i64 v.K), .lit (.int .i64 v.N), .lit (.string v.S)]]
  pre := fun v => []
  res := fun v => ⟨[.one (.lit (.bool (valOk v)))], true, []⟩
  law := by intro l x h; (try simp only at h); split at h <;> cases h; rfl
def ann_spec_ValOk : con_spec_ValOk.α → Nat → Option (Ann UU) := fun v => annL []
def use_spec_ValOk : List (FuncId × Con UU) := [(61, con_spec_l1In), (105, con_spec_l2Plain)]
theorem vc_spec_ValOk (v : DVal) : goal EE use_spec_ValOk Go.Proofs.Try.f62 con_spec_ValOk ann_spec_ValOk v = (bif v.K == (1 : Int) then bif decide ((-1000000000 : Int) ≤ v.N ∧ v.N ≤ (1000000000 : Int)) then Lf [DV.one (Cell.lit (Value.bool (ByteArray.toList v.S == ByteArray.toList { data := #[] : ByteArray })))] [DV.one (Cell.lit (Value.bool (valOk v)))] else Lf [DV.one (Cell.lit (Value.bool false))] [DV.one (Cell.lit (Value.bool (valOk v)))] else bif v.K == (2 : Int) then bif decide (ByteArray.size v.S ≤ (20 : Nat)) && wordS v.S then Lf [DV.one (Cell.lit (Value.bool (v.N == (0 : Int))))] [DV.one (Cell.lit (Value.bool (valOk v)))] else Lf [DV.one (Cell.lit (Value.bool false))] [DV.one (Cell.lit (Value.bool (valOk v)))] else Lf [DV.one (Cell.lit (Value.bool false))] [DV.one (Cell.lit (Value.bool (valOk v)))]) := by kernel_rfl
theorem ok_spec_ValOk : Holds EE (62, con_spec_ValOk) := by
  refine holds_of EE_ok Go.Proofs.Try.func62 con_spec_ValOk (by kernel_rfl) use_spec_ValOk (all_cons ok_spec_l1In (all_cons ok_spec_l2Plain all_nil)) ann_spec_ValOk (fun (v : DVal) hp hb => ?_)
  have hb_v : BdDV (U := UU) (.agg [.lit (.int .i64 v.K), .lit (.int .i64 v.N), .lit (.string v.S)]) := hb _ (List.mem_cons_self)
  have hl_v_S : v.S.size ≤ 9223372036854775807 := Bd.str (hb_v _ (by simp))
  clear hp hb
  rw [vc_spec_ValOk v]
  have e : (ByteArray.toList (DVal.S v) == ByteArray.toList { data := #[] }) = decide (v.S = noBytes) := toList_beq _ _
  simp only [e, valOk]
  repeat' (refine if_cond (fun h => ?_) (fun h => ?_))
  all_goals (refine Lf_b ?_; grind)
def con_spec_l3Vals : Con UU where
  α := (List DVal)
  md := [.ro]
  of := fun | [.one (.sl .eVal a0)] => some a0 | _ => none
  ds := fun l => [.one (.sl .eVal l)]
  pre := fun l => []
  res := fun l => ⟨[.one (.lit (.bool (decide (l.length ≤ 5) && l.all valOk)))], true, []⟩
  law := by intro l x h; (try simp only at h); split at h <;> cases h; rfl
def I_spec_l3Vals_2 (l : (List DVal)) : Int × Unit → Prop := fun (i, _) => 0 ≤ i ∧ i ≤ l.length ∧ (l.drop i.toNat).all valOk = l.all valOk
def μ_spec_l3Vals_2 (l : (List DVal)) : Int × Unit → Nat := fun (i, _) => l.length - i.toNat
def ann_spec_l3Vals : con_spec_l3Vals.α → Nat → Option (Ann UU) := fun l => annL [(2, annOf [.slot 3 (3, 1024) (.lit (.int .i64))] (fun _ => I_spec_l3Vals_2 l) (μ_spec_l3Vals_2 l))]
def use_spec_l3Vals : List (FuncId × Con UU) := [(62, con_spec_ValOk)]
theorem vc_spec_l3Vals (l : (List DVal)) : goal EE use_spec_l3Vals Go.Proofs.Try.f104 con_spec_l3Vals ann_spec_l3Vals l = (let x0 : Int := (↑(List.length l) : Int);
I_spec_l3Vals_2 l ((0 : Int), PUnit.unit) ∧ ∀ (y : Int × PUnit), I_spec_l3Vals_2 l y → bif decide (y.1 < x0) then (0 : Int) ≤ y.1 ∧ Int.toNat y.1 < List.length l ∧ bif !valOk (List.getD l (Int.toNat y.1) zVal) then Lf [DV.one (Cell.lit (Value.bool false))] [DV.one (Cell.lit (Value.bool (decide (List.length l ≤ (5 : Nat)) && List.all l valOk)))] else I_spec_l3Vals_2 l (IntKind.wrap IntKind.i64 (y.1 + (1 : Int)), PUnit.unit) ∧ μ_spec_l3Vals_2 l (IntKind.wrap IntKind.i64 (y.1 + (1 : Int)), PUnit.unit) < μ_spec_l3Vals_2 l y else Lf [DV.one (Cell.lit (Value.bool (decide (x0 ≤ (5 : Int)))))] [DV.one (Cell.lit (Value.bool (decide (List.length l ≤ (5 : Nat)) && List.all l valOk)))]) := by kernel_rfl
theorem ok_spec_l3Vals : Holds EE (104, con_spec_l3Vals) := by
  refine holds_of EE_ok Go.Proofs.Try.func104 con_spec_l3Vals (by kernel_rfl) use_spec_l3Vals (all_cons ok_spec_ValOk all_nil) ann_spec_l3Vals (fun (l : (List DVal)) hp hb => ?_)
  have hb_l : BdDV (U := UU) (.one (.sl .eVal l)) := hb _ (List.mem_cons_self)
  have hl_l : l.length ≤ 9223372036854775807 := Bd.len hb_l
  clear hp hb
  rw [vc_spec_l3Vals l]
  dsimp only
  refine ⟨⟨by omega, by omega, rfl⟩, ?_⟩
  rintro ⟨i, ⟨⟩⟩ ⟨h1, h2, hR⟩
  simp only
  refine if_cond (fun hc => ?_) (fun hc => ?_)
  · have hc := of_decide_eq_true hc
    rw [all_step _ _ zVal h1 (by omega)] at hR
    rw [wrap_i64 (by omega) (by omega)]
    refine ⟨by omega, by omega, if_cond (fun h => Lf_ff ?_) (fun h => ⟨⟨by omega, by omega, ?_⟩, ?_⟩)⟩
    · rw [← hR]; simp at h; simp [h]
    · rw [← hR]; simp at h; simp [h]
    · simp only [μ_spec_l3Vals_2]; omega
  · have hc := of_decide_eq_false hc
    rw [drop_end _ (by omega)] at hR
    refine Lf_b ?_
    rw [← hR]; simp; omega
def con_spec_FactOk : Con UU where
  α := DFact
  md := [.ro]
  of := fun | [.agg [.lit (.string a0), .sl .eVal a1]] => some ⟨a0, a1⟩ | _ => none
  ds := fun f => [.agg [.lit (.string f.Kind), .sl .eVal f.Fields]]
  pre := fun f => []
  res := fun f => ⟨[.one (.lit (.bool (factOk f)))], true, []⟩
  law := by intro l x h; (try simp only at h); split at h <;> cases h; rfl
def ann_spec_FactOk : con_spec_FactOk.α → Nat → Option (Ann UU) := fun f => annL []
def use_spec_FactOk : List (FuncId × Con UU) := [(59, con_spec_NameOk), (104, con_spec_l3Vals)]
theorem vc_spec_FactOk (f : DFact) : goal EE use_spec_FactOk Go.Proofs.Try.f60 con_spec_FactOk ann_spec_FactOk f = (bif nameOk f.Kind then Lf [DV.one (Cell.lit (Value.bool (decide (List.length f.Fields ≤ (5 : Nat)) && List.all f.Fields valOk)))] [DV.one (Cell.lit (Value.bool (factOk f)))] else Lf [DV.one (Cell.lit (Value.bool false))] [DV.one (Cell.lit (Value.bool (factOk f)))]) := by kernel_rfl
theorem ok_spec_FactOk : Holds EE (60, con_spec_FactOk) := by
  refine holds_of EE_ok Go.Proofs.Try.func60 con_spec_FactOk (by kernel_rfl) use_spec_FactOk (all_cons ok_spec_NameOk (all_cons ok_spec_l3Vals all_nil)) ann_spec_FactOk (fun (f : DFact) hp hb => ?_)
  have hb_f : BdDV (U := UU) (.agg [.lit (.string f.Kind), .sl .eVal f.Fields]) := hb _ (List.mem_cons_self)
  have hl_f_Kind : f.Kind.size ≤ 9223372036854775807 := Bd.str (hb_f _ (by simp))
  have hl_f_Fields : f.Fields.length ≤ 9223372036854775807 := Bd.len (U := UU) (τ := .eVal) (xs := f.Fields) (hb_f _ (by simp))
  clear hp hb
  rw [vc_spec_FactOk f]
  simp only [factOk]
  refine if_cond (fun h => Lf_b ?_) (fun h => Lf_b ?_) <;> grind
def con_impl_FactOk : Con UU where
  α := DFact
  md := [.ro]
  of := fun | [.agg [.lit (.string a0), .sl .eVal a1]] => some ⟨a0, a1⟩ | _ => none
  ds := fun f => [.agg [.lit (.string f.Kind), .sl .eVal f.Fields]]
  pre := fun f => []
  res := fun f => ⟨[.one (.lit (.bool (factOk f)))], true, []⟩
  law := by intro l x h; (try simp only at h); split at h <;> cases h; rfl
def I_impl_FactOk_4 (f : DFact) : Int × Unit → Prop := fun (i, _) => 0 ≤ i ∧ i ≤ f.Fields.length ∧ f.Fields.length ≤ 5 ∧ nameOk f.Kind = true ∧ (f.Fields.drop i.toNat).all valOk = f.Fields.all valOk
def μ_impl_FactOk_4 (f : DFact) : Int × Unit → Nat := fun (i, _) => f.Fields.length - i.toNat
def ann_impl_FactOk : con_impl_FactOk.α → Nat → Option (Ann UU) := fun f => annL [(4, annOf [.slot 18 (18, 1024) (.lit (.int .i64))] (fun _ => I_impl_FactOk_4 f) (μ_impl_FactOk_4 f))]
def use_impl_FactOk : List (FuncId × Con UU) := [(106, con_impl_NameOk), (99, con_impl_ValOk)]
theorem vc_impl_FactOk (f : DFact) : goal EE use_impl_FactOk Go.Proofs.Try.f98 con_impl_FactOk ann_impl_FactOk f = (let x0 : Int := (↑(List.length f.Fields) : Int);
bif !nameOk f.Kind then Lf [DV.one (Cell.lit (Value.bool false))] [DV.one (Cell.lit (Value.bool (factOk f)))] else bif decide (x0 > (5 : Int)) then Lf [DV.one (Cell.lit (Value.bool false))] [DV.one (Cell.lit (Value.bool (factOk f)))] else I_impl_FactOk_4 f ((0 : Int), PUnit.unit) ∧ ∀ (y : Int × PUnit), I_impl_FactOk_4 f y → bif decide (y.1 < x0) then (0 : Int) ≤ y.1 ∧ Int.toNat y.1 < List.length f.Fields ∧ bif !valOk (List.getD f.Fields (Int.toNat y.1) zVal) then Lf [DV.one (Cell.lit (Value.bool false))] [DV.one (Cell.lit (Value.bool (factOk f)))] else I_impl_FactOk_4 f (IntKind.wrap IntKind.i64 (y.1 + (1 : Int)), PUnit.unit) ∧ μ_impl_FactOk_4 f (IntKind.wrap IntKind.i64 (y.1 + (1 : Int)), PUnit.unit) < μ_impl_FactOk_4 f y else Lf [DV.one (Cell.lit (Value.bool true))] [DV.one (Cell.lit (Value.bool (factOk f)))]) := by kernel_rfl
theorem ok_impl_FactOk : Holds EE (98, con_impl_FactOk) := by
  refine holds_of EE_ok Go.Proofs.Try.func98 con_impl_FactOk (by kernel_rfl) use_impl_FactOk (all_cons ok_impl_NameOk (all_cons ok_impl_ValOk all_nil)) ann_impl_FactOk (fun (f : DFact) hp hb => ?_)
  have hb_f : BdDV (U := UU) (.agg [.lit (.string f.Kind), .sl .eVal f.Fields]) := hb _ (List.mem_cons_self)
  have hl_f_Kind : f.Kind.size ≤ 9223372036854775807 := Bd.str (hb_f _ (by simp))
  have hl_f_Fields : f.Fields.length ≤ 9223372036854775807 := Bd.len (U := UU) (τ := .eVal) (xs := f.Fields) (hb_f _ (by simp))
  clear hp hb
  rw [vc_impl_FactOk f]
  dsimp only
  refine if_cond (fun h => Lf_b ?_) (fun h => if_cond (fun h' => Lf_b ?_) (fun h' => ⟨⟨by omega, by omega, by simp at h'; omega, by simpa using h, rfl⟩, ?_⟩))
  · simp only [factOk]; grind
  · simp only [factOk]; grind
  rintro ⟨i, ⟨⟩⟩ ⟨h1, h2, h3, h4, hR⟩
  simp only
  refine if_cond (fun hc => ?_) (fun hc => ?_)
  · have hc := of_decide_eq_true hc
    rw [all_step _ _ zVal h1 (by omega)] at hR
    rw [wrap_i64 (by omega) (by omega)]
    refine ⟨by omega, by omega, if_cond (fun h => Lf_ff ?_) (fun h => ⟨⟨by omega, by omega, by omega, h4, ?_⟩, ?_⟩)⟩
    · simp only [factOk]; rw [← hR]; simp at h; simp [h]
    · rw [← hR]; simp at h; simp [h]
    · simp only [μ_impl_FactOk_4]; omega
  · have hc := of_decide_eq_false hc
    rw [drop_end _ (by omega)] at hR
    refine Lf_b ?_
    simp only [factOk, ← hR, h4]; simp; omega
def allI (n : Nat) (p : Nat → Bool) : Bool := (List.range n).all p
theorem allI_true {n : Nat} {p : Nat → Bool} (h : ∀ j, j < n → p j = true) : allI n p = true := by simpa [allI] using h
theorem allI_false {n : Nat} {p : Nat → Bool} {j : Nat} (h : j < n) (hj : p j = false) : allI n p = false := by
  simp only [allI, List.all_eq_false, List.mem_range]
  exact ⟨j, h, by simp [hj]⟩
theorem upto_step {i : Int} {p : Nat → Bool} (h0 : 0 ≤ i) (h : ∀ j : Nat, (j : Int) < i → p j = true) (hi : p i.toNat = true) : ∀ j : Nat, (j : Int) < i + 1 → p j = true := by
  intro j hj
  by_cases hji : (j : Int) < i
  · exact h j hji
  · have : j = i.toNat := by omega
    subst this; exact hi
def timerOk (x : DTimer) : Bool := decide (0 ≤ x.At ∧ x.At ≤ 1000000000) && factOk x.F
def timerAt (l : List DTimer) (i : Nat) : Bool := timerOk (List.getD l i zTimer) && (decide (i = 0) || decide ((List.getD l (i - 1) zTimer).At ≤ (List.getD l i zTimer).At))
def timersOk (l : List DTimer) : Bool := decide (l.length ≤ 30) && allI l.length (timerAt l)
def con_impl_isTime : Con UU where
  α := Int
  md := [.ro]
  of := fun | [.one (.lit (.int .i64 a0))] => some a0 | _ => none
  ds := fun n => [.one (.lit (.int .i64 n))]
  pre := fun n => []
  res := fun n => ⟨[.one (.lit (.bool (decide (0 ≤ n ∧ n ≤ 1000000000))))], true, []⟩
  law := by intro l x h; (try simp only at h); split at h <;> cases h; rfl
def ann_impl_isTime : con_impl_isTime.α → Nat → Option (Ann UU) := fun n => annL []
def use_impl_isTime : List (FuncId × Con UU) := [(97, con_impl_inRange)]
theorem vc_impl_isTime (n : Int) : goal EE use_impl_isTime Go.Proofs.Try.f108 con_impl_isTime ann_impl_isTime n = (Lf [DV.one (Cell.lit (Value.bool (decide ((0 : Int) ≤ n ∧ n ≤ (1000000000 : Int)))))] [DV.one (Cell.lit (Value.bool (decide ((0 : Int) ≤ n ∧ n ≤ (1000000000 : Int)))))]) := by kernel_rfl
theorem ok_impl_isTime : Holds EE (108, con_impl_isTime) := by
  refine holds_of EE_ok Go.Proofs.Try.func108 con_impl_isTime (by kernel_rfl) use_impl_isTime (all_cons ok_impl_inRange all_nil) ann_impl_isTime (fun (n : Int) hp hb => ?_)
  have hb_n : BdDV (U := UU) (.one (.lit (.int .i64 n))) := hb _ (List.mem_cons_self)
  have hl_n := Bd.i64 hb_n
  clear hp hb
  rw [vc_impl_isTime n]
  exact Lf_rfl _
def con_impl_timerOk : Con UU where
  α := DTimer
  md := [.ro]
  of := fun | [.agg [.lit (.int .i64 a0), .lit (.string a1), .sl .eVal a2]] => some ⟨a0, ⟨a1, a2⟩⟩ | _ => none
  ds := fun x => [.agg [.lit (.int .i64 x.At), .lit (.string x.F.Kind), .sl .eVal x.F.Fields]]
  pre := fun x => []
  res := fun x => ⟨[.one (.lit (.bool (timerOk x)))], true, []⟩
  law := by intro l x h; (try simp only at h); split at h <;> cases h; rfl
def ann_impl_timerOk : con_impl_timerOk.α → Nat → Option (Ann UU) := fun x => annL []
def use_impl_timerOk : List (FuncId × Con UU) := [(108, con_impl_isTime), (98, con_impl_FactOk)]
theorem vc_impl_timerOk (x : DTimer) : goal EE use_impl_timerOk Go.Proofs.Try.f73 con_impl_timerOk ann_impl_timerOk x = (bif decide ((0 : Int) ≤ x.At ∧ x.At ≤ (1000000000 : Int)) then Lf [DV.one (Cell.lit (Value.bool (factOk x.F)))] [DV.one (Cell.lit (Value.bool (timerOk x)))] else Lf [DV.one (Cell.lit (Value.bool false))] [DV.one (Cell.lit (Value.bool (timerOk x)))]) := by kernel_rfl
theorem ok_impl_timerOk : Holds EE (73, con_impl_timerOk) := by
  refine holds_of EE_ok Go.Proofs.Try.func73 con_impl_timerOk (by kernel_rfl) use_impl_timerOk (all_cons ok_impl_isTime (all_cons ok_impl_FactOk all_nil)) ann_impl_timerOk (fun (x : DTimer) hp hb => ?_)
  have hb_x : BdDV (U := UU) (.agg [.lit (.int .i64 x.At), .lit (.string x.F.Kind), .sl .eVal x.F.Fields]) := hb _ (List.mem_cons_self)
  have hl_x_F_Kind : x.F.Kind.size ≤ 9223372036854775807 := Bd.str (hb_x _ (by simp))
  have hl_x_F_Fields : x.F.Fields.length ≤ 9223372036854775807 := Bd.len (U := UU) (τ := .eVal) (xs := x.F.Fields) (hb_x _ (by simp))
  clear hp hb
  rw [vc_impl_timerOk x]
  simp only [timerOk]
  refine if_cond (fun h => Lf_b ?_) (fun h => Lf_b ?_) <;> grind
def con_spec_l17Timer : Con UU where
  α := DTimer
  md := [.ro]
  of := fun | [.agg [.lit (.int .i64 a0), .lit (.string a1), .sl .eVal a2]] => some ⟨a0, ⟨a1, a2⟩⟩ | _ => none
  ds := fun x => [.agg [.lit (.int .i64 x.At), .lit (.string x.F.Kind), .sl .eVal x.F.Fields]]
  pre := fun x => []
  res := fun x => ⟨[.one (.lit (.bool (timerOk x)))], true, []⟩
  law := by intro l x h; (try simp only at h); split at h <;> cases h; rfl
def ann_spec_l17Timer : con_spec_l17Timer.α → Nat → Option (Ann UU) := fun x => annL []
def use_spec_l17Timer : List (FuncId × Con UU) := [(61, con_spec_l1In), (60, con_spec_FactOk)]
theorem vc_spec_l17Timer (x : DTimer) : goal EE use_spec_l17Timer Go.Proofs.Try.f70 con_spec_l17Timer ann_spec_l17Timer x = (bif decide ((0 : Int) ≤ x.At ∧ x.At ≤ (1000000000 : Int)) then Lf [DV.one (Cell.lit (Value.bool (factOk x.F)))] [DV.one (Cell.lit (Value.bool (timerOk x)))] else Lf [DV.one (Cell.lit (Value.bool false))] [DV.one (Cell.lit (Value.bool (timerOk x)))]) := by kernel_rfl
theorem ok_spec_l17Timer : Holds EE (70, con_spec_l17Timer) := by
  refine holds_of EE_ok Go.Proofs.Try.func70 con_spec_l17Timer (by kernel_rfl) use_spec_l17Timer (all_cons ok_spec_l1In (all_cons ok_spec_FactOk all_nil)) ann_spec_l17Timer (fun (x : DTimer) hp hb => ?_)
  have hb_x : BdDV (U := UU) (.agg [.lit (.int .i64 x.At), .lit (.string x.F.Kind), .sl .eVal x.F.Fields]) := hb _ (List.mem_cons_self)
  have hl_x_F_Kind : x.F.Kind.size ≤ 9223372036854775807 := Bd.str (hb_x _ (by simp))
  have hl_x_F_Fields : x.F.Fields.length ≤ 9223372036854775807 := Bd.len (U := UU) (τ := .eVal) (xs := x.F.Fields) (hb_x _ (by simp))
  clear hp hb
  rw [vc_spec_l17Timer x]
  simp only [timerOk]
  refine if_cond (fun h => Lf_b ?_) (fun h => Lf_b ?_) <;> grind
def con_impl_TimersOk : Con UU where
  α := (List DTimer)
  md := [.ro]
  of := fun | [.one (.sl .eTimer a0)] => some a0 | _ => none
  ds := fun l => [.one (.sl .eTimer l)]
  pre := fun l => []
  res := fun l => ⟨[.one (.lit (.bool (timersOk l)))], true, []⟩
  law := by intro l x h; (try simp only at h); split at h <;> cases h; rfl
def I_impl_TimersOk_4 (l : (List DTimer)) : Int × Unit → Prop := fun (i, _) => 0 ≤ i ∧ i ≤ l.length ∧ l.length ≤ 30 ∧ ∀ j : Nat, (j : Int) < i → timerAt l j = true
def μ_impl_TimersOk_4 (l : (List DTimer)) : Int × Unit → Nat := fun (i, _) => l.length - i.toNat
def ann_impl_TimersOk : con_impl_TimersOk.α → Nat → Option (Ann UU) := fun l => annL [(4, annOf [.slot 10 (10, 1024) (.lit (.int .i64))] (fun _ => I_impl_TimersOk_4 l) (μ_impl_TimersOk_4 l))]
def use_impl_TimersOk : List (FuncId × Con UU) := [(73, con_impl_timerOk)]
theorem vc_impl_TimersOk (l : (List DTimer)) : goal EE use_impl_TimersOk Go.Proofs.Try.f33 con_impl_TimersOk ann_impl_TimersOk l = (let x0 : Int := (↑(List.length l) : Int);
bif decide (x0 > (30 : Int)) then Lf [DV.one (Cell.lit (Value.bool false))] [DV.one (Cell.lit (Value.bool (timersOk l)))]
else
  I_impl_TimersOk_4 l ((0 : Int), PUnit.unit) ∧
    ∀ (y : Int × PUnit),
      let x1 : Int := (List.getD l (Int.toNat (IntKind.wrap IntKind.i64 (y.1 - (1 : Int)))) zTimer).At;
      I_impl_TimersOk_4 l y → bif decide (y.1 < x0) then (0 : Int) ≤ y.1 ∧ Int.toNat y.1 < List.length l ∧ bif !timerOk (List.getD l (Int.toNat y.1) zTimer) then Lf [DV.one (Cell.lit (Value.bool false))] [DV.one (Cell.lit (Value.bool (timersOk l)))] else bif decide (y.1 > (0 : Int)) then (0 : Int) ≤ IntKind.wrap IntKind.i64 (y.1 - (1 : Int)) ∧ Int.toNat (IntKind.wrap IntKind.i64 (y.1 - (1 : Int))) < List.length l ∧ bif decide (x1 > (List.getD l (Int.toNat y.1) zTimer).At) then Lf [DV.one (Cell.lit (Value.bool false))] [DV.one (Cell.lit (Value.bool (timersOk l)))] else I_impl_TimersOk_4 l (IntKind.wrap IntKind.i64 (y.1 + (1 : Int)), PUnit.unit) ∧ μ_impl_TimersOk_4 l (IntKind.wrap IntKind.i64 (y.1 + (1 : Int)), PUnit.unit) < μ_impl_TimersOk_4 l y else I_impl_TimersOk_4 l (IntKind.wrap IntKind.i64 (y.1 + (1 : Int)), PUnit.unit) ∧ μ_impl_TimersOk_4 l (IntKind.wrap IntKind.i64 (y.1 + (1 : Int)), PUnit.unit) < μ_impl_TimersOk_4 l y else Lf [DV.one (Cell.lit (Value.bool true))] [DV.one (Cell.lit (Value.bool (timersOk l)))]) := by kernel_rfl
theorem ok_impl_TimersOk : Holds EE (33, con_impl_TimersOk) := by
  refine holds_of EE_ok Go.Proofs.Try.func33 con_impl_TimersOk (by kernel_rfl) use_impl_TimersOk (all_cons ok_impl_timerOk all_nil) ann_impl_TimersOk (fun (l : (List DTimer)) hp hb => ?_)
  have hb_l : BdDV (U := UU) (.one (.sl .eTimer l)) := hb _ (List.mem_cons_self)
  have hl_l : l.length ≤ 9223372036854775807 := Bd.len hb_l
  clear hp hb
  rw [vc_impl_TimersOk l]
  dsimp only
  refine if_cond (fun h => Lf_ff ?_) (fun h => ⟨⟨by omega, by omega, by have h := of_decide_eq_false h; omega, by intro j hj; omega⟩, ?_⟩)
  · have h := of_decide_eq_true h; simp only [timersOk]; rw [decide_eq_false (by omega)]; rfl
  rintro ⟨i, ⟨⟩⟩ ⟨h1, h2, h3, hR⟩
  simp only
  refine if_cond (fun hc => ?_) (fun hc => ?_)
  · have hc := of_decide_eq_true hc
    have hN : timerAt l i.toNat = false → timersOk l = false := fun h => by
      have hf : allI l.length (timerAt l) = false := allI_false (j := i.toNat) (by omega) h
      simp only [timersOk, hf]; simp
    simp (disch := omega) only [wrap_i64]
    have e1 : (i - 1).toNat = i.toNat - 1 := by omega
    simp only [e1]
    refine ⟨by omega, by omega, if_cond (fun h => Lf_ff (hN ?_)) (fun h => if_cond (fun h' => ⟨by have := of_decide_eq_true h'; omega, by have := of_decide_eq_true h'; omega, if_cond (fun h'' => Lf_ff (hN ?_)) (fun h'' => ⟨⟨by omega, by omega, h3, upto_step h1 hR ?_⟩, ?_⟩)⟩) (fun h' => ⟨⟨by omega, by omega, h3, upto_step h1 hR ?_⟩, ?_⟩))⟩
    all_goals (first | (simp only [μ_impl_TimersOk_4]; omega) | (simp only [timerAt]; grind))
  · have hc := of_decide_eq_false hc
    have hA : allI l.length (timerAt l) = true := allI_true fun j hj => hR j (by omega)
    refine Lf_b ?_
    simp only [timersOk, hA]; grind
def con_spec_TimersOk : Con UU where
  α := (List DTimer)
  md := [.ro]
  of := fun | [.one (.sl .eTimer a0)] => some a0 | _ => none
  ds := fun l => [.one (.sl .eTimer l)]
  pre := fun l => []
  res := fun l => ⟨[.one (.lit (.bool (timersOk l)))], true, []⟩
  law := by intro l x h; (try simp only at h); split at h <;> cases h; rfl
def I_spec_TimersOk_2 (l : (List DTimer)) : Int × Unit → Prop := fun (i, _) => 0 ≤ i ∧ i ≤ l.length ∧ ∀ j : Nat, (j : Int) < i → timerAt l j = true
def μ_spec_TimersOk_2 (l : (List DTimer)) : Int × Unit → Nat := fun (i, _) => l.length - i.toNat
def ann_spec_TimersOk : con_spec_TimersOk.α → Nat → Option (Ann UU) := fun l => annL [(2, annOf [.slot 3 (3, 1024) (.lit (.int .i64))] (fun _ => I_spec_TimersOk_2 l) (μ_spec_TimersOk_2 l))]
def use_spec_TimersOk : List (FuncId × Con UU) := [(70, con_spec_l17Timer)]
theorem vc_spec_TimersOk (l : (List DTimer)) : goal EE use_spec_TimersOk Go.Proofs.Try.f32 con_spec_TimersOk ann_spec_TimersOk l = (let x0 : Int := (↑(List.length l) : Int);
I_spec_TimersOk_2 l ((0 : Int), PUnit.unit) ∧
  ∀ (y : Int × PUnit),
    let x1 : Int := (List.getD l (Int.toNat (IntKind.wrap IntKind.i64 (y.1 - (1 : Int)))) zTimer).At;
    I_spec_TimersOk_2 l y → bif decide (y.1 < x0) then (0 : Int) ≤ y.1 ∧ Int.toNat y.1 < List.length l ∧ bif !timerOk (List.getD l (Int.toNat y.1) zTimer) then Lf [DV.one (Cell.lit (Value.bool false))] [DV.one (Cell.lit (Value.bool (timersOk l)))] else bif decide (y.1 > (0 : Int)) then (0 : Int) ≤ IntKind.wrap IntKind.i64 (y.1 - (1 : Int)) ∧ Int.toNat (IntKind.wrap IntKind.i64 (y.1 - (1 : Int))) < List.length l ∧ (0 : Int) ≤ y.1 ∧ Int.toNat y.1 < List.length l ∧ bif decide (x1 > (List.getD l (Int.toNat y.1) zTimer).At) then Lf [DV.one (Cell.lit (Value.bool false))] [DV.one (Cell.lit (Value.bool (timersOk l)))] else I_spec_TimersOk_2 l (IntKind.wrap IntKind.i64 (y.1 + (1 : Int)), PUnit.unit) ∧ μ_spec_TimersOk_2 l (IntKind.wrap IntKind.i64 (y.1 + (1 : Int)), PUnit.unit) < μ_spec_TimersOk_2 l y else I_spec_TimersOk_2 l (IntKind.wrap IntKind.i64 (y.1 + (1 : Int)), PUnit.unit) ∧ μ_spec_TimersOk_2 l (IntKind.wrap IntKind.i64 (y.1 + (1 : Int)), PUnit.unit) < μ_spec_TimersOk_2 l y else Lf [DV.one (Cell.lit (Value.bool (decide (x0 ≤ (30 : Int)))))] [DV.one (Cell.lit (Value.bool (timersOk l)))]) := by kernel_rfl
theorem ok_spec_TimersOk : Holds EE (32, con_spec_TimersOk) := by
  refine holds_of EE_ok Go.Proofs.Try.func32 con_spec_TimersOk (by kernel_rfl) use_spec_TimersOk (all_cons ok_spec_l17Timer all_nil) ann_spec_TimersOk (fun (l : (List DTimer)) hp hb => ?_)
  have hb_l : BdDV (U := UU) (.one (.sl .eTimer l)) := hb _ (List.mem_cons_self)
  have hl_l : l.length ≤ 9223372036854775807 := Bd.len hb_l
  clear hp hb
  rw [vc_spec_TimersOk l]
  dsimp only
  refine ⟨⟨by omega, by omega, by intro j hj; omega⟩, ?_⟩
  rintro ⟨i, ⟨⟩⟩ ⟨h1, h2, hR⟩
  simp only
  refine if_cond (fun hc => ?_) (fun hc => ?_)
  · have hc := of_decide_eq_true hc
    have hN : timerAt l i.toNat = false → timersOk l = false := fun h => by
      have hf : allI l.length (timerAt l) = false := allI_false (j := i.toNat) (by omega) h
      simp only [timersOk, hf]; simp
    simp (disch := omega) only [wrap_i64]
    have e1 : (i - 1).toNat = i.toNat - 1 := by omega
    simp only [e1]
    refine ⟨by omega, by omega, if_cond (fun h => Lf_ff (hN ?_)) (fun h => if_cond (fun h' => ⟨by have := of_decide_eq_true h'; omega, by have := of_decide_eq_true h'; omega, by omega, by omega, if_cond (fun h'' => Lf_ff (hN ?_)) (fun h'' => ⟨⟨by omega, by omega, upto_step h1 hR ?_⟩, ?_⟩)⟩) (fun h' => ⟨⟨by omega, by omega, upto_step h1 hR ?_⟩, ?_⟩))⟩
    all_goals (first | (simp only [μ_spec_TimersOk_2]; omega) | (simp only [timerAt]; grind))
  · have hc := of_decide_eq_false hc
    have hA : allI l.length (timerAt l) = true := allI_true fun j hj => hR j (by omega)
    refine Lf_b ?_
    simp only [timersOk, hA]; grind
def con_slices_CloneVal : Con UU where
  α := (List DVal)
  md := [.ro]
  of := fun | [.one (.sl .eVal a0)] => some a0 | _ => none
  ds := fun l => [.one (.sl .eVal l)]
  pre := fun l => [l.length ≤ 4294967296]
  res := fun l => ⟨[.one (.sl .eVal l)], true, []⟩
  law := by intro l x h; (try simp only at h); split at h <;> cases h; rfl
def ann_slices_CloneVal : con_slices_CloneVal.α → Nat → Option (Ann UU) := fun l => annL []
def use_slices_CloneVal : List (FuncId × Con UU) := []
theorem vc_slices_CloneVal (l : (List DVal)) : goalN EE use_slices_CloneVal Go.Proofs.Try.f113 con_slices_CloneVal ann_slices_CloneVal l .eVal l false = ((0 : Nat) + List.length l ≤ (4294967296 : Nat) ∧ Lf [DV.one (Cell.sl Cd.eVal ([] ++ l))] [DV.one (Cell.sl Cd.eVal l)]) := by kernel_rfl
theorem vc2_slices_CloneVal : goalN EE use_slices_CloneVal Go.Proofs.Try.f113 con_slices_CloneVal ann_slices_CloneVal [] .eVal [] true = (Lf [DV.one (Cell.sl Cd.eVal [])] [DV.one (Cell.sl Cd.eVal [])]) := by kernel_rfl
theorem vd2_slices_CloneVal : goalN EE use_slices_CloneVal Go.Proofs.Try.f113 con_slices_CloneVal ann_slices_CloneVal [] .eVal [] true := by
  rw [vc2_slices_CloneVal]
  exact Lf_rfl _
theorem ok_slices_CloneVal : Holds EE (113, con_slices_CloneVal) := by
  refine holds_ofN EE_ok Go.Proofs.Try.func113 con_slices_CloneVal (by kernel_rfl) rfl .eVal (fun x => x) (fun _ => rfl) use_slices_CloneVal all_nil ann_slices_CloneVal (fun (l : (List DVal)) hp hb => ?_)
  have hb_l : BdDV (U := UU) (.one (.sl .eVal l)) := hb _ (List.mem_cons_self)
  have hl_l : l.length ≤ 9223372036854775807 := Bd.len hb_l
  have hp0 : l.length ≤ 4294967296 := hp _ (List.mem_cons_self)
  clear hp hb
  refine ⟨?_, fun h0 => ?_⟩
  rotate_left
  · subst h0; exact vd2_slices_CloneVal
  rw [vc_slices_CloneVal l]
  exact ⟨by simp; omega, Lf_rfl _⟩
def con_spec_l3Copy : Con UU where
  α := DFact
  md := [.ro]
  of := fun | [.agg [.lit (.string a0), .sl .eVal a1]] => some ⟨a0, a1⟩ | _ => none
  ds := fun f => [.agg [.lit (.string f.Kind), .sl .eVal f.Fields]]
  pre := fun f => [f.Fields.length ≤ 4294967296]
  res := fun f => ⟨[.agg [.lit (.string f.Kind), .sl .eVal f.Fields]], true, []⟩
  law := by intro l x h; (try simp only at h); split at h <;> cases h; rfl
def ann_spec_l3Copy : con_spec_l3Copy.α → Nat → Option (Ann UU) := fun f => annL []
def use_spec_l3Copy : List (FuncId × Con UU) := []
theorem vc_spec_l3Copy (f : DFact) : goal EE use_spec_l3Copy Go.Proofs.Try.f71 con_spec_l3Copy ann_spec_l3Copy f = ((0 : Nat) + List.length f.Fields ≤ (4294967296 : Nat) ∧ Lf [DV.agg [Cell.lit (Value.string f.Kind), Cell.sl Cd.eVal ([] ++ f.Fields)]] [DV.agg [Cell.lit (Value.string f.Kind), Cell.sl Cd.eVal f.Fields]]) := by kernel_rfl
theorem ok_spec_l3Copy : Holds EE (71, con_spec_l3Copy) := by
  refine holds_of EE_ok Go.Proofs.Try.func71 con_spec_l3Copy (by kernel_rfl) use_spec_l3Copy all_nil ann_spec_l3Copy (fun (f : DFact) hp hb => ?_)
  have hb_f : BdDV (U := UU) (.agg [.lit (.string f.Kind), .sl .eVal f.Fields]) := hb _ (List.mem_cons_self)
  have hl_f_Kind : f.Kind.size ≤ 9223372036854775807 := Bd.str (hb_f _ (by simp))
  have hl_f_Fields : f.Fields.length ≤ 9223372036854775807 := Bd.len (U := UU) (τ := .eVal) (xs := f.Fields) (hb_f _ (by simp))
  have hp0 : f.Fields.length ≤ 4294967296 := hp _ (List.mem_cons_self)
  clear hp hb
  rw [vc_spec_l3Copy f]
  exact ⟨by simp; omega, Lf_rfl _⟩
def con_impl_copyFact : Con UU where
  α := DFact
  md := [.ro]
  of := fun | [.agg [.lit (.string a0), .sl .eVal a1]] => some ⟨a0, a1⟩ | _ => none
  ds := fun f => [.agg [.lit (.string f.Kind), .sl .eVal f.Fields]]
  pre := fun f => [f.Fields.length ≤ 4294967296]
  res := fun f => ⟨[.agg [.lit (.string f.Kind), .sl .eVal f.Fields]], true, []⟩
  law := by intro l x h; (try simp only at h); split at h <;> cases h; rfl
def ann_impl_copyFact : con_impl_copyFact.α → Nat → Option (Ann UU) := fun f => annL []
def use_impl_copyFact : List (FuncId × Con UU) := [(113, con_slices_CloneVal)]
theorem vc_impl_copyFact (f : DFact) : goal EE use_impl_copyFact Go.Proofs.Try.f75 con_impl_copyFact ann_impl_copyFact f = (List.length f.Fields ≤ (4294967296 : Nat) ∧ Lf [DV.agg [Cell.lit (Value.string f.Kind), Cell.sl Cd.eVal f.Fields]] [DV.agg [Cell.lit (Value.string f.Kind), Cell.sl Cd.eVal f.Fields]]) := by kernel_rfl
theorem ok_impl_copyFact : Holds EE (75, con_impl_copyFact) := by
  refine holds_of EE_ok Go.Proofs.Try.func75 con_impl_copyFact (by kernel_rfl) use_impl_copyFact (all_cons ok_slices_CloneVal all_nil) ann_impl_copyFact (fun (f : DFact) hp hb => ?_)
  have hb_f : BdDV (U := UU) (.agg [.lit (.string f.Kind), .sl .eVal f.Fields]) := hb _ (List.mem_cons_self)
  have hl_f_Kind : f.Kind.size ≤ 9223372036854775807 := Bd.str (hb_f _ (by simp))
  have hl_f_Fields : f.Fields.length ≤ 9223372036854775807 := Bd.len (U := UU) (τ := .eVal) (xs := f.Fields) (hb_f _ (by simp))
  have hp0 : f.Fields.length ≤ 4294967296 := hp _ (List.mem_cons_self)
  clear hp hb
  rw [vc_impl_copyFact f]
  exact ⟨hp0, Lf_rfl _⟩
def con_spec_l17Copy : Con UU where
  α := (List DTimer)
  md := [.ro]
  of := fun | [.one (.sl .eTimer a0)] => some a0 | _ => none
  ds := fun l => [.one (.sl .eTimer l)]
  pre := fun l => [sizeTimerS l ≤ 4294967296]
  res := fun l => ⟨[.one (.sl .eTimer l)], true, []⟩
  law := by intro l x h; (try simp only at h); split at h <;> cases h; rfl
def I_spec_l17Copy_3 (l : (List DTimer)) : List DTimer × Int × Unit → Prop := fun (out, i, _) => 0 ≤ i ∧ i ≤ l.length ∧ out = l.take i.toNat
def μ_spec_l17Copy_3 (l : (List DTimer)) : List DTimer × Int × Unit → Nat := fun (out, i, _) => l.length - i.toNat
def ann_spec_l17Copy : con_spec_l17Copy.α → Nat → Option (Ann UU) := fun l => annL [(3, annOf [.slot 3 (3, 1024) (.own .eTimer true), .slot 4 (4, 1024) (.lit (.int .i64))] (fun _ => I_spec_l17Copy_3 l) (μ_spec_l17Copy_3 l))]
def use_spec_l17Copy : List (FuncId × Con UU) := [(71, con_spec_l3Copy)]
theorem vc_spec_l17Copy (l : (List DTimer)) : goal EE use_spec_l17Copy Go.Proofs.Try.f64 con_spec_l17Copy ann_spec_l17Copy l = (I_spec_l17Copy_3 l ([], (0 : Int), PUnit.unit) ∧
  ∀ (y : List DTimer × Int × PUnit),
    let x0 : List DTimer := [List.getD l (Int.toNat y.2.1) zTimer];
    let x1 : Nat := Int.toNat y.2.1;
    I_spec_l17Copy_3 l y → bif decide (y.2.1 < (↑(List.length l) : Int)) then (0 : Int) ≤ y.2.1 ∧ x1 < List.length l ∧ (0 : Int) ≤ y.2.1 ∧ x1 < List.length l ∧ List.length (List.getD l x1 zTimer).F.Fields ≤ (4294967296 : Nat) ∧ List.length y.1 + List.length x0 ≤ (4294967296 : Nat) ∧ I_spec_l17Copy_3 l (y.1 ++ x0, IntKind.wrap IntKind.i64 (y.2.1 + (1 : Int)), PUnit.unit) ∧ μ_spec_l17Copy_3 l (y.1 ++ x0, IntKind.wrap IntKind.i64 (y.2.1 + (1 : Int)), PUnit.unit) < μ_spec_l17Copy_3 l y else Lf [DV.one (Cell.sl Cd.eTimer y.1)] [DV.one (Cell.sl Cd.eTimer l)]) := by kernel_rfl
theorem ok_spec_l17Copy : Holds EE (64, con_spec_l17Copy) := by
  refine holds_of EE_ok Go.Proofs.Try.func64 con_spec_l17Copy (by kernel_rfl) use_spec_l17Copy (all_cons ok_spec_l3Copy all_nil) ann_spec_l17Copy (fun (l : (List DTimer)) hp hb => ?_)
  have hb_l : BdDV (U := UU) (.one (.sl .eTimer l)) := hb _ (List.mem_cons_self)
  have hl_l : l.length ≤ 9223372036854775807 := Bd.len hb_l
  have hp0 : sizeTimerS l ≤ 4294967296 := hp _ (List.mem_cons_self)
  clear hp hb
  rw [vc_spec_l17Copy l]
  dsimp only
  refine ⟨⟨by omega, by omega, by simp⟩, ?_⟩
  rintro ⟨out, i, ⟨⟩⟩ ⟨h1, h2, rfl⟩
  simp only
  refine if_cond (fun hc => ?_) (fun hc => ?_)
  · have hc := of_decide_eq_true hc
    have hs := sum_getD_le sizeTimer l zTimer h1 hc
    simp only [sizeTimerS] at hp0
    have hx := hs
    simp only [sizeTimer, sizeFact, sizeValS] at hx
    rw [take_step l zTimer h1 hc, wrap_i64 (by omega) (by omega)]
    repeat' (first | refine And.intro (by omega) ?_ | fail)
    refine ⟨by simp; omega, ⟨by omega, by omega, rfl⟩, by simp only [μ_spec_l17Copy_3]; omega⟩
  · have hc := of_decide_eq_false hc
    rw [take_all l (by omega)]
    exact Lf_rfl _
def con_impl_copyTimers : Con UU where
  α := (List DTimer)
  md := [.ro]
  of := fun | [.one (.sl .eTimer a0)] => some a0 | _ => none
  ds := fun l => [.one (.sl .eTimer l)]
  pre := fun l => [sizeTimerS l ≤ 4294967296]
  res := fun l => ⟨[.one (.sl .eTimer l)], true, []⟩
  law := by intro l x h; (try simp only at h); split at h <;> cases h; rfl
def I_impl_copyTimers_3 (l : (List DTimer)) : List DTimer × Int × Unit → Prop := fun (out, i, _) => 0 ≤ i ∧ i ≤ l.length ∧ out = l.take i.toNat
def μ_impl_copyTimers_3 (l : (List DTimer)) : List DTimer × Int × Unit → Nat := fun (out, i, _) => l.length - i.toNat
def ann_impl_copyTimers : con_impl_copyTimers.α → Nat → Option (Ann UU) := fun l => annL [(3, annOf [.slot 3 (3, 1024) (.own .eTimer true), .slot 8 (8, 1024) (.lit (.int .i64))] (fun _ => I_impl_copyTimers_3 l) (μ_impl_copyTimers_3 l))]
def use_impl_copyTimers : List (FuncId × Con UU) := [(75, con_impl_copyFact)]
theorem vc_impl_copyTimers (l : (List DTimer)) : goal EE use_impl_copyTimers Go.Proofs.Try.f65 con_impl_copyTimers ann_impl_copyTimers l = (I_impl_copyTimers_3 l ([], (0 : Int), PUnit.unit) ∧
  ∀ (y : List DTimer × Int × PUnit),
    let x0 : List DTimer := [List.getD l (Int.toNat y.2.1) zTimer];
    let x1 : Nat := Int.toNat y.2.1;
    I_impl_copyTimers_3 l y → bif decide (y.2.1 < (↑(List.length l) : Int)) then (0 : Int) ≤ y.2.1 ∧ x1 < List.length l ∧ List.length (List.getD l x1 zTimer).F.Fields ≤ (4294967296 : Nat) ∧ List.length y.1 + List.length x0 ≤ (4294967296 : Nat) ∧ I_impl_copyTimers_3 l (y.1 ++ x0, IntKind.wrap IntKind.i64 (y.2.1 + (1 : Int)), PUnit.unit) ∧ μ_impl_copyTimers_3 l (y.1 ++ x0, IntKind.wrap IntKind.i64 (y.2.1 + (1 : Int)), PUnit.unit) < μ_impl_copyTimers_3 l y else Lf [DV.one (Cell.sl Cd.eTimer y.1)] [DV.one (Cell.sl Cd.eTimer l)]) := by kernel_rfl
theorem ok_impl_copyTimers : Holds EE (65, con_impl_copyTimers) := by
  refine holds_of EE_ok Go.Proofs.Try.func65 con_impl_copyTimers (by kernel_rfl) use_impl_copyTimers (all_cons ok_impl_copyFact all_nil) ann_impl_copyTimers (fun (l : (List DTimer)) hp hb => ?_)
  have hb_l : BdDV (U := UU) (.one (.sl .eTimer l)) := hb _ (List.mem_cons_self)
  have hl_l : l.length ≤ 9223372036854775807 := Bd.len hb_l
  have hp0 : sizeTimerS l ≤ 4294967296 := hp _ (List.mem_cons_self)
  clear hp hb
  rw [vc_impl_copyTimers l]
  dsimp only
  refine ⟨⟨by omega, by omega, by simp⟩, ?_⟩
  rintro ⟨out, i, ⟨⟩⟩ ⟨h1, h2, rfl⟩
  simp only
  refine if_cond (fun hc => ?_) (fun hc => ?_)
  · have hc := of_decide_eq_true hc
    have hs := sum_getD_le sizeTimer l zTimer h1 hc
    simp only [sizeTimerS] at hp0
    have hx := hs
    simp only [sizeTimer, sizeFact, sizeValS] at hx
    rw [take_step l zTimer h1 hc, wrap_i64 (by omega) (by omega)]
    repeat' (first | refine And.intro (by omega) ?_ | fail)
    refine ⟨by simp; omega, ⟨by omega, by omega, rfl⟩, by simp only [μ_impl_copyTimers_3]; omega⟩
  · have hc := of_decide_eq_false hc
    rw [take_all l (by omega)]
    exact Lf_rfl _
def dueT (now : Int) (l : List DTimer) : List DTimer := l.filter fun x => decide (x.At ≤ now)
def resT (now : Int) (l : List DTimer) : List DTimer := l.filter fun x => !decide (x.At ≤ now)
theorem filter_step {α : Type} (p : α → Bool) (l : List α) (z : α) {i : Int} (h1 : 0 ≤ i) (h2 : i < l.length) :
    (l.take (i + 1).toNat).filter p = (l.take i.toNat).filter p ++ (if p (l.getD i.toNat z) then [l.getD i.toNat z] else []) := by
  rw [← take_step l z h1 h2, List.filter_append]
  congr 1
  simp only [List.filter_cons, List.filter_nil]
theorem filter_len_le {α : Type} (p : α → Bool) (l : List α) (n : Nat) : ((l.take n).filter p).length ≤ n :=
  Nat.le_trans (List.length_filter_le _ _) (by simp; omega)
def con_impl_DueTimers : Con UU where
  α := (List DTimer) × Int
  md := [.ro, .ro]
  of := fun | [.one (.sl .eTimer a0), .one (.lit (.int .i64 a1))] => some (a0, a1) | _ => none
  ds := fun (l, now) => [.one (.sl .eTimer l), .one (.lit (.int .i64 now))]
  pre := fun (l, now) => [sizeTimerS l ≤ 4294967296]
  res := fun (l, now) => ⟨[.one (.sl .eTimer (dueT now l)), .one (.sl .eTimer (resT now l))], true, []⟩
  law := by intro l x h; (try simp only at h); split at h <;> cases h; rfl
def I_impl_DueTimers_3 (l : (List DTimer)) (now : Int) : (List DTimer × (Nat → Bool)) × Int × List DTimer × List DTimer × Unit → Prop := fun ((xs,dd), i, due, oth, _) => 0 ≤ i ∧ i ≤ l.length ∧ l = xs ∧ (∀ j, i.toNat ≤ j → dd j = false) ∧ due = dueT now (l.take i.toNat) ∧ oth = resT now (l.take i.toNat)
def μ_impl_DueTimers_3 (l : (List DTimer)) (now : Int) : (List DTimer × (Nat → Bool)) × Int × List DTimer × List DTimer × Unit → Nat := fun ((xs,dd), i, due, oth, _) => l.length - i.toNat
def ann_impl_DueTimers : con_impl_DueTimers.α → Nat → Option (Ann UU) := fun (l, now) => annL [(3, annOf [.slot 11 (11, 1024) (.part .eTimer), .slot 13 (13, 1024) (.lit (.int .i64)), .slot 6 (6, 1024) (.own .eTimer true), .slot 7 (7, 1024) (.own .eTimer true)] (fun _ => I_impl_DueTimers_3 l now) (μ_impl_DueTimers_3 l now))]
def use_impl_DueTimers : List (FuncId × Con UU) := [(65, con_impl_copyTimers)]
theorem vc_impl_DueTimers (l : (List DTimer)) (now : Int) : goal EE use_impl_DueTimers Go.Proofs.Try.f20 con_impl_DueTimers ann_impl_DueTimers (l, now) = (sizeTimerS l ≤ (4294967296 : Nat) ∧
  I_impl_DueTimers_3 l now ((l, fun (x : Nat) => false), (0 : Int), [], [], PUnit.unit) ∧
    ∀ (y : (List DTimer × (Nat → Bool)) × Int × List DTimer × List DTimer × PUnit),
      let x0 : List DTimer := [List.getD y.fst.1 (Int.toNat y.2.1) zTimer];
      let x1 : Nat := Int.toNat y.2.1;
      let x2 : Int := IntKind.wrap IntKind.i64 (y.2.1 + (1 : Int));
      let x3 : Int := (List.getD y.fst.1 x1 zTimer).At;
      I_impl_DueTimers_3 l now y → bif decide (y.2.1 < (↑(List.length l) : Int)) then (0 : Int) ≤ y.2.1 ∧ x1 < List.length y.fst.1 ∧ x1 < List.length y.fst.1 ∧ y.fst.2 x1 = false ∧ bif decide (x3 ≤ now) then List.length y.2.2.1 + List.length x0 ≤ (4294967296 : Nat) ∧ I_impl_DueTimers_3 l now ((y.fst.1, fun (j : Nat) => Nat.beq j x1 || y.fst.2 j), x2, y.2.2.1 ++ x0, y.2.2.2.1, PUnit.unit) ∧ μ_impl_DueTimers_3 l now ((y.fst.1, fun (j : Nat) => Nat.beq j x1 || y.fst.2 j), x2, y.2.2.1 ++ x0, y.2.2.2.1, PUnit.unit) < μ_impl_DueTimers_3 l now y else List.length y.2.2.2.1 + List.length x0 ≤ (4294967296 : Nat) ∧ I_impl_DueTimers_3 l now ((y.fst.1, fun (j : Nat) => Nat.beq j x1 || y.fst.2 j), x2, y.2.2.1, y.2.2.2.1 ++ x0, PUnit.unit) ∧ μ_impl_DueTimers_3 l now ((y.fst.1, fun (j : Nat) => Nat.beq j x1 || y.fst.2 j), x2, y.2.2.1, y.2.2.2.1 ++ x0, PUnit.unit) < μ_impl_DueTimers_3 l now y else Lf [DV.one (Cell.sl Cd.eTimer y.2.2.1), DV.one (Cell.sl Cd.eTimer y.2.2.2.1)] [DV.one (Cell.sl Cd.eTimer (dueT now l)), DV.one (Cell.sl Cd.eTimer (resT now l))]) := by kernel_rfl
theorem ok_impl_DueTimers : Holds EE (20, con_impl_DueTimers) := by
  refine holds_of EE_ok Go.Proofs.Try.func20 con_impl_DueTimers (by kernel_rfl) use_impl_DueTimers (all_cons ok_impl_copyTimers all_nil) ann_impl_DueTimers (fun x hp hb => ?_)
  obtain ⟨l, now⟩ := x
  have hb_l : BdDV (U := UU) (.one (.sl .eTimer l)) := hb _ (List.mem_cons_self)
  have hl_l : l.length ≤ 9223372036854775807 := Bd.len hb_l
  have hb_now : BdDV (U := UU) (.one (.lit (.int .i64 now))) := hb _ (List.mem_cons_of_mem _ (List.mem_cons_self))
  have hl_now := Bd.i64 hb_now
  have hp0 : sizeTimerS l ≤ 4294967296 := hp _ (List.mem_cons_self)
  clear hp hb
  rw [vc_impl_DueTimers l now]
  dsimp only
  refine ⟨hp0, ⟨by omega, by omega, rfl, fun _ _ => rfl, rfl, rfl⟩, ?_⟩
  rintro ⟨⟨xs, dd⟩, i, due, oth, ⟨⟩⟩ ⟨h1, h2, rfl, hd, rfl, rfl⟩
  simp only
  refine if_cond (fun hc => ?_) (fun hc => ?_)
  · have hc := of_decide_eq_true hc
    have hlt : i.toNat < l.length := by omega
    have hdi := hd i.toNat (Nat.le_refl _)
    have hl : l.length ≤ 4294967296 := by simp only [sizeTimerS] at hp0; omega
    have hw : IntKind.i64.wrap (i + 1) = i + 1 := wrap_i64 (by omega) (by omega)
    have g1 := filter_step (fun x : DTimer => decide (x.At ≤ now)) l zTimer h1 hc
    have g2 := filter_step (fun x : DTimer => !decide (x.At ≤ now)) l zTimer h1 hc
    have e1 : (dueT now (l.take i.toNat)).length ≤ i.toNat := filter_len_le _ _ _
    have e2 : (resT now (l.take i.toNat)).length ≤ i.toNat := filter_len_le _ _ _
    have hdd : ∀ j, (i + 1).toNat ≤ j → (Nat.beq j i.toNat || dd j) = false := fun j hj => by
      rw [hd j (by omega), Bool.or_false, ← Bool.not_eq_true, Nat.beq_eq]; omega
    rw [hw]
    refine ⟨h1, hlt, hlt, hdi, if_cond (fun ha => ?_) (fun ha => ?_)⟩
    · refine ⟨ by simp; omega, ⟨by omega, by omega, rfl, hdd, ?_, ?_⟩, by simp only [μ_impl_DueTimers_3]; omega⟩
      · show _ = List.filter _ _
        rw [g1, if_pos ha]; rfl
      · show _ = List.filter _ _
        rw [g2, if_neg (by rw [ha]; decide), List.append_nil]; rfl
    · refine ⟨ by simp; omega, ⟨by omega, by omega, rfl, hdd, ?_, ?_⟩, by simp only [μ_impl_DueTimers_3]; omega⟩
      · show _ = List.filter _ _
        rw [g1, if_neg (by rw [ha]; decide), List.append_nil]; rfl
      · show _ = List.filter _ _
        rw [g2, if_pos (by rw [ha]; decide)]; rfl
  · have hc := of_decide_eq_false hc
    rw [take_all l (by omega)]
    exact Lf_rfl _
def posT (l : List DTimer) (a : Int) : Nat → Nat
  | 0 => 0
  | n + 1 => if (List.getD l n zTimer).At > a then posT l a n else n + 1
theorem posT_le (l : List DTimer) (a : Int) : ∀ n, posT l a n ≤ n
  | 0 => Nat.le_refl _
  | n + 1 => by have := posT_le l a n; simp only [posT]; split <;> omega
def addOk (l : List DTimer) (x : DTimer) : Bool := timersOk l && timerOk x && decide (l.length < 30)
def addT (l : List DTimer) (x : DTimer) : List DTimer := if addOk l x then l.take (posT l x.At l.length) ++ x :: l.drop (posT l x.At l.length) else l
def holeT (l : List DTimer) (k : Nat) (d : DTimer) : List DTimer := l.take k ++ d :: l.drop k
theorem holeT_len (l : List DTimer) {k : Nat} (h : k ≤ l.length) (d : DTimer) : (holeT l k d).length = l.length + 1 := by
  simp [holeT]; omega
theorem holeT_lo (l : List DTimer) {k j : Nat} (h : k ≤ l.length) (hj : j < k) (d : DTimer) : List.getD (holeT l k d) j zTimer = List.getD l j zTimer := by
  simp only [holeT, List.getD_eq_getElem?_getD]
  rw [List.getElem?_append_left (by simp; omega), List.getElem?_take, if_pos hj]
theorem holeT_set (l : List DTimer) {k : Nat} (h : k ≤ l.length) (d x : DTimer) : (holeT l k d).set k x = holeT l k x := by
  unfold holeT
  rw [List.set_append_right _ _ (by simp; omega)]
  have : k - (l.take k).length = 0 := by simp; omega
  rw [this]; rfl
theorem holeT_shift (l : List DTimer) {k : Nat} (h0 : 0 < k) (h : k ≤ l.length) : holeT l k (List.getD l (k - 1) zTimer) = holeT l (k - 1) (List.getD l (k - 1) zTimer) := by
  unfold holeT
  obtain ⟨n, rfl⟩ : ∃ n, k = n + 1 := ⟨k - 1, by omega⟩
  have hn : n < l.length := by omega
  simp only [Nat.add_sub_cancel]
  have e : List.getD l n zTimer = l[n] := by rw [List.getD_eq_getElem?_getD, List.getElem?_eq_getElem hn]; rfl
  rw [e, List.take_succ_eq_append_getElem hn, List.append_assoc, ← List.drop_eq_getElem_cons hn]
  rfl
theorem LfT {a a' : List DTimer} {b b' : Bool} (h1 : a = a') (h2 : b = b') : Lf [.one (.sl .eTimer a), .one (.lit (.bool b))] [.one (.sl .eTimer a'), .one (.lit (.bool b'))] := by
  subst h1 h2; exact Lf_rfl _
def con_spec_AddTimer : Con UU where
  α := (List DTimer) × DTimer
  md := [.ro, .ro]
  of := fun | [.one (.sl .eTimer a0), .agg [.lit (.int .i64 a1), .lit (.string a2), .sl .eVal a3]] => some (a0, ⟨a1, ⟨a2, a3⟩⟩) | _ => none
  ds := fun (l, x) => [.one (.sl .eTimer l), .agg [.lit (.int .i64 x.At), .lit (.string x.F.Kind), .sl .eVal x.F.Fields]]
  pre := fun (l, x) => [sizeTimerS l ≤ 4294967296, sizeTimer x ≤ 4294967296]
  res := fun (l, x) => ⟨[.one (.sl .eTimer (addT l x)), .one (.lit (.bool (addOk l x)))], true, []⟩
  law := by intro l x h; (try simp only at h); split at h <;> cases h; rfl
def I_spec_AddTimer_7 (l : (List DTimer)) (x : DTimer) : (List DTimer × (Nat → Bool)) × Int × (Int × ByteArray × List DVal × Unit) × Unit → Prop := fun ((xs,dd), k, b, _) => 0 ≤ k ∧ k ≤ l.length ∧ (∃ d, xs = holeT l k.toNat d) ∧ (∀ j, j < l.length + 1 → j ≠ k.toNat → dd j = false) ∧ posT l x.At k.toNat = posT l x.At l.length ∧ b = (x.At, x.F.Kind, x.F.Fields, ())
def μ_spec_AddTimer_7 (l : (List DTimer)) (x : DTimer) : (List DTimer × (Nat → Bool)) × Int × (Int × ByteArray × List DVal × Unit) × Unit → Nat := fun ((xs,dd), k, b, _) => k.toNat
def ann_spec_AddTimer : con_spec_AddTimer.α → Nat → Option (Ann UU) := fun (l, x) => annL [(7, annOf [.slot 6 (6, 1024) (.part .eTimer), .slot 7 (7, 1024) (.lit (.int .i64)), .box 3 (3, 1024) [.lit (.int .i64), .lit .str, .own .eVal true]] (fun _ => I_spec_AddTimer_7 l x) (μ_spec_AddTimer_7 l x))]
def use_spec_AddTimer : List (FuncId × Con UU) := [(64, con_spec_l17Copy), (32, con_spec_TimersOk), (70, con_spec_l17Timer), (71, con_spec_l3Copy)]
theorem vc_spec_AddTimer (l : (List DTimer)) (x : DTimer) : goal EE use_spec_AddTimer Go.Proofs.Try.f25 con_spec_AddTimer ann_spec_AddTimer (l, x) = (sizeTimerS l ≤ (4294967296 : Nat) ∧
  bif !timersOk l then Lf [DV.one (Cell.sl Cd.eTimer l), DV.one (Cell.lit (Value.bool false))] [DV.one (Cell.sl Cd.eTimer (addT l x)), DV.one (Cell.lit (Value.bool (addOk l x)))]
  else
    bif !timerOk x then Lf [DV.one (Cell.sl Cd.eTimer l), DV.one (Cell.lit (Value.bool false))] [DV.one (Cell.sl Cd.eTimer (addT l x)), DV.one (Cell.lit (Value.bool (addOk l x)))]
    else
      bif decide ((↑(List.length l) : Int) ≥ (30 : Int)) then Lf [DV.one (Cell.sl Cd.eTimer l), DV.one (Cell.lit (Value.bool false))] [DV.one (Cell.sl Cd.eTimer (addT l x)), DV.one (Cell.lit (Value.bool (addOk l x)))]
      else
        List.length x.F.Fields ≤ (4294967296 : Nat) ∧
          List.length l + List.length (List.replicate (1 : Nat) zTimer) ≤ (4294967296 : Nat) ∧
            I_spec_AddTimer_7 l x ((l ++ List.replicate (1 : Nat) zTimer, fun (i : Nat) => Nat.ble (List.length l) i), (↑(List.length l) : Int), (x.At, x.F.Kind, x.F.Fields, PUnit.unit), PUnit.unit) ∧
              ∀ (y : (List DTimer × (Nat → Bool)) × Int × (Int × ByteArray × List DVal × PUnit) × PUnit),
                let x0 : List DTimer := List.set y.fst.1 (Int.toNat y.2.1) { At := y.2.2.1.1, F := { Kind := y.2.2.1.2.1, Fields := y.2.2.1.2.2.1 : DFact } : DTimer };
                let x1 : Nat := Int.toNat (IntKind.wrap IntKind.i64 (y.2.1 - (1 : Int)));
                let x2 : Nat := Int.toNat y.2.1;
                let x3 : Int := IntKind.wrap IntKind.i64 (y.2.1 - (1 : Int));
                let x4 : Int := (List.getD y.fst.1 x1 zTimer).At;
                let x5 : Nat := List.length y.fst.1;
                I_spec_AddTimer_7 l x y → bif decide (y.2.1 > (0 : Int)) then (0 : Int) ≤ x3 ∧ x1 < x5 ∧ x1 < x5 ∧ y.fst.2 x1 = false ∧ bif decide (x4 > y.2.2.1.1) then (0 : Int) ≤ x3 ∧ x1 < x5 ∧ x1 < x5 ∧ y.fst.2 x1 = false ∧ (0 : Int) ≤ y.2.1 ∧ x2 < x5 ∧ x2 < x5 ∧ I_spec_AddTimer_7 l x ((List.set y.fst.1 x2 (List.getD y.fst.1 x1 zTimer), fun (j : Nat) => !Nat.beq j x2 && (Nat.beq j x1 || y.fst.2 j)), x3, (y.2.2.1.1, y.2.2.1.2.1, y.2.2.1.2.2.1, PUnit.unit), PUnit.unit) ∧ μ_spec_AddTimer_7 l x ((List.set y.fst.1 x2 (List.getD y.fst.1 x1 zTimer), fun (j : Nat) => !Nat.beq j x2 && (Nat.beq j x1 || y.fst.2 j)), x3, (y.2.2.1.1, y.2.2.1.2.1, y.2.2.1.2.2.1, PUnit.unit), PUnit.unit) < μ_spec_AddTimer_7 l x y else (0 : Int) ≤ y.2.1 ∧ x2 < x5 ∧ x2 < x5 ∧ (∀ (i : Nat), i < List.length x0 → (!Nat.beq i x2 && y.fst.2 i) = false) ∧ Lf [DV.one (Cell.sl Cd.eTimer x0), DV.one (Cell.lit (Value.bool true))] [DV.one (Cell.sl Cd.eTimer (addT l x)), DV.one (Cell.lit (Value.bool (addOk l x)))] else (0 : Int) ≤ y.2.1 ∧ x2 < x5 ∧ x2 < x5 ∧ (∀ (i : Nat), i < List.length x0 → (!Nat.beq i x2 && y.fst.2 i) = false) ∧ Lf [DV.one (Cell.sl Cd.eTimer x0), DV.one (Cell.lit (Value.bool true))] [DV.one (Cell.sl Cd.eTimer (addT l x)), DV.one (Cell.lit (Value.bool (addOk l x)))]) := by kernel_rfl
theorem ok_spec_AddTimer : Holds EE (25, con_spec_AddTimer) := by
  refine holds_of EE_ok Go.Proofs.Try.func25 con_spec_AddTimer (by kernel_rfl) use_spec_AddTimer (all_cons ok_spec_l17Copy (all_cons ok_spec_TimersOk (all_cons ok_spec_l17Timer (all_cons ok_spec_l3Copy all_nil)))) ann_spec_AddTimer (fun x hp hb => ?_)
  obtain ⟨l, x⟩ := x
  have hb_l : BdDV (U := UU) (.one (.sl .eTimer l)) := hb _ (List.mem_cons_self)
  have hl_l : l.length ≤ 9223372036854775807 := Bd.len hb_l
  have hb_x : BdDV (U := UU) (.agg [.lit (.int .i64 x.At), .lit (.string x.F.Kind), .sl .eVal x.F.Fields]) := hb _ (List.mem_cons_of_mem _ (List.mem_cons_self))
  have hl_x_F_Kind : x.F.Kind.size ≤ 9223372036854775807 := Bd.str (hb_x _ (by simp))
  have hl_x_F_Fields : x.F.Fields.length ≤ 9223372036854775807 := Bd.len (U := UU) (τ := .eVal) (xs := x.F.Fields) (hb_x _ (by simp))
  have hp0 : sizeTimerS l ≤ 4294967296 := hp _ (List.mem_cons_self)
  have hp1 : sizeTimer x ≤ 4294967296 := hp _ (List.mem_cons_of_mem _ (List.mem_cons_self))
  clear hp hb
  rw [vc_spec_AddTimer l x]
  dsimp only
  refine ⟨hp0, if_cond (fun h => ?_) (fun h => if_cond (fun h' => ?_) (fun h' => if_cond (fun h'' => ?_) (fun h'' => ?_)))⟩
  · have hf : addOk l x = false := by simp only [addOk]; simp at h; simp [h]
    exact LfT (by rw [addT, hf]; rfl) hf.symm
  · have hf : addOk l x = false := by simp only [addOk]; simp at h'; simp [h']
    exact LfT (by rw [addT, hf]; rfl) hf.symm
  · have hf : addOk l x = false := by simp only [addOk]; have h'' := of_decide_eq_true h''; rw [decide_eq_false (by omega)]; simp
    exact LfT (by rw [addT, hf]; rfl) hf.symm
  have h3 := of_decide_eq_false h''
  have ho : addOk l x = true := by simp only [addOk]; simp at h h'; rw [h, h', decide_eq_true (by omega)]; rfl
  have hT : addT l x = holeT l (posT l x.At l.length) x := by rw [addT, if_pos ho]; rfl
  refine ⟨?_, by simp; omega, ⟨by omega, by omega, ⟨zTimer, by simp [holeT]⟩, fun j hj hj' => ?_, rfl, rfl⟩, ?_⟩
  · simp only [sizeTimer, sizeFact, sizeValS] at hp1; omega
  · show Nat.ble l.length j = false
    rw [← Bool.not_eq_true, Nat.ble_eq]; omega
  rintro ⟨⟨xs, dd⟩, k, ⟨bA, bK, bF, ⟨⟩⟩, ⟨⟩⟩ ⟨h1, h2, ⟨d, rfl⟩, hd, hpos, hb⟩
  cases hb
  simp only
  have hlen := holeT_len l (k := k.toNat) (by omega) d
  have fin : posT l x.At k.toNat = k.toNat → 0 ≤ k ∧ k.toNat < (holeT l k.toNat d).length ∧ k.toNat < (holeT l k.toNat d).length ∧
      (∀ i, i < ((holeT l k.toNat d).set k.toNat x).length → (!Nat.beq i k.toNat && dd i) = false) ∧
      Lf [.one (.sl .eTimer ((holeT l k.toNat d).set k.toNat x)), .one (.lit (.bool true))] [.one (.sl .eTimer (addT l x)), .one (.lit (.bool (addOk l x)))] := by
    intro hk
    refine ⟨h1, by rw [hlen]; omega, by rw [hlen]; omega, fun i hi => ?_, LfT ?_ ho.symm⟩
    · rw [List.length_set, hlen] at hi
      by_cases hik : i = k.toNat
      · subst hik; simp
      · rw [hd i hi hik]; simp
    · rw [holeT_set l (by omega), hT, ← hpos, hk]
  refine if_cond (fun hc => ?_) (fun hc => ?_)
  · have hc := of_decide_eq_true hc
    have hw : IntKind.i64.wrap (k - 1) = k - 1 := wrap_i64 (by omega) (by omega)
    have ek : (k - 1).toNat = k.toNat - 1 := by omega
    obtain ⟨n, hn⟩ : ∃ n, k.toNat = n + 1 := ⟨k.toNat - 1, by omega⟩
    have hlo := holeT_lo l (k := k.toNat) (j := k.toNat - 1) (by omega) (by omega) d
    have hdk := hd (k.toNat - 1) (by omega) (by omega)
    rw [hw, ek, hlo]
    refine ⟨by omega, by rw [hlen]; omega, by rw [hlen]; omega, hdk, if_cond (fun hg => ?_) (fun hg => ?_)⟩
    · have hg := of_decide_eq_true hg
      refine ⟨by omega, by rw [hlen]; omega, by rw [hlen]; omega, hdk, by omega, by rw [hlen]; omega, by rw [hlen]; omega, ⟨by omega, by omega, ⟨List.getD l (k.toNat - 1) zTimer, ?_⟩, fun j hj hj' => ?_, ?_, rfl⟩, by simp only [μ_spec_AddTimer_7]; omega⟩
      · rw [holeT_set l (by omega), ek]
        exact holeT_shift l (by omega) (by omega)
      · show (!Nat.beq j k.toNat && (Nat.beq j (k.toNat - 1) || dd j)) = false
        rw [ek] at hj'
        have e1 : Nat.beq j (k.toNat - 1) = false := by rw [← Bool.not_eq_true, Nat.beq_eq]; exact hj'
        by_cases hjk : j = k.toNat
        · subst hjk; simp
        · rw [e1, hd j hj hjk]; simp
      · rw [← hpos, ek, hn]
        rw [hn] at hg
        simp only [Nat.add_sub_cancel] at hg ⊢
        rw [posT, if_pos hg]
    · have hg := of_decide_eq_false hg
      refine fin ?_
      rw [hn] at hg ⊢
      simp only [Nat.add_sub_cancel] at hg
      rw [posT, if_neg hg]
  · have hc := of_decide_eq_false hc
    refine fin ?_
    have : k.toNat = 0 := by omega
    rw [this, posT]
structure DCur where
  b : List Int
  i : Int
  h : Int
def mixB (h : Int) (x : Int) : Int := IntKind.wrap .i64 (((BitVec.ofInt (IntKind.bits .i64) (IntKind.wrap .i64 (IntKind.wrap .i64 (IntKind.wrap .i64 (h * 137) + IntKind.wrap .i64 x) + 11)) &&& BitVec.ofInt (IntKind.bits .i64) 1073741823).toNat : Nat) : Int)
def seedB (code : List Int) : Int := (code.take 4000).foldl mixB (354354 + code.length)
def newCur (code : List Int) : DCur := ⟨code, 0, seedB code⟩
def nextH (h : Int) : Int := IntKind.wrap .i64 (IntKind.wrap .i64 (h * 6364136223846793005) + 1442695040888963407)
def and255 (x : Int) : Int := IntKind.wrap .i64 (((BitVec.ofInt (IntKind.bits .i64) x &&& BitVec.ofInt (IntKind.bits .i64) 255).toNat : Nat) : Int)
def mixX (h : Int) : Int := and255 (IntKind.wrap .i64 (((BitVec.ofInt (IntKind.bits .i64) (Int.fdiv h ((2 : Int) ^ min (Int.toNat 33) (IntKind.bits .i64))) ^^^ BitVec.ofInt (IntKind.bits .i64) (Int.fdiv h ((2 : Int) ^ min (Int.toNat 47) (IntKind.bits .i64)))).toNat : Nat) : Int))
def byteV (c : DCur) : Int := if c.i < c.b.length then and255 (IntKind.wrap .i64 (mixX (nextH c.h) + IntKind.wrap .i64 (List.getD c.b c.i.toNat 0))) else mixX (nextH c.h)
def byteC (c : DCur) : DCur := ⟨c.b, if c.i < c.b.length then c.i + 1 else c.i, nextH c.h⟩
theorem and255_le (x : Int) : 0 ≤ and255 x ∧ and255 x ≤ 255 := by
  unfold and255
  have h : (BitVec.ofInt 64 x &&& BitVec.ofInt 64 255).toNat ≤ 255 := by
    rw [BitVec.toNat_and]
    exact Nat.le_trans Nat.and_le_right (by decide)
  have h' : (BitVec.ofInt (IntKind.bits .i64) x &&& BitVec.ofInt (IntKind.bits .i64) 255).toNat ≤ 255 := h
  rw [wrap_i64 (by omega) (by omega)]
  omega
theorem byteV_le (c : DCur) : 0 ≤ byteV c ∧ byteV c ≤ 255 := by
  unfold byteV
  split
  · exact and255_le _
  · exact and255_le _
theorem byteC_i {c : DCur} (h : 0 ≤ c.i) : 0 ≤ (byteC c).i := by
  simp only [byteC]; split <;> omega
def belowV (c : DCur) (n : Int) : Int := if n ≤ 0 then 0 else if n ≤ 256 then Int.tmod (byteV c) n else Int.tmod (byteV c * 65536 + byteV (byteC c) * 256 + byteV (byteC (byteC c))) n
def belowC (c : DCur) (n : Int) : DCur := if n ≤ 0 then c else if n ≤ 256 then byteC c else byteC (byteC (byteC c))
theorem belowC_i {c : DCur} (h : 0 ≤ c.i) (n : Int) : 0 ≤ (belowC c n).i := by
  unfold belowC
  split
  · exact h
  · split
    · exact byteC_i h
    · exact byteC_i (byteC_i (byteC_i h))
theorem belowV_lt {c : DCur} {n : Int} (h : 0 < n) : 0 ≤ belowV c n ∧ belowV c n < n := by
  have h1 := byteV_le c; have h2 := byteV_le (byteC c); have h3 := byteV_le (byteC (byteC c))
  unfold belowV
  rw [if_neg (by omega)]
  split
  · rw [Int.tmod_eq_emod_of_nonneg (by omega)]; exact ⟨Int.emod_nonneg _ (by omega), Int.emod_lt_of_pos _ h⟩
  · rw [Int.tmod_eq_emod_of_nonneg (by omega)]; exact ⟨Int.emod_nonneg _ (by omega), Int.emod_lt_of_pos _ h⟩
def con_spec_l1New : Con UU where
  α := (List Int)
  md := [.ro]
  of := fun | [.one (.sl .byte a0)] => some a0 | _ => none
  ds := fun code => [.one (.sl .byte code)]
  pre := fun code => [code.length ≤ 4294967296]
  res := fun code => ⟨[.box [.sl .byte ((newCur code)).b, .lit (.int .i64 ((newCur code)).i), .lit (.int .i64 ((newCur code)).h)]], true, []⟩
  law := by intro l x h; (try simp only at h); split at h <;> cases h; rfl
def I_spec_l1New_3 (code : (List Int)) : Int × Int × Unit → Prop := fun (h, i, _) => 0 ≤ i ∧ i ≤ code.length ∧ i ≤ 4000 ∧ h = (code.take i.toNat).foldl mixB (354354 + code.length)
def μ_spec_l1New_3 (code : (List Int)) : Int × Int × Unit → Nat := fun (h, i, _) => code.length - i.toNat
def ann_spec_l1New : con_spec_l1New.α → Nat → Option (Ann UU) := fun code => annL [(3, annOf [.slot 3 (3, 1024) (.lit (.int .i64)), .slot 4 (4, 1024) (.lit (.int .i64))] (fun _ => I_spec_l1New_3 code) (μ_spec_l1New_3 code))]
def use_spec_l1New : List (FuncId × Con UU) := []
theorem vc_spec_l1New (code : (List Int)) : goal EE use_spec_l1New Go.Proofs.Try.f36 con_spec_l1New ann_spec_l1New code = (I_spec_l1New_3 code (IntKind.wrap IntKind.i64 ((354354 : Int) + (↑(List.length code) : Int)), (0 : Int), PUnit.unit) ∧
  ∀ (y : Int × Int × PUnit),
    let x0 : Nat := Int.toNat y.2.1;
    I_spec_l1New_3 code y → bif decide (y.2.1 < (↑(List.length code) : Int)) then bif decide (y.2.1 < (4000 : Int)) then (0 : Int) ≤ y.2.1 ∧ x0 < List.length code ∧ I_spec_l1New_3 code (IntKind.wrap IntKind.i64 (↑(BitVec.toNat (BitVec.ofInt (IntKind.bits IntKind.i64) (IntKind.wrap IntKind.i64 (IntKind.wrap IntKind.i64 (IntKind.wrap IntKind.i64 (y.1 * (137 : Int)) + IntKind.wrap IntKind.i64 (List.getD code x0 (0 : Int))) + (11 : Int))) &&& BitVec.ofInt (IntKind.bits IntKind.i64) (1073741823 : Int))) : Int), IntKind.wrap IntKind.i64 (y.2.1 + (1 : Int)), PUnit.unit) ∧ μ_spec_l1New_3 code (IntKind.wrap IntKind.i64 (↑(BitVec.toNat (BitVec.ofInt (IntKind.bits IntKind.i64) (IntKind.wrap IntKind.i64 (IntKind.wrap IntKind.i64 (IntKind.wrap IntKind.i64 (y.1 * (137 : Int)) + IntKind.wrap IntKind.i64 (List.getD code x0 (0 : Int))) + (11 : Int))) &&& BitVec.ofInt (IntKind.bits IntKind.i64) (1073741823 : Int))) : Int), IntKind.wrap IntKind.i64 (y.2.1 + (1 : Int)), PUnit.unit) < μ_spec_l1New_3 code y else Lf [DV.box [Cell.sl Cd.byte code, Cell.lit (Value.int IntKind.i64 (0 : Int)), Cell.lit (Value.int IntKind.i64 y.1)]] [DV.box [Cell.sl Cd.byte (newCur code).b, Cell.lit (Value.int IntKind.i64 (newCur code).i), Cell.lit (Value.int IntKind.i64 (newCur code).h)]] else Lf [DV.box [Cell.sl Cd.byte code, Cell.lit (Value.int IntKind.i64 (0 : Int)), Cell.lit (Value.int IntKind.i64 y.1)]] [DV.box [Cell.sl Cd.byte (newCur code).b, Cell.lit (Value.int IntKind.i64 (newCur code).i), Cell.lit (Value.int IntKind.i64 (newCur code).h)]]) := by kernel_rfl
theorem ok_spec_l1New : Holds EE (36, con_spec_l1New) := by
  refine holds_of EE_ok Go.Proofs.Try.func36 con_spec_l1New (by kernel_rfl) use_spec_l1New all_nil ann_spec_l1New (fun (code : (List Int)) hp hb => ?_)
  have hb_code : BdDV (U := UU) (.one (.sl .byte code)) := hb _ (List.mem_cons_self)
  have hl_code : code.length ≤ 9223372036854775807 := Bd.len hb_code
  have hp0 : code.length ≤ 4294967296 := hp _ (List.mem_cons_self)
  clear hp hb
  rw [vc_spec_l1New code]
  dsimp only
  refine ⟨⟨by omega, by omega, by omega, by rw [wrap_i64 (by omega) (by omega)]; rfl⟩, ?_⟩
  rintro ⟨h, i, ⟨⟩⟩ ⟨h1, h2, h3, rfl⟩
  simp only
  have hE : (i = code.length ∨ i = 4000) → (code.take i.toNat).foldl mixB (354354 + code.length) = (newCur code).h := by
    intro hh
    show _ = (code.take 4000).foldl mixB (354354 + code.length)
    rcases hh with hh | hh
    · rw [List.take_of_length_le (by omega), List.take_of_length_le (by omega)]
    · rw [hh]; rfl
  refine if_cond (fun hc => if_cond (fun hd => ?_) (fun hd => ?_)) (fun hc => ?_)
  · have hc := of_decide_eq_true hc; have hd := of_decide_eq_true hd
    rw [wrap_i64 (n := i + 1) (by omega) (by omega)]
    refine ⟨h1, by omega, ⟨by omega, by omega, by omega, ?_⟩, by simp only [μ_spec_l1New_3]; omega⟩
    rw [← take_step code 0 h1 (by omega), List.foldl_append]
    rfl
  · have hc := of_decide_eq_true hc; have hd := of_decide_eq_false hd
    rw [hE (by omega)]; exact Lf_rfl _
  · have hc := of_decide_eq_false hc
    rw [hE (by omega)]; exact Lf_rfl _
def con_spec_l1Byte : Con UU where
  α := DCur
  md := [.box false]
  of := fun | [.box [.sl .byte a0, .lit (.int .i64 a1), .lit (.int .i64 a2)]] => some ⟨a0, a1, a2⟩ | _ => none
  ds := fun c => [.box [.sl .byte c.b, .lit (.int .i64 c.i), .lit (.int .i64 c.h)]]
  pre := fun c => [0 ≤ c.i, c.b.length ≤ 4294967296]
  res := fun c => ⟨[.one (.lit (.int .i64 (byteV c)))], true, [.box [.sl .byte ((byteC c)).b, .lit (.int .i64 ((byteC c)).i), .lit (.int .i64 ((byteC c)).h)]]⟩
  law := by intro l x h; (try simp only at h); split at h <;> cases h; rfl
def ann_spec_l1Byte : con_spec_l1Byte.α → Nat → Option (Ann UU) := fun c => annL []
def use_spec_l1Byte : List (FuncId × Con UU) := []
theorem vc_spec_l1Byte (c : DCur) : goal EE use_spec_l1Byte Go.Proofs.Try.f94 con_spec_l1Byte ann_spec_l1Byte c = (let x0 : Int := IntKind.wrap IntKind.i64 (↑(BitVec.toNat (BitVec.ofInt (IntKind.bits IntKind.i64) (IntKind.wrap IntKind.i64 (↑(BitVec.toNat (BitVec.ofInt (IntKind.bits IntKind.i64) (Int.fdiv (IntKind.wrap IntKind.i64 (IntKind.wrap IntKind.i64 (c.h * (6364136223846793005 : Int)) + (1442695040888963407 : Int))) ((2 : Int) ^ min (Int.toNat (33 : Int)) (IntKind.bits IntKind.i64))) ^^^ BitVec.ofInt (IntKind.bits IntKind.i64) (Int.fdiv (IntKind.wrap IntKind.i64 (IntKind.wrap IntKind.i64 (c.h * (6364136223846793005 : Int)) + (1442695040888963407 : Int))) ((2 : Int) ^ min (Int.toNat (47 : Int)) (IntKind.bits IntKind.i64))))) : Int)) &&& BitVec.ofInt (IntKind.bits IntKind.i64) (255 : Int))) : Int);
(0 : Int) ≤ (33 : Int) ∧ (0 : Int) ≤ (47 : Int) ∧ bif decide (c.i < (↑(List.length c.b) : Int)) then (0 : Int) ≤ c.i ∧ Int.toNat c.i < List.length c.b ∧ (0 : Nat) = (0 : Nat) ∧ asD [DV.one (Cell.lit (Value.int IntKind.i64 (IntKind.wrap IntKind.i64 (↑(BitVec.toNat (BitVec.ofInt (IntKind.bits IntKind.i64) (IntKind.wrap IntKind.i64 (x0 + IntKind.wrap IntKind.i64 (List.getD c.b (Int.toNat c.i) (0 : Int)))) &&& BitVec.ofInt (IntKind.bits IntKind.i64) (255 : Int))) : Int))))] = asD [DV.one (Cell.lit (Value.int IntKind.i64 (byteV c)))] ∧ asD [DV.box [Cell.sl Cd.byte c.b, Cell.lit (Value.int IntKind.i64 (IntKind.wrap IntKind.i64 (c.i + (1 : Int)))), Cell.lit (Value.int IntKind.i64 (IntKind.wrap IntKind.i64 (IntKind.wrap IntKind.i64 (c.h * (6364136223846793005 : Int)) + (1442695040888963407 : Int))))]] = asD [DV.box [Cell.sl Cd.byte (byteC c).b, Cell.lit (Value.int IntKind.i64 (byteC c).i), Cell.lit (Value.int IntKind.i64 (byteC c).h)]] else (0 : Nat) = (0 : Nat) ∧ asD [DV.one (Cell.lit (Value.int IntKind.i64 x0))] = asD [DV.one (Cell.lit (Value.int IntKind.i64 (byteV c)))] ∧ asD [DV.box [Cell.sl Cd.byte c.b, Cell.lit (Value.int IntKind.i64 c.i), Cell.lit (Value.int IntKind.i64 (IntKind.wrap IntKind.i64 (IntKind.wrap IntKind.i64 (c.h * (6364136223846793005 : Int)) + (1442695040888963407 : Int))))]] = asD [DV.box [Cell.sl Cd.byte (byteC c).b, Cell.lit (Value.int IntKind.i64 (byteC c).i), Cell.lit (Value.int IntKind.i64 (byteC c).h)]]) := by kernel_rfl
theorem ok_spec_l1Byte : Holds EE (94, con_spec_l1Byte) := by
  refine holds_of EE_ok Go.Proofs.Try.func94 con_spec_l1Byte (by kernel_rfl) use_spec_l1Byte all_nil ann_spec_l1Byte (fun (c : DCur) hp hb => ?_)
  have hb_c : BdDV (U := UU) (.box [.sl .byte c.b, .lit (.int .i64 c.i), .lit (.int .i64 c.h)]) := hb _ (List.mem_cons_self)
  have hl_c_b : c.b.length ≤ 9223372036854775807 := Bd.len (U := UU) (τ := .byte) (xs := c.b) (hb_c _ (by simp))
  have hp0 : 0 ≤ c.i := hp _ (List.mem_cons_self)
  have hp1 : c.b.length ≤ 4294967296 := hp _ (List.mem_cons_of_mem _ (List.mem_cons_self))
  clear hp hb
  rw [vc_spec_l1Byte c]
  dsimp only
  refine ⟨by omega, by omega, if_cond (fun h => ?_) (fun h => ?_)⟩
  · have h := of_decide_eq_true h
    have e1 : byteV c = and255 (IntKind.wrap .i64 (mixX (nextH c.h) + IntKind.wrap .i64 (List.getD c.b c.i.toNat 0))) := if_pos h
    have e2 : (byteC c).i = c.i + 1 := if_pos h
    rw [e1, e2, wrap_i64 (n := c.i + 1) (by omega) (by omega)]
    exact ⟨hp0, by omega, rfl, rfl, rfl⟩
  · have h := of_decide_eq_false h
    have e1 : byteV c = mixX (nextH c.h) := if_neg h
    have e2 : (byteC c).i = c.i := if_neg h
    rw [e1, e2]
    exact ⟨rfl, rfl, rfl⟩
def con_spec_l1Below : Con UU where
  α := DCur × Int
  md := [.box false, .ro]
  of := fun | [.box [.sl .byte a0, .lit (.int .i64 a1), .lit (.int .i64 a2)], .one (.lit (.int .i64 a3))] => some (⟨a0, a1, a2⟩, a3) | _ => none
  ds := fun (c, n) => [.box [.sl .byte c.b, .lit (.int .i64 c.i), .lit (.int .i64 c.h)], .one (.lit (.int .i64 n))]
  pre := fun (c, n) => [0 ≤ c.i, c.b.length ≤ 4294967296]
  res := fun (c, n) => ⟨[.one (.lit (.int .i64 (belowV c n)))], true, [.box [.sl .byte ((belowC c n)).b, .lit (.int .i64 ((belowC c n)).i), .lit (.int .i64 ((belowC c n)).h)]]⟩
  law := by intro l x h; (try simp only at h); split at h <;> cases h; rfl
def ann_spec_l1Below : con_spec_l1Below.α → Nat → Option (Ann UU) := fun (c, n) => annL []
def use_spec_l1Below : List (FuncId × Con UU) := [(94, con_spec_l1Byte)]
theorem vc_spec_l1Below (c : DCur) (n : Int) : goal EE use_spec_l1Below Go.Proofs.Try.f45 con_spec_l1Below ann_spec_l1Below (c, n) = (bif decide (n ≤ (0 : Int)) then (0 : Nat) = (0 : Nat) ∧ asD [DV.one (Cell.lit (Value.int IntKind.i64 (0 : Int)))] = asD [DV.one (Cell.lit (Value.int IntKind.i64 (belowV c n)))] ∧ asD [DV.box [Cell.sl Cd.byte c.b, Cell.lit (Value.int IntKind.i64 c.i), Cell.lit (Value.int IntKind.i64 c.h)]] = asD [DV.box [Cell.sl Cd.byte (belowC c n).b, Cell.lit (Value.int IntKind.i64 (belowC c n).i), Cell.lit (Value.int IntKind.i64 (belowC c n).h)]] else bif decide (n ≤ (256 : Int)) then (0 : Int) ≤ c.i ∧ List.length c.b ≤ (4294967296 : Nat) ∧ n ≠ (0 : Int) ∧ (0 : Nat) = (0 : Nat) ∧ asD [DV.one (Cell.lit (Value.int IntKind.i64 (Int.tmod (byteV c) n)))] = asD [DV.one (Cell.lit (Value.int IntKind.i64 (belowV c n)))] ∧ asD [DV.box [Cell.sl Cd.byte (byteC c).b, Cell.lit (Value.int IntKind.i64 (byteC c).i), Cell.lit (Value.int IntKind.i64 (byteC c).h)]] = asD [DV.box [Cell.sl Cd.byte (belowC c n).b, Cell.lit (Value.int IntKind.i64 (belowC c n).i), Cell.lit (Value.int IntKind.i64 (belowC c n).h)]] else (0 : Int) ≤ c.i ∧ List.length c.b ≤ (4294967296 : Nat) ∧ (0 : Int) ≤ (byteC c).i ∧ List.length (byteC c).b ≤ (4294967296 : Nat) ∧ (0 : Int) ≤ (byteC (byteC c)).i ∧ List.length (byteC (byteC c)).b ≤ (4294967296 : Nat) ∧ n ≠ (0 : Int) ∧ (0 : Nat) = (0 : Nat) ∧ asD [DV.one (Cell.lit (Value.int IntKind.i64 (Int.tmod (IntKind.wrap IntKind.i64 (IntKind.wrap IntKind.i64 (IntKind.wrap IntKind.i64 (byteV c * (65536 : Int)) + IntKind.wrap IntKind.i64 (byteV (byteC c) * (256 : Int))) + byteV (byteC (byteC c)))) n)))] = asD [DV.one (Cell.lit (Value.int IntKind.i64 (belowV c n)))] ∧ asD [DV.box [Cell.sl Cd.byte (byteC (byteC (byteC c))).b, Cell.lit (Value.int IntKind.i64 (byteC (byteC (byteC c))).i), Cell.lit (Value.int IntKind.i64 (byteC (byteC (byteC c))).h)]] = asD [DV.box [Cell.sl Cd.byte (belowC c n).b, Cell.lit (Value.int IntKind.i64 (belowC c n).i), Cell.lit (Value.int IntKind.i64 (belowC c n).h)]]) := by kernel_rfl
theorem ok_spec_l1Below : Holds EE (45, con_spec_l1Below) := by
  refine holds_of EE_ok Go.Proofs.Try.func45 con_spec_l1Below (by kernel_rfl) use_spec_l1Below (all_cons ok_spec_l1Byte all_nil) ann_spec_l1Below (fun x hp hb => ?_)
  obtain ⟨c, n⟩ := x
  have hb_c : BdDV (U := UU) (.box [.sl .byte c.b, .lit (.int .i64 c.i), .lit (.int .i64 c.h)]) := hb _ (List.mem_cons_self)
  have hl_c_b : c.b.length ≤ 9223372036854775807 := Bd.len (U := UU) (τ := .byte) (xs := c.b) (hb_c _ (by simp))
  have hb_n : BdDV (U := UU) (.one (.lit (.int .i64 n))) := hb _ (List.mem_cons_of_mem _ (List.mem_cons_self))
  have hl_n := Bd.i64 hb_n
  have hp0 : 0 ≤ c.i := hp _ (List.mem_cons_self)
  have hp1 : c.b.length ≤ 4294967296 := hp _ (List.mem_cons_of_mem _ (List.mem_cons_self))
  clear hp hb
  rw [vc_spec_l1Below c n]
  have b1 := byteV_le c; have b2 := byteV_le (byteC c); have b3 := byteV_le (byteC (byteC c))
  refine if_cond (fun h => ?_) (fun h => if_cond (fun h2 => ?_) (fun h2 => ?_))
  · have h := of_decide_eq_true h
    have e1 : belowV c n = 0 := if_pos h
    have e2 : belowC c n = c := if_pos h
    rw [e1, e2]; exact ⟨rfl, rfl, rfl⟩
  · have h := of_decide_eq_false h; have h2 := of_decide_eq_true h2
    have e1 : belowV c n = Int.tmod (byteV c) n := by rw [belowV, if_neg h, if_pos h2]
    have e2 : belowC c n = byteC c := by rw [belowC, if_neg h, if_pos h2]
    rw [e1, e2]; exact ⟨hp0, hp1, by omega, rfl, rfl, rfl⟩
  · have h := of_decide_eq_false h; have h2 := of_decide_eq_false h2
    have e1 : belowV c n = Int.tmod (byteV c * 65536 + byteV (byteC c) * 256 + byteV (byteC (byteC c))) n := by rw [belowV, if_neg h, if_neg h2]
    have e2 : belowC c n = byteC (byteC (byteC c)) := by rw [belowC, if_neg h, if_neg h2]
    have w1 : IntKind.wrap .i64 (byteV c * 65536) = byteV c * 65536 := wrap_i64 (by omega) (by omega)
    have w2 : IntKind.wrap .i64 (byteV (byteC c) * 256) = byteV (byteC c) * 256 := wrap_i64 (by omega) (by omega)
    rw [w1, w2, e1, e2, wrap_i64 (n := byteV c * 65536 + byteV (byteC c) * 256) (by omega) (by omega), wrap_i64 (n := byteV c * 65536 + byteV (byteC c) * 256 + byteV (byteC (byteC c))) (by omega) (by omega)]
    exact ⟨hp0, hp1, byteC_i hp0, hp1, byteC_i (byteC_i hp0), hp1, by omega, rfl, rfl, rfl⟩
def con_spec_l1Int : Con UU where
  α := DCur × (List Int)
  md := [.box false, .ro]
  of := fun | [.box [.sl .byte a0, .lit (.int .i64 a1), .lit (.int .i64 a2)], .one (.sl .int a3)] => some (⟨a0, a1, a2⟩, a3) | _ => none
  ds := fun (c, list) => [.box [.sl .byte c.b, .lit (.int .i64 c.i), .lit (.int .i64 c.h)], .one (.sl .int list)]
  pre := fun (c, list) => [0 ≤ c.i, c.b.length ≤ 4294967296, 1 ≤ list.length]
  res := fun (c, list) => ⟨[.one (.lit (.int .i64 (List.getD list (belowV c list.length).toNat 0)))], true, [.box [.sl .byte ((belowC c list.length)).b, .lit (.int .i64 ((belowC c list.length)).i), .lit (.int .i64 ((belowC c list.length)).h)]]⟩
  law := by intro l x h; (try simp only at h); split at h <;> cases h; rfl
def ann_spec_l1Int : con_spec_l1Int.α → Nat → Option (Ann UU) := fun (c, list) => annL []
def use_spec_l1Int : List (FuncId × Con UU) := [(45, con_spec_l1Below)]
theorem vc_spec_l1Int (c : DCur) (list : (List Int)) : goal EE use_spec_l1Int Go.Proofs.Try.f46 con_spec_l1Int ann_spec_l1Int (c, list) = (let x0 : DCur := belowC c (↑(List.length list) : Int);
(0 : Int) ≤ c.i ∧ List.length c.b ≤ (4294967296 : Nat) ∧ (0 : Int) ≤ belowV c (↑(List.length list) : Int) ∧ Int.toNat (belowV c (↑(List.length list) : Int)) < List.length list ∧ (0 : Nat) = (0 : Nat) ∧ asD [DV.one (Cell.lit (Value.int IntKind.i64 (List.getD list (Int.toNat (belowV c (↑(List.length list) : Int))) (0 : Int))))] = asD [DV.one (Cell.lit (Value.int IntKind.i64 (List.getD list (Int.toNat (belowV c (↑(List.length list) : Int))) (0 : Int))))] ∧ asD [DV.box [Cell.sl Cd.byte x0.b, Cell.lit (Value.int IntKind.i64 x0.i), Cell.lit (Value.int IntKind.i64 x0.h)]] = asD [DV.box [Cell.sl Cd.byte x0.b, Cell.lit (Value.int IntKind.i64 x0.i), Cell.lit (Value.int IntKind.i64 x0.h)]]) := by kernel_rfl
theorem ok_spec_l1Int : Holds EE (46, con_spec_l1Int) := by
  refine holds_of EE_ok Go.Proofs.Try.func46 con_spec_l1Int (by kernel_rfl) use_spec_l1Int (all_cons ok_spec_l1Below all_nil) ann_spec_l1Int (fun x hp hb => ?_)
  obtain ⟨c, list⟩ := x
  have hb_c : BdDV (U := UU) (.box [.sl .byte c.b, .lit (.int .i64 c.i), .lit (.int .i64 c.h)]) := hb _ (List.mem_cons_self)
  have hl_c_b : c.b.length ≤ 9223372036854775807 := Bd.len (U := UU) (τ := .byte) (xs := c.b) (hb_c _ (by simp))
  have hb_list : BdDV (U := UU) (.one (.sl .int list)) := hb _ (List.mem_cons_of_mem _ (List.mem_cons_self))
  have hl_list : list.length ≤ 9223372036854775807 := Bd.len hb_list
  have hp0 : 0 ≤ c.i := hp _ (List.mem_cons_self)
  have hp1 : c.b.length ≤ 4294967296 := hp _ (List.mem_cons_of_mem _ (List.mem_cons_self))
  have hp2 : 1 ≤ list.length := hp _ (List.mem_cons_of_mem _ (List.mem_cons_of_mem _ (List.mem_cons_self)))
  clear hp hb
  rw [vc_spec_l1Int c list]
  dsimp only
  have hb := belowV_lt (c := c) (n := list.length) (by omega)
  exact ⟨hp0, hp1, hb.1, by omega, rfl, rfl, rfl⟩
def cOk (c : DCur) : Prop := 0 ≤ c.i ∧ c.b.length ≤ 4294967296
theorem cOk_below {c : DCur} (h : cOk c) (n : Int) : cOk (belowC c n) := by
  refine ⟨belowC_i h.1 n, ?_⟩
  have : (belowC c n).b = c.b := by
    unfold belowC
    split
    · rfl
    · split <;> rfl
  rw [this]; exact h.2
theorem cOk_new {code : List Int} (h : code.length ≤ 4294967296) : cOk (newCur code) := ⟨Int.le_refl 0, h⟩
def onceV (c : DCur) (n : Int) : Bool := decide (belowV c n = 0)
def strV (c : DCur) (l : List ByteArray) : ByteArray := List.getD l (belowV c l.length).toNat noBytes
def strC (c : DCur) (l : List ByteArray) : DCur := belowC c l.length
def intV (c : DCur) (l : List Int) : Int := List.getD l (belowV c l.length).toNat 0
def intC (c : DCur) (l : List Int) : DCur := belowC c l.length
theorem cOk_str {c : DCur} (h : cOk c) (l : List ByteArray) : cOk (strC c l) := cOk_below h _
theorem cOk_int {c : DCur} (h : cOk c) (l : List Int) : cOk (intC c l) := cOk_below h _
theorem strV_mem (c : DCur) {l : List ByteArray} (h : 0 < l.length) : strV c l ∈ l := by
  have hb := belowV_lt (c := c) (n := l.length) (by omega)
  have hi : (belowV c l.length).toNat < l.length := by omega
  rw [strV, List.getD_eq_getElem?_getD, List.getElem?_eq_getElem hi]
  exact List.getElem_mem hi
theorem strV_all (c : DCur) {l : List ByteArray} (p : ByteArray → Bool) (h0 : 0 < l.length) (h : l.all p = true) : p (strV c l) = true := List.all_eq_true.1 h _ (strV_mem c h0)
def sLsmall : List ByteArray := [⟨#[97]⟩, ⟨#[98]⟩]
def smallV (c : DCur) : DVal := if onceV c 2 then ⟨1, 1 + belowV (belowC c 2) 3, noBytes⟩ else ⟨2, 0, strV (belowC c 2) sLsmall⟩
def smallC (c : DCur) : DCur := if onceV c 2 then belowC (belowC c 2) 3 else strC (belowC c 2) sLsmall
theorem cOk_small {c : DCur} (h : cOk c) : cOk (smallC c) := by
  unfold smallC; split
  · exact cOk_below (cOk_below h _) _
  · exact cOk_str (cOk_below h _) _
def iLval : List Int := [0, 1, 2, 3, -1, 1000000000, -1000000000]
def sLval : List ByteArray := [⟨#[]⟩, ⟨#[97]⟩, ⟨#[98]⟩, ⟨#[112, 97, 105, 100]⟩, ⟨#[120, 95, 49]⟩]
def valV (c : DCur) : DVal := if onceV c 2 then ⟨1, intV (belowC c 2) iLval, noBytes⟩ else ⟨2, 0, strV (belowC c 2) sLval⟩
def valC (c : DCur) : DCur := if onceV c 2 then intC (belowC c 2) iLval else strC (belowC c 2) sLval
theorem cOk_val {c : DCur} (h : cOk c) : cOk (valC c) := by
  unfold valC; split
  · exact cOk_int (cOk_below h _) _
  · exact cOk_str (cOk_below h _) _
def iLany : List Int := [1000000001, 5]
def sLany : List ByteArray := [⟨#[65]⟩, ⟨#[97, 32, 98]⟩, ⟨#[116, 119, 101, 110, 116, 121, 111, 110, 101, 98, 121, 116, 101, 115, 116, 119, 101, 110, 116, 121, 111]⟩, ⟨#[120]⟩]
def anyvV (c : DCur) : DVal := let v := valV c; let k := belowV (valC c) 10; let d := belowC (valC c) 10; if k = 0 then ⟨belowV d 4, v.N, v.S⟩ else if k = 1 then ⟨v.K, intV d iLany, v.S⟩ else if k = 2 then ⟨v.K, v.N, strV d sLany⟩ else v
def anyvC (c : DCur) : DCur := let k := belowV (valC c) 10; let d := belowC (valC c) 10; if k = 0 then belowC d 4 else if k = 1 then intC d iLany else if k = 2 then strC d sLany else d
def sLkind : List ByteArray := [⟨#[111, 114, 100, 101, 114]⟩, ⟨#[112, 97, 105, 100]⟩, ⟨#[105, 116, 101, 109]⟩, ⟨#[111, 114, 100, 101, 114]⟩]
def bItem : ByteArray := ⟨#[105, 116, 101, 109]⟩
def smallsL : Nat → List DVal → DCur → List DVal
  | 0, l, _ => l
  | k + 1, l, c => smallsL k (l ++ [smallV c]) (smallC c)
def smallsC : Nat → DCur → DCur
  | 0, c => c
  | k + 1, c => smallsC k (smallC c)
theorem cOk_smalls : ∀ {k : Nat} {c : DCur}, cOk c → cOk (smallsC k c)
  | 0, _, h => h
  | k + 1, _, h => cOk_smalls (k := k) (cOk_small h)
def factN (c : DCur) : Int := if onceV (strC c sLkind) 12 then belowV (belowC (strC c sLkind) 12) 6 else if strV c sLkind = bItem then 2 else 1
def factD (c : DCur) : DCur := if onceV (strC c sLkind) 12 then belowC (belowC (strC c sLkind) 12) 6 else belowC (strC c sLkind) 12
def factV (c : DCur) : DFact := ⟨strV c sLkind, smallsL (factN c).toNat [] (factD c)⟩
def factC (c : DCur) : DCur := smallsC (factN c).toNat (factD c)
theorem cOk_factD {c : DCur} (h : cOk c) : cOk (factD c) := by
  have := cOk_below (cOk_str h sLkind) 12
  unfold factD; split
  · exact cOk_below this _
  · exact this
theorem cOk_fact {c : DCur} (h : cOk c) : cOk (factC c) := cOk_smalls (cOk_factD h)
theorem smallsL_len : ∀ (k : Nat) (l : List DVal) (c : DCur), (smallsL k l c).length = l.length + k
  | 0, _, _ => rfl
  | k + 1, l, c => by rw [smallsL, smallsL_len k]; simp only [List.length_append, List.length_cons, List.length_nil]; omega
theorem factV_len (c : DCur) : (factV c).Fields.length = (factN c).toNat := by
  show (smallsL _ _ _).length = _
  rw [smallsL_len]; simp
theorem factN_le (c : DCur) : 0 ≤ factN c ∧ factN c ≤ 5 := by
  have := belowV_lt (c := belowC (strC c sLkind) 12) (n := 6) (by omega)
  unfold factN
  split
  · omega
  · split <;> omega
noncomputable def padL (l : List DVal) (c : DCur) : List DVal × DCur := if h : (l.length : Int) < 5 + belowV c 2 then padL (l ++ [valV (belowC c 2)]) (valC (belowC c 2)) else (l, belowC c 2)
termination_by 6 - l.length
decreasing_by
  have := belowV_lt (c := c) (n := 2) (by omega)
  simp only [List.length_append, List.length_cons, List.length_nil]; omega
theorem padL_yes {l : List DVal} {c : DCur} (h : (l.length : Int) < 5 + belowV c 2) : padL l c = padL (l ++ [valV (belowC c 2)]) (valC (belowC c 2)) := by rw [padL, dif_pos h]
theorem padL_no {l : List DVal} {c : DCur} (h : ¬ (l.length : Int) < 5 + belowV c 2) : padL l c = (l, belowC c 2) := by rw [padL, dif_neg h]
def sLanyk : List ByteArray := [⟨#[]⟩, ⟨#[65]⟩, ⟨#[116, 104, 105, 114, 116, 101, 101, 110, 98, 121, 116, 101, 115]⟩, ⟨#[120]⟩]
noncomputable def anyF (c : DCur) : DFact := let f := factV c; let k := belowV (factC c) 10; let d := belowC (factC c) 10; if k = 0 then ⟨strV d sLanyk, f.Fields⟩ else if k = 1 then ⟨f.Kind, f.Fields ++ [anyvV d]⟩ else if k = 2 then ⟨f.Kind, (padL f.Fields d).1⟩ else f
noncomputable def anyFC (c : DCur) : DCur := let f := factV c; let k := belowV (factC c) 10; let d := belowC (factC c) 10; if k = 0 then strC d sLanyk else if k = 1 then anyvC d else if k = 2 then (padL f.Fields d).2 else d
def con_spec_l1Once : Con UU where
  α := DCur × Int
  md := [.box false, .ro]
  of := fun | [.box [.sl .byte a0, .lit (.int .i64 a1), .lit (.int .i64 a2)], .one (.lit (.int .i64 a3))] => some (⟨a0, a1, a2⟩, a3) | _ => none
  ds := fun (c, n) => [.box [.sl .byte c.b, .lit (.int .i64 c.i), .lit (.int .i64 c.h)], .one (.lit (.int .i64 n))]
  pre := fun (c, n) => [cOk c]
  res := fun (c, n) => ⟨[.one (.lit (.bool (onceV c n)))], true, [.box [.sl .byte ((belowC c n)).b, .lit (.int .i64 ((belowC c n)).i), .lit (.int .i64 ((belowC c n)).h)]]⟩
  law := by intro l x h; (try simp only at h); split at h <;> cases h; rfl
def ann_spec_l1Once : con_spec_l1Once.α → Nat → Option (Ann UU) := fun (c, n) => annL []
def use_spec_l1Once : List (FuncId × Con UU) := [(45, con_spec_l1Below)]
theorem vc_spec_l1Once (c : DCur) (n : Int) : goal EE use_spec_l1Once Go.Proofs.Try.f79 con_spec_l1Once ann_spec_l1Once (c, n) = ((0 : Int) ≤ c.i ∧ List.length c.b ≤ (4294967296 : Nat) ∧ (0 : Nat) = (0 : Nat) ∧ asD [DV.one (Cell.lit (Value.bool (belowV c n == (0 : Int))))] = asD [DV.one (Cell.lit (Value.bool (onceV c n)))] ∧ asD [DV.box [Cell.sl Cd.byte (belowC c n).b, Cell.lit (Value.int IntKind.i64 (belowC c n).i), Cell.lit (Value.int IntKind.i64 (belowC c n).h)]] = asD [DV.box [Cell.sl Cd.byte (belowC c n).b, Cell.lit (Value.int IntKind.i64 (belowC c n).i), Cell.lit (Value.int IntKind.i64 (belowC c n).h)]]) := by kernel_rfl
theorem ok_spec_l1Once : Holds EE (79, con_spec_l1Once) := by
  refine holds_of EE_ok Go.Proofs.Try.func79 con_spec_l1Once (by kernel_rfl) use_spec_l1Once (all_cons ok_spec_l1Below all_nil) ann_spec_l1Once (fun x hp hb => ?_)
  obtain ⟨c, n⟩ := x
  have hb_c : BdDV (U := UU) (.box [.sl .byte c.b, .lit (.int .i64 c.i), .lit (.int .i64 c.h)]) := hb _ (List.mem_cons_self)
  have hl_c_b : c.b.length ≤ 9223372036854775807 := Bd.len (U := UU) (τ := .byte) (xs := c.b) (hb_c _ (by simp))
  have hb_n : BdDV (U := UU) (.one (.lit (.int .i64 n))) := hb _ (List.mem_cons_of_mem _ (List.mem_cons_self))
  have hl_n := Bd.i64 hb_n
  have hp0 : cOk c := hp _ (List.mem_cons_self)
  clear hp hb
  rw [vc_spec_l1Once c n]
  exact ⟨hp0.1, hp0.2, rfl, rfl, rfl⟩
def con_spec_l1Str : Con UU where
  α := DCur × (List ByteArray)
  md := [.box false, .ro]
  of := fun | [.box [.sl .byte a0, .lit (.int .i64 a1), .lit (.int .i64 a2)], .one (.sl .str a3)] => some (⟨a0, a1, a2⟩, a3) | _ => none
  ds := fun (c, list) => [.box [.sl .byte c.b, .lit (.int .i64 c.i), .lit (.int .i64 c.h)], .one (.sl .str list)]
  pre := fun (c, list) => [cOk c, 1 ≤ list.length]
  res := fun (c, list) => ⟨[.one (.lit (.string (strV c list)))], true, [.box [.sl .byte ((strC c list)).b, .lit (.int .i64 ((strC c list)).i), .lit (.int .i64 ((strC c list)).h)]]⟩
  law := by intro l x h; (try simp only at h); split at h <;> cases h; rfl
def ann_spec_l1Str : con_spec_l1Str.α → Nat → Option (Ann UU) := fun (c, list) => annL []
def use_spec_l1Str : List (FuncId × Con UU) := [(45, con_spec_l1Below)]
theorem vc_spec_l1Str (c : DCur) (list : (List ByteArray)) : goal EE use_spec_l1Str Go.Proofs.Try.f82 con_spec_l1Str ann_spec_l1Str (c, list) = (let x0 : DCur := belowC c (↑(List.length list) : Int);
(0 : Int) ≤ c.i ∧ List.length c.b ≤ (4294967296 : Nat) ∧ (0 : Int) ≤ belowV c (↑(List.length list) : Int) ∧ Int.toNat (belowV c (↑(List.length list) : Int)) < List.length list ∧ (0 : Nat) = (0 : Nat) ∧ asD [DV.one (Cell.lit (Value.string (List.getD list (Int.toNat (belowV c (↑(List.length list) : Int))) noBytes)))] = asD [DV.one (Cell.lit (Value.string (strV c list)))] ∧ asD [DV.box [Cell.sl Cd.byte x0.b, Cell.lit (Value.int IntKind.i64 x0.i), Cell.lit (Value.int IntKind.i64 x0.h)]] = asD [DV.box [Cell.sl Cd.byte (strC c list).b, Cell.lit (Value.int IntKind.i64 (strC c list).i), Cell.lit (Value.int IntKind.i64 (strC c list).h)]]) := by kernel_rfl
theorem ok_spec_l1Str : Holds EE (82, con_spec_l1Str) := by
  refine holds_of EE_ok Go.Proofs.Try.func82 con_spec_l1Str (by kernel_rfl) use_spec_l1Str (all_cons ok_spec_l1Below all_nil) ann_spec_l1Str (fun x hp hb => ?_)
  obtain ⟨c, list⟩ := x
  have hb_c : BdDV (U := UU) (.box [.sl .byte c.b, .lit (.int .i64 c.i), .lit (.int .i64 c.h)]) := hb _ (List.mem_cons_self)
  have hl_c_b : c.b.length ≤ 9223372036854775807 := Bd.len (U := UU) (τ := .byte) (xs := c.b) (hb_c _ (by simp))
  have hb_list : BdDV (U := UU) (.one (.sl .str list)) := hb _ (List.mem_cons_of_mem _ (List.mem_cons_self))
  have hl_list : list.length ≤ 9223372036854775807 := Bd.len hb_list
  have hp0 : cOk c := hp _ (List.mem_cons_self)
  have hp1 : 1 ≤ list.length := hp _ (List.mem_cons_of_mem _ (List.mem_cons_self))
  clear hp hb
  rw [vc_spec_l1Str c list]
  dsimp only
  have hb := belowV_lt (c := c) (n := list.length) (by omega)
  exact ⟨hp0.1, hp0.2, hb.1, by omega, rfl, rfl, rfl⟩
def con_spec_l3Small : Con UU where
  α := DCur
  md := [.box false]
  of := fun | [.box [.sl .byte a0, .lit (.int .i64 a1), .lit (.int .i64 a2)]] => some ⟨a0, a1, a2⟩ | _ => none
  ds := fun c => [.box [.sl .byte c.b, .lit (.int .i64 c.i), .lit (.int .i64 c.h)]]
  pre := fun c => [cOk c]
  res := fun c => ⟨[.agg [.lit (.int .i64 ((smallV c)).K), .lit (.int .i64 ((smallV c)).N), .lit (.string ((smallV c)).S)]], true, [.box [.sl .byte ((smallC c)).b, .lit (.int .i64 ((smallC c)).i), .lit (.int .i64 ((smallC c)).h)]]⟩
  law := by intro l x h; (try simp only at h); split at h <;> cases h; rfl
def ann_spec_l3Small : con_spec_l3Small.α → Nat → Option (Ann UU) := fun c => annL []
def use_spec_l3Small : List (FuncId × Con UU) := [(79, con_spec_l1Once), (45, con_spec_l1Below), (82, con_spec_l1Str)]
theorem vc_spec_l3Small (c : DCur) : goal EE use_spec_l3Small Go.Proofs.Try.f93 con_spec_l3Small ann_spec_l3Small c = (let x0 : DCur := strC (belowC c (2 : Int)) [{ data := #[(97 : UInt8)] : ByteArray }, { data := #[(98 : UInt8)] : ByteArray }];
let x1 : List ByteArray := [{ data := #[(97 : UInt8)] : ByteArray }, { data := #[(98 : UInt8)] : ByteArray }];
let x2 : DCur := belowC (belowC c (2 : Int)) (3 : Int);
cOk c ∧ bif onceV c (2 : Int) then (0 : Int) ≤ (belowC c (2 : Int)).i ∧ List.length (belowC c (2 : Int)).b ≤ (4294967296 : Nat) ∧ (0 : Nat) = (0 : Nat) ∧ asD [DV.agg [Cell.lit (Value.int IntKind.i64 (1 : Int)), Cell.lit (Value.int IntKind.i64 (IntKind.wrap IntKind.i64 ((1 : Int) + belowV (belowC c (2 : Int)) (3 : Int)))), Cell.lit (Value.string { data := #[] : ByteArray })]] = asD [DV.agg [Cell.lit (Value.int IntKind.i64 (smallV c).K), Cell.lit (Value.int IntKind.i64 (smallV c).N), Cell.lit (Value.string (smallV c).S)]] ∧ asD [DV.box [Cell.sl Cd.byte x2.b, Cell.lit (Value.int IntKind.i64 x2.i), Cell.lit (Value.int IntKind.i64 x2.h)]] = asD [DV.box [Cell.sl Cd.byte (smallC c).b, Cell.lit (Value.int IntKind.i64 (smallC c).i), Cell.lit (Value.int IntKind.i64 (smallC c).h)]] else cOk (belowC c (2 : Int)) ∧ (1 : Nat) ≤ List.length x1 ∧ (0 : Nat) = (0 : Nat) ∧ asD [DV.agg [Cell.lit (Value.int IntKind.i64 (2 : Int)), Cell.lit (Value.int IntKind.i64 (0 : Int)), Cell.lit (Value.string (strV (belowC c (2 : Int)) x1))]] = asD [DV.agg [Cell.lit (Value.int IntKind.i64 (smallV c).K), Cell.lit (Value.int IntKind.i64 (smallV c).N), Cell.lit (Value.string (smallV c).S)]] ∧ asD [DV.box [Cell.sl Cd.byte x0.b, Cell.lit (Value.int IntKind.i64 x0.i), Cell.lit (Value.int IntKind.i64 x0.h)]] = asD [DV.box [Cell.sl Cd.byte (smallC c).b, Cell.lit (Value.int IntKind.i64 (smallC c).i), Cell.lit (Value.int IntKind.i64 (smallC c).h)]]) := by kernel_rfl
theorem ok_spec_l3Small : Holds EE (93, con_spec_l3Small) := by
  refine holds_of EE_ok Go.Proofs.Try.func93 con_spec_l3Small (by kernel_rfl) use_spec_l3Small (all_cons ok_spec_l1Once (all_cons ok_spec_l1Below (all_cons ok_spec_l1Str all_nil))) ann_spec_l3Small (fun (c : DCur) hp hb => ?_)
  have hb_c : BdDV (U := UU) (.box [.sl .byte c.b, .lit (.int .i64 c.i), .lit (.int .i64 c.h)]) := hb _ (List.mem_cons_self)
  have hl_c_b : c.b.length ≤ 9223372036854775807 := Bd.len (U := UU) (τ := .byte) (xs := c.b) (hb_c _ (by simp))
  have hp0 : cOk c := hp _ (List.mem_cons_self)
  clear hp hb
  rw [vc_spec_l3Small c]
  dsimp only
  refine ⟨hp0, if_cond (fun h => ?_) (fun h => ?_)⟩
  · have hb := belowV_lt (c := belowC c 2) (n := 3) (by omega)
    have h2 := cOk_below hp0 2
    rw [wrap_i64 (by omega) (by omega)]
    rw [smallV, smallC, if_pos h, if_pos h]; exact ⟨h2.1, h2.2, rfl, rfl, rfl⟩
  · have h2 := cOk_below hp0 2
    rw [smallV, smallC, if_neg (by simp [h]), if_neg (by simp [h])]; exact ⟨h2, by simp, rfl, rfl, rfl⟩
def con_spec_l2Draw : Con UU where
  α := DCur
  md := [.box false]
  of := fun | [.box [.sl .byte a0, .lit (.int .i64 a1), .lit (.int .i64 a2)]] => some ⟨a0, a1, a2⟩ | _ => none
  ds := fun c => [.box [.sl .byte c.b, .lit (.int .i64 c.i), .lit (.int .i64 c.h)]]
  pre := fun c => [cOk c]
  res := fun c => ⟨[.agg [.lit (.int .i64 ((valV c)).K), .lit (.int .i64 ((valV c)).N), .lit (.string ((valV c)).S)]], true, [.box [.sl .byte ((valC c)).b, .lit (.int .i64 ((valC c)).i), .lit (.int .i64 ((valC c)).h)]]⟩
  law := by intro l x h; (try simp only at h); split at h <;> cases h; rfl
def ann_spec_l2Draw : con_spec_l2Draw.α → Nat → Option (Ann UU) := fun c => annL []
def use_spec_l2Draw : List (FuncId × Con UU) := [(79, con_spec_l1Once), (46, con_spec_l1Int), (82, con_spec_l1Str)]
theorem vc_spec_l2Draw (c : DCur) : goal EE use_spec_l2Draw Go.Proofs.Try.f118 con_spec_l2Draw ann_spec_l2Draw c = (let x0 : DCur := strC (belowC c (2 : Int)) [{ data := #[] : ByteArray }, { data := #[(97 : UInt8)] : ByteArray }, { data := #[(98 : UInt8)] : ByteArray }, { data := #[(112 : UInt8), (97 : UInt8), (105 : UInt8), (100 : UInt8)] : ByteArray }, { data := #[(120 : UInt8), (95 : UInt8), (49 : UInt8)] : ByteArray }];
let x1 : DCur := belowC (belowC c (2 : Int)) (↑(List.length [(0 : Int), (1 : Int), (2 : Int), (3 : Int), (-1 : Int), (1000000000 : Int), (-1000000000 : Int)]) : Int);
let x2 : List ByteArray := [{ data := #[] : ByteArray }, { data := #[(97 : UInt8)] : ByteArray }, { data := #[(98 : UInt8)] : ByteArray }, { data := #[(112 : UInt8), (97 : UInt8), (105 : UInt8), (100 : UInt8)] : ByteArray }, { data := #[(120 : UInt8), (95 : UInt8), (49 : UInt8)] : ByteArray }];
let x3 : Nat := List.length [(0 : Int), (1 : Int), (2 : Int), (3 : Int), (-1 : Int), (1000000000 : Int), (-1000000000 : Int)];
cOk c ∧ bif onceV c (2 : Int) then (0 : Int) ≤ (belowC c (2 : Int)).i ∧ List.length (belowC c (2 : Int)).b ≤ (4294967296 : Nat) ∧ (1 : Nat) ≤ x3 ∧ (0 : Nat) = (0 : Nat) ∧ asD [DV.agg [Cell.lit (Value.int IntKind.i64 (1 : Int)), Cell.lit (Value.int IntKind.i64 (List.getD [(0 : Int), (1 : Int), (2 : Int), (3 : Int), (-1 : Int), (1000000000 : Int), (-1000000000 : Int)] (Int.toNat (belowV (belowC c (2 : Int)) (↑x3 : Int))) (0 : Int))), Cell.lit (Value.string { data := #[] : ByteArray })]] = asD [DV.agg [Cell.lit (Value.int IntKind.i64 (valV c).K), Cell.lit (Value.int IntKind.i64 (valV c).N), Cell.lit (Value.string (valV c).S)]] ∧ asD [DV.box [Cell.sl Cd.byte x1.b, Cell.lit (Value.int IntKind.i64 x1.i), Cell.lit (Value.int IntKind.i64 x1.h)]] = asD [DV.box [Cell.sl Cd.byte (valC c).b, Cell.lit (Value.int IntKind.i64 (valC c).i), Cell.lit (Value.int IntKind.i64 (valC c).h)]] else cOk (belowC c (2 : Int)) ∧ (1 : Nat) ≤ List.length x2 ∧ (0 : Nat) = (0 : Nat) ∧ asD [DV.agg [Cell.lit (Value.int IntKind.i64 (2 : Int)), Cell.lit (Value.int IntKind.i64 (0 : Int)), Cell.lit (Value.string (strV (belowC c (2 : Int)) x2))]] = asD [DV.agg [Cell.lit (Value.int IntKind.i64 (valV c).K), Cell.lit (Value.int IntKind.i64 (valV c).N), Cell.lit (Value.string (valV c).S)]] ∧ asD [DV.box [Cell.sl Cd.byte x0.b, Cell.lit (Value.int IntKind.i64 x0.i), Cell.lit (Value.int IntKind.i64 x0.h)]] = asD [DV.box [Cell.sl Cd.byte (valC c).b, Cell.lit (Value.int IntKind.i64 (valC c).i), Cell.lit (Value.int IntKind.i64 (valC c).h)]]) := by kernel_rfl
theorem ok_spec_l2Draw : Holds EE (118, con_spec_l2Draw) := by
  refine holds_of EE_ok Go.Proofs.Try.func118 con_spec_l2Draw (by kernel_rfl) use_spec_l2Draw (all_cons ok_spec_l1Once (all_cons ok_spec_l1Int (all_cons ok_spec_l1Str all_nil))) ann_spec_l2Draw (fun (c : DCur) hp hb => ?_)
  have hb_c : BdDV (U := UU) (.box [.sl .byte c.b, .lit (.int .i64 c.i), .lit (.int .i64 c.h)]) := hb _ (List.mem_cons_self)
  have hl_c_b : c.b.length ≤ 9223372036854775807 := Bd.len (U := UU) (τ := .byte) (xs := c.b) (hb_c _ (by simp))
  have hp0 : cOk c := hp _ (List.mem_cons_self)
  clear hp hb
  rw [vc_spec_l2Draw c]
  dsimp only
  have h2 := cOk_below hp0 2
  refine ⟨hp0, if_cond (fun h => ?_) (fun h => ?_)⟩
  · rw [valV, valC, if_pos h, if_pos h]; exact ⟨h2.1, h2.2, by simp, rfl, rfl, rfl⟩
  · rw [valV, valC, if_neg (by simp [h]), if_neg (by simp [h])]; exact ⟨h2, by simp, rfl, rfl, rfl⟩
def con_spec_l2Any : Con UU where
  α := DCur
  md := [.box false]
  of := fun | [.box [.sl .byte a0, .lit (.int .i64 a1), .lit (.int .i64 a2)]] => some ⟨a0, a1, a2⟩ | _ => none
  ds := fun c => [.box [.sl .byte c.b, .lit (.int .i64 c.i), .lit (.int .i64 c.h)]]
  pre := fun c => [cOk c]
  res := fun c => ⟨[.agg [.lit (.int .i64 ((anyvV c)).K), .lit (.int .i64 ((anyvV c)).N), .lit (.string ((anyvV c)).S)]], true, [.box [.sl .byte ((anyvC c)).b, .lit (.int .i64 ((anyvC c)).i), .lit (.int .i64 ((anyvC c)).h)]]⟩
  law := by intro l x h; (try simp only at h); split at h <;> cases h; rfl
def ann_spec_l2Any : con_spec_l2Any.α → Nat → Option (Ann UU) := fun c => annL []
def use_spec_l2Any : List (FuncId × Con UU) := [(118, con_spec_l2Draw), (45, con_spec_l1Below), (46, con_spec_l1Int), (82, con_spec_l1Str)]
theorem vc_spec_l2Any (c : DCur) : goal EE use_spec_l2Any Go.Proofs.Try.f84 con_spec_l2Any ann_spec_l2Any c = (let x0 : DCur := strC (belowC (valC c) (10 : Int)) [{ data := #[(65 : UInt8)] : ByteArray }, { data := #[(97 : UInt8), (32 : UInt8), (98 : UInt8)] : ByteArray }, { data := #[(116 : UInt8), (119 : UInt8), (101 : UInt8), (110 : UInt8), (116 : UInt8), (121 : UInt8), (111 : UInt8), (110 : UInt8), (101 : UInt8), (98 : UInt8), (121 : UInt8), (116 : UInt8), (101 : UInt8), (115 : UInt8), (116 : UInt8), (119 : UInt8), (101 : UInt8), (110 : UInt8), (116 : UInt8), (121 : UInt8), (111 : UInt8)] : ByteArray }, { data := #[(120 : UInt8)] : ByteArray }];
let x1 : List ByteArray := [{ data := #[(65 : UInt8)] : ByteArray }, { data := #[(97 : UInt8), (32 : UInt8), (98 : UInt8)] : ByteArray }, { data := #[(116 : UInt8), (119 : UInt8), (101 : UInt8), (110 : UInt8), (116 : UInt8), (121 : UInt8), (111 : UInt8), (110 : UInt8), (101 : UInt8), (98 : UInt8), (121 : UInt8), (116 : UInt8), (101 : UInt8), (115 : UInt8), (116 : UInt8), (119 : UInt8), (101 : UInt8), (110 : UInt8), (116 : UInt8), (121 : UInt8), (111 : UInt8)] : ByteArray }, { data := #[(120 : UInt8)] : ByteArray }];
let x2 : DCur := belowC (belowC (valC c) (10 : Int)) (↑(List.length [(1000000001 : Int), (5 : Int)]) : Int);
let x3 : DCur := belowC (valC c) (10 : Int);
let x4 : Nat := List.length [(1000000001 : Int), (5 : Int)];
cOk c ∧ (0 : Int) ≤ (valC c).i ∧ List.length (valC c).b ≤ (4294967296 : Nat) ∧ bif belowV (valC c) (10 : Int) == (0 : Int) then (0 : Int) ≤ x3.i ∧ List.length x3.b ≤ (4294967296 : Nat) ∧ (0 : Nat) = (0 : Nat) ∧ asD [DV.agg [Cell.lit (Value.int IntKind.i64 (belowV x3 (4 : Int))), Cell.lit (Value.int IntKind.i64 (valV c).N), Cell.lit (Value.string (valV c).S)]] = asD [DV.agg [Cell.lit (Value.int IntKind.i64 (anyvV c).K), Cell.lit (Value.int IntKind.i64 (anyvV c).N), Cell.lit (Value.string (anyvV c).S)]] ∧ asD [DV.box [Cell.sl Cd.byte (belowC x3 (4 : Int)).b, Cell.lit (Value.int IntKind.i64 (belowC x3 (4 : Int)).i), Cell.lit (Value.int IntKind.i64 (belowC x3 (4 : Int)).h)]] = asD [DV.box [Cell.sl Cd.byte (anyvC c).b, Cell.lit (Value.int IntKind.i64 (anyvC c).i), Cell.lit (Value.int IntKind.i64 (anyvC c).h)]] else bif belowV (valC c) (10 : Int) == (1 : Int) then (0 : Int) ≤ x3.i ∧ List.length x3.b ≤ (4294967296 : Nat) ∧ (1 : Nat) ≤ x4 ∧ (0 : Nat) = (0 : Nat) ∧ asD [DV.agg [Cell.lit (Value.int IntKind.i64 (valV c).K), Cell.lit (Value.int IntKind.i64 (List.getD [(1000000001 : Int), (5 : Int)] (Int.toNat (belowV x3 (↑x4 : Int))) (0 : Int))), Cell.lit (Value.string (valV c).S)]] = asD [DV.agg [Cell.lit (Value.int IntKind.i64 (anyvV c).K), Cell.lit (Value.int IntKind.i64 (anyvV c).N), Cell.lit (Value.string (anyvV c).S)]] ∧ asD [DV.box [Cell.sl Cd.byte x2.b, Cell.lit (Value.int IntKind.i64 x2.i), Cell.lit (Value.int IntKind.i64 x2.h)]] = asD [DV.box [Cell.sl Cd.byte (anyvC c).b, Cell.lit (Value.int IntKind.i64 (anyvC c).i), Cell.lit (Value.int IntKind.i64 (anyvC c).h)]] else bif belowV (valC c) (10 : Int) == (2 : Int) then cOk x3 ∧ (1 : Nat) ≤ List.length x1 ∧ (0 : Nat) = (0 : Nat) ∧ asD [DV.agg [Cell.lit (Value.int IntKind.i64 (valV c).K), Cell.lit (Value.int IntKind.i64 (valV c).N), Cell.lit (Value.string (strV x3 x1))]] = asD [DV.agg [Cell.lit (Value.int IntKind.i64 (anyvV c).K), Cell.lit (Value.int IntKind.i64 (anyvV c).N), Cell.lit (Value.string (anyvV c).S)]] ∧ asD [DV.box [Cell.sl Cd.byte x0.b, Cell.lit (Value.int IntKind.i64 x0.i), Cell.lit (Value.int IntKind.i64 x0.h)]] = asD [DV.box [Cell.sl Cd.byte (anyvC c).b, Cell.lit (Value.int IntKind.i64 (anyvC c).i), Cell.lit (Value.int IntKind.i64 (anyvC c).h)]] else (0 : Nat) = (0 : Nat) ∧ asD [DV.agg [Cell.lit (Value.int IntKind.i64 (valV c).K), Cell.lit (Value.int IntKind.i64 (valV c).N), Cell.lit (Value.string (valV c).S)]] = asD [DV.agg [Cell.lit (Value.int IntKind.i64 (anyvV c).K), Cell.lit (Value.int IntKind.i64 (anyvV c).N), Cell.lit (Value.string (anyvV c).S)]] ∧ asD [DV.box [Cell.sl Cd.byte x3.b, Cell.lit (Value.int IntKind.i64 x3.i), Cell.lit (Value.int IntKind.i64 x3.h)]] = asD [DV.box [Cell.sl Cd.byte (anyvC c).b, Cell.lit (Value.int IntKind.i64 (anyvC c).i), Cell.lit (Value.int IntKind.i64 (anyvC c).h)]]) := by kernel_rfl
theorem ok_spec_l2Any : Holds EE (84, con_spec_l2Any) := by
  refine holds_of EE_ok Go.Proofs.Try.func84 con_spec_l2Any (by kernel_rfl) use_spec_l2Any (all_cons ok_spec_l2Draw (all_cons ok_spec_l1Below (all_cons ok_spec_l1Int (all_cons ok_spec_l1Str all_nil)))) ann_spec_l2Any (fun (c : DCur) hp hb => ?_)
  have hb_c : BdDV (U := UU) (.box [.sl .byte c.b, .lit (.int .i64 c.i), .lit (.int .i64 c.h)]) := hb _ (List.mem_cons_self)
  have hl_c_b : c.b.length ≤ 9223372036854775807 := Bd.len (U := UU) (τ := .byte) (xs := c.b) (hb_c _ (by simp))
  have hp0 : cOk c := hp _ (List.mem_cons_self)
  clear hp hb
  rw [vc_spec_l2Any c]
  dsimp only
  have h2 := cOk_val hp0
  have h3 := cOk_below h2 10
  refine ⟨hp0, h2.1, h2.2, if_cond (fun h => ?_) (fun h => if_cond (fun h' => ?_) (fun h' => if_cond (fun h'' => ?_) (fun h'' => ?_)))⟩
  · have h := eq_of_beq h
    have e1 : anyvV c = ⟨belowV (belowC (valC c) 10) 4, (valV c).N, (valV c).S⟩ := by simp only [anyvV, h, if_true]
    have e2 : anyvC c = belowC (belowC (valC c) 10) 4 := by simp only [anyvC, h, if_true]
    rw [e1, e2]; exact ⟨h3.1, h3.2, rfl, rfl, rfl⟩
  · have h : ¬ belowV (valC c) 10 = 0 := by simpa using h
    have h' := eq_of_beq h'
    have e1 : anyvV c = ⟨(valV c).K, intV (belowC (valC c) 10) iLany, (valV c).S⟩ := by simp only [anyvV]; rw [if_neg h, if_pos h']
    have e2 : anyvC c = intC (belowC (valC c) 10) iLany := by simp only [anyvC]; rw [if_neg h, if_pos h']
    rw [e1, e2]; exact ⟨h3.1, h3.2, by simp, rfl, rfl, rfl⟩
  · have h : ¬ belowV (valC c) 10 = 0 := by simpa using h
    have h' : ¬ belowV (valC c) 10 = 1 := by simpa using h'
    have h'' := eq_of_beq h''
    have e1 : anyvV c = ⟨(valV c).K, (valV c).N, strV (belowC (valC c) 10) sLany⟩ := by simp only [anyvV]; rw [if_neg h, if_neg h', if_pos h'']
    have e2 : anyvC c = strC (belowC (valC c) 10) sLany := by simp only [anyvC]; rw [if_neg h, if_neg h', if_pos h'']
    rw [e1, e2]; exact ⟨h3, by simp, rfl, rfl, rfl⟩
  · have h : ¬ belowV (valC c) 10 = 0 := by simpa using h
    have h' : ¬ belowV (valC c) 10 = 1 := by simpa using h'
    have h'' : ¬ belowV (valC c) 10 = 2 := by simpa using h''
    have e1 : anyvV c = valV c := by simp only [anyvV]; rw [if_neg h, if_neg h', if_neg h'']
    have e2 : anyvC c = belowC (valC c) 10 := by simp only [anyvC]; rw [if_neg h, if_neg h', if_neg h'']
    rw [e1, e2]; exact ⟨rfl, rfl, rfl⟩
def con_spec_l3Draw : Con UU where
  α := DCur
  md := [.box false]
  of := fun | [.box [.sl .byte a0, .lit (.int .i64 a1), .lit (.int .i64 a2)]] => some ⟨a0, a1, a2⟩ | _ => none
  ds := fun c => [.box [.sl .byte c.b, .lit (.int .i64 c.i), .lit (.int .i64 c.h)]]
  pre := fun c => [cOk c]
  res := fun c => ⟨[.agg [.lit (.string ((factV c)).Kind), .sl .eVal ((factV c)).Fields]], true, [.box [.sl .byte ((factC c)).b, .lit (.int .i64 ((factC c)).i), .lit (.int .i64 ((factC c)).h)]]⟩
  law := by intro l x h; (try simp only at h); split at h <;> cases h; rfl
def I_spec_l3Draw_8 (c : DCur) : Int × (ByteArray × List DVal × Unit) × (ByteArray × List DVal × Unit) × (List Int × Int × Int × Unit) × Unit → Prop := fun (i, r, f, cu, _) => 0 ≤ i ∧ i ≤ factN c ∧ f.1 = strV c sLkind ∧ cOk ⟨cu.1, cu.2.1, cu.2.2.1⟩ ∧ f.2.1.length ≤ i ∧ smallsL (factN c - i).toNat f.2.1 ⟨cu.1, cu.2.1, cu.2.2.1⟩ = (factV c).Fields ∧ smallsC (factN c - i).toNat ⟨cu.1, cu.2.1, cu.2.2.1⟩ = factC c
def μ_spec_l3Draw_8 (c : DCur) : Int × (ByteArray × List DVal × Unit) × (ByteArray × List DVal × Unit) × (List Int × Int × Int × Unit) × Unit → Nat := fun (i, r, f, cu, _) => (factN c - i).toNat
def ann_spec_l3Draw : con_spec_l3Draw.α → Nat → Option (Ann UU) := fun c => annL [(8, annOf [.slot 5 (5, 1024) (.lit (.int .i64)), .box 2 (2, 1024) [.lit .str, .own .eVal true], .box 3 (3, 1024) [.lit .str, .own .eVal true], .box 0 (2000000, 0) [.shr .byte, .lit (.int .i64), .lit (.int .i64)]] (fun _ => I_spec_l3Draw_8 c) (μ_spec_l3Draw_8 c))]
def use_spec_l3Draw : List (FuncId × Con UU) := [(82, con_spec_l1Str), (79, con_spec_l1Once), (45, con_spec_l1Below), (93, con_spec_l3Small)]
theorem vc_spec_l3Draw (c : DCur) : goal EE use_spec_l3Draw Go.Proofs.Try.f117 con_spec_l3Draw ann_spec_l3Draw c = (let x0 : DCur := belowC (strC c [{ data := #[(111 : UInt8), (114 : UInt8), (100 : UInt8), (101 : UInt8), (114 : UInt8)] : ByteArray }, { data := #[(112 : UInt8), (97 : UInt8), (105 : UInt8), (100 : UInt8)] : ByteArray }, { data := #[(105 : UInt8), (116 : UInt8), (101 : UInt8), (109 : UInt8)] : ByteArray }, { data := #[(111 : UInt8), (114 : UInt8), (100 : UInt8), (101 : UInt8), (114 : UInt8)] : ByteArray }]) (12 : Int);
let x1 : List ByteArray := [{ data := #[(111 : UInt8), (114 : UInt8), (100 : UInt8), (101 : UInt8), (114 : UInt8)] : ByteArray }, { data := #[(112 : UInt8), (97 : UInt8), (105 : UInt8), (100 : UInt8)] : ByteArray }, { data := #[(105 : UInt8), (116 : UInt8), (101 : UInt8), (109 : UInt8)] : ByteArray }, { data := #[(111 : UInt8), (114 : UInt8), (100 : UInt8), (101 : UInt8), (114 : UInt8)] : ByteArray }];
cOk c ∧
  (1 : Nat) ≤ List.length x1 ∧
    bif ByteArray.toList (strV c x1) == ByteArray.toList { data := #[(105 : UInt8), (116 : UInt8), (101 : UInt8), (109 : UInt8)] : ByteArray } then
      cOk (strC c x1) ∧
        bif onceV (strC c x1) (12 : Int) then
          (0 : Int) ≤ x0.i ∧
            List.length x0.b ≤ (4294967296 : Nat) ∧
              I_spec_l3Draw_8 c ((0 : Int), ({ data := #[] : ByteArray }, [], PUnit.unit), (strV c x1, [], PUnit.unit), ((belowC x0 (6 : Int)).b, (belowC x0 (6 : Int)).i, (belowC x0 (6 : Int)).h, PUnit.unit), PUnit.unit) ∧
                ∀ (y : Int × (ByteArray × List DVal × PUnit) × (ByteArray × List DVal × PUnit) × (List Int × Int × Int × PUnit) × PUnit),
                  let x2 : DCur := smallC { b := y.2.2.2.1.1, i := y.2.2.2.1.2.1, h := y.2.2.2.1.2.2.1 : DCur };
                  let x3 : List DVal := [smallV { b := y.2.2.2.1.1, i := y.2.2.2.1.2.1, h := y.2.2.2.1.2.2.1 : DCur }];
                  I_spec_l3Draw_8 c y → bif decide (y.1 < belowV x0 (6 : Int)) then cOk { b := y.2.2.2.1.1, i := y.2.2.2.1.2.1, h := y.2.2.2.1.2.2.1 : DCur } ∧ List.length y.2.2.1.2.1 + List.length x3 ≤ (4294967296 : Nat) ∧ I_spec_l3Draw_8 c (IntKind.wrap IntKind.i64 (y.1 + (1 : Int)), (y.2.1.1, y.2.1.2.1, PUnit.unit), (y.2.2.1.1, y.2.2.1.2.1 ++ x3, PUnit.unit), (x2.b, x2.i, x2.h, PUnit.unit), PUnit.unit) ∧ μ_spec_l3Draw_8 c (IntKind.wrap IntKind.i64 (y.1 + (1 : Int)), (y.2.1.1, y.2.1.2.1, PUnit.unit), (y.2.2.1.1, y.2.2.1.2.1 ++ x3, PUnit.unit), (x2.b, x2.i, x2.h, PUnit.unit), PUnit.unit) < μ_spec_l3Draw_8 c y else (0 : Nat) = (0 : Nat) ∧ asD [DV.agg [Cell.lit (Value.string y.2.2.1.1), Cell.sl Cd.eVal y.2.2.1.2.1]] = asD [DV.agg [Cell.lit (Value.string (factV c).Kind), Cell.sl Cd.eVal (factV c).Fields]] ∧ asD [DV.box [Cell.sl Cd.byte y.2.2.2.1.1, Cell.lit (Value.int IntKind.i64 y.2.2.2.1.2.1), Cell.lit (Value.int IntKind.i64 y.2.2.2.1.2.2.1)]] = asD [DV.box [Cell.sl Cd.byte (factC c).b, Cell.lit (Value.int IntKind.i64 (factC c).i), Cell.lit (Value.int IntKind.i64 (factC c).h)]]
        else
          I_spec_l3Draw_8 c ((0 : Int), ({ data := #[] : ByteArray }, [], PUnit.unit), (strV c x1, [], PUnit.unit), (x0.b, x0.i, x0.h, PUnit.unit), PUnit.unit) ∧
            ∀ (y : Int × (ByteArray × List DVal × PUnit) × (ByteArray × List DVal × PUnit) × (List Int × Int × Int × PUnit) × PUnit),
              let x2 : DCur := smallC { b := y.2.2.2.1.1, i := y.2.2.2.1.2.1, h := y.2.2.2.1.2.2.1 : DCur };
              let x3 : List DVal := [smallV { b := y.2.2.2.1.1, i := y.2.2.2.1.2.1, h := y.2.2.2.1.2.2.1 : DCur }];
              I_spec_l3Draw_8 c y → bif decide (y.1 < (2 : Int)) then cOk { b := y.2.2.2.1.1, i := y.2.2.2.1.2.1, h := y.2.2.2.1.2.2.1 : DCur } ∧ List.length y.2.2.1.2.1 + List.length x3 ≤ (4294967296 : Nat) ∧ I_spec_l3Draw_8 c (IntKind.wrap IntKind.i64 (y.1 + (1 : Int)), (y.2.1.1, y.2.1.2.1, PUnit.unit), (y.2.2.1.1, y.2.2.1.2.1 ++ x3, PUnit.unit), (x2.b, x2.i, x2.h, PUnit.unit), PUnit.unit) ∧ μ_spec_l3Draw_8 c (IntKind.wrap IntKind.i64 (y.1 + (1 : Int)), (y.2.1.1, y.2.1.2.1, PUnit.unit), (y.2.2.1.1, y.2.2.1.2.1 ++ x3, PUnit.unit), (x2.b, x2.i, x2.h, PUnit.unit), PUnit.unit) < μ_spec_l3Draw_8 c y else (0 : Nat) = (0 : Nat) ∧ asD [DV.agg [Cell.lit (Value.string y.2.2.1.1), Cell.sl Cd.eVal y.2.2.1.2.1]] = asD [DV.agg [Cell.lit (Value.string (factV c).Kind), Cell.sl Cd.eVal (factV c).Fields]] ∧ asD [DV.box [Cell.sl Cd.byte y.2.2.2.1.1, Cell.lit (Value.int IntKind.i64 y.2.2.2.1.2.1), Cell.lit (Value.int IntKind.i64 y.2.2.2.1.2.2.1)]] = asD [DV.box [Cell.sl Cd.byte (factC c).b, Cell.lit (Value.int IntKind.i64 (factC c).i), Cell.lit (Value.int IntKind.i64 (factC c).h)]]
    else
      cOk (strC c x1) ∧
        bif onceV (strC c x1) (12 : Int) then
          (0 : Int) ≤ x0.i ∧
            List.length x0.b ≤ (4294967296 : Nat) ∧
              I_spec_l3Draw_8 c ((0 : Int), ({ data := #[] : ByteArray }, [], PUnit.unit), (strV c x1, [], PUnit.unit), ((belowC x0 (6 : Int)).b, (belowC x0 (6 : Int)).i, (belowC x0 (6 : Int)).h, PUnit.unit), PUnit.unit) ∧
                ∀ (y : Int × (ByteArray × List DVal × PUnit) × (ByteArray × List DVal × PUnit) × (List Int × Int × Int × PUnit) × PUnit),
                  let x2 : DCur := smallC { b := y.2.2.2.1.1, i := y.2.2.2.1.2.1, h := y.2.2.2.1.2.2.1 : DCur };
                  let x3 : List DVal := [smallV { b := y.2.2.2.1.1, i := y.2.2.2.1.2.1, h := y.2.2.2.1.2.2.1 : DCur }];
                  I_spec_l3Draw_8 c y → bif decide (y.1 < belowV x0 (6 : Int)) then cOk { b := y.2.2.2.1.1, i := y.2.2.2.1.2.1, h := y.2.2.2.1.2.2.1 : DCur } ∧ List.length y.2.2.1.2.1 + List.length x3 ≤ (4294967296 : Nat) ∧ I_spec_l3Draw_8 c (IntKind.wrap IntKind.i64 (y.1 + (1 : Int)), (y.2.1.1, y.2.1.2.1, PUnit.unit), (y.2.2.1.1, y.2.2.1.2.1 ++ x3, PUnit.unit), (x2.b, x2.i, x2.h, PUnit.unit), PUnit.unit) ∧ μ_spec_l3Draw_8 c (IntKind.wrap IntKind.i64 (y.1 + (1 : Int)), (y.2.1.1, y.2.1.2.1, PUnit.unit), (y.2.2.1.1, y.2.2.1.2.1 ++ x3, PUnit.unit), (x2.b, x2.i, x2.h, PUnit.unit), PUnit.unit) < μ_spec_l3Draw_8 c y else (0 : Nat) = (0 : Nat) ∧ asD [DV.agg [Cell.lit (Value.string y.2.2.1.1), Cell.sl Cd.eVal y.2.2.1.2.1]] = asD [DV.agg [Cell.lit (Value.string (factV c).Kind), Cell.sl Cd.eVal (factV c).Fields]] ∧ asD [DV.box [Cell.sl Cd.byte y.2.2.2.1.1, Cell.lit (Value.int IntKind.i64 y.2.2.2.1.2.1), Cell.lit (Value.int IntKind.i64 y.2.2.2.1.2.2.1)]] = asD [DV.box [Cell.sl Cd.byte (factC c).b, Cell.lit (Value.int IntKind.i64 (factC c).i), Cell.lit (Value.int IntKind.i64 (factC c).h)]]
        else
          I_spec_l3Draw_8 c ((0 : Int), ({ data := #[] : ByteArray }, [], PUnit.unit), (strV c x1, [], PUnit.unit), (x0.b, x0.i, x0.h, PUnit.unit), PUnit.unit) ∧
            ∀ (y : Int × (ByteArray × List DVal × PUnit) × (ByteArray × List DVal × PUnit) × (List Int × Int × Int × PUnit) × PUnit),
              let x2 : DCur := smallC { b := y.2.2.2.1.1, i := y.2.2.2.1.2.1, h := y.2.2.2.1.2.2.1 : DCur };
              let x3 : List DVal := [smallV { b := y.2.2.2.1.1, i := y.2.2.2.1.2.1, h := y.2.2.2.1.2.2.1 : DCur }];
              I_spec_l3Draw_8 c y → bif decide (y.1 < (1 : Int)) then cOk { b := y.2.2.2.1.1, i := y.2.2.2.1.2.1, h := y.2.2.2.1.2.2.1 : DCur } ∧ List.length y.2.2.1.2.1 + List.length x3 ≤ (4294967296 : Nat) ∧ I_spec_l3Draw_8 c (IntKind.wrap IntKind.i64 (y.1 + (1 : Int)), (y.2.1.1, y.2.1.2.1, PUnit.unit), (y.2.2.1.1, y.2.2.1.2.1 ++ x3, PUnit.unit), (x2.b, x2.i, x2.h, PUnit.unit), PUnit.unit) ∧ μ_spec_l3Draw_8 c (IntKind.wrap IntKind.i64 (y.1 + (1 : Int)), (y.2.1.1, y.2.1.2.1, PUnit.unit), (y.2.2.1.1, y.2.2.1.2.1 ++ x3, PUnit.unit), (x2.b, x2.i, x2.h, PUnit.unit), PUnit.unit) < μ_spec_l3Draw_8 c y else (0 : Nat) = (0 : Nat) ∧ asD [DV.agg [Cell.lit (Value.string y.2.2.1.1), Cell.sl Cd.eVal y.2.2.1.2.1]] = asD [DV.agg [Cell.lit (Value.string (factV c).Kind), Cell.sl Cd.eVal (factV c).Fields]] ∧ asD [DV.box [Cell.sl Cd.byte y.2.2.2.1.1, Cell.lit (Value.int IntKind.i64 y.2.2.2.1.2.1), Cell.lit (Value.int IntKind.i64 y.2.2.2.1.2.2.1)]] = asD [DV.box [Cell.sl Cd.byte (factC c).b, Cell.lit (Value.int IntKind.i64 (factC c).i), Cell.lit (Value.int IntKind.i64 (factC c).h)]]) := by kernel_rfl
theorem ok_spec_l3Draw : Holds EE (117, con_spec_l3Draw) := by
  refine holds_of EE_ok Go.Proofs.Try.func117 con_spec_l3Draw (by kernel_rfl) use_spec_l3Draw (all_cons ok_spec_l1Str (all_cons ok_spec_l1Once (all_cons ok_spec_l1Below (all_cons ok_spec_l3Small all_nil)))) ann_spec_l3Draw (fun (c : DCur) hp hb => ?_)
  have hb_c : BdDV (U := UU) (.box [.sl .byte c.b, .lit (.int .i64 c.i), .lit (.int .i64 c.h)]) := hb _ (List.mem_cons_self)
  have hl_c_b : c.b.length ≤ 9223372036854775807 := Bd.len (U := UU) (τ := .byte) (xs := c.b) (hb_c _ (by simp))
  have hp0 : cOk c := hp _ (List.mem_cons_self)
  clear hp hb
  rw [vc_spec_l3Draw c]
  dsimp only
  have hk := cOk_str hp0 sLkind
  have hd := cOk_factD hp0
  have hle := factN_le c
  have fin : ∀ (n : Int) (d : DCur), factN c = n → factD c = d →
      I_spec_l3Draw_8 c ((0 : Int), (noBytes, [], PUnit.unit), (strV c sLkind, [], PUnit.unit), (d.b, d.i, d.h, PUnit.unit), PUnit.unit) := by
    rintro n d rfl rfl
    exact ⟨by omega, by omega, rfl, hd, by simp, by simp only [Int.sub_zero]; rfl, by simp only [Int.sub_zero]; rfl⟩
  refine ⟨hp0, by simp, ?_⟩
  refine if_cond (fun h => ⟨hk, if_cond (fun h' => ⟨(cOk_below hk 12).1, (cOk_below hk 12).2, ?_⟩) (fun h' => ?_)⟩) (fun h => ⟨hk, if_cond (fun h' => ⟨(cOk_below hk 12).1, (cOk_below hk 12).2, ?_⟩) (fun h' => ?_)⟩)
  · have hN : factN c = belowV (belowC (strC c sLkind) 12) 6 := if_pos h'
    have hD : factD c = belowC (belowC (strC c sLkind) 12) 6 := if_pos h'
    refine ⟨fin _ _ hN hD, ?_⟩
    have hN' : belowV (belowC (strC c sLkind) 12) 6 = factN c := hN.symm
    rintro ⟨i, r, ⟨fk, fl, ⟨⟩⟩, ⟨cb, ci, ch, ⟨⟩⟩, ⟨⟩⟩ ⟨g1, g2, g3, g4, g5, g6, g7⟩
    simp only at g1 g2 g3 g4 g5 g6 g7 ⊢
    refine if_cond (fun hc => ?_) (fun hc => ?_)
    · have hc : i < factN c := by rw [hN]; exact of_decide_eq_true hc
      have e : (factN c - i).toNat = (factN c - (i + 1)).toNat + 1 := by omega
      rw [e] at g6 g7
      rw [wrap_i64 (by omega) (by omega)]
      exact ⟨g4, by simp only [List.length_cons, List.length_nil]; omega, ⟨by omega, by omega, g3, cOk_small g4, by simp only [List.length_append, List.length_cons, List.length_nil]; omega, g6, g7⟩, by simp only [μ_spec_l3Draw_8]; omega⟩
    · have hc : ¬ i < factN c := by rw [hN]; exact of_decide_eq_false hc
      have e : (factN c - i).toNat = 0 := by omega
      rw [e] at g6 g7
      have g6 : fl = (factV c).Fields := g6
      have g7 : (⟨cb, ci, ch⟩ : DCur) = factC c := g7
      have g3 : fk = (factV c).Kind := g3
      rw [← g7, ← g6, ← g3]
      exact ⟨by trivial, rfl, rfl⟩
  · have h : strV c sLkind = bItem := by rw [toList_beq] at h; exact of_decide_eq_true h
    have hN : factN c = 2 := by rw [factN, if_neg (by rw [show onceV (strC c sLkind) 12 = false from h']; simp), if_pos h]
    have hD : factD c = belowC (strC c sLkind) 12 := if_neg (by rw [show onceV (strC c sLkind) 12 = false from h']; simp)
    refine ⟨fin _ _ hN hD, ?_⟩
    rintro ⟨i, r, ⟨fk, fl, ⟨⟩⟩, ⟨cb, ci, ch, ⟨⟩⟩, ⟨⟩⟩ ⟨g1, g2, g3, g4, g5, g6, g7⟩
    simp only at g1 g2 g3 g4 g5 g6 g7 ⊢
    refine if_cond (fun hc => ?_) (fun hc => ?_)
    · have hc : i < factN c := by rw [hN]; exact of_decide_eq_true hc
      have e : (factN c - i).toNat = (factN c - (i + 1)).toNat + 1 := by omega
      rw [e] at g6 g7
      rw [wrap_i64 (by omega) (by omega)]
      exact ⟨g4, by simp only [List.length_cons, List.length_nil]; omega, ⟨by omega, by omega, g3, cOk_small g4, by simp only [List.length_append, List.length_cons, List.length_nil]; omega, g6, g7⟩, by simp only [μ_spec_l3Draw_8]; omega⟩
    · have hc : ¬ i < factN c := by rw [hN]; exact of_decide_eq_false hc
      have e : (factN c - i).toNat = 0 := by omega
      rw [e] at g6 g7
      have g6 : fl = (factV c).Fields := g6
      have g7 : (⟨cb, ci, ch⟩ : DCur) = factC c := g7
      have g3 : fk = (factV c).Kind := g3
      rw [← g7, ← g6, ← g3]
      exact ⟨by trivial, rfl, rfl⟩
  · have hN : factN c = belowV (belowC (strC c sLkind) 12) 6 := if_pos h'
    have hD : factD c = belowC (belowC (strC c sLkind) 12) 6 := if_pos h'
    refine ⟨fin _ _ hN hD, ?_⟩
    have hN' : belowV (belowC (strC c sLkind) 12) 6 = factN c := hN.symm
    rintro ⟨i, r, ⟨fk, fl, ⟨⟩⟩, ⟨cb, ci, ch, ⟨⟩⟩, ⟨⟩⟩ ⟨g1, g2, g3, g4, g5, g6, g7⟩
    simp only at g1 g2 g3 g4 g5 g6 g7 ⊢
    refine if_cond (fun hc => ?_) (fun hc => ?_)
    · have hc : i < factN c := by rw [hN]; exact of_decide_eq_true hc
      have e : (factN c - i).toNat = (factN c - (i + 1)).toNat + 1 := by omega
      rw [e] at g6 g7
      rw [wrap_i64 (by omega) (by omega)]
      exact ⟨g4, by simp only [List.length_cons, List.length_nil]; omega, ⟨by omega, by omega, g3, cOk_small g4, by simp only [List.length_append, List.length_cons, List.length_nil]; omega, g6, g7⟩, by simp only [μ_spec_l3Draw_8]; omega⟩
    · have hc : ¬ i < factN c := by rw [hN]; exact of_decide_eq_false hc
      have e : (factN c - i).toNat = 0 := by omega
      rw [e] at g6 g7
      have g6 : fl = (factV c).Fields := g6
      have g7 : (⟨cb, ci, ch⟩ : DCur) = factC c := g7
      have g3 : fk = (factV c).Kind := g3
      rw [← g7, ← g6, ← g3]
      exact ⟨by trivial, rfl, rfl⟩
  · have h : ¬ strV c sLkind = bItem := by rw [toList_beq] at h; exact of_decide_eq_false h
    have hN : factN c = 1 := by rw [factN, if_neg (by rw [show onceV (strC c sLkind) 12 = false from h']; simp), if_neg h]
    have hD : factD c = belowC (strC c sLkind) 12 := if_neg (by rw [show onceV (strC c sLkind) 12 = false from h']; simp)
    refine ⟨fin _ _ hN hD, ?_⟩
    rintro ⟨i, r, ⟨fk, fl, ⟨⟩⟩, ⟨cb, ci, ch, ⟨⟩⟩, ⟨⟩⟩ ⟨g1, g2, g3, g4, g5, g6, g7⟩
    simp only at g1 g2 g3 g4 g5 g6 g7 ⊢
    refine if_cond (fun hc => ?_) (fun hc => ?_)
    · have hc : i < factN c := by rw [hN]; exact of_decide_eq_true hc
      have e : (factN c - i).toNat = (factN c - (i + 1)).toNat + 1 := by omega
      rw [e] at g6 g7
      rw [wrap_i64 (by omega) (by omega)]
      exact ⟨g4, by simp only [List.length_cons, List.length_nil]; omega, ⟨by omega, by omega, g3, cOk_small g4, by simp only [List.length_append, List.length_cons, List.length_nil]; omega, g6, g7⟩, by simp only [μ_spec_l3Draw_8]; omega⟩
    · have hc : ¬ i < factN c := by rw [hN]; exact of_decide_eq_false hc
      have e : (factN c - i).toNat = 0 := by omega
      rw [e] at g6 g7
      have g6 : fl = (factV c).Fields := g6
      have g7 : (⟨cb, ci, ch⟩ : DCur) = factC c := g7
      have g3 : fk = (factV c).Kind := g3
      rw [← g7, ← g6, ← g3]
      exact ⟨by trivial, rfl, rfl⟩
def con_spec_l3Any : Con UU where
  α := DCur
  md := [.box false]
  of := fun | [.box [.sl .byte a0, .lit (.int .i64 a1), .lit (.int .i64 a2)]] => some ⟨a0, a1, a2⟩ | _ => none
  ds := fun c => [.box [.sl .byte c.b, .lit (.int .i64 c.i), .lit (.int .i64 c.h)]]
  pre := fun c => [cOk c]
  res := fun c => ⟨[.agg [.lit (.string ((anyF c)).Kind), .sl .eVal ((anyF c)).Fields]], true, [.box [.sl .byte ((anyFC c)).b, .lit (.int .i64 ((anyFC c)).i), .lit (.int .i64 ((anyFC c)).h)]]⟩
  law := by intro l x h; (try simp only at h); split at h <;> cases h; rfl
def I_spec_l3Any_8 (c : DCur) : (ByteArray × List DVal × Unit) × (ByteArray × List DVal × Unit) × (List Int × Int × Int × Unit) × Unit → Prop := fun (r, f, cu, _) => f.1 = (factV c).Kind ∧ cOk ⟨cu.1, cu.2.1, cu.2.2.1⟩ ∧ padL f.2.1 ⟨cu.1, cu.2.1, cu.2.2.1⟩ = padL (factV c).Fields (belowC (factC c) 10)
def μ_spec_l3Any_8 (c : DCur) : (ByteArray × List DVal × Unit) × (ByteArray × List DVal × Unit) × (List Int × Int × Int × Unit) × Unit → Nat := fun (r, f, cu, _) => 6 - f.2.1.length
def ann_spec_l3Any : con_spec_l3Any.α → Nat → Option (Ann UU) := fun c => annL [(8, annOf [.box 2 (2, 1024) [.lit .str, .own .eVal true], .box 3 (3, 1024) [.lit .str, .own .eVal true], .box 0 (2000000, 0) [.shr .byte, .lit (.int .i64), .lit (.int .i64)]] (fun _ => I_spec_l3Any_8 c) (μ_spec_l3Any_8 c))]
def use_spec_l3Any : List (FuncId × Con UU) := [(117, con_spec_l3Draw), (45, con_spec_l1Below), (82, con_spec_l1Str), (84, con_spec_l2Any), (118, con_spec_l2Draw)]
theorem vc_spec_l3Any (c : DCur) : goal EE use_spec_l3Any Go.Proofs.Try.f83 con_spec_l3Any ann_spec_l3Any c = (let x0 : DCur := strC (belowC (factC c) (10 : Int)) [{ data := #[] : ByteArray }, { data := #[(65 : UInt8)] : ByteArray }, { data := #[(116 : UInt8), (104 : UInt8), (105 : UInt8), (114 : UInt8), (116 : UInt8), (101 : UInt8), (101 : UInt8), (110 : UInt8), (98 : UInt8), (121 : UInt8), (116 : UInt8), (101 : UInt8), (115 : UInt8)] : ByteArray }, { data := #[(120 : UInt8)] : ByteArray }];
let x1 : List ByteArray := [{ data := #[] : ByteArray }, { data := #[(65 : UInt8)] : ByteArray }, { data := #[(116 : UInt8), (104 : UInt8), (105 : UInt8), (114 : UInt8), (116 : UInt8), (101 : UInt8), (101 : UInt8), (110 : UInt8), (98 : UInt8), (121 : UInt8), (116 : UInt8), (101 : UInt8), (115 : UInt8)] : ByteArray }, { data := #[(120 : UInt8)] : ByteArray }];
let x2 : DCur := belowC (factC c) (10 : Int);
cOk c ∧
  (0 : Int) ≤ (factC c).i ∧
    List.length (factC c).b ≤ (4294967296 : Nat) ∧
      bif belowV (factC c) (10 : Int) == (0 : Int) then cOk x2 ∧ (1 : Nat) ≤ List.length x1 ∧ (0 : Nat) = (0 : Nat) ∧ asD [DV.agg [Cell.lit (Value.string (strV x2 x1)), Cell.sl Cd.eVal (factV c).Fields]] = asD [DV.agg [Cell.lit (Value.string (anyF c).Kind), Cell.sl Cd.eVal (anyF c).Fields]] ∧ asD [DV.box [Cell.sl Cd.byte x0.b, Cell.lit (Value.int IntKind.i64 x0.i), Cell.lit (Value.int IntKind.i64 x0.h)]] = asD [DV.box [Cell.sl Cd.byte (anyFC c).b, Cell.lit (Value.int IntKind.i64 (anyFC c).i), Cell.lit (Value.int IntKind.i64 (anyFC c).h)]]
      else
        bif belowV (factC c) (10 : Int) == (1 : Int) then cOk x2 ∧ List.length (factV c).Fields + List.length [anyvV x2] ≤ (4294967296 : Nat) ∧ (0 : Nat) = (0 : Nat) ∧ asD [DV.agg [Cell.lit (Value.string (factV c).Kind), Cell.sl Cd.eVal ((factV c).Fields ++ [anyvV x2])]] = asD [DV.agg [Cell.lit (Value.string (anyF c).Kind), Cell.sl Cd.eVal (anyF c).Fields]] ∧ asD [DV.box [Cell.sl Cd.byte (anyvC x2).b, Cell.lit (Value.int IntKind.i64 (anyvC x2).i), Cell.lit (Value.int IntKind.i64 (anyvC x2).h)]] = asD [DV.box [Cell.sl Cd.byte (anyFC c).b, Cell.lit (Value.int IntKind.i64 (anyFC c).i), Cell.lit (Value.int IntKind.i64 (anyFC c).h)]]
        else
          bif belowV (factC c) (10 : Int) == (2 : Int) then
            I_spec_l3Any_8 c (({ data := #[] : ByteArray }, [], PUnit.unit), ((factV c).Kind, (factV c).Fields, PUnit.unit), (x2.b, x2.i, x2.h, PUnit.unit), PUnit.unit) ∧
              ∀ (y : (ByteArray × List DVal × PUnit) × (ByteArray × List DVal × PUnit) × (List Int × Int × Int × PUnit) × PUnit),
                let x3 : DCur := belowC { b := y.2.2.1.1, i := y.2.2.1.2.1, h := y.2.2.1.2.2.1 : DCur } (2 : Int);
                let x4 : Int := IntKind.wrap IntKind.i64 ((5 : Int) + belowV { b := y.2.2.1.1, i := y.2.2.1.2.1, h := y.2.2.1.2.2.1 : DCur } (2 : Int));
                let x5 : Int := (↑(List.length y.2.1.2.1) : Int);
                I_spec_l3Any_8 c y → (0 : Int) ≤ y.2.2.1.2.1 ∧ List.length y.2.2.1.1 ≤ (4294967296 : Nat) ∧ bif decide (x5 < x4) then cOk x3 ∧ List.length y.2.1.2.1 + List.length [valV x3] ≤ (4294967296 : Nat) ∧ I_spec_l3Any_8 c ((y.1.1, y.1.2.1, PUnit.unit), (y.2.1.1, y.2.1.2.1 ++ [valV x3], PUnit.unit), ((valC x3).b, (valC x3).i, (valC x3).h, PUnit.unit), PUnit.unit) ∧ μ_spec_l3Any_8 c ((y.1.1, y.1.2.1, PUnit.unit), (y.2.1.1, y.2.1.2.1 ++ [valV x3], PUnit.unit), ((valC x3).b, (valC x3).i, (valC x3).h, PUnit.unit), PUnit.unit) < μ_spec_l3Any_8 c y else (0 : Nat) = (0 : Nat) ∧ asD [DV.agg [Cell.lit (Value.string y.2.1.1), Cell.sl Cd.eVal y.2.1.2.1]] = asD [DV.agg [Cell.lit (Value.string (anyF c).Kind), Cell.sl Cd.eVal (anyF c).Fields]] ∧ asD [DV.box [Cell.sl Cd.byte x3.b, Cell.lit (Value.int IntKind.i64 x3.i), Cell.lit (Value.int IntKind.i64 x3.h)]] = asD [DV.box [Cell.sl Cd.byte (anyFC c).b, Cell.lit (Value.int IntKind.i64 (anyFC c).i), Cell.lit (Value.int IntKind.i64 (anyFC c).h)]]
          else (0 : Nat) = (0 : Nat) ∧ asD [DV.agg [Cell.lit (Value.string (factV c).Kind), Cell.sl Cd.eVal (factV c).Fields]] = asD [DV.agg [Cell.lit (Value.string (anyF c).Kind), Cell.sl Cd.eVal (anyF c).Fields]] ∧ asD [DV.box [Cell.sl Cd.byte x2.b, Cell.lit (Value.int IntKind.i64 x2.i), Cell.lit (Value.int IntKind.i64 x2.h)]] = asD [DV.box [Cell.sl Cd.byte (anyFC c).b, Cell.lit (Value.int IntKind.i64 (anyFC c).i), Cell.lit (Value.int IntKind.i64 (anyFC c).h)]]) := by kernel_rfl
theorem ok_spec_l3Any : Holds EE (83, con_spec_l3Any) := by
  refine holds_of EE_ok Go.Proofs.Try.func83 con_spec_l3Any (by kernel_rfl) use_spec_l3Any (all_cons ok_spec_l3Draw (all_cons ok_spec_l1Below (all_cons ok_spec_l1Str (all_cons ok_spec_l2Any (all_cons ok_spec_l2Draw all_nil))))) ann_spec_l3Any (fun (c : DCur) hp hb => ?_)
  have hb_c : BdDV (U := UU) (.box [.sl .byte c.b, .lit (.int .i64 c.i), .lit (.int .i64 c.h)]) := hb _ (List.mem_cons_self)
  have hl_c_b : c.b.length ≤ 9223372036854775807 := Bd.len (U := UU) (τ := .byte) (xs := c.b) (hb_c _ (by simp))
  have hp0 : cOk c := hp _ (List.mem_cons_self)
  clear hp hb
  rw [vc_spec_l3Any c]
  dsimp only
  have h2 := cOk_fact hp0
  have h3 := cOk_below h2 10
  have hle := factN_le c
  have hl5 : (factV c).Fields.length ≤ 5 := by rw [factV_len]; omega
  refine ⟨hp0, h2.1, h2.2, if_cond (fun h => ?_) (fun h => if_cond (fun h' => ?_) (fun h' => if_cond (fun h'' => ?_) (fun h'' => ?_)))⟩
  · have h := eq_of_beq h
    have e1 : anyF c = ⟨strV (belowC (factC c) 10) sLanyk, (factV c).Fields⟩ := by simp only [anyF, h, if_true]
    have e2 : anyFC c = strC (belowC (factC c) 10) sLanyk := by simp only [anyFC, h, if_true]
    rw [e1, e2]; exact ⟨h3, by simp, rfl, rfl, rfl⟩
  · have h : ¬ belowV (factC c) 10 = 0 := by simpa using h
    have h' := eq_of_beq h'
    have e1 : anyF c = ⟨(factV c).Kind, (factV c).Fields ++ [anyvV (belowC (factC c) 10)]⟩ := by simp only [anyF]; rw [if_neg h, if_pos h']
    have e2 : anyFC c = anyvC (belowC (factC c) 10) := by simp only [anyFC]; rw [if_neg h, if_pos h']
    rw [e1, e2]; exact ⟨h3, by simp only [List.length_cons, List.length_nil]; omega, rfl, rfl, rfl⟩
  · have h : ¬ belowV (factC c) 10 = 0 := by simpa using h
    have h' : ¬ belowV (factC c) 10 = 1 := by simpa using h'
    have h'' := eq_of_beq h''
    have e1 : anyF c = ⟨(factV c).Kind, (padL (factV c).Fields (belowC (factC c) 10)).1⟩ := by simp only [anyF]; rw [if_neg h, if_neg h', if_pos h'']
    have e2 : anyFC c = (padL (factV c).Fields (belowC (factC c) 10)).2 := by simp only [anyFC]; rw [if_neg h, if_neg h', if_pos h'']
    rw [e1, e2]
    refine ⟨⟨rfl, h3, rfl⟩, ?_⟩
    rintro ⟨r, ⟨fk, fl, ⟨⟩⟩, ⟨cb, ci, ch, ⟨⟩⟩, ⟨⟩⟩ ⟨g1, g2, g3⟩
    simp only at g1 g2 g3 ⊢
    have hb := belowV_lt (c := ⟨cb, ci, ch⟩) (n := 2) (by omega)
    rw [wrap_i64 (n := 5 + belowV ⟨cb, ci, ch⟩ 2) (by omega) (by omega)]
    refine ⟨g2.1, g2.2, if_cond (fun hc => ?_) (fun hc => ?_)⟩
    · have hc := of_decide_eq_true hc
      rw [padL_yes hc] at g3
      exact ⟨cOk_below g2 2, by simp only [List.length_cons, List.length_nil]; omega, ⟨g1, cOk_val (cOk_below g2 2), g3⟩, by simp only [μ_spec_l3Any_8, List.length_append, List.length_cons, List.length_nil]; omega⟩
    · have hc := of_decide_eq_false hc
      rw [padL_no hc] at g3
      rw [← g3, ← g1]
      exact ⟨by trivial, rfl, rfl⟩
  · have h : ¬ belowV (factC c) 10 = 0 := by simpa using h
    have h' : ¬ belowV (factC c) 10 = 1 := by simpa using h'
    have h'' : ¬ belowV (factC c) 10 = 2 := by simpa using h''
    have e1 : anyF c = factV c := by simp only [anyF]; rw [if_neg h, if_neg h', if_neg h'']
    have e2 : anyFC c = belowC (factC c) 10 := by simp only [anyFC]; rw [if_neg h, if_neg h', if_neg h'']
    rw [e1, e2]; exact ⟨rfl, rfl, rfl⟩
def con_laws_big : Con UU where
  α := (List Int)
  md := [.ro]
  of := fun | [.one (.sl .byte a0)] => some a0 | _ => none
  ds := fun code => [.one (.sl .byte code)]
  pre := fun code => []
  res := fun code => ⟨[.one (.lit (.bool (decide (code.length > 1048576))))], true, []⟩
  law := by intro l x h; (try simp only at h); split at h <;> cases h; rfl
def ann_laws_big : con_laws_big.α → Nat → Option (Ann UU) := fun code => annL []
def use_laws_big : List (FuncId × Con UU) := []
theorem vc_laws_big (code : (List Int)) : goal EE use_laws_big Go.Proofs.Try.f8 con_laws_big ann_laws_big code = (Lf [DV.one (Cell.lit (Value.bool (decide ((↑(List.length code) : Int) > (1048576 : Int)))))] [DV.one (Cell.lit (Value.bool (decide (List.length code > (1048576 : Nat)))))]) := by kernel_rfl
theorem ok_laws_big : Holds EE (8, con_laws_big) := by
  refine holds_of EE_ok Go.Proofs.Try.func8 con_laws_big (by kernel_rfl) use_laws_big all_nil ann_laws_big (fun (code : (List Int)) hp hb => ?_)
  have hb_code : BdDV (U := UU) (.one (.sl .byte code)) := hb _ (List.mem_cons_self)
  have hl_code : code.length ≤ 9223372036854775807 := Bd.len hb_code
  clear hp hb
  rw [vc_laws_big code]
  exact Lf_b (decide_eq_decide.2 (by omega))
theorem factOk_fields {f : DFact} (h : factOk f = true) : f.Fields.length ≤ 5 ∧ f.Fields.all valOk = true ∧ nameOk f.Kind = true ∧ f.Kind.size ≤ 12 := by
  simp only [factOk, Bool.and_eq_true, decide_eq_true_eq] at h
  have h2 := h.1.1
  simp only [nameOk, Bool.and_eq_true, decide_eq_true_eq] at h2
  exact ⟨h.1.2, h.2, h.1.1, h2.1.1.2⟩
theorem smallV_ok (c : DCur) : valOk (smallV c) = true := by
  unfold smallV; split
  · have := belowV_lt (c := belowC c 2) (n := 3) (by omega)
    simp only [valOk, decide_true, cond_true, Bool.and_true]
    simp only [decide_eq_true_eq]; omega
  · have h := strV_all (belowC c 2) (l := sLsmall) (fun s => decide (s.size ≤ 20) && wordS s) (by decide) (by rfl)
    simp only [valOk]
    simpa using h
def vFit (v : DVal) : Bool := decide (v.S.size ≤ 21)
def fFit (f : DFact) : Prop := f.Kind.size ≤ 13 ∧ f.Fields.length ≤ 6 ∧ f.Fields.all vFit = true
theorem valOk_fit {v : DVal} (h : valOk v = true) : vFit v = true := by
  simp only [valOk] at h
  simp only [vFit, decide_eq_true_eq]
  by_cases h1 : v.K = 1
  · simp [h1] at h; rw [h.2]; simp [noBytes]
  · by_cases h2 : v.K = 2
    · simp [h2] at h; omega
    · simp [h1, h2] at h
theorem smallsL_all {p : DVal → Bool} (hp : ∀ c, p (smallV c) = true) : ∀ (k : Nat) (l : List DVal) (c : DCur), l.all p = true → (smallsL k l c).all p = true
  | 0, _, _, h => h
  | k + 1, l, c, h => smallsL_all hp k _ _ (by rw [List.all_append, h]; simp [hp])
theorem factV_ok (c : DCur) : factOk (factV c) = true := by
  have h1 := factV_len c
  have h2 := factN_le c
  have h3 : nameOk (factV c).Kind = true := strV_all c (l := sLkind) nameOk (by decide) (by rfl)
  have h4 : (factV c).Fields.all valOk = true := smallsL_all smallV_ok _ _ _ rfl
  simp only [factOk, h3, h4, Bool.and_true, Bool.true_and, decide_eq_true_eq]
  omega
theorem ok_fit {f : DFact} (h : factOk f = true) : fFit f := by
  obtain ⟨h1, h2, h3, h4⟩ := factOk_fields h
  exact ⟨by omega, by omega, List.all_eq_true.2 fun v hv => valOk_fit (List.all_eq_true.1 h2 v hv)⟩
theorem vals_size : ∀ {l : List DVal}, l.all vFit = true → sizeValS l ≤ 22 * l.length
  | [], _ => by simp [sizeValS]
  | x :: l, h => by
    simp only [List.all_cons, Bool.and_eq_true] at h
    have h1 := vals_size h.2
    have h2 := h.1
    simp only [vFit, decide_eq_true_eq] at h2
    simp only [sizeValS, List.length_cons, List.map_cons, List.sum_cons, sizeVal] at h1 ⊢
    omega
theorem fit_size {f : DFact} (h : fFit f) : sizeFact f ≤ 145 := by
  obtain ⟨h1, h2, h3⟩ := h
  have := vals_size h3
  simp only [sizeFact]; omega
theorem sumB {α : Type} (f : α → Nat) (B : Nat) : ∀ (l : List α), (∀ x ∈ l, f x ≤ B) → (l.map f).sum ≤ l.length * B
  | [], _ => by simp
  | x :: l, h => by
    have h1 := sumB f B l (fun y hy => h y (List.mem_cons_of_mem _ hy))
    have h2 := h x List.mem_cons_self
    simp only [List.map_cons, List.sum_cons, List.length_cons, Nat.add_mul]; omega
def iLat : List Int := [0, 1, 2, 3, 9, 1000000000]
def oneW (c : DCur) : DTimer := ⟨intV c iLat, factV (intC c iLat)⟩
def oneWC (c : DCur) : DCur := factC (intC c iLat)
theorem cOk_one {c : DCur} (h : cOk c) : cOk (oneWC c) := cOk_fact (cOk_int h _)
def wFit (t : DTimer) : Prop := sizeFact t.F ≤ 145
theorem oneW_fit (c : DCur) : wFit (oneW c) := fit_size (ok_fit (factV_ok _))
theorem timerS_size {l : List DTimer} (h : ∀ t ∈ l, wFit t) : sizeTimerS l ≤ l.length * 146 := by
  have := sumB sizeTimer 145 l (fun t ht => h t ht)
  simp only [sizeTimerS, Nat.mul_add]; omega
theorem addT_fit {l : List DTimer} {x : DTimer} (h : ∀ t ∈ l, wFit t) (hx : wFit x) : ∀ t ∈ addT l x, wFit t := by
  unfold addT; split
  · intro t ht
    rcases List.mem_append.1 ht with ht | ht
    · exact h t (List.mem_of_mem_take ht)
    · rcases List.mem_cons.1 ht with rfl | ht
      · exact hx
      · exact h t (List.mem_of_mem_drop ht)
  · exact h
theorem addT_len (l : List DTimer) (x : DTimer) : (addT l x).length ≤ l.length + 1 := by
  unfold addT; split
  · have := posT_le l x.At l.length
    simp; omega
  · omega
def drawW : Nat → List DTimer → DCur → List DTimer × DCur
  | 0, l, c => (l, c)
  | k + 1, l, c => drawW k (addT l (oneW c)) (oneWC c)
theorem drawW_ok : ∀ (k : Nat) {l : List DTimer} {c : DCur}, cOk c → (∀ t ∈ l, wFit t) → cOk (drawW k l c).2 ∧ (∀ t ∈ (drawW k l c).1, wFit t) ∧ (drawW k l c).1.length ≤ l.length + k
  | 0, _, _, h, h2 => ⟨h, h2, Nat.le_refl _⟩
  | k + 1, l, c, h, h2 => by
    obtain ⟨h3, h4, h5⟩ := drawW_ok k (cOk_one h) (addT_fit h2 (oneW_fit c))
    have := addT_len l (oneW c)
    exact ⟨h3, h4, by simp only [drawW]; omega⟩
def drawnW (c : DCur) : List DTimer × DCur := drawW (belowV c 6).toNat [] (belowC c 6)
theorem drawnW_ok {c : DCur} (h : cOk c) : cOk (drawnW c).2 ∧ (∀ t ∈ (drawnW c).1, wFit t) ∧ (drawnW c).1.length ≤ 5 := by
  have hb := belowV_lt (c := c) (n := 6) (by omega)
  obtain ⟨h1, h2, h3⟩ := drawW_ok (belowV c 6).toNat (l := []) (cOk_below h 6) (by simp)
  exact ⟨h1, h2, by simp only [List.length_nil] at h3; simp only [drawnW]; omega⟩
def lastW : DTimer := ⟨1000000000, ⟨⟨#[120]⟩, []⟩⟩
theorem lastW_fit : wFit lastW := by show sizeFact lastW.F ≤ 145; simp [lastW, sizeFact, sizeValS, ByteArray.size]
def fillW (l : List DTimer) (c : DCur) : Nat → List DTimer × DCur
  | 0 => (l, c)
  | k + 1 => if (l.length : Int) < 29 + belowV c 3 then fillW (l ++ [lastW]) (belowC c 3) k else (l, belowC c 3)
theorem fillW_ok : ∀ (k : Nat) {l : List DTimer} {c : DCur}, cOk c → (∀ t ∈ l, wFit t) → l.length ≤ 31 → cOk (fillW l c k).2 ∧ (∀ t ∈ (fillW l c k).1, wFit t) ∧ (fillW l c k).1.length ≤ 31
  | 0, _, _, h, h1, h2 => ⟨h, h1, h2⟩
  | k + 1, l, c, h, h1, h2 => by
    have hb := belowV_lt (c := c) (n := 3) (by omega)
    simp only [fillW]; split
    · refine fillW_ok k (cOk_below h 3) (fun t ht => ?_) (by simp only [List.length_append, List.length_cons, List.length_nil]; omega)
      rcases List.mem_append.1 ht with ht | ht
      · exact h1 t ht
      · rw [List.mem_singleton.1 ht]; show sizeFact lastW.F ≤ 145; simp [lastW, sizeFact, sizeValS, ByteArray.size]
    · exact ⟨cOk_below h 3, h1, h2⟩
def moreW (c : DCur) : List DTimer × DCur := let p := drawnW c; if onceV p.2 4 then (p.1 ++ [oneW (belowC p.2 4)], oneWC (belowC p.2 4)) else (p.1, belowC p.2 4)
theorem moreW_ok {c : DCur} (h : cOk c) : cOk (moreW c).2 ∧ (∀ t ∈ (moreW c).1, wFit t) ∧ (moreW c).1.length ≤ 6 := by
  obtain ⟨h1, h2, h3⟩ := drawnW_ok h
  simp only [moreW]; split
  · refine ⟨cOk_one (cOk_below h1 4), fun t ht => ?_, by simp only [List.length_append, List.length_cons, List.length_nil]; omega⟩
    rcases List.mem_append.1 ht with ht | ht
    · exact h2 t ht
    · rw [List.mem_singleton.1 ht]; exact oneW_fit _
  · exact ⟨cOk_below h1 4, h2, by show (drawnW c).1.length ≤ 6; omega⟩
def anyW (c : DCur) : List DTimer × DCur := let p := moreW c; if onceV p.2 30 then fillW p.1 (belowC p.2 30) (32 - p.1.length) else (p.1, belowC p.2 30)
theorem anyW_ok {c : DCur} (h : cOk c) : cOk (anyW c).2 ∧ (∀ t ∈ (anyW c).1, wFit t) ∧ (anyW c).1.length ≤ 31 := by
  obtain ⟨h1, h2, h3⟩ := moreW_ok h
  simp only [anyW]; split
  · exact fillW_ok _ (cOk_below h1 30) h2 (by omega)
  · exact ⟨cOk_below h1 30, h2, by show (moreW c).1.length ≤ 31; omega⟩
def iLbad : List Int := [-1, 1000000001]
noncomputable def bentW (c : DCur) : DTimer := let x := oneW c; let d := oneWC c; let k := belowV d 8
  if k = 0 then ⟨intV (belowC d 8) iLbad, x.F⟩ else if k = 1 then ⟨x.At, anyF (belowC d 8)⟩ else x
noncomputable def bentWC (c : DCur) : DCur := let d := oneWC c; let k := belowV d 8
  if k = 0 then intC (belowC d 8) iLbad else if k = 1 then anyFC (belowC d 8) else belowC d 8
theorem if_eq {a b : Int} {P Q : Prop} (h1 : a = b → P) (h2 : ¬ a = b → Q) : bif a == b then P else Q := if_cond (fun h => h1 (eq_of_beq h)) (fun h => h2 (fun e => by rw [e] at h; simp at h))
def con_spec_l17One : Con UU where
  α := DCur
  md := [.box false]
  of := fun | [.box [.sl .byte a0, .lit (.int .i64 a1), .lit (.int .i64 a2)]] => some ⟨a0, a1, a2⟩ | _ => none
  ds := fun c => [.box [.sl .byte c.b, .lit (.int .i64 c.i), .lit (.int .i64 c.h)]]
  pre := fun c => [cOk c]
  res := fun c => ⟨[.agg [.lit (.int .i64 ((oneW c)).At), .lit (.string (((oneW c)).F).Kind), .sl .eVal (((oneW c)).F).Fields]], true, [.box [.sl .byte ((oneWC c)).b, .lit (.int .i64 ((oneWC c)).i), .lit (.int .i64 ((oneWC c)).h)]]⟩
  law := by intro l x h; (try simp only at h); split at h <;> cases h; rfl
def ann_spec_l17One : con_spec_l17One.α → Nat → Option (Ann UU) := fun c => annL []
def use_spec_l17One : List (FuncId × Con UU) := [(46, con_spec_l1Int), (117, con_spec_l3Draw)]
theorem vc_spec_l17One (c : DCur) : goal EE use_spec_l17One Go.Proofs.Try.f116 con_spec_l17One ann_spec_l17One c = (let x0 : DCur := factC (belowC c (↑(List.length [(0 : Int), (1 : Int), (2 : Int), (3 : Int), (9 : Int), (1000000000 : Int)]) : Int));
let x1 : DFact := factV (belowC c (↑(List.length [(0 : Int), (1 : Int), (2 : Int), (3 : Int), (9 : Int), (1000000000 : Int)]) : Int));
let x2 : Int := (↑(List.length [(0 : Int), (1 : Int), (2 : Int), (3 : Int), (9 : Int), (1000000000 : Int)]) : Int);
let x3 : List Int := [(0 : Int), (1 : Int), (2 : Int), (3 : Int), (9 : Int), (1000000000 : Int)];
(0 : Int) ≤ c.i ∧ List.length c.b ≤ (4294967296 : Nat) ∧ (1 : Nat) ≤ List.length x3 ∧ cOk (belowC c x2) ∧ (0 : Nat) = (0 : Nat) ∧ asD [DV.agg [Cell.lit (Value.int IntKind.i64 (List.getD x3 (Int.toNat (belowV c x2)) (0 : Int))), Cell.lit (Value.string x1.Kind), Cell.sl Cd.eVal x1.Fields]] = asD [DV.agg [Cell.lit (Value.int IntKind.i64 (oneW c).At), Cell.lit (Value.string (oneW c).F.Kind), Cell.sl Cd.eVal (oneW c).F.Fields]] ∧ asD [DV.box [Cell.sl Cd.byte x0.b, Cell.lit (Value.int IntKind.i64 x0.i), Cell.lit (Value.int IntKind.i64 x0.h)]] = asD [DV.box [Cell.sl Cd.byte (oneWC c).b, Cell.lit (Value.int IntKind.i64 (oneWC c).i), Cell.lit (Value.int IntKind.i64 (oneWC c).h)]]) := by kernel_rfl
theorem ok_spec_l17One : Holds EE (116, con_spec_l17One) := by
  refine holds_of EE_ok Go.Proofs.Try.func116 con_spec_l17One (by kernel_rfl) use_spec_l17One (all_cons ok_spec_l1Int (all_cons ok_spec_l3Draw all_nil)) ann_spec_l17One (fun (c : DCur) hp hb => ?_)
  have hb_c : BdDV (U := UU) (.box [.sl .byte c.b, .lit (.int .i64 c.i), .lit (.int .i64 c.h)]) := hb _ (List.mem_cons_self)
  have hl_c_b : c.b.length ≤ 9223372036854775807 := Bd.len (U := UU) (τ := .byte) (xs := c.b) (hb_c _ (by simp))
  have hp0 : cOk c := hp _ (List.mem_cons_self)
  clear hp hb
  rw [vc_spec_l17One c]
  dsimp only
  exact ⟨hp0.1, hp0.2, by simp, cOk_int hp0 iLat, by trivial, rfl, rfl⟩
def con_spec_l17Draw : Con UU where
  α := DCur
  md := [.box false]
  of := fun | [.box [.sl .byte a0, .lit (.int .i64 a1), .lit (.int .i64 a2)]] => some ⟨a0, a1, a2⟩ | _ => none
  ds := fun c => [.box [.sl .byte c.b, .lit (.int .i64 c.i), .lit (.int .i64 c.h)]]
  pre := fun c => [cOk c]
  res := fun c => ⟨[.one (.sl .eTimer ((drawnW c).1))], true, [.box [.sl .byte (((drawnW c).2)).b, .lit (.int .i64 (((drawnW c).2)).i), .lit (.int .i64 (((drawnW c).2)).h)]]⟩
  law := by intro l x h; (try simp only at h); split at h <;> cases h; rfl
def I_spec_l17Draw_3 (c : DCur) : List DTimer × Int × (List Int × Int × Int × Unit) × Unit → Prop := fun (l, i, cu, _) => 0 ≤ i ∧ i ≤ 5 ∧ (∀ t ∈ l, wFit t) ∧ l.length + i ≤ 5 ∧ cOk ⟨cu.1, cu.2.1, cu.2.2.1⟩ ∧ drawW i.toNat l ⟨cu.1, cu.2.1, cu.2.2.1⟩ = drawnW c
def μ_spec_l17Draw_3 (c : DCur) : List DTimer × Int × (List Int × Int × Int × Unit) × Unit → Nat := fun (l, i, cu, _) => i.toNat
def ann_spec_l17Draw : con_spec_l17Draw.α → Nat → Option (Ann UU) := fun c => annL [(3, annOf [.slot 3 (3, 1024) (.own .eTimer true), .slot 4 (4, 1024) (.lit (.int .i64)), .box 0 (2000000, 0) [.shr .byte, .lit (.int .i64), .lit (.int .i64)]] (fun _ => I_spec_l17Draw_3 c) (μ_spec_l17Draw_3 c))]
def use_spec_l17Draw : List (FuncId × Con UU) := [(45, con_spec_l1Below), (116, con_spec_l17One), (25, con_spec_AddTimer)]
theorem vc_spec_l17Draw (c : DCur) : goal EE use_spec_l17Draw Go.Proofs.Try.f115 con_spec_l17Draw ann_spec_l17Draw c = ((0 : Int) ≤ c.i ∧
  List.length c.b ≤ (4294967296 : Nat) ∧
    I_spec_l17Draw_3 c ([], belowV c (6 : Int), ((belowC c (6 : Int)).b, (belowC c (6 : Int)).i, (belowC c (6 : Int)).h, PUnit.unit), PUnit.unit) ∧
      ∀ (y : List DTimer × Int × (List Int × Int × Int × PUnit) × PUnit),
        let x0 : DCur := oneWC { b := y.2.2.1.1, i := y.2.2.1.2.1, h := y.2.2.1.2.2.1 : DCur };
        let x1 : DTimer := oneW { b := y.2.2.1.1, i := y.2.2.1.2.1, h := y.2.2.1.2.2.1 : DCur };
        I_spec_l17Draw_3 c y → bif decide (y.2.1 > (0 : Int)) then cOk { b := y.2.2.1.1, i := y.2.2.1.2.1, h := y.2.2.1.2.2.1 : DCur } ∧ sizeTimerS y.1 ≤ (4294967296 : Nat) ∧ sizeTimer x1 ≤ (4294967296 : Nat) ∧ I_spec_l17Draw_3 c (addT y.1 x1, IntKind.wrap IntKind.i64 (y.2.1 - (1 : Int)), (x0.b, x0.i, x0.h, PUnit.unit), PUnit.unit) ∧ μ_spec_l17Draw_3 c (addT y.1 x1, IntKind.wrap IntKind.i64 (y.2.1 - (1 : Int)), (x0.b, x0.i, x0.h, PUnit.unit), PUnit.unit) < μ_spec_l17Draw_3 c y else (0 : Nat) = (0 : Nat) ∧ asD [DV.one (Cell.sl Cd.eTimer y.1)] = asD [DV.one (Cell.sl Cd.eTimer (drawnW c).1)] ∧ asD [DV.box [Cell.sl Cd.byte y.2.2.1.1, Cell.lit (Value.int IntKind.i64 y.2.2.1.2.1), Cell.lit (Value.int IntKind.i64 y.2.2.1.2.2.1)]] = asD [DV.box [Cell.sl Cd.byte (drawnW c).2.b, Cell.lit (Value.int IntKind.i64 (drawnW c).2.i), Cell.lit (Value.int IntKind.i64 (drawnW c).2.h)]]) := by kernel_rfl
theorem ok_spec_l17Draw : Holds EE (115, con_spec_l17Draw) := by
  refine holds_of EE_ok Go.Proofs.Try.func115 con_spec_l17Draw (by kernel_rfl) use_spec_l17Draw (all_cons ok_spec_l1Below (all_cons ok_spec_l17One (all_cons ok_spec_AddTimer all_nil))) ann_spec_l17Draw (fun (c : DCur) hp hb => ?_)
  have hb_c : BdDV (U := UU) (.box [.sl .byte c.b, .lit (.int .i64 c.i), .lit (.int .i64 c.h)]) := hb _ (List.mem_cons_self)
  have hl_c_b : c.b.length ≤ 9223372036854775807 := Bd.len (U := UU) (τ := .byte) (xs := c.b) (hb_c _ (by simp))
  have hp0 : cOk c := hp _ (List.mem_cons_self)
  clear hp hb
  rw [vc_spec_l17Draw c]
  dsimp only
  have hb := belowV_lt (c := c) (n := 6) (by omega)
  refine ⟨hp0.1, hp0.2, ⟨by omega, by omega, by simp, by simp; omega, cOk_below hp0 6, rfl⟩, ?_⟩
  rintro ⟨l, i, ⟨cb, ci, ch, ⟨⟩⟩, ⟨⟩⟩ ⟨g1, g2, g3, g4, g5, g6⟩
  simp only at g1 g2 g3 g4 g5 g6 ⊢
  generalize hcu : (⟨cb, ci, ch⟩ : DCur) = cu at *
  refine if_cond (fun hc => ?_) (fun hc => ?_)
  · have hc := of_decide_eq_true hc
    have e : i.toNat = (i - 1).toNat + 1 := by omega
    rw [e] at g6
    have hs := timerS_size g3
    have hw : sizeTimer (oneW cu) ≤ 145 := oneW_fit cu
    have hl := addT_len l (oneW cu)
    rw [wrap_i64 (by omega) (by omega)]
    exact ⟨g5, by omega, by omega, ⟨by omega, by omega, addT_fit g3 (oneW_fit cu), by omega, cOk_one g5, g6⟩, by simp only [μ_spec_l17Draw_3]; omega⟩
  · have hc := of_decide_eq_false hc
    have e : i.toNat = 0 := by omega
    rw [e] at g6
    have g8 : l = (drawnW c).1 := congrArg Prod.fst g6
    have g9 : cu = (drawnW c).2 := congrArg Prod.snd g6
    rw [← g8, ← g9, ← hcu]
    exact ⟨by trivial, rfl, rfl⟩
def con_spec_l17Any : Con UU where
  α := DCur
  md := [.box false]
  of := fun | [.box [.sl .byte a0, .lit (.int .i64 a1), .lit (.int .i64 a2)]] => some ⟨a0, a1, a2⟩ | _ => none
  ds := fun c => [.box [.sl .byte c.b, .lit (.int .i64 c.i), .lit (.int .i64 c.h)]]
  pre := fun c => [cOk c]
  res := fun c => ⟨[.one (.sl .eTimer ((anyW c).1))], true, [.box [.sl .byte (((anyW c).2)).b, .lit (.int .i64 (((anyW c).2)).i), .lit (.int .i64 (((anyW c).2)).h)]]⟩
  law := by intro l x h; (try simp only at h); split at h <;> cases h; rfl
def I_spec_l17Any_5 (c : DCur) : List DTimer × (List Int × Int × Int × Unit) × Unit → Prop := fun (l, cu, _) => (∀ t ∈ l, wFit t) ∧ l.length ≤ 31 ∧ cOk ⟨cu.1, cu.2.1, cu.2.2.1⟩ ∧ fillW l ⟨cu.1, cu.2.1, cu.2.2.1⟩ (32 - l.length) = anyW c
def μ_spec_l17Any_5 (c : DCur) : List DTimer × (List Int × Int × Int × Unit) × Unit → Nat := fun (l, cu, _) => 32 - l.length
def ann_spec_l17Any : con_spec_l17Any.α → Nat → Option (Ann UU) := fun c => annL [(5, annOf [.slot 3 (3, 1024) (.own .eTimer true), .box 0 (2000000, 0) [.shr .byte, .lit (.int .i64), .lit (.int .i64)]] (fun _ => I_spec_l17Any_5 c) (μ_spec_l17Any_5 c))]
def use_spec_l17Any : List (FuncId × Con UU) := [(115, con_spec_l17Draw), (79, con_spec_l1Once), (116, con_spec_l17One), (45, con_spec_l1Below)]
theorem vc_spec_l17Any (c : DCur) : goal EE use_spec_l17Any Go.Proofs.Try.f78 con_spec_l17Any ann_spec_l17Any c = (let x0 : DCur := belowC (drawnW { b := c.b, i := c.i, h := c.h : DCur }).2 (4 : Int);
let x1 : List DTimer := [{ At := (1000000000 : Int), F := { Kind := { data := #[(120 : UInt8)] : ByteArray }, Fields := [] : DFact } : DTimer }];
let x2 : List DTimer := (drawnW { b := c.b, i := c.i, h := c.h : DCur }).1 ++ [oneW x0];
cOk c ∧
  cOk (drawnW { b := c.b, i := c.i, h := c.h : DCur }).2 ∧
    bif onceV (drawnW { b := c.b, i := c.i, h := c.h : DCur }).2 (4 : Int) then
      cOk x0 ∧
        List.length (drawnW { b := c.b, i := c.i, h := c.h : DCur }).1 + List.length [oneW x0] ≤ (4294967296 : Nat) ∧
          cOk (oneWC x0) ∧
            bif onceV (oneWC x0) (30 : Int) then
              I_spec_l17Any_5 c (x2, ((belowC (oneWC x0) (30 : Int)).b, (belowC (oneWC x0) (30 : Int)).i, (belowC (oneWC x0) (30 : Int)).h, PUnit.unit), PUnit.unit) ∧
                ∀ (y : List DTimer × (List Int × Int × Int × PUnit) × PUnit),
                  let x3 : DCur := belowC { b := y.2.1.1, i := y.2.1.2.1, h := y.2.1.2.2.1 : DCur } (3 : Int);
                  let x4 : Int := IntKind.wrap IntKind.i64 ((29 : Int) + belowV { b := y.2.1.1, i := y.2.1.2.1, h := y.2.1.2.2.1 : DCur } (3 : Int));
                  I_spec_l17Any_5 c y → (0 : Int) ≤ y.2.1.2.1 ∧ List.length y.2.1.1 ≤ (4294967296 : Nat) ∧ bif decide ((↑(List.length y.1) : Int) < x4) then List.length y.1 + List.length x1 ≤ (4294967296 : Nat) ∧ I_spec_l17Any_5 c (y.1 ++ x1, (x3.b, x3.i, x3.h, PUnit.unit), PUnit.unit) ∧ μ_spec_l17Any_5 c (y.1 ++ x1, (x3.b, x3.i, x3.h, PUnit.unit), PUnit.unit) < μ_spec_l17Any_5 c y else (0 : Nat) = (0 : Nat) ∧ asD [DV.one (Cell.sl Cd.eTimer y.1)] = asD [DV.one (Cell.sl Cd.eTimer (anyW c).1)] ∧ asD [DV.box [Cell.sl Cd.byte x3.b, Cell.lit (Value.int IntKind.i64 x3.i), Cell.lit (Value.int IntKind.i64 x3.h)]] = asD [DV.box [Cell.sl Cd.byte (anyW c).2.b, Cell.lit (Value.int IntKind.i64 (anyW c).2.i), Cell.lit (Value.int IntKind.i64 (anyW c).2.h)]]
            else (0 : Nat) = (0 : Nat) ∧ asD [DV.one (Cell.sl Cd.eTimer x2)] = asD [DV.one (Cell.sl Cd.eTimer (anyW c).1)] ∧ asD [DV.box [Cell.sl Cd.byte (belowC (oneWC x0) (30 : Int)).b, Cell.lit (Value.int IntKind.i64 (belowC (oneWC x0) (30 : Int)).i), Cell.lit (Value.int IntKind.i64 (belowC (oneWC x0) (30 : Int)).h)]] = asD [DV.box [Cell.sl Cd.byte (anyW c).2.b, Cell.lit (Value.int IntKind.i64 (anyW c).2.i), Cell.lit (Value.int IntKind.i64 (anyW c).2.h)]]
    else
      cOk x0 ∧
        bif onceV x0 (30 : Int) then
          I_spec_l17Any_5 c ((drawnW { b := c.b, i := c.i, h := c.h : DCur }).1, ((belowC x0 (30 : Int)).b, (belowC x0 (30 : Int)).i, (belowC x0 (30 : Int)).h, PUnit.unit), PUnit.unit) ∧
            ∀ (y : List DTimer × (List Int × Int × Int × PUnit) × PUnit),
              let x3 : DCur := belowC { b := y.2.1.1, i := y.2.1.2.1, h := y.2.1.2.2.1 : DCur } (3 : Int);
              let x4 : Int := IntKind.wrap IntKind.i64 ((29 : Int) + belowV { b := y.2.1.1, i := y.2.1.2.1, h := y.2.1.2.2.1 : DCur } (3 : Int));
              I_spec_l17Any_5 c y → (0 : Int) ≤ y.2.1.2.1 ∧ List.length y.2.1.1 ≤ (4294967296 : Nat) ∧ bif decide ((↑(List.length y.1) : Int) < x4) then List.length y.1 + List.length x1 ≤ (4294967296 : Nat) ∧ I_spec_l17Any_5 c (y.1 ++ x1, (x3.b, x3.i, x3.h, PUnit.unit), PUnit.unit) ∧ μ_spec_l17Any_5 c (y.1 ++ x1, (x3.b, x3.i, x3.h, PUnit.unit), PUnit.unit) < μ_spec_l17Any_5 c y else (0 : Nat) = (0 : Nat) ∧ asD [DV.one (Cell.sl Cd.eTimer y.1)] = asD [DV.one (Cell.sl Cd.eTimer (anyW c).1)] ∧ asD [DV.box [Cell.sl Cd.byte x3.b, Cell.lit (Value.int IntKind.i64 x3.i), Cell.lit (Value.int IntKind.i64 x3.h)]] = asD [DV.box [Cell.sl Cd.byte (anyW c).2.b, Cell.lit (Value.int IntKind.i64 (anyW c).2.i), Cell.lit (Value.int IntKind.i64 (anyW c).2.h)]]
        else (0 : Nat) = (0 : Nat) ∧ asD [DV.one (Cell.sl Cd.eTimer (drawnW { b := c.b, i := c.i, h := c.h : DCur }).1)] = asD [DV.one (Cell.sl Cd.eTimer (anyW c).1)] ∧ asD [DV.box [Cell.sl Cd.byte (belowC x0 (30 : Int)).b, Cell.lit (Value.int IntKind.i64 (belowC x0 (30 : Int)).i), Cell.lit (Value.int IntKind.i64 (belowC x0 (30 : Int)).h)]] = asD [DV.box [Cell.sl Cd.byte (anyW c).2.b, Cell.lit (Value.int IntKind.i64 (anyW c).2.i), Cell.lit (Value.int IntKind.i64 (anyW c).2.h)]]) := by kernel_rfl
theorem ok_spec_l17Any : Holds EE (78, con_spec_l17Any) := by
  refine holds_of EE_ok Go.Proofs.Try.func78 con_spec_l17Any (by kernel_rfl) use_spec_l17Any (all_cons ok_spec_l17Draw (all_cons ok_spec_l1Once (all_cons ok_spec_l17One (all_cons ok_spec_l1Below all_nil)))) ann_spec_l17Any (fun (c : DCur) hp hb => ?_)
  have hb_c : BdDV (U := UU) (.box [.sl .byte c.b, .lit (.int .i64 c.i), .lit (.int .i64 c.h)]) := hb _ (List.mem_cons_self)
  have hl_c_b : c.b.length ≤ 9223372036854775807 := Bd.len (U := UU) (τ := .byte) (xs := c.b) (hb_c _ (by simp))
  have hp0 : cOk c := hp _ (List.mem_cons_self)
  clear hp hb
  rw [vc_spec_l17Any c]
  dsimp only
  obtain ⟨d1, d2, d3⟩ := drawnW_ok hp0
  obtain ⟨m1, m2, m3⟩ := moreW_ok hp0
  refine ⟨hp0, d1, if_cond (fun g => ?_) (fun g => ?_)⟩
  · have hm : moreW c = ((drawnW c).1 ++ [oneW (belowC (drawnW c).2 4)], oneWC (belowC (drawnW c).2 4)) := if_pos g
    refine ⟨cOk_below d1 4, by simp; omega, cOk_one (cOk_below d1 4), ?_⟩
    rw [hm] at m1 m2 m3
    refine if_cond (fun g2 => ?_) (fun g2 => ?_)
    · have hq : anyW c = fillW (moreW c).1 (belowC (moreW c).2 30) (32 - (moreW c).1.length) := if_pos (by rw [hm]; exact g2)
      rw [hm] at hq
      refine ⟨⟨m2, Nat.le_trans m3 (by decide), cOk_below m1 30, hq.symm⟩, ?_⟩
      rintro ⟨l, ⟨cb, ci, ch, ⟨⟩⟩, ⟨⟩⟩ ⟨q2, q1, q4, q5⟩
      dsimp only at q1 q2 q4 q5 ⊢
      generalize hcu : (⟨cb, ci, ch⟩ : DCur) = cu at *
      have hci : ci = cu.i := by rw [← hcu]
      have hcb : cb = cu.b := by rw [← hcu]
      have hb := belowV_lt (c := cu) (n := 3) (by omega)
      have e : 32 - l.length = (31 - l.length) + 1 := by omega
      rw [e] at q5
      rw [wrap_i64 (by omega) (by omega)]
      refine ⟨by rw [hci]; exact q4.1, by rw [hcb]; exact q4.2, if_cond (fun hd => ?_) (fun hd => ?_)⟩
      · have hd := of_decide_eq_true hd
        have hl : l.length ≤ 30 := by omega
        rw [fillW, if_pos hd] at q5
        have hla : (l ++ [lastW]).length = l.length + 1 := by simp
        refine ⟨by simp; omega, ⟨fun t ht => ?_, ?_, cOk_below q4 3, ?_⟩, ?_⟩
        · rcases List.mem_append.1 ht with ht | ht
          · exact q2 t ht
          · rw [List.mem_singleton.1 ht]; exact lastW_fit
        · show (l ++ [lastW]).length ≤ 31; omega
        · show fillW (l ++ [lastW]) (belowC cu 3) (32 - (l ++ [lastW]).length) = _
          rw [hla, show 32 - (l.length + 1) = 31 - l.length by omega]; exact q5
        · show 32 - (l ++ [lastW]).length < 32 - l.length
          omega
      · have hd := of_decide_eq_false hd
        rw [fillW, if_neg hd] at q5
        rw [← q5]
        exact ⟨by trivial, rfl, rfl⟩
    · have hq : anyW c = ((moreW c).1, belowC (moreW c).2 30) := if_neg (by rw [hm]; show ¬ onceV _ 30 = true; rw [g2]; decide)
      rw [hm] at hq
      rw [hq]; exact ⟨by trivial, rfl, rfl⟩
  · have hm : moreW c = ((drawnW c).1, belowC (drawnW c).2 4) := if_neg (by rw [g]; decide)
    refine ⟨cOk_below d1 4, ?_⟩
    rw [hm] at m1 m2 m3
    refine if_cond (fun g2 => ?_) (fun g2 => ?_)
    · have hq : anyW c = fillW (moreW c).1 (belowC (moreW c).2 30) (32 - (moreW c).1.length) := if_pos (by rw [hm]; exact g2)
      rw [hm] at hq
      refine ⟨⟨m2, Nat.le_trans m3 (by decide), cOk_below m1 30, hq.symm⟩, ?_⟩
      rintro ⟨l, ⟨cb, ci, ch, ⟨⟩⟩, ⟨⟩⟩ ⟨q2, q1, q4, q5⟩
      dsimp only at q1 q2 q4 q5 ⊢
      generalize hcu : (⟨cb, ci, ch⟩ : DCur) = cu at *
      have hci : ci = cu.i := by rw [← hcu]
      have hcb : cb = cu.b := by rw [← hcu]
      have hb := belowV_lt (c := cu) (n := 3) (by omega)
      have e : 32 - l.length = (31 - l.length) + 1 := by omega
      rw [e] at q5
      rw [wrap_i64 (by omega) (by omega)]
      refine ⟨by rw [hci]; exact q4.1, by rw [hcb]; exact q4.2, if_cond (fun hd => ?_) (fun hd => ?_)⟩
      · have hd := of_decide_eq_true hd
        have hl : l.length ≤ 30 := by omega
        rw [fillW, if_pos hd] at q5
        have hla : (l ++ [lastW]).length = l.length + 1 := by simp
        refine ⟨by simp; omega, ⟨fun t ht => ?_, ?_, cOk_below q4 3, ?_⟩, ?_⟩
        · rcases List.mem_append.1 ht with ht | ht
          · exact q2 t ht
          · rw [List.mem_singleton.1 ht]; exact lastW_fit
        · show (l ++ [lastW]).length ≤ 31; omega
        · show fillW (l ++ [lastW]) (belowC cu 3) (32 - (l ++ [lastW]).length) = _
          rw [hla, show 32 - (l.length + 1) = 31 - l.length by omega]; exact q5
        · show 32 - (l ++ [lastW]).length < 32 - l.length
          omega
      · have hd := of_decide_eq_false hd
        rw [fillW, if_neg hd] at q5
        rw [← q5]
        exact ⟨by trivial, rfl, rfl⟩
    · have hq : anyW c = ((moreW c).1, belowC (moreW c).2 30) := if_neg (by rw [hm]; show ¬ onceV _ 30 = true; rw [g2]; decide)
      rw [hm] at hq
      rw [hq]; exact ⟨by trivial, rfl, rfl⟩
def con_spec_l17Bent : Con UU where
  α := DCur
  md := [.box false]
  of := fun | [.box [.sl .byte a0, .lit (.int .i64 a1), .lit (.int .i64 a2)]] => some ⟨a0, a1, a2⟩ | _ => none
  ds := fun c => [.box [.sl .byte c.b, .lit (.int .i64 c.i), .lit (.int .i64 c.h)]]
  pre := fun c => [cOk c]
  res := fun c => ⟨[.agg [.lit (.int .i64 ((bentW c)).At), .lit (.string (((bentW c)).F).Kind), .sl .eVal (((bentW c)).F).Fields]], true, [.box [.sl .byte ((bentWC c)).b, .lit (.int .i64 ((bentWC c)).i), .lit (.int .i64 ((bentWC c)).h)]]⟩
  law := by intro l x h; (try simp only at h); split at h <;> cases h; rfl
def ann_spec_l17Bent : con_spec_l17Bent.α → Nat → Option (Ann UU) := fun c => annL []
def use_spec_l17Bent : List (FuncId × Con UU) := [(116, con_spec_l17One), (45, con_spec_l1Below), (46, con_spec_l1Int), (83, con_spec_l3Any)]
theorem vc_spec_l17Bent (c : DCur) : goal EE use_spec_l17Bent Go.Proofs.Try.f80 con_spec_l17Bent ann_spec_l17Bent c = (let x0 : DCur := belowC (belowC (oneWC c) (8 : Int)) (↑(List.length [(-1 : Int), (1000000001 : Int)]) : Int);
let x1 : DCur := belowC (oneWC c) (8 : Int);
let x2 : Nat := List.length [(-1 : Int), (1000000001 : Int)];
cOk c ∧ (0 : Int) ≤ (oneWC c).i ∧ List.length (oneWC c).b ≤ (4294967296 : Nat) ∧ bif belowV (oneWC c) (8 : Int) == (0 : Int) then (0 : Int) ≤ x1.i ∧ List.length x1.b ≤ (4294967296 : Nat) ∧ (1 : Nat) ≤ x2 ∧ (0 : Nat) = (0 : Nat) ∧ asD [DV.agg [Cell.lit (Value.int IntKind.i64 (List.getD [(-1 : Int), (1000000001 : Int)] (Int.toNat (belowV x1 (↑x2 : Int))) (0 : Int))), Cell.lit (Value.string (oneW c).F.Kind), Cell.sl Cd.eVal (oneW c).F.Fields]] = asD [DV.agg [Cell.lit (Value.int IntKind.i64 (bentW c).At), Cell.lit (Value.string (bentW c).F.Kind), Cell.sl Cd.eVal (bentW c).F.Fields]] ∧ asD [DV.box [Cell.sl Cd.byte x0.b, Cell.lit (Value.int IntKind.i64 x0.i), Cell.lit (Value.int IntKind.i64 x0.h)]] = asD [DV.box [Cell.sl Cd.byte (bentWC c).b, Cell.lit (Value.int IntKind.i64 (bentWC c).i), Cell.lit (Value.int IntKind.i64 (bentWC c).h)]] else bif belowV (oneWC c) (8 : Int) == (1 : Int) then cOk x1 ∧ (0 : Nat) = (0 : Nat) ∧ asD [DV.agg [Cell.lit (Value.int IntKind.i64 (oneW c).At), Cell.lit (Value.string (anyF x1).Kind), Cell.sl Cd.eVal (anyF x1).Fields]] = asD [DV.agg [Cell.lit (Value.int IntKind.i64 (bentW c).At), Cell.lit (Value.string (bentW c).F.Kind), Cell.sl Cd.eVal (bentW c).F.Fields]] ∧ asD [DV.box [Cell.sl Cd.byte (anyFC x1).b, Cell.lit (Value.int IntKind.i64 (anyFC x1).i), Cell.lit (Value.int IntKind.i64 (anyFC x1).h)]] = asD [DV.box [Cell.sl Cd.byte (bentWC c).b, Cell.lit (Value.int IntKind.i64 (bentWC c).i), Cell.lit (Value.int IntKind.i64 (bentWC c).h)]] else (0 : Nat) = (0 : Nat) ∧ asD [DV.agg [Cell.lit (Value.int IntKind.i64 (oneW c).At), Cell.lit (Value.string (oneW c).F.Kind), Cell.sl Cd.eVal (oneW c).F.Fields]] = asD [DV.agg [Cell.lit (Value.int IntKind.i64 (bentW c).At), Cell.lit (Value.string (bentW c).F.Kind), Cell.sl Cd.eVal (bentW c).F.Fields]] ∧ asD [DV.box [Cell.sl Cd.byte x1.b, Cell.lit (Value.int IntKind.i64 x1.i), Cell.lit (Value.int IntKind.i64 x1.h)]] = asD [DV.box [Cell.sl Cd.byte (bentWC c).b, Cell.lit (Value.int IntKind.i64 (bentWC c).i), Cell.lit (Value.int IntKind.i64 (bentWC c).h)]]) := by kernel_rfl
theorem ok_spec_l17Bent : Holds EE (80, con_spec_l17Bent) := by
  refine holds_of EE_ok Go.Proofs.Try.func80 con_spec_l17Bent (by kernel_rfl) use_spec_l17Bent (all_cons ok_spec_l17One (all_cons ok_spec_l1Below (all_cons ok_spec_l1Int (all_cons ok_spec_l3Any all_nil)))) ann_spec_l17Bent (fun (c : DCur) hp hb => ?_)
  have hb_c : BdDV (U := UU) (.box [.sl .byte c.b, .lit (.int .i64 c.i), .lit (.int .i64 c.h)]) := hb _ (List.mem_cons_self)
  have hl_c_b : c.b.length ≤ 9223372036854775807 := Bd.len (U := UU) (τ := .byte) (xs := c.b) (hb_c _ (by simp))
  have hp0 : cOk c := hp _ (List.mem_cons_self)
  clear hp hb
  rw [vc_spec_l17Bent c]
  dsimp only
  have h1 := cOk_one hp0
  have h2 := cOk_below h1 8
  refine ⟨hp0, h1.1, h1.2, if_eq (fun h => ?_) (fun h => if_eq (fun h' => ?_) (fun h' => ?_))⟩
  · have e1 : bentW c = ⟨intV (belowC (oneWC c) 8) iLbad, (oneW c).F⟩ := if_pos h
    have e2 : bentWC c = intC (belowC (oneWC c) 8) iLbad := if_pos h
    rw [e1, e2]; exact ⟨h2.1, h2.2, by simp, by trivial, rfl, rfl⟩
  · have e1 : bentW c = ⟨(oneW c).At, anyF (belowC (oneWC c) 8)⟩ := (if_neg h).trans (if_pos h')
    have e2 : bentWC c = anyFC (belowC (oneWC c) 8) := (if_neg h).trans (if_pos h')
    rw [e1, e2]; exact ⟨h2, by trivial, rfl, rfl⟩
  · have e1 : bentW c = oneW c := (if_neg h).trans (if_neg h')
    have e2 : bentWC c = belowC (oneWC c) 8 := (if_neg h).trans (if_neg h')
    rw [e1, e2]; exact ⟨by trivial, rfl, rfl⟩
def iLnow : List Int := [0, 1, 2, 3, 9, -1, 1000000000]
def nowW (code : List Int) : Int := intV (anyW (newCur code)).2 iLnow
noncomputable def bentL (code : List Int) : List DTimer := let p := anyW (newCur code)
  if p.1.length = 0 then p.1 else if onceV p.2 4 then p.1.set (belowV (belowC p.2 4) p.1.length).toNat (bentW (belowC (belowC p.2 4) p.1.length)) else p.1
theorem timersOk_iff {l : List DTimer} : timersOk l = true ↔ l.length ≤ 30 ∧ (∀ t ∈ l, timerOk t = true) ∧ l.Pairwise (fun a b => a.At ≤ b.At) := by
  have hg : ∀ {i : Nat} (h : i < l.length), List.getD l i zTimer = l[i] := fun {i} h => by rw [List.getD_eq_getElem?_getD, List.getElem?_eq_getElem h]; rfl
  simp only [timersOk, Bool.and_eq_true, decide_eq_true_eq]
  refine and_congr_right fun _ => ?_
  have hall : allI l.length (timerAt l) = true ↔ ∀ j, j < l.length → timerAt l j = true := by simp [allI]
  rw [hall]
  constructor
  · intro h
    refine ⟨fun t ht => ?_, ?_⟩
    · obtain ⟨i, hi, rfl⟩ := List.getElem_of_mem ht
      have := h i hi
      simp only [timerAt, Bool.and_eq_true] at this
      rw [← hg hi]; exact this.1
    · have step : ∀ i (hi : i + 1 < l.length), l[i].At ≤ l[i + 1].At := fun i hi => by
        have := h (i + 1) hi
        simp only [timerAt, Bool.and_eq_true, Bool.or_eq_true, decide_eq_true_eq, Nat.add_sub_cancel] at this
        rw [hg hi, hg (by omega)] at this
        rcases this.2 with h0 | h0
        · omega
        · exact h0
      rw [List.pairwise_iff_getElem]
      intro i j hi hj hij
      obtain ⟨k, rfl⟩ : ∃ k, j = i + 1 + k := ⟨j - i - 1, by omega⟩
      clear hij
      induction k with
      | zero => exact step i hj
      | succ k ih => exact Int.le_trans (ih (by omega)) (step (i + 1 + k) hj)
  · rintro ⟨h1, h2⟩ j hj
    simp only [timerAt, Bool.and_eq_true, Bool.or_eq_true, decide_eq_true_eq]
    refine ⟨by rw [hg hj]; exact h1 _ (List.getElem_mem hj), ?_⟩
    by_cases h0 : j = 0
    · exact .inl h0
    · right
      rw [List.pairwise_iff_getElem] at h2
      rw [hg hj, hg (show j - 1 < l.length by omega)]
      exact h2 (j - 1) j (by omega) hj (by omega)
theorem timersOk_filter {l : List DTimer} (p : DTimer → Bool) (h : timersOk l = true) : timersOk (l.filter p) = true := by
  rw [timersOk_iff] at h ⊢
  exact ⟨Nat.le_trans (List.length_filter_le _ _) h.1, fun t ht => h.2.1 t (List.mem_filter.1 ht).1, h.2.2.filter p⟩
theorem parts_len (now : Int) (l : List DTimer) : (dueT now l).length + (resT now l).length = l.length := by
  unfold dueT resT
  induction l with
  | nil => rfl
  | cons x l ih =>
    rw [List.filter_cons, List.filter_cons]
    by_cases h : x.At ≤ now
    · simp only [decide_eq_true h]; simp only [if_true, Bool.not_true, Bool.false_eq_true, if_false, List.length_cons]; omega
    · simp only [decide_eq_false h]; simp only [if_true, Bool.not_false, Bool.false_eq_true, if_false, List.length_cons]; omega
theorem due_at {now : Int} {l : List DTimer} {i : Nat} (h : i < (dueT now l).length) : (List.getD (dueT now l) i zTimer).At ≤ now := by
  have hm : List.getD (dueT now l) i zTimer ∈ dueT now l := by rw [List.getD_eq_getElem?_getD, List.getElem?_eq_getElem h]; exact List.getElem_mem h
  exact of_decide_eq_true (List.mem_filter.1 hm).2
theorem res_at {now : Int} {l : List DTimer} {i : Nat} (h : i < (resT now l).length) : ¬ (List.getD (resT now l) i zTimer).At ≤ now := by
  have hm : List.getD (resT now l) i zTimer ∈ resT now l := by rw [List.getD_eq_getElem?_getD, List.getElem?_eq_getElem h]; exact List.getElem_mem h
  have := (List.mem_filter.1 hm).2
  simpa using this
def con_spec_DrawDueTimers : Con UU where
  α := (List Int)
  md := [.ro]
  of := fun | [.one (.sl .byte a0)] => some a0 | _ => none
  ds := fun code => [.one (.sl .byte code)]
  pre := fun code => [code.length ≤ 4294967296]
  res := fun code => ⟨[.one (.sl .eTimer ((anyW (newCur code)).1)), .one (.lit (.int .i64 (nowW code)))], true, []⟩
  law := by intro l x h; (try simp only at h); split at h <;> cases h; rfl
def ann_spec_DrawDueTimers : con_spec_DrawDueTimers.α → Nat → Option (Ann UU) := fun code => annL []
def use_spec_DrawDueTimers : List (FuncId × Con UU) := [(36, con_spec_l1New), (78, con_spec_l17Any), (46, con_spec_l1Int)]
theorem vc_spec_DrawDueTimers (code : (List Int)) : goal EE use_spec_DrawDueTimers Go.Proofs.Try.f30 con_spec_DrawDueTimers ann_spec_DrawDueTimers code = (let x0 : Nat := List.length [(0 : Int), (1 : Int), (2 : Int), (3 : Int), (9 : Int), (-1 : Int), (1000000000 : Int)];
List.length code ≤ (4294967296 : Nat) ∧ cOk (newCur code) ∧ (0 : Int) ≤ (anyW { b := (newCur code).b, i := (newCur code).i, h := (newCur code).h : DCur }).2.i ∧ List.length (anyW { b := (newCur code).b, i := (newCur code).i, h := (newCur code).h : DCur }).2.b ≤ (4294967296 : Nat) ∧ (1 : Nat) ≤ x0 ∧ Lf [DV.one (Cell.sl Cd.eTimer (anyW { b := (newCur code).b, i := (newCur code).i, h := (newCur code).h : DCur }).1), DV.one (Cell.lit (Value.int IntKind.i64 (List.getD [(0 : Int), (1 : Int), (2 : Int), (3 : Int), (9 : Int), (-1 : Int), (1000000000 : Int)] (Int.toNat (belowV (anyW { b := (newCur code).b, i := (newCur code).i, h := (newCur code).h : DCur }).2 (↑x0 : Int))) (0 : Int))))] [DV.one (Cell.sl Cd.eTimer (anyW (newCur code)).1), DV.one (Cell.lit (Value.int IntKind.i64 (nowW code)))]) := by kernel_rfl
theorem ok_spec_DrawDueTimers : Holds EE (30, con_spec_DrawDueTimers) := by
  refine holds_of EE_ok Go.Proofs.Try.func30 con_spec_DrawDueTimers (by kernel_rfl) use_spec_DrawDueTimers (all_cons ok_spec_l1New (all_cons ok_spec_l17Any (all_cons ok_spec_l1Int all_nil))) ann_spec_DrawDueTimers (fun (code : (List Int)) hp hb => ?_)
  have hb_code : BdDV (U := UU) (.one (.sl .byte code)) := hb _ (List.mem_cons_self)
  have hl_code : code.length ≤ 9223372036854775807 := Bd.len hb_code
  have hp0 : code.length ≤ 4294967296 := hp _ (List.mem_cons_self)
  clear hp hb
  rw [vc_spec_DrawDueTimers code]
  dsimp only
  have h0 := cOk_new hp0
  obtain ⟨h1, _, _⟩ := anyW_ok h0
  exact ⟨hp0, h0, h1.1, h1.2, by simp, Lf_rfl _⟩
def con_spec_DrawTimersOk : Con UU where
  α := (List Int)
  md := [.ro]
  of := fun | [.one (.sl .byte a0)] => some a0 | _ => none
  ds := fun code => [.one (.sl .byte code)]
  pre := fun code => [code.length ≤ 4294967296]
  res := fun code => ⟨[.one (.sl .eTimer (bentL code))], true, []⟩
  law := by intro l x h; (try simp only at h); split at h <;> cases h; rfl
def ann_spec_DrawTimersOk : con_spec_DrawTimersOk.α → Nat → Option (Ann UU) := fun code => annL []
def use_spec_DrawTimersOk : List (FuncId × Con UU) := [(36, con_spec_l1New), (78, con_spec_l17Any), (79, con_spec_l1Once), (45, con_spec_l1Below), (80, con_spec_l17Bent)]
theorem vc_spec_DrawTimersOk (code : (List Int)) : goal EE use_spec_DrawTimersOk Go.Proofs.Try.f31 con_spec_DrawTimersOk ann_spec_DrawTimersOk code = (let x0 : Int := (↑(List.length (anyW { b := (newCur code).b, i := (newCur code).i, h := (newCur code).h : DCur }).1) : Int);
let x1 : DCur := belowC (anyW { b := (newCur code).b, i := (newCur code).i, h := (newCur code).h : DCur }).2 (4 : Int);
List.length code ≤ (4294967296 : Nat) ∧ cOk (newCur code) ∧ bif decide (x0 > (0 : Int)) then cOk (anyW { b := (newCur code).b, i := (newCur code).i, h := (newCur code).h : DCur }).2 ∧ bif onceV (anyW { b := (newCur code).b, i := (newCur code).i, h := (newCur code).h : DCur }).2 (4 : Int) then (0 : Int) ≤ x1.i ∧ List.length x1.b ≤ (4294967296 : Nat) ∧ cOk (belowC x1 x0) ∧ (0 : Int) ≤ belowV x1 x0 ∧ Int.toNat (belowV x1 x0) < List.length (anyW { b := (newCur code).b, i := (newCur code).i, h := (newCur code).h : DCur }).1 ∧ Int.toNat (belowV x1 x0) < List.length (anyW { b := (newCur code).b, i := (newCur code).i, h := (newCur code).h : DCur }).1 ∧ Lf [DV.one (Cell.sl Cd.eTimer (List.set (anyW { b := (newCur code).b, i := (newCur code).i, h := (newCur code).h : DCur }).1 (Int.toNat (belowV x1 x0)) (bentW (belowC x1 x0))))] [DV.one (Cell.sl Cd.eTimer (bentL code))] else Lf [DV.one (Cell.sl Cd.eTimer (anyW { b := (newCur code).b, i := (newCur code).i, h := (newCur code).h : DCur }).1)] [DV.one (Cell.sl Cd.eTimer (bentL code))] else Lf [DV.one (Cell.sl Cd.eTimer (anyW { b := (newCur code).b, i := (newCur code).i, h := (newCur code).h : DCur }).1)] [DV.one (Cell.sl Cd.eTimer (bentL code))]) := by kernel_rfl
theorem ok_spec_DrawTimersOk : Holds EE (31, con_spec_DrawTimersOk) := by
  refine holds_of EE_ok Go.Proofs.Try.func31 con_spec_DrawTimersOk (by kernel_rfl) use_spec_DrawTimersOk (all_cons ok_spec_l1New (all_cons ok_spec_l17Any (all_cons ok_spec_l1Once (all_cons ok_spec_l1Below (all_cons ok_spec_l17Bent all_nil))))) ann_spec_DrawTimersOk (fun (code : (List Int)) hp hb => ?_)
  have hb_code : BdDV (U := UU) (.one (.sl .byte code)) := hb _ (List.mem_cons_self)
  have hl_code : code.length ≤ 9223372036854775807 := Bd.len hb_code
  have hp0 : code.length ≤ 4294967296 := hp _ (List.mem_cons_self)
  clear hp hb
  rw [vc_spec_DrawTimersOk code]
  dsimp only
  have h0 := cOk_new hp0
  obtain ⟨h1, _, h3⟩ := anyW_ok h0
  refine ⟨hp0, h0, if_cond (fun g => ?_) (fun g => ?_)⟩
  · have g := of_decide_eq_true g
    have hn : ¬ (anyW (newCur code)).1.length = 0 := by omega
    have hb := belowV_lt (c := belowC (anyW (newCur code)).2 4) (n := (anyW (newCur code)).1.length) (by omega)
    have h4 := cOk_below h1 4
    refine ⟨h1, if_cond (fun g2 => ?_) (fun g2 => ?_)⟩
    · have e : bentL code = (anyW (newCur code)).1.set (belowV (belowC (anyW (newCur code)).2 4) (anyW (newCur code)).1.length).toNat (bentW (belowC (belowC (anyW (newCur code)).2 4) (anyW (newCur code)).1.length)) := (if_neg hn).trans (if_pos g2)
      rw [e]
      exact ⟨h4.1, h4.2, cOk_below h4 _, hb.1, by omega, by omega, Lf_rfl _⟩
    · have e : bentL code = (anyW (newCur code)).1 := (if_neg hn).trans (if_neg (by rw [g2]; decide))
      rw [e]; exact Lf_rfl _
  · have g := of_decide_eq_false g
    have e : bentL code = (anyW (newCur code)).1 := if_pos (by omega)
    rw [e]; exact Lf_rfl _
def con_laws_FnDue : Con UU where
  α := (List Int)
  md := [.ro]
  of := fun | [.one (.sl .byte a0)] => some a0 | _ => none
  ds := fun code => [.one (.sl .byte code)]
  pre := fun code => []
  res := fun code => ⟨[.one (.lit (.bool true))], true, []⟩
  law := by intro l x h; (try simp only at h); split at h <;> cases h; rfl
def I_laws_FnDue_8 (code : (List Int)) : List DTimer × List DTimer × List DTimer × Int × Unit → Prop := fun (l, a, b, i, _) => l = (anyW (newCur code)).1 ∧ a = dueT (nowW code) l ∧ b = resT (nowW code) l ∧ 0 ≤ i ∧ i ≤ a.length
def μ_laws_FnDue_8 (code : (List Int)) : List DTimer × List DTimer × List DTimer × Int × Unit → Nat := fun (l, a, b, i, _) => a.length - i.toNat
def I_laws_FnDue_13 (code : (List Int)) : List DTimer × List DTimer × List DTimer × Int × Unit → Prop := fun (l, a, b, i, _) => l = (anyW (newCur code)).1 ∧ a = dueT (nowW code) l ∧ b = resT (nowW code) l ∧ 0 ≤ i ∧ i ≤ b.length
def μ_laws_FnDue_13 (code : (List Int)) : List DTimer × List DTimer × List DTimer × Int × Unit → Nat := fun (l, a, b, i, _) => b.length - i.toNat
def ann_laws_FnDue : con_laws_FnDue.α → Nat → Option (Ann UU) := fun code => annL [(8, annOf [.slot 3 (3, 1024) (.own .eTimer true), .slot 5 (5, 1024) (.own .eTimer true), .slot 6 (6, 1024) (.own .eTimer true), .slot 7 (7, 1024) (.lit (.int .i64))] (fun _ => I_laws_FnDue_8 code) (μ_laws_FnDue_8 code)), (13, annOf [.slot 3 (3, 1024) (.own .eTimer true), .slot 5 (5, 1024) (.own .eTimer true), .slot 6 (6, 1024) (.own .eTimer true), .slot 8 (8, 1024) (.lit (.int .i64))] (fun _ => I_laws_FnDue_13 code) (μ_laws_FnDue_13 code))]
def use_laws_FnDue : List (FuncId × Con UU) := [(8, con_laws_big), (30, con_spec_DrawDueTimers), (20, con_impl_DueTimers), (31, con_spec_DrawTimersOk), (32, con_spec_TimersOk), (33, con_impl_TimersOk)]
theorem vc_laws_FnDue (code : (List Int)) : goal EE use_laws_FnDue Go.Proofs.Try.f6 con_laws_FnDue ann_laws_FnDue code = (bif decide (List.length code > (1048576 : Nat)) then Lf [DV.one (Cell.lit (Value.bool true))] [DV.one (Cell.lit (Value.bool true))]
else
  List.length code ≤ (4294967296 : Nat) ∧
    sizeTimerS (anyW (newCur code)).1 ≤ (4294967296 : Nat) ∧
      bif IntKind.wrap IntKind.i64 ((↑(List.length (dueT (nowW code) (anyW (newCur code)).1)) : Int) + (↑(List.length (resT (nowW code) (anyW (newCur code)).1)) : Int)) != (↑(List.length (anyW (newCur code)).1) : Int) then Lf [DV.one (Cell.lit (Value.bool false))] [DV.one (Cell.lit (Value.bool true))]
      else
        I_laws_FnDue_8 code ((anyW (newCur code)).1, dueT (nowW code) (anyW (newCur code)).1, resT (nowW code) (anyW (newCur code)).1, (0 : Int), PUnit.unit) ∧
          ∀ (y : List DTimer × List DTimer × List DTimer × Int × PUnit),
            let x0 : Int := (List.getD y.2.1 (Int.toNat y.2.2.2.1) zTimer).At;
            let x1 : Int := (↑(List.length y.2.1) : Int);
            I_laws_FnDue_8 code y →
              bif decide (y.2.2.2.1 < x1) then (0 : Int) ≤ y.2.2.2.1 ∧ Int.toNat y.2.2.2.1 < List.length y.2.1 ∧ Int.toNat y.2.2.2.1 < List.length y.2.1 ∧ bif decide (x0 > nowW code) then Lf [DV.one (Cell.lit (Value.bool false))] [DV.one (Cell.lit (Value.bool true))] else I_laws_FnDue_8 code (y.1, y.2.1, y.2.2.1, IntKind.wrap IntKind.i64 (y.2.2.2.1 + (1 : Int)), PUnit.unit) ∧ μ_laws_FnDue_8 code (y.1, y.2.1, y.2.2.1, IntKind.wrap IntKind.i64 (y.2.2.2.1 + (1 : Int)), PUnit.unit) < μ_laws_FnDue_8 code y
              else
                I_laws_FnDue_13 code (y.1, y.2.1, y.2.2.1, (0 : Int), PUnit.unit) ∧
                  ∀ (y : List DTimer × List DTimer × List DTimer × Int × PUnit),
                    let x2 : Int := (List.getD y.2.2.1 (Int.toNat y.2.2.2.1) zTimer).At;
                    let x3 : Int := (↑(List.length y.2.2.1) : Int);
                    I_laws_FnDue_13 code y → bif decide (y.2.2.2.1 < x3) then (0 : Int) ≤ y.2.2.2.1 ∧ Int.toNat y.2.2.2.1 < List.length y.2.2.1 ∧ Int.toNat y.2.2.2.1 < List.length y.2.2.1 ∧ bif decide (x2 ≤ nowW code) then Lf [DV.one (Cell.lit (Value.bool false))] [DV.one (Cell.lit (Value.bool true))] else I_laws_FnDue_13 code (y.1, y.2.1, y.2.2.1, IntKind.wrap IntKind.i64 (y.2.2.2.1 + (1 : Int)), PUnit.unit) ∧ μ_laws_FnDue_13 code (y.1, y.2.1, y.2.2.1, IntKind.wrap IntKind.i64 (y.2.2.2.1 + (1 : Int)), PUnit.unit) < μ_laws_FnDue_13 code y else List.length code ≤ (4294967296 : Nat) ∧ bif !timersOk y.1 then Lf [DV.one (Cell.lit (Value.bool (timersOk (bentL code) == timersOk (bentL code))))] [DV.one (Cell.lit (Value.bool true))] else bif timersOk y.2.1 then bif timersOk y.2.2.1 then Lf [DV.one (Cell.lit (Value.bool (timersOk (bentL code) == timersOk (bentL code))))] [DV.one (Cell.lit (Value.bool true))] else Lf [DV.one (Cell.lit (Value.bool false))] [DV.one (Cell.lit (Value.bool true))] else Lf [DV.one (Cell.lit (Value.bool false))] [DV.one (Cell.lit (Value.bool true))]) := by kernel_rfl
theorem ok_laws_FnDue : Holds EE (6, con_laws_FnDue) := by
  refine holds_of EE_ok Go.Proofs.Try.func6 con_laws_FnDue (by kernel_rfl) use_laws_FnDue (all_cons ok_laws_big (all_cons ok_spec_DrawDueTimers (all_cons ok_impl_DueTimers (all_cons ok_spec_DrawTimersOk (all_cons ok_spec_TimersOk (all_cons ok_impl_TimersOk all_nil)))))) ann_laws_FnDue (fun (code : (List Int)) hp hb => ?_)
  have hb_code : BdDV (U := UU) (.one (.sl .byte code)) := hb _ (List.mem_cons_self)
  have hl_code : code.length ≤ 9223372036854775807 := Bd.len hb_code
  clear hp hb
  rw [vc_laws_FnDue code]
  dsimp only
  refine if_cond (fun h => Lf_rfl _) (fun h => ?_)
  have h := of_decide_eq_false h
  obtain ⟨q1, q2, q3⟩ := anyW_ok (cOk_new (code := code) (by omega))
  have hs := timerS_size q2
  have hpl := parts_len (nowW code) (anyW (newCur code)).1
  refine ⟨by omega, by omega, if_cond (fun g => absurd g ?_) (fun g => ⟨⟨rfl, rfl, rfl, by omega, by omega⟩, ?_⟩)⟩
  · rw [wrap_i64 (by omega) (by omega)]; simp; omega
  rintro ⟨l, a, b, i, ⟨⟩⟩ ⟨rfl, rfl, rfl, h1, h2⟩
  simp only
  refine if_cond (fun hc => ?_) (fun hc => ?_)
  · have hc := of_decide_eq_true hc
    have hlt : i.toNat < (dueT (nowW code) (anyW (newCur code)).1).length := by omega
    have hd := due_at hlt
    rw [wrap_i64 (by omega) (by omega)]
    exact ⟨h1, hlt, hlt, if_cond (fun g => absurd (of_decide_eq_true g) (by omega)) (fun g => ⟨⟨rfl, rfl, rfl, by omega, by omega⟩, by simp only [μ_laws_FnDue_8]; omega⟩)⟩
  refine ⟨⟨rfl, rfl, rfl, by omega, by omega⟩, ?_⟩
  rintro ⟨l, a, b, i, ⟨⟩⟩ ⟨rfl, rfl, rfl, h1, h2⟩
  simp only
  refine if_cond (fun hc => ?_) (fun hc => ?_)
  · have hc := of_decide_eq_true hc
    have hlt : i.toNat < (resT (nowW code) (anyW (newCur code)).1).length := by omega
    have hd := res_at hlt
    rw [wrap_i64 (by omega) (by omega)]
    exact ⟨h1, hlt, hlt, if_cond (fun g => absurd (of_decide_eq_true g) hd) (fun g => ⟨⟨rfl, rfl, rfl, by omega, by omega⟩, by simp only [μ_laws_FnDue_13]; omega⟩)⟩
  refine ⟨by omega, if_cond (fun g => Lf_b (by simp)) (fun g => ?_)⟩
  have g : timersOk (anyW (newCur code)).1 = true := by simpa using g
  have ga : timersOk (dueT (nowW code) (anyW (newCur code)).1) = true := timersOk_filter _ g
  have gb : timersOk (resT (nowW code) (anyW (newCur code)).1) = true := timersOk_filter _ g
  exact if_cond (fun _ => if_cond (fun _ => Lf_b (by simp)) (fun k => absurd (gb.symm.trans k) (by decide))) (fun k => absurd (ga.symm.trans k) (by decide))
end
end AM
