/- Functions of the program with their contracts: put together by gen/link.py for FnAnswered. -/
import Derived.Test.YtignnkcjolobgaaGreatDoorAmLib
import Derived.Test.YtignnkcjolobgaaGreatDoorAmModels
import Derived.Lib.ItoaLen
import Derived.Lib.Join
import Derived.Test.YtignnkcjolobgaaGreatDoorShelf
namespace AM
open Go
set_option linter.unusedVariables false
set_option linter.unusedSimpArgs false
set_option maxRecDepth 100000
noncomputable section
def smallB (b : Int) : Bool := decide (97 ≤ b ∧ b ≤ 122)
def wordB (b : Int) : Bool := smallB b || decide (48 ≤ b ∧ b ≤ 57) || decide (b = 95)
def wordS (s : ByteArray) : Bool := (bs s).all (byteP wordB)
def nameOk (s : ByteArray) : Bool := decide (1 ≤ s.size ∧ s.size ≤ 12) && smallB (List.getD (bs s) 0 0).toNat && wordS s
def valOk (v : DVal) : Bool := bif decide (v.K = 1) then decide (-1000000000 ≤ v.N ∧ v.N ≤ 1000000000) && decide (v.S = noBytes) else bif decide (v.K = 2) then decide (v.N = 0) && decide (v.S.size ≤ 20) && wordS v.S else false
def factOk (f : DFact) : Bool := nameOk f.Kind && decide (f.Fields.length ≤ 5) && f.Fields.all valOk
def con_impl_inRange : Con UU where
  α := Int × Int × Int
  md := [.ro, .ro, .ro]
  of := fun | [.one (.lit (.int .i64 a0)), .one (.lit (.int .i64 a1)), .one (.lit (.int .i64 a2))] => some (a0, a1, a2) | _ => none
  ds := fun (n, least, most) => [.one (.lit (.int .i64 n)), .one (.lit (.int .i64 least)), .one (.lit (.int .i64 most))]
  pre := fun (n, least, most) => []
  res := fun (n, least, most) => ⟨[.one (.lit (.bool (decide (least ≤ n ∧ n ≤ most))))], true, []⟩
  law := by intro l x h; (try simp only at h); split at h <;> cases h; rfl
def ann_impl_inRange : con_impl_inRange.α → Nat → Option (Ann UU) := fun (n, least, most) => annL []
def use_impl_inRange : List (FuncId × Con UU) := []
theorem vc_impl_inRange (n : Int) (least : Int) (most : Int) : goal EE use_impl_inRange Go.Proofs.Tryz.f63 con_impl_inRange ann_impl_inRange (n, least, most) = (bif decide (n ≥ least) then Lf [DV.one (Cell.lit (Value.bool (decide (n ≤ most))))] [DV.one (Cell.lit (Value.bool (decide (least ≤ n ∧ n ≤ most))))] else Lf [DV.one (Cell.lit (Value.bool false))] [DV.one (Cell.lit (Value.bool (decide (least ≤ n ∧ n ≤ most))))]) := by kernel_rfl
theorem ok_impl_inRange : Holds EE (63, con_impl_inRange) := by
  refine holds_of EE_ok Go.Proofs.Tryz.func63 con_impl_inRange (by kernel_rfl) use_impl_inRange all_nil ann_impl_inRange (fun x hp hb => ?_)
  obtain ⟨n, least, most⟩ := x
  have hb_n : BdDV (U := UU) (.one (.lit (.int .i64 n))) := hb _ (List.mem_cons_self)
  have hl_n := Bd.i64 hb_n
  have hb_least : BdDV (U := UU) (.one (.lit (.int .i64 least))) := hb _ (List.mem_cons_of_mem _ (List.mem_cons_self))
  have hl_least := Bd.i64 hb_least
  have hb_most : BdDV (U := UU) (.one (.lit (.int .i64 most))) := hb _ (List.mem_cons_of_mem _ (List.mem_cons_of_mem _ (List.mem_cons_self)))
  have hl_most := Bd.i64 hb_most
  clear hp hb
  rw [vc_impl_inRange n least most]
  refine if_cond (fun h => Lf_b ?_) (fun h => Lf_b ?_) <;> grind
def con_spec_l1In : Con UU where
  α := Int × Int × Int
  md := [.ro, .ro, .ro]
  of := fun | [.one (.lit (.int .i64 a0)), .one (.lit (.int .i64 a1)), .one (.lit (.int .i64 a2))] => some (a0, a1, a2) | _ => none
  ds := fun (x, least, most) => [.one (.lit (.int .i64 x)), .one (.lit (.int .i64 least)), .one (.lit (.int .i64 most))]
  pre := fun (x, least, most) => []
  res := fun (x, least, most) => ⟨[.one (.lit (.bool (decide (least ≤ x ∧ x ≤ most))))], true, []⟩
  law := by intro l x h; (try simp only at h); split at h <;> cases h; rfl
def ann_spec_l1In : con_spec_l1In.α → Nat → Option (Ann UU) := fun (x, least, most) => annL []
def use_spec_l1In : List (FuncId × Con UU) := []
theorem vc_spec_l1In (x : Int) (least : Int) (most : Int) : goal EE use_spec_l1In Go.Proofs.Tryz.f40 con_spec_l1In ann_spec_l1In (x, least, most) = (bif decide (x ≥ least) then Lf [DV.one (Cell.lit (Value.bool (decide (x ≤ most))))] [DV.one (Cell.lit (Value.bool (decide (least ≤ x ∧ x ≤ most))))] else Lf [DV.one (Cell.lit (Value.bool false))] [DV.one (Cell.lit (Value.bool (decide (least ≤ x ∧ x ≤ most))))]) := by kernel_rfl
theorem ok_spec_l1In : Holds EE (40, con_spec_l1In) := by
  refine holds_of EE_ok Go.Proofs.Tryz.func40 con_spec_l1In (by kernel_rfl) use_spec_l1In all_nil ann_spec_l1In (fun x hp hb => ?_)
  obtain ⟨x, least, most⟩ := x
  have hb_x : BdDV (U := UU) (.one (.lit (.int .i64 x))) := hb _ (List.mem_cons_self)
  have hl_x := Bd.i64 hb_x
  have hb_least : BdDV (U := UU) (.one (.lit (.int .i64 least))) := hb _ (List.mem_cons_of_mem _ (List.mem_cons_self))
  have hl_least := Bd.i64 hb_least
  have hb_most : BdDV (U := UU) (.one (.lit (.int .i64 most))) := hb _ (List.mem_cons_of_mem _ (List.mem_cons_of_mem _ (List.mem_cons_self)))
  have hl_most := Bd.i64 hb_most
  clear hp hb
  rw [vc_spec_l1In x least most]
  refine if_cond (fun h => Lf_b ?_) (fun h => Lf_b ?_) <;> grind
def con_impl_isSmall : Con UU where
  α := Int
  md := [.ro]
  of := fun | [.one (.lit (.int .u8 a0))] => some a0 | _ => none
  ds := fun b => [.one (.lit (.int .u8 b))]
  pre := fun b => []
  res := fun b => ⟨[.one (.lit (.bool (smallB b)))], true, []⟩
  law := by intro l x h; (try simp only at h); split at h <;> cases h; rfl
def ann_impl_isSmall : con_impl_isSmall.α → Nat → Option (Ann UU) := fun b => annL []
def use_impl_isSmall : List (FuncId × Con UU) := []
theorem vc_impl_isSmall (b : Int) : goal EE use_impl_isSmall Go.Proofs.Tryz.f80 con_impl_isSmall ann_impl_isSmall b = (bif decide (b ≥ (97 : Int)) then Lf [DV.one (Cell.lit (Value.bool (decide (b ≤ (122 : Int)))))] [DV.one (Cell.lit (Value.bool (smallB b)))] else Lf [DV.one (Cell.lit (Value.bool false))] [DV.one (Cell.lit (Value.bool (smallB b)))]) := by kernel_rfl
theorem ok_impl_isSmall : Holds EE (80, con_impl_isSmall) := by
  refine holds_of EE_ok Go.Proofs.Tryz.func80 con_impl_isSmall (by kernel_rfl) use_impl_isSmall all_nil ann_impl_isSmall (fun (b : Int) hp hb => ?_)
  have hb_b : BdDV (U := UU) (.one (.lit (.int .u8 b))) := hb _ (List.mem_cons_self)
  clear hp hb
  rw [vc_impl_isSmall b]
  refine if_cond (fun h => Lf_b ?_) (fun h => Lf_b ?_) <;> grind [smallB]
def con_impl_isDigit : Con UU where
  α := Int
  md := [.ro]
  of := fun | [.one (.lit (.int .u8 a0))] => some a0 | _ => none
  ds := fun b => [.one (.lit (.int .u8 b))]
  pre := fun b => []
  res := fun b => ⟨[.one (.lit (.bool (decide (48 ≤ b ∧ b ≤ 57))))], true, []⟩
  law := by intro l x h; (try simp only at h); split at h <;> cases h; rfl
def ann_impl_isDigit : con_impl_isDigit.α → Nat → Option (Ann UU) := fun b => annL []
def use_impl_isDigit : List (FuncId × Con UU) := []
theorem vc_impl_isDigit (b : Int) : goal EE use_impl_isDigit Go.Proofs.Tryz.f98 con_impl_isDigit ann_impl_isDigit b = (bif decide (b ≥ (48 : Int)) then Lf [DV.one (Cell.lit (Value.bool (decide (b ≤ (57 : Int)))))] [DV.one (Cell.lit (Value.bool (decide ((48 : Int) ≤ b ∧ b ≤ (57 : Int)))))] else Lf [DV.one (Cell.lit (Value.bool false))] [DV.one (Cell.lit (Value.bool (decide ((48 : Int) ≤ b ∧ b ≤ (57 : Int)))))]) := by kernel_rfl
theorem ok_impl_isDigit : Holds EE (98, con_impl_isDigit) := by
  refine holds_of EE_ok Go.Proofs.Tryz.func98 con_impl_isDigit (by kernel_rfl) use_impl_isDigit all_nil ann_impl_isDigit (fun (b : Int) hp hb => ?_)
  have hb_b : BdDV (U := UU) (.one (.lit (.int .u8 b))) := hb _ (List.mem_cons_self)
  clear hp hb
  rw [vc_impl_isDigit b]
  refine if_cond (fun h => Lf_b ?_) (fun h => Lf_b ?_) <;> grind
def con_impl_isWordByte : Con UU where
  α := Int
  md := [.ro]
  of := fun | [.one (.lit (.int .u8 a0))] => some a0 | _ => none
  ds := fun b => [.one (.lit (.int .u8 b))]
  pre := fun b => []
  res := fun b => ⟨[.one (.lit (.bool (wordB b)))], true, []⟩
  law := by intro l x h; (try simp only at h); split at h <;> cases h; rfl
def ann_impl_isWordByte : con_impl_isWordByte.α → Nat → Option (Ann UU) := fun b => annL []
def use_impl_isWordByte : List (FuncId × Con UU) := [(80, con_impl_isSmall), (98, con_impl_isDigit)]
theorem vc_impl_isWordByte (b : Int) : goal EE use_impl_isWordByte Go.Proofs.Tryz.f89 con_impl_isWordByte ann_impl_isWordByte b = (bif smallB b then Lf [DV.one (Cell.lit (Value.bool true))] [DV.one (Cell.lit (Value.bool (wordB b)))] else bif decide ((48 : Int) ≤ b ∧ b ≤ (57 : Int)) then Lf [DV.one (Cell.lit (Value.bool true))] [DV.one (Cell.lit (Value.bool (wordB b)))] else Lf [DV.one (Cell.lit (Value.bool (b == (95 : Int))))] [DV.one (Cell.lit (Value.bool (wordB b)))]) := by kernel_rfl
theorem ok_impl_isWordByte : Holds EE (89, con_impl_isWordByte) := by
  refine holds_of EE_ok Go.Proofs.Tryz.func89 con_impl_isWordByte (by kernel_rfl) use_impl_isWordByte (all_cons ok_impl_isSmall (all_cons ok_impl_isDigit all_nil)) ann_impl_isWordByte (fun (b : Int) hp hb => ?_)
  have hb_b : BdDV (U := UU) (.one (.lit (.int .u8 b))) := hb _ (List.mem_cons_self)
  clear hp hb
  rw [vc_impl_isWordByte b]
  refine if_cond (fun h => Lf_b ?_) (fun h => ?_)
  · grind [wordB]
  refine if_cond (fun h => Lf_b ?_) (fun h => Lf_b ?_) <;> grind [wordB]
def con_spec_l1Letter : Con UU where
  α := Int
  md := [.ro]
  of := fun | [.one (.lit (.int .u8 a0))] => some a0 | _ => none
  ds := fun c => [.one (.lit (.int .u8 c))]
  pre := fun c => [0 ≤ c ∧ c ≤ 255]
  res := fun c => ⟨[.one (.lit (.bool (wordB c)))], true, []⟩
  law := by intro l x h; (try simp only at h); split at h <;> cases h; rfl
def ann_spec_l1Letter : con_spec_l1Letter.α → Nat → Option (Ann UU) := fun c => annL []
def use_spec_l1Letter : List (FuncId × Con UU) := [(40, con_spec_l1In)]
theorem vc_spec_l1Letter (c : Int) : goal EE use_spec_l1Letter Go.Proofs.Tryz.f81 con_spec_l1Letter ann_spec_l1Letter c = (bif decide ((97 : Int) ≤ IntKind.wrap IntKind.i64 c ∧ IntKind.wrap IntKind.i64 c ≤ (122 : Int)) then Lf [DV.one (Cell.lit (Value.bool true))] [DV.one (Cell.lit (Value.bool (wordB c)))] else bif decide ((48 : Int) ≤ IntKind.wrap IntKind.i64 c ∧ IntKind.wrap IntKind.i64 c ≤ (57 : Int)) then Lf [DV.one (Cell.lit (Value.bool true))] [DV.one (Cell.lit (Value.bool (wordB c)))] else Lf [DV.one (Cell.lit (Value.bool (c == (95 : Int))))] [DV.one (Cell.lit (Value.bool (wordB c)))]) := by kernel_rfl
theorem ok_spec_l1Letter : Holds EE (81, con_spec_l1Letter) := by
  refine holds_of EE_ok Go.Proofs.Tryz.func81 con_spec_l1Letter (by kernel_rfl) use_spec_l1Letter (all_cons ok_spec_l1In all_nil) ann_spec_l1Letter (fun (c : Int) hp hb => ?_)
  have hb_c : BdDV (U := UU) (.one (.lit (.int .u8 c))) := hb _ (List.mem_cons_self)
  have hp0 : 0 ≤ c ∧ c ≤ 255 := hp _ (List.mem_cons_self)
  clear hp hb
  rw [vc_spec_l1Letter c]
  rw [wrap_i64 (by omega) (by omega)]
  refine if_cond (fun h => Lf_b ?_) (fun h => ?_)
  · grind [wordB, smallB]
  refine if_cond (fun h => Lf_b ?_) (fun h => Lf_b ?_) <;> grind [wordB, smallB]
def con_impl_isWord : Con UU where
  α := ByteArray × Int
  md := [.ro, .ro]
  of := fun | [.one (.lit (.string a0)), .one (.lit (.int .i64 a1))] => some (a0, a1) | _ => none
  ds := fun (s, most) => [.one (.lit (.string s)), .one (.lit (.int .i64 most))]
  pre := fun (s, most) => []
  res := fun (s, most) => ⟨[.one (.lit (.bool (decide (s.size ≤ most) && wordS s)))], true, []⟩
  law := by intro l x h; (try simp only at h); split at h <;> cases h; rfl
def I_impl_isWord_4 (s : ByteArray) (most : Int) : Int × Unit → Prop := fun (i, _) => 0 ≤ i ∧ i ≤ s.size ∧ s.size ≤ most ∧ ((bs s).drop i.toNat).all (byteP wordB) = wordS s
def μ_impl_isWord_4 (s : ByteArray) (most : Int) : Int × Unit → Nat := fun (i, _) => s.size - i.toNat
def ann_impl_isWord : con_impl_isWord.α → Nat → Option (Ann UU) := fun (s, most) => annL [(4, annOf [.slot 5 (5, 1024) (.lit (.int .i64))] (fun _ => I_impl_isWord_4 s most) (μ_impl_isWord_4 s most))]
def use_impl_isWord : List (FuncId × Con UU) := [(89, con_impl_isWordByte)]
theorem vc_impl_isWord (s : ByteArray) (most : Int) : goal EE use_impl_isWord Go.Proofs.Tryz.f72 con_impl_isWord ann_impl_isWord (s, most) = (bif decide ((↑(ByteArray.size s) : Int) > most) then Lf [DV.one (Cell.lit (Value.bool false))] [DV.one (Cell.lit (Value.bool (decide ((↑(ByteArray.size s) : Int) ≤ most) && wordS s)))] else I_impl_isWord_4 s most ((0 : Int), PUnit.unit) ∧ ∀ (y : Int × PUnit), I_impl_isWord_4 s most y → bif decide (y.1 < (↑(ByteArray.size s) : Int)) then (0 : Int) ≤ y.1 ∧ Int.toNat y.1 < ByteArray.size s ∧ bif !wordB (↑(UInt8.toNat (List.getD s.data.toList (Int.toNat y.1) (0 : UInt8))) : Int) then Lf [DV.one (Cell.lit (Value.bool false))] [DV.one (Cell.lit (Value.bool (decide ((↑(ByteArray.size s) : Int) ≤ most) && wordS s)))] else I_impl_isWord_4 s most (IntKind.wrap IntKind.i64 (y.1 + (1 : Int)), PUnit.unit) ∧ μ_impl_isWord_4 s most (IntKind.wrap IntKind.i64 (y.1 + (1 : Int)), PUnit.unit) < μ_impl_isWord_4 s most y else Lf [DV.one (Cell.lit (Value.bool true))] [DV.one (Cell.lit (Value.bool (decide ((↑(ByteArray.size s) : Int) ≤ most) && wordS s)))]) := by kernel_rfl
theorem ok_impl_isWord : Holds EE (72, con_impl_isWord) := by
  refine holds_of EE_ok Go.Proofs.Tryz.func72 con_impl_isWord (by kernel_rfl) use_impl_isWord (all_cons ok_impl_isWordByte all_nil) ann_impl_isWord (fun x hp hb => ?_)
  obtain ⟨s, most⟩ := x
  have hb_s : BdDV (U := UU) (.one (.lit (.string s))) := hb _ (List.mem_cons_self)
  have hl_s : s.size ≤ 9223372036854775807 := Bd.str hb_s
  have hb_most : BdDV (U := UU) (.one (.lit (.int .i64 most))) := hb _ (List.mem_cons_of_mem _ (List.mem_cons_self))
  have hl_most := Bd.i64 hb_most
  clear hp hb
  rw [vc_impl_isWord s most]
  refine if_cond (fun h => Lf_ff ?_) (fun h => ?_)
  · have h := of_decide_eq_true h; rw [decide_eq_false (by omega)]; rfl
  have h0 := of_decide_eq_false h
  refine ⟨⟨by omega, by omega, by omega, rfl⟩, ?_⟩
  rintro ⟨i, ⟨⟩⟩ ⟨h1, h2, h3, hR⟩
  have hl := bs_len s
  simp only [bs_eq]
  refine if_cond (fun hc => ?_) (fun hc => ?_)
  · have hc := of_decide_eq_true hc
    rw [all_step _ _ 0 h1 (by omega)] at hR
    rw [wrap_i64 (by omega) (by omega)]
    refine ⟨by omega, by omega, if_cond (fun h => Lf_ff ?_) (fun h => ⟨⟨by omega, by omega, by omega, ?_⟩, ?_⟩)⟩
    · rw [← hR]; simp only [byteP]; simp at h; simp [h]
    · rw [← hR]; simp only [byteP]; simp at h; simp [h]
    · simp only [μ_impl_isWord_4]; omega
  · have hc := of_decide_eq_false hc
    rw [drop_end _ (by omega)] at hR
    exact Lf_tt (by rw [← hR, decide_eq_true h3]; rfl)
def con_impl_NameOk : Con UU where
  α := ByteArray
  md := [.ro]
  of := fun | [.one (.lit (.string a0))] => some a0 | _ => none
  ds := fun s => [.one (.lit (.string s))]
  pre := fun s => []
  res := fun s => ⟨[.one (.lit (.bool (nameOk s)))], true, []⟩
  law := by intro l x h; (try simp only at h); split at h <;> cases h; rfl
def ann_impl_NameOk : con_impl_NameOk.α → Nat → Option (Ann UU) := fun s => annL []
def use_impl_NameOk : List (FuncId × Con UU) := [(80, con_impl_isSmall), (72, con_impl_isWord)]
theorem vc_impl_NameOk (s : ByteArray) : goal EE use_impl_NameOk Go.Proofs.Tryz.f62 con_impl_NameOk ann_impl_NameOk s = (bif decide ((↑(ByteArray.size s) : Int) > (0 : Int)) then (0 : Int) ≤ (0 : Int) ∧ Int.toNat (0 : Int) < ByteArray.size s ∧ bif smallB (↑(UInt8.toNat (List.getD s.data.toList (Int.toNat (0 : Int)) (0 : UInt8))) : Int) then Lf [DV.one (Cell.lit (Value.bool (decide ((↑(ByteArray.size s) : Int) ≤ (12 : Int)) && wordS s)))] [DV.one (Cell.lit (Value.bool (nameOk s)))] else Lf [DV.one (Cell.lit (Value.bool false))] [DV.one (Cell.lit (Value.bool (nameOk s)))] else Lf [DV.one (Cell.lit (Value.bool false))] [DV.one (Cell.lit (Value.bool (nameOk s)))]) := by kernel_rfl
theorem ok_impl_NameOk : Holds EE (62, con_impl_NameOk) := by
  refine holds_of EE_ok Go.Proofs.Tryz.func62 con_impl_NameOk (by kernel_rfl) use_impl_NameOk (all_cons ok_impl_isSmall (all_cons ok_impl_isWord all_nil)) ann_impl_NameOk (fun (s : ByteArray) hp hb => ?_)
  have hb_s : BdDV (U := UU) (.one (.lit (.string s))) := hb _ (List.mem_cons_self)
  have hl_s : s.size ≤ 9223372036854775807 := Bd.str hb_s
  clear hp hb
  rw [vc_impl_NameOk s]
  have hl := bs_len s
  simp only [bs_eq]
  refine if_cond (fun h => ?_) (fun h => Lf_ff ?_)
  · have h := of_decide_eq_true h
    refine ⟨by omega, by omega, if_cond (fun h' => Lf_b ?_) (fun h' => Lf_ff ?_)⟩
    · have h' : smallB ((List.getD (bs s) 0 0).toNat : Int) = true := h'
      simp only [nameOk, h']
      have e : decide (1 ≤ s.size ∧ s.size ≤ 12) = decide ((s.size : Int) ≤ 12) := by rw [decide_eq_decide]; omega
      rw [e]; simp
    · have h' : smallB ((List.getD (bs s) 0 0).toNat : Int) = false := h'
      simp only [nameOk, h']; grind
  · have h := of_decide_eq_false h
    simp only [nameOk]; rw [decide_eq_false (by omega)]; rfl
def con_spec_NameOk : Con UU where
  α := ByteArray
  md := [.ro]
  of := fun | [.one (.lit (.string a0))] => some a0 | _ => none
  ds := fun s => [.one (.lit (.string s))]
  pre := fun s => []
  res := fun s => ⟨[.one (.lit (.bool (nameOk s)))], true, []⟩
  law := by intro l x h; (try simp only at h); split at h <;> cases h; rfl
def I_spec_NameOk_2 (s : ByteArray) : Int × Unit → Prop := fun (i, _) => 0 ≤ i ∧ i ≤ s.size ∧ ((bs s).drop i.toNat).all (byteP wordB) = wordS s ∧ (0 < i → smallB (List.getD (bs s) 0 0).toNat = true)
def μ_spec_NameOk_2 (s : ByteArray) : Int × Unit → Nat := fun (i, _) => s.size - i.toNat
def ann_spec_NameOk : con_spec_NameOk.α → Nat → Option (Ann UU) := fun s => annL [(2, annOf [.slot 3 (3, 1024) (.lit (.int .i64))] (fun _ => I_spec_NameOk_2 s) (μ_spec_NameOk_2 s))]
def use_spec_NameOk : List (FuncId × Con UU) := [(81, con_spec_l1Letter), (40, con_spec_l1In)]
theorem vc_spec_NameOk (s : ByteArray) : goal EE use_spec_NameOk Go.Proofs.Tryz.f66 con_spec_NameOk ann_spec_NameOk s = (I_spec_NameOk_2 s ((0 : Int), PUnit.unit) ∧
  ∀ (y : Int × PUnit),
    let x0 : Int := (↑(UInt8.toNat (List.getD s.data.toList (Int.toNat y.1) (0 : UInt8))) : Int);
    I_spec_NameOk_2 s y → bif decide (y.1 < (↑(ByteArray.size s) : Int)) then (0 : Int) ≤ y.1 ∧ Int.toNat y.1 < ByteArray.size s ∧ ((0 : Int) ≤ x0 ∧ x0 ≤ (255 : Int)) ∧ bif !wordB x0 then Lf [DV.one (Cell.lit (Value.bool false))] [DV.one (Cell.lit (Value.bool (nameOk s)))] else bif y.1 == (0 : Int) then (0 : Int) ≤ y.1 ∧ Int.toNat y.1 < ByteArray.size s ∧ bif !decide ((97 : Int) ≤ IntKind.wrap IntKind.i64 x0 ∧ IntKind.wrap IntKind.i64 x0 ≤ (122 : Int)) then Lf [DV.one (Cell.lit (Value.bool false))] [DV.one (Cell.lit (Value.bool (nameOk s)))] else I_spec_NameOk_2 s (IntKind.wrap IntKind.i64 (y.1 + (1 : Int)), PUnit.unit) ∧ μ_spec_NameOk_2 s (IntKind.wrap IntKind.i64 (y.1 + (1 : Int)), PUnit.unit) < μ_spec_NameOk_2 s y else I_spec_NameOk_2 s (IntKind.wrap IntKind.i64 (y.1 + (1 : Int)), PUnit.unit) ∧ μ_spec_NameOk_2 s (IntKind.wrap IntKind.i64 (y.1 + (1 : Int)), PUnit.unit) < μ_spec_NameOk_2 s y else Lf [DV.one (Cell.lit (Value.bool (decide ((1 : Int) ≤ (↑(ByteArray.size s) : Int) ∧ (↑(ByteArray.size s) : Int) ≤ (12 : Int)))))] [DV.one (Cell.lit (Value.bool (nameOk s)))]) := by kernel_rfl
theorem ok_spec_NameOk : Holds EE (66, con_spec_NameOk) := by
  refine holds_of EE_ok Go.Proofs.Tryz.func66 con_spec_NameOk (by kernel_rfl) use_spec_NameOk (all_cons ok_spec_l1Letter (all_cons ok_spec_l1In all_nil)) ann_spec_NameOk (fun (s : ByteArray) hp hb => ?_)
  have hb_s : BdDV (U := UU) (.one (.lit (.string s))) := hb _ (List.mem_cons_self)
  have hl_s : s.size ≤ 9223372036854775807 := Bd.str hb_s
  clear hp hb
  rw [vc_spec_NameOk s]
  dsimp only
  refine ⟨⟨by omega, by omega, rfl, by omega⟩, ?_⟩
  rintro ⟨i, ⟨⟩⟩ ⟨h1, h2, hR, hS⟩
  have hl := bs_len s
  simp only [bs_eq, u8_i64]
  refine if_cond (fun hc => ?_) (fun hc => ?_)
  · have hc := of_decide_eq_true hc
    have hb := (List.getD (bs s) i.toNat 0).toNat_lt
    rw [all_step _ _ 0 h1 (by omega)] at hR
    rw [wrap_i64 (by omega) (by omega)]
    have hN : wordS s = false → nameOk s = false := fun h => by simp [nameOk, h]
    refine ⟨by omega, by omega, ⟨by omega, by omega⟩, if_cond (fun h => Lf_ff (hN ?_)) (fun h => if_cond (fun h' => ⟨by omega, by omega, if_cond (fun h'' => Lf_ff ?_) (fun h'' => ⟨⟨by omega, by omega, ?_, fun _ => ?_⟩, ?_⟩)⟩) (fun h' => ⟨⟨by omega, by omega, ?_, fun _ => hS ?_⟩, ?_⟩))⟩
    · rw [← hR]; simp only [byteP]; simp at h; simp [h]
    · have h' : i = 0 := by simpa using h'
      subst h'
      have h'' : smallB ((List.getD (bs s) 0 0).toNat : Int) = false := by simp only [smallB]; grind
      simp only [nameOk, h'']; grind
    · rw [← hR]; simp only [byteP]; simp at h; simp [h]
    · have h' : i = 0 := by simpa using h'
      subst h'
      simpa [smallB] using h''
    · simp only [μ_spec_NameOk_2]; omega
    · rw [← hR]; simp only [byteP]; simp at h; simp [h]
    · have h' : ¬ i = 0 := by simpa using h'
      omega
    · simp only [μ_spec_NameOk_2]; omega
  · have hc := of_decide_eq_false hc
    rw [drop_end _ (by omega)] at hR
    refine Lf_b ?_
    simp only [nameOk, ← hR]
    by_cases hz : 0 < i
    · rw [hS hz]; simp only [List.all_nil]; grind
    · rw [decide_eq_false (by omega), decide_eq_false (by omega)]; rfl
def con_spec_l2Plain : Con UU where
  α := ByteArray
  md := [.ro]
  of := fun | [.one (.lit (.string a0))] => some a0 | _ => none
  ds := fun s => [.one (.lit (.string s))]
  pre := fun s => []
  res := fun s => ⟨[.one (.lit (.bool (decide (s.size ≤ 20) && wordS s)))], true, []⟩
  law := by intro l x h; (try simp only at h); split at h <;> cases h; rfl
def I_spec_l2Plain_2 (s : ByteArray) : Int × Unit → Prop := fun (i, _) => 0 ≤ i ∧ i ≤ s.size ∧ ((bs s).drop i.toNat).all (byteP wordB) = wordS s
def μ_spec_l2Plain_2 (s : ByteArray) : Int × Unit → Nat := fun (i, _) => s.size - i.toNat
def ann_spec_l2Plain : con_spec_l2Plain.α → Nat → Option (Ann UU) := fun s => annL [(2, annOf [.slot 3 (3, 1024) (.lit (.int .i64))] (fun _ => I_spec_l2Plain_2 s) (μ_spec_l2Plain_2 s))]
def use_spec_l2Plain : List (FuncId × Con UU) := [(81, con_spec_l1Letter)]
theorem vc_spec_l2Plain (s : ByteArray) : goal EE use_spec_l2Plain Go.Proofs.Tryz.f73 con_spec_l2Plain ann_spec_l2Plain s = (I_spec_l2Plain_2 s ((0 : Int), PUnit.unit) ∧
  ∀ (y : Int × PUnit),
    let x0 : Int := (↑(UInt8.toNat (List.getD s.data.toList (Int.toNat y.1) (0 : UInt8))) : Int);
    I_spec_l2Plain_2 s y → bif decide (y.1 < (↑(ByteArray.size s) : Int)) then (0 : Int) ≤ y.1 ∧ Int.toNat y.1 < ByteArray.size s ∧ ((0 : Int) ≤ x0 ∧ x0 ≤ (255 : Int)) ∧ bif !wordB x0 then Lf [DV.one (Cell.lit (Value.bool false))] [DV.one (Cell.lit (Value.bool (decide (ByteArray.size s ≤ (20 : Nat)) && wordS s)))] else I_spec_l2Plain_2 s (IntKind.wrap IntKind.i64 (y.1 + (1 : Int)), PUnit.unit) ∧ μ_spec_l2Plain_2 s (IntKind.wrap IntKind.i64 (y.1 + (1 : Int)), PUnit.unit) < μ_spec_l2Plain_2 s y else Lf [DV.one (Cell.lit (Value.bool (decide ((↑(ByteArray.size s) : Int) ≤ (20 : Int)))))] [DV.one (Cell.lit (Value.bool (decide (ByteArray.size s ≤ (20 : Nat)) && wordS s)))]) := by kernel_rfl
theorem ok_spec_l2Plain : Holds EE (73, con_spec_l2Plain) := by
  refine holds_of EE_ok Go.Proofs.Tryz.func73 con_spec_l2Plain (by kernel_rfl) use_spec_l2Plain (all_cons ok_spec_l1Letter all_nil) ann_spec_l2Plain (fun (s : ByteArray) hp hb => ?_)
  have hb_s : BdDV (U := UU) (.one (.lit (.string s))) := hb _ (List.mem_cons_self)
  have hl_s : s.size ≤ 9223372036854775807 := Bd.str hb_s
  clear hp hb
  rw [vc_spec_l2Plain s]
  dsimp only
  refine ⟨⟨by omega, by omega, rfl⟩, ?_⟩
  rintro ⟨i, ⟨⟩⟩ ⟨h1, h2, hR⟩
  have hl := bs_len s
  simp only [bs_eq]
  refine if_cond (fun hc => ?_) (fun hc => ?_)
  · have hc := of_decide_eq_true hc
    have hb := (List.getD (bs s) i.toNat 0).toNat_lt
    rw [all_step _ _ 0 h1 (by omega)] at hR
    rw [wrap_i64 (by omega) (by omega)]
    refine ⟨by omega, by omega, ⟨by omega, by omega⟩, if_cond (fun h => Lf_ff ?_) (fun h => ⟨⟨by omega, by omega, ?_⟩, ?_⟩)⟩
    · rw [← hR]; simp only [byteP]; simp at h; simp [h]
    · rw [← hR]; simp only [byteP]; simp at h; simp [h]
    · simp only [μ_spec_l2Plain_2]; omega
  · have hc := of_decide_eq_false hc
    rw [drop_end _ (by omega)] at hR
    refine Lf_b ?_
    rw [← hR]; simp; omega
def con_impl_ValOk : Con UU where
  α := DVal
  md := [.ro]
  of := fun | [.agg [.lit (.int .i64 a0), .lit (.int .i64 a1), .lit (.string a2)]] => some ⟨a0, a1, a2⟩ | _ => none
  ds := fun v => [.agg [.lit (.int .i64 v.K), .lit (.int .i64 v.N), .lit (.string v.S)]]
  pre := fun v => []
  res := fun v => ⟨[.one (.lit (.bool (valOk v)))], true, []⟩
  law := by intro l x h; (try simp only at h); split at h <;> cases h; rfl
def ann_impl_ValOk : con_impl_ValOk.α → Nat → Option (Ann UU) := fun v => annL []
def use_impl_ValOk : List (FuncId × Con UU) := [(63, con_impl_inRange), (72, con_impl_isWord)]
theorem vc_impl_ValOk (v : DVal) : goal EE use_impl_ValOk Go.Proofs.Tryz.f48 con_impl_ValOk ann_impl_ValOk v = (bif v.K == (1 : Int) then bif decide ((-1000000000 : Int) ≤ v.N ∧ v.N ≤ (1000000000 : Int)) then Lf [DV.one (Cell.lit (Value.bool (ByteArray.toList v.S == ByteArray.toList { data := #[] : ByteArray })))] [DV.one (Cell.lit (Value.bool (valOk v)))] else Lf [DV.one (Cell.lit (Value.bool false))] [DV.one (Cell.lit (Value.bool (valOk v)))] else bif v.K == (2 : Int) then bif v.N == (0 : Int) then Lf [DV.one (Cell.lit (Value.bool (decide ((↑(ByteArray.size v.S) : Int) ≤ (20 : Int)) && wordS v.S)))] [DV.one (Cell.lit (Value.bool (valOk v)))] else Lf [DV.one (Cell.lit (Value.bool false))] [DV.one (Cell.lit (Value.bool (valOk v)))] else Lf [DV.one (Cell.lit (Value.bool false))] [DV.one (Cell.lit (Value.bool (valOk v)))]) := by kernel_rfl
theorem ok_impl_ValOk : Holds EE (48, con_impl_ValOk) := by
  refine holds_of EE_ok Go.Proofs.Tryz.func48 con_impl_ValOk (by kernel_rfl) use_impl_ValOk (all_cons ok_impl_inRange (all_cons ok_impl_isWord all_nil)) ann_impl_ValOk (fun (v : DVal) hp hb => ?_)
  have hb_v : BdDV (U := UU) (.agg [.lit (.int .i64 v.K), .lit (.int .i64 v.N), .lit (.string v.S)]) := hb _ (List.mem_cons_self)
  have hl_v_S : v.S.size ≤ 9223372036854775807 := Bd.str (hb_v _ (by simp))
  clear hp hb
  rw [vc_impl_ValOk v]
  have e : (ByteArray.toList (DVal.S v) == ByteArray.toList { data := #[] }) = decide (v.S = noBytes) := toList_beq _ _
  simp only [e, valOk]
  repeat' (refine if_cond (fun h => ?_) (fun h => ?_))
  all_goals (refine Lf_b ?_; grind)
def con_spec_ValOk : Con UU where
  α := DVal
  md := [.ro]
  of := fun | [.agg [.lit (.int .i64 a0), .lit (.int .i64 a1), .lit (.string a2)]] => some ⟨a0, a1, a2⟩ | _ => none
  ds := fun v => [.agg [.lit (.int .i64 v.K), .lit (.int .i64 v.N), .lit (.string v.S)]]
  pre := fun v => []
  res := fun v => ⟨[.one (.lit (.bool (valOk v)))], true, []⟩
  law := by intro l x h; (try simp only at h); split at h <;> cases h; rfl
def ann_spec_ValOk : con_spec_ValOk.α → Nat → Option (Ann UU) := fun v => annL []
def use_spec_ValOk : List (FuncId × Con UU) := [(40, con_spec_l1In), (73, con_spec_l2Plain)]
theorem vc_spec_ValOk (v : DVal) : goal EE use_spec_ValOk Go.Proofs.Tryz.f49 con_spec_ValOk ann_spec_ValOk v = (bif v.K == (1 : Int) then bif decide ((-1000000000 : Int) ≤ v.N ∧ v.N ≤ (1000000000 : Int)) then Lf [DV.one (Cell.lit (Value.bool (ByteArray.toList v.S == ByteArray.toList { data := #[] : ByteArray })))] [DV.one (Cell.lit (Value.bool (valOk v)))] else Lf [DV.one (Cell.lit (Value.bool false))] [DV.one (Cell.lit (Value.bool (valOk v)))] else bif v.K == (2 : Int) then bif decide (ByteArray.size v.S ≤ (20 : Nat)) && wordS v.S then Lf [DV.one (Cell.lit (Value.bool (v.N == (0 : Int))))] [DV.one (Cell.lit (Value.bool (valOk v)))] else Lf [DV.one (Cell.lit (Value.bool false))] [DV.one (Cell.lit (Value.bool (valOk v)))] else Lf [DV.one (Cell.lit (Value.bool false))] [DV.one (Cell.lit (Value.bool (valOk v)))]) := by kernel_rfl
theorem ok_spec_ValOk : Holds EE (49, con_spec_ValOk) := by
  refine holds_of EE_ok Go.Proofs.Tryz.func49 con_spec_ValOk (by kernel_rfl) use_spec_ValOk (all_cons ok_spec_l1In (all_cons ok_spec_l2Plain all_nil)) ann_spec_ValOk (fun (v : DVal) hp hb => ?_)
  have hb_v : BdDV (U := UU) (.agg [.lit (.int .i64 v.K), .lit (.int .i64 v.N), .lit (.string v.S)]) := hb _ (List.mem_cons_self)
  have hl_v_S : v.S.size ≤ 9223372036854775807 := Bd.str (hb_v _ (by simp))
  clear hp hb
  rw [vc_spec_ValOk v]
  have e : (ByteArray.toList (DVal.S v) == ByteArray.toList { data := #[] }) = decide (v.S = noBytes) := toList_beq _ _
  simp only [e, valOk]
  repeat' (refine if_cond (fun h => ?_) (fun h => ?_))
  all_goals (refine Lf_b ?_; grind)
def con_spec_l3Vals : Con UU where
  α := (List DVal)
  md := [.ro]
  of := fun | [.one (.sl .eVal a0)] => some a0 | _ => none
  ds := fun l => [.one (.sl .eVal l)]
  pre := fun l => []
  res := fun l => ⟨[.one (.lit (.bool (decide (l.length ≤ 5) && l.all valOk)))], true, []⟩
  law := by intro l x h; (try simp only at h); split at h <;> cases h; rfl
def I_spec_l3Vals_2 (l : (List DVal)) : Int × Unit → Prop := fun (i, _) => 0 ≤ i ∧ i ≤ l.length ∧ (l.drop i.toNat).all valOk = l.all valOk
def μ_spec_l3Vals_2 (l : (List DVal)) : Int × Unit → Nat := fun (i, _) => l.length - i.toNat
def ann_spec_l3Vals : con_spec_l3Vals.α → Nat → Option (Ann UU) := fun l => annL [(2, annOf [.slot 3 (3, 1024) (.lit (.int .i64))] (fun _ => I_spec_l3Vals_2 l) (μ_spec_l3Vals_2 l))]
def use_spec_l3Vals : List (FuncId × Con UU) := [(49, con_spec_ValOk)]
theorem vc_spec_l3Vals (l : (List DVal)) : goal EE use_spec_l3Vals Go.Proofs.Tryz.f67 con_spec_l3Vals ann_spec_l3Vals l = (let x0 : Int := (↑(List.length l) : Int);
I_spec_l3Vals_2 l ((0 : Int), PUnit.unit) ∧ ∀ (y : Int × PUnit), I_spec_l3Vals_2 l y → bif decide (y.1 < x0) then (0 : Int) ≤ y.1 ∧ Int.toNat y.1 < List.length l ∧ bif !valOk (List.getD l (Int.toNat y.1) zVal) then Lf [DV.one (Cell.lit (Value.bool false))] [DV.one (Cell.lit (Value.bool (decide (List.length l ≤ (5 : Nat)) && List.all l valOk)))] else I_spec_l3Vals_2 l (IntKind.wrap IntKind.i64 (y.1 + (1 : Int)), PUnit.unit) ∧ μ_spec_l3Vals_2 l (IntKind.wrap IntKind.i64 (y.1 + (1 : Int)), PUnit.unit) < μ_spec_l3Vals_2 l y else Lf [DV.one (Cell.lit (Value.bool (decide (x0 ≤ (5 : Int)))))] [DV.one (Cell.lit (Value.bool (decide (List.length l ≤ (5 : Nat)) && List.all l valOk)))]) := by kernel_rfl
theorem ok_spec_l3Vals : Holds EE (67, con_spec_l3Vals) := by
  refine holds_of EE_ok Go.Proofs.Tryz.func67 con_spec_l3Vals (by kernel_rfl) use_spec_l3Vals (all_cons ok_spec_ValOk all_nil) ann_spec_l3Vals (fun (l : (List DVal)) hp hb => ?_)
  have hb_l : BdDV (U := UU) (.one (.sl .eVal l)) := hb _ (List.mem_cons_self)
  have hl_l : l.length ≤ 9223372036854775807 := Bd.len hb_l
  clear hp hb
  rw [vc_spec_l3Vals l]
  dsimp only
  refine ⟨⟨by omega, by omega, rfl⟩, ?_⟩
  rintro ⟨i, ⟨⟩⟩ ⟨h1, h2, hR⟩
  simp only
  refine if_cond (fun hc => ?_) (fun hc => ?_)
  · have hc := of_decide_eq_true hc
    rw [all_step _ _ zVal h1 (by omega)] at hR
    rw [wrap_i64 (by omega) (by omega)]
    refine ⟨by omega, by omega, if_cond (fun h => Lf_ff ?_) (fun h => ⟨⟨by omega, by omega, ?_⟩, ?_⟩)⟩
    · rw [← hR]; simp at h; simp [h]
    · rw [← hR]; simp at h; simp [h]
    · simp only [μ_spec_l3Vals_2]; omega
  · have hc := of_decide_eq_false hc
    rw [drop_end _ (by omega)] at hR
    refine Lf_b ?_
    rw [← hR]; simp; omega
def con_spec_FactOk : Con UU where
  α := DFact
  md := [.ro]
  of := fun | [.agg [.lit (.string a0), .sl .eVal a1]] => some ⟨a0, a1⟩ | _ => none
  ds := fun f => [.agg [.lit (.string f.Kind), .sl .eVal f.Fields]]
  pre := fun f => []
  res := fun f => ⟨[.one (.lit (.bool (factOk f)))], true, []⟩
  law := by intro l x h; (try simp only at h); split at h <;> cases h; rfl
def ann_spec_FactOk : con_spec_FactOk.α → Nat → Option (Ann UU) := fun f => annL []
def use_spec_FactOk : List (FuncId × Con UU) := [(66, con_spec_NameOk), (67, con_spec_l3Vals)]
theorem vc_spec_FactOk (f : DFact) : goal EE use_spec_FactOk Go.Proofs.Tryz.f38 con_spec_FactOk ann_spec_FactOk f = (bif nameOk f.Kind then Lf [DV.one (Cell.lit (Value.bool (decide (List.length f.Fields ≤ (5 : Nat)) && List.all f.Fields valOk)))] [DV.one (Cell.lit (Value.bool (factOk f)))] else Lf [DV.one (Cell.lit (Value.bool false))] [DV.one (Cell.lit (Value.bool (factOk f)))]) := by kernel_rfl
theorem ok_spec_FactOk : Holds EE (38, con_spec_FactOk) := by
  refine holds_of EE_ok Go.Proofs.Tryz.func38 con_spec_FactOk (by kernel_rfl) use_spec_FactOk (all_cons ok_spec_NameOk (all_cons ok_spec_l3Vals all_nil)) ann_spec_FactOk (fun (f : DFact) hp hb => ?_)
  have hb_f : BdDV (U := UU) (.agg [.lit (.string f.Kind), .sl .eVal f.Fields]) := hb _ (List.mem_cons_self)
  have hl_f_Kind : f.Kind.size ≤ 9223372036854775807 := Bd.str (hb_f _ (by simp))
  have hl_f_Fields : f.Fields.length ≤ 9223372036854775807 := Bd.len (U := UU) (τ := .eVal) (xs := f.Fields) (hb_f _ (by simp))
  clear hp hb
  rw [vc_spec_FactOk f]
  simp only [factOk]
  refine if_cond (fun h => Lf_b ?_) (fun h => Lf_b ?_) <;> grind
def con_impl_FactOk : Con UU where
  α := DFact
  md := [.ro]
  of := fun | [.agg [.lit (.string a0), .sl .eVal a1]] => some ⟨a0, a1⟩ | _ => none
  ds := fun f => [.agg [.lit (.string f.Kind), .sl .eVal f.Fields]]
  pre := fun f => []
  res := fun f => ⟨[.one (.lit (.bool (factOk f)))], true, []⟩
  law := by intro l x h; (try simp only at h); split at h <;> cases h; rfl
def I_impl_FactOk_4 (f : DFact) : Int × Unit → Prop := fun (i, _) => 0 ≤ i ∧ i ≤ f.Fields.length ∧ f.Fields.length ≤ 5 ∧ nameOk f.Kind = true ∧ (f.Fields.drop i.toNat).all valOk = f.Fields.all valOk
def μ_impl_FactOk_4 (f : DFact) : Int × Unit → Nat := fun (i, _) => f.Fields.length - i.toNat
def ann_impl_FactOk : con_impl_FactOk.α → Nat → Option (Ann UU) := fun f => annL [(4, annOf [.slot 18 (18, 1024) (.lit (.int .i64))] (fun _ => I_impl_FactOk_4 f) (μ_impl_FactOk_4 f))]
def use_impl_FactOk : List (FuncId × Con UU) := [(62, con_impl_NameOk), (48, con_impl_ValOk)]
theorem vc_impl_FactOk (f : DFact) : goal EE use_impl_FactOk Go.Proofs.Tryz.f32 con_impl_FactOk ann_impl_FactOk f = (let x0 : Int := (↑(List.length f.Fields) : Int);
bif !nameOk f.Kind then Lf [DV.one (Cell.lit (Value.bool false))] [DV.one (Cell.lit (Value.bool (factOk f)))] else bif decide (x0 > (5 : Int)) then Lf [DV.one (Cell.lit (Value.bool false))] [DV.one (Cell.lit (Value.bool (factOk f)))] else I_impl_FactOk_4 f ((0 : Int), PUnit.unit) ∧ ∀ (y : Int × PUnit), I_impl_FactOk_4 f y → bif decide (y.1 < x0) then (0 : Int) ≤ y.1 ∧ Int.toNat y.1 < List.length f.Fields ∧ bif !valOk (List.getD f.Fields (Int.toNat y.1) zVal) then Lf [DV.one (Cell.lit (Value.bool false))] [DV.one (Cell.lit (Value.bool (factOk f)))] else I_impl_FactOk_4 f (IntKind.wrap IntKind.i64 (y.1 + (1 : Int)), PUnit.unit) ∧ μ_impl_FactOk_4 f (IntKind.wrap IntKind.i64 (y.1 + (1 : Int)), PUnit.unit) < μ_impl_FactOk_4 f y else Lf [DV.one (Cell.lit (Value.bool true))] [DV.one (Cell.lit (Value.bool (factOk f)))]) := by kernel_rfl
theorem ok_impl_FactOk : Holds EE (32, con_impl_FactOk) := by
  refine holds_of EE_ok Go.Proofs.Tryz.func32 con_impl_FactOk (by kernel_rfl) use_impl_FactOk (all_cons ok_impl_NameOk (all_cons ok_impl_ValOk all_nil)) ann_impl_FactOk (fun (f : DFact) hp hb => ?_)
  have hb_f : BdDV (U := UU) (.agg [.lit (.string f.Kind), .sl .eVal f.Fields]) := hb _ (List.mem_cons_self)
  have hl_f_Kind : f.Kind.size ≤ 9223372036854775807 := Bd.str (hb_f _ (by simp))
  have hl_f_Fields : f.Fields.length ≤ 9223372036854775807 := Bd.len (U := UU) (τ := .eVal) (xs := f.Fields) (hb_f _ (by simp))
  clear hp hb
  rw [vc_impl_FactOk f]
  dsimp only
  refine if_cond (fun h => Lf_b ?_) (fun h => if_cond (fun h' => Lf_b ?_) (fun h' => ⟨⟨by omega, by omega, by simp at h'; omega, by simpa using h, rfl⟩, ?_⟩))
  · simp only [factOk]; grind
  · simp only [factOk]; grind
  rintro ⟨i, ⟨⟩⟩ ⟨h1, h2, h3, h4, hR⟩
  simp only
  refine if_cond (fun hc => ?_) (fun hc => ?_)
  · have hc := of_decide_eq_true hc
    rw [all_step _ _ zVal h1 (by omega)] at hR
    rw [wrap_i64 (by omega) (by omega)]
    refine ⟨by omega, by omega, if_cond (fun h => Lf_ff ?_) (fun h => ⟨⟨by omega, by omega, by omega, h4, ?_⟩, ?_⟩)⟩
    · simp only [factOk]; rw [← hR]; simp at h; simp [h]
    · rw [← hR]; simp at h; simp [h]
    · simp only [μ_impl_FactOk_4]; omega
  · have hc := of_decide_eq_false hc
    rw [drop_end _ (by omega)] at hR
    refine Lf_b ?_
    simp only [factOk, ← hR, h4]; simp; omega
def backN (most : Int) : Nat → Int → Int
  | 0, n => n
  | k + 1, n => if n < most then backN most k (2 * n) else n
def backoff (base k most : Int) : Int := if 1 ≤ base ∧ base ≤ 100000 ∧ 1 ≤ most ∧ most ≤ 100000 ∧ 0 ≤ k then (if backN most k.toNat base < most then backN most k.toNat base else most) else 0
theorem backN_ge {most n : Int} (h : ¬ n < most) : ∀ k : Nat, backN most k n = n
  | 0 => rfl
  | k + 1 => by rw [backN, if_neg h]
theorem backN_step {most n k i : Int} (h0 : 0 ≤ i) (h : i < k) (hn : n < most) : backN most (k - i).toNat n = backN most (k - (i + 1)).toNat (2 * n) := by
  obtain ⟨m, hm⟩ : ∃ m : Nat, (k - i).toNat = m + 1 := ⟨(k - i).toNat - 1, by omega⟩
  have h2 : (k - (i + 1)).toNat = m := by omega
  rw [hm, h2, backN, if_pos hn]
theorem backN_end {most n k i : Int} (h : ¬ (i < k ∧ n < most)) : backN most (k - i).toNat n = n := by
  by_cases hk : i < k
  · exact backN_ge (fun hn => h ⟨hk, hn⟩) _
  · rw [show (k - i).toNat = 0 by omega]; rfl
def con_spec_Backoff : Con UU where
  α := Int × Int × Int
  md := [.ro, .ro, .ro]
  of := fun | [.one (.lit (.int .i64 a0)), .one (.lit (.int .i64 a1)), .one (.lit (.int .i64 a2))] => some (a0, a1, a2) | _ => none
  ds := fun (base, k, most) => [.one (.lit (.int .i64 base)), .one (.lit (.int .i64 k)), .one (.lit (.int .i64 most))]
  pre := fun (base, k, most) => []
  res := fun (base, k, most) => ⟨[.one (.lit (.int .i64 (backoff base k most)))], true, []⟩
  law := by intro l x h; (try simp only at h); split at h <;> cases h; rfl
def I_spec_Backoff_5 (base : Int) (k : Int) (most : Int) : Int × Int × Unit → Prop := fun (n, i, _) => 0 ≤ i ∧ i ≤ k ∧ 1 ≤ n ∧ n ≤ 200000 ∧ backN most (k - i).toNat n = backN most k.toNat base
def μ_spec_Backoff_5 (base : Int) (k : Int) (most : Int) : Int × Int × Unit → Nat := fun (n, i, _) => (k - i).toNat
def ann_spec_Backoff : con_spec_Backoff.α → Nat → Option (Ann UU) := fun (base, k, most) => annL [(5, annOf [.slot 7 (7, 1024) (.lit (.int .i64)), .slot 8 (8, 1024) (.lit (.int .i64))] (fun _ => I_spec_Backoff_5 base k most) (μ_spec_Backoff_5 base k most))]
def use_spec_Backoff : List (FuncId × Con UU) := [(40, con_spec_l1In)]
theorem vc_spec_Backoff (base : Int) (k : Int) (most : Int) : goal EE use_spec_Backoff Go.Proofs.Tryz.f76 con_spec_Backoff ann_spec_Backoff (base, k, most) = (bif !decide ((1 : Int) ≤ base ∧ base ≤ (100000 : Int)) then Lf [DV.one (Cell.lit (Value.int IntKind.i64 (0 : Int)))] [DV.one (Cell.lit (Value.int IntKind.i64 (backoff base k most)))] else bif !decide ((1 : Int) ≤ most ∧ most ≤ (100000 : Int)) then Lf [DV.one (Cell.lit (Value.int IntKind.i64 (0 : Int)))] [DV.one (Cell.lit (Value.int IntKind.i64 (backoff base k most)))] else bif decide (k < (0 : Int)) then Lf [DV.one (Cell.lit (Value.int IntKind.i64 (0 : Int)))] [DV.one (Cell.lit (Value.int IntKind.i64 (backoff base k most)))] else I_spec_Backoff_5 base k most (base, (0 : Int), PUnit.unit) ∧ ∀ (y : Int × Int × PUnit), I_spec_Backoff_5 base k most y → bif decide (y.2.1 < k) then bif decide (y.1 < most) then I_spec_Backoff_5 base k most (IntKind.wrap IntKind.i64 ((2 : Int) * y.1), IntKind.wrap IntKind.i64 (y.2.1 + (1 : Int)), PUnit.unit) ∧ μ_spec_Backoff_5 base k most (IntKind.wrap IntKind.i64 ((2 : Int) * y.1), IntKind.wrap IntKind.i64 (y.2.1 + (1 : Int)), PUnit.unit) < μ_spec_Backoff_5 base k most y else bif decide (y.1 > most) then Lf [DV.one (Cell.lit (Value.int IntKind.i64 most))] [DV.one (Cell.lit (Value.int IntKind.i64 (backoff base k most)))] else Lf [DV.one (Cell.lit (Value.int IntKind.i64 y.1))] [DV.one (Cell.lit (Value.int IntKind.i64 (backoff base k most)))] else bif decide (y.1 > most) then Lf [DV.one (Cell.lit (Value.int IntKind.i64 most))] [DV.one (Cell.lit (Value.int IntKind.i64 (backoff base k most)))] else Lf [DV.one (Cell.lit (Value.int IntKind.i64 y.1))] [DV.one (Cell.lit (Value.int IntKind.i64 (backoff base k most)))]) := by kernel_rfl
theorem ok_spec_Backoff : Holds EE (76, con_spec_Backoff) := by
  refine holds_of EE_ok Go.Proofs.Tryz.func76 con_spec_Backoff (by kernel_rfl) use_spec_Backoff (all_cons ok_spec_l1In all_nil) ann_spec_Backoff (fun x hp hb => ?_)
  obtain ⟨base, k, most⟩ := x
  have hb_base : BdDV (U := UU) (.one (.lit (.int .i64 base))) := hb _ (List.mem_cons_self)
  have hl_base := Bd.i64 hb_base
  have hb_k : BdDV (U := UU) (.one (.lit (.int .i64 k))) := hb _ (List.mem_cons_of_mem _ (List.mem_cons_self))
  have hl_k := Bd.i64 hb_k
  have hb_most : BdDV (U := UU) (.one (.lit (.int .i64 most))) := hb _ (List.mem_cons_of_mem _ (List.mem_cons_of_mem _ (List.mem_cons_self)))
  have hl_most := Bd.i64 hb_most
  clear hp hb
  rw [vc_spec_Backoff base k most]
  have hN : ¬ (1 ≤ base ∧ base ≤ 100000 ∧ 1 ≤ most ∧ most ≤ 100000 ∧ 0 ≤ k) → Lf [.one (.lit (.int .i64 0))] [.one (.lit (.int .i64 (backoff base k most)))] := fun h => Lf_i (by rw [backoff, if_neg h])
  refine if_cond (fun h => hN ?_) (fun h => if_cond (fun h2 => hN ?_) (fun h2 => if_cond (fun h3 => hN ?_) (fun h3 => ?_)))
  · simp at h; omega
  · simp at h2; omega
  · simp at h3; omega
  have hg : 1 ≤ base ∧ base ≤ 100000 ∧ 1 ≤ most ∧ most ≤ 100000 ∧ 0 ≤ k := by simp at h h2 h3; omega
  have hE : ∀ {n i : Int}, backN most (k - i).toNat n = backN most k.toNat base → ¬ (i < k ∧ n < most) → (if n < most then n else most) = backoff base k most := fun hR hn => by rw [backoff, if_pos hg, ← hR, backN_end hn]
  refine ⟨⟨by omega, by omega, by omega, by omega, by rw [Int.sub_zero]⟩, ?_⟩
  rintro ⟨n, i, ⟨⟩⟩ ⟨h4, h5, h6, h7, hR⟩
  simp only
  refine if_cond (fun hc => if_cond (fun hd => ?_) (fun hd => ?_)) (fun hc => ?_)
  · have hc := of_decide_eq_true hc; have hd := of_decide_eq_true hd
    rw [wrap_i64 (by omega) (by omega), wrap_i64 (by omega) (by omega)]
    refine ⟨⟨by omega, by omega, by omega, by omega, ?_⟩, by simp only [μ_spec_Backoff_5]; omega⟩
    rw [← backN_step h4 hc hd]; exact hR
  · have hd := of_decide_eq_false hd
    have e := hE hR (fun hh => hd hh.2)
    refine if_cond (fun hm => Lf_i ?_) (fun hm => Lf_i ?_)
    · have hm := of_decide_eq_true hm; rw [← e]; split <;> omega
    · have hm := of_decide_eq_false hm; rw [← e]; split <;> omega
  · have hc := of_decide_eq_false hc
    have e := hE hR (fun hh => hc hh.1)
    refine if_cond (fun hm => Lf_i ?_) (fun hm => Lf_i ?_)
    · have hm := of_decide_eq_true hm; rw [← e]; split <;> omega
    · have hm := of_decide_eq_false hm; rw [← e]; split <;> omega
structure DCur where
  b : List Int
  i : Int
  h : Int
def mixB (h : Int) (x : Int) : Int := IntKind.wrap .i64 (((BitVec.ofInt (IntKind.bits .i64) (IntKind.wrap .i64 (IntKind.wrap .i64 (IntKind.wrap .i64 (h * 137) + IntKind.wrap .i64 x) + 11)) &&& BitVec.ofInt (IntKind.bits .i64) 1073741823).toNat : Nat) : Int)
def seedB (code : List Int) : Int := (code.take 4000).foldl mixB (354354 + code.length)
def newCur (code : List Int) : DCur := ⟨code, 0, seedB code⟩
def nextH (h : Int) : Int := IntKind.wrap .i64 (IntKind.wrap .i64 (h * 6364136223846793005) + 1442695040888963407)
def and255 (x : Int) : Int := IntKind.wrap .i64 (((BitVec.ofInt (IntKind.bits .i64) x &&& BitVec.ofInt (IntKind.bits .i64) 255).toNat : Nat) : Int)
def mixX (h : Int) : Int := and255 (IntKind.wrap .i64 (((BitVec.ofInt (IntKind.bits .i64) (Int.fdiv h ((2 : Int) ^ min (Int.toNat 33) (IntKind.bits .i64))) ^^^ BitVec.ofInt (IntKind.bits .i64) (Int.fdiv h ((2 : Int) ^ min (Int.toNat 47) (IntKind.bits .i64)))).toNat : Nat) : Int))
def byteV (c : DCur) : Int := if c.i < c.b.length then and255 (IntKind.wrap .i64 (mixX (nextH c.h) + IntKind.wrap .i64 (List.getD c.b c.i.toNat 0))) else mixX (nextH c.h)
def byteC (c : DCur) : DCur := ⟨c.b, if c.i < c.b.length then c.i + 1 else c.i, nextH c.h⟩
theorem and255_le (x : Int) : 0 ≤ and255 x ∧ and255 x ≤ 255 := by
  unfold and255
  have h : (BitVec.ofInt 64 x &&& BitVec.ofInt 64 255).toNat ≤ 255 := by
    rw [BitVec.toNat_and]
    exact Nat.le_trans Nat.and_le_right (by decide)
  have h' : (BitVec.ofInt (IntKind.bits .i64) x &&& BitVec.ofInt (IntKind.bits .i64) 255).toNat ≤ 255 := h
  rw [wrap_i64 (by omega) (by omega)]
  omega
theorem byteV_le (c : DCur) : 0 ≤ byteV c ∧ byteV c ≤ 255 := by
  unfold byteV
  split
  · exact and255_le _
  · exact and255_le _
theorem byteC_i {c : DCur} (h : 0 ≤ c.i) : 0 ≤ (byteC c).i := by
  simp only [byteC]; split <;> omega
def belowV (c : DCur) (n : Int) : Int := if n ≤ 0 then 0 else if n ≤ 256 then Int.tmod (byteV c) n else Int.tmod (byteV c * 65536 + byteV (byteC c) * 256 + byteV (byteC (byteC c))) n
def belowC (c : DCur) (n : Int) : DCur := if n ≤ 0 then c else if n ≤ 256 then byteC c else byteC (byteC (byteC c))
theorem belowC_i {c : DCur} (h : 0 ≤ c.i) (n : Int) : 0 ≤ (belowC c n).i := by
  unfold belowC
  split
  · exact h
  · split
    · exact byteC_i h
    · exact byteC_i (byteC_i (byteC_i h))
theorem belowV_lt {c : DCur} {n : Int} (h : 0 < n) : 0 ≤ belowV c n ∧ belowV c n < n := by
  have h1 := byteV_le c; have h2 := byteV_le (byteC c); have h3 := byteV_le (byteC (byteC c))
  unfold belowV
  rw [if_neg (by omega)]
  split
  · rw [Int.tmod_eq_emod_of_nonneg (by omega)]; exact ⟨Int.emod_nonneg _ (by omega), Int.emod_lt_of_pos _ h⟩
  · rw [Int.tmod_eq_emod_of_nonneg (by omega)]; exact ⟨Int.emod_nonneg _ (by omega), Int.emod_lt_of_pos _ h⟩
def con_spec_l1New : Con UU where
  α := (List Int)
  md := [.ro]
  of := fun | [.one (.sl .byte a0)] => some a0 | _ => none
  ds := fun code => [.one (.sl .byte code)]
  pre := fun code => [code.length ≤ 4294967296]
  res := fun code => ⟨[.box [.sl .byte ((newCur code)).b, .lit (.int .i64 ((newCur code)).i), .lit (.int .i64 ((newCur code)).h)]], true, []⟩
  law := by intro l x h; (try simp only at h); split at h <;> cases h; rfl
def I_spec_l1New_3 (code : (List Int)) : Int × Int × Unit → Prop := fun (h, i, _) => 0 ≤ i ∧ i ≤ code.length ∧ i ≤ 4000 ∧ h = (code.take i.toNat).foldl mixB (354354 + code.length)
def μ_spec_l1New_3 (code : (List Int)) : Int × Int × Unit → Nat := fun (h, i, _) => code.length - i.toNat
def ann_spec_l1New : con_spec_l1New.α → Nat → Option (Ann UU) := fun code => annL [(3, annOf [.slot 3 (3, 1024) (.lit (.int .i64)), .slot 4 (4, 1024) (.lit (.int .i64))] (fun _ => I_spec_l1New_3 code) (μ_spec_l1New_3 code))]
def use_spec_l1New : List (FuncId × Con UU) := []
theorem vc_spec_l1New (code : (List Int)) : goal EE use_spec_l1New Go.Proofs.Tryz.f23 con_spec_l1New ann_spec_l1New code = (I_spec_l1New_3 code (IntKind.wrap IntKind.i64 ((354354 : Int) + (↑(List.length code) : Int)), (0 : Int), PUnit.unit) ∧
  ∀ (y : Int × Int × PUnit),
    let x0 : Nat := Int.toNat y.2.1;
    I_spec_l1New_3 code y → bif decide (y.2.1 < (↑(List.length code) : Int)) then bif decide (y.2.1 < (4000 : Int)) then (0 : Int) ≤ y.2.1 ∧ x0 < List.length code ∧ I_spec_l1New_3 code (IntKind.wrap IntKind.i64 (↑(BitVec.toNat (BitVec.ofInt (IntKind.bits IntKind.i64) (IntKind.wrap IntKind.i64 (IntKind.wrap IntKind.i64 (IntKind.wrap IntKind.i64 (y.1 * (137 : Int)) + IntKind.wrap IntKind.i64 (List.getD code x0 (0 : Int))) + (11 : Int))) &&& BitVec.ofInt (IntKind.bits IntKind.i64) (1073741823 : Int))) : Int), IntKind.wrap IntKind.i64 (y.2.1 + (1 : Int)), PUnit.unit) ∧ μ_spec_l1New_3 code (IntKind.wrap IntKind.i64 (↑(BitVec.toNat (BitVec.ofInt (IntKind.bits IntKind.i64) (IntKind.wrap IntKind.i64 (IntKind.wrap IntKind.i64 (IntKind.wrap IntKind.i64 (y.1 * (137 : Int)) + IntKind.wrap IntKind.i64 (List.getD code x0 (0 : Int))) + (11 : Int))) &&& BitVec.ofInt (IntKind.bits IntKind.i64) (1073741823 : Int))) : Int), IntKind.wrap IntKind.i64 (y.2.1 + (1 : Int)), PUnit.unit) < μ_spec_l1New_3 code y else Lf [DV.box [Cell.sl Cd.byte code, Cell.lit (Value.int IntKind.i64 (0 : Int)), Cell.lit (Value.int IntKind.i64 y.1)]] [DV.box [Cell.sl Cd.byte (newCur code).b, Cell.lit (Value.int IntKind.i64 (newCur code).i), Cell.lit (Value.int IntKind.i64 (newCur code).h)]] else Lf [DV.box [Cell.sl Cd.byte code, Cell.lit (Value.int IntKind.i64 (0 : Int)), Cell.lit (Value.int IntKind.i64 y.1)]] [DV.box [Cell.sl Cd.byte (newCur code).b, Cell.lit (Value.int IntKind.i64 (newCur code).i), Cell.lit (Value.int IntKind.i64 (newCur code).h)]]) := by kernel_rfl
theorem ok_spec_l1New : Holds EE (23, con_spec_l1New) := by
  refine holds_of EE_ok Go.Proofs.Tryz.func23 con_spec_l1New (by kernel_rfl) use_spec_l1New all_nil ann_spec_l1New (fun (code : (List Int)) hp hb => ?_)
  have hb_code : BdDV (U := UU) (.one (.sl .byte code)) := hb _ (List.mem_cons_self)
  have hl_code : code.length ≤ 9223372036854775807 := Bd.len hb_code
  have hp0 : code.length ≤ 4294967296 := hp _ (List.mem_cons_self)
  clear hp hb
  rw [vc_spec_l1New code]
  dsimp only
  refine ⟨⟨by omega, by omega, by omega, by rw [wrap_i64 (by omega) (by omega)]; rfl⟩, ?_⟩
  rintro ⟨h, i, ⟨⟩⟩ ⟨h1, h2, h3, rfl⟩
  simp only
  have hE : (i = code.length ∨ i = 4000) → (code.take i.toNat).foldl mixB (354354 + code.length) = (newCur code).h := by
    intro hh
    show _ = (code.take 4000).foldl mixB (354354 + code.length)
    rcases hh with hh | hh
    · rw [List.take_of_length_le (by omega), List.take_of_length_le (by omega)]
    · rw [hh]; rfl
  refine if_cond (fun hc => if_cond (fun hd => ?_) (fun hd => ?_)) (fun hc => ?_)
  · have hc := of_decide_eq_true hc; have hd := of_decide_eq_true hd
    rw [wrap_i64 (n := i + 1) (by omega) (by omega)]
    refine ⟨h1, by omega, ⟨by omega, by omega, by omega, ?_⟩, by simp only [μ_spec_l1New_3]; omega⟩
    rw [← take_step code 0 h1 (by omega), List.foldl_append]
    rfl
  · have hc := of_decide_eq_true hc; have hd := of_decide_eq_false hd
    rw [hE (by omega)]; exact Lf_rfl _
  · have hc := of_decide_eq_false hc
    rw [hE (by omega)]; exact Lf_rfl _
def con_spec_l1Byte : Con UU where
  α := DCur
  md := [.box false]
  of := fun | [.box [.sl .byte a0, .lit (.int .i64 a1), .lit (.int .i64 a2)]] => some ⟨a0, a1, a2⟩ | _ => none
  ds := fun c => [.box [.sl .byte c.b, .lit (.int .i64 c.i), .lit (.int .i64 c.h)]]
  pre := fun c => [0 ≤ c.i, c.b.length ≤ 4294967296]
  res := fun c => ⟨[.one (.lit (.int .i64 (byteV c)))], true, [.box [.sl .byte ((byteC c)).b, .lit (.int .i64 ((byteC c)).i), .lit (.int .i64 ((byteC c)).h)]]⟩
  law := by intro l x h; (try simp only at h); split at h <;> cases h; rfl
def ann_spec_l1Byte : con_spec_l1Byte.α → Nat → Option (Ann UU) := fun c => annL []
def use_spec_l1Byte : List (FuncId × Con UU) := []
theorem vc_spec_l1Byte (c : DCur) : goal EE use_spec_l1Byte Go.Proofs.Tryz.f58 con_spec_l1Byte ann_spec_l1Byte c = (let x0 : Int := IntKind.wrap IntKind.i64 (↑(BitVec.toNat (BitVec.ofInt (IntKind.bits IntKind.i64) (IntKind.wrap IntKind.i64 (↑(BitVec.toNat (BitVec.ofInt (IntKind.bits IntKind.i64) (Int.fdiv (IntKind.wrap IntKind.i64 (IntKind.wrap IntKind.i64 (c.h * (6364136223846793005 : Int)) + (1442695040888963407 : Int))) ((2 : Int) ^ min (Int.toNat (33 : Int)) (IntKind.bits IntKind.i64))) ^^^ BitVec.ofInt (IntKind.bits IntKind.i64) (Int.fdiv (IntKind.wrap IntKind.i64 (IntKind.wrap IntKind.i64 (c.h * (6364136223846793005 : Int)) + (1442695040888963407 : Int))) ((2 : Int) ^ min (Int.toNat (47 : Int)) (IntKind.bits IntKind.i64))))) : Int)) &&& BitVec.ofInt (IntKind.bits IntKind.i64) (255 : Int))) : Int);
(0 : Int) ≤ (33 : Int) ∧ (0 : Int) ≤ (47 : Int) ∧ bif decide (c.i < (↑(List.length c.b) : Int)) then (0 : Int) ≤ c.i ∧ Int.toNat c.i < List.length c.b ∧ (0 : Nat) = (0 : Nat) ∧ asD [DV.one (Cell.lit (Value.int IntKind.i64 (IntKind.wrap IntKind.i64 (↑(BitVec.toNat (BitVec.ofInt (IntKind.bits IntKind.i64) (IntKind.wrap IntKind.i64 (x0 + IntKind.wrap IntKind.i64 (List.getD c.b (Int.toNat c.i) (0 : Int)))) &&& BitVec.ofInt (IntKind.bits IntKind.i64) (255 : Int))) : Int))))] = asD [DV.one (Cell.lit (Value.int IntKind.i64 (byteV c)))] ∧ asD [DV.box [Cell.sl Cd.byte c.b, Cell.lit (Value.int IntKind.i64 (IntKind.wrap IntKind.i64 (c.i + (1 : Int)))), Cell.lit (Value.int IntKind.i64 (IntKind.wrap IntKind.i64 (IntKind.wrap IntKind.i64 (c.h * (6364136223846793005 : Int)) + (1442695040888963407 : Int))))]] = asD [DV.box [Cell.sl Cd.byte (byteC c).b, Cell.lit (Value.int IntKind.i64 (byteC c).i), Cell.lit (Value.int IntKind.i64 (byteC c).h)]] else (0 : Nat) = (0 : Nat) ∧ asD [DV.one (Cell.lit (Value.int IntKind.i64 x0))] = asD [DV.one (Cell.lit (Value.int IntKind.i64 (byteV c)))] ∧ asD [DV.box [Cell.sl Cd.byte c.b, Cell.lit (Value.int IntKind.i64 c.i), Cell.lit (Value.int IntKind.i64 (IntKind.wrap IntKind.i64 (IntKind.wrap IntKind.i64 (c.h * (6364136223846793005 : Int)) + (1442695040888963407 : Int))))]] = asD [DV.box [Cell.sl Cd.byte (byteC c).b, Cell.lit (Value.int IntKind.i64 (byteC c).i), Cell.lit (Value.int IntKind.i64 (byteC c).h)]]) := by kernel_rfl
theorem ok_spec_l1Byte : Holds EE (58, con_spec_l1Byte) := by
  refine holds_of EE_ok Go.Proofs.Tryz.func58 con_spec_l1Byte (by kernel_rfl) use_spec_l1Byte all_nil ann_spec_l1Byte (fun (c : DCur) hp hb => ?_)
  have hb_c : BdDV (U := UU) (.box [.sl .byte c.b, .lit (.int .i64 c.i), .lit (.int .i64 c.h)]) := hb _ (List.mem_cons_self)
  have hl_c_b : c.b.length ≤ 9223372036854775807 := Bd.len (U := UU) (τ := .byte) (xs := c.b) (hb_c _ (by simp))
  have hp0 : 0 ≤ c.i := hp _ (List.mem_cons_self)
  have hp1 : c.b.length ≤ 4294967296 := hp _ (List.mem_cons_of_mem _ (List.mem_cons_self))
  clear hp hb
  rw [vc_spec_l1Byte c]
  dsimp only
  refine ⟨by omega, by omega, if_cond (fun h => ?_) (fun h => ?_)⟩
  · have h := of_decide_eq_true h
    have e1 : byteV c = and255 (IntKind.wrap .i64 (mixX (nextH c.h) + IntKind.wrap .i64 (List.getD c.b c.i.toNat 0))) := if_pos h
    have e2 : (byteC c).i = c.i + 1 := if_pos h
    rw [e1, e2, wrap_i64 (n := c.i + 1) (by omega) (by omega)]
    exact ⟨hp0, by omega, rfl, rfl, rfl⟩
  · have h := of_decide_eq_false h
    have e1 : byteV c = mixX (nextH c.h) := if_neg h
    have e2 : (byteC c).i = c.i := if_neg h
    rw [e1, e2]
    exact ⟨rfl, rfl, rfl⟩
def con_spec_l1Below : Con UU where
  α := DCur × Int
  md := [.box false, .ro]
  of := fun | [.box [.sl .byte a0, .lit (.int .i64 a1), .lit (.int .i64 a2)], .one (.lit (.int .i64 a3))] => some (⟨a0, a1, a2⟩, a3) | _ => none
  ds := fun (c, n) => [.box [.sl .byte c.b, .lit (.int .i64 c.i), .lit (.int .i64 c.h)], .one (.lit (.int .i64 n))]
  pre := fun (c, n) => [0 ≤ c.i, c.b.length ≤ 4294967296]
  res := fun (c, n) => ⟨[.one (.lit (.int .i64 (belowV c n)))], true, [.box [.sl .byte ((belowC c n)).b, .lit (.int .i64 ((belowC c n)).i), .lit (.int .i64 ((belowC c n)).h)]]⟩
  law := by intro l x h; (try simp only at h); split at h <;> cases h; rfl
def ann_spec_l1Below : con_spec_l1Below.α → Nat → Option (Ann UU) := fun (c, n) => annL []
def use_spec_l1Below : List (FuncId × Con UU) := [(58, con_spec_l1Byte)]
theorem vc_spec_l1Below (c : DCur) (n : Int) : goal EE use_spec_l1Below Go.Proofs.Tryz.f26 con_spec_l1Below ann_spec_l1Below (c, n) = (bif decide (n ≤ (0 : Int)) then (0 : Nat) = (0 : Nat) ∧ asD [DV.one (Cell.lit (Value.int IntKind.i64 (0 : Int)))] = asD [DV.one (Cell.lit (Value.int IntKind.i64 (belowV c n)))] ∧ asD [DV.box [Cell.sl Cd.byte c.b, Cell.lit (Value.int IntKind.i64 c.i), Cell.lit (Value.int IntKind.i64 c.h)]] = asD [DV.box [Cell.sl Cd.byte (belowC c n).b, Cell.lit (Value.int IntKind.i64 (belowC c n).i), Cell.lit (Value.int IntKind.i64 (belowC c n).h)]] else bif decide (n ≤ (256 : Int)) then (0 : Int) ≤ c.i ∧ List.length c.b ≤ (4294967296 : Nat) ∧ n ≠ (0 : Int) ∧ (0 : Nat) = (0 : Nat) ∧ asD [DV.one (Cell.lit (Value.int IntKind.i64 (Int.tmod (byteV c) n)))] = asD [DV.one (Cell.lit (Value.int IntKind.i64 (belowV c n)))] ∧ asD [DV.box [Cell.sl Cd.byte (byteC c).b, Cell.lit (Value.int IntKind.i64 (byteC c).i), Cell.lit (Value.int IntKind.i64 (byteC c).h)]] = asD [DV.box [Cell.sl Cd.byte (belowC c n).b, Cell.lit (Value.int IntKind.i64 (belowC c n).i), Cell.lit (Value.int IntKind.i64 (belowC c n).h)]] else (0 : Int) ≤ c.i ∧ List.length c.b ≤ (4294967296 : Nat) ∧ (0 : Int) ≤ (byteC c).i ∧ List.length (byteC c).b ≤ (4294967296 : Nat) ∧ (0 : Int) ≤ (byteC (byteC c)).i ∧ List.length (byteC (byteC c)).b ≤ (4294967296 : Nat) ∧ n ≠ (0 : Int) ∧ (0 : Nat) = (0 : Nat) ∧ asD [DV.one (Cell.lit (Value.int IntKind.i64 (Int.tmod (IntKind.wrap IntKind.i64 (IntKind.wrap IntKind.i64 (IntKind.wrap IntKind.i64 (byteV c * (65536 : Int)) + IntKind.wrap IntKind.i64 (byteV (byteC c) * (256 : Int))) + byteV (byteC (byteC c)))) n)))] = asD [DV.one (Cell.lit (Value.int IntKind.i64 (belowV c n)))] ∧ asD [DV.box [Cell.sl Cd.byte (byteC (byteC (byteC c))).b, Cell.lit (Value.int IntKind.i64 (byteC (byteC (byteC c))).i), Cell.lit (Value.int IntKind.i64 (byteC (byteC (byteC c))).h)]] = asD [DV.box [Cell.sl Cd.byte (belowC c n).b, Cell.lit (Value.int IntKind.i64 (belowC c n).i), Cell.lit (Value.int IntKind.i64 (belowC c n).h)]]) := by kernel_rfl
theorem ok_spec_l1Below : Holds EE (26, con_spec_l1Below) := by
  refine holds_of EE_ok Go.Proofs.Tryz.func26 con_spec_l1Below (by kernel_rfl) use_spec_l1Below (all_cons ok_spec_l1Byte all_nil) ann_spec_l1Below (fun x hp hb => ?_)
  obtain ⟨c, n⟩ := x
  have hb_c : BdDV (U := UU) (.box [.sl .byte c.b, .lit (.int .i64 c.i), .lit (.int .i64 c.h)]) := hb _ (List.mem_cons_self)
  have hl_c_b : c.b.length ≤ 9223372036854775807 := Bd.len (U := UU) (τ := .byte) (xs := c.b) (hb_c _ (by simp))
  have hb_n : BdDV (U := UU) (.one (.lit (.int .i64 n))) := hb _ (List.mem_cons_of_mem _ (List.mem_cons_self))
  have hl_n := Bd.i64 hb_n
  have hp0 : 0 ≤ c.i := hp _ (List.mem_cons_self)
  have hp1 : c.b.length ≤ 4294967296 := hp _ (List.mem_cons_of_mem _ (List.mem_cons_self))
  clear hp hb
  rw [vc_spec_l1Below c n]
  have b1 := byteV_le c; have b2 := byteV_le (byteC c); have b3 := byteV_le (byteC (byteC c))
  refine if_cond (fun h => ?_) (fun h => if_cond (fun h2 => ?_) (fun h2 => ?_))
  · have h := of_decide_eq_true h
    have e1 : belowV c n = 0 := if_pos h
    have e2 : belowC c n = c := if_pos h
    rw [e1, e2]; exact ⟨rfl, rfl, rfl⟩
  · have h := of_decide_eq_false h; have h2 := of_decide_eq_true h2
    have e1 : belowV c n = Int.tmod (byteV c) n := by rw [belowV, if_neg h, if_pos h2]
    have e2 : belowC c n = byteC c := by rw [belowC, if_neg h, if_pos h2]
    rw [e1, e2]; exact ⟨hp0, hp1, by omega, rfl, rfl, rfl⟩
  · have h := of_decide_eq_false h; have h2 := of_decide_eq_false h2
    have e1 : belowV c n = Int.tmod (byteV c * 65536 + byteV (byteC c) * 256 + byteV (byteC (byteC c))) n := by rw [belowV, if_neg h, if_neg h2]
    have e2 : belowC c n = byteC (byteC (byteC c)) := by rw [belowC, if_neg h, if_neg h2]
    have w1 : IntKind.wrap .i64 (byteV c * 65536) = byteV c * 65536 := wrap_i64 (by omega) (by omega)
    have w2 : IntKind.wrap .i64 (byteV (byteC c) * 256) = byteV (byteC c) * 256 := wrap_i64 (by omega) (by omega)
    rw [w1, w2, e1, e2, wrap_i64 (n := byteV c * 65536 + byteV (byteC c) * 256) (by omega) (by omega), wrap_i64 (n := byteV c * 65536 + byteV (byteC c) * 256 + byteV (byteC (byteC c))) (by omega) (by omega)]
    exact ⟨hp0, hp1, byteC_i hp0, hp1, byteC_i (byteC_i hp0), hp1, by omega, rfl, rfl, rfl⟩
def con_spec_l1Int : Con UU where
  α := DCur × (List Int)
  md := [.box false, .ro]
  of := fun | [.box [.sl .byte a0, .lit (.int .i64 a1), .lit (.int .i64 a2)], .one (.sl .int a3)] => some (⟨a0, a1, a2⟩, a3) | _ => none
  ds := fun (c, list) => [.box [.sl .byte c.b, .lit (.int .i64 c.i), .lit (.int .i64 c.h)], .one (.sl .int list)]
  pre := fun (c, list) => [0 ≤ c.i, c.b.length ≤ 4294967296, 1 ≤ list.length]
  res := fun (c, list) => ⟨[.one (.lit (.int .i64 (List.getD list (belowV c list.length).toNat 0)))], true, [.box [.sl .byte ((belowC c list.length)).b, .lit (.int .i64 ((belowC c list.length)).i), .lit (.int .i64 ((belowC c list.length)).h)]]⟩
  law := by intro l x h; (try simp only at h); split at h <;> cases h; rfl
def ann_spec_l1Int : con_spec_l1Int.α → Nat → Option (Ann UU) := fun (c, list) => annL []
def use_spec_l1Int : List (FuncId × Con UU) := [(26, con_spec_l1Below)]
theorem vc_spec_l1Int (c : DCur) (list : (List Int)) : goal EE use_spec_l1Int Go.Proofs.Tryz.f30 con_spec_l1Int ann_spec_l1Int (c, list) = (let x0 : DCur := belowC c (↑(List.length list) : Int);
(0 : Int) ≤ c.i ∧ List.length c.b ≤ (4294967296 : Nat) ∧ (0 : Int) ≤ belowV c (↑(List.length list) : Int) ∧ Int.toNat (belowV c (↑(List.length list) : Int)) < List.length list ∧ (0 : Nat) = (0 : Nat) ∧ asD [DV.one (Cell.lit (Value.int IntKind.i64 (List.getD list (Int.toNat (belowV c (↑(List.length list) : Int))) (0 : Int))))] = asD [DV.one (Cell.lit (Value.int IntKind.i64 (List.getD list (Int.toNat (belowV c (↑(List.length list) : Int))) (0 : Int))))] ∧ asD [DV.box [Cell.sl Cd.byte x0.b, Cell.lit (Value.int IntKind.i64 x0.i), Cell.lit (Value.int IntKind.i64 x0.h)]] = asD [DV.box [Cell.sl Cd.byte x0.b, Cell.lit (Value.int IntKind.i64 x0.i), Cell.lit (Value.int IntKind.i64 x0.h)]]) := by kernel_rfl
theorem ok_spec_l1Int : Holds EE (30, con_spec_l1Int) := by
  refine holds_of EE_ok Go.Proofs.Tryz.func30 con_spec_l1Int (by kernel_rfl) use_spec_l1Int (all_cons ok_spec_l1Below all_nil) ann_spec_l1Int (fun x hp hb => ?_)
  obtain ⟨c, list⟩ := x
  have hb_c : BdDV (U := UU) (.box [.sl .byte c.b, .lit (.int .i64 c.i), .lit (.int .i64 c.h)]) := hb _ (List.mem_cons_self)
  have hl_c_b : c.b.length ≤ 9223372036854775807 := Bd.len (U := UU) (τ := .byte) (xs := c.b) (hb_c _ (by simp))
  have hb_list : BdDV (U := UU) (.one (.sl .int list)) := hb _ (List.mem_cons_of_mem _ (List.mem_cons_self))
  have hl_list : list.length ≤ 9223372036854775807 := Bd.len hb_list
  have hp0 : 0 ≤ c.i := hp _ (List.mem_cons_self)
  have hp1 : c.b.length ≤ 4294967296 := hp _ (List.mem_cons_of_mem _ (List.mem_cons_self))
  have hp2 : 1 ≤ list.length := hp _ (List.mem_cons_of_mem _ (List.mem_cons_of_mem _ (List.mem_cons_self)))
  clear hp hb
  rw [vc_spec_l1Int c list]
  dsimp only
  have hb := belowV_lt (c := c) (n := list.length) (by omega)
  exact ⟨hp0, hp1, hb.1, by omega, rfl, rfl, rfl⟩
def cOk (c : DCur) : Prop := 0 ≤ c.i ∧ c.b.length ≤ 4294967296
theorem cOk_below {c : DCur} (h : cOk c) (n : Int) : cOk (belowC c n) := by
  refine ⟨belowC_i h.1 n, ?_⟩
  have : (belowC c n).b = c.b := by
    unfold belowC
    split
    · rfl
    · split <;> rfl
  rw [this]; exact h.2
theorem cOk_new {code : List Int} (h : code.length ≤ 4294967296) : cOk (newCur code) := ⟨Int.le_refl 0, h⟩
def onceV (c : DCur) (n : Int) : Bool := decide (belowV c n = 0)
def strV (c : DCur) (l : List ByteArray) : ByteArray := List.getD l (belowV c l.length).toNat noBytes
def strC (c : DCur) (l : List ByteArray) : DCur := belowC c l.length
def intV (c : DCur) (l : List Int) : Int := List.getD l (belowV c l.length).toNat 0
def intC (c : DCur) (l : List Int) : DCur := belowC c l.length
theorem cOk_str {c : DCur} (h : cOk c) (l : List ByteArray) : cOk (strC c l) := cOk_below h _
theorem cOk_int {c : DCur} (h : cOk c) (l : List Int) : cOk (intC c l) := cOk_below h _
theorem strV_mem (c : DCur) {l : List ByteArray} (h : 0 < l.length) : strV c l ∈ l := by
  have hb := belowV_lt (c := c) (n := l.length) (by omega)
  have hi : (belowV c l.length).toNat < l.length := by omega
  rw [strV, List.getD_eq_getElem?_getD, List.getElem?_eq_getElem hi]
  exact List.getElem_mem hi
theorem intV_mem (c : DCur) {l : List Int} (h : 0 < l.length) : intV c l ∈ l := by
  have hb := belowV_lt (c := c) (n := l.length) (by omega)
  have hi : (belowV c l.length).toNat < l.length := by omega
  rw [intV, List.getD_eq_getElem?_getD, List.getElem?_eq_getElem hi]
  exact List.getElem_mem hi
theorem strV_all (c : DCur) {l : List ByteArray} (p : ByteArray → Bool) (h0 : 0 < l.length) (h : l.all p = true) : p (strV c l) = true := List.all_eq_true.1 h _ (strV_mem c h0)
theorem intV_all (c : DCur) {l : List Int} (p : Int → Bool) (h0 : 0 < l.length) (h : l.all p = true) : p (intV c l) = true := List.all_eq_true.1 h _ (intV_mem c h0)
def sLsmall : List ByteArray := [⟨#[97]⟩, ⟨#[98]⟩]
def smallV (c : DCur) : DVal := if onceV c 2 then ⟨1, 1 + belowV (belowC c 2) 3, noBytes⟩ else ⟨2, 0, strV (belowC c 2) sLsmall⟩
def smallC (c : DCur) : DCur := if onceV c 2 then belowC (belowC c 2) 3 else strC (belowC c 2) sLsmall
theorem cOk_small {c : DCur} (h : cOk c) : cOk (smallC c) := by
  unfold smallC; split
  · exact cOk_below (cOk_below h _) _
  · exact cOk_str (cOk_below h _) _
def iLval : List Int := [0, 1, 2, 3, -1, 1000000000, -1000000000]
def sLval : List ByteArray := [⟨#[]⟩, ⟨#[97]⟩, ⟨#[98]⟩, ⟨#[112, 97, 105, 100]⟩, ⟨#[120, 95, 49]⟩]
def valV (c : DCur) : DVal := if onceV c 2 then ⟨1, intV (belowC c 2) iLval, noBytes⟩ else ⟨2, 0, strV (belowC c 2) sLval⟩
def valC (c : DCur) : DCur := if onceV c 2 then intC (belowC c 2) iLval else strC (belowC c 2) sLval
theorem cOk_val {c : DCur} (h : cOk c) : cOk (valC c) := by
  unfold valC; split
  · exact cOk_int (cOk_below h _) _
  · exact cOk_str (cOk_below h _) _
def iLany : List Int := [1000000001, 5]
def sLany : List ByteArray := [⟨#[65]⟩, ⟨#[97, 32, 98]⟩, ⟨#[116, 119, 101, 110, 116, 121, 111, 110, 101, 98, 121, 116, 101, 115, 116, 119, 101, 110, 116, 121, 111]⟩, ⟨#[120]⟩]
def anyvV (c : DCur) : DVal := let v := valV c; let k := belowV (valC c) 10; let d := belowC (valC c) 10; if k = 0 then ⟨belowV d 4, v.N, v.S⟩ else if k = 1 then ⟨v.K, intV d iLany, v.S⟩ else if k = 2 then ⟨v.K, v.N, strV d sLany⟩ else v
def anyvC (c : DCur) : DCur := let k := belowV (valC c) 10; let d := belowC (valC c) 10; if k = 0 then belowC d 4 else if k = 1 then intC d iLany else if k = 2 then strC d sLany else d
theorem cOk_anyv {c : DCur} (h : cOk c) : cOk (anyvC c) := by
  have := cOk_below (cOk_val h) 10
  simp only [anyvC]; split
  · exact cOk_below this _
  · split
    · exact cOk_int this _
    · split
      · exact cOk_str this _
      · exact this
def sLkind : List ByteArray := [⟨#[111, 114, 100, 101, 114]⟩, ⟨#[112, 97, 105, 100]⟩, ⟨#[105, 116, 101, 109]⟩, ⟨#[111, 114, 100, 101, 114]⟩]
def bItem : ByteArray := ⟨#[105, 116, 101, 109]⟩
def smallsL : Nat → List DVal → DCur → List DVal
  | 0, l, _ => l
  | k + 1, l, c => smallsL k (l ++ [smallV c]) (smallC c)
def smallsC : Nat → DCur → DCur
  | 0, c => c
  | k + 1, c => smallsC k (smallC c)
theorem cOk_smalls : ∀ {k : Nat} {c : DCur}, cOk c → cOk (smallsC k c)
  | 0, _, h => h
  | k + 1, _, h => cOk_smalls (k := k) (cOk_small h)
def factN (c : DCur) : Int := if onceV (strC c sLkind) 12 then belowV (belowC (strC c sLkind) 12) 6 else if strV c sLkind = bItem then 2 else 1
def factD (c : DCur) : DCur := if onceV (strC c sLkind) 12 then belowC (belowC (strC c sLkind) 12) 6 else belowC (strC c sLkind) 12
def factV (c : DCur) : DFact := ⟨strV c sLkind, smallsL (factN c).toNat [] (factD c)⟩
def factC (c : DCur) : DCur := smallsC (factN c).toNat (factD c)
theorem cOk_factD {c : DCur} (h : cOk c) : cOk (factD c) := by
  have := cOk_below (cOk_str h sLkind) 12
  unfold factD; split
  · exact cOk_below this _
  · exact this
theorem cOk_fact {c : DCur} (h : cOk c) : cOk (factC c) := cOk_smalls (cOk_factD h)
theorem smallsL_len : ∀ (k : Nat) (l : List DVal) (c : DCur), (smallsL k l c).length = l.length + k
  | 0, _, _ => rfl
  | k + 1, l, c => by rw [smallsL, smallsL_len k]; simp only [List.length_append, List.length_cons, List.length_nil]; omega
theorem factV_len (c : DCur) : (factV c).Fields.length = (factN c).toNat := by
  show (smallsL _ _ _).length = _
  rw [smallsL_len]; simp
theorem factN_le (c : DCur) : 0 ≤ factN c ∧ factN c ≤ 5 := by
  have := belowV_lt (c := belowC (strC c sLkind) 12) (n := 6) (by omega)
  unfold factN
  split
  · omega
  · split <;> omega
noncomputable def padL (l : List DVal) (c : DCur) : List DVal × DCur := if h : (l.length : Int) < 5 + belowV c 2 then padL (l ++ [valV (belowC c 2)]) (valC (belowC c 2)) else (l, belowC c 2)
termination_by 6 - l.length
decreasing_by
  have := belowV_lt (c := c) (n := 2) (by omega)
  simp only [List.length_append, List.length_cons, List.length_nil]; omega
theorem padL_yes {l : List DVal} {c : DCur} (h : (l.length : Int) < 5 + belowV c 2) : padL l c = padL (l ++ [valV (belowC c 2)]) (valC (belowC c 2)) := by rw [padL, dif_pos h]
theorem padL_no {l : List DVal} {c : DCur} (h : ¬ (l.length : Int) < 5 + belowV c 2) : padL l c = (l, belowC c 2) := by rw [padL, dif_neg h]
theorem cOk_pad {l : List DVal} {c : DCur} (h : cOk c) : cOk (padL l c).2 := by
  by_cases hl : (l.length : Int) < 5 + belowV c 2
  · rw [padL_yes hl]; exact cOk_pad (cOk_val (cOk_below h _))
  · rw [padL_no hl]; exact cOk_below h _
termination_by 6 - l.length
decreasing_by
  have := belowV_lt (c := c) (n := 2) (by omega)
  simp only [List.length_append, List.length_cons, List.length_nil]; omega
def sLanyk : List ByteArray := [⟨#[]⟩, ⟨#[65]⟩, ⟨#[116, 104, 105, 114, 116, 101, 101, 110, 98, 121, 116, 101, 115]⟩, ⟨#[120]⟩]
noncomputable def anyF (c : DCur) : DFact := let f := factV c; let k := belowV (factC c) 10; let d := belowC (factC c) 10; if k = 0 then ⟨strV d sLanyk, f.Fields⟩ else if k = 1 then ⟨f.Kind, f.Fields ++ [anyvV d]⟩ else if k = 2 then ⟨f.Kind, (padL f.Fields d).1⟩ else f
noncomputable def anyFC (c : DCur) : DCur := let f := factV c; let k := belowV (factC c) 10; let d := belowC (factC c) 10; if k = 0 then strC d sLanyk else if k = 1 then anyvC d else if k = 2 then (padL f.Fields d).2 else d
theorem cOk_anyF {c : DCur} (h : cOk c) : cOk (anyFC c) := by
  have := cOk_below (cOk_fact h) 10
  simp only [anyFC]; split
  · exact cOk_str this _
  · split
    · exact cOk_anyv this
    · split
      · exact cOk_pad this
      · exact this
def con_spec_l1Once : Con UU where
  α := DCur × Int
  md := [.box false, .ro]
  of := fun | [.box [.sl .byte a0, .lit (.int .i64 a1), .lit (.int .i64 a2)], .one (.lit (.int .i64 a3))] => some (⟨a0, a1, a2⟩, a3) | _ => none
  ds := fun (c, n) => [.box [.sl .byte c.b, .lit (.int .i64 c.i), .lit (.int .i64 c.h)], .one (.lit (.int .i64 n))]
  pre := fun (c, n) => [cOk c]
  res := fun (c, n) => ⟨[.one (.lit (.bool (onceV c n)))], true, [.box [.sl .byte ((belowC c n)).b, .lit (.int .i64 ((belowC c n)).i), .lit (.int .i64 ((belowC c n)).h)]]⟩
  law := by intro l x h; (try simp only at h); split at h <;> cases h; rfl
def ann_spec_l1Once : con_spec_l1Once.α → Nat → Option (Ann UU) := fun (c, n) => annL []
def use_spec_l1Once : List (FuncId × Con UU) := [(26, con_spec_l1Below)]
theorem vc_spec_l1Once (c : DCur) (n : Int) : goal EE use_spec_l1Once Go.Proofs.Tryz.f25 con_spec_l1Once ann_spec_l1Once (c, n) = ((0 : Int) ≤ c.i ∧ List.length c.b ≤ (4294967296 : Nat) ∧ (0 : Nat) = (0 : Nat) ∧ asD [DV.one (Cell.lit (Value.bool (belowV c n == (0 : Int))))] = asD [DV.one (Cell.lit (Value.bool (onceV c n)))] ∧ asD [DV.box [Cell.sl Cd.byte (belowC c n).b, Cell.lit (Value.int IntKind.i64 (belowC c n).i), Cell.lit (Value.int IntKind.i64 (belowC c n).h)]] = asD [DV.box [Cell.sl Cd.byte (belowC c n).b, Cell.lit (Value.int IntKind.i64 (belowC c n).i), Cell.lit (Value.int IntKind.i64 (belowC c n).h)]]) := by kernel_rfl
theorem ok_spec_l1Once : Holds EE (25, con_spec_l1Once) := by
  refine holds_of EE_ok Go.Proofs.Tryz.func25 con_spec_l1Once (by kernel_rfl) use_spec_l1Once (all_cons ok_spec_l1Below all_nil) ann_spec_l1Once (fun x hp hb => ?_)
  obtain ⟨c, n⟩ := x
  have hb_c : BdDV (U := UU) (.box [.sl .byte c.b, .lit (.int .i64 c.i), .lit (.int .i64 c.h)]) := hb _ (List.mem_cons_self)
  have hl_c_b : c.b.length ≤ 9223372036854775807 := Bd.len (U := UU) (τ := .byte) (xs := c.b) (hb_c _ (by simp))
  have hb_n : BdDV (U := UU) (.one (.lit (.int .i64 n))) := hb _ (List.mem_cons_of_mem _ (List.mem_cons_self))
  have hl_n := Bd.i64 hb_n
  have hp0 : cOk c := hp _ (List.mem_cons_self)
  clear hp hb
  rw [vc_spec_l1Once c n]
  exact ⟨hp0.1, hp0.2, rfl, rfl, rfl⟩
def con_spec_l1Str : Con UU where
  α := DCur × (List ByteArray)
  md := [.box false, .ro]
  of := fun | [.box [.sl .byte a0, .lit (.int .i64 a1), .lit (.int .i64 a2)], .one (.sl .str a3)] => some (⟨a0, a1, a2⟩, a3) | _ => none
  ds := fun (c, list) => [.box [.sl .byte c.b, .lit (.int .i64 c.i), .lit (.int .i64 c.h)], .one (.sl .str list)]
  pre := fun (c, list) => [cOk c, 1 ≤ list.length]
  res := fun (c, list) => ⟨[.one (.lit (.string (strV c list)))], true, [.box [.sl .byte ((strC c list)).b, .lit (.int .i64 ((strC c list)).i), .lit (.int .i64 ((strC c list)).h)]]⟩
  law := by intro l x h; (try simp only at h); split at h <;> cases h; rfl
def ann_spec_l1Str : con_spec_l1Str.α → Nat → Option (Ann UU) := fun (c, list) => annL []
def use_spec_l1Str : List (FuncId × Con UU) := [(26, con_spec_l1Below)]
theorem vc_spec_l1Str (c : DCur) (list : (List ByteArray)) : goal EE use_spec_l1Str Go.Proofs.Tryz.f29 con_spec_l1Str ann_spec_l1Str (c, list) = (let x0 : DCur := belowC c (↑(List.length list) : Int);
(0 : Int) ≤ c.i ∧ List.length c.b ≤ (4294967296 : Nat) ∧ (0 : Int) ≤ belowV c (↑(List.length list) : Int) ∧ Int.toNat (belowV c (↑(List.length list) : Int)) < List.length list ∧ (0 : Nat) = (0 : Nat) ∧ asD [DV.one (Cell.lit (Value.string (List.getD list (Int.toNat (belowV c (↑(List.length list) : Int))) noBytes)))] = asD [DV.one (Cell.lit (Value.string (strV c list)))] ∧ asD [DV.box [Cell.sl Cd.byte x0.b, Cell.lit (Value.int IntKind.i64 x0.i), Cell.lit (Value.int IntKind.i64 x0.h)]] = asD [DV.box [Cell.sl Cd.byte (strC c list).b, Cell.lit (Value.int IntKind.i64 (strC c list).i), Cell.lit (Value.int IntKind.i64 (strC c list).h)]]) := by kernel_rfl
theorem ok_spec_l1Str : Holds EE (29, con_spec_l1Str) := by
  refine holds_of EE_ok Go.Proofs.Tryz.func29 con_spec_l1Str (by kernel_rfl) use_spec_l1Str (all_cons ok_spec_l1Below all_nil) ann_spec_l1Str (fun x hp hb => ?_)
  obtain ⟨c, list⟩ := x
  have hb_c : BdDV (U := UU) (.box [.sl .byte c.b, .lit (.int .i64 c.i), .lit (.int .i64 c.h)]) := hb _ (List.mem_cons_self)
  have hl_c_b : c.b.length ≤ 9223372036854775807 := Bd.len (U := UU) (τ := .byte) (xs := c.b) (hb_c _ (by simp))
  have hb_list : BdDV (U := UU) (.one (.sl .str list)) := hb _ (List.mem_cons_of_mem _ (List.mem_cons_self))
  have hl_list : list.length ≤ 9223372036854775807 := Bd.len hb_list
  have hp0 : cOk c := hp _ (List.mem_cons_self)
  have hp1 : 1 ≤ list.length := hp _ (List.mem_cons_of_mem _ (List.mem_cons_self))
  clear hp hb
  rw [vc_spec_l1Str c list]
  dsimp only
  have hb := belowV_lt (c := c) (n := list.length) (by omega)
  exact ⟨hp0.1, hp0.2, hb.1, by omega, rfl, rfl, rfl⟩
def con_spec_l3Small : Con UU where
  α := DCur
  md := [.box false]
  of := fun | [.box [.sl .byte a0, .lit (.int .i64 a1), .lit (.int .i64 a2)]] => some ⟨a0, a1, a2⟩ | _ => none
  ds := fun c => [.box [.sl .byte c.b, .lit (.int .i64 c.i), .lit (.int .i64 c.h)]]
  pre := fun c => [cOk c]
  res := fun c => ⟨[.agg [.lit (.int .i64 ((smallV c)).K), .lit (.int .i64 ((smallV c)).N), .lit (.string ((smallV c)).S)]], true, [.box [.sl .byte ((smallC c)).b, .lit (.int .i64 ((smallC c)).i), .lit (.int .i64 ((smallC c)).h)]]⟩
  law := by intro l x h; (try simp only at h); split at h <;> cases h; rfl
def ann_spec_l3Small : con_spec_l3Small.α → Nat → Option (Ann UU) := fun c => annL []
def use_spec_l3Small : List (FuncId × Con UU) := [(25, con_spec_l1Once), (26, con_spec_l1Below), (29, con_spec_l1Str)]
theorem vc_spec_l3Small (c : DCur) : goal EE use_spec_l3Small Go.Proofs.Tryz.f79 con_spec_l3Small ann_spec_l3Small c = (let x0 : DCur := strC (belowC c (2 : Int)) [{ data := #[(97 : UInt8)] : ByteArray }, { data := #[(98 : UInt8)] : ByteArray }];
let x1 : List ByteArray := [{ data := #[(97 : UInt8)] : ByteArray }, { data := #[(98 : UInt8)] : ByteArray }];
let x2 : DCur := belowC (belowC c (2 : Int)) (3 : Int);
cOk c ∧ bif onceV c (2 : Int) then (0 : Int) ≤ (belowC c (2 : Int)).i ∧ List.length (belowC c (2 : Int)).b ≤ (4294967296 : Nat) ∧ (0 : Nat) = (0 : Nat) ∧ asD [DV.agg [Cell.lit (Value.int IntKind.i64 (1 : Int)), Cell.lit (Value.int IntKind.i64 (IntKind.wrap IntKind.i64 ((1 : Int) + belowV (belowC c (2 : Int)) (3 : Int)))), Cell.lit (Value.string { data := #[] : ByteArray })]] = asD [DV.agg [Cell.lit (Value.int IntKind.i64 (smallV c).K), Cell.lit (Value.int IntKind.i64 (smallV c).N), Cell.lit (Value.string (smallV c).S)]] ∧ asD [DV.box [Cell.sl Cd.byte x2.b, Cell.lit (Value.int IntKind.i64 x2.i), Cell.lit (Value.int IntKind.i64 x2.h)]] = asD [DV.box [Cell.sl Cd.byte (smallC c).b, Cell.lit (Value.int IntKind.i64 (smallC c).i), Cell.lit (Value.int IntKind.i64 (smallC c).h)]] else cOk (belowC c (2 : Int)) ∧ (1 : Nat) ≤ List.length x1 ∧ (0 : Nat) = (0 : Nat) ∧ asD [DV.agg [Cell.lit (Value.int IntKind.i64 (2 : Int)), Cell.lit (Value.int IntKind.i64 (0 : Int)), Cell.lit (Value.string (strV (belowC c (2 : Int)) x1))]] = asD [DV.agg [Cell.lit (Value.int IntKind.i64 (smallV c).K), Cell.lit (Value.int IntKind.i64 (smallV c).N), Cell.lit (Value.string (smallV c).S)]] ∧ asD [DV.box [Cell.sl Cd.byte x0.b, Cell.lit (Value.int IntKind.i64 x0.i), Cell.lit (Value.int IntKind.i64 x0.h)]] = asD [DV.box [Cell.sl Cd.byte (smallC c).b, Cell.lit (Value.int IntKind.i64 (smallC c).i), Cell.lit (Value.int IntKind.i64 (smallC c).h)]]) := by kernel_rfl
theorem ok_spec_l3Small : Holds EE (79, con_spec_l3Small) := by
  refine holds_of EE_ok Go.Proofs.Tryz.func79 con_spec_l3Small (by kernel_rfl) use_spec_l3Small (all_cons ok_spec_l1Once (all_cons ok_spec_l1Below (all_cons ok_spec_l1Str all_nil))) ann_spec_l3Small (fun (c : DCur) hp hb => ?_)
  have hb_c : BdDV (U := UU) (.box [.sl .byte c.b, .lit (.int .i64 c.i), .lit (.int .i64 c.h)]) := hb _ (List.mem_cons_self)
  have hl_c_b : c.b.length ≤ 9223372036854775807 := Bd.len (U := UU) (τ := .byte) (xs := c.b) (hb_c _ (by simp))
  have hp0 : cOk c := hp _ (List.mem_cons_self)
  clear hp hb
  rw [vc_spec_l3Small c]
  dsimp only
  refine ⟨hp0, if_cond (fun h => ?_) (fun h => ?_)⟩
  · have hb := belowV_lt (c := belowC c 2) (n := 3) (by omega)
    have h2 := cOk_below hp0 2
    rw [wrap_i64 (by omega) (by omega)]
    rw [smallV, smallC, if_pos h, if_pos h]; exact ⟨h2.1, h2.2, rfl, rfl, rfl⟩
  · have h2 := cOk_below hp0 2
    rw [smallV, smallC, if_neg (by simp [h]), if_neg (by simp [h])]; exact ⟨h2, by simp, rfl, rfl, rfl⟩
def con_spec_l2Draw : Con UU where
  α := DCur
  md := [.box false]
  of := fun | [.box [.sl .byte a0, .lit (.int .i64 a1), .lit (.int .i64 a2)]] => some ⟨a0, a1, a2⟩ | _ => none
  ds := fun c => [.box [.sl .byte c.b, .lit (.int .i64 c.i), .lit (.int .i64 c.h)]]
  pre := fun c => [cOk c]
  res := fun c => ⟨[.agg [.lit (.int .i64 ((valV c)).K), .lit (.int .i64 ((valV c)).N), .lit (.string ((valV c)).S)]], true, [.box [.sl .byte ((valC c)).b, .lit (.int .i64 ((valC c)).i), .lit (.int .i64 ((valC c)).h)]]⟩
  law := by intro l x h; (try simp only at h); split at h <;> cases h; rfl
def ann_spec_l2Draw : con_spec_l2Draw.α → Nat → Option (Ann UU) := fun c => annL []
def use_spec_l2Draw : List (FuncId × Con UU) := [(25, con_spec_l1Once), (30, con_spec_l1Int), (29, con_spec_l1Str)]
theorem vc_spec_l2Draw (c : DCur) : goal EE use_spec_l2Draw Go.Proofs.Tryz.f61 con_spec_l2Draw ann_spec_l2Draw c = (let x0 : DCur := strC (belowC c (2 : Int)) [{ data := #[] : ByteArray }, { data := #[(97 : UInt8)] : ByteArray }, { data := #[(98 : UInt8)] : ByteArray }, { data := #[(112 : UInt8), (97 : UInt8), (105 : UInt8), (100 : UInt8)] : ByteArray }, { data := #[(120 : UInt8), (95 : UInt8), (49 : UInt8)] : ByteArray }];
let x1 : DCur := belowC (belowC c (2 : Int)) (↑(List.length [(0 : Int), (1 : Int), (2 : Int), (3 : Int), (-1 : Int), (1000000000 : Int), (-1000000000 : Int)]) : Int);
let x2 : List ByteArray := [{ data := #[] : ByteArray }, { data := #[(97 : UInt8)] : ByteArray }, { data := #[(98 : UInt8)] : ByteArray }, { data := #[(112 : UInt8), (97 : UInt8), (105 : UInt8), (100 : UInt8)] : ByteArray }, { data := #[(120 : UInt8), (95 : UInt8), (49 : UInt8)] : ByteArray }];
let x3 : Nat := List.length [(0 : Int), (1 : Int), (2 : Int), (3 : Int), (-1 : Int), (1000000000 : Int), (-1000000000 : Int)];
cOk c ∧ bif onceV c (2 : Int) then (0 : Int) ≤ (belowC c (2 : Int)).i ∧ List.length (belowC c (2 : Int)).b ≤ (4294967296 : Nat) ∧ (1 : Nat) ≤ x3 ∧ (0 : Nat) = (0 : Nat) ∧ asD [DV.agg [Cell.lit (Value.int IntKind.i64 (1 : Int)), Cell.lit (Value.int IntKind.i64 (List.getD [(0 : Int), (1 : Int), (2 : Int), (3 : Int), (-1 : Int), (1000000000 : Int), (-1000000000 : Int)] (Int.toNat (belowV (belowC c (2 : Int)) (↑x3 : Int))) (0 : Int))), Cell.lit (Value.string { data := #[] : ByteArray })]] = asD [DV.agg [Cell.lit (Value.int IntKind.i64 (valV c).K), Cell.lit (Value.int IntKind.i64 (valV c).N), Cell.lit (Value.string (valV c).S)]] ∧ asD [DV.box [Cell.sl Cd.byte x1.b, Cell.lit (Value.int IntKind.i64 x1.i), Cell.lit (Value.int IntKind.i64 x1.h)]] = asD [DV.box [Cell.sl Cd.byte (valC c).b, Cell.lit (Value.int IntKind.i64 (valC c).i), Cell.lit (Value.int IntKind.i64 (valC c).h)]] else cOk (belowC c (2 : Int)) ∧ (1 : Nat) ≤ List.length x2 ∧ (0 : Nat) = (0 : Nat) ∧ asD [DV.agg [Cell.lit (Value.int IntKind.i64 (2 : Int)), Cell.lit (Value.int IntKind.i64 (0 : Int)), Cell.lit (Value.string (strV (belowC c (2 : Int)) x2))]] = asD [DV.agg [Cell.lit (Value.int IntKind.i64 (valV c).K), Cell.lit (Value.int IntKind.i64 (valV c).N), Cell.lit (Value.string (valV c).S)]] ∧ asD [DV.box [Cell.sl Cd.byte x0.b, Cell.lit (Value.int IntKind.i64 x0.i), Cell.lit (Value.int IntKind.i64 x0.h)]] = asD [DV.box [Cell.sl Cd.byte (valC c).b, Cell.lit (Value.int IntKind.i64 (valC c).i), Cell.lit (Value.int IntKind.i64 (valC c).h)]]) := by kernel_rfl
theorem ok_spec_l2Draw : Holds EE (61, con_spec_l2Draw) := by
  refine holds_of EE_ok Go.Proofs.Tryz.func61 con_spec_l2Draw (by kernel_rfl) use_spec_l2Draw (all_cons ok_spec_l1Once (all_cons ok_spec_l1Int (all_cons ok_spec_l1Str all_nil))) ann_spec_l2Draw (fun (c : DCur) hp hb => ?_)
  have hb_c : BdDV (U := UU) (.box [.sl .byte c.b, .lit (.int .i64 c.i), .lit (.int .i64 c.h)]) := hb _ (List.mem_cons_self)
  have hl_c_b : c.b.length ≤ 9223372036854775807 := Bd.len (U := UU) (τ := .byte) (xs := c.b) (hb_c _ (by simp))
  have hp0 : cOk c := hp _ (List.mem_cons_self)
  clear hp hb
  rw [vc_spec_l2Draw c]
  dsimp only
  have h2 := cOk_below hp0 2
  refine ⟨hp0, if_cond (fun h => ?_) (fun h => ?_)⟩
  · rw [valV, valC, if_pos h, if_pos h]; exact ⟨h2.1, h2.2, by simp, rfl, rfl, rfl⟩
  · rw [valV, valC, if_neg (by simp [h]), if_neg (by simp [h])]; exact ⟨h2, by simp, rfl, rfl, rfl⟩
def con_spec_l2Any : Con UU where
  α := DCur
  md := [.box false]
  of := fun | [.box [.sl .byte a0, .lit (.int .i64 a1), .lit (.int .i64 a2)]] => some ⟨a0, a1, a2⟩ | _ => none
  ds := fun c => [.box [.sl .byte c.b, .lit (.int .i64 c.i), .lit (.int .i64 c.h)]]
  pre := fun c => [cOk c]
  res := fun c => ⟨[.agg [.lit (.int .i64 ((anyvV c)).K), .lit (.int .i64 ((anyvV c)).N), .lit (.string ((anyvV c)).S)]], true, [.box [.sl .byte ((anyvC c)).b, .lit (.int .i64 ((anyvC c)).i), .lit (.int .i64 ((anyvC c)).h)]]⟩
  law := by intro l x h; (try simp only at h); split at h <;> cases h; rfl
def ann_spec_l2Any : con_spec_l2Any.α → Nat → Option (Ann UU) := fun c => annL []
def use_spec_l2Any : List (FuncId × Con UU) := [(61, con_spec_l2Draw), (26, con_spec_l1Below), (30, con_spec_l1Int), (29, con_spec_l1Str)]
theorem vc_spec_l2Any (c : DCur) : goal EE use_spec_l2Any Go.Proofs.Tryz.f47 con_spec_l2Any ann_spec_l2Any c = (let x0 : DCur := strC (belowC (valC c) (10 : Int)) [{ data := #[(65 : UInt8)] : ByteArray }, { data := #[(97 : UInt8), (32 : UInt8), (98 : UInt8)] : ByteArray }, { data := #[(116 : UInt8), (119 : UInt8), (101 : UInt8), (110 : UInt8), (116 : UInt8), (121 : UInt8), (111 : UInt8), (110 : UInt8), (101 : UInt8), (98 : UInt8), (121 : UInt8), (116 : UInt8), (101 : UInt8), (115 : UInt8), (116 : UInt8), (119 : UInt8), (101 : UInt8), (110 : UInt8), (116 : UInt8), (121 : UInt8), (111 : UInt8)] : ByteArray }, { data := #[(120 : UInt8)] : ByteArray }];
let x1 : List ByteArray := [{ data := #[(65 : UInt8)] : ByteArray }, { data := #[(97 : UInt8), (32 : UInt8), (98 : UInt8)] : ByteArray }, { data := #[(116 : UInt8), (119 : UInt8), (101 : UInt8), (110 : UInt8), (116 : UInt8), (121 : UInt8), (111 : UInt8), (110 : UInt8), (101 : UInt8), (98 : UInt8), (121 : UInt8), (116 : UInt8), (101 : UInt8), (115 : UInt8), (116 : UInt8), (119 : UInt8), (101 : UInt8), (110 : UInt8), (116 : UInt8), (121 : UInt8), (111 : UInt8)] : ByteArray }, { data := #[(120 : UInt8)] : ByteArray }];
let x2 : DCur := belowC (belowC (valC c) (10 : Int)) (↑(List.length [(1000000001 : Int), (5 : Int)]) : Int);
let x3 : DCur := belowC (valC c) (10 : Int);
let x4 : Nat := List.length [(1000000001 : Int), (5 : Int)];
cOk c ∧ (0 : Int) ≤ (valC c).i ∧ List.length (valC c).b ≤ (4294967296 : Nat) ∧ bif belowV (valC c) (10 : Int) == (0 : Int) then (0 : Int) ≤ x3.i ∧ List.length x3.b ≤ (4294967296 : Nat) ∧ (0 : Nat) = (0 : Nat) ∧ asD [DV.agg [Cell.lit (Value.int IntKind.i64 (belowV x3 (4 : Int))), Cell.lit (Value.int IntKind.i64 (valV c).N), Cell.lit (Value.string (valV c).S)]] = asD [DV.agg [Cell.lit (Value.int IntKind.i64 (anyvV c).K), Cell.lit (Value.int IntKind.i64 (anyvV c).N), Cell.lit (Value.string (anyvV c).S)]] ∧ asD [DV.box [Cell.sl Cd.byte (belowC x3 (4 : Int)).b, Cell.lit (Value.int IntKind.i64 (belowC x3 (4 : Int)).i), Cell.lit (Value.int IntKind.i64 (belowC x3 (4 : Int)).h)]] = asD [DV.box [Cell.sl Cd.byte (anyvC c).b, Cell.lit (Value.int IntKind.i64 (anyvC c).i), Cell.lit (Value.int IntKind.i64 (anyvC c).h)]] else bif belowV (valC c) (10 : Int) == (1 : Int) then (0 : Int) ≤ x3.i ∧ List.length x3.b ≤ (4294967296 : Nat) ∧ (1 : Nat) ≤ x4 ∧ (0 : Nat) = (0 : Nat) ∧ asD [DV.agg [Cell.lit (Value.int IntKind.i64 (valV c).K), Cell.lit (Value.int IntKind.i64 (List.getD [(1000000001 : Int), (5 : Int)] (Int.toNat (belowV x3 (↑x4 : Int))) (0 : Int))), Cell.lit (Value.string (valV c).S)]] = asD [DV.agg [Cell.lit (Value.int IntKind.i64 (anyvV c).K), Cell.lit (Value.int IntKind.i64 (anyvV c).N), Cell.lit (Value.string (anyvV c).S)]] ∧ asD [DV.box [Cell.sl Cd.byte x2.b, Cell.lit (Value.int IntKind.i64 x2.i), Cell.lit (Value.int IntKind.i64 x2.h)]] = asD [DV.box [Cell.sl Cd.byte (anyvC c).b, Cell.lit (Value.int IntKind.i64 (anyvC c).i), Cell.lit (Value.int IntKind.i64 (anyvC c).h)]] else bif belowV (valC c) (10 : Int) == (2 : Int) then cOk x3 ∧ (1 : Nat) ≤ List.length x1 ∧ (0 : Nat) = (0 : Nat) ∧ asD [DV.agg [Cell.lit (Value.int IntKind.i64 (valV c).K), Cell.lit (Value.int IntKind.i64 (valV c).N), Cell.lit (Value.string (strV x3 x1))]] = asD [DV.agg [Cell.lit (Value.int IntKind.i64 (anyvV c).K), Cell.lit (Value.int IntKind.i64 (anyvV c).N), Cell.lit (Value.string (anyvV c).S)]] ∧ asD [DV.box [Cell.sl Cd.byte x0.b, Cell.lit (Value.int IntKind.i64 x0.i), Cell.lit (Value.int IntKind.i64 x0.h)]] = asD [DV.box [Cell.sl Cd.byte (anyvC c).b, Cell.lit (Value.int IntKind.i64 (anyvC c).i), Cell.lit (Value.int IntKind.i64 (anyvC c).h)]] else (0 : Nat) = (0 : Nat) ∧ asD [DV.agg [Cell.lit (Value.int IntKind.i64 (valV c).K), Cell.lit (Value.int IntKind.i64 (valV c).N), Cell.lit (Value.string (valV c).S)]] = asD [DV.agg [Cell.lit (Value.int IntKind.i64 (anyvV c).K), Cell.lit (Value.int IntKind.i64 (anyvV c).N), Cell.lit (Value.string (anyvV c).S)]] ∧ asD [DV.box [Cell.sl Cd.byte x3.b, Cell.lit (Value.int IntKind.i64 x3.i), Cell.lit (Value.int IntKind.i64 x3.h)]] = asD [DV.box [Cell.sl Cd.byte (anyvC c).b, Cell.lit (Value.int IntKind.i64 (anyvC c).i), Cell.lit (Value.int IntKind.i64 (anyvC c).h)]]) := by kernel_rfl
theorem ok_spec_l2Any : Holds EE (47, con_spec_l2Any) := by
  refine holds_of EE_ok Go.Proofs.Tryz.func47 con_spec_l2Any (by kernel_rfl) use_spec_l2Any (all_cons ok_spec_l2Draw (all_cons ok_spec_l1Below (all_cons ok_spec_l1Int (all_cons ok_spec_l1Str all_nil)))) ann_spec_l2Any (fun (c : DCur) hp hb => ?_)
  have hb_c : BdDV (U := UU) (.box [.sl .byte c.b, .lit (.int .i64 c.i), .lit (.int .i64 c.h)]) := hb _ (List.mem_cons_self)
  have hl_c_b : c.b.length ≤ 9223372036854775807 := Bd.len (U := UU) (τ := .byte) (xs := c.b) (hb_c _ (by simp))
  have hp0 : cOk c := hp _ (List.mem_cons_self)
  clear hp hb
  rw [vc_spec_l2Any c]
  dsimp only
  have h2 := cOk_val hp0
  have h3 := cOk_below h2 10
  refine ⟨hp0, h2.1, h2.2, if_cond (fun h => ?_) (fun h => if_cond (fun h' => ?_) (fun h' => if_cond (fun h'' => ?_) (fun h'' => ?_)))⟩
  · have h := eq_of_beq h
    have e1 : anyvV c = ⟨belowV (belowC (valC c) 10) 4, (valV c).N, (valV c).S⟩ := by simp only [anyvV, h, if_true]
    have e2 : anyvC c = belowC (belowC (valC c) 10) 4 := by simp only [anyvC, h, if_true]
    rw [e1, e2]; exact ⟨h3.1, h3.2, rfl, rfl, rfl⟩
  · have h : ¬ belowV (valC c) 10 = 0 := by simpa using h
    have h' := eq_of_beq h'
    have e1 : anyvV c = ⟨(valV c).K, intV (belowC (valC c) 10) iLany, (valV c).S⟩ := by simp only [anyvV]; rw [if_neg h, if_pos h']
    have e2 : anyvC c = intC (belowC (valC c) 10) iLany := by simp only [anyvC]; rw [if_neg h, if_pos h']
    rw [e1, e2]; exact ⟨h3.1, h3.2, by simp, rfl, rfl, rfl⟩
  · have h : ¬ belowV (valC c) 10 = 0 := by simpa using h
    have h' : ¬ belowV (valC c) 10 = 1 := by simpa using h'
    have h'' := eq_of_beq h''
    have e1 : anyvV c = ⟨(valV c).K, (valV c).N, strV (belowC (valC c) 10) sLany⟩ := by simp only [anyvV]; rw [if_neg h, if_neg h', if_pos h'']
    have e2 : anyvC c = strC (belowC (valC c) 10) sLany := by simp only [anyvC]; rw [if_neg h, if_neg h', if_pos h'']
    rw [e1, e2]; exact ⟨h3, by simp, rfl, rfl, rfl⟩
  · have h : ¬ belowV (valC c) 10 = 0 := by simpa using h
    have h' : ¬ belowV (valC c) 10 = 1 := by simpa using h'
    have h'' : ¬ belowV (valC c) 10 = 2 := by simpa using h''
    have e1 : anyvV c = valV c := by simp only [anyvV]; rw [if_neg h, if_neg h', if_neg h'']
    have e2 : anyvC c = belowC (valC c) 10 := by simp only [anyvC]; rw [if_neg h, if_neg h', if_neg h'']
    rw [e1, e2]; exact ⟨rfl, rfl, rfl⟩
def con_spec_l3Draw : Con UU where
  α := DCur
  md := [.box false]
  of := fun | [.box [.sl .byte a0, .lit (.int .i64 a1), .lit (.int .i64 a2)]] => some ⟨a0, a1, a2⟩ | _ => none
  ds := fun c => [.box [.sl .byte c.b, .lit (.int .i64 c.i), .lit (.int .i64 c.h)]]
  pre := fun c => [cOk c]
  res := fun c => ⟨[.agg [.lit (.string ((factV c)).Kind), .sl .eVal ((factV c)).Fields]], true, [.box [.sl .byte ((factC c)).b, .lit (.int .i64 ((factC c)).i), .lit (.int .i64 ((factC c)).h)]]⟩
  law := by intro l x h; (try simp only at h); split at h <;> cases h; rfl
def I_spec_l3Draw_8 (c : DCur) : Int × (ByteArray × List DVal × Unit) × (ByteArray × List DVal × Unit) × (List Int × Int × Int × Unit) × Unit → Prop := fun (i, r, f, cu, _) => 0 ≤ i ∧ i ≤ factN c ∧ f.1 = strV c sLkind ∧ cOk ⟨cu.1, cu.2.1, cu.2.2.1⟩ ∧ f.2.1.length ≤ i ∧ smallsL (factN c - i).toNat f.2.1 ⟨cu.1, cu.2.1, cu.2.2.1⟩ = (factV c).Fields ∧ smallsC (factN c - i).toNat ⟨cu.1, cu.2.1, cu.2.2.1⟩ = factC c
def μ_spec_l3Draw_8 (c : DCur) : Int × (ByteArray × List DVal × Unit) × (ByteArray × List DVal × Unit) × (List Int × Int × Int × Unit) × Unit → Nat := fun (i, r, f, cu, _) => (factN c - i).toNat
def ann_spec_l3Draw : con_spec_l3Draw.α → Nat → Option (Ann UU) := fun c => annL [(8, annOf [.slot 5 (5, 1024) (.lit (.int .i64)), .box 2 (2, 1024) [.lit .str, .own .eVal true], .box 3 (3, 1024) [.lit .str, .own .eVal true], .box 0 (2000000, 0) [.shr .byte, .lit (.int .i64), .lit (.int .i64)]] (fun _ => I_spec_l3Draw_8 c) (μ_spec_l3Draw_8 c))]
def use_spec_l3Draw : List (FuncId × Con UU) := [(29, con_spec_l1Str), (25, con_spec_l1Once), (26, con_spec_l1Below), (79, con_spec_l3Small)]
theorem vc_spec_l3Draw (c : DCur) : goal EE use_spec_l3Draw Go.Proofs.Tryz.f60 con_spec_l3Draw ann_spec_l3Draw c = (let x0 : DCur := belowC (strC c [{ data := #[(111 : UInt8), (114 : UInt8), (100 : UInt8), (101 : UInt8), (114 : UInt8)] : ByteArray }, { data := #[(112 : UInt8), (97 : UInt8), (105 : UInt8), (100 : UInt8)] : ByteArray }, { data := #[(105 : UInt8), (116 : UInt8), (101 : UInt8), (109 : UInt8)] : ByteArray }, { data := #[(111 : UInt8), (114 : UInt8), (100 : UInt8), (101 : UInt8), (114 : UInt8)] : ByteArray }]) (12 : Int);
let x1 : List ByteArray := [{ data := #[(111 : UInt8), (114 : UInt8), (100 : UInt8), (101 : UInt8), (114 : UInt8)] : ByteArray }, { data := #[(112 : UInt8), (97 : UInt8), (105 : UInt8), (100 : UInt8)] : ByteArray }, { data := #[(105 : UInt8), (116 : UInt8), (101 : UInt8), (109 : UInt8)] : ByteArray }, { data := #[(111 : UInt8), (114 : UInt8), (100 : UInt8), (101 : UInt8), (114 : UInt8)] : ByteArray }];
cOk c ∧
  (1 : Nat) ≤ List.length x1 ∧
    bif ByteArray.toList (strV c x1) == ByteArray.toList { data := #[(105 : UInt8), (116 : UInt8), (101 : UInt8), (109 : UInt8)] : ByteArray } then
      cOk (strC c x1) ∧
        bif onceV (strC c x1) (12 : Int) then
          (0 : Int) ≤ x0.i ∧
            List.length x0.b ≤ (4294967296 : Nat) ∧
              I_spec_l3Draw_8 c ((0 : Int), ({ data := #[] : ByteArray }, [], PUnit.unit), (strV c x1, [], PUnit.unit), ((belowC x0 (6 : Int)).b, (belowC x0 (6 : Int)).i, (belowC x0 (6 : Int)).h, PUnit.unit), PUnit.unit) ∧
                ∀ (y : Int × (ByteArray × List DVal × PUnit) × (ByteArray × List DVal × PUnit) × (List Int × Int × Int × PUnit) × PUnit),
                  let x2 : DCur := smallC { b := y.2.2.2.1.1, i := y.2.2.2.1.2.1, h := y.2.2.2.1.2.2.1 : DCur };
                  let x3 : List DVal := [smallV { b := y.2.2.2.1.1, i := y.2.2.2.1.2.1, h := y.2.2.2.1.2.2.1 : DCur }];
                  I_spec_l3Draw_8 c y → bif decide (y.1 < belowV x0 (6 : Int)) then cOk { b := y.2.2.2.1.1, i := y.2.2.2.1.2.1, h := y.2.2.2.1.2.2.1 : DCur } ∧ List.length y.2.2.1.2.1 + List.length x3 ≤ (4294967296 : Nat) ∧ I_spec_l3Draw_8 c (IntKind.wrap IntKind.i64 (y.1 + (1 : Int)), (y.2.1.1, y.2.1.2.1, PUnit.unit), (y.2.2.1.1, y.2.2.1.2.1 ++ x3, PUnit.unit), (x2.b, x2.i, x2.h, PUnit.unit), PUnit.unit) ∧ μ_spec_l3Draw_8 c (IntKind.wrap IntKind.i64 (y.1 + (1 : Int)), (y.2.1.1, y.2.1.2.1, PUnit.unit), (y.2.2.1.1, y.2.2.1.2.1 ++ x3, PUnit.unit), (x2.b, x2.i, x2.h, PUnit.unit), PUnit.unit) < μ_spec_l3Draw_8 c y else (0 : Nat) = (0 : Nat) ∧ asD [DV.agg [Cell.lit (Value.string y.2.2.1.1), Cell.sl Cd.eVal y.2.2.1.2.1]] = asD [DV.agg [Cell.lit (Value.string (factV c).Kind), Cell.sl Cd.eVal (factV c).Fields]] ∧ asD [DV.box [Cell.sl Cd.byte y.2.2.2.1.1, Cell.lit (Value.int IntKind.i64 y.2.2.2.1.2.1), Cell.lit (Value.int IntKind.i64 y.2.2.2.1.2.2.1)]] = asD [DV.box [Cell.sl Cd.byte (factC c).b, Cell.lit (Value.int IntKind.i64 (factC c).i), Cell.lit (Value.int IntKind.i64 (factC c).h)]]
        else
          I_spec_l3Draw_8 c ((0 : Int), ({ data := #[] : ByteArray }, [], PUnit.unit), (strV c x1, [], PUnit.unit), (x0.b, x0.i, x0.h, PUnit.unit), PUnit.unit) ∧
            ∀ (y : Int × (ByteArray × List DVal × PUnit) × (ByteArray × List DVal × PUnit) × (List Int × Int × Int × PUnit) × PUnit),
              let x2 : DCur := smallC { b := y.2.2.2.1.1, i := y.2.2.2.1.2.1, h := y.2.2.2.1.2.2.1 : DCur };
              let x3 : List DVal := [smallV { b := y.2.2.2.1.1, i := y.2.2.2.1.2.1, h := y.2.2.2.1.2.2.1 : DCur }];
              I_spec_l3Draw_8 c y → bif decide (y.1 < (2 : Int)) then cOk { b := y.2.2.2.1.1, i := y.2.2.2.1.2.1, h := y.2.2.2.1.2.2.1 : DCur } ∧ List.length y.2.2.1.2.1 + List.length x3 ≤ (4294967296 : Nat) ∧ I_spec_l3Draw_8 c (IntKind.wrap IntKind.i64 (y.1 + (1 : Int)), (y.2.1.1, y.2.1.2.1, PUnit.unit), (y.2.2.1.1, y.2.2.1.2.1 ++ x3, PUnit.unit), (x2.b, x2.i, x2.h, PUnit.unit), PUnit.unit) ∧ μ_spec_l3Draw_8 c (IntKind.wrap IntKind.i64 (y.1 + (1 : Int)), (y.2.1.1, y.2.1.2.1, PUnit.unit), (y.2.2.1.1, y.2.2.1.2.1 ++ x3, PUnit.unit), (x2.b, x2.i, x2.h, PUnit.unit), PUnit.unit) < μ_spec_l3Draw_8 c y else (0 : Nat) = (0 : Nat) ∧ asD [DV.agg [Cell.lit (Value.string y.2.2.1.1), Cell.sl Cd.eVal y.2.2.1.2.1]] = asD [DV.agg [Cell.lit (Value.string (factV c).Kind), Cell.sl Cd.eVal (factV c).Fields]] ∧ asD [DV.box [Cell.sl Cd.byte y.2.2.2.1.1, Cell.lit (Value.int IntKind.i64 y.2.2.2.1.2.1), Cell.lit (Value.int IntKind.i64 y.2.2.2.1.2.2.1)]] = asD [DV.box [Cell.sl Cd.byte (factC c).b, Cell.lit (Value.int IntKind.i64 (factC c).i), Cell.lit (Value.int IntKind.i64 (factC c).h)]]
    else
      cOk (strC c x1) ∧
        bif onceV (strC c x1) (12 : Int) then
          (0 : Int) ≤ x0.i ∧
            List.length x0.b ≤ (4294967296 : Nat) ∧
              I_spec_l3Draw_8 c ((0 : Int), ({ data := #[] : ByteArray }, [], PUnit.unit), (strV c x1, [], PUnit.unit), ((belowC x0 (6 : Int)).b, (belowC x0 (6 : Int)).i, (belowC x0 (6 : Int)).h, PUnit.unit), PUnit.unit) ∧
                ∀ (y : Int × (ByteArray × List DVal × PUnit) × (ByteArray × List DVal × PUnit) × (List Int × Int × Int × PUnit) × PUnit),
                  let x2 : DCur := smallC { b := y.2.2.2.1.1, i := y.2.2.2.1.2.1, h := y.2.2.2.1.2.2.1 : DCur };
                  let x3 : List DVal := [smallV { b := y.2.2.2.1.1, i := y.2.2.2.1.2.1, h := y.2.2.2.1.2.2.1 : DCur }];
                  I_spec_l3Draw_8 c y → bif decide (y.1 < belowV x0 (6 : Int)) then cOk { b := y.2.2.2.1.1, i := y.2.2.2.1.2.1, h := y.2.2.2.1.2.2.1 : DCur } ∧ List.length y.2.2.1.2.1 + List.length x3 ≤ (4294967296 : Nat) ∧ I_spec_l3Draw_8 c (IntKind.wrap IntKind.i64 (y.1 + (1 : Int)), (y.2.1.1, y.2.1.2.1, PUnit.unit), (y.2.2.1.1, y.2.2.1.2.1 ++ x3, PUnit.unit), (x2.b, x2.i, x2.h, PUnit.unit), PUnit.unit) ∧ μ_spec_l3Draw_8 c (IntKind.wrap IntKind.i64 (y.1 + (1 : Int)), (y.2.1.1, y.2.1.2.1, PUnit.unit), (y.2.2.1.1, y.2.2.1.2.1 ++ x3, PUnit.unit), (x2.b, x2.i, x2.h, PUnit.unit), PUnit.unit) < μ_spec_l3Draw_8 c y else (0 : Nat) = (0 : Nat) ∧ asD [DV.agg [Cell.lit (Value.string y.2.2.1.1), Cell.sl Cd.eVal y.2.2.1.2.1]] = asD [DV.agg [Cell.lit (Value.string (factV c).Kind), Cell.sl Cd.eVal (factV c).Fields]] ∧ asD [DV.box [Cell.sl Cd.byte y.2.2.2.1.1, Cell.lit (Value.int IntKind.i64 y.2.2.2.1.2.1), Cell.lit (Value.int IntKind.i64 y.2.2.2.1.2.2.1)]] = asD [DV.box [Cell.sl Cd.byte (factC c).b, Cell.lit (Value.int IntKind.i64 (factC c).i), Cell.lit (Value.int IntKind.i64 (factC c).h)]]
        else
          I_spec_l3Draw_8 c ((0 : Int), ({ data := #[] : ByteArray }, [], PUnit.unit), (strV c x1, [], PUnit.unit), (x0.b, x0.i, x0.h, PUnit.unit), PUnit.unit) ∧
            ∀ (y : Int × (ByteArray × List DVal × PUnit) × (ByteArray × List DVal × PUnit) × (List Int × Int × Int × PUnit) × PUnit),
              let x2 : DCur := smallC { b := y.2.2.2.1.1, i := y.2.2.2.1.2.1, h := y.2.2.2.1.2.2.1 : DCur };
              let x3 : List DVal := [smallV { b := y.2.2.2.1.1, i := y.2.2.2.1.2.1, h := y.2.2.2.1.2.2.1 : DCur }];
              I_spec_l3Draw_8 c y → bif decide (y.1 < (1 : Int)) then cOk { b := y.2.2.2.1.1, i := y.2.2.2.1.2.1, h := y.2.2.2.1.2.2.1 : DCur } ∧ List.length y.2.2.1.2.1 + List.length x3 ≤ (4294967296 : Nat) ∧ I_spec_l3Draw_8 c (IntKind.wrap IntKind.i64 (y.1 + (1 : Int)), (y.2.1.1, y.2.1.2.1, PUnit.unit), (y.2.2.1.1, y.2.2.1.2.1 ++ x3, PUnit.unit), (x2.b, x2.i, x2.h, PUnit.unit), PUnit.unit) ∧ μ_spec_l3Draw_8 c (IntKind.wrap IntKind.i64 (y.1 + (1 : Int)), (y.2.1.1, y.2.1.2.1, PUnit.unit), (y.2.2.1.1, y.2.2.1.2.1 ++ x3, PUnit.unit), (x2.b, x2.i, x2.h, PUnit.unit), PUnit.unit) < μ_spec_l3Draw_8 c y else (0 : Nat) = (0 : Nat) ∧ asD [DV.agg [Cell.lit (Value.string y.2.2.1.1), Cell.sl Cd.eVal y.2.2.1.2.1]] = asD [DV.agg [Cell.lit (Value.string (factV c).Kind), Cell.sl Cd.eVal (factV c).Fields]] ∧ asD [DV.box [Cell.sl Cd.byte y.2.2.2.1.1, Cell.lit (Value.int IntKind.i64 y.2.2.2.1.2.1), Cell.lit (Value.int IntKind.i64 y.2.2.2.1.2.2.1)]] = asD [DV.box [Cell.sl Cd.byte (factC c).b, Cell.lit (Value.int IntKind.i64 (factC c).i), Cell.lit (Value.int IntKind.i64 (factC c).h)]]) := by kernel_rfl
theorem ok_spec_l3Draw : Holds EE (60, con_spec_l3Draw) := by
  refine holds_of EE_ok Go.Proofs.Tryz.func60 con_spec_l3Draw (by kernel_rfl) use_spec_l3Draw (all_cons ok_spec_l1Str (all_cons ok_spec_l1Once (all_cons ok_spec_l1Below (all_cons ok_spec_l3Small all_nil)))) ann_spec_l3Draw (fun (c : DCur) hp hb => ?_)
  have hb_c : BdDV (U := UU) (.box [.sl .byte c.b, .lit (.int .i64 c.i), .lit (.int .i64 c.h)]) := hb _ (List.mem_cons_self)
  have hl_c_b : c.b.length ≤ 9223372036854775807 := Bd.len (U := UU) (τ := .byte) (xs := c.b) (hb_c _ (by simp))
  have hp0 : cOk c := hp _ (List.mem_cons_self)
  clear hp hb
  rw [vc_spec_l3Draw c]
  dsimp only
  have hk := cOk_str hp0 sLkind
  have hd := cOk_factD hp0
  have hle := factN_le c
  have fin : ∀ (n : Int) (d : DCur), factN c = n → factD c = d →
      I_spec_l3Draw_8 c ((0 : Int), (noBytes, [], PUnit.unit), (strV c sLkind, [], PUnit.unit), (d.b, d.i, d.h, PUnit.unit), PUnit.unit) := by
    rintro n d rfl rfl
    exact ⟨by omega, by omega, rfl, hd, by simp, by simp only [Int.sub_zero]; rfl, by simp only [Int.sub_zero]; rfl⟩
  refine ⟨hp0, by simp, ?_⟩
  refine if_cond (fun h => ⟨hk, if_cond (fun h' => ⟨(cOk_below hk 12).1, (cOk_below hk 12).2, ?_⟩) (fun h' => ?_)⟩) (fun h => ⟨hk, if_cond (fun h' => ⟨(cOk_below hk 12).1, (cOk_below hk 12).2, ?_⟩) (fun h' => ?_)⟩)
  · have hN : factN c = belowV (belowC (strC c sLkind) 12) 6 := if_pos h'
    have hD : factD c = belowC (belowC (strC c sLkind) 12) 6 := if_pos h'
    refine ⟨fin _ _ hN hD, ?_⟩
    have hN' : belowV (belowC (strC c sLkind) 12) 6 = factN c := hN.symm
    rintro ⟨i, r, ⟨fk, fl, ⟨⟩⟩, ⟨cb, ci, ch, ⟨⟩⟩, ⟨⟩⟩ ⟨g1, g2, g3, g4, g5, g6, g7⟩
    simp only at g1 g2 g3 g4 g5 g6 g7 ⊢
    refine if_cond (fun hc => ?_) (fun hc => ?_)
    · have hc : i < factN c := by rw [hN]; exact of_decide_eq_true hc
      have e : (factN c - i).toNat = (factN c - (i + 1)).toNat + 1 := by omega
      rw [e] at g6 g7
      rw [wrap_i64 (by omega) (by omega)]
      exact ⟨g4, by simp only [List.length_cons, List.length_nil]; omega, ⟨by omega, by omega, g3, cOk_small g4, by simp only [List.length_append, List.length_cons, List.length_nil]; omega, g6, g7⟩, by simp only [μ_spec_l3Draw_8]; omega⟩
    · have hc : ¬ i < factN c := by rw [hN]; exact of_decide_eq_false hc
      have e : (factN c - i).toNat = 0 := by omega
      rw [e] at g6 g7
      have g6 : fl = (factV c).Fields := g6
      have g7 : (⟨cb, ci, ch⟩ : DCur) = factC c := g7
      have g3 : fk = (factV c).Kind := g3
      rw [← g7, ← g6, ← g3]
      exact ⟨by trivial, rfl, rfl⟩
  · have h : strV c sLkind = bItem := by rw [toList_beq] at h; exact of_decide_eq_true h
    have hN : factN c = 2 := by rw [factN, if_neg (by rw [show onceV (strC c sLkind) 12 = false from h']; simp), if_pos h]
    have hD : factD c = belowC (strC c sLkind) 12 := if_neg (by rw [show onceV (strC c sLkind) 12 = false from h']; simp)
    refine ⟨fin _ _ hN hD, ?_⟩
    rintro ⟨i, r, ⟨fk, fl, ⟨⟩⟩, ⟨cb, ci, ch, ⟨⟩⟩, ⟨⟩⟩ ⟨g1, g2, g3, g4, g5, g6, g7⟩
    simp only at g1 g2 g3 g4 g5 g6 g7 ⊢
    refine if_cond (fun hc => ?_) (fun hc => ?_)
    · have hc : i < factN c := by rw [hN]; exact of_decide_eq_true hc
      have e : (factN c - i).toNat = (factN c - (i + 1)).toNat + 1 := by omega
      rw [e] at g6 g7
      rw [wrap_i64 (by omega) (by omega)]
      exact ⟨g4, by simp only [List.length_cons, List.length_nil]; omega, ⟨by omega, by omega, g3, cOk_small g4, by simp only [List.length_append, List.length_cons, List.length_nil]; omega, g6, g7⟩, by simp only [μ_spec_l3Draw_8]; omega⟩
    · have hc : ¬ i < factN c := by rw [hN]; exact of_decide_eq_false hc
      have e : (factN c - i).toNat = 0 := by omega
      rw [e] at g6 g7
      have g6 : fl = (factV c).Fields := g6
      have g7 : (⟨cb, ci, ch⟩ : DCur) = factC c := g7
      have g3 : fk = (factV c).Kind := g3
      rw [← g7, ← g6, ← g3]
      exact ⟨by trivial, rfl, rfl⟩
  · have hN : factN c = belowV (belowC (strC c sLkind) 12) 6 := if_pos h'
    have hD : factD c = belowC (belowC (strC c sLkind) 12) 6 := if_pos h'
    refine ⟨fin _ _ hN hD, ?_⟩
    have hN' : belowV (belowC (strC c sLkind) 12) 6 = factN c := hN.symm
    rintro ⟨i, r, ⟨fk, fl, ⟨⟩⟩, ⟨cb, ci, ch, ⟨⟩⟩, ⟨⟩⟩ ⟨g1, g2, g3, g4, g5, g6, g7⟩
    simp only at g1 g2 g3 g4 g5 g6 g7 ⊢
    refine if_cond (fun hc => ?_) (fun hc => ?_)
    · have hc : i < factN c := by rw [hN]; exact of_decide_eq_true hc
      have e : (factN c - i).toNat = (factN c - (i + 1)).toNat + 1 := by omega
      rw [e] at g6 g7
      rw [wrap_i64 (by omega) (by omega)]
      exact ⟨g4, by simp only [List.length_cons, List.length_nil]; omega, ⟨by omega, by omega, g3, cOk_small g4, by simp only [List.length_append, List.length_cons, List.length_nil]; omega, g6, g7⟩, by simp only [μ_spec_l3Draw_8]; omega⟩
    · have hc : ¬ i < factN c := by rw [hN]; exact of_decide_eq_false hc
      have e : (factN c - i).toNat = 0 := by omega
      rw [e] at g6 g7
      have g6 : fl = (factV c).Fields := g6
      have g7 : (⟨cb, ci, ch⟩ : DCur) = factC c := g7
      have g3 : fk = (factV c).Kind := g3
      rw [← g7, ← g6, ← g3]
      exact ⟨by trivial, rfl, rfl⟩
  · have h : ¬ strV c sLkind = bItem := by rw [toList_beq] at h; exact of_decide_eq_false h
    have hN : factN c = 1 := by rw [factN, if_neg (by rw [show onceV (strC c sLkind) 12 = false from h']; simp), if_neg h]
    have hD : factD c = belowC (strC c sLkind) 12 := if_neg (by rw [show onceV (strC c sLkind) 12 = false from h']; simp)
    refine ⟨fin _ _ hN hD, ?_⟩
    rintro ⟨i, r, ⟨fk, fl, ⟨⟩⟩, ⟨cb, ci, ch, ⟨⟩⟩, ⟨⟩⟩ ⟨g1, g2, g3, g4, g5, g6, g7⟩
    simp only at g1 g2 g3 g4 g5 g6 g7 ⊢
    refine if_cond (fun hc => ?_) (fun hc => ?_)
    · have hc : i < factN c := by rw [hN]; exact of_decide_eq_true hc
      have e : (factN c - i).toNat = (factN c - (i + 1)).toNat + 1 := by omega
      rw [e] at g6 g7
      rw [wrap_i64 (by omega) (by omega)]
      exact ⟨g4, by simp only [List.length_cons, List.length_nil]; omega, ⟨by omega, by omega, g3, cOk_small g4, by simp only [List.length_append, List.length_cons, List.length_nil]; omega, g6, g7⟩, by simp only [μ_spec_l3Draw_8]; omega⟩
    · have hc : ¬ i < factN c := by rw [hN]; exact of_decide_eq_false hc
      have e : (factN c - i).toNat = 0 := by omega
      rw [e] at g6 g7
      have g6 : fl = (factV c).Fields := g6
      have g7 : (⟨cb, ci, ch⟩ : DCur) = factC c := g7
      have g3 : fk = (factV c).Kind := g3
      rw [← g7, ← g6, ← g3]
      exact ⟨by trivial, rfl, rfl⟩
def con_spec_l3Any : Con UU where
  α := DCur
  md := [.box false]
  of := fun | [.box [.sl .byte a0, .lit (.int .i64 a1), .lit (.int .i64 a2)]] => some ⟨a0, a1, a2⟩ | _ => none
  ds := fun c => [.box [.sl .byte c.b, .lit (.int .i64 c.i), .lit (.int .i64 c.h)]]
  pre := fun c => [cOk c]
  res := fun c => ⟨[.agg [.lit (.string ((anyF c)).Kind), .sl .eVal ((anyF c)).Fields]], true, [.box [.sl .byte ((anyFC c)).b, .lit (.int .i64 ((anyFC c)).i), .lit (.int .i64 ((anyFC c)).h)]]⟩
  law := by intro l x h; (try simp only at h); split at h <;> cases h; rfl
def I_spec_l3Any_8 (c : DCur) : (ByteArray × List DVal × Unit) × (ByteArray × List DVal × Unit) × (List Int × Int × Int × Unit) × Unit → Prop := fun (r, f, cu, _) => f.1 = (factV c).Kind ∧ cOk ⟨cu.1, cu.2.1, cu.2.2.1⟩ ∧ padL f.2.1 ⟨cu.1, cu.2.1, cu.2.2.1⟩ = padL (factV c).Fields (belowC (factC c) 10)
def μ_spec_l3Any_8 (c : DCur) : (ByteArray × List DVal × Unit) × (ByteArray × List DVal × Unit) × (List Int × Int × Int × Unit) × Unit → Nat := fun (r, f, cu, _) => 6 - f.2.1.length
def ann_spec_l3Any : con_spec_l3Any.α → Nat → Option (Ann UU) := fun c => annL [(8, annOf [.box 2 (2, 1024) [.lit .str, .own .eVal true], .box 3 (3, 1024) [.lit .str, .own .eVal true], .box 0 (2000000, 0) [.shr .byte, .lit (.int .i64), .lit (.int .i64)]] (fun _ => I_spec_l3Any_8 c) (μ_spec_l3Any_8 c))]
def use_spec_l3Any : List (FuncId × Con UU) := [(60, con_spec_l3Draw), (26, con_spec_l1Below), (29, con_spec_l1Str), (47, con_spec_l2Any), (61, con_spec_l2Draw)]
theorem vc_spec_l3Any (c : DCur) : goal EE use_spec_l3Any Go.Proofs.Tryz.f28 con_spec_l3Any ann_spec_l3Any c = (let x0 : DCur := strC (belowC (factC c) (10 : Int)) [{ data := #[] : ByteArray }, { data := #[(65 : UInt8)] : ByteArray }, { data := #[(116 : UInt8), (104 : UInt8), (105 : UInt8), (114 : UInt8), (116 : UInt8), (101 : UInt8), (101 : UInt8), (110 : UInt8), (98 : UInt8), (121 : UInt8), (116 : UInt8), (101 : UInt8), (115 : UInt8)] : ByteArray }, { data := #[(120 : UInt8)] : ByteArray }];
let x1 : List ByteArray := [{ data := #[] : ByteArray }, { data := #[(65 : UInt8)] : ByteArray }, { data := #[(116 : UInt8), (104 : UInt8), (105 : UInt8), (114 : UInt8), (116 : UInt8), (101 : UInt8), (101 : UInt8), (110 : UInt8), (98 : UInt8), (121 : UInt8), (116 : UInt8), (101 : UInt8), (115 : UInt8)] : ByteArray }, { data := #[(120 : UInt8)] : ByteArray }];
let x2 : DCur := belowC (factC c) (10 : Int);
cOk c ∧
  (0 : Int) ≤ (factC c).i ∧
    List.length (factC c).b ≤ (4294967296 : Nat) ∧
      bif belowV (factC c) (10 : Int) == (0 : Int) then cOk x2 ∧ (1 : Nat) ≤ List.length x1 ∧ (0 : Nat) = (0 : Nat) ∧ asD [DV.agg [Cell.lit (Value.string (strV x2 x1)), Cell.sl Cd.eVal (factV c).Fields]] = asD [DV.agg [Cell.lit (Value.string (anyF c).Kind), Cell.sl Cd.eVal (anyF c).Fields]] ∧ asD [DV.box [Cell.sl Cd.byte x0.b, Cell.lit (Value.int IntKind.i64 x0.i), Cell.lit (Value.int IntKind.i64 x0.h)]] = asD [DV.box [Cell.sl Cd.byte (anyFC c).b, Cell.lit (Value.int IntKind.i64 (anyFC c).i), Cell.lit (Value.int IntKind.i64 (anyFC c).h)]]
      else
        bif belowV (factC c) (10 : Int) == (1 : Int) then cOk x2 ∧ List.length (factV c).Fields + List.length [anyvV x2] ≤ (4294967296 : Nat) ∧ (0 : Nat) = (0 : Nat) ∧ asD [DV.agg [Cell.lit (Value.string (factV c).Kind), Cell.sl Cd.eVal ((factV c).Fields ++ [anyvV x2])]] = asD [DV.agg [Cell.lit (Value.string (anyF c).Kind), Cell.sl Cd.eVal (anyF c).Fields]] ∧ asD [DV.box [Cell.sl Cd.byte (anyvC x2).b, Cell.lit (Value.int IntKind.i64 (anyvC x2).i), Cell.lit (Value.int IntKind.i64 (anyvC x2).h)]] = asD [DV.box [Cell.sl Cd.byte (anyFC c).b, Cell.lit (Value.int IntKind.i64 (anyFC c).i), Cell.lit (Value.int IntKind.i64 (anyFC c).h)]]
        else
          bif belowV (factC c) (10 : Int) == (2 : Int) then
            I_spec_l3Any_8 c (({ data := #[] : ByteArray }, [], PUnit.unit), ((factV c).Kind, (factV c).Fields, PUnit.unit), (x2.b, x2.i, x2.h, PUnit.unit), PUnit.unit) ∧
              ∀ (y : (ByteArray × List DVal × PUnit) × (ByteArray × List DVal × PUnit) × (List Int × Int × Int × PUnit) × PUnit),
                let x3 : DCur := belowC { b := y.2.2.1.1, i := y.2.2.1.2.1, h := y.2.2.1.2.2.1 : DCur } (2 : Int);
                let x4 : Int := IntKind.wrap IntKind.i64 ((5 : Int) + belowV { b := y.2.2.1.1, i := y.2.2.1.2.1, h := y.2.2.1.2.2.1 : DCur } (2 : Int));
                let x5 : Int := (↑(List.length y.2.1.2.1) : Int);
                I_spec_l3Any_8 c y → (0 : Int) ≤ y.2.2.1.2.1 ∧ List.length y.2.2.1.1 ≤ (4294967296 : Nat) ∧ bif decide (x5 < x4) then cOk x3 ∧ List.length y.2.1.2.1 + List.length [valV x3] ≤ (4294967296 : Nat) ∧ I_spec_l3Any_8 c ((y.1.1, y.1.2.1, PUnit.unit), (y.2.1.1, y.2.1.2.1 ++ [valV x3], PUnit.unit), ((valC x3).b, (valC x3).i, (valC x3).h, PUnit.unit), PUnit.unit) ∧ μ_spec_l3Any_8 c ((y.1.1, y.1.2.1, PUnit.unit), (y.2.1.1, y.2.1.2.1 ++ [valV x3], PUnit.unit), ((valC x3).b, (valC x3).i, (valC x3).h, PUnit.unit), PUnit.unit) < μ_spec_l3Any_8 c y else (0 : Nat) = (0 : Nat) ∧ asD [DV.agg [Cell.lit (Value.string y.2.1.1), Cell.sl Cd.eVal y.2.1.2.1]] = asD [DV.agg [Cell.lit (Value.string (anyF c).Kind), Cell.sl Cd.eVal (anyF c).Fields]] ∧ asD [DV.box [Cell.sl Cd.byte x3.b, Cell.lit (Value.int IntKind.i64 x3.i), Cell.lit (Value.int IntKind.i64 x3.h)]] = asD [DV.box [Cell.sl Cd.byte (anyFC c).b, Cell.lit (Value.int IntKind.i64 (anyFC c).i), Cell.lit (Value.int IntKind.i64 (anyFC c).h)]]
          else (0 : Nat) = (0 : Nat) ∧ asD [DV.agg [Cell.lit (Value.string (factV c).Kind), Cell.sl Cd.eVal (factV c).Fields]] = asD [DV.agg [Cell.lit (Value.string (anyF c).Kind), Cell.sl Cd.eVal (anyF c).Fields]] ∧ asD [DV.box [Cell.sl Cd.byte x2.b, Cell.lit (Value.int IntKind.i64 x2.i), Cell.lit (Value.int IntKind.i64 x2.h)]] = asD [DV.box [Cell.sl Cd.byte (anyFC c).b, Cell.lit (Value.int IntKind.i64 (anyFC c).i), Cell.lit (Value.int IntKind.i64 (anyFC c).h)]]) := by kernel_rfl
theorem ok_spec_l3Any : Holds EE (28, con_spec_l3Any) := by
  refine holds_of EE_ok Go.Proofs.Tryz.func28 con_spec_l3Any (by kernel_rfl) use_spec_l3Any (all_cons ok_spec_l3Draw (all_cons ok_spec_l1Below (all_cons ok_spec_l1Str (all_cons ok_spec_l2Any (all_cons ok_spec_l2Draw all_nil))))) ann_spec_l3Any (fun (c : DCur) hp hb => ?_)
  have hb_c : BdDV (U := UU) (.box [.sl .byte c.b, .lit (.int .i64 c.i), .lit (.int .i64 c.h)]) := hb _ (List.mem_cons_self)
  have hl_c_b : c.b.length ≤ 9223372036854775807 := Bd.len (U := UU) (τ := .byte) (xs := c.b) (hb_c _ (by simp))
  have hp0 : cOk c := hp _ (List.mem_cons_self)
  clear hp hb
  rw [vc_spec_l3Any c]
  dsimp only
  have h2 := cOk_fact hp0
  have h3 := cOk_below h2 10
  have hle := factN_le c
  have hl5 : (factV c).Fields.length ≤ 5 := by rw [factV_len]; omega
  refine ⟨hp0, h2.1, h2.2, if_cond (fun h => ?_) (fun h => if_cond (fun h' => ?_) (fun h' => if_cond (fun h'' => ?_) (fun h'' => ?_)))⟩
  · have h := eq_of_beq h
    have e1 : anyF c = ⟨strV (belowC (factC c) 10) sLanyk, (factV c).Fields⟩ := by simp only [anyF, h, if_true]
    have e2 : anyFC c = strC (belowC (factC c) 10) sLanyk := by simp only [anyFC, h, if_true]
    rw [e1, e2]; exact ⟨h3, by simp, rfl, rfl, rfl⟩
  · have h : ¬ belowV (factC c) 10 = 0 := by simpa using h
    have h' := eq_of_beq h'
    have e1 : anyF c = ⟨(factV c).Kind, (factV c).Fields ++ [anyvV (belowC (factC c) 10)]⟩ := by simp only [anyF]; rw [if_neg h, if_pos h']
    have e2 : anyFC c = anyvC (belowC (factC c) 10) := by simp only [anyFC]; rw [if_neg h, if_pos h']
    rw [e1, e2]; exact ⟨h3, by simp only [List.length_cons, List.length_nil]; omega, rfl, rfl, rfl⟩
  · have h : ¬ belowV (factC c) 10 = 0 := by simpa using h
    have h' : ¬ belowV (factC c) 10 = 1 := by simpa using h'
    have h'' := eq_of_beq h''
    have e1 : anyF c = ⟨(factV c).Kind, (padL (factV c).Fields (belowC (factC c) 10)).1⟩ := by simp only [anyF]; rw [if_neg h, if_neg h', if_pos h'']
    have e2 : anyFC c = (padL (factV c).Fields (belowC (factC c) 10)).2 := by simp only [anyFC]; rw [if_neg h, if_neg h', if_pos h'']
    rw [e1, e2]
    refine ⟨⟨rfl, h3, rfl⟩, ?_⟩
    rintro ⟨r, ⟨fk, fl, ⟨⟩⟩, ⟨cb, ci, ch, ⟨⟩⟩, ⟨⟩⟩ ⟨g1, g2, g3⟩
    simp only at g1 g2 g3 ⊢
    have hb := belowV_lt (c := ⟨cb, ci, ch⟩) (n := 2) (by omega)
    rw [wrap_i64 (n := 5 + belowV ⟨cb, ci, ch⟩ 2) (by omega) (by omega)]
    refine ⟨g2.1, g2.2, if_cond (fun hc => ?_) (fun hc => ?_)⟩
    · have hc := of_decide_eq_true hc
      rw [padL_yes hc] at g3
      exact ⟨cOk_below g2 2, by simp only [List.length_cons, List.length_nil]; omega, ⟨g1, cOk_val (cOk_below g2 2), g3⟩, by simp only [μ_spec_l3Any_8, List.length_append, List.length_cons, List.length_nil]; omega⟩
    · have hc := of_decide_eq_false hc
      rw [padL_no hc] at g3
      rw [← g3, ← g1]
      exact ⟨by trivial, rfl, rfl⟩
  · have h : ¬ belowV (factC c) 10 = 0 := by simpa using h
    have h' : ¬ belowV (factC c) 10 = 1 := by simpa using h'
    have h'' : ¬ belowV (factC c) 10 = 2 := by simpa using h''
    have e1 : anyF c = factV c := by simp only [anyF]; rw [if_neg h, if_neg h', if_neg h'']
    have e2 : anyFC c = belowC (factC c) 10 := by simp only [anyFC]; rw [if_neg h, if_neg h', if_neg h'']
    rw [e1, e2]; exact ⟨rfl, rfl, rfl⟩
def con_laws_big : Con UU where
  α := (List Int)
  md := [.ro]
  of := fun | [.one (.sl .byte a0)] => some a0 | _ => none
  ds := fun code => [.one (.sl .byte code)]
  pre := fun code => []
  res := fun code => ⟨[.one (.lit (.bool (decide (code.length > 1048576))))], true, []⟩
  law := by intro l x h; (try simp only at h); split at h <;> cases h; rfl
def ann_laws_big : con_laws_big.α → Nat → Option (Ann UU) := fun code => annL []
def use_laws_big : List (FuncId × Con UU) := []
theorem vc_laws_big (code : (List Int)) : goal EE use_laws_big Go.Proofs.Tryz.f6 con_laws_big ann_laws_big code = (Lf [DV.one (Cell.lit (Value.bool (decide ((↑(List.length code) : Int) > (1048576 : Int)))))] [DV.one (Cell.lit (Value.bool (decide (List.length code > (1048576 : Nat)))))]) := by kernel_rfl
theorem ok_laws_big : Holds EE (6, con_laws_big) := by
  refine holds_of EE_ok Go.Proofs.Tryz.func6 con_laws_big (by kernel_rfl) use_laws_big all_nil ann_laws_big (fun (code : (List Int)) hp hb => ?_)
  have hb_code : BdDV (U := UU) (.one (.sl .byte code)) := hb _ (List.mem_cons_self)
  have hl_code : code.length ≤ 9223372036854775807 := Bd.len hb_code
  clear hp hb
  rw [vc_laws_big code]
  exact Lf_b (decide_eq_decide.2 (by omega))
def allI (n : Nat) (p : Nat → Bool) : Bool := (List.range n).all p
theorem allI_true {n : Nat} {p : Nat → Bool} (h : ∀ j, j < n → p j = true) : allI n p = true := by simpa [allI] using h
theorem allI_false {n : Nat} {p : Nat → Bool} {j : Nat} (h : j < n) (hj : p j = false) : allI n p = false := by
  simp only [allI, List.all_eq_false, List.mem_range]
  exact ⟨j, h, by simp [hj]⟩
theorem upto_step {i : Int} {p : Nat → Bool} (h0 : 0 ≤ i) (h : ∀ j : Nat, (j : Int) < i → p j = true) (hi : p i.toNat = true) : ∀ j : Nat, (j : Int) < i + 1 → p j = true := by
  intro j hj
  by_cases hji : (j : Int) < i
  · exact h j hji
  · have : j = i.toNat := by omega
    subst this; exact hi
def timerOk (x : DTimer) : Bool := decide (0 ≤ x.At ∧ x.At ≤ 1000000000) && factOk x.F
def timerAt (l : List DTimer) (i : Nat) : Bool := timerOk (List.getD l i zTimer) && (decide (i = 0) || decide ((List.getD l (i - 1) zTimer).At ≤ (List.getD l i zTimer).At))
def timersOk (l : List DTimer) : Bool := decide (l.length ≤ 30) && allI l.length (timerAt l)
/-- The first place where p holds; -1. -/
def idxI (n : Nat) (p : Nat → Bool) : Int := match (List.range n).find? p with | some i => i | none => -1
def anyI (n : Nat) (p : Nat → Bool) : Bool := (List.range n).any p
theorem idxI_found {n i : Nat} {p : Nat → Bool} (h : i < n) (hp : p i = true) (hj : ∀ j, j < i → p j = false) : idxI n p = i := by
  have : (List.range n).find? p = some i := by
    rw [List.find?_range_eq_some]
    exact ⟨hp, List.mem_range.2 h, fun j hj' => by simp [hj j hj']⟩
  simp [idxI, this]
theorem idxI_none {n : Nat} {p : Nat → Bool} (hj : ∀ j, j < n → p j = false) : idxI n p = -1 := by
  have : (List.range n).find? p = none := by
    rw [List.find?_eq_none]
    intro j hj'
    simp [hj j (List.mem_range.1 hj')]
  simp [idxI, this]
theorem idxI_cases (n : Nat) (p : Nat → Bool) : (idxI n p = -1 ∧ ∀ j, j < n → p j = false) ∨ ∃ i, i < n ∧ idxI n p = (i : Int) ∧ p i = true ∧ ∀ j, j < i → p j = false := by
  cases h : (List.range n).find? p with
  | none =>
    refine .inl ⟨by simp [idxI, h], fun j hj => ?_⟩
    have := List.find?_eq_none.1 h j (List.mem_range.2 hj)
    simpa using this
  | some i =>
    rw [List.find?_range_eq_some] at h
    obtain ⟨h1, h2, h3⟩ := h
    exact .inr ⟨i, List.mem_range.1 h2, idxI_found (List.mem_range.1 h2) h1 (fun j hj => by simpa using h3 j hj), h1, fun j hj => by simpa using h3 j hj⟩
theorem idxI_congr {n : Nat} {p q : Nat → Bool} (h : ∀ j, j < n → p j = q j) : idxI n p = idxI n q := by
  rcases idxI_cases n q with ⟨h1, h2⟩ | ⟨i, h1, h2, h3, h4⟩
  · rw [h1, idxI_none (fun j hj => by rw [h j hj, h2 j hj])]
  · rw [h2, idxI_found h1 (by rw [h i h1, h3]) (fun j hj => by rw [h j (by omega), h4 j hj])]
theorem anyI_true {n j : Nat} {p : Nat → Bool} (h : j < n) (hp : p j = true) : anyI n p = true := by
  simp only [anyI, List.any_eq_true, List.mem_range]
  exact ⟨j, h, hp⟩
theorem anyI_false {n : Nat} {p : Nat → Bool} (h : ∀ j, j < n → p j = false) : anyI n p = false := by
  simp only [anyI, List.any_eq_false, List.mem_range]
  exact fun j hj => by simp [h j hj]
theorem anyI_iff {n : Nat} {p : Nat → Bool} : anyI n p = true ↔ ∃ j, j < n ∧ p j = true := by
  simp only [anyI, List.any_eq_true, List.mem_range]
theorem anyI_not {n : Nat} {p : Nat → Bool} : anyI n p = false ↔ ∀ j, j < n → p j = false := by
  simp only [anyI, List.any_eq_false, List.mem_range, Bool.not_eq_true]
theorem allI_iff {n : Nat} {p : Nat → Bool} : allI n p = true ↔ ∀ j, j < n → p j = true := by
  simp only [allI, List.all_eq_true, List.mem_range]
theorem allI_not {n : Nat} {p : Nat → Bool} : allI n p = false ↔ ∃ j, j < n ∧ p j = false := by
  simp only [allI, List.all_eq_false, List.mem_range, Bool.not_eq_true]
theorem anyI_congr {n : Nat} {p q : Nat → Bool} (h : ∀ j, j < n → p j = q j) : anyI n p = anyI n q := by
  rw [Bool.eq_iff_iff, anyI_iff, anyI_iff]
  exact ⟨fun ⟨j, h1, h2⟩ => ⟨j, h1, by rw [← h j h1]; exact h2⟩, fun ⟨j, h1, h2⟩ => ⟨j, h1, by rw [h j h1]; exact h2⟩⟩
theorem allI_congr {n : Nat} {p q : Nat → Bool} (h : ∀ j, j < n → p j = q j) : allI n p = allI n q := by
  rw [Bool.eq_iff_iff, allI_iff, allI_iff]
  exact ⟨fun g j hj => by rw [← h j hj]; exact g j hj, fun g j hj => by rw [h j hj]; exact g j hj⟩
theorem idxI_ge {n : Nat} {p : Nat → Bool} : decide (0 ≤ idxI n p) = anyI n p := by
  rcases idxI_cases n p with ⟨h1, h2⟩ | ⟨i, h1, h2, h3, h4⟩
  · rw [h1, anyI_false h2]; rfl
  · rw [h2, anyI_true h1 h3]; simp
theorem getD_take {α : Type} (l : List α) (z : α) {i j : Nat} (h : j < i) : List.getD (l.take i) j z = List.getD l j z := by
  rw [List.getD_eq_getElem?_getD, List.getD_eq_getElem?_getD, List.getElem?_take, if_pos h]
/-- What a closure answers. -/
theorem closP_of {k : Con UU} {caps : List (DV UU)} {ds : List (DA UU)} {x : k.α} {v : Value} (h : k.of (ds.map DA.dv ++ caps) = some x) (hv : (k.res x).val = [.one (.lit v)]) (hm : (k.res x).muts = [])
    (hl : k.md.length = ds.length + caps.length) (hp : ∀ p ∈ k.pre x, p) : closP k caps ds = some v := by
  unfold closP
  simp only [h, hv, hm]
  rw [if_pos ⟨hl, hp⟩]
theorem val_beq (a b : DVal) : (a.K == b.K && (a.N == b.N && (ByteArray.toList a.S == ByteArray.toList b.S && true))) = decide (a = b) := by
  obtain ⟨K, N, S⟩ := a
  obtain ⟨K', N', S'⟩ := b
  simp only [toList_beq, Bool.and_true]
  rw [Bool.eq_iff_iff]
  simp only [Bool.and_eq_true, beq_iff_eq, decide_eq_true_eq, DVal.mk.injEq]
/-- The end of a search. -/
theorem upto_no {i : Int} {p : Nat → Bool} (h0 : 0 ≤ i) (h : ∀ j : Nat, (j : Int) < i → p j = false) (hi : p i.toNat = false) : ∀ j : Nat, (j : Int) < i + 1 → p j = false := by
  intro j hj
  by_cases hji : (j : Int) < i
  · exact h j hji
  · have : j = i.toNat := by omega
    subst this; exact hi
def daUndo (x : DUndo) : DA UU := ⟨true, [.lit (.string x.Key), .lit (.string x.F.Kind), .sl .eVal x.F.Fields]⟩
def undoAt (l : List DUndo) (i : Nat) : Bool := decide (1 ≤ (List.getD l i zUndo).Key.size ∧ (List.getD l i zUndo).Key.size ≤ 200) && factOk (List.getD l i zUndo).F && !(anyI i fun k => decide ((List.getD l k zUndo).Key = (List.getD l i zUndo).Key))
def undosOk (l : List DUndo) : Bool := decide (l.length ≤ 30) && allI l.length (undoAt l)
def hasKey (l : List DUndo) (key : ByteArray) : Bool := anyI l.length fun k => decide ((List.getD l k zUndo).Key = key)
def undoLast (l : List DUndo) : DFact := if l = [] then zFact else (List.getD l (l.length - 1) zUndo).F
theorem undoLast_ct (l : List DUndo) : ctFact (undoLast l) ≤ 20 * sizeUndoS l := by
  unfold undoLast
  split
  · exact Nat.zero_le _
  · rename_i hl
    have h0 : 0 < l.length := List.length_pos_iff.2 hl
    have h1 : (l.length - 1 : Int).toNat = l.length - 1 := by omega
    have hs := sum_getD_le sizeUndo l zUndo (i := l.length - 1) (by omega) (by omega)
    rw [h1] at hs
    have := ctFact_le (List.getD l (l.length - 1) zUndo).F
    simp only [sizeUndo] at hs
    simp only [sizeUndoS, sizeUndo]
    omega
theorem sum_take_le {α : Type} (f : α → Nat) (l : List α) (n : Nat) : ((l.take n).map f).sum ≤ (l.map f).sum := by
  have h := congrArg (fun q => (q.map f).sum) (List.take_append_drop n l)
  simp only [List.map_append, List.sum_append] at h
  omega
theorem sizeUndoS_take (l : List DUndo) (n : Nat) : sizeUndoS (l.take n) ≤ sizeUndoS l := by
  have := sum_take_le sizeUndo l n
  simp only [sizeUndoS, List.length_take]
  omega
def con_slices_CloneVal : Con UU where
  α := (List DVal)
  md := [.ro]
  of := fun | [.one (.sl .eVal a0)] => some a0 | _ => none
  ds := fun l => [.one (.sl .eVal l)]
  pre := fun l => [l.length ≤ 4294967296]
  res := fun l => ⟨[.one (.sl .eVal l)], true, []⟩
  law := by intro l x h; (try simp only at h); split at h <;> cases h; rfl
def ann_slices_CloneVal : con_slices_CloneVal.α → Nat → Option (Ann UU) := fun l => annL []
def use_slices_CloneVal : List (FuncId × Con UU) := []
theorem vc_slices_CloneVal (l : (List DVal)) : goalN EE use_slices_CloneVal Go.Proofs.Tryz.f65 con_slices_CloneVal ann_slices_CloneVal l .eVal l false = ((0 : Nat) + List.length l ≤ (4294967296 : Nat) ∧ Lf [DV.one (Cell.sl Cd.eVal ([] ++ l))] [DV.one (Cell.sl Cd.eVal l)]) := by kernel_rfl
theorem vc2_slices_CloneVal : goalN EE use_slices_CloneVal Go.Proofs.Tryz.f65 con_slices_CloneVal ann_slices_CloneVal [] .eVal [] true = (Lf [DV.one (Cell.sl Cd.eVal [])] [DV.one (Cell.sl Cd.eVal [])]) := by kernel_rfl
theorem vd2_slices_CloneVal : goalN EE use_slices_CloneVal Go.Proofs.Tryz.f65 con_slices_CloneVal ann_slices_CloneVal [] .eVal [] true := by
  rw [vc2_slices_CloneVal]
  exact Lf_rfl _
theorem ok_slices_CloneVal : Holds EE (65, con_slices_CloneVal) := by
  refine holds_ofN EE_ok Go.Proofs.Tryz.func65 con_slices_CloneVal (by kernel_rfl) rfl .eVal (fun x => x) (fun _ => rfl) use_slices_CloneVal all_nil ann_slices_CloneVal (fun (l : (List DVal)) hp hb => ?_)
  have hb_l : BdDV (U := UU) (.one (.sl .eVal l)) := hb _ (List.mem_cons_self)
  have hl_l : l.length ≤ 9223372036854775807 := Bd.len hb_l
  have hp0 : l.length ≤ 4294967296 := hp _ (List.mem_cons_self)
  clear hp hb
  refine ⟨?_, fun h0 => ?_⟩
  rotate_left
  · subst h0; exact vd2_slices_CloneVal
  rw [vc_slices_CloneVal l]
  exact ⟨by simp; omega, Lf_rfl _⟩
def con_spec_l3Copy : Con UU where
  α := DFact
  md := [.ro]
  of := fun | [.agg [.lit (.string a0), .sl .eVal a1]] => some ⟨a0, a1⟩ | _ => none
  ds := fun f => [.agg [.lit (.string f.Kind), .sl .eVal f.Fields]]
  pre := fun f => [f.Fields.length ≤ 4294967296]
  res := fun f => ⟨[.agg [.lit (.string f.Kind), .sl .eVal f.Fields]], true, []⟩
  law := by intro l x h; (try simp only at h); split at h <;> cases h; rfl
def ann_spec_l3Copy : con_spec_l3Copy.α → Nat → Option (Ann UU) := fun f => annL []
def use_spec_l3Copy : List (FuncId × Con UU) := []
theorem vc_spec_l3Copy (f : DFact) : goal EE use_spec_l3Copy Go.Proofs.Tryz.f59 con_spec_l3Copy ann_spec_l3Copy f = ((0 : Nat) + List.length f.Fields ≤ (4294967296 : Nat) ∧ Lf [DV.agg [Cell.lit (Value.string f.Kind), Cell.sl Cd.eVal ([] ++ f.Fields)]] [DV.agg [Cell.lit (Value.string f.Kind), Cell.sl Cd.eVal f.Fields]]) := by kernel_rfl
theorem ok_spec_l3Copy : Holds EE (59, con_spec_l3Copy) := by
  refine holds_of EE_ok Go.Proofs.Tryz.func59 con_spec_l3Copy (by kernel_rfl) use_spec_l3Copy all_nil ann_spec_l3Copy (fun (f : DFact) hp hb => ?_)
  have hb_f : BdDV (U := UU) (.agg [.lit (.string f.Kind), .sl .eVal f.Fields]) := hb _ (List.mem_cons_self)
  have hl_f_Kind : f.Kind.size ≤ 9223372036854775807 := Bd.str (hb_f _ (by simp))
  have hl_f_Fields : f.Fields.length ≤ 9223372036854775807 := Bd.len (U := UU) (τ := .eVal) (xs := f.Fields) (hb_f _ (by simp))
  have hp0 : f.Fields.length ≤ 4294967296 := hp _ (List.mem_cons_self)
  clear hp hb
  rw [vc_spec_l3Copy f]
  exact ⟨by simp; omega, Lf_rfl _⟩
def con_impl_copyFact : Con UU where
  α := DFact
  md := [.ro]
  of := fun | [.agg [.lit (.string a0), .sl .eVal a1]] => some ⟨a0, a1⟩ | _ => none
  ds := fun f => [.agg [.lit (.string f.Kind), .sl .eVal f.Fields]]
  pre := fun f => [f.Fields.length ≤ 4294967296]
  res := fun f => ⟨[.agg [.lit (.string f.Kind), .sl .eVal f.Fields]], true, []⟩
  law := by intro l x h; (try simp only at h); split at h <;> cases h; rfl
def ann_impl_copyFact : con_impl_copyFact.α → Nat → Option (Ann UU) := fun f => annL []
def use_impl_copyFact : List (FuncId × Con UU) := [(65, con_slices_CloneVal)]
theorem vc_impl_copyFact (f : DFact) : goal EE use_impl_copyFact Go.Proofs.Tryz.f36 con_impl_copyFact ann_impl_copyFact f = (List.length f.Fields ≤ (4294967296 : Nat) ∧ Lf [DV.agg [Cell.lit (Value.string f.Kind), Cell.sl Cd.eVal f.Fields]] [DV.agg [Cell.lit (Value.string f.Kind), Cell.sl Cd.eVal f.Fields]]) := by kernel_rfl
theorem ok_impl_copyFact : Holds EE (36, con_impl_copyFact) := by
  refine holds_of EE_ok Go.Proofs.Tryz.func36 con_impl_copyFact (by kernel_rfl) use_impl_copyFact (all_cons ok_slices_CloneVal all_nil) ann_impl_copyFact (fun (f : DFact) hp hb => ?_)
  have hb_f : BdDV (U := UU) (.agg [.lit (.string f.Kind), .sl .eVal f.Fields]) := hb _ (List.mem_cons_self)
  have hl_f_Kind : f.Kind.size ≤ 9223372036854775807 := Bd.str (hb_f _ (by simp))
  have hl_f_Fields : f.Fields.length ≤ 9223372036854775807 := Bd.len (U := UU) (τ := .eVal) (xs := f.Fields) (hb_f _ (by simp))
  have hp0 : f.Fields.length ≤ 4294967296 := hp _ (List.mem_cons_self)
  clear hp hb
  rw [vc_impl_copyFact f]
  exact ⟨hp0, Lf_rfl _⟩
def undoOk (s : ByteArray) : Bool := decide (s = noBytes) || nameOk s
def taskOk (t : DTask) : Bool := factOk t.F && undoOk t.Undo && decide (1 ≤ t.State ∧ t.State ≤ 4) && decide (0 ≤ t.Tries ∧ t.Tries ≤ 4) && decide (0 ≤ t.Due ∧ t.Due ≤ 1000001000) && (decide (t.V = zVal) || valOk t.V) && decide ((t.State = 1 → t.Tries = 0) ∧ (t.State = 2 → t.Tries ≠ 0))
def taskAt (l : List DTask) (i : Nat) : Bool := taskOk (List.getD l i zTask) && !(anyI i fun k => decide ((List.getD l k zTask).F = (List.getD l i zTask).F))
def tasksOk (l : List DTask) : Bool := decide (l.length ≤ 30) && allI l.length (taskAt l)
def placeOf (l : List DTask) (f : DFact) : Int := idxI l.length fun k => decide ((List.getD l k zTask).F = f)
def isOpen (t : DTask) : Bool := decide (t.State = 1 ∨ t.State = 2)
def giveUp1 (t : DTask) : DTask := if t.State = 1 ∨ t.State = 2 then ⟨t.F, t.Undo, 4, t.Tries, t.Due, t.V⟩ else t
def giveUp (l : List DTask) : List DTask := l.map giveUp1
def daTask (x : DTask) : DA UU := ⟨true, [.lit (.string x.F.Kind), .sl .eVal x.F.Fields, .lit (.string x.Undo), .lit (.int .i64 x.State), .lit (.int .i64 x.Tries), .lit (.int .i64 x.Due), .lit (.int .i64 x.V.K), .lit (.int .i64 x.V.N), .lit (.string x.V.S)]⟩
theorem fact_ext {a b : DFact} : a = b ↔ a.Kind = b.Kind ∧ a.Fields = b.Fields := by
  obtain ⟨k, f⟩ := a; obtain ⟨k', f'⟩ := b; simp
theorem map_mod {α : Type} (f : α → α) (l : List α) (z : α) {i : Int} (F : α → α) (h0 : 0 ≤ i) (h : i < l.length) (hF : F (List.getD l i.toNat z) = f (List.getD l i.toNat z)) :
    ((l.map f).take i.toNat ++ l.drop i.toNat).modify i.toNat F = (l.map f).take (i + 1).toNat ++ l.drop (i + 1).toNat := by
  have hn : i.toNat < l.length := by omega
  have e : (i + 1).toNat = i.toNat + 1 := by omega
  have ht : ((l.map f).take i.toNat).length = i.toNat := by rw [List.length_take, List.length_map]; omega
  rw [modify_set _ z, mk_getD _ l z ht h0 h, hF, drop_step l z h0 h, List.set_append_right _ _ (by rw [ht]; exact Nat.le_refl _), ht, Nat.sub_self, List.set_cons_zero, e, List.take_succ_eq_append_getElem (by simpa using hn), List.append_assoc, List.getElem_map]
  rw [List.getD_eq_getElem?_getD, List.getElem?_eq_getElem hn]
  rfl
theorem map_skip {α : Type} (f : α → α) (l : List α) (z : α) {i : Int} (h0 : 0 ≤ i) (h : i < l.length) (hF : List.getD l i.toNat z = f (List.getD l i.toNat z)) :
    (l.map f).take i.toNat ++ l.drop i.toNat = (l.map f).take (i + 1).toNat ++ l.drop (i + 1).toNat := by
  rw [← map_mod f l z (fun x => x) h0 h hF]
  have : ∀ (m : List α) (n : Nat), m.modify n (fun x => x) = m := by
    intro m n
    refine List.ext_getElem? fun j => ?_
    rw [List.getElem?_modify]
    cases m[j]? <;> simp
  rw [this]
theorem map_row {α : Type} (f : α → α) (l : List α) {i : Int} (h0 : 0 ≤ i) (h : i ≤ l.length) : ((l.map f).take i.toNat ++ l.drop i.toNat).length = l.length := by
  rw [List.length_append, List.length_take, List.length_map, List.length_drop]; omega
theorem map_tl {α : Type} (f : α → α) (l : List α) {i : Int} (h0 : 0 ≤ i) (h : i ≤ l.length) : ((l.map f).take i.toNat).length = i.toNat := by
  rw [List.length_take, List.length_map]; omega
theorem map_done {α : Type} (f : α → α) (l : List α) {i : Int} (h : l.length ≤ i) : (l.map f).take i.toNat ++ l.drop i.toNat = l.map f := by
  rw [List.drop_eq_nil_of_le (by omega), List.append_nil, List.take_of_length_le (by rw [List.length_map]; omega)]
def con_spec_l3SameVals : Con UU where
  α := (List DVal) × (List DVal)
  md := [.ro, .ro]
  of := fun | [.one (.sl .eVal a0), .one (.sl .eVal a1)] => some (a0, a1) | _ => none
  ds := fun (a, b) => [.one (.sl .eVal a), .one (.sl .eVal b)]
  pre := fun (a, b) => []
  res := fun (a, b) => ⟨[.one (.lit (.bool (decide (a = b))))], true, []⟩
  law := by intro l x h; (try simp only at h); split at h <;> cases h; rfl
def I_spec_l3SameVals_4 (a : (List DVal)) (b : (List DVal)) : Int × Unit → Prop := fun (i, _) => 0 ≤ i ∧ i ≤ a.length ∧ a.length = b.length ∧ (a.drop i.toNat = b.drop i.toNat ↔ a = b)
def μ_spec_l3SameVals_4 (a : (List DVal)) (b : (List DVal)) : Int × Unit → Nat := fun (i, _) => a.length - i.toNat
def ann_spec_l3SameVals : con_spec_l3SameVals.α → Nat → Option (Ann UU) := fun (a, b) => annL [(4, annOf [.slot 5 (5, 1024) (.lit (.int .i64))] (fun _ => I_spec_l3SameVals_4 a b) (μ_spec_l3SameVals_4 a b))]
def use_spec_l3SameVals : List (FuncId × Con UU) := []
theorem vc_spec_l3SameVals (a : (List DVal)) (b : (List DVal)) : goal EE use_spec_l3SameVals Go.Proofs.Tryz.f78 con_spec_l3SameVals ann_spec_l3SameVals (a, b) = (bif (↑(List.length a) : Int) != (↑(List.length b) : Int) then Lf [DV.one (Cell.lit (Value.bool false))] [DV.one (Cell.lit (Value.bool (decide (a = b))))]
else
  I_spec_l3SameVals_4 a b ((0 : Int), PUnit.unit) ∧
    ∀ (y : Int × PUnit),
      let x0 : DVal := List.getD b (Int.toNat y.1) zVal;
      let x1 : DVal := List.getD a (Int.toNat y.1) zVal;
      I_spec_l3SameVals_4 a b y → bif decide (y.1 < (↑(List.length a) : Int)) then (0 : Int) ≤ y.1 ∧ Int.toNat y.1 < List.length a ∧ (0 : Int) ≤ y.1 ∧ Int.toNat y.1 < List.length b ∧ bif !(x1.K == x0.K && (x1.N == x0.N && (ByteArray.toList x1.S == ByteArray.toList x0.S && true))) then Lf [DV.one (Cell.lit (Value.bool false))] [DV.one (Cell.lit (Value.bool (decide (a = b))))] else I_spec_l3SameVals_4 a b (IntKind.wrap IntKind.i64 (y.1 + (1 : Int)), PUnit.unit) ∧ μ_spec_l3SameVals_4 a b (IntKind.wrap IntKind.i64 (y.1 + (1 : Int)), PUnit.unit) < μ_spec_l3SameVals_4 a b y else Lf [DV.one (Cell.lit (Value.bool true))] [DV.one (Cell.lit (Value.bool (decide (a = b))))]) := by kernel_rfl
theorem ok_spec_l3SameVals : Holds EE (78, con_spec_l3SameVals) := by
  refine holds_of EE_ok Go.Proofs.Tryz.func78 con_spec_l3SameVals (by kernel_rfl) use_spec_l3SameVals all_nil ann_spec_l3SameVals (fun x hp hb => ?_)
  obtain ⟨a, b⟩ := x
  have hb_a : BdDV (U := UU) (.one (.sl .eVal a)) := hb _ (List.mem_cons_self)
  have hl_a : a.length ≤ 9223372036854775807 := Bd.len hb_a
  have hb_b : BdDV (U := UU) (.one (.sl .eVal b)) := hb _ (List.mem_cons_of_mem _ (List.mem_cons_self))
  have hl_b : b.length ≤ 9223372036854775807 := Bd.len hb_b
  clear hp hb
  rw [vc_spec_l3SameVals a b]
  dsimp only
  refine if_cond (fun h => Lf_f ?_) (fun h => ⟨?_, ?_⟩)
  · rintro rfl; simp at h
  · simp [I_spec_l3SameVals_4] at *; omega
  rintro ⟨i, ⟨⟩⟩ ⟨h1, h2, h3, hR⟩
  simp only at *
  refine if_cond (fun hc => ?_) (fun hc => ?_)
  · have hc : i < a.length := by simpa using hc
    rw [drop_step a zVal h1 hc, drop_step b zVal h1 (by omega)] at hR
    rw [wrap_i64 (by omega) (by omega)]
    simp only [val_beq]
    refine ⟨by omega, by omega, by omega, by omega, if_cond (fun h => Lf_f ?_) (fun h => ⟨⟨by omega, by omega, h3, ?_⟩, ?_⟩)⟩
    · rw [← hR]; simp at h; simp [h]
    · rw [← hR]; simp at h; simp [h]
    · simp only [μ_spec_l3SameVals_4]; omega
  · have hc : a.length ≤ i := by simpa using hc
    rw [drop_end a hc, drop_end b (by omega)] at hR
    exact Lf_t (hR.1 rfl)
def con_EqualVal : Con UU where
  α := (List DVal) × (List DVal)
  md := [.ro, .ro]
  of := fun | [.one (.sl .eVal a0), .one (.sl .eVal a1)] => some (a0, a1) | _ => none
  ds := fun (a, b) => [.one (.sl .eVal a), .one (.sl .eVal b)]
  pre := fun (a, b) => []
  res := fun (a, b) => ⟨[.one (.lit (.bool (decide (a = b))))], true, []⟩
  law := by intro l x h; (try simp only at h); split at h <;> cases h; rfl
def I_EqualVal_4 (a : (List DVal)) (b : (List DVal)) : Int × Unit → Prop := fun (i, _) => 0 ≤ i ∧ i ≤ a.length ∧ a.length = b.length ∧ (a.drop i.toNat = b.drop i.toNat ↔ a = b)
def μ_EqualVal_4 (a : (List DVal)) (b : (List DVal)) : Int × Unit → Nat := fun (i, _) => a.length - i.toNat
def ann_EqualVal : con_EqualVal.α → Nat → Option (Ann UU) := fun (a, b) => annL [(4, annOf [.slot 13 (13, 1024) (.lit (.int .i64))] (fun _ => I_EqualVal_4 a b) (μ_EqualVal_4 a b))]
def use_EqualVal : List (FuncId × Con UU) := []
theorem vc_EqualVal (a : (List DVal)) (b : (List DVal)) : goal EE use_EqualVal Go.Proofs.Tryz.f77 con_EqualVal ann_EqualVal (a, b) = (bif (↑(List.length a) : Int) != (↑(List.length b) : Int) then Lf [DV.one (Cell.lit (Value.bool false))] [DV.one (Cell.lit (Value.bool (decide (a = b))))]
else
  I_EqualVal_4 a b ((0 : Int), PUnit.unit) ∧
    ∀ (y : Int × PUnit),
      let x0 : DVal := List.getD a (Int.toNat y.1) zVal;
      let x1 : DVal := List.getD b (Int.toNat y.1) zVal;
      I_EqualVal_4 a b y → bif decide (y.1 < (↑(List.length a) : Int)) then (0 : Int) ≤ y.1 ∧ Int.toNat y.1 < List.length a ∧ (0 : Int) ≤ y.1 ∧ Int.toNat y.1 < List.length b ∧ bif !(x0.K == x1.K && (x0.N == x1.N && (ByteArray.toList x0.S == ByteArray.toList x1.S && true))) then Lf [DV.one (Cell.lit (Value.bool false))] [DV.one (Cell.lit (Value.bool (decide (a = b))))] else I_EqualVal_4 a b (IntKind.wrap IntKind.i64 (y.1 + (1 : Int)), PUnit.unit) ∧ μ_EqualVal_4 a b (IntKind.wrap IntKind.i64 (y.1 + (1 : Int)), PUnit.unit) < μ_EqualVal_4 a b y else Lf [DV.one (Cell.lit (Value.bool true))] [DV.one (Cell.lit (Value.bool (decide (a = b))))]) := by kernel_rfl
theorem ok_EqualVal : Holds EE (77, con_EqualVal) := by
  refine holds_of EE_ok Go.Proofs.Tryz.func77 con_EqualVal (by kernel_rfl) use_EqualVal all_nil ann_EqualVal (fun x hp hb => ?_)
  obtain ⟨a, b⟩ := x
  have hb_a : BdDV (U := UU) (.one (.sl .eVal a)) := hb _ (List.mem_cons_self)
  have hl_a : a.length ≤ 9223372036854775807 := Bd.len hb_a
  have hb_b : BdDV (U := UU) (.one (.sl .eVal b)) := hb _ (List.mem_cons_of_mem _ (List.mem_cons_self))
  have hl_b : b.length ≤ 9223372036854775807 := Bd.len hb_b
  clear hp hb
  rw [vc_EqualVal a b]
  dsimp only
  refine if_cond (fun h => Lf_f ?_) (fun h => ⟨?_, ?_⟩)
  · rintro rfl; simp at h
  · simp [I_EqualVal_4] at *; omega
  rintro ⟨i, ⟨⟩⟩ ⟨h1, h2, h3, hR⟩
  simp only at *
  refine if_cond (fun hc => ?_) (fun hc => ?_)
  · have hc : i < a.length := by simpa using hc
    rw [drop_step a zVal h1 hc, drop_step b zVal h1 (by omega)] at hR
    rw [wrap_i64 (by omega) (by omega)]
    simp only [val_beq]
    refine ⟨by omega, by omega, by omega, by omega, if_cond (fun h => Lf_f ?_) (fun h => ⟨⟨by omega, by omega, h3, ?_⟩, ?_⟩)⟩
    · rw [← hR]; simp at h; simp [h]
    · rw [← hR]; simp at h; simp [h]
    · simp only [μ_EqualVal_4]; omega
  · have hc : a.length ≤ i := by simpa using hc
    rw [drop_end a hc, drop_end b (by omega)] at hR
    exact Lf_t (hR.1 rfl)
def con_spec_SameFact : Con UU where
  α := DFact × DFact
  md := [.ro, .ro]
  of := fun | [.agg [.lit (.string a0), .sl .eVal a1], .agg [.lit (.string a2), .sl .eVal a3]] => some (⟨a0, a1⟩, ⟨a2, a3⟩) | _ => none
  ds := fun (a, b) => [.agg [.lit (.string a.Kind), .sl .eVal a.Fields], .agg [.lit (.string b.Kind), .sl .eVal b.Fields]]
  pre := fun (a, b) => []
  res := fun (a, b) => ⟨[.one (.lit (.bool (decide (a = b))))], true, []⟩
  law := by intro l x h; (try simp only at h); split at h <;> cases h; rfl
def ann_spec_SameFact : con_spec_SameFact.α → Nat → Option (Ann UU) := fun (a, b) => annL []
def use_spec_SameFact : List (FuncId × Con UU) := [(78, con_spec_l3SameVals)]
theorem vc_spec_SameFact (a : DFact) (b : DFact) : goal EE use_spec_SameFact Go.Proofs.Tryz.f56 con_spec_SameFact ann_spec_SameFact (a, b) = (bif ByteArray.toList a.Kind == ByteArray.toList b.Kind then Lf [DV.one (Cell.lit (Value.bool (decide (a.Fields = b.Fields))))] [DV.one (Cell.lit (Value.bool (decide (a = b))))] else Lf [DV.one (Cell.lit (Value.bool false))] [DV.one (Cell.lit (Value.bool (decide (a = b))))]) := by kernel_rfl
theorem ok_spec_SameFact : Holds EE (56, con_spec_SameFact) := by
  refine holds_of EE_ok Go.Proofs.Tryz.func56 con_spec_SameFact (by kernel_rfl) use_spec_SameFact (all_cons ok_spec_l3SameVals all_nil) ann_spec_SameFact (fun x hp hb => ?_)
  obtain ⟨a, b⟩ := x
  have hb_a : BdDV (U := UU) (.agg [.lit (.string a.Kind), .sl .eVal a.Fields]) := hb _ (List.mem_cons_self)
  have hl_a_Kind : a.Kind.size ≤ 9223372036854775807 := Bd.str (hb_a _ (by simp))
  have hl_a_Fields : a.Fields.length ≤ 9223372036854775807 := Bd.len (U := UU) (τ := .eVal) (xs := a.Fields) (hb_a _ (by simp))
  have hb_b : BdDV (U := UU) (.agg [.lit (.string b.Kind), .sl .eVal b.Fields]) := hb _ (List.mem_cons_of_mem _ (List.mem_cons_self))
  have hl_b_Kind : b.Kind.size ≤ 9223372036854775807 := Bd.str (hb_b _ (by simp))
  have hl_b_Fields : b.Fields.length ≤ 9223372036854775807 := Bd.len (U := UU) (τ := .eVal) (xs := b.Fields) (hb_b _ (by simp))
  clear hp hb
  rw [vc_spec_SameFact a b]
  simp only [toList_beq]
  refine if_cond (fun h => Lf_b ?_) (fun h => Lf_b ?_) <;> (simp only [fact_ext]; grind)
def con_impl_SameFact : Con UU where
  α := DFact × DFact
  md := [.ro, .ro]
  of := fun | [.agg [.lit (.string a0), .sl .eVal a1], .agg [.lit (.string a2), .sl .eVal a3]] => some (⟨a0, a1⟩, ⟨a2, a3⟩) | _ => none
  ds := fun (a, b) => [.agg [.lit (.string a.Kind), .sl .eVal a.Fields], .agg [.lit (.string b.Kind), .sl .eVal b.Fields]]
  pre := fun (a, b) => []
  res := fun (a, b) => ⟨[.one (.lit (.bool (decide (a = b))))], true, []⟩
  law := by intro l x h; (try simp only at h); split at h <;> cases h; rfl
def ann_impl_SameFact : con_impl_SameFact.α → Nat → Option (Ann UU) := fun (a, b) => annL []
def use_impl_SameFact : List (FuncId × Con UU) := [(77, con_EqualVal)]
theorem vc_impl_SameFact (a : DFact) (b : DFact) : goal EE use_impl_SameFact Go.Proofs.Tryz.f54 con_impl_SameFact ann_impl_SameFact (a, b) = (bif ByteArray.toList a.Kind == ByteArray.toList b.Kind then Lf [DV.one (Cell.lit (Value.bool (decide (a.Fields = b.Fields))))] [DV.one (Cell.lit (Value.bool (decide (a = b))))] else Lf [DV.one (Cell.lit (Value.bool false))] [DV.one (Cell.lit (Value.bool (decide (a = b))))]) := by kernel_rfl
theorem ok_impl_SameFact : Holds EE (54, con_impl_SameFact) := by
  refine holds_of EE_ok Go.Proofs.Tryz.func54 con_impl_SameFact (by kernel_rfl) use_impl_SameFact (all_cons ok_EqualVal all_nil) ann_impl_SameFact (fun x hp hb => ?_)
  obtain ⟨a, b⟩ := x
  have hb_a : BdDV (U := UU) (.agg [.lit (.string a.Kind), .sl .eVal a.Fields]) := hb _ (List.mem_cons_self)
  have hl_a_Kind : a.Kind.size ≤ 9223372036854775807 := Bd.str (hb_a _ (by simp))
  have hl_a_Fields : a.Fields.length ≤ 9223372036854775807 := Bd.len (U := UU) (τ := .eVal) (xs := a.Fields) (hb_a _ (by simp))
  have hb_b : BdDV (U := UU) (.agg [.lit (.string b.Kind), .sl .eVal b.Fields]) := hb _ (List.mem_cons_of_mem _ (List.mem_cons_self))
  have hl_b_Kind : b.Kind.size ≤ 9223372036854775807 := Bd.str (hb_b _ (by simp))
  have hl_b_Fields : b.Fields.length ≤ 9223372036854775807 := Bd.len (U := UU) (τ := .eVal) (xs := b.Fields) (hb_b _ (by simp))
  clear hp hb
  rw [vc_impl_SameFact a b]
  simp only [toList_beq]
  refine if_cond (fun h => Lf_b ?_) (fun h => Lf_b ?_) <;> (simp only [fact_ext]; grind)
def con_spec_l18Undo : Con UU where
  α := ByteArray
  md := [.ro]
  of := fun | [.one (.lit (.string a0))] => some a0 | _ => none
  ds := fun s => [.one (.lit (.string s))]
  pre := fun s => []
  res := fun s => ⟨[.one (.lit (.bool (undoOk s)))], true, []⟩
  law := by intro l x h; (try simp only at h); split at h <;> cases h; rfl
def ann_spec_l18Undo : con_spec_l18Undo.α → Nat → Option (Ann UU) := fun s => annL []
def use_spec_l18Undo : List (FuncId × Con UU) := [(66, con_spec_NameOk)]
theorem vc_spec_l18Undo (s : ByteArray) : goal EE use_spec_l18Undo Go.Proofs.Tryz.f39 con_spec_l18Undo ann_spec_l18Undo s = (bif ByteArray.toList s == ByteArray.toList { data := #[] : ByteArray } then Lf [DV.one (Cell.lit (Value.bool true))] [DV.one (Cell.lit (Value.bool (undoOk s)))] else Lf [DV.one (Cell.lit (Value.bool (nameOk s)))] [DV.one (Cell.lit (Value.bool (undoOk s)))]) := by kernel_rfl
theorem ok_spec_l18Undo : Holds EE (39, con_spec_l18Undo) := by
  refine holds_of EE_ok Go.Proofs.Tryz.func39 con_spec_l18Undo (by kernel_rfl) use_spec_l18Undo (all_cons ok_spec_NameOk all_nil) ann_spec_l18Undo (fun (s : ByteArray) hp hb => ?_)
  have hb_s : BdDV (U := UU) (.one (.lit (.string s))) := hb _ (List.mem_cons_self)
  have hl_s : s.size ≤ 9223372036854775807 := Bd.str hb_s
  clear hp hb
  rw [vc_spec_l18Undo s]
  have e : (ByteArray.toList s == ByteArray.toList { data := #[] }) = decide (s = noBytes) := toList_beq _ _
  simp only [e, undoOk]
  refine if_cond (fun h => Lf_b ?_) (fun h => Lf_b ?_) <;> grind
def con_impl_isUndo : Con UU where
  α := ByteArray
  md := [.ro]
  of := fun | [.one (.lit (.string a0))] => some a0 | _ => none
  ds := fun s => [.one (.lit (.string s))]
  pre := fun s => []
  res := fun s => ⟨[.one (.lit (.bool (undoOk s)))], true, []⟩
  law := by intro l x h; (try simp only at h); split at h <;> cases h; rfl
def ann_impl_isUndo : con_impl_isUndo.α → Nat → Option (Ann UU) := fun s => annL []
def use_impl_isUndo : List (FuncId × Con UU) := [(62, con_impl_NameOk)]
theorem vc_impl_isUndo (s : ByteArray) : goal EE use_impl_isUndo Go.Proofs.Tryz.f33 con_impl_isUndo ann_impl_isUndo s = (bif ByteArray.toList s == ByteArray.toList { data := #[] : ByteArray } then Lf [DV.one (Cell.lit (Value.bool true))] [DV.one (Cell.lit (Value.bool (undoOk s)))] else Lf [DV.one (Cell.lit (Value.bool (nameOk s)))] [DV.one (Cell.lit (Value.bool (undoOk s)))]) := by kernel_rfl
theorem ok_impl_isUndo : Holds EE (33, con_impl_isUndo) := by
  refine holds_of EE_ok Go.Proofs.Tryz.func33 con_impl_isUndo (by kernel_rfl) use_impl_isUndo (all_cons ok_impl_NameOk all_nil) ann_impl_isUndo (fun (s : ByteArray) hp hb => ?_)
  have hb_s : BdDV (U := UU) (.one (.lit (.string s))) := hb _ (List.mem_cons_self)
  have hl_s : s.size ≤ 9223372036854775807 := Bd.str hb_s
  clear hp hb
  rw [vc_impl_isUndo s]
  have e : (ByteArray.toList s == ByteArray.toList { data := #[] }) = decide (s = noBytes) := toList_beq _ _
  simp only [e, undoOk]
  refine if_cond (fun h => Lf_b ?_) (fun h => Lf_b ?_) <;> grind
def con_spec_l18Task : Con UU where
  α := DTask
  md := [.ro]
  of := fun | [.agg [.lit (.string a0), .sl .eVal a1, .lit (.string a2), .lit (.int .i64 a3), .lit (.int .i64 a4), .lit (.int .i64 a5), .lit (.int .i64 a6), .lit (.int .i64 a7), .lit (.string a8)]] => some ⟨⟨a0, a1⟩, a2, a3, a4, a5, ⟨a6, a7, a8⟩⟩ | _ => none
  ds := fun t => [.agg [.lit (.string t.F.Kind), .sl .eVal t.F.Fields, .lit (.string t.Undo), .lit (.int .i64 t.State), .lit (.int .i64 t.Tries), .lit (.int .i64 t.Due), .lit (.int .i64 t.V.K), .lit (.int .i64 t.V.N), .lit (.string t.V.S)]]
  pre := fun t => []
  res := fun t => ⟨[.one (.lit (.bool (taskOk t)))], true, []⟩
  law := by intro l x h; (try simp only at h); split at h <;> cases h; rfl
def ann_spec_l18Task : con_spec_l18Task.α → Nat → Option (Ann UU) := fun t => annL []
def use_spec_l18Task : List (FuncId × Con UU) := [(38, con_spec_FactOk), (39, con_spec_l18Undo), (40, con_spec_l1In), (49, con_spec_ValOk)]
theorem vc_spec_l18Task (t : DTask) : goal EE use_spec_l18Task Go.Proofs.Tryz.f55 con_spec_l18Task ann_spec_l18Task t = (bif !factOk t.F then Lf [DV.one (Cell.lit (Value.bool false))] [DV.one (Cell.lit (Value.bool (taskOk t)))] else bif !undoOk t.Undo then Lf [DV.one (Cell.lit (Value.bool false))] [DV.one (Cell.lit (Value.bool (taskOk t)))] else bif !decide ((1 : Int) ≤ t.State ∧ t.State ≤ (4 : Int)) then Lf [DV.one (Cell.lit (Value.bool false))] [DV.one (Cell.lit (Value.bool (taskOk t)))] else bif !decide ((0 : Int) ≤ t.Tries ∧ t.Tries ≤ (4 : Int)) then Lf [DV.one (Cell.lit (Value.bool false))] [DV.one (Cell.lit (Value.bool (taskOk t)))] else bif !decide ((0 : Int) ≤ t.Due ∧ t.Due ≤ (1000001000 : Int)) then Lf [DV.one (Cell.lit (Value.bool false))] [DV.one (Cell.lit (Value.bool (taskOk t)))] else bif !(t.V.K == (0 : Int) && (t.V.N == (0 : Int) && (ByteArray.toList t.V.S == ByteArray.toList { data := #[] : ByteArray } && true))) then bif !valOk t.V then Lf [DV.one (Cell.lit (Value.bool false))] [DV.one (Cell.lit (Value.bool (taskOk t)))] else bif t.State != (1 : Int) then bif t.State != (2 : Int) then Lf [DV.one (Cell.lit (Value.bool true))] [DV.one (Cell.lit (Value.bool (taskOk t)))] else Lf [DV.one (Cell.lit (Value.bool ((t.State == (1 : Int)) == (t.Tries == (0 : Int)))))] [DV.one (Cell.lit (Value.bool (taskOk t)))] else Lf [DV.one (Cell.lit (Value.bool ((t.State == (1 : Int)) == (t.Tries == (0 : Int)))))] [DV.one (Cell.lit (Value.bool (taskOk t)))] else bif t.State != (1 : Int) then bif t.State != (2 : Int) then Lf [DV.one (Cell.lit (Value.bool true))] [DV.one (Cell.lit (Value.bool (taskOk t)))] else Lf [DV.one (Cell.lit (Value.bool ((t.State == (1 : Int)) == (t.Tries == (0 : Int)))))] [DV.one (Cell.lit (Value.bool (taskOk t)))] else Lf [DV.one (Cell.lit (Value.bool ((t.State == (1 : Int)) == (t.Tries == (0 : Int)))))] [DV.one (Cell.lit (Value.bool (taskOk t)))]) := by kernel_rfl
theorem ok_spec_l18Task : Holds EE (55, con_spec_l18Task) := by
  refine holds_of EE_ok Go.Proofs.Tryz.func55 con_spec_l18Task (by kernel_rfl) use_spec_l18Task (all_cons ok_spec_FactOk (all_cons ok_spec_l18Undo (all_cons ok_spec_l1In (all_cons ok_spec_ValOk all_nil)))) ann_spec_l18Task (fun (t : DTask) hp hb => ?_)
  have hb_t : BdDV (U := UU) (.agg [.lit (.string t.F.Kind), .sl .eVal t.F.Fields, .lit (.string t.Undo), .lit (.int .i64 t.State), .lit (.int .i64 t.Tries), .lit (.int .i64 t.Due), .lit (.int .i64 t.V.K), .lit (.int .i64 t.V.N), .lit (.string t.V.S)]) := hb _ (List.mem_cons_self)
  have hl_t_F_Kind : t.F.Kind.size ≤ 9223372036854775807 := Bd.str (hb_t _ (by simp))
  have hl_t_F_Fields : t.F.Fields.length ≤ 9223372036854775807 := Bd.len (U := UU) (τ := .eVal) (xs := t.F.Fields) (hb_t _ (by simp))
  have hl_t_Undo : t.Undo.size ≤ 9223372036854775807 := Bd.str (hb_t _ (by simp))
  have hl_t_V_S : t.V.S.size ≤ 9223372036854775807 := Bd.str (hb_t _ (by simp))
  clear hp hb
  rw [vc_spec_l18Task t]
  have e : ∀ v : DVal, (v.K == 0 && (v.N == 0 && (ByteArray.toList v.S == ByteArray.toList { data := #[] } && true))) = decide (v = zVal) := fun v => val_beq v zVal
  simp only [e]
  simp only [taskOk]
  repeat' (refine if_cond (fun h => ?_) (fun h => ?_))
  all_goals (refine Lf_b ?_; grind)
def con_impl_taskOk : Con UU where
  α := DTask
  md := [.ro]
  of := fun | [.agg [.lit (.string a0), .sl .eVal a1, .lit (.string a2), .lit (.int .i64 a3), .lit (.int .i64 a4), .lit (.int .i64 a5), .lit (.int .i64 a6), .lit (.int .i64 a7), .lit (.string a8)]] => some ⟨⟨a0, a1⟩, a2, a3, a4, a5, ⟨a6, a7, a8⟩⟩ | _ => none
  ds := fun t => [.agg [.lit (.string t.F.Kind), .sl .eVal t.F.Fields, .lit (.string t.Undo), .lit (.int .i64 t.State), .lit (.int .i64 t.Tries), .lit (.int .i64 t.Due), .lit (.int .i64 t.V.K), .lit (.int .i64 t.V.N), .lit (.string t.V.S)]]
  pre := fun t => []
  res := fun t => ⟨[.one (.lit (.bool (taskOk t)))], true, []⟩
  law := by intro l x h; (try simp only at h); split at h <;> cases h; rfl
def ann_impl_taskOk : con_impl_taskOk.α → Nat → Option (Ann UU) := fun t => annL []
def use_impl_taskOk : List (FuncId × Con UU) := [(32, con_impl_FactOk), (33, con_impl_isUndo), (63, con_impl_inRange), (48, con_impl_ValOk)]
theorem vc_impl_taskOk (t : DTask) : goal EE use_impl_taskOk Go.Proofs.Tryz.f45 con_impl_taskOk ann_impl_taskOk t = (bif !factOk t.F then Lf [DV.one (Cell.lit (Value.bool false))] [DV.one (Cell.lit (Value.bool (taskOk t)))] else bif !undoOk t.Undo then Lf [DV.one (Cell.lit (Value.bool false))] [DV.one (Cell.lit (Value.bool (taskOk t)))] else bif !decide ((1 : Int) ≤ t.State ∧ t.State ≤ (4 : Int)) then Lf [DV.one (Cell.lit (Value.bool false))] [DV.one (Cell.lit (Value.bool (taskOk t)))] else bif !decide ((0 : Int) ≤ t.Tries ∧ t.Tries ≤ (4 : Int)) then Lf [DV.one (Cell.lit (Value.bool false))] [DV.one (Cell.lit (Value.bool (taskOk t)))] else bif t.State == (1 : Int) then bif t.Tries != (0 : Int) then Lf [DV.one (Cell.lit (Value.bool false))] [DV.one (Cell.lit (Value.bool (taskOk t)))] else bif t.State == (2 : Int) then bif t.Tries == (0 : Int) then Lf [DV.one (Cell.lit (Value.bool false))] [DV.one (Cell.lit (Value.bool (taskOk t)))] else bif decide ((0 : Int) ≤ t.Due ∧ t.Due ≤ (1000001000 : Int)) then bif t.V.K == (0 : Int) && (t.V.N == (0 : Int) && (ByteArray.toList t.V.S == ByteArray.toList { data := #[] : ByteArray } && true)) then Lf [DV.one (Cell.lit (Value.bool true))] [DV.one (Cell.lit (Value.bool (taskOk t)))] else Lf [DV.one (Cell.lit (Value.bool (valOk t.V)))] [DV.one (Cell.lit (Value.bool (taskOk t)))] else Lf [DV.one (Cell.lit (Value.bool false))] [DV.one (Cell.lit (Value.bool (taskOk t)))] else bif decide ((0 : Int) ≤ t.Due ∧ t.Due ≤ (1000001000 : Int)) then bif t.V.K == (0 : Int) && (t.V.N == (0 : Int) && (ByteArray.toList t.V.S == ByteArray.toList { data := #[] : ByteArray } && true)) then Lf [DV.one (Cell.lit (Value.bool true))] [DV.one (Cell.lit (Value.bool (taskOk t)))] else Lf [DV.one (Cell.lit (Value.bool (valOk t.V)))] [DV.one (Cell.lit (Value.bool (taskOk t)))] else Lf [DV.one (Cell.lit (Value.bool false))] [DV.one (Cell.lit (Value.bool (taskOk t)))] else bif t.State == (2 : Int) then bif t.Tries == (0 : Int) then Lf [DV.one (Cell.lit (Value.bool false))] [DV.one (Cell.lit (Value.bool (taskOk t)))] else bif decide ((0 : Int) ≤ t.Due ∧ t.Due ≤ (1000001000 : Int)) then bif t.V.K == (0 : Int) && (t.V.N == (0 : Int) && (ByteArray.toList t.V.S == ByteArray.toList { data := #[] : ByteArray } && true)) then Lf [DV.one (Cell.lit (Value.bool true))] [DV.one (Cell.lit (Value.bool (taskOk t)))] else Lf [DV.one (Cell.lit (Value.bool (valOk t.V)))] [DV.one (Cell.lit (Value.bool (taskOk t)))] else Lf [DV.one (Cell.lit (Value.bool false))] [DV.one (Cell.lit (Value.bool (taskOk t)))] else bif decide ((0 : Int) ≤ t.Due ∧ t.Due ≤ (1000001000 : Int)) then bif t.V.K == (0 : Int) && (t.V.N == (0 : Int) && (ByteArray.toList t.V.S == ByteArray.toList { data := #[] : ByteArray } && true)) then Lf [DV.one (Cell.lit (Value.bool true))] [DV.one (Cell.lit (Value.bool (taskOk t)))] else Lf [DV.one (Cell.lit (Value.bool (valOk t.V)))] [DV.one (Cell.lit (Value.bool (taskOk t)))] else Lf [DV.one (Cell.lit (Value.bool false))] [DV.one (Cell.lit (Value.bool (taskOk t)))]) := by kernel_rfl
theorem ok_impl_taskOk : Holds EE (45, con_impl_taskOk) := by
  refine holds_of EE_ok Go.Proofs.Tryz.func45 con_impl_taskOk (by kernel_rfl) use_impl_taskOk (all_cons ok_impl_FactOk (all_cons ok_impl_isUndo (all_cons ok_impl_inRange (all_cons ok_impl_ValOk all_nil)))) ann_impl_taskOk (fun (t : DTask) hp hb => ?_)
  have hb_t : BdDV (U := UU) (.agg [.lit (.string t.F.Kind), .sl .eVal t.F.Fields, .lit (.string t.Undo), .lit (.int .i64 t.State), .lit (.int .i64 t.Tries), .lit (.int .i64 t.Due), .lit (.int .i64 t.V.K), .lit (.int .i64 t.V.N), .lit (.string t.V.S)]) := hb _ (List.mem_cons_self)
  have hl_t_F_Kind : t.F.Kind.size ≤ 9223372036854775807 := Bd.str (hb_t _ (by simp))
  have hl_t_F_Fields : t.F.Fields.length ≤ 9223372036854775807 := Bd.len (U := UU) (τ := .eVal) (xs := t.F.Fields) (hb_t _ (by simp))
  have hl_t_Undo : t.Undo.size ≤ 9223372036854775807 := Bd.str (hb_t _ (by simp))
  have hl_t_V_S : t.V.S.size ≤ 9223372036854775807 := Bd.str (hb_t _ (by simp))
  clear hp hb
  rw [vc_impl_taskOk t]
  have e : ∀ v : DVal, (v.K == 0 && (v.N == 0 && (ByteArray.toList v.S == ByteArray.toList { data := #[] } && true))) = decide (v = zVal) := fun v => val_beq v zVal
  simp only [e]
  simp only [taskOk]
  repeat' (refine if_cond (fun h => ?_) (fun h => ?_))
  all_goals (refine Lf_b ?_; grind)
def con_IndexFuncTask : Con UU where
  α := (List DTask) × (List (DA UU) → Option Value)
  md := [.ro, .ro]
  of := fun | [.one (.sl .eTask a0), .fn a1] => some (a0, a1) | _ => none
  ds := fun (l, p) => [.one (.sl .eTask l), .fn p]
  pre := fun (l, p) => [∀ j : Nat, j < l.length → p [daTask (List.getD l j zTask)] = some (.bool (boolOf (p [daTask (List.getD l j zTask)])))]
  res := fun (l, p) => ⟨[.one (.lit (.int .i64 (idxI l.length (fun j => boolOf (p [daTask (List.getD l j zTask)])))))], true, []⟩
  law := by intro l x h; (try simp only at h); split at h <;> cases h; rfl
def I_IndexFuncTask_2 (l : (List DTask)) (p : (List (DA UU) → Option Value)) : Int × Unit → Prop := fun (i, _) => 0 ≤ i ∧ i ≤ l.length ∧ ∀ j : Nat, (j : Int) < i → boolOf (p [daTask (List.getD l j zTask)]) = false
def μ_IndexFuncTask_2 (l : (List DTask)) (p : (List (DA UU) → Option Value)) : Int × Unit → Nat := fun (i, _) => l.length - i.toNat
def ann_IndexFuncTask : con_IndexFuncTask.α → Nat → Option (Ann UU) := fun (l, p) => annL [(2, annOf [.slot 8 (8, 1024) (.lit (.int .i64))] (fun _ => I_IndexFuncTask_2 l p) (μ_IndexFuncTask_2 l p))]
def use_IndexFuncTask : List (FuncId × Con UU) := []
theorem vc_IndexFuncTask (l : (List DTask)) (p : (List (DA UU) → Option Value)) : goal EE use_IndexFuncTask Go.Proofs.Tryz.f42 con_IndexFuncTask ann_IndexFuncTask (l, p) = (I_IndexFuncTask_2 l p ((0 : Int), PUnit.unit) ∧
  ∀ (y : Int × PUnit),
    let x0 : Bool := boolOf (p [{ agg := true, cs := [Cell.lit (Value.string (List.getD l (Int.toNat y.1) zTask).F.Kind), Cell.sl Cd.eVal (List.getD l (Int.toNat y.1) zTask).F.Fields, Cell.lit (Value.string (List.getD l (Int.toNat y.1) zTask).Undo), Cell.lit (Value.int IntKind.i64 (List.getD l (Int.toNat y.1) zTask).State), Cell.lit (Value.int IntKind.i64 (List.getD l (Int.toNat y.1) zTask).Tries), Cell.lit (Value.int IntKind.i64 (List.getD l (Int.toNat y.1) zTask).Due), Cell.lit (Value.int IntKind.i64 (List.getD l (Int.toNat y.1) zTask).V.K), Cell.lit (Value.int IntKind.i64 (List.getD l (Int.toNat y.1) zTask).V.N), Cell.lit (Value.string (List.getD l (Int.toNat y.1) zTask).V.S)] : DA UU }]);
    let x1 : DTask := List.getD l (Int.toNat y.1) zTask;
    I_IndexFuncTask_2 l p y → bif decide (y.1 < (↑(List.length l) : Int)) then (0 : Int) ≤ y.1 ∧ Int.toNat y.1 < List.length l ∧ p [{ agg := true, cs := [Cell.lit (Value.string x1.F.Kind), Cell.sl Cd.eVal x1.F.Fields, Cell.lit (Value.string x1.Undo), Cell.lit (Value.int IntKind.i64 x1.State), Cell.lit (Value.int IntKind.i64 x1.Tries), Cell.lit (Value.int IntKind.i64 x1.Due), Cell.lit (Value.int IntKind.i64 x1.V.K), Cell.lit (Value.int IntKind.i64 x1.V.N), Cell.lit (Value.string x1.V.S)] : DA UU }] = some (Value.bool x0) ∧ bif x0 then Lf [DV.one (Cell.lit (Value.int IntKind.i64 y.1))] [DV.one (Cell.lit (Value.int IntKind.i64 (idxI (List.length l) fun (j : Nat) => boolOf (p [daTask (List.getD l j zTask)]))))] else I_IndexFuncTask_2 l p (IntKind.wrap IntKind.i64 (y.1 + (1 : Int)), PUnit.unit) ∧ μ_IndexFuncTask_2 l p (IntKind.wrap IntKind.i64 (y.1 + (1 : Int)), PUnit.unit) < μ_IndexFuncTask_2 l p y else Lf [DV.one (Cell.lit (Value.int IntKind.i64 (-1 : Int)))] [DV.one (Cell.lit (Value.int IntKind.i64 (idxI (List.length l) fun (j : Nat) => boolOf (p [daTask (List.getD l j zTask)]))))]) := by kernel_rfl
theorem ok_IndexFuncTask : Holds EE (42, con_IndexFuncTask) := by
  refine holds_of EE_ok Go.Proofs.Tryz.func42 con_IndexFuncTask (by kernel_rfl) use_IndexFuncTask all_nil ann_IndexFuncTask (fun x hp hb => ?_)
  obtain ⟨l, p⟩ := x
  have hb_l : BdDV (U := UU) (.one (.sl .eTask l)) := hb _ (List.mem_cons_self)
  have hl_l : l.length ≤ 9223372036854775807 := Bd.len hb_l
  have hp0 : ∀ j : Nat, j < l.length → p [daTask (List.getD l j zTask)] = some (.bool (boolOf (p [daTask (List.getD l j zTask)]))) := hp _ (List.mem_cons_self)
  clear hp hb
  rw [vc_IndexFuncTask l p]
  dsimp only
  refine ⟨⟨by omega, by omega, by intro j hj; omega⟩, ?_⟩
  rintro ⟨i, ⟨⟩⟩ ⟨h1, h2, hR⟩
  simp only [daTask] at *
  refine if_cond (fun hc => ?_) (fun hc => ?_)
  · have hc := of_decide_eq_true hc
    rw [wrap_i64 (by omega) (by omega)]
    refine ⟨by omega, by omega, hp0 i.toNat (by omega), if_cond (fun h => Lf_i ?_) (fun h => ⟨⟨by omega, by omega, upto_no (p := fun j => boolOf (p [daTask (List.getD l j zTask)])) h1 hR h⟩, by simp only [μ_IndexFuncTask_2]; omega⟩)⟩
    rw [idxI_found (i := i.toNat) (by omega) h (fun j hj => hR j (by omega))]
    omega
  · have hc := of_decide_eq_false hc
    exact Lf_i (idxI_none (fun j hj => hR j (by omega))).symm
def con_impl_placeOfTask_1 : Con UU where
  α := DTask × DFact
  md := [.ro, .ro]
  of := fun | [.agg [.lit (.string a0), .sl .eVal a1, .lit (.string a2), .lit (.int .i64 a3), .lit (.int .i64 a4), .lit (.int .i64 a5), .lit (.int .i64 a6), .lit (.int .i64 a7), .lit (.string a8)], .ptr [.lit (.string a9), .sl .eVal a10]] => some (⟨⟨a0, a1⟩, a2, a3, a4, a5, ⟨a6, a7, a8⟩⟩, ⟨a9, a10⟩) | _ => none
  ds := fun (t, f) => [.agg [.lit (.string t.F.Kind), .sl .eVal t.F.Fields, .lit (.string t.Undo), .lit (.int .i64 t.State), .lit (.int .i64 t.Tries), .lit (.int .i64 t.Due), .lit (.int .i64 t.V.K), .lit (.int .i64 t.V.N), .lit (.string t.V.S)], .ptr [.lit (.string f.Kind), .sl .eVal f.Fields]]
  pre := fun (t, f) => []
  res := fun (t, f) => ⟨[.one (.lit (.bool (decide (t.F = f))))], true, []⟩
  law := by intro l x h; (try simp only at h); split at h <;> cases h; rfl
def ann_impl_placeOfTask_1 : con_impl_placeOfTask_1.α → Nat → Option (Ann UU) := fun (t, f) => annL []
def use_impl_placeOfTask_1 : List (FuncId × Con UU) := [(54, con_impl_SameFact)]
theorem vc_impl_placeOfTask_1 (t : DTask) (f : DFact) : goal EE use_impl_placeOfTask_1 Go.Proofs.Tryz.f64 con_impl_placeOfTask_1 ann_impl_placeOfTask_1 (t, f) = (Lf [DV.one (Cell.lit (Value.bool (decide (t.F = f))))] [DV.one (Cell.lit (Value.bool (decide (t.F = f))))]) := by kernel_rfl
theorem ok_impl_placeOfTask_1 : Holds EE (64, con_impl_placeOfTask_1) := by
  refine holds_of EE_ok Go.Proofs.Tryz.func64 con_impl_placeOfTask_1 (by kernel_rfl) use_impl_placeOfTask_1 (all_cons ok_impl_SameFact all_nil) ann_impl_placeOfTask_1 (fun x hp hb => ?_)
  obtain ⟨t, f⟩ := x
  have hb_t : BdDV (U := UU) (.agg [.lit (.string t.F.Kind), .sl .eVal t.F.Fields, .lit (.string t.Undo), .lit (.int .i64 t.State), .lit (.int .i64 t.Tries), .lit (.int .i64 t.Due), .lit (.int .i64 t.V.K), .lit (.int .i64 t.V.N), .lit (.string t.V.S)]) := hb _ (List.mem_cons_self)
  have hl_t_F_Kind : t.F.Kind.size ≤ 9223372036854775807 := Bd.str (hb_t _ (by simp))
  have hl_t_F_Fields : t.F.Fields.length ≤ 9223372036854775807 := Bd.len (U := UU) (τ := .eVal) (xs := t.F.Fields) (hb_t _ (by simp))
  have hl_t_Undo : t.Undo.size ≤ 9223372036854775807 := Bd.str (hb_t _ (by simp))
  have hl_t_V_S : t.V.S.size ≤ 9223372036854775807 := Bd.str (hb_t _ (by simp))
  have hb_f : BdDV (U := UU) (.ptr [.lit (.string f.Kind), .sl .eVal f.Fields]) := hb _ (List.mem_cons_of_mem _ (List.mem_cons_self))
  have hl_f_Kind : f.Kind.size ≤ 9223372036854775807 := Bd.str (hb_f _ (by simp))
  have hl_f_Fields : f.Fields.length ≤ 9223372036854775807 := Bd.len (U := UU) (τ := .eVal) (xs := f.Fields) (hb_f _ (by simp))
  clear hp hb
  rw [vc_impl_placeOfTask_1 t f]
  exact Lf_rfl _
def con_impl_placeOfTask : Con UU where
  α := (List DTask) × DFact
  md := [.ro, .ro]
  of := fun | [.one (.sl .eTask a0), .agg [.lit (.string a1), .sl .eVal a2]] => some (a0, ⟨a1, a2⟩) | _ => none
  ds := fun (l, f) => [.one (.sl .eTask l), .agg [.lit (.string f.Kind), .sl .eVal f.Fields]]
  pre := fun (l, f) => []
  res := fun (l, f) => ⟨[.one (.lit (.int .i64 (placeOf l f)))], true, []⟩
  law := by intro l x h; (try simp only at h); split at h <;> cases h; rfl
def ann_impl_placeOfTask : con_impl_placeOfTask.α → Nat → Option (Ann UU) := fun (l, f) => annL []
def use_impl_placeOfTask : List (FuncId × Con UU) := [(42, con_IndexFuncTask), (64, con_impl_placeOfTask_1)]
theorem vc_impl_placeOfTask (l : (List DTask)) (f : DFact) : goal EE use_impl_placeOfTask Go.Proofs.Tryz.f35 con_impl_placeOfTask ann_impl_placeOfTask (l, f) = ((∀ (j : Nat), j < List.length l → closP con_impl_placeOfTask_1 [DV.ptr [Cell.lit (Value.string f.Kind), Cell.sl Cd.eVal f.Fields]] [daTask (List.getD l j zTask)] = some (Value.bool (boolOf (closP con_impl_placeOfTask_1 [DV.ptr [Cell.lit (Value.string f.Kind), Cell.sl Cd.eVal f.Fields]] [daTask (List.getD l j zTask)])))) ∧ Lf [DV.one (Cell.lit (Value.int IntKind.i64 (idxI (List.length l) fun (j : Nat) => boolOf (closP con_impl_placeOfTask_1 [DV.ptr [Cell.lit (Value.string f.Kind), Cell.sl Cd.eVal f.Fields]] [daTask (List.getD l j zTask)]))))] [DV.one (Cell.lit (Value.int IntKind.i64 (placeOf l f)))]) := by kernel_rfl
theorem ok_impl_placeOfTask : Holds EE (35, con_impl_placeOfTask) := by
  refine holds_of EE_ok Go.Proofs.Tryz.func35 con_impl_placeOfTask (by kernel_rfl) use_impl_placeOfTask (all_cons ok_IndexFuncTask (all_cons ok_impl_placeOfTask_1 all_nil)) ann_impl_placeOfTask (fun x hp hb => ?_)
  obtain ⟨l, f⟩ := x
  have hb_l : BdDV (U := UU) (.one (.sl .eTask l)) := hb _ (List.mem_cons_self)
  have hl_l : l.length ≤ 9223372036854775807 := Bd.len hb_l
  have hb_f : BdDV (U := UU) (.agg [.lit (.string f.Kind), .sl .eVal f.Fields]) := hb _ (List.mem_cons_of_mem _ (List.mem_cons_self))
  have hl_f_Kind : f.Kind.size ≤ 9223372036854775807 := Bd.str (hb_f _ (by simp))
  have hl_f_Fields : f.Fields.length ≤ 9223372036854775807 := Bd.len (U := UU) (τ := .eVal) (xs := f.Fields) (hb_f _ (by simp))
  clear hp hb
  rw [vc_impl_placeOfTask l f]
  have hc : ∀ x : DTask, closP con_impl_placeOfTask_1 [.ptr [.lit (.string f.Kind), .sl .eVal f.Fields]] [daTask x] = some (.bool (decide (x.F = f))) := fun x => closP_of (x := (x, f)) rfl rfl rfl rfl (by simp [con_impl_placeOfTask_1])
  refine ⟨fun j hj => ?_, Lf_i ?_⟩
  · show closP con_impl_placeOfTask_1 [.ptr [.lit (.string f.Kind), .sl .eVal f.Fields]] [daTask (List.getD l j zTask)] = _
    rw [hc]; rfl
  · exact idxI_congr fun j hj => by
      show boolOf (closP con_impl_placeOfTask_1 [.ptr [.lit (.string f.Kind), .sl .eVal f.Fields]] [daTask (List.getD l j zTask)]) = _
      rw [hc]; rfl
def con_impl_TasksOk : Con UU where
  α := (List DTask)
  md := [.ro]
  of := fun | [.one (.sl .eTask a0)] => some a0 | _ => none
  ds := fun l => [.one (.sl .eTask l)]
  pre := fun l => []
  res := fun l => ⟨[.one (.lit (.bool (tasksOk l)))], true, []⟩
  law := by intro l x h; (try simp only at h); split at h <;> cases h; rfl
def I_impl_TasksOk_4 (l : (List DTask)) : Int × Unit → Prop := fun (i, _) => 0 ≤ i ∧ i ≤ l.length ∧ l.length ≤ 30 ∧ ∀ j : Nat, (j : Int) < i → taskAt l j = true
def μ_impl_TasksOk_4 (l : (List DTask)) : Int × Unit → Nat := fun (i, _) => l.length - i.toNat
def ann_impl_TasksOk : con_impl_TasksOk.α → Nat → Option (Ann UU) := fun l => annL [(4, annOf [.slot 10 (10, 1024) (.lit (.int .i64))] (fun _ => I_impl_TasksOk_4 l) (μ_impl_TasksOk_4 l))]
def use_impl_TasksOk : List (FuncId × Con UU) := [(45, con_impl_taskOk), (35, con_impl_placeOfTask)]
theorem vc_impl_TasksOk (l : (List DTask)) : goal EE use_impl_TasksOk Go.Proofs.Tryz.f13 con_impl_TasksOk ann_impl_TasksOk l = (let x0 : Int := (↑(List.length l) : Int);
bif decide (x0 > (30 : Int)) then Lf [DV.one (Cell.lit (Value.bool false))] [DV.one (Cell.lit (Value.bool (tasksOk l)))] else I_impl_TasksOk_4 l ((0 : Int), PUnit.unit) ∧ ∀ (y : Int × PUnit), I_impl_TasksOk_4 l y → bif decide (y.1 < x0) then (0 : Int) ≤ y.1 ∧ Int.toNat y.1 < List.length l ∧ bif !taskOk (List.getD l (Int.toNat y.1) zTask) then Lf [DV.one (Cell.lit (Value.bool false))] [DV.one (Cell.lit (Value.bool (tasksOk l)))] else bif placeOf l (List.getD l (Int.toNat y.1) zTask).F != y.1 then Lf [DV.one (Cell.lit (Value.bool false))] [DV.one (Cell.lit (Value.bool (tasksOk l)))] else I_impl_TasksOk_4 l (IntKind.wrap IntKind.i64 (y.1 + (1 : Int)), PUnit.unit) ∧ μ_impl_TasksOk_4 l (IntKind.wrap IntKind.i64 (y.1 + (1 : Int)), PUnit.unit) < μ_impl_TasksOk_4 l y else Lf [DV.one (Cell.lit (Value.bool true))] [DV.one (Cell.lit (Value.bool (tasksOk l)))]) := by kernel_rfl
theorem ok_impl_TasksOk : Holds EE (13, con_impl_TasksOk) := by
  refine holds_of EE_ok Go.Proofs.Tryz.func13 con_impl_TasksOk (by kernel_rfl) use_impl_TasksOk (all_cons ok_impl_taskOk (all_cons ok_impl_placeOfTask all_nil)) ann_impl_TasksOk (fun (l : (List DTask)) hp hb => ?_)
  have hb_l : BdDV (U := UU) (.one (.sl .eTask l)) := hb _ (List.mem_cons_self)
  have hl_l : l.length ≤ 9223372036854775807 := Bd.len hb_l
  clear hp hb
  rw [vc_impl_TasksOk l]
  dsimp only
  refine if_cond (fun h => Lf_ff ?_) (fun h => ⟨⟨by omega, by omega, by have h := of_decide_eq_false h; omega, by intro j hj; omega⟩, ?_⟩)
  · have h := of_decide_eq_true h; simp only [tasksOk]; rw [decide_eq_false (by omega)]; rfl
  rintro ⟨i, ⟨⟩⟩ ⟨h1, h2, h3, hR⟩
  simp only
  refine if_cond (fun hc => ?_) (fun hc => ?_)
  · have hc := of_decide_eq_true hc
    have hN : taskAt l i.toNat = false → tasksOk l = false := fun h => by
      have hf : allI l.length (taskAt l) = false := allI_false (j := i.toNat) (by omega) h
      simp only [tasksOk, hf]; simp
    have hpl : (placeOf l (List.getD l i.toNat zTask).F = i) ↔ (anyI i.toNat fun k => decide ((List.getD l k zTask).F = (List.getD l i.toNat zTask).F)) = false := by
      rw [anyI_not]
      unfold placeOf
      rcases idxI_cases l.length (fun k => decide ((List.getD l k zTask).F = (List.getD l i.toNat zTask).F)) with ⟨g1, g2⟩ | ⟨m, g1, g2, g3, g4⟩
      · have := g2 i.toNat (by omega); simp at this
      · rw [g2]
        constructor
        · intro e j hj; exact g4 j (by omega)
        · intro e
          by_cases hm : m < i.toNat
          · have := e m hm; rw [g3] at this; cases this
          · by_cases hm' : i.toNat < m
            · have := g4 i.toNat hm'; simp at this
            · omega
    simp (disch := omega) only [wrap_i64]
    have hm : μ_impl_TasksOk_4 l (i + 1, PUnit.unit) < μ_impl_TasksOk_4 l (i, ()) := by simp only [μ_impl_TasksOk_4]; omega
    refine ⟨by omega, by omega, if_cond (fun h => Lf_ff (hN ?_)) (fun h => if_cond (fun h' => Lf_ff (hN ?_)) (fun h' => ⟨⟨by omega, by omega, h3, upto_step h1 hR ?_⟩, hm⟩))⟩
    · simp only [taskAt]; grind
    · have : ¬ (placeOf l (List.getD l i.toNat zTask).F = i) := by simpa using h'
      rw [hpl] at this
      simp only [taskAt]; grind
    · have : placeOf l (List.getD l i.toNat zTask).F = i := by simpa using h'
      rw [hpl] at this
      simp only [taskAt, this]; grind
  · have hc := of_decide_eq_false hc
    have hA : allI l.length (taskAt l) = true := allI_true fun j hj => hR j (by omega)
    refine Lf_b ?_
    simp only [tasksOk, hA]; grind
def con_spec_TasksOk : Con UU where
  α := (List DTask)
  md := [.ro]
  of := fun | [.one (.sl .eTask a0)] => some a0 | _ => none
  ds := fun l => [.one (.sl .eTask l)]
  pre := fun l => []
  res := fun l => ⟨[.one (.lit (.bool (tasksOk l)))], true, []⟩
  law := by intro l x h; (try simp only at h); split at h <;> cases h; rfl
def I_spec_TasksOk_2 (l : (List DTask)) : Int × Unit → Prop := fun (i, _) => 0 ≤ i ∧ i ≤ l.length ∧ ∀ j : Nat, (j : Int) < i → taskAt l j = true
def μ_spec_TasksOk_2 (l : (List DTask)) : Int × Unit → Nat := fun (i, _) => l.length - i.toNat
def I_spec_TasksOk_7 (l : (List DTask)) : Int × Int × Unit → Int × Int × Unit → Prop := fun (i0, k0, _) (i, k, _) => i = i0 ∧ 0 ≤ k ∧ k ≤ i ∧ ∀ j : Nat, (j : Int) < k → decide ((List.getD l j zTask).F = (List.getD l i.toNat zTask).F) = false
def μ_spec_TasksOk_7 (l : (List DTask)) : Int × Int × Unit → Nat := fun (i, k, _) => i.toNat - k.toNat
def ann_spec_TasksOk : con_spec_TasksOk.α → Nat → Option (Ann UU) := fun l => annL [(2, annOf [.slot 3 (3, 1024) (.lit (.int .i64))] (fun _ => I_spec_TasksOk_2 l) (μ_spec_TasksOk_2 l)), (7, annOf [.slot 3 (3, 1024) (.lit (.int .i64)), .slot 4 (4, 1024) (.lit (.int .i64))] (I_spec_TasksOk_7 l) (μ_spec_TasksOk_7 l))]
def use_spec_TasksOk : List (FuncId × Con UU) := [(55, con_spec_l18Task), (56, con_spec_SameFact)]
theorem vc_spec_TasksOk (l : (List DTask)) : goal EE use_spec_TasksOk Go.Proofs.Tryz.f22 con_spec_TasksOk ann_spec_TasksOk l = (let x0 : Int := (↑(List.length l) : Int);
I_spec_TasksOk_2 l ((0 : Int), PUnit.unit) ∧
  ∀ (y : Int × PUnit),
    I_spec_TasksOk_2 l y →
      bif decide (y.1 < x0) then
        (0 : Int) ≤ y.1 ∧
          Int.toNat y.1 < List.length l ∧
            bif !taskOk (List.getD l (Int.toNat y.1) zTask) then Lf [DV.one (Cell.lit (Value.bool false))] [DV.one (Cell.lit (Value.bool (tasksOk l)))]
            else
              I_spec_TasksOk_7 l (y.1, (0 : Int), PUnit.unit) (y.1, (0 : Int), PUnit.unit) ∧
                ∀ (y_1 : Int × Int × PUnit),
                  let x1 : Nat := Int.toNat y_1.2.1;
                  I_spec_TasksOk_7 l (y.1, (0 : Int), PUnit.unit) y_1 → bif decide (y_1.2.1 < y_1.1) then (0 : Int) ≤ y_1.1 ∧ Int.toNat y_1.1 < List.length l ∧ (0 : Int) ≤ y_1.2.1 ∧ x1 < List.length l ∧ bif decide ((List.getD l (Int.toNat y_1.1) zTask).F = (List.getD l x1 zTask).F) then Lf [DV.one (Cell.lit (Value.bool false))] [DV.one (Cell.lit (Value.bool (tasksOk l)))] else I_spec_TasksOk_7 l (y.1, (0 : Int), PUnit.unit) (y_1.1, IntKind.wrap IntKind.i64 (y_1.2.1 + (1 : Int)), PUnit.unit) ∧ μ_spec_TasksOk_7 l (y_1.1, IntKind.wrap IntKind.i64 (y_1.2.1 + (1 : Int)), PUnit.unit) < μ_spec_TasksOk_7 l y_1 else I_spec_TasksOk_2 l (IntKind.wrap IntKind.i64 (y_1.1 + (1 : Int)), PUnit.unit) ∧ μ_spec_TasksOk_2 l (IntKind.wrap IntKind.i64 (y_1.1 + (1 : Int)), PUnit.unit) < μ_spec_TasksOk_2 l y
      else Lf [DV.one (Cell.lit (Value.bool (decide (x0 ≤ (30 : Int)))))] [DV.one (Cell.lit (Value.bool (tasksOk l)))]) := by kernel_rfl
theorem ok_spec_TasksOk : Holds EE (22, con_spec_TasksOk) := by
  refine holds_of EE_ok Go.Proofs.Tryz.func22 con_spec_TasksOk (by kernel_rfl) use_spec_TasksOk (all_cons ok_spec_l18Task (all_cons ok_spec_SameFact all_nil)) ann_spec_TasksOk (fun (l : (List DTask)) hp hb => ?_)
  have hb_l : BdDV (U := UU) (.one (.sl .eTask l)) := hb _ (List.mem_cons_self)
  have hl_l : l.length ≤ 9223372036854775807 := Bd.len hb_l
  clear hp hb
  rw [vc_spec_TasksOk l]
  dsimp only
  refine ⟨⟨by omega, by omega, by intro j hj; omega⟩, ?_⟩
  rintro ⟨i, ⟨⟩⟩ ⟨h1, h2, hR⟩
  simp only
  refine if_cond (fun hc => ?_) (fun hc => ?_)
  · have hc := of_decide_eq_true hc
    have hN : taskAt l i.toNat = false → tasksOk l = false := fun h => by
      have hf : allI l.length (taskAt l) = false := allI_false (j := i.toNat) (by omega) h
      simp only [tasksOk, hf]; simp
    have hm : μ_spec_TasksOk_2 l (i + 1, PUnit.unit) < μ_spec_TasksOk_2 l (i, ()) := by simp only [μ_spec_TasksOk_2]; omega
    refine ⟨by omega, by omega, if_cond (fun h => Lf_ff (hN ?_)) (fun h => ⟨⟨rfl, by omega, by omega, by intro j hj; omega⟩, ?_⟩)⟩
    · simp only [taskAt]; grind
    rintro ⟨i, k, ⟨⟩⟩ ⟨rfl, g1, g2, gR⟩
    simp only
    refine if_cond (fun hk => ?_) (fun hk => ?_)
    · have hk := of_decide_eq_true hk
      simp (disch := omega) only [wrap_i64]
      refine ⟨by omega, by omega, by omega, by omega, if_cond (fun h'' => Lf_ff (hN ?_)) (fun h'' => ⟨⟨rfl, by omega, by omega, upto_no g1 gR ?_⟩, by simp only [μ_spec_TasksOk_7]; omega⟩)⟩
      · have ha : (anyI i.toNat fun k => decide ((List.getD l k zTask).F = (List.getD l i.toNat zTask).F)) = true := anyI_true (j := k.toNat) (by omega) (by grind)
        simp only [taskAt, ha]; simp
      · grind
    · have hk := of_decide_eq_false hk
      simp (disch := omega) only [wrap_i64]
      refine ⟨⟨by omega, by omega, upto_step h1 hR ?_⟩, hm⟩
      have ha : (anyI i.toNat fun k => decide ((List.getD l k zTask).F = (List.getD l i.toNat zTask).F)) = false := anyI_false fun j hj => gR j (by omega)
      simp only [taskAt, ha]; grind
  · have hc := of_decide_eq_false hc
    have hA : allI l.length (taskAt l) = true := allI_true fun j hj => hR j (by omega)
    refine Lf_b ?_
    simp only [tasksOk, hA]; grind
open Go.RowKit
def itoaB (n : Int) : ByteArray := ⟨(Go.Lib.itoa n).toArray⟩
def joinB (l : List ByteArray) (sep : ByteArray) : ByteArray := ⟨(Go.Lib.join (l.map (fun s => s.data.toList)) sep.data.toList).toArray⟩
theorem grow_upto {w : World} {k : Nat} {os : Array Obj} : Upto (fun _ => False) w (Go.Sort.grow (w.drewN k) os) := by
  refine ⟨rfl, rfl, rfl, ?_, fun i hi _ => ?_⟩
  · show w.heap.size ≤ (w.heap ++ os).size
    simp
  · show (w.heap ++ os)[i]? = _
    rw [Array.getElem?_append_left hi]
def con_strconv_Itoa : Con UU where
  α := Int
  md := [.ro]
  of := fun | [.one (.lit (.int .i64 a0))] => some a0 | _ => none
  ds := fun n => [.one (.lit (.int .i64 n))]
  pre := fun n => []
  res := fun n => ⟨[.one (.lit (.string (itoaB n)))], true, []⟩
  law := by intro l x h; (try simp only at h); split at h <;> cases h; rfl
theorem ok_strconv_Itoa : Holds EE (84, con_strconv_Itoa) := by
  refine ⟨⟨_, Go.Proofs.Tryz.func84, by kernel_rfl, by kernel_rfl⟩, ?_⟩
  refine sound_lit rfl fun (n : Int) _ w F vs ls hF hlay hra => ?_
  obtain ⟨v, rfl, hv⟩ := rargs1 hra
  obtain ⟨_, rfl, hl⟩ := hv.lit_all
  have hb : -9223372036854775808 ≤ n ∧ n ≤ 9223372036854775807 := hl.2
  refine ⟨_, rfl, rfl, rfl, ⟨rfl, ?_⟩, (Go.Proofs.Tryz.strconv_Itoa n hb.1 hb.2 w (tab_is hlay)).mono ?_⟩
  · have := Go.Lib.itoa_length_le n hb.1 hb.2
    show (ByteArray.mk _).size ≤ _
    simp only [itoaB, ByteArray.size, List.size_toArray]
    omega
  · rintro e w' ⟨rfl, k, os, rfl⟩
    exact ⟨rfl, grow_upto⟩
def con_strings_Join : Con UU where
  α := (List ByteArray) × ByteArray
  md := [.ro, .ro]
  of := fun | [.one (.sl .str a0), .one (.lit (.string a1))] => some (a0, a1) | _ => none
  ds := fun (l, sep) => [.one (.sl .str l), .one (.lit (.string sep))]
  pre := fun (l, sep) => [(joinB l sep).size ≤ 140737488355328, l.length ≤ 140737488355328]
  res := fun (l, sep) => ⟨[.one (.lit (.string (joinB l sep)))], true, []⟩
  law := by intro l x h; (try simp only at h); split at h <;> cases h; rfl
theorem ok_strings_Join : Holds EE (70, con_strings_Join) := by
  refine ⟨⟨_, Go.Proofs.Tryz.func70, by kernel_rfl, by kernel_rfl⟩, ?_⟩
  refine sound_lit rfl fun (x : List ByteArray × ByteArray) hp w F vs ls hF hlay hra => ?_
  obtain ⟨l, sep⟩ := x
  have hp0 : (joinB l sep).size ≤ 140737488355328 := hp _ List.mem_cons_self
  have hp1 : l.length ≤ 140737488355328 := hp _ (List.mem_cons_of_mem _ List.mem_cons_self)
  obtain ⟨u, v, rfl, hu, hv⟩ := rargs2 hra
  obtain ⟨_, rfl, hl⟩ := hv.lit_all
  refine ⟨_, rfl, rfl, rfl, ⟨rfl, by omega⟩, ?_⟩
  rcases hu.inv with ⟨h0, a, c, rfl⟩ | ⟨b, off, cap, vs, rfl, hb, hc, hcell, hr⟩
  · subst h0
    refine (Go.Proofs.Tryz.strings_Join_none a c sep w).mono ?_
    rintro e w' ⟨rfl, rfl⟩
    exact ⟨rfl, Upto.refl _ _⟩
  · refine (Go.Proofs.Tryz.strings_Join b off cap l sep w (fun j x hj => ?_) (hF b hb) hp1 hc (by simpa [joinB, ByteArray.size] using hp0)).mono ?_
    · have h1 := hr j x 0 (.lit (.string x)) hj rfl
      have hj' : j < l.length := by
        rcases Nat.lt_or_ge j l.length with h | h
        · exact h
        · rw [List.getElem?_eq_none h] at hj; cases hj
      have h2 := hcell j (by show j < l.length * 1; omega)
      have e : j * UU.wd .str + 0 = j := by show j * 1 + 0 = j; omega
      rw [e] at h1
      rw [h2, (h1.lit_all).2.1]
    · rintro e w' ⟨rfl, hbe⟩
      exact ⟨rfl, Upto.below hbe⟩
def mkB (l : List UInt8) : ByteArray := ⟨l.toArray⟩
theorem mkB_app (a b : List UInt8) : mkB a ++ mkB b = mkB (a ++ b) := by
  apply ByteArray.ext
  simp [mkB]
theorem mkB_bs (s : ByteArray) : mkB (bs s) = s := by
  apply ByteArray.ext
  simp [mkB, bs]
theorem bs_mkB (l : List UInt8) : bs (mkB l) = l := by simp [mkB, bs]
theorem mkB_size (l : List UInt8) : (mkB l).size = l.length := by simp [mkB, ByteArray.size]
theorem app_mkB (s : ByteArray) (l : List UInt8) : s ++ mkB l = mkB (bs s ++ l) := by rw [← mkB_app, mkB_bs]
def valT (v : DVal) : List UInt8 := if v.K = 1 then Go.Lib.itoa v.N else 39 :: (bs v.S ++ [39])
def valsT (l : List DVal) : List UInt8 := 40 :: (Go.Lib.join (l.map valT) [44] ++ [41])
def valText (v : DVal) : ByteArray := if valOk v = true then mkB (valT v) else noBytes
def factText (f : DFact) : ByteArray := if factOk f = true then mkB (bs f.Kind ++ valsT f.Fields) else noBytes
theorem joinB_eq (l : List ByteArray) (s : ByteArray) : joinB l s = mkB (Go.Lib.join (l.map bs) (bs s)) := rfl
theorem itoaB_eq (n : Int) : itoaB n = mkB (Go.Lib.itoa n) := rfl
theorem join_snoc (l : List (List UInt8)) (x sep : List UInt8) : Go.Lib.join (l ++ [x]) sep = if l = [] then x else Go.Lib.join l sep ++ (sep ++ x) := by
  cases l with
  | nil => simp [Go.Lib.join_one]
  | cons y r =>
    rw [List.cons_append, Go.Lib.join_cons, Go.Lib.join_cons, if_neg (by simp)]
    simp [Go.Lib.joinTail]
theorem valOk_cases {v : DVal} (h : valOk v = true) : (v.K = 1 ∧ -1000000000 ≤ v.N ∧ v.N ≤ 1000000000) ∨ (v.K = 2 ∧ v.S.size ≤ 20) := by
  simp only [valOk] at h
  by_cases h1 : v.K = 1
  · simp [h1] at h; exact .inl ⟨h1, h.1.1, h.1.2⟩
  · by_cases h2 : v.K = 2
    · simp [h2] at h; exact .inr ⟨h2, h.1.2⟩
    · simp [h1, h2] at h
theorem valT_len {v : DVal} (h : valOk v = true) : (valT v).length ≤ 22 := by
  rcases valOk_cases h with ⟨h1, h2, h3⟩ | ⟨h1, h2⟩
  · have := Go.Lib.itoa_length_le v.N (by omega) (by omega)
    simp only [valT, if_pos h1]; omega
  · simp only [valT, if_neg (show ¬ v.K = 1 by omega), List.length_cons, List.length_append, bs_len, List.length_nil]; omega
theorem join_len : ∀ (l : List DVal), l.all valOk = true → (Go.Lib.join (l.map valT) [44]).length ≤ 23 * l.length
  | [], _ => by simp [Go.Lib.join_nil]
  | x :: r, h => by
    rw [List.map_cons, Go.Lib.join_cons]
    simp only [List.all_cons, Bool.and_eq_true] at h
    have h1 := valT_len h.1
    have h2 : ∀ r : List DVal, r.all valOk = true → (Go.Lib.joinTail [44] (r.map valT)).length ≤ 23 * r.length := by
      intro r
      induction r with
      | nil => intro _; simp [Go.Lib.joinTail]
      | cons y r ih =>
        intro h
        simp only [List.all_cons, Bool.and_eq_true] at h
        have h3 := valT_len h.1
        have h4 := ih h.2
        simp only [Go.Lib.joinTail, List.map_cons, List.flatten_cons, List.length_append, List.length_cons, List.length_nil] at h4 ⊢
        omega
    have h3 := h2 r h.2
    simp only [List.length_append, List.length_cons]
    omega
theorem factOk_fields {f : DFact} (h : factOk f = true) : f.Fields.length ≤ 5 ∧ f.Fields.all valOk = true ∧ nameOk f.Kind = true ∧ f.Kind.size ≤ 12 := by
  simp only [factOk, Bool.and_eq_true, decide_eq_true_eq] at h
  have h2 := h.1.1
  simp only [nameOk, Bool.and_eq_true, decide_eq_true_eq] at h2
  exact ⟨h.1.2, h.2, h.1.1, h2.1.1.2⟩
theorem all_getD {α : Type} {p : α → Bool} {l : List α} (h : l.all p = true) (z : α) {i : Int} (h0 : 0 ≤ i) (hi : i < l.length) : p (List.getD l i.toNat z) = true :=
  List.all_eq_true.1 h _ (getD_mem l z h0 hi)
theorem all_take {α : Type} {p : α → Bool} {l : List α} (h : l.all p = true) (n : Nat) : (l.take n).all p = true := by
  rw [List.all_eq_true] at h ⊢
  exact fun x hx => h x (List.mem_of_mem_take hx)
theorem dec_step {n : Int} (h : 10 ≤ n) : Go.Lib.itoa n = Go.Lib.itoa (n / 10) ++ [UInt8.ofNat (48 + n.toNat % 10)] := by
  simp only [Go.Lib.itoa]
  rw [if_neg (by omega), if_neg (by omega)]
  have e : (n / 10).toNat = n.toNat / 10 := by omega
  rw [e, Go.Lib.decDigits, dif_neg (by omega)]
theorem dec_one {n : Int} (h0 : 0 ≤ n) (h : n < 10) : Go.Lib.itoa n = [UInt8.ofNat (48 + n.toNat)] := by
  simp only [Go.Lib.itoa]
  rw [if_neg (by omega), Go.Lib.decDigits_one (by omega)]
theorem dec_neg {n : Int} (h : n < 0) : Go.Lib.itoa n = 45 :: Go.Lib.itoa (-n) := by
  simp only [Go.Lib.itoa]
  rw [if_pos h, if_neg (by omega)]
  have e : (-n).toNat = n.natAbs := by omega
  rw [e]
theorem chr_eq {n : Int} (h0 : 0 ≤ n) (h : n ≤ 255) : strOfNums (List.map (fun (x : Int) => x) [n]) = mkB [UInt8.ofNat n.toNat] := by
  simp [strOfNums, mkB]
theorem wrap_u8' {n : Int} (h : 0 ≤ n) (h' : n ≤ 255) : IntKind.wrap .u8 n = n := by
  simp only [IntKind.wrap]
  simp [IntKind.bits, IntKind.signed]
  omega
def taskAtKey (l : List DTask) (key : ByteArray) : Int := idxI l.length fun k => decide (factText (List.getD l k zTask).F = key)
def con_spec_l2Num : Con UU where
  α := Int
  md := [.ro]
  of := fun | [.one (.lit (.int .i64 a0))] => some a0 | _ => none
  ds := fun n => [.one (.lit (.int .i64 n))]
  pre := fun n => [-1000000000 ≤ n ∧ n ≤ 1000000000]
  res := fun n => ⟨[.one (.lit (.string (itoaB n)))], true, []⟩
  law := by intro l x h; (try simp only at h); split at h <;> cases h; rfl
def ann_spec_l2Num : con_spec_l2Num.α → Nat → Option (Ann UU) := fun n => annL []
def mu_spec_l2Num : Int → Nat := fun n => if n < 0 then n.natAbs + 1 else n.natAbs
def use_spec_l2Num (rn : Nat) : List (FuncId × Con UU) := [(111, con_spec_l2Num.below mu_spec_l2Num rn)]
theorem vc_spec_l2Num (rn : Nat) (n : Int) : goal EE (use_spec_l2Num rn) Go.Proofs.Tryz.f111 (con_spec_l2Num.below mu_spec_l2Num (rn + 1)) ann_spec_l2Num n = (let x0 : Int := IntKind.wrap IntKind.i64 ((0 : Int) - n);
let x1 : ByteArray := strOfNums (List.map (fun (x : Cd.T Cd.byte) => x) [IntKind.wrap IntKind.u8 (IntKind.wrap IntKind.i64 ((48 : Int) + Int.tmod n (10 : Int)))]);
let x2 : Int := IntKind.wrap IntKind.i64 (Int.tdiv n (10 : Int));
bif decide (n < (0 : Int)) then mu_spec_l2Num x0 < rn ∧ ((-1000000000 : Int) ≤ x0 ∧ x0 ≤ (1000000000 : Int)) ∧ ByteArray.size { data := #[(45 : UInt8)] : ByteArray } + ByteArray.size (itoaB x0) ≤ (4611686018427387904 : Nat) ∧ Lf [DV.one (Cell.lit (Value.string ({ data := #[(45 : UInt8)] : ByteArray } ++ itoaB x0)))] [DV.one (Cell.lit (Value.string (itoaB n)))] else bif decide (n < (10 : Int)) then Lf [DV.one (Cell.lit (Value.string (strOfNums (List.map (fun (x : Cd.T Cd.byte) => x) [IntKind.wrap IntKind.u8 (IntKind.wrap IntKind.i64 ((48 : Int) + n))]))))] [DV.one (Cell.lit (Value.string (itoaB n)))] else (10 : Int) ≠ (0 : Int) ∧ mu_spec_l2Num x2 < rn ∧ ((-1000000000 : Int) ≤ x2 ∧ x2 ≤ (1000000000 : Int)) ∧ (10 : Int) ≠ (0 : Int) ∧ ByteArray.size (itoaB x2) + ByteArray.size x1 ≤ (4611686018427387904 : Nat) ∧ Lf [DV.one (Cell.lit (Value.string (itoaB x2 ++ x1)))] [DV.one (Cell.lit (Value.string (itoaB n)))]) := by kernel_rfl
theorem ok_spec_l2Num : Holds EE (111, con_spec_l2Num) := by
  refine holds_rec (k := con_spec_l2Num) Go.Proofs.Tryz.func111 (by kernel_rfl) mu_spec_l2Num (fun rn ih => ?_)
  refine holds_of EE_ok Go.Proofs.Tryz.func111 (con_spec_l2Num.below mu_spec_l2Num (rn + 1)) (by kernel_rfl) (use_spec_l2Num rn) (all_cons ih all_nil) ann_spec_l2Num (fun (n : Int) hp hb => ?_)
  have hrec : mu_spec_l2Num n < rn + 1 := hp _ List.mem_cons_self
  have hb_n : BdDV (U := UU) (.one (.lit (.int .i64 n))) := hb _ (List.mem_cons_self)
  have hl_n := Bd.i64 hb_n
  have hp0 : -1000000000 ≤ n ∧ n ≤ 1000000000 := hp _ (List.mem_cons_of_mem _ (List.mem_cons_self))
  clear hp hb
  rw [vc_spec_l2Num rn n]
  dsimp only
  simp only [mu_spec_l2Num] at hrec
  refine if_cond (fun h => ?_) (fun h => if_cond (fun h' => Lf_s ?_) (fun h' => ?_))
  · have h := of_decide_eq_true h
    rw [if_pos h] at hrec
    rw [wrap_i64 (by omega) (by omega)]
    have e : (0 : Int) - n = -n := by omega
    rw [e]
    have hl := Go.Lib.itoa_length_le (-n) (by omega) (by omega)
    refine ⟨?_, ⟨by omega, by omega⟩, ?_, Lf_s ?_⟩
    · simp only [mu_spec_l2Num]; rw [if_neg (by omega)]; omega
    · rw [itoaB_eq, mkB_size]; show 1 + _ ≤ _; omega
    · rw [itoaB_eq, itoaB_eq, dec_neg h]; exact mkB_app [45] _
  · have h := of_decide_eq_false h
    have h' := of_decide_eq_true h'
    rw [wrap_i64 (by omega) (by omega), wrap_u8' (by omega) (by omega), itoaB_eq, dec_one (by omega) h']
    refine (chr_eq (n := 48 + n) (by omega) (by omega)).trans ?_
    have e : (48 + n).toNat = 48 + n.toNat := by omega
    rw [e]
  · have h := of_decide_eq_false h
    have h' := of_decide_eq_false h'
    rw [if_neg h] at hrec
    have t1 : Int.tdiv n 10 = n / 10 := Int.tdiv_eq_ediv_of_nonneg (by omega)
    have t2 : Int.tmod n 10 = n % 10 := Int.tmod_eq_emod_of_nonneg (by omega)
    rw [t1, t2, wrap_i64 (by omega) (by omega), wrap_i64 (by omega) (by omega), wrap_u8' (by omega) (by omega)]
    have hl := Go.Lib.itoa_length_le (n / 10) (by omega) (by omega)
    have hc : strOfNums (List.map (fun (x : Cd.T Cd.byte) => x) [(48 : Int) + n % 10]) = mkB [UInt8.ofNat (48 + n % 10).toNat] := chr_eq (n := 48 + n % 10) (by omega) (by omega)
    rw [hc]
    refine ⟨by omega, ?_, ⟨by omega, by omega⟩, by omega, ?_, Lf_s ?_⟩
    · simp only [mu_spec_l2Num]; rw [if_neg (by omega)]; omega
    · rw [itoaB_eq, mkB_size, mkB_size]; simp only [List.length_cons, List.length_nil]; omega
    · rw [itoaB_eq, itoaB_eq, dec_step (n := n) (by omega), mkB_app]
      have e : (48 + n % 10).toNat = 48 + n.toNat % 10 := by omega
      rw [e]
def con_spec_l2Text : Con UU where
  α := DVal
  md := [.ro]
  of := fun | [.agg [.lit (.int .i64 a0), .lit (.int .i64 a1), .lit (.string a2)]] => some ⟨a0, a1, a2⟩ | _ => none
  ds := fun v => [.agg [.lit (.int .i64 v.K), .lit (.int .i64 v.N), .lit (.string v.S)]]
  pre := fun v => [valOk v = true]
  res := fun v => ⟨[.one (.lit (.string (mkB (valT v))))], true, []⟩
  law := by intro l x h; (try simp only at h); split at h <;> cases h; rfl
def ann_spec_l2Text : con_spec_l2Text.α → Nat → Option (Ann UU) := fun v => annL []
def use_spec_l2Text : List (FuncId × Con UU) := [(111, con_spec_l2Num)]
theorem vc_spec_l2Text (v : DVal) : goal EE use_spec_l2Text Go.Proofs.Tryz.f105 con_spec_l2Text ann_spec_l2Text v = (let x0 : ByteArray := { data := #[(39 : UInt8)] : ByteArray };
bif v.K == (1 : Int) then ((-1000000000 : Int) ≤ v.N ∧ v.N ≤ (1000000000 : Int)) ∧ Lf [DV.one (Cell.lit (Value.string (itoaB v.N)))] [DV.one (Cell.lit (Value.string (mkB (valT v))))] else ByteArray.size x0 + ByteArray.size v.S ≤ (4611686018427387904 : Nat) ∧ ByteArray.size (x0 ++ v.S) + ByteArray.size x0 ≤ (4611686018427387904 : Nat) ∧ Lf [DV.one (Cell.lit (Value.string (x0 ++ v.S ++ x0)))] [DV.one (Cell.lit (Value.string (mkB (valT v))))]) := by kernel_rfl
theorem ok_spec_l2Text : Holds EE (105, con_spec_l2Text) := by
  refine holds_of EE_ok Go.Proofs.Tryz.func105 con_spec_l2Text (by kernel_rfl) use_spec_l2Text (all_cons ok_spec_l2Num all_nil) ann_spec_l2Text (fun (v : DVal) hp hb => ?_)
  have hb_v : BdDV (U := UU) (.agg [.lit (.int .i64 v.K), .lit (.int .i64 v.N), .lit (.string v.S)]) := hb _ (List.mem_cons_self)
  have hl_v_S : v.S.size ≤ 9223372036854775807 := Bd.str (hb_v _ (by simp))
  have hp0 : valOk v = true := hp _ (List.mem_cons_self)
  clear hp hb
  rw [vc_spec_l2Text v]
  dsimp only
  rcases valOk_cases hp0 with ⟨h1, h2, h3⟩ | ⟨h1, h2⟩
  · refine if_cond (fun h => ⟨⟨h2, h3⟩, Lf_s ?_⟩) (fun h => absurd h (by simp [h1]))
    simp only [valT, if_pos h1]; rfl
  · refine if_cond (fun h => absurd h (by simp [h1])) (fun h => ?_)
    have e : ({ data := #[(39 : UInt8)] : ByteArray } ++ v.S) = mkB (39 :: bs v.S) := by
      conv => lhs; rw [← mkB_bs v.S]
      exact mkB_app [39] _
    rw [e]
    refine ⟨?_, ?_, Lf_s ?_⟩
    · show 1 + _ ≤ _; omega
    · rw [mkB_size]; show _ + 1 ≤ _; simp only [List.length_cons, bs_len]; omega
    · simp only [valT, if_neg (show ¬ v.K = 1 by omega)]; exact mkB_app (39 :: bs v.S) [39]
def con_spec_l3ValsText : Con UU where
  α := (List DVal)
  md := [.ro]
  of := fun | [.one (.sl .eVal a0)] => some a0 | _ => none
  ds := fun l => [.one (.sl .eVal l)]
  pre := fun l => [l.length ≤ 5, l.all valOk = true]
  res := fun l => ⟨[.one (.lit (.string (mkB (valsT l))))], true, []⟩
  law := by intro l x h; (try simp only at h); split at h <;> cases h; rfl
def I_spec_l3ValsText_3 (l : (List DVal)) : ByteArray × Int × Unit → Prop := fun (s, i, _) => 0 ≤ i ∧ i ≤ l.length ∧ s = mkB (40 :: Go.Lib.join ((l.take i.toNat).map valT) [44])
def μ_spec_l3ValsText_3 (l : (List DVal)) : ByteArray × Int × Unit → Nat := fun (s, i, _) => l.length - i.toNat
def ann_spec_l3ValsText : con_spec_l3ValsText.α → Nat → Option (Ann UU) := fun l => annL [(3, annOf [.slot 3 (3, 1024) (.lit .str), .slot 4 (4, 1024) (.lit (.int .i64))] (fun _ => I_spec_l3ValsText_3 l) (μ_spec_l3ValsText_3 l))]
def use_spec_l3ValsText : List (FuncId × Con UU) := [(105, con_spec_l2Text)]
theorem vc_spec_l3ValsText (l : (List DVal)) : goal EE use_spec_l3ValsText Go.Proofs.Tryz.f97 con_spec_l3ValsText ann_spec_l3ValsText l = (I_spec_l3ValsText_3 l ({ data := #[(40 : UInt8)] : ByteArray }, (0 : Int), PUnit.unit) ∧
  ∀ (y : ByteArray × Int × PUnit),
    let x0 : ByteArray := mkB (valT (List.getD l (Int.toNat y.2.1) zVal));
    let x1 : Nat := Int.toNat y.2.1;
    let x2 : ByteArray := y.1 ++ { data := #[(44 : UInt8)] : ByteArray };
    I_spec_l3ValsText_3 l y → bif decide (y.2.1 < (↑(List.length l) : Int)) then bif decide (y.2.1 > (0 : Int)) then ByteArray.size y.1 + ByteArray.size { data := #[(44 : UInt8)] : ByteArray } ≤ (4611686018427387904 : Nat) ∧ (0 : Int) ≤ y.2.1 ∧ x1 < List.length l ∧ valOk (List.getD l x1 zVal) = true ∧ ByteArray.size x2 + ByteArray.size x0 ≤ (4611686018427387904 : Nat) ∧ I_spec_l3ValsText_3 l (x2 ++ x0, IntKind.wrap IntKind.i64 (y.2.1 + (1 : Int)), PUnit.unit) ∧ μ_spec_l3ValsText_3 l (x2 ++ x0, IntKind.wrap IntKind.i64 (y.2.1 + (1 : Int)), PUnit.unit) < μ_spec_l3ValsText_3 l y else (0 : Int) ≤ y.2.1 ∧ x1 < List.length l ∧ valOk (List.getD l x1 zVal) = true ∧ ByteArray.size y.1 + ByteArray.size x0 ≤ (4611686018427387904 : Nat) ∧ I_spec_l3ValsText_3 l (y.1 ++ x0, IntKind.wrap IntKind.i64 (y.2.1 + (1 : Int)), PUnit.unit) ∧ μ_spec_l3ValsText_3 l (y.1 ++ x0, IntKind.wrap IntKind.i64 (y.2.1 + (1 : Int)), PUnit.unit) < μ_spec_l3ValsText_3 l y else ByteArray.size y.1 + ByteArray.size { data := #[(41 : UInt8)] : ByteArray } ≤ (4611686018427387904 : Nat) ∧ Lf [DV.one (Cell.lit (Value.string (y.1 ++ { data := #[(41 : UInt8)] : ByteArray })))] [DV.one (Cell.lit (Value.string (mkB (valsT l))))]) := by kernel_rfl
theorem ok_spec_l3ValsText : Holds EE (97, con_spec_l3ValsText) := by
  refine holds_of EE_ok Go.Proofs.Tryz.func97 con_spec_l3ValsText (by kernel_rfl) use_spec_l3ValsText (all_cons ok_spec_l2Text all_nil) ann_spec_l3ValsText (fun (l : (List DVal)) hp hb => ?_)
  have hb_l : BdDV (U := UU) (.one (.sl .eVal l)) := hb _ (List.mem_cons_self)
  have hl_l : l.length ≤ 9223372036854775807 := Bd.len hb_l
  have hp0 : l.length ≤ 5 := hp _ (List.mem_cons_self)
  have hp1 : l.all valOk = true := hp _ (List.mem_cons_of_mem _ (List.mem_cons_self))
  clear hp hb
  rw [vc_spec_l3ValsText l]
  dsimp only
  refine ⟨⟨by omega, by omega, rfl⟩, ?_⟩
  rintro ⟨s, i, ⟨⟩⟩ ⟨h1, h2, rfl⟩
  simp only
  have hj := join_len (l.take i.toNat) (all_take hp1 _)
  rw [List.length_take] at hj
  refine if_cond (fun hc => ?_) (fun hc => ?_)
  · have hc : i < l.length := of_decide_eq_true hc
    have hv := all_getD hp1 zVal h1 hc
    have hvl := valT_len hv
    rw [wrap_i64 (by omega) (by omega)]
    have ht : (l.take (i + 1).toNat).map valT = (l.take i.toNat).map valT ++ [valT (List.getD l i.toNat zVal)] := by rw [← take_step l zVal h1 hc, List.map_append]; rfl
    refine if_cond (fun h => ?_) (fun h => ?_)
    · have h := of_decide_eq_true h
      have e : (mkB (40 :: Go.Lib.join ((l.take i.toNat).map valT) [44]) ++ { data := #[(44 : UInt8)] : ByteArray }) = mkB (40 :: (Go.Lib.join ((l.take i.toNat).map valT) [44] ++ [44])) := mkB_app _ [44]
      rw [e, mkB_app]
      have hn : ¬ (l.take i.toNat).map valT = [] := by
        intro h0
        have := congrArg List.length h0
        rw [List.length_map, List.length_take, List.length_nil] at this
        omega
      refine ⟨?_, h1, by omega, hv, ?_, ⟨by omega, by omega, ?_⟩, by simp only [μ_spec_l3ValsText_3]; omega⟩
      · rw [mkB_size]; show _ + 1 ≤ _; simp only [List.length_cons]; omega
      · rw [mkB_size, mkB_size]; simp only [List.length_cons, List.length_append, List.length_nil]; omega
      · rw [ht, join_snoc, if_neg hn]; simp
    · have h := of_decide_eq_false h
      have h0 : i = 0 := by omega
      subst h0
      rw [mkB_app]
      refine ⟨by omega, by omega, hv, ?_, ⟨by omega, by omega, ?_⟩, by simp only [μ_spec_l3ValsText_3]; omega⟩
      · rw [mkB_size, mkB_size]; simp only [List.length_cons]; omega
      · rw [ht, join_snoc]; simp [Go.Lib.join_nil]
  · have hc : ¬ i < l.length := of_decide_eq_false hc
    rw [take_all l (by omega)]
    refine ⟨?_, Lf_s ?_⟩
    · rw [mkB_size]; show _ + 1 ≤ _; simp only [List.length_cons]; rw [take_all l (by omega)] at hj; omega
    · exact mkB_app _ [41]
def con_spec_FactText : Con UU where
  α := DFact
  md := [.ro]
  of := fun | [.agg [.lit (.string a0), .sl .eVal a1]] => some ⟨a0, a1⟩ | _ => none
  ds := fun f => [.agg [.lit (.string f.Kind), .sl .eVal f.Fields]]
  pre := fun f => []
  res := fun f => ⟨[.one (.lit (.string (factText f)))], true, []⟩
  law := by intro l x h; (try simp only at h); split at h <;> cases h; rfl
def ann_spec_FactText : con_spec_FactText.α → Nat → Option (Ann UU) := fun f => annL []
def use_spec_FactText : List (FuncId × Con UU) := [(38, con_spec_FactOk), (97, con_spec_l3ValsText)]
theorem vc_spec_FactText (f : DFact) : goal EE use_spec_FactText Go.Proofs.Tryz.f88 con_spec_FactText ann_spec_FactText f = (bif !factOk f then Lf [DV.one (Cell.lit (Value.string { data := #[] : ByteArray }))] [DV.one (Cell.lit (Value.string (factText f)))] else List.length f.Fields ≤ (5 : Nat) ∧ List.all f.Fields valOk = true ∧ ByteArray.size f.Kind + ByteArray.size (mkB (valsT f.Fields)) ≤ (4611686018427387904 : Nat) ∧ Lf [DV.one (Cell.lit (Value.string (f.Kind ++ mkB (valsT f.Fields))))] [DV.one (Cell.lit (Value.string (factText f)))]) := by kernel_rfl
theorem ok_spec_FactText : Holds EE (88, con_spec_FactText) := by
  refine holds_of EE_ok Go.Proofs.Tryz.func88 con_spec_FactText (by kernel_rfl) use_spec_FactText (all_cons ok_spec_FactOk (all_cons ok_spec_l3ValsText all_nil)) ann_spec_FactText (fun (f : DFact) hp hb => ?_)
  have hb_f : BdDV (U := UU) (.agg [.lit (.string f.Kind), .sl .eVal f.Fields]) := hb _ (List.mem_cons_self)
  have hl_f_Kind : f.Kind.size ≤ 9223372036854775807 := Bd.str (hb_f _ (by simp))
  have hl_f_Fields : f.Fields.length ≤ 9223372036854775807 := Bd.len (U := UU) (τ := .eVal) (xs := f.Fields) (hb_f _ (by simp))
  clear hp hb
  rw [vc_spec_FactText f]
  refine if_cond (fun h => Lf_s ?_) (fun h => ?_)
  · have h : factOk f = false := by simpa using h
    simp only [factText, h]; rfl
  · have h : factOk f = true := by simpa using h
    obtain ⟨h1, h2, h3, h4⟩ := factOk_fields h
    have hj := join_len f.Fields h2
    refine ⟨h1, h2, ?_, Lf_s ?_⟩
    · rw [mkB_size]; simp only [valsT, List.length_cons, List.length_append, List.length_nil]; omega
    · simp only [factText, h, if_true]; exact app_mkB _ _
def con_spec_TaskKey : Con UU where
  α := DFact
  md := [.ro]
  of := fun | [.agg [.lit (.string a0), .sl .eVal a1]] => some ⟨a0, a1⟩ | _ => none
  ds := fun f => [.agg [.lit (.string f.Kind), .sl .eVal f.Fields]]
  pre := fun f => []
  res := fun f => ⟨[.one (.lit (.string (factText f)))], true, []⟩
  law := by intro l x h; (try simp only at h); split at h <;> cases h; rfl
def ann_spec_TaskKey : con_spec_TaskKey.α → Nat → Option (Ann UU) := fun f => annL []
def use_spec_TaskKey : List (FuncId × Con UU) := [(88, con_spec_FactText)]
theorem vc_spec_TaskKey (f : DFact) : goal EE use_spec_TaskKey Go.Proofs.Tryz.f71 con_spec_TaskKey ann_spec_TaskKey f = (Lf [DV.one (Cell.lit (Value.string (factText f)))] [DV.one (Cell.lit (Value.string (factText f)))]) := by kernel_rfl
theorem ok_spec_TaskKey : Holds EE (71, con_spec_TaskKey) := by
  refine holds_of EE_ok Go.Proofs.Tryz.func71 con_spec_TaskKey (by kernel_rfl) use_spec_TaskKey (all_cons ok_spec_FactText all_nil) ann_spec_TaskKey (fun (f : DFact) hp hb => ?_)
  have hb_f : BdDV (U := UU) (.agg [.lit (.string f.Kind), .sl .eVal f.Fields]) := hb _ (List.mem_cons_self)
  have hl_f_Kind : f.Kind.size ≤ 9223372036854775807 := Bd.str (hb_f _ (by simp))
  have hl_f_Fields : f.Fields.length ≤ 9223372036854775807 := Bd.len (U := UU) (τ := .eVal) (xs := f.Fields) (hb_f _ (by simp))
  clear hp hb
  rw [vc_spec_TaskKey f]
  exact Lf_rfl _
def con_impl_ValText : Con UU where
  α := DVal
  md := [.ro]
  of := fun | [.agg [.lit (.int .i64 a0), .lit (.int .i64 a1), .lit (.string a2)]] => some ⟨a0, a1, a2⟩ | _ => none
  ds := fun v => [.agg [.lit (.int .i64 v.K), .lit (.int .i64 v.N), .lit (.string v.S)]]
  pre := fun v => []
  res := fun v => ⟨[.one (.lit (.string (valText v)))], true, []⟩
  law := by intro l x h; (try simp only at h); split at h <;> cases h; rfl
def ann_impl_ValText : con_impl_ValText.α → Nat → Option (Ann UU) := fun v => annL []
def use_impl_ValText : List (FuncId × Con UU) := [(48, con_impl_ValOk), (84, con_strconv_Itoa)]
theorem vc_impl_ValText (v : DVal) : goal EE use_impl_ValText Go.Proofs.Tryz.f69 con_impl_ValText ann_impl_ValText v = (let x0 : ByteArray := { data := #[(39 : UInt8)] : ByteArray };
bif !valOk v then Lf [DV.one (Cell.lit (Value.string { data := #[] : ByteArray }))] [DV.one (Cell.lit (Value.string (valText v)))] else bif v.K == (1 : Int) then Lf [DV.one (Cell.lit (Value.string (itoaB v.N)))] [DV.one (Cell.lit (Value.string (valText v)))] else ByteArray.size x0 + ByteArray.size v.S ≤ (4611686018427387904 : Nat) ∧ ByteArray.size (x0 ++ v.S) + ByteArray.size x0 ≤ (4611686018427387904 : Nat) ∧ Lf [DV.one (Cell.lit (Value.string (x0 ++ v.S ++ x0)))] [DV.one (Cell.lit (Value.string (valText v)))]) := by kernel_rfl
theorem ok_impl_ValText : Holds EE (69, con_impl_ValText) := by
  refine holds_of EE_ok Go.Proofs.Tryz.func69 con_impl_ValText (by kernel_rfl) use_impl_ValText (all_cons ok_impl_ValOk (all_cons ok_strconv_Itoa all_nil)) ann_impl_ValText (fun (v : DVal) hp hb => ?_)
  have hb_v : BdDV (U := UU) (.agg [.lit (.int .i64 v.K), .lit (.int .i64 v.N), .lit (.string v.S)]) := hb _ (List.mem_cons_self)
  have hl_v_S : v.S.size ≤ 9223372036854775807 := Bd.str (hb_v _ (by simp))
  clear hp hb
  rw [vc_impl_ValText v]
  dsimp only
  refine if_cond (fun h => Lf_s ?_) (fun h => ?_)
  · have h : valOk v = false := by simpa using h
    simp only [valText, h]; rfl
  · have h : valOk v = true := by simpa using h
    have ev : valText v = mkB (valT v) := by simp only [valText, h, if_true]
    rw [ev]
    rcases valOk_cases h with ⟨h1, h2, h3⟩ | ⟨h1, h2⟩
    · refine if_cond (fun h => Lf_s ?_) (fun h => absurd h (by simp [h1]))
      simp only [valT, if_pos h1]; rfl
    · refine if_cond (fun h => absurd h (by simp [h1])) (fun h => ?_)
      have e : ({ data := #[(39 : UInt8)] : ByteArray } ++ v.S) = mkB (39 :: bs v.S) := by
        conv => lhs; rw [← mkB_bs v.S]
        exact mkB_app [39] _
      rw [e]
      refine ⟨?_, ?_, Lf_s ?_⟩
      · show 1 + _ ≤ _; omega
      · rw [mkB_size]; show _ + 1 ≤ _; simp only [List.length_cons, bs_len]; omega
      · simp only [valT, if_neg (show ¬ v.K = 1 by omega)]; exact mkB_app (39 :: bs v.S) [39]
def con_impl_FactText : Con UU where
  α := DFact
  md := [.ro]
  of := fun | [.agg [.lit (.string a0), .sl .eVal a1]] => some ⟨a0, a1⟩ | _ => none
  ds := fun f => [.agg [.lit (.string f.Kind), .sl .eVal f.Fields]]
  pre := fun f => []
  res := fun f => ⟨[.one (.lit (.string (factText f)))], true, []⟩
  law := by intro l x h; (try simp only at h); split at h <;> cases h; rfl
def I_impl_FactText_5 (f : DFact) : List ByteArray × Int × (ByteArray × List DVal × Unit) × Unit → Prop := fun (out, i, fb, _) => fb = (f.Kind, f.Fields, ()) ∧ factOk f = true ∧ 0 ≤ i ∧ i ≤ f.Fields.length ∧ out = (f.Fields.take i.toNat).map valText
def μ_impl_FactText_5 (f : DFact) : List ByteArray × Int × (ByteArray × List DVal × Unit) × Unit → Nat := fun (out, i, fb, _) => f.Fields.length - i.toNat
def ann_impl_FactText : con_impl_FactText.α → Nat → Option (Ann UU) := fun f => annL [(5, annOf [.slot 3 (3, 1024) (.own .str true), .slot 12 (12, 1024) (.lit (.int .i64)), .box 1 (1, 1024) [.lit .str, .shr .eVal]] (fun _ => I_impl_FactText_5 f) (μ_impl_FactText_5 f))]
def use_impl_FactText : List (FuncId × Con UU) := [(32, con_impl_FactOk), (69, con_impl_ValText), (70, con_strings_Join)]
theorem vc_impl_FactText (f : DFact) : goal EE use_impl_FactText Go.Proofs.Tryz.f44 con_impl_FactText ann_impl_FactText f = (bif !factOk f then Lf [DV.one (Cell.lit (Value.string { data := #[] : ByteArray }))] [DV.one (Cell.lit (Value.string (factText f)))]
else
  I_impl_FactText_5 f ([], (0 : Int), (f.Kind, f.Fields, PUnit.unit), PUnit.unit) ∧
    ∀ (y : List ByteArray × Int × (ByteArray × List DVal × PUnit) × PUnit),
      let x0 : ByteArray := y.2.2.1.1 ++ { data := #[(40 : UInt8)] : ByteArray } ++ joinB y.1 { data := #[(44 : UInt8)] : ByteArray };
      let x1 : List ByteArray := [valText (List.getD f.Fields (Int.toNat y.2.1) zVal)];
      let x2 : Nat := ByteArray.size (joinB y.1 { data := #[(44 : UInt8)] : ByteArray });
      I_impl_FactText_5 f y → bif decide (y.2.1 < (↑(List.length f.Fields) : Int)) then (0 : Int) ≤ y.2.1 ∧ Int.toNat y.2.1 < List.length f.Fields ∧ List.length y.1 + List.length x1 ≤ (4294967296 : Nat) ∧ I_impl_FactText_5 f (y.1 ++ x1, IntKind.wrap IntKind.i64 (y.2.1 + (1 : Int)), (y.2.2.1.1, y.2.2.1.2.1, PUnit.unit), PUnit.unit) ∧ μ_impl_FactText_5 f (y.1 ++ x1, IntKind.wrap IntKind.i64 (y.2.1 + (1 : Int)), (y.2.2.1.1, y.2.2.1.2.1, PUnit.unit), PUnit.unit) < μ_impl_FactText_5 f y else ByteArray.size y.2.2.1.1 + ByteArray.size { data := #[(40 : UInt8)] : ByteArray } ≤ (4611686018427387904 : Nat) ∧ x2 ≤ (140737488355328 : Nat) ∧ List.length y.1 ≤ (140737488355328 : Nat) ∧ ByteArray.size (y.2.2.1.1 ++ { data := #[(40 : UInt8)] : ByteArray }) + x2 ≤ (4611686018427387904 : Nat) ∧ ByteArray.size x0 + ByteArray.size { data := #[(41 : UInt8)] : ByteArray } ≤ (4611686018427387904 : Nat) ∧ Lf [DV.one (Cell.lit (Value.string (x0 ++ { data := #[(41 : UInt8)] : ByteArray })))] [DV.one (Cell.lit (Value.string (factText f)))]) := by kernel_rfl
theorem ok_impl_FactText : Holds EE (44, con_impl_FactText) := by
  refine holds_of EE_ok Go.Proofs.Tryz.func44 con_impl_FactText (by kernel_rfl) use_impl_FactText (all_cons ok_impl_FactOk (all_cons ok_impl_ValText (all_cons ok_strings_Join all_nil))) ann_impl_FactText (fun (f : DFact) hp hb => ?_)
  have hb_f : BdDV (U := UU) (.agg [.lit (.string f.Kind), .sl .eVal f.Fields]) := hb _ (List.mem_cons_self)
  have hl_f_Kind : f.Kind.size ≤ 9223372036854775807 := Bd.str (hb_f _ (by simp))
  have hl_f_Fields : f.Fields.length ≤ 9223372036854775807 := Bd.len (U := UU) (τ := .eVal) (xs := f.Fields) (hb_f _ (by simp))
  clear hp hb
  rw [vc_impl_FactText f]
  dsimp only
  refine if_cond (fun h => Lf_s ?_) (fun h => ?_)
  · have h : factOk f = false := by simpa using h
    simp only [factText, h]; rfl
  have h : factOk f = true := by simpa using h
  refine ⟨⟨rfl, h, by omega, by omega, rfl⟩, ?_⟩
  rintro ⟨out, i, fb, ⟨⟩⟩ ⟨rfl, _, h1, h2, rfl⟩
  obtain ⟨g1, g2, g3, g4⟩ := factOk_fields h
  simp only
  refine if_cond (fun hc => ?_) (fun hc => ?_)
  · have hc : i < f.Fields.length := of_decide_eq_true hc
    rw [wrap_i64 (by omega) (by omega)]
    refine ⟨h1, by omega, by simp; omega, ⟨rfl, h, by omega, by omega, ?_⟩, by simp only [μ_impl_FactText_5]; omega⟩
    rw [← take_step f.Fields zVal h1 hc, List.map_append]; rfl
  · have hc : ¬ i < f.Fields.length := of_decide_eq_false hc
    rw [take_all f.Fields (by omega)]
    have em : f.Fields.map valText = (f.Fields.map valT).map mkB := by
      rw [List.map_map]
      exact List.map_congr_left fun v hv => by
        have := List.all_eq_true.1 g2 v hv
        simp only [valText, this, if_true, Function.comp]
    have ej : joinB (f.Fields.map valText) { data := #[(44 : UInt8)] : ByteArray } = mkB (Go.Lib.join (f.Fields.map valT) [44]) := by
      rw [em, joinB_eq, List.map_map]
      have : (bs ∘ mkB) = id := funext fun l => bs_mkB l
      rw [this, List.map_id]
      rfl
    rw [ej]
    have hj := join_len f.Fields g2
    have e1 : (f.Kind ++ { data := #[(40 : UInt8)] : ByteArray }) = mkB (bs f.Kind ++ [40]) := app_mkB _ [40]
    rw [e1, mkB_app]
    refine ⟨?_, ?_, by simp; omega, ?_, ?_, Lf_s ?_⟩
    · show _ + 1 ≤ _; omega
    · rw [mkB_size]; omega
    · rw [mkB_size, mkB_size]; simp only [List.length_append, bs_len, List.length_cons, List.length_nil]; omega
    · rw [mkB_size]; show _ + 1 ≤ _; simp only [List.length_append, bs_len, List.length_cons, List.length_nil]; omega
    · simp only [factText, h, if_true]
      refine (mkB_app _ [41]).trans ?_
      simp [valsT]
def con_impl_TaskKey : Con UU where
  α := DFact
  md := [.ro]
  of := fun | [.agg [.lit (.string a0), .sl .eVal a1]] => some ⟨a0, a1⟩ | _ => none
  ds := fun f => [.agg [.lit (.string f.Kind), .sl .eVal f.Fields]]
  pre := fun f => []
  res := fun f => ⟨[.one (.lit (.string (factText f)))], true, []⟩
  law := by intro l x h; (try simp only at h); split at h <;> cases h; rfl
def ann_impl_TaskKey : con_impl_TaskKey.α → Nat → Option (Ann UU) := fun f => annL []
def use_impl_TaskKey : List (FuncId × Con UU) := [(44, con_impl_FactText)]
theorem vc_impl_TaskKey (f : DFact) : goal EE use_impl_TaskKey Go.Proofs.Tryz.f12 con_impl_TaskKey ann_impl_TaskKey f = (Lf [DV.one (Cell.lit (Value.string (factText f)))] [DV.one (Cell.lit (Value.string (factText f)))]) := by kernel_rfl
theorem ok_impl_TaskKey : Holds EE (12, con_impl_TaskKey) := by
  refine holds_of EE_ok Go.Proofs.Tryz.func12 con_impl_TaskKey (by kernel_rfl) use_impl_TaskKey (all_cons ok_impl_FactText all_nil) ann_impl_TaskKey (fun (f : DFact) hp hb => ?_)
  have hb_f : BdDV (U := UU) (.agg [.lit (.string f.Kind), .sl .eVal f.Fields]) := hb _ (List.mem_cons_self)
  have hl_f_Kind : f.Kind.size ≤ 9223372036854775807 := Bd.str (hb_f _ (by simp))
  have hl_f_Fields : f.Fields.length ≤ 9223372036854775807 := Bd.len (U := UU) (τ := .eVal) (xs := f.Fields) (hb_f _ (by simp))
  clear hp hb
  rw [vc_impl_TaskKey f]
  exact Lf_rfl _
def con_spec_TaskAt : Con UU where
  α := (List DTask) × ByteArray
  md := [.ro, .ro]
  of := fun | [.one (.sl .eTask a0), .one (.lit (.string a1))] => some (a0, a1) | _ => none
  ds := fun (l, key) => [.one (.sl .eTask l), .one (.lit (.string key))]
  pre := fun (l, key) => []
  res := fun (l, key) => ⟨[.one (.lit (.int .i64 (taskAtKey l key)))], true, []⟩
  law := by intro l x h; (try simp only at h); split at h <;> cases h; rfl
def I_spec_TaskAt_2 (l : (List DTask)) (key : ByteArray) : Int × Unit → Prop := fun (i, _) => 0 ≤ i ∧ i ≤ l.length ∧ ∀ j : Nat, (j : Int) < i → decide (factText (List.getD l j zTask).F = key) = false
def μ_spec_TaskAt_2 (l : (List DTask)) (key : ByteArray) : Int × Unit → Nat := fun (i, _) => l.length - i.toNat
def ann_spec_TaskAt : con_spec_TaskAt.α → Nat → Option (Ann UU) := fun (l, key) => annL [(2, annOf [.slot 5 (5, 1024) (.lit (.int .i64))] (fun _ => I_spec_TaskAt_2 l key) (μ_spec_TaskAt_2 l key))]
def use_spec_TaskAt : List (FuncId × Con UU) := [(71, con_spec_TaskKey)]
theorem vc_spec_TaskAt (l : (List DTask)) (key : ByteArray) : goal EE use_spec_TaskAt Go.Proofs.Tryz.f74 con_spec_TaskAt ann_spec_TaskAt (l, key) = (I_spec_TaskAt_2 l key ((0 : Int), PUnit.unit) ∧ ∀ (y : Int × PUnit), I_spec_TaskAt_2 l key y → bif decide (y.1 < (↑(List.length l) : Int)) then (0 : Int) ≤ y.1 ∧ Int.toNat y.1 < List.length l ∧ bif ByteArray.toList (factText (List.getD l (Int.toNat y.1) zTask).F) == ByteArray.toList key then Lf [DV.one (Cell.lit (Value.int IntKind.i64 y.1))] [DV.one (Cell.lit (Value.int IntKind.i64 (taskAtKey l key)))] else I_spec_TaskAt_2 l key (IntKind.wrap IntKind.i64 (y.1 + (1 : Int)), PUnit.unit) ∧ μ_spec_TaskAt_2 l key (IntKind.wrap IntKind.i64 (y.1 + (1 : Int)), PUnit.unit) < μ_spec_TaskAt_2 l key y else Lf [DV.one (Cell.lit (Value.int IntKind.i64 (-1 : Int)))] [DV.one (Cell.lit (Value.int IntKind.i64 (taskAtKey l key)))]) := by kernel_rfl
theorem ok_spec_TaskAt : Holds EE (74, con_spec_TaskAt) := by
  refine holds_of EE_ok Go.Proofs.Tryz.func74 con_spec_TaskAt (by kernel_rfl) use_spec_TaskAt (all_cons ok_spec_TaskKey all_nil) ann_spec_TaskAt (fun x hp hb => ?_)
  obtain ⟨l, key⟩ := x
  have hb_l : BdDV (U := UU) (.one (.sl .eTask l)) := hb _ (List.mem_cons_self)
  have hl_l : l.length ≤ 9223372036854775807 := Bd.len hb_l
  have hb_key : BdDV (U := UU) (.one (.lit (.string key))) := hb _ (List.mem_cons_of_mem _ (List.mem_cons_self))
  have hl_key : key.size ≤ 9223372036854775807 := Bd.str hb_key
  clear hp hb
  rw [vc_spec_TaskAt l key]
  refine ⟨⟨by omega, by omega, by intro j hj; omega⟩, ?_⟩
  rintro ⟨i, ⟨⟩⟩ ⟨h1, h2, hR⟩
  simp only
  refine if_cond (fun hc => ?_) (fun hc => ?_)
  · have hc : i < l.length := of_decide_eq_true hc
    simp (disch := omega) only [wrap_i64, toList_beq]
    refine ⟨by omega, by omega, if_cond (fun h => Lf_i ?_) (fun h => ⟨⟨by omega, by omega, upto_no (p := fun j => decide (factText (List.getD l j zTask).F = key)) h1 hR h⟩, by simp only [μ_spec_TaskAt_2]; omega⟩)⟩
    rw [taskAtKey, idxI_found (i := i.toNat) (by omega) h (fun j hj => hR j (by omega))]
    omega
  · have hc : ¬ i < l.length := of_decide_eq_false hc
    exact Lf_i (idxI_none (fun j hj => hR j (by omega))).symm
def con_impl_TaskAt_1 : Con UU where
  α := DTask × ByteArray
  md := [.ro, .ro]
  of := fun | [.agg [.lit (.string a0), .sl .eVal a1, .lit (.string a2), .lit (.int .i64 a3), .lit (.int .i64 a4), .lit (.int .i64 a5), .lit (.int .i64 a6), .lit (.int .i64 a7), .lit (.string a8)], .ptr [.lit (.string a9)]] => some (⟨⟨a0, a1⟩, a2, a3, a4, a5, ⟨a6, a7, a8⟩⟩, a9) | _ => none
  ds := fun (t, key) => [.agg [.lit (.string t.F.Kind), .sl .eVal t.F.Fields, .lit (.string t.Undo), .lit (.int .i64 t.State), .lit (.int .i64 t.Tries), .lit (.int .i64 t.Due), .lit (.int .i64 t.V.K), .lit (.int .i64 t.V.N), .lit (.string t.V.S)], .ptr [.lit (.string key)]]
  pre := fun (t, key) => []
  res := fun (t, key) => ⟨[.one (.lit (.bool (decide (factText t.F = key))))], true, []⟩
  law := by intro l x h; (try simp only at h); split at h <;> cases h; rfl
def ann_impl_TaskAt_1 : con_impl_TaskAt_1.α → Nat → Option (Ann UU) := fun (t, key) => annL []
def use_impl_TaskAt_1 : List (FuncId × Con UU) := [(12, con_impl_TaskKey)]
theorem vc_impl_TaskAt_1 (t : DTask) (key : ByteArray) : goal EE use_impl_TaskAt_1 Go.Proofs.Tryz.f43 con_impl_TaskAt_1 ann_impl_TaskAt_1 (t, key) = (Lf [DV.one (Cell.lit (Value.bool (ByteArray.toList (factText t.F) == ByteArray.toList key)))] [DV.one (Cell.lit (Value.bool (decide (factText t.F = key))))]) := by kernel_rfl
theorem ok_impl_TaskAt_1 : Holds EE (43, con_impl_TaskAt_1) := by
  refine holds_of EE_ok Go.Proofs.Tryz.func43 con_impl_TaskAt_1 (by kernel_rfl) use_impl_TaskAt_1 (all_cons ok_impl_TaskKey all_nil) ann_impl_TaskAt_1 (fun x hp hb => ?_)
  obtain ⟨t, key⟩ := x
  have hb_t : BdDV (U := UU) (.agg [.lit (.string t.F.Kind), .sl .eVal t.F.Fields, .lit (.string t.Undo), .lit (.int .i64 t.State), .lit (.int .i64 t.Tries), .lit (.int .i64 t.Due), .lit (.int .i64 t.V.K), .lit (.int .i64 t.V.N), .lit (.string t.V.S)]) := hb _ (List.mem_cons_self)
  have hl_t_F_Kind : t.F.Kind.size ≤ 9223372036854775807 := Bd.str (hb_t _ (by simp))
  have hl_t_F_Fields : t.F.Fields.length ≤ 9223372036854775807 := Bd.len (U := UU) (τ := .eVal) (xs := t.F.Fields) (hb_t _ (by simp))
  have hl_t_Undo : t.Undo.size ≤ 9223372036854775807 := Bd.str (hb_t _ (by simp))
  have hl_t_V_S : t.V.S.size ≤ 9223372036854775807 := Bd.str (hb_t _ (by simp))
  have hb_key : BdDV (U := UU) (.ptr [.lit (.string key)]) := hb _ (List.mem_cons_of_mem _ (List.mem_cons_self))
  have hl_key : key.size ≤ 9223372036854775807 := Bd.str (hb_key _ (by simp))
  clear hp hb
  rw [vc_impl_TaskAt_1 t key]
  rw [toList_beq]
  exact Lf_rfl _
def con_impl_TaskAt : Con UU where
  α := (List DTask) × ByteArray
  md := [.ro, .ro]
  of := fun | [.one (.sl .eTask a0), .one (.lit (.string a1))] => some (a0, a1) | _ => none
  ds := fun (l, key) => [.one (.sl .eTask l), .one (.lit (.string key))]
  pre := fun (l, key) => []
  res := fun (l, key) => ⟨[.one (.lit (.int .i64 (taskAtKey l key)))], true, []⟩
  law := by intro l x h; (try simp only at h); split at h <;> cases h; rfl
def ann_impl_TaskAt : con_impl_TaskAt.α → Nat → Option (Ann UU) := fun (l, key) => annL []
def use_impl_TaskAt : List (FuncId × Con UU) := [(42, con_IndexFuncTask), (43, con_impl_TaskAt_1)]
theorem vc_impl_TaskAt (l : (List DTask)) (key : ByteArray) : goal EE use_impl_TaskAt Go.Proofs.Tryz.f11 con_impl_TaskAt ann_impl_TaskAt (l, key) = ((∀ (j : Nat), j < List.length l → closP con_impl_TaskAt_1 [DV.ptr [Cell.lit (Value.string key)]] [daTask (List.getD l j zTask)] = some (Value.bool (boolOf (closP con_impl_TaskAt_1 [DV.ptr [Cell.lit (Value.string key)]] [daTask (List.getD l j zTask)])))) ∧ Lf [DV.one (Cell.lit (Value.int IntKind.i64 (idxI (List.length l) fun (j : Nat) => boolOf (closP con_impl_TaskAt_1 [DV.ptr [Cell.lit (Value.string key)]] [daTask (List.getD l j zTask)]))))] [DV.one (Cell.lit (Value.int IntKind.i64 (taskAtKey l key)))]) := by kernel_rfl
theorem ok_impl_TaskAt : Holds EE (11, con_impl_TaskAt) := by
  refine holds_of EE_ok Go.Proofs.Tryz.func11 con_impl_TaskAt (by kernel_rfl) use_impl_TaskAt (all_cons ok_IndexFuncTask (all_cons ok_impl_TaskAt_1 all_nil)) ann_impl_TaskAt (fun x hp hb => ?_)
  obtain ⟨l, key⟩ := x
  have hb_l : BdDV (U := UU) (.one (.sl .eTask l)) := hb _ (List.mem_cons_self)
  have hl_l : l.length ≤ 9223372036854775807 := Bd.len hb_l
  have hb_key : BdDV (U := UU) (.one (.lit (.string key))) := hb _ (List.mem_cons_of_mem _ (List.mem_cons_self))
  have hl_key : key.size ≤ 9223372036854775807 := Bd.str hb_key
  clear hp hb
  rw [vc_impl_TaskAt l key]
  have hc : ∀ x : DTask, closP con_impl_TaskAt_1 [.ptr [.lit (.string key)]] [daTask x] = some (.bool (decide (factText x.F = key))) := fun x => closP_of (x := (x, key)) rfl rfl rfl rfl (by simp [con_impl_TaskAt_1])
  refine ⟨fun j hj => ?_, Lf_i ?_⟩
  · show closP con_impl_TaskAt_1 [.ptr [.lit (.string key)]] [daTask (List.getD l j zTask)] = _
    rw [hc]; rfl
  · exact idxI_congr fun j hj => by
      show boolOf (closP con_impl_TaskAt_1 [.ptr [.lit (.string key)]] [daTask (List.getD l j zTask)]) = _
      rw [hc]; rfl
theorem size_map_giveUp (l : List DTask) : cntTaskS (giveUp l) = cntTaskS l := by
  unfold cntTaskS giveUp ctS
  rw [List.map_map]
  congr 1
  refine List.map_congr_left fun t _ => ?_
  simp only [Function.comp, giveUp1]
  split <;> rfl
def instNew (now : Int) : DInst := if 0 ≤ now ∧ now ≤ 1000000000 then ⟨⟨[], 1⟩, [], [], [], [], 1, now⟩ else zInst
theorem instNew_ct (n : Int) : ctInst (instNew n) = 0 := by unfold instNew; split <;> rfl
def con_spec_l18Copy : Con UU where
  α := (List DTask)
  md := [.ro]
  of := fun | [.one (.sl .eTask a0)] => some a0 | _ => none
  ds := fun l => [.one (.sl .eTask l)]
  pre := fun l => [sizeTaskS l ≤ 4294967296]
  res := fun l => ⟨[.one (.sl .eTask l)], true, []⟩
  law := by intro l x h; (try simp only at h); split at h <;> cases h; rfl
def I_spec_l18Copy_3 (l : (List DTask)) : List DTask × Int × Unit → Prop := fun (out, i, _) => 0 ≤ i ∧ i ≤ l.length ∧ out = l.take i.toNat
def μ_spec_l18Copy_3 (l : (List DTask)) : List DTask × Int × Unit → Nat := fun (out, i, _) => l.length - i.toNat
def ann_spec_l18Copy : con_spec_l18Copy.α → Nat → Option (Ann UU) := fun l => annL [(3, annOf [.slot 3 (3, 1024) (.own .eTask true), .slot 4 (4, 1024) (.lit (.int .i64))] (fun _ => I_spec_l18Copy_3 l) (μ_spec_l18Copy_3 l))]
def use_spec_l18Copy : List (FuncId × Con UU) := [(59, con_spec_l3Copy)]
theorem vc_spec_l18Copy (l : (List DTask)) : goal EE use_spec_l18Copy Go.Proofs.Tryz.f37 con_spec_l18Copy ann_spec_l18Copy l = (I_spec_l18Copy_3 l ([], (0 : Int), PUnit.unit) ∧
  ∀ (y : List DTask × Int × PUnit),
    let x0 : List DTask := [List.getD l (Int.toNat y.2.1) zTask];
    let x1 : Nat := Int.toNat y.2.1;
    I_spec_l18Copy_3 l y → bif decide (y.2.1 < (↑(List.length l) : Int)) then (0 : Int) ≤ y.2.1 ∧ x1 < List.length l ∧ List.length (List.getD l x1 zTask).F.Fields ≤ (4294967296 : Nat) ∧ List.length y.1 + List.length x0 ≤ (4294967296 : Nat) ∧ I_spec_l18Copy_3 l (y.1 ++ x0, IntKind.wrap IntKind.i64 (y.2.1 + (1 : Int)), PUnit.unit) ∧ μ_spec_l18Copy_3 l (y.1 ++ x0, IntKind.wrap IntKind.i64 (y.2.1 + (1 : Int)), PUnit.unit) < μ_spec_l18Copy_3 l y else Lf [DV.one (Cell.sl Cd.eTask y.1)] [DV.one (Cell.sl Cd.eTask l)]) := by kernel_rfl
theorem ok_spec_l18Copy : Holds EE (37, con_spec_l18Copy) := by
  refine holds_of EE_ok Go.Proofs.Tryz.func37 con_spec_l18Copy (by kernel_rfl) use_spec_l18Copy (all_cons ok_spec_l3Copy all_nil) ann_spec_l18Copy (fun (l : (List DTask)) hp hb => ?_)
  have hb_l : BdDV (U := UU) (.one (.sl .eTask l)) := hb _ (List.mem_cons_self)
  have hl_l : l.length ≤ 9223372036854775807 := Bd.len hb_l
  have hp0 : sizeTaskS l ≤ 4294967296 := hp _ (List.mem_cons_self)
  clear hp hb
  rw [vc_spec_l18Copy l]
  dsimp only
  refine ⟨⟨by omega, by omega, by simp⟩, ?_⟩
  rintro ⟨out, i, ⟨⟩⟩ ⟨h1, h2, rfl⟩
  simp only
  refine if_cond (fun hc => ?_) (fun hc => ?_)
  · have hc := of_decide_eq_true hc
    have hs := sum_getD_le sizeTask l zTask h1 hc
    simp only [sizeTaskS] at hp0
    have hx := hs
    simp only [sizeTask, sizeFact, sizeValS] at hx
    rw [take_step l zTask h1 hc, wrap_i64 (by omega) (by omega)]
    repeat' (first | refine And.intro (by omega) ?_ | fail)
    refine ⟨by simp; omega, ⟨by omega, by omega, rfl⟩, by simp only [μ_spec_l18Copy_3]; omega⟩
  · have hc := of_decide_eq_false hc
    rw [take_all l (by omega)]
    exact Lf_rfl _
def con_impl_copyTasks : Con UU where
  α := (List DTask)
  md := [.ro]
  of := fun | [.one (.sl .eTask a0)] => some a0 | _ => none
  ds := fun l => [.one (.sl .eTask l)]
  pre := fun l => [sizeTaskS l ≤ 4294967296]
  res := fun l => ⟨[.one (.sl .eTask l)], true, []⟩
  law := by intro l x h; (try simp only at h); split at h <;> cases h; rfl
def I_impl_copyTasks_3 (l : (List DTask)) : List DTask × Int × Unit → Prop := fun (out, i, _) => 0 ≤ i ∧ i ≤ l.length ∧ out = l.take i.toNat
def μ_impl_copyTasks_3 (l : (List DTask)) : List DTask × Int × Unit → Nat := fun (out, i, _) => l.length - i.toNat
def ann_impl_copyTasks : con_impl_copyTasks.α → Nat → Option (Ann UU) := fun l => annL [(3, annOf [.slot 3 (3, 1024) (.own .eTask true), .slot 8 (8, 1024) (.lit (.int .i64))] (fun _ => I_impl_copyTasks_3 l) (μ_impl_copyTasks_3 l))]
def use_impl_copyTasks : List (FuncId × Con UU) := [(36, con_impl_copyFact)]
theorem vc_impl_copyTasks (l : (List DTask)) : goal EE use_impl_copyTasks Go.Proofs.Tryz.f31 con_impl_copyTasks ann_impl_copyTasks l = (I_impl_copyTasks_3 l ([], (0 : Int), PUnit.unit) ∧
  ∀ (y : List DTask × Int × PUnit),
    let x0 : List DTask := [List.getD l (Int.toNat y.2.1) zTask];
    let x1 : Nat := Int.toNat y.2.1;
    I_impl_copyTasks_3 l y → bif decide (y.2.1 < (↑(List.length l) : Int)) then (0 : Int) ≤ y.2.1 ∧ x1 < List.length l ∧ List.length (List.getD l x1 zTask).F.Fields ≤ (4294967296 : Nat) ∧ List.length y.1 + List.length x0 ≤ (4294967296 : Nat) ∧ I_impl_copyTasks_3 l (y.1 ++ x0, IntKind.wrap IntKind.i64 (y.2.1 + (1 : Int)), PUnit.unit) ∧ μ_impl_copyTasks_3 l (y.1 ++ x0, IntKind.wrap IntKind.i64 (y.2.1 + (1 : Int)), PUnit.unit) < μ_impl_copyTasks_3 l y else Lf [DV.one (Cell.sl Cd.eTask y.1)] [DV.one (Cell.sl Cd.eTask l)]) := by kernel_rfl
theorem ok_impl_copyTasks : Holds EE (31, con_impl_copyTasks) := by
  refine holds_of EE_ok Go.Proofs.Tryz.func31 con_impl_copyTasks (by kernel_rfl) use_impl_copyTasks (all_cons ok_impl_copyFact all_nil) ann_impl_copyTasks (fun (l : (List DTask)) hp hb => ?_)
  have hb_l : BdDV (U := UU) (.one (.sl .eTask l)) := hb _ (List.mem_cons_self)
  have hl_l : l.length ≤ 9223372036854775807 := Bd.len hb_l
  have hp0 : sizeTaskS l ≤ 4294967296 := hp _ (List.mem_cons_self)
  clear hp hb
  rw [vc_impl_copyTasks l]
  dsimp only
  refine ⟨⟨by omega, by omega, by simp⟩, ?_⟩
  rintro ⟨out, i, ⟨⟩⟩ ⟨h1, h2, rfl⟩
  simp only
  refine if_cond (fun hc => ?_) (fun hc => ?_)
  · have hc := of_decide_eq_true hc
    have hs := sum_getD_le sizeTask l zTask h1 hc
    simp only [sizeTaskS] at hp0
    have hx := hs
    simp only [sizeTask, sizeFact, sizeValS] at hx
    rw [take_step l zTask h1 hc, wrap_i64 (by omega) (by omega)]
    repeat' (first | refine And.intro (by omega) ?_ | fail)
    refine ⟨by simp; omega, ⟨by omega, by omega, rfl⟩, by simp only [μ_impl_copyTasks_3]; omega⟩
  · have hc := of_decide_eq_false hc
    rw [take_all l (by omega)]
    exact Lf_rfl _
def hasUndo (l : List DUndo) (key : ByteArray) : Bool := hasKey l key
def canPush (l : List DUndo) (t : DTask) : Bool := undosOk l && factOk t.F && nameOk t.Undo && !hasKey l (factText t.F) && !decide (30 ≤ l.length)
def pushUndo (l : List DUndo) (t : DTask) : List DUndo × Bool := if canPush l t = true then (l ++ [⟨factText t.F, ⟨t.Undo, t.F.Fields⟩⟩], true) else (l, false)
def replied (ok : Bool) (v : DVal) (t : DTask) : DTask := ⟨t.F, t.Undo, if ok = true then 3 else 4, t.Tries, t.Due, v⟩
def replyTask (l : List DTask) (key : ByteArray) (ok : Bool) (v : DVal) : List DTask × Int :=
  if tasksOk l = true ∧ valOk v = true ∧ 0 ≤ taskAtKey l key ∧ (List.getD l (taskAtKey l key).toNat zTask).State ≠ 1 then
    (if (List.getD l (taskAtKey l key).toNat zTask).State = 2 then (l.modify (taskAtKey l key).toNat (replied ok v), 1) else (l, 2)) else (l, 3)
def due (now : Int) (t : DTask) : Bool := isOpen t && decide (t.Due ≤ now)
def send1 (now : Int) (t : DTask) : DTask := if due now t = true then (if t.Tries = 4 then ⟨t.F, t.Undo, 4, t.Tries, t.Due, t.V⟩ else ⟨t.F, t.Undo, 2, t.Tries + 1, now + backoff 2 (t.Tries + 1) 60, t.V⟩) else t
def call1 (now : Int) (t : DTask) : List DCall := if due now t = true ∧ t.Tries ≠ 4 then [⟨factText t.F, t.F, t.Tries + 1⟩] else []
def fail1 (now : Int) (t : DTask) : List ByteArray := if due now t = true ∧ t.Tries = 4 then [factText t.F] else []
end
end AM
