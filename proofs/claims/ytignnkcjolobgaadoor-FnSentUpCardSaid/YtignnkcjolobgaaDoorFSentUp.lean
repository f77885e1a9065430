/- Functions of the program with their contracts: put together by gen/link.py for FnSentUp. -/
import Derived.Test.YtignnkcjolobgaaDoorAmLib
import Derived.Test.YtignnkcjolobgaaDoorAmModels
import Derived.Lib.ItoaLen
import Derived.Lib.Join
import Derived.Test.YtignnkcjolobgaaDoorShelf
namespace AM
open Go
set_option linter.unusedVariables false
set_option linter.unusedSimpArgs false
set_option maxRecDepth 100000
noncomputable section
def smallB (b : Int) : Bool := decide (97 ≤ b ∧ b ≤ 122)
def wordB (b : Int) : Bool := smallB b || decide (48 ≤ b ∧ b ≤ 57) || decide (b = 95)
def wordS (s : ByteArray) : Bool := (bs s).all (byteP wordB)
def nameOk (s : ByteArray) : Bool := decide (1 ≤ s.size ∧ s.size ≤ 12) && smallB (List.getD (bs s) 0 0).toNat && wordS s
def valOk (v : DVal) : Bool := bif decide (v.K = 1) then decide (-1000000000 ≤ v.N ∧ v.N ≤ 1000000000) && decide (v.S = noBytes) else bif decide (v.K = 2) then decide (v.N = 0) && decide (v.S.size ≤ 20) && wordS v.S else false
def factOk (f : DFact) : Bool := nameOk f.Kind && decide (f.Fields.length ≤ 5) && f.Fields.all valOk
def con_impl_inRange : Con UU where
  α := Int × Int × Int
  md := [.ro, .ro, .ro]
  of := fun | [.one (.lit (.int .i64 a0)), .one (.lit (.int .i64 a1)), .one (.lit (.int .i64 a2))] => some (a0, a1, a2) | _ => none
  ds := fun (n, least, most) => [.one (.lit (.int .i64 n)), .one (.lit (.int .i64 least)), .one (.lit (.int .i64 most))]
  pre := fun (n, least, most) => []
  res := fun (n, least, most) => ⟨[.one (.lit (.bool (decide (least ≤ n ∧ n ≤ most))))], true, []⟩
  law := by intro l x h; (try simp only at h); split at h <;> cases h; rfl
def ann_impl_inRange : con_impl_inRange.α → Nat → Option (Ann UU) := fun (n, least, most) => annL []
def use_impl_inRange : List (FuncId × Con UU) := []
theorem vc_impl_inRange (n : Int) (least : Int) (most : Int) : goal EE use_impl_inRange Go.Proofs.Tryd.f50 con_impl_inRange ann_impl_inRange (n, least, most) = (bif decide (n ≥ least) then Lf [DV.one (Cell.lit (Value.bool (decide (n ≤ most))))] [DV.one (Cell.lit (Value.bool (decide (least ≤ n ∧ n ≤ most))))] else Lf [DV.one (Cell.lit (Value.bool false))] [DV.one (Cell.lit (Value.bool (decide (least ≤ n ∧ n ≤ most))))]) := by kernel_rfl
theorem ok_impl_inRange : Holds EE (50, con_impl_inRange) := by
  refine holds_of EE_ok Go.Proofs.Tryd.func50 con_impl_inRange (by kernel_rfl) use_impl_inRange all_nil ann_impl_inRange (fun x hp hb => ?_)
  obtain ⟨n, least, most⟩ := x
  have hb_n : BdDV (U := UU) (.one (.lit (.int .i64 n))) := hb _ (List.mem_cons_self)
  have hl_n := Bd.i64 hb_n
  have hb_least : BdDV (U := UU) (.one (.lit (.int .i64 least))) := hb _ (List.mem_cons_of_mem _ (List.mem_cons_self))
  have hl_least := Bd.i64 hb_least
  have hb_most : BdDV (U := UU) (.one (.lit (.int .i64 most))) := hb _ (List.mem_cons_of_mem _ (List.mem_cons_of_mem _ (List.mem_cons_self)))
  have hl_most := Bd.i64 hb_most
  clear hp hb
  rw [vc_impl_inRange n least most]
  refine if_cond (fun h => Lf_b ?_) (fun h => Lf_b ?_) <;> grind
def con_impl_isSmall : Con UU where
  α := Int
  md := [.ro]
  of := fun | [.one (.lit (.int .u8 a0))] => some a0 | _ => none
  ds := fun b => [.one (.lit (.int .u8 b))]
  pre := fun b => []
  res := fun b => ⟨[.one (.lit (.bool (smallB b)))], true, []⟩
  law := by intro l x h; (try simp only at h); split at h <;> cases h; rfl
def ann_impl_isSmall : con_impl_isSmall.α → Nat → Option (Ann UU) := fun b => annL []
def use_impl_isSmall : List (FuncId × Con UU) := []
theorem vc_impl_isSmall (b : Int) : goal EE use_impl_isSmall Go.Proofs.Tryd.f56 con_impl_isSmall ann_impl_isSmall b = (bif decide (b ≥ (97 : Int)) then Lf [DV.one (Cell.lit (Value.bool (decide (b ≤ (122 : Int)))))] [DV.one (Cell.lit (Value.bool (smallB b)))] else Lf [DV.one (Cell.lit (Value.bool false))] [DV.one (Cell.lit (Value.bool (smallB b)))]) := by kernel_rfl
theorem ok_impl_isSmall : Holds EE (56, con_impl_isSmall) := by
  refine holds_of EE_ok Go.Proofs.Tryd.func56 con_impl_isSmall (by kernel_rfl) use_impl_isSmall all_nil ann_impl_isSmall (fun (b : Int) hp hb => ?_)
  have hb_b : BdDV (U := UU) (.one (.lit (.int .u8 b))) := hb _ (List.mem_cons_self)
  clear hp hb
  rw [vc_impl_isSmall b]
  refine if_cond (fun h => Lf_b ?_) (fun h => Lf_b ?_) <;> grind [smallB]
def con_impl_isDigit : Con UU where
  α := Int
  md := [.ro]
  of := fun | [.one (.lit (.int .u8 a0))] => some a0 | _ => none
  ds := fun b => [.one (.lit (.int .u8 b))]
  pre := fun b => []
  res := fun b => ⟨[.one (.lit (.bool (decide (48 ≤ b ∧ b ≤ 57))))], true, []⟩
  law := by intro l x h; (try simp only at h); split at h <;> cases h; rfl
def ann_impl_isDigit : con_impl_isDigit.α → Nat → Option (Ann UU) := fun b => annL []
def use_impl_isDigit : List (FuncId × Con UU) := []
theorem vc_impl_isDigit (b : Int) : goal EE use_impl_isDigit Go.Proofs.Tryd.f77 con_impl_isDigit ann_impl_isDigit b = (bif decide (b ≥ (48 : Int)) then Lf [DV.one (Cell.lit (Value.bool (decide (b ≤ (57 : Int)))))] [DV.one (Cell.lit (Value.bool (decide ((48 : Int) ≤ b ∧ b ≤ (57 : Int)))))] else Lf [DV.one (Cell.lit (Value.bool false))] [DV.one (Cell.lit (Value.bool (decide ((48 : Int) ≤ b ∧ b ≤ (57 : Int)))))]) := by kernel_rfl
theorem ok_impl_isDigit : Holds EE (77, con_impl_isDigit) := by
  refine holds_of EE_ok Go.Proofs.Tryd.func77 con_impl_isDigit (by kernel_rfl) use_impl_isDigit all_nil ann_impl_isDigit (fun (b : Int) hp hb => ?_)
  have hb_b : BdDV (U := UU) (.one (.lit (.int .u8 b))) := hb _ (List.mem_cons_self)
  clear hp hb
  rw [vc_impl_isDigit b]
  refine if_cond (fun h => Lf_b ?_) (fun h => Lf_b ?_) <;> grind
def con_impl_isWordByte : Con UU where
  α := Int
  md := [.ro]
  of := fun | [.one (.lit (.int .u8 a0))] => some a0 | _ => none
  ds := fun b => [.one (.lit (.int .u8 b))]
  pre := fun b => []
  res := fun b => ⟨[.one (.lit (.bool (wordB b)))], true, []⟩
  law := by intro l x h; (try simp only at h); split at h <;> cases h; rfl
def ann_impl_isWordByte : con_impl_isWordByte.α → Nat → Option (Ann UU) := fun b => annL []
def use_impl_isWordByte : List (FuncId × Con UU) := [(56, con_impl_isSmall), (77, con_impl_isDigit)]
theorem vc_impl_isWordByte (b : Int) : goal EE use_impl_isWordByte Go.Proofs.Tryd.f69 con_impl_isWordByte ann_impl_isWordByte b = (bif smallB b then Lf [DV.one (Cell.lit (Value.bool true))] [DV.one (Cell.lit (Value.bool (wordB b)))] else bif decide ((48 : Int) ≤ b ∧ b ≤ (57 : Int)) then Lf [DV.one (Cell.lit (Value.bool true))] [DV.one (Cell.lit (Value.bool (wordB b)))] else Lf [DV.one (Cell.lit (Value.bool (b == (95 : Int))))] [DV.one (Cell.lit (Value.bool (wordB b)))]) := by kernel_rfl
theorem ok_impl_isWordByte : Holds EE (69, con_impl_isWordByte) := by
  refine holds_of EE_ok Go.Proofs.Tryd.func69 con_impl_isWordByte (by kernel_rfl) use_impl_isWordByte (all_cons ok_impl_isSmall (all_cons ok_impl_isDigit all_nil)) ann_impl_isWordByte (fun (b : Int) hp hb => ?_)
  have hb_b : BdDV (U := UU) (.one (.lit (.int .u8 b))) := hb _ (List.mem_cons_self)
  clear hp hb
  rw [vc_impl_isWordByte b]
  refine if_cond (fun h => Lf_b ?_) (fun h => ?_)
  · grind [wordB]
  refine if_cond (fun h => Lf_b ?_) (fun h => Lf_b ?_) <;> grind [wordB]
def con_impl_isWord : Con UU where
  α := ByteArray × Int
  md := [.ro, .ro]
  of := fun | [.one (.lit (.string a0)), .one (.lit (.int .i64 a1))] => some (a0, a1) | _ => none
  ds := fun (s, most) => [.one (.lit (.string s)), .one (.lit (.int .i64 most))]
  pre := fun (s, most) => []
  res := fun (s, most) => ⟨[.one (.lit (.bool (decide (s.size ≤ most) && wordS s)))], true, []⟩
  law := by intro l x h; (try simp only at h); split at h <;> cases h; rfl
def I_impl_isWord_4 (s : ByteArray) (most : Int) : Int × Unit → Prop := fun (i, _) => 0 ≤ i ∧ i ≤ s.size ∧ s.size ≤ most ∧ ((bs s).drop i.toNat).all (byteP wordB) = wordS s
def μ_impl_isWord_4 (s : ByteArray) (most : Int) : Int × Unit → Nat := fun (i, _) => s.size - i.toNat
def ann_impl_isWord : con_impl_isWord.α → Nat → Option (Ann UU) := fun (s, most) => annL [(4, annOf [.slot 5 (5, 1024) (.lit (.int .i64))] (fun _ => I_impl_isWord_4 s most) (μ_impl_isWord_4 s most))]
def use_impl_isWord : List (FuncId × Con UU) := [(69, con_impl_isWordByte)]
theorem vc_impl_isWord (s : ByteArray) (most : Int) : goal EE use_impl_isWord Go.Proofs.Tryd.f57 con_impl_isWord ann_impl_isWord (s, most) = (bif decide ((↑(ByteArray.size s) : Int) > most) then Lf [DV.one (Cell.lit (Value.bool false))] [DV.one (Cell.lit (Value.bool (decide ((↑(ByteArray.size s) : Int) ≤ most) && wordS s)))] else I_impl_isWord_4 s most ((0 : Int), PUnit.unit) ∧ ∀ (y : Int × PUnit), I_impl_isWord_4 s most y → bif decide (y.1 < (↑(ByteArray.size s) : Int)) then (0 : Int) ≤ y.1 ∧ Int.toNat y.1 < ByteArray.size s ∧ bif !wordB (↑(UInt8.toNat (List.getD s.data.toList (Int.toNat y.1) (0 : UInt8))) : Int) then Lf [DV.one (Cell.lit (Value.bool false))] [DV.one (Cell.lit (Value.bool (decide ((↑(ByteArray.size s) : Int) ≤ most) && wordS s)))] else I_impl_isWord_4 s most (IntKind.wrap IntKind.i64 (y.1 + (1 : Int)), PUnit.unit) ∧ μ_impl_isWord_4 s most (IntKind.wrap IntKind.i64 (y.1 + (1 : Int)), PUnit.unit) < μ_impl_isWord_4 s most y else Lf [DV.one (Cell.lit (Value.bool true))] [DV.one (Cell.lit (Value.bool (decide ((↑(ByteArray.size s) : Int) ≤ most) && wordS s)))]) := by kernel_rfl
theorem ok_impl_isWord : Holds EE (57, con_impl_isWord) := by
  refine holds_of EE_ok Go.Proofs.Tryd.func57 con_impl_isWord (by kernel_rfl) use_impl_isWord (all_cons ok_impl_isWordByte all_nil) ann_impl_isWord (fun x hp hb => ?_)
  obtain ⟨s, most⟩ := x
  have hb_s : BdDV (U := UU) (.one (.lit (.string s))) := hb _ (List.mem_cons_self)
  have hl_s : s.size ≤ 9223372036854775807 := Bd.str hb_s
  have hb_most : BdDV (U := UU) (.one (.lit (.int .i64 most))) := hb _ (List.mem_cons_of_mem _ (List.mem_cons_self))
  have hl_most := Bd.i64 hb_most
  clear hp hb
  rw [vc_impl_isWord s most]
  refine if_cond (fun h => Lf_ff ?_) (fun h => ?_)
  · have h := of_decide_eq_true h; rw [decide_eq_false (by omega)]; rfl
  have h0 := of_decide_eq_false h
  refine ⟨⟨by omega, by omega, by omega, rfl⟩, ?_⟩
  rintro ⟨i, ⟨⟩⟩ ⟨h1, h2, h3, hR⟩
  have hl := bs_len s
  simp only [bs_eq]
  refine if_cond (fun hc => ?_) (fun hc => ?_)
  · have hc := of_decide_eq_true hc
    rw [all_step _ _ 0 h1 (by omega)] at hR
    rw [wrap_i64 (by omega) (by omega)]
    refine ⟨by omega, by omega, if_cond (fun h => Lf_ff ?_) (fun h => ⟨⟨by omega, by omega, by omega, ?_⟩, ?_⟩)⟩
    · rw [← hR]; simp only [byteP]; simp at h; simp [h]
    · rw [← hR]; simp only [byteP]; simp at h; simp [h]
    · simp only [μ_impl_isWord_4]; omega
  · have hc := of_decide_eq_false hc
    rw [drop_end _ (by omega)] at hR
    exact Lf_tt (by rw [← hR, decide_eq_true h3]; rfl)
def con_impl_NameOk : Con UU where
  α := ByteArray
  md := [.ro]
  of := fun | [.one (.lit (.string a0))] => some a0 | _ => none
  ds := fun s => [.one (.lit (.string s))]
  pre := fun s => []
  res := fun s => ⟨[.one (.lit (.bool (nameOk s)))], true, []⟩
  law := by intro l x h; (try simp only at h); split at h <;> cases h; rfl
def ann_impl_NameOk : con_impl_NameOk.α → Nat → Option (Ann UU) := fun s => annL []
def use_impl_NameOk : List (FuncId × Con UU) := [(56, con_impl_isSmall), (57, con_impl_isWord)]
theorem vc_impl_NameOk (s : ByteArray) : goal EE use_impl_NameOk Go.Proofs.Tryd.f34 con_impl_NameOk ann_impl_NameOk s = (bif decide ((↑(ByteArray.size s) : Int) > (0 : Int)) then (0 : Int) ≤ (0 : Int) ∧ Int.toNat (0 : Int) < ByteArray.size s ∧ bif smallB (↑(UInt8.toNat (List.getD s.data.toList (Int.toNat (0 : Int)) (0 : UInt8))) : Int) then Lf [DV.one (Cell.lit (Value.bool (decide ((↑(ByteArray.size s) : Int) ≤ (12 : Int)) && wordS s)))] [DV.one (Cell.lit (Value.bool (nameOk s)))] else Lf [DV.one (Cell.lit (Value.bool false))] [DV.one (Cell.lit (Value.bool (nameOk s)))] else Lf [DV.one (Cell.lit (Value.bool false))] [DV.one (Cell.lit (Value.bool (nameOk s)))]) := by kernel_rfl
theorem ok_impl_NameOk : Holds EE (34, con_impl_NameOk) := by
  refine holds_of EE_ok Go.Proofs.Tryd.func34 con_impl_NameOk (by kernel_rfl) use_impl_NameOk (all_cons ok_impl_isSmall (all_cons ok_impl_isWord all_nil)) ann_impl_NameOk (fun (s : ByteArray) hp hb => ?_)
  have hb_s : BdDV (U := UU) (.one (.lit (.string s))) := hb _ (List.mem_cons_self)
  have hl_s : s.size ≤ 9223372036854775807 := Bd.str hb_s
  clear hp hb
  rw [vc_impl_NameOk s]
  have hl := bs_len s
  simp only [bs_eq]
  refine if_cond (fun h => ?_) (fun h => Lf_ff ?_)
  · have h := of_decide_eq_true h
    refine ⟨by omega, by omega, if_cond (fun h' => Lf_b ?_) (fun h' => Lf_ff ?_)⟩
    · have h' : smallB ((List.getD (bs s) 0 0).toNat : Int) = true := h'
      simp only [nameOk, h']
      have e : decide (1 ≤ s.size ∧ s.size ≤ 12) = decide ((s.size : Int) ≤ 12) := by rw [decide_eq_decide]; omega
      rw [e]; simp
    · have h' : smallB ((List.getD (bs s) 0 0).toNat : Int) = false := h'
      simp only [nameOk, h']; grind
  · have h := of_decide_eq_false h
    simp only [nameOk]; rw [decide_eq_false (by omega)]; rfl
def con_impl_ValOk : Con UU where
  α := DVal
  md := [.ro]
  of := fun | [.agg [.lit (.int .i64 a0), .lit (.int .i64 a1), .lit (.string a2)]] => some ⟨a0, a1, a2⟩ | _ => none
  ds := fun v => [.agg [.lit (.int .i64 v.K), .lit (.int .i64 v.N), .lit (.string v.S)]]
  pre := fun v => []
  res := fun v => ⟨[.one (.lit (.bool (valOk v)))], true, []⟩
  law := by intro l x h; (try simp only at h); split at h <;> cases h; rfl
def ann_impl_ValOk : con_impl_ValOk.α → Nat → Option (Ann UU) := fun v => annL []
def use_impl_ValOk : List (FuncId × Con UU) := [(50, con_impl_inRange), (57, con_impl_isWord)]
theorem vc_impl_ValOk (v : DVal) : goal EE use_impl_ValOk Go.Proofs.Tryd.f49 con_impl_ValOk ann_impl_ValOk v = (bif v.K == (1 : Int) then bif decide ((-1000000000 : Int) ≤ v.N ∧ v.N ≤ (1000000000 : Int)) then Lf [DV.one (Cell.lit (Value.bool (ByteArray.toList v.S == ByteArray.toList { data := #[] : ByteArray })))] [DV.one (Cell.lit (Value.bool (valOk v)))] else Lf [DV.one (Cell.lit (Value.bool false))] [DV.one (Cell.lit (Value.bool (valOk v)))] else bif v.K == (2 : Int) then bif v.N == (0 : Int) then Lf [DV.one (Cell.lit (Value.bool (decide ((↑(ByteArray.size v.S) : Int) ≤ (20 : Int)) && wordS v.S)))] [DV.one (Cell.lit (Value.bool (valOk v)))] else Lf [DV.one (Cell.lit (Value.bool false))] [DV.one (Cell.lit (Value.bool (valOk v)))] else Lf [DV.one (Cell.lit (Value.bool false))] [DV.one (Cell.lit (Value.bool (valOk v)))]) := by kernel_rfl
theorem ok_impl_ValOk : Holds EE (49, con_impl_ValOk) := by
  refine holds_of EE_ok Go.Proofs.Tryd.func49 con_impl_ValOk (by kernel_rfl) use_impl_ValOk (all_cons ok_impl_inRange (all_cons ok_impl_isWord all_nil)) ann_impl_ValOk (fun (v : DVal) hp hb => ?_)
  have hb_v : BdDV (U := UU) (.agg [.lit (.int .i64 v.K), .lit (.int .i64 v.N), .lit (.string v.S)]) := hb _ (List.mem_cons_self)
  have hl_v_S : v.S.size ≤ 9223372036854775807 := Bd.str (hb_v _ (by simp))
  clear hp hb
  rw [vc_impl_ValOk v]
  have e : (ByteArray.toList (DVal.S v) == ByteArray.toList { data := #[] }) = decide (v.S = noBytes) := toList_beq _ _
  simp only [e, valOk]
  repeat' (refine if_cond (fun h => ?_) (fun h => ?_))
  all_goals (refine Lf_b ?_; grind)
def con_impl_FactOk : Con UU where
  α := DFact
  md := [.ro]
  of := fun | [.agg [.lit (.string a0), .sl .eVal a1]] => some ⟨a0, a1⟩ | _ => none
  ds := fun f => [.agg [.lit (.string f.Kind), .sl .eVal f.Fields]]
  pre := fun f => []
  res := fun f => ⟨[.one (.lit (.bool (factOk f)))], true, []⟩
  law := by intro l x h; (try simp only at h); split at h <;> cases h; rfl
def I_impl_FactOk_4 (f : DFact) : Int × Unit → Prop := fun (i, _) => 0 ≤ i ∧ i ≤ f.Fields.length ∧ f.Fields.length ≤ 5 ∧ nameOk f.Kind = true ∧ (f.Fields.drop i.toNat).all valOk = f.Fields.all valOk
def μ_impl_FactOk_4 (f : DFact) : Int × Unit → Nat := fun (i, _) => f.Fields.length - i.toNat
def ann_impl_FactOk : con_impl_FactOk.α → Nat → Option (Ann UU) := fun f => annL [(4, annOf [.slot 18 (18, 1024) (.lit (.int .i64))] (fun _ => I_impl_FactOk_4 f) (μ_impl_FactOk_4 f))]
def use_impl_FactOk : List (FuncId × Con UU) := [(34, con_impl_NameOk), (49, con_impl_ValOk)]
theorem vc_impl_FactOk (f : DFact) : goal EE use_impl_FactOk Go.Proofs.Tryd.f23 con_impl_FactOk ann_impl_FactOk f = (let x0 : Int := (↑(List.length f.Fields) : Int);
bif !nameOk f.Kind then Lf [DV.one (Cell.lit (Value.bool false))] [DV.one (Cell.lit (Value.bool (factOk f)))] else bif decide (x0 > (5 : Int)) then Lf [DV.one (Cell.lit (Value.bool false))] [DV.one (Cell.lit (Value.bool (factOk f)))] else I_impl_FactOk_4 f ((0 : Int), PUnit.unit) ∧ ∀ (y : Int × PUnit), I_impl_FactOk_4 f y → bif decide (y.1 < x0) then (0 : Int) ≤ y.1 ∧ Int.toNat y.1 < List.length f.Fields ∧ bif !valOk (List.getD f.Fields (Int.toNat y.1) zVal) then Lf [DV.one (Cell.lit (Value.bool false))] [DV.one (Cell.lit (Value.bool (factOk f)))] else I_impl_FactOk_4 f (IntKind.wrap IntKind.i64 (y.1 + (1 : Int)), PUnit.unit) ∧ μ_impl_FactOk_4 f (IntKind.wrap IntKind.i64 (y.1 + (1 : Int)), PUnit.unit) < μ_impl_FactOk_4 f y else Lf [DV.one (Cell.lit (Value.bool true))] [DV.one (Cell.lit (Value.bool (factOk f)))]) := by kernel_rfl
theorem ok_impl_FactOk : Holds EE (23, con_impl_FactOk) := by
  refine holds_of EE_ok Go.Proofs.Tryd.func23 con_impl_FactOk (by kernel_rfl) use_impl_FactOk (all_cons ok_impl_NameOk (all_cons ok_impl_ValOk all_nil)) ann_impl_FactOk (fun (f : DFact) hp hb => ?_)
  have hb_f : BdDV (U := UU) (.agg [.lit (.string f.Kind), .sl .eVal f.Fields]) := hb _ (List.mem_cons_self)
  have hl_f_Kind : f.Kind.size ≤ 9223372036854775807 := Bd.str (hb_f _ (by simp))
  have hl_f_Fields : f.Fields.length ≤ 9223372036854775807 := Bd.len (U := UU) (τ := .eVal) (xs := f.Fields) (hb_f _ (by simp))
  clear hp hb
  rw [vc_impl_FactOk f]
  dsimp only
  refine if_cond (fun h => Lf_b ?_) (fun h => if_cond (fun h' => Lf_b ?_) (fun h' => ⟨⟨by omega, by omega, by simp at h'; omega, by simpa using h, rfl⟩, ?_⟩))
  · simp only [factOk]; grind
  · simp only [factOk]; grind
  rintro ⟨i, ⟨⟩⟩ ⟨h1, h2, h3, h4, hR⟩
  simp only
  refine if_cond (fun hc => ?_) (fun hc => ?_)
  · have hc := of_decide_eq_true hc
    rw [all_step _ _ zVal h1 (by omega)] at hR
    rw [wrap_i64 (by omega) (by omega)]
    refine ⟨by omega, by omega, if_cond (fun h => Lf_ff ?_) (fun h => ⟨⟨by omega, by omega, by omega, h4, ?_⟩, ?_⟩)⟩
    · simp only [factOk]; rw [← hR]; simp at h; simp [h]
    · rw [← hR]; simp at h; simp [h]
    · simp only [μ_impl_FactOk_4]; omega
  · have hc := of_decide_eq_false hc
    rw [drop_end _ (by omega)] at hR
    refine Lf_b ?_
    simp only [factOk, ← hR, h4]; simp; omega
def backN (most : Int) : Nat → Int → Int
  | 0, n => n
  | k + 1, n => if n < most then backN most k (2 * n) else n
def backoff (base k most : Int) : Int := if 1 ≤ base ∧ base ≤ 100000 ∧ 1 ≤ most ∧ most ≤ 100000 ∧ 0 ≤ k then (if backN most k.toNat base < most then backN most k.toNat base else most) else 0
theorem backN_ge {most n : Int} (h : ¬ n < most) : ∀ k : Nat, backN most k n = n
  | 0 => rfl
  | k + 1 => by rw [backN, if_neg h]
theorem backN_step {most n k i : Int} (h0 : 0 ≤ i) (h : i < k) (hn : n < most) : backN most (k - i).toNat n = backN most (k - (i + 1)).toNat (2 * n) := by
  obtain ⟨m, hm⟩ : ∃ m : Nat, (k - i).toNat = m + 1 := ⟨(k - i).toNat - 1, by omega⟩
  have h2 : (k - (i + 1)).toNat = m := by omega
  rw [hm, h2, backN, if_pos hn]
theorem backN_end {most n k i : Int} (h : ¬ (i < k ∧ n < most)) : backN most (k - i).toNat n = n := by
  by_cases hk : i < k
  · exact backN_ge (fun hn => h ⟨hk, hn⟩) _
  · rw [show (k - i).toNat = 0 by omega]; rfl
def con_impl_Backoff : Con UU where
  α := Int × Int × Int
  md := [.ro, .ro, .ro]
  of := fun | [.one (.lit (.int .i64 a0)), .one (.lit (.int .i64 a1)), .one (.lit (.int .i64 a2))] => some (a0, a1, a2) | _ => none
  ds := fun (base, k, most) => [.one (.lit (.int .i64 base)), .one (.lit (.int .i64 k)), .one (.lit (.int .i64 most))]
  pre := fun (base, k, most) => []
  res := fun (base, k, most) => ⟨[.one (.lit (.int .i64 (backoff base k most)))], true, []⟩
  law := by intro l x h; (try simp only at h); split at h <;> cases h; rfl
def I_impl_Backoff_4 (base : Int) (k : Int) (most : Int) : Int × Int × Unit → Prop := fun (n, i, _) => 0 ≤ i ∧ i ≤ k ∧ 1 ≤ n ∧ n ≤ 200000 ∧ backN most (k - i).toNat n = backN most k.toNat base
def μ_impl_Backoff_4 (base : Int) (k : Int) (most : Int) : Int × Int × Unit → Nat := fun (n, i, _) => (k - i).toNat
def ann_impl_Backoff : con_impl_Backoff.α → Nat → Option (Ann UU) := fun (base, k, most) => annL [(4, annOf [.slot 0 (0, 1024) (.lit (.int .i64)), .slot 7 (7, 1024) (.lit (.int .i64))] (fun _ => I_impl_Backoff_4 base k most) (μ_impl_Backoff_4 base k most))]
def use_impl_Backoff : List (FuncId × Con UU) := [(50, con_impl_inRange)]
theorem vc_impl_Backoff (base : Int) (k : Int) (most : Int) : goal EE use_impl_Backoff Go.Proofs.Tryd.f29 con_impl_Backoff ann_impl_Backoff (base, k, most) = (bif !decide ((1 : Int) ≤ base ∧ base ≤ (100000 : Int)) then Lf [DV.one (Cell.lit (Value.int IntKind.i64 (0 : Int)))] [DV.one (Cell.lit (Value.int IntKind.i64 (backoff base k most)))] else bif !decide ((1 : Int) ≤ most ∧ most ≤ (100000 : Int)) then Lf [DV.one (Cell.lit (Value.int IntKind.i64 (0 : Int)))] [DV.one (Cell.lit (Value.int IntKind.i64 (backoff base k most)))] else bif decide (k < (0 : Int)) then Lf [DV.one (Cell.lit (Value.int IntKind.i64 (0 : Int)))] [DV.one (Cell.lit (Value.int IntKind.i64 (backoff base k most)))] else I_impl_Backoff_4 base k most (base, (0 : Int), PUnit.unit) ∧ ∀ (y : Int × Int × PUnit), I_impl_Backoff_4 base k most y → bif decide (y.2.1 < k) then bif decide (y.1 < most) then I_impl_Backoff_4 base k most (IntKind.wrap IntKind.i64 (y.1 * (2 : Int)), IntKind.wrap IntKind.i64 (y.2.1 + (1 : Int)), PUnit.unit) ∧ μ_impl_Backoff_4 base k most (IntKind.wrap IntKind.i64 (y.1 * (2 : Int)), IntKind.wrap IntKind.i64 (y.2.1 + (1 : Int)), PUnit.unit) < μ_impl_Backoff_4 base k most y else Lf [DV.one (Cell.lit (Value.int IntKind.i64 (if most < y.1 then most else y.1)))] [DV.one (Cell.lit (Value.int IntKind.i64 (backoff base k most)))] else Lf [DV.one (Cell.lit (Value.int IntKind.i64 (if most < y.1 then most else y.1)))] [DV.one (Cell.lit (Value.int IntKind.i64 (backoff base k most)))]) := by kernel_rfl
theorem ok_impl_Backoff : Holds EE (29, con_impl_Backoff) := by
  refine holds_of EE_ok Go.Proofs.Tryd.func29 con_impl_Backoff (by kernel_rfl) use_impl_Backoff (all_cons ok_impl_inRange all_nil) ann_impl_Backoff (fun x hp hb => ?_)
  obtain ⟨base, k, most⟩ := x
  have hb_base : BdDV (U := UU) (.one (.lit (.int .i64 base))) := hb _ (List.mem_cons_self)
  have hl_base := Bd.i64 hb_base
  have hb_k : BdDV (U := UU) (.one (.lit (.int .i64 k))) := hb _ (List.mem_cons_of_mem _ (List.mem_cons_self))
  have hl_k := Bd.i64 hb_k
  have hb_most : BdDV (U := UU) (.one (.lit (.int .i64 most))) := hb _ (List.mem_cons_of_mem _ (List.mem_cons_of_mem _ (List.mem_cons_self)))
  have hl_most := Bd.i64 hb_most
  clear hp hb
  rw [vc_impl_Backoff base k most]
  have hN : ¬ (1 ≤ base ∧ base ≤ 100000 ∧ 1 ≤ most ∧ most ≤ 100000 ∧ 0 ≤ k) → Lf [.one (.lit (.int .i64 0))] [.one (.lit (.int .i64 (backoff base k most)))] := fun h => Lf_i (by rw [backoff, if_neg h])
  refine if_cond (fun h => hN ?_) (fun h => if_cond (fun h2 => hN ?_) (fun h2 => if_cond (fun h3 => hN ?_) (fun h3 => ?_)))
  · simp at h; omega
  · simp at h2; omega
  · simp at h3; omega
  have hg : 1 ≤ base ∧ base ≤ 100000 ∧ 1 ≤ most ∧ most ≤ 100000 ∧ 0 ≤ k := by simp at h h2 h3; omega
  have hE : ∀ {n i : Int}, backN most (k - i).toNat n = backN most k.toNat base → ¬ (i < k ∧ n < most) → (if n < most then n else most) = backoff base k most := fun hR hn => by rw [backoff, if_pos hg, ← hR, backN_end hn]
  refine ⟨⟨by omega, by omega, by omega, by omega, by rw [Int.sub_zero]⟩, ?_⟩
  rintro ⟨n, i, ⟨⟩⟩ ⟨h4, h5, h6, h7, hR⟩
  simp only
  refine if_cond (fun hc => if_cond (fun hd => ?_) (fun hd => ?_)) (fun hc => ?_)
  · have hc := of_decide_eq_true hc; have hd := of_decide_eq_true hd
    rw [wrap_i64 (by omega) (by omega), wrap_i64 (by omega) (by omega)]
    refine ⟨⟨by omega, by omega, by omega, by omega, ?_⟩, by simp only [μ_impl_Backoff_4]; omega⟩
    rw [Int.mul_comm, ← backN_step h4 hc hd]; exact hR
  · have hd := of_decide_eq_false hd
    have e := hE hR (fun hh => hd hh.2)
    refine Lf_i ?_
    rw [← e]; split <;> (try split) <;> omega
  · have hc := of_decide_eq_false hc
    have e := hE hR (fun hh => hc hh.1)
    refine Lf_i ?_
    rw [← e]; split <;> (try split) <;> omega
structure DCur where
  b : List Int
  i : Int
  h : Int
def mixB (h : Int) (x : Int) : Int := IntKind.wrap .i64 (((BitVec.ofInt (IntKind.bits .i64) (IntKind.wrap .i64 (IntKind.wrap .i64 (IntKind.wrap .i64 (h * 137) + IntKind.wrap .i64 x) + 11)) &&& BitVec.ofInt (IntKind.bits .i64) 1073741823).toNat : Nat) : Int)
def seedB (code : List Int) : Int := (code.take 4000).foldl mixB (354354 + code.length)
def newCur (code : List Int) : DCur := ⟨code, 0, seedB code⟩
def nextH (h : Int) : Int := IntKind.wrap .i64 (IntKind.wrap .i64 (h * 6364136223846793005) + 1442695040888963407)
def and255 (x : Int) : Int := IntKind.wrap .i64 (((BitVec.ofInt (IntKind.bits .i64) x &&& BitVec.ofInt (IntKind.bits .i64) 255).toNat : Nat) : Int)
def mixX (h : Int) : Int := and255 (IntKind.wrap .i64 (((BitVec.ofInt (IntKind.bits .i64) (Int.fdiv h ((2 : Int) ^ min (Int.toNat 33) (IntKind.bits .i64))) ^^^ BitVec.ofInt (IntKind.bits .i64) (Int.fdiv h ((2 : Int) ^ min (Int.toNat 47) (IntKind.bits .i64)))).toNat : Nat) : Int))
def byteV (c : DCur) : Int := if c.i < c.b.length then and255 (IntKind.wrap .i64 (mixX (nextH c.h) + IntKind.wrap .i64 (List.getD c.b c.i.toNat 0))) else mixX (nextH c.h)
def byteC (c : DCur) : DCur := ⟨c.b, if c.i < c.b.length then c.i + 1 else c.i, nextH c.h⟩
theorem and255_le (x : Int) : 0 ≤ and255 x ∧ and255 x ≤ 255 := by
  unfold and255
  have h : (BitVec.ofInt 64 x &&& BitVec.ofInt 64 255).toNat ≤ 255 := by
    rw [BitVec.toNat_and]
    exact Nat.le_trans Nat.and_le_right (by decide)
  have h' : (BitVec.ofInt (IntKind.bits .i64) x &&& BitVec.ofInt (IntKind.bits .i64) 255).toNat ≤ 255 := h
  rw [wrap_i64 (by omega) (by omega)]
  omega
theorem byteV_le (c : DCur) : 0 ≤ byteV c ∧ byteV c ≤ 255 := by
  unfold byteV
  split
  · exact and255_le _
  · exact and255_le _
theorem byteC_i {c : DCur} (h : 0 ≤ c.i) : 0 ≤ (byteC c).i := by
  simp only [byteC]; split <;> omega
def belowV (c : DCur) (n : Int) : Int := if n ≤ 0 then 0 else if n ≤ 256 then Int.tmod (byteV c) n else Int.tmod (byteV c * 65536 + byteV (byteC c) * 256 + byteV (byteC (byteC c))) n
def belowC (c : DCur) (n : Int) : DCur := if n ≤ 0 then c else if n ≤ 256 then byteC c else byteC (byteC (byteC c))
theorem belowC_i {c : DCur} (h : 0 ≤ c.i) (n : Int) : 0 ≤ (belowC c n).i := by
  unfold belowC
  split
  · exact h
  · split
    · exact byteC_i h
    · exact byteC_i (byteC_i (byteC_i h))
theorem belowV_lt {c : DCur} {n : Int} (h : 0 < n) : 0 ≤ belowV c n ∧ belowV c n < n := by
  have h1 := byteV_le c; have h2 := byteV_le (byteC c); have h3 := byteV_le (byteC (byteC c))
  unfold belowV
  rw [if_neg (by omega)]
  split
  · rw [Int.tmod_eq_emod_of_nonneg (by omega)]; exact ⟨Int.emod_nonneg _ (by omega), Int.emod_lt_of_pos _ h⟩
  · rw [Int.tmod_eq_emod_of_nonneg (by omega)]; exact ⟨Int.emod_nonneg _ (by omega), Int.emod_lt_of_pos _ h⟩
def con_spec_l1New : Con UU where
  α := (List Int)
  md := [.ro]
  of := fun | [.one (.sl .byte a0)] => some a0 | _ => none
  ds := fun code => [.one (.sl .byte code)]
  pre := fun code => [code.length ≤ 4294967296]
  res := fun code => ⟨[.box [.sl .byte ((newCur code)).b, .lit (.int .i64 ((newCur code)).i), .lit (.int .i64 ((newCur code)).h)]], true, []⟩
  law := by intro l x h; (try simp only at h); split at h <;> cases h; rfl
def I_spec_l1New_3 (code : (List Int)) : Int × Int × Unit → Prop := fun (h, i, _) => 0 ≤ i ∧ i ≤ code.length ∧ i ≤ 4000 ∧ h = (code.take i.toNat).foldl mixB (354354 + code.length)
def μ_spec_l1New_3 (code : (List Int)) : Int × Int × Unit → Nat := fun (h, i, _) => code.length - i.toNat
def ann_spec_l1New : con_spec_l1New.α → Nat → Option (Ann UU) := fun code => annL [(3, annOf [.slot 3 (3, 1024) (.lit (.int .i64)), .slot 4 (4, 1024) (.lit (.int .i64))] (fun _ => I_spec_l1New_3 code) (μ_spec_l1New_3 code))]
def use_spec_l1New : List (FuncId × Con UU) := []
theorem vc_spec_l1New (code : (List Int)) : goal EE use_spec_l1New Go.Proofs.Tryd.f19 con_spec_l1New ann_spec_l1New code = (I_spec_l1New_3 code (IntKind.wrap IntKind.i64 ((354354 : Int) + (↑(List.length code) : Int)), (0 : Int), PUnit.unit) ∧
  ∀ (y : Int × Int × PUnit),
    let x0 : Nat := Int.toNat y.2.1;
    I_spec_l1New_3 code y → bif decide (y.2.1 < (↑(List.length code) : Int)) then bif decide (y.2.1 < (4000 : Int)) then (0 : Int) ≤ y.2.1 ∧ x0 < List.length code ∧ I_spec_l1New_3 code (IntKind.wrap IntKind.i64 (↑(BitVec.toNat (BitVec.ofInt (IntKind.bits IntKind.i64) (IntKind.wrap IntKind.i64 (IntKind.wrap IntKind.i64 (IntKind.wrap IntKind.i64 (y.1 * (137 : Int)) + IntKind.wrap IntKind.i64 (List.getD code x0 (0 : Int))) + (11 : Int))) &&& BitVec.ofInt (IntKind.bits IntKind.i64) (1073741823 : Int))) : Int), IntKind.wrap IntKind.i64 (y.2.1 + (1 : Int)), PUnit.unit) ∧ μ_spec_l1New_3 code (IntKind.wrap IntKind.i64 (↑(BitVec.toNat (BitVec.ofInt (IntKind.bits IntKind.i64) (IntKind.wrap IntKind.i64 (IntKind.wrap IntKind.i64 (IntKind.wrap IntKind.i64 (y.1 * (137 : Int)) + IntKind.wrap IntKind.i64 (List.getD code x0 (0 : Int))) + (11 : Int))) &&& BitVec.ofInt (IntKind.bits IntKind.i64) (1073741823 : Int))) : Int), IntKind.wrap IntKind.i64 (y.2.1 + (1 : Int)), PUnit.unit) < μ_spec_l1New_3 code y else Lf [DV.box [Cell.sl Cd.byte code, Cell.lit (Value.int IntKind.i64 (0 : Int)), Cell.lit (Value.int IntKind.i64 y.1)]] [DV.box [Cell.sl Cd.byte (newCur code).b, Cell.lit (Value.int IntKind.i64 (newCur code).i), Cell.lit (Value.int IntKind.i64 (newCur code).h)]] else Lf [DV.box [Cell.sl Cd.byte code, Cell.lit (Value.int IntKind.i64 (0 : Int)), Cell.lit (Value.int IntKind.i64 y.1)]] [DV.box [Cell.sl Cd.byte (newCur code).b, Cell.lit (Value.int IntKind.i64 (newCur code).i), Cell.lit (Value.int IntKind.i64 (newCur code).h)]]) := by kernel_rfl
theorem ok_spec_l1New : Holds EE (19, con_spec_l1New) := by
  refine holds_of EE_ok Go.Proofs.Tryd.func19 con_spec_l1New (by kernel_rfl) use_spec_l1New all_nil ann_spec_l1New (fun (code : (List Int)) hp hb => ?_)
  have hb_code : BdDV (U := UU) (.one (.sl .byte code)) := hb _ (List.mem_cons_self)
  have hl_code : code.length ≤ 9223372036854775807 := Bd.len hb_code
  have hp0 : code.length ≤ 4294967296 := hp _ (List.mem_cons_self)
  clear hp hb
  rw [vc_spec_l1New code]
  dsimp only
  refine ⟨⟨by omega, by omega, by omega, by rw [wrap_i64 (by omega) (by omega)]; rfl⟩, ?_⟩
  rintro ⟨h, i, ⟨⟩⟩ ⟨h1, h2, h3, rfl⟩
  simp only
  have hE : (i = code.length ∨ i = 4000) → (code.take i.toNat).foldl mixB (354354 + code.length) = (newCur code).h := by
    intro hh
    show _ = (code.take 4000).foldl mixB (354354 + code.length)
    rcases hh with hh | hh
    · rw [List.take_of_length_le (by omega), List.take_of_length_le (by omega)]
    · rw [hh]; rfl
  refine if_cond (fun hc => if_cond (fun hd => ?_) (fun hd => ?_)) (fun hc => ?_)
  · have hc := of_decide_eq_true hc; have hd := of_decide_eq_true hd
    rw [wrap_i64 (n := i + 1) (by omega) (by omega)]
    refine ⟨h1, by omega, ⟨by omega, by omega, by omega, ?_⟩, by simp only [μ_spec_l1New_3]; omega⟩
    rw [← take_step code 0 h1 (by omega), List.foldl_append]
    rfl
  · have hc := of_decide_eq_true hc; have hd := of_decide_eq_false hd
    rw [hE (by omega)]; exact Lf_rfl _
  · have hc := of_decide_eq_false hc
    rw [hE (by omega)]; exact Lf_rfl _
def con_spec_l1Byte : Con UU where
  α := DCur
  md := [.box false]
  of := fun | [.box [.sl .byte a0, .lit (.int .i64 a1), .lit (.int .i64 a2)]] => some ⟨a0, a1, a2⟩ | _ => none
  ds := fun c => [.box [.sl .byte c.b, .lit (.int .i64 c.i), .lit (.int .i64 c.h)]]
  pre := fun c => [0 ≤ c.i, c.b.length ≤ 4294967296]
  res := fun c => ⟨[.one (.lit (.int .i64 (byteV c)))], true, [.box [.sl .byte ((byteC c)).b, .lit (.int .i64 ((byteC c)).i), .lit (.int .i64 ((byteC c)).h)]]⟩
  law := by intro l x h; (try simp only at h); split at h <;> cases h; rfl
def ann_spec_l1Byte : con_spec_l1Byte.α → Nat → Option (Ann UU) := fun c => annL []
def use_spec_l1Byte : List (FuncId × Con UU) := []
theorem vc_spec_l1Byte (c : DCur) : goal EE use_spec_l1Byte Go.Proofs.Tryd.f67 con_spec_l1Byte ann_spec_l1Byte c = (let x0 : Int := IntKind.wrap IntKind.i64 (↑(BitVec.toNat (BitVec.ofInt (IntKind.bits IntKind.i64) (IntKind.wrap IntKind.i64 (↑(BitVec.toNat (BitVec.ofInt (IntKind.bits IntKind.i64) (Int.fdiv (IntKind.wrap IntKind.i64 (IntKind.wrap IntKind.i64 (c.h * (6364136223846793005 : Int)) + (1442695040888963407 : Int))) ((2 : Int) ^ min (Int.toNat (33 : Int)) (IntKind.bits IntKind.i64))) ^^^ BitVec.ofInt (IntKind.bits IntKind.i64) (Int.fdiv (IntKind.wrap IntKind.i64 (IntKind.wrap IntKind.i64 (c.h * (6364136223846793005 : Int)) + (1442695040888963407 : Int))) ((2 : Int) ^ min (Int.toNat (47 : Int)) (IntKind.bits IntKind.i64))))) : Int)) &&& BitVec.ofInt (IntKind.bits IntKind.i64) (255 : Int))) : Int);
(0 : Int) ≤ (33 : Int) ∧ (0 : Int) ≤ (47 : Int) ∧ bif decide (c.i < (↑(List.length c.b) : Int)) then (0 : Int) ≤ c.i ∧ Int.toNat c.i < List.length c.b ∧ (0 : Nat) = (0 : Nat) ∧ asD [DV.one (Cell.lit (Value.int IntKind.i64 (IntKind.wrap IntKind.i64 (↑(BitVec.toNat (BitVec.ofInt (IntKind.bits IntKind.i64) (IntKind.wrap IntKind.i64 (x0 + IntKind.wrap IntKind.i64 (List.getD c.b (Int.toNat c.i) (0 : Int)))) &&& BitVec.ofInt (IntKind.bits IntKind.i64) (255 : Int))) : Int))))] = asD [DV.one (Cell.lit (Value.int IntKind.i64 (byteV c)))] ∧ asD [DV.box [Cell.sl Cd.byte c.b, Cell.lit (Value.int IntKind.i64 (IntKind.wrap IntKind.i64 (c.i + (1 : Int)))), Cell.lit (Value.int IntKind.i64 (IntKind.wrap IntKind.i64 (IntKind.wrap IntKind.i64 (c.h * (6364136223846793005 : Int)) + (1442695040888963407 : Int))))]] = asD [DV.box [Cell.sl Cd.byte (byteC c).b, Cell.lit (Value.int IntKind.i64 (byteC c).i), Cell.lit (Value.int IntKind.i64 (byteC c).h)]] else (0 : Nat) = (0 : Nat) ∧ asD [DV.one (Cell.lit (Value.int IntKind.i64 x0))] = asD [DV.one (Cell.lit (Value.int IntKind.i64 (byteV c)))] ∧ asD [DV.box [Cell.sl Cd.byte c.b, Cell.lit (Value.int IntKind.i64 c.i), Cell.lit (Value.int IntKind.i64 (IntKind.wrap IntKind.i64 (IntKind.wrap IntKind.i64 (c.h * (6364136223846793005 : Int)) + (1442695040888963407 : Int))))]] = asD [DV.box [Cell.sl Cd.byte (byteC c).b, Cell.lit (Value.int IntKind.i64 (byteC c).i), Cell.lit (Value.int IntKind.i64 (byteC c).h)]]) := by kernel_rfl
theorem ok_spec_l1Byte : Holds EE (67, con_spec_l1Byte) := by
  refine holds_of EE_ok Go.Proofs.Tryd.func67 con_spec_l1Byte (by kernel_rfl) use_spec_l1Byte all_nil ann_spec_l1Byte (fun (c : DCur) hp hb => ?_)
  have hb_c : BdDV (U := UU) (.box [.sl .byte c.b, .lit (.int .i64 c.i), .lit (.int .i64 c.h)]) := hb _ (List.mem_cons_self)
  have hl_c_b : c.b.length ≤ 9223372036854775807 := Bd.len (U := UU) (τ := .byte) (xs := c.b) (hb_c _ (by simp))
  have hp0 : 0 ≤ c.i := hp _ (List.mem_cons_self)
  have hp1 : c.b.length ≤ 4294967296 := hp _ (List.mem_cons_of_mem _ (List.mem_cons_self))
  clear hp hb
  rw [vc_spec_l1Byte c]
  dsimp only
  refine ⟨by omega, by omega, if_cond (fun h => ?_) (fun h => ?_)⟩
  · have h := of_decide_eq_true h
    have e1 : byteV c = and255 (IntKind.wrap .i64 (mixX (nextH c.h) + IntKind.wrap .i64 (List.getD c.b c.i.toNat 0))) := if_pos h
    have e2 : (byteC c).i = c.i + 1 := if_pos h
    rw [e1, e2, wrap_i64 (n := c.i + 1) (by omega) (by omega)]
    exact ⟨hp0, by omega, rfl, rfl, rfl⟩
  · have h := of_decide_eq_false h
    have e1 : byteV c = mixX (nextH c.h) := if_neg h
    have e2 : (byteC c).i = c.i := if_neg h
    rw [e1, e2]
    exact ⟨rfl, rfl, rfl⟩
def con_spec_l1Below : Con UU where
  α := DCur × Int
  md := [.box false, .ro]
  of := fun | [.box [.sl .byte a0, .lit (.int .i64 a1), .lit (.int .i64 a2)], .one (.lit (.int .i64 a3))] => some (⟨a0, a1, a2⟩, a3) | _ => none
  ds := fun (c, n) => [.box [.sl .byte c.b, .lit (.int .i64 c.i), .lit (.int .i64 c.h)], .one (.lit (.int .i64 n))]
  pre := fun (c, n) => [0 ≤ c.i, c.b.length ≤ 4294967296]
  res := fun (c, n) => ⟨[.one (.lit (.int .i64 (belowV c n)))], true, [.box [.sl .byte ((belowC c n)).b, .lit (.int .i64 ((belowC c n)).i), .lit (.int .i64 ((belowC c n)).h)]]⟩
  law := by intro l x h; (try simp only at h); split at h <;> cases h; rfl
def ann_spec_l1Below : con_spec_l1Below.α → Nat → Option (Ann UU) := fun (c, n) => annL []
def use_spec_l1Below : List (FuncId × Con UU) := [(67, con_spec_l1Byte)]
theorem vc_spec_l1Below (c : DCur) (n : Int) : goal EE use_spec_l1Below Go.Proofs.Tryd.f46 con_spec_l1Below ann_spec_l1Below (c, n) = (bif decide (n ≤ (0 : Int)) then (0 : Nat) = (0 : Nat) ∧ asD [DV.one (Cell.lit (Value.int IntKind.i64 (0 : Int)))] = asD [DV.one (Cell.lit (Value.int IntKind.i64 (belowV c n)))] ∧ asD [DV.box [Cell.sl Cd.byte c.b, Cell.lit (Value.int IntKind.i64 c.i), Cell.lit (Value.int IntKind.i64 c.h)]] = asD [DV.box [Cell.sl Cd.byte (belowC c n).b, Cell.lit (Value.int IntKind.i64 (belowC c n).i), Cell.lit (Value.int IntKind.i64 (belowC c n).h)]] else bif decide (n ≤ (256 : Int)) then (0 : Int) ≤ c.i ∧ List.length c.b ≤ (4294967296 : Nat) ∧ n ≠ (0 : Int) ∧ (0 : Nat) = (0 : Nat) ∧ asD [DV.one (Cell.lit (Value.int IntKind.i64 (Int.tmod (byteV c) n)))] = asD [DV.one (Cell.lit (Value.int IntKind.i64 (belowV c n)))] ∧ asD [DV.box [Cell.sl Cd.byte (byteC c).b, Cell.lit (Value.int IntKind.i64 (byteC c).i), Cell.lit (Value.int IntKind.i64 (byteC c).h)]] = asD [DV.box [Cell.sl Cd.byte (belowC c n).b, Cell.lit (Value.int IntKind.i64 (belowC c n).i), Cell.lit (Value.int IntKind.i64 (belowC c n).h)]] else (0 : Int) ≤ c.i ∧ List.length c.b ≤ (4294967296 : Nat) ∧ (0 : Int) ≤ (byteC c).i ∧ List.length (byteC c).b ≤ (4294967296 : Nat) ∧ (0 : Int) ≤ (byteC (byteC c)).i ∧ List.length (byteC (byteC c)).b ≤ (4294967296 : Nat) ∧ n ≠ (0 : Int) ∧ (0 : Nat) = (0 : Nat) ∧ asD [DV.one (Cell.lit (Value.int IntKind.i64 (Int.tmod (IntKind.wrap IntKind.i64 (IntKind.wrap IntKind.i64 (IntKind.wrap IntKind.i64 (byteV c * (65536 : Int)) + IntKind.wrap IntKind.i64 (byteV (byteC c) * (256 : Int))) + byteV (byteC (byteC c)))) n)))] = asD [DV.one (Cell.lit (Value.int IntKind.i64 (belowV c n)))] ∧ asD [DV.box [Cell.sl Cd.byte (byteC (byteC (byteC c))).b, Cell.lit (Value.int IntKind.i64 (byteC (byteC (byteC c))).i), Cell.lit (Value.int IntKind.i64 (byteC (byteC (byteC c))).h)]] = asD [DV.box [Cell.sl Cd.byte (belowC c n).b, Cell.lit (Value.int IntKind.i64 (belowC c n).i), Cell.lit (Value.int IntKind.i64 (belowC c n).h)]]) := by kernel_rfl
theorem ok_spec_l1Below : Holds EE (46, con_spec_l1Below) := by
  refine holds_of EE_ok Go.Proofs.Tryd.func46 con_spec_l1Below (by kernel_rfl) use_spec_l1Below (all_cons ok_spec_l1Byte all_nil) ann_spec_l1Below (fun x hp hb => ?_)
  obtain ⟨c, n⟩ := x
  have hb_c : BdDV (U := UU) (.box [.sl .byte c.b, .lit (.int .i64 c.i), .lit (.int .i64 c.h)]) := hb _ (List.mem_cons_self)
  have hl_c_b : c.b.length ≤ 9223372036854775807 := Bd.len (U := UU) (τ := .byte) (xs := c.b) (hb_c _ (by simp))
  have hb_n : BdDV (U := UU) (.one (.lit (.int .i64 n))) := hb _ (List.mem_cons_of_mem _ (List.mem_cons_self))
  have hl_n := Bd.i64 hb_n
  have hp0 : 0 ≤ c.i := hp _ (List.mem_cons_self)
  have hp1 : c.b.length ≤ 4294967296 := hp _ (List.mem_cons_of_mem _ (List.mem_cons_self))
  clear hp hb
  rw [vc_spec_l1Below c n]
  have b1 := byteV_le c; have b2 := byteV_le (byteC c); have b3 := byteV_le (byteC (byteC c))
  refine if_cond (fun h => ?_) (fun h => if_cond (fun h2 => ?_) (fun h2 => ?_))
  · have h := of_decide_eq_true h
    have e1 : belowV c n = 0 := if_pos h
    have e2 : belowC c n = c := if_pos h
    rw [e1, e2]; exact ⟨rfl, rfl, rfl⟩
  · have h := of_decide_eq_false h; have h2 := of_decide_eq_true h2
    have e1 : belowV c n = Int.tmod (byteV c) n := by rw [belowV, if_neg h, if_pos h2]
    have e2 : belowC c n = byteC c := by rw [belowC, if_neg h, if_pos h2]
    rw [e1, e2]; exact ⟨hp0, hp1, by omega, rfl, rfl, rfl⟩
  · have h := of_decide_eq_false h; have h2 := of_decide_eq_false h2
    have e1 : belowV c n = Int.tmod (byteV c * 65536 + byteV (byteC c) * 256 + byteV (byteC (byteC c))) n := by rw [belowV, if_neg h, if_neg h2]
    have e2 : belowC c n = byteC (byteC (byteC c)) := by rw [belowC, if_neg h, if_neg h2]
    have w1 : IntKind.wrap .i64 (byteV c * 65536) = byteV c * 65536 := wrap_i64 (by omega) (by omega)
    have w2 : IntKind.wrap .i64 (byteV (byteC c) * 256) = byteV (byteC c) * 256 := wrap_i64 (by omega) (by omega)
    rw [w1, w2, e1, e2, wrap_i64 (n := byteV c * 65536 + byteV (byteC c) * 256) (by omega) (by omega), wrap_i64 (n := byteV c * 65536 + byteV (byteC c) * 256 + byteV (byteC (byteC c))) (by omega) (by omega)]
    exact ⟨hp0, hp1, byteC_i hp0, hp1, byteC_i (byteC_i hp0), hp1, by omega, rfl, rfl, rfl⟩
def cOk (c : DCur) : Prop := 0 ≤ c.i ∧ c.b.length ≤ 4294967296
theorem cOk_below {c : DCur} (h : cOk c) (n : Int) : cOk (belowC c n) := by
  refine ⟨belowC_i h.1 n, ?_⟩
  have : (belowC c n).b = c.b := by
    unfold belowC
    split
    · rfl
    · split <;> rfl
  rw [this]; exact h.2
theorem cOk_new {code : List Int} (h : code.length ≤ 4294967296) : cOk (newCur code) := ⟨Int.le_refl 0, h⟩
def onceV (c : DCur) (n : Int) : Bool := decide (belowV c n = 0)
def strV (c : DCur) (l : List ByteArray) : ByteArray := List.getD l (belowV c l.length).toNat noBytes
def strC (c : DCur) (l : List ByteArray) : DCur := belowC c l.length
def intV (c : DCur) (l : List Int) : Int := List.getD l (belowV c l.length).toNat 0
def intC (c : DCur) (l : List Int) : DCur := belowC c l.length
theorem cOk_str {c : DCur} (h : cOk c) (l : List ByteArray) : cOk (strC c l) := cOk_below h _
theorem cOk_int {c : DCur} (h : cOk c) (l : List Int) : cOk (intC c l) := cOk_below h _
theorem strV_mem (c : DCur) {l : List ByteArray} (h : 0 < l.length) : strV c l ∈ l := by
  have hb := belowV_lt (c := c) (n := l.length) (by omega)
  have hi : (belowV c l.length).toNat < l.length := by omega
  rw [strV, List.getD_eq_getElem?_getD, List.getElem?_eq_getElem hi]
  exact List.getElem_mem hi
theorem intV_mem (c : DCur) {l : List Int} (h : 0 < l.length) : intV c l ∈ l := by
  have hb := belowV_lt (c := c) (n := l.length) (by omega)
  have hi : (belowV c l.length).toNat < l.length := by omega
  rw [intV, List.getD_eq_getElem?_getD, List.getElem?_eq_getElem hi]
  exact List.getElem_mem hi
theorem strV_all (c : DCur) {l : List ByteArray} (p : ByteArray → Bool) (h0 : 0 < l.length) (h : l.all p = true) : p (strV c l) = true := List.all_eq_true.1 h _ (strV_mem c h0)
theorem intV_all (c : DCur) {l : List Int} (p : Int → Bool) (h0 : 0 < l.length) (h : l.all p = true) : p (intV c l) = true := List.all_eq_true.1 h _ (intV_mem c h0)
def sLsmall : List ByteArray := [⟨#[97]⟩, ⟨#[98]⟩]
def smallV (c : DCur) : DVal := if onceV c 2 then ⟨1, 1 + belowV (belowC c 2) 3, noBytes⟩ else ⟨2, 0, strV (belowC c 2) sLsmall⟩
def smallC (c : DCur) : DCur := if onceV c 2 then belowC (belowC c 2) 3 else strC (belowC c 2) sLsmall
theorem cOk_small {c : DCur} (h : cOk c) : cOk (smallC c) := by
  unfold smallC; split
  · exact cOk_below (cOk_below h _) _
  · exact cOk_str (cOk_below h _) _
def iLval : List Int := [0, 1, 2, 3, -1, 1000000000, -1000000000]
def sLval : List ByteArray := [⟨#[]⟩, ⟨#[97]⟩, ⟨#[98]⟩, ⟨#[112, 97, 105, 100]⟩, ⟨#[120, 95, 49]⟩]
def valV (c : DCur) : DVal := if onceV c 2 then ⟨1, intV (belowC c 2) iLval, noBytes⟩ else ⟨2, 0, strV (belowC c 2) sLval⟩
def valC (c : DCur) : DCur := if onceV c 2 then intC (belowC c 2) iLval else strC (belowC c 2) sLval
theorem cOk_val {c : DCur} (h : cOk c) : cOk (valC c) := by
  unfold valC; split
  · exact cOk_int (cOk_below h _) _
  · exact cOk_str (cOk_below h _) _
def iLany : List Int := [1000000001, 5]
def sLany : List ByteArray := [⟨#[65]⟩, ⟨#[97, 32, 98]⟩, ⟨#[116, 119, 101, 110, 116, 121, 111, 110, 101, 98, 121, 116, 101, 115, 116, 119, 101, 110, 116, 121, 111]⟩, ⟨#[120]⟩]
def anyvV (c : DCur) : DVal := let v := valV c; let k := belowV (valC c) 10; let d := belowC (valC c) 10; if k = 0 then ⟨belowV d 4, v.N, v.S⟩ else if k = 1 then ⟨v.K, intV d iLany, v.S⟩ else if k = 2 then ⟨v.K, v.N, strV d sLany⟩ else v
def anyvC (c : DCur) : DCur := let k := belowV (valC c) 10; let d := belowC (valC c) 10; if k = 0 then belowC d 4 else if k = 1 then intC d iLany else if k = 2 then strC d sLany else d
theorem cOk_anyv {c : DCur} (h : cOk c) : cOk (anyvC c) := by
  have := cOk_below (cOk_val h) 10
  simp only [anyvC]; split
  · exact cOk_below this _
  · split
    · exact cOk_int this _
    · split
      · exact cOk_str this _
      · exact this
def sLkind : List ByteArray := [⟨#[111, 114, 100, 101, 114]⟩, ⟨#[112, 97, 105, 100]⟩, ⟨#[105, 116, 101, 109]⟩, ⟨#[111, 114, 100, 101, 114]⟩]
def bItem : ByteArray := ⟨#[105, 116, 101, 109]⟩
def smallsL : Nat → List DVal → DCur → List DVal
  | 0, l, _ => l
  | k + 1, l, c => smallsL k (l ++ [smallV c]) (smallC c)
def smallsC : Nat → DCur → DCur
  | 0, c => c
  | k + 1, c => smallsC k (smallC c)
theorem cOk_smalls : ∀ {k : Nat} {c : DCur}, cOk c → cOk (smallsC k c)
  | 0, _, h => h
  | k + 1, _, h => cOk_smalls (k := k) (cOk_small h)
def factN (c : DCur) : Int := if onceV (strC c sLkind) 12 then belowV (belowC (strC c sLkind) 12) 6 else if strV c sLkind = bItem then 2 else 1
def factD (c : DCur) : DCur := if onceV (strC c sLkind) 12 then belowC (belowC (strC c sLkind) 12) 6 else belowC (strC c sLkind) 12
def factV (c : DCur) : DFact := ⟨strV c sLkind, smallsL (factN c).toNat [] (factD c)⟩
def factC (c : DCur) : DCur := smallsC (factN c).toNat (factD c)
theorem cOk_factD {c : DCur} (h : cOk c) : cOk (factD c) := by
  have := cOk_below (cOk_str h sLkind) 12
  unfold factD; split
  · exact cOk_below this _
  · exact this
theorem cOk_fact {c : DCur} (h : cOk c) : cOk (factC c) := cOk_smalls (cOk_factD h)
theorem smallsL_len : ∀ (k : Nat) (l : List DVal) (c : DCur), (smallsL k l c).length = l.length + k
  | 0, _, _ => rfl
  | k + 1, l, c => by rw [smallsL, smallsL_len k]; simp only [List.length_append, List.length_cons, List.length_nil]; omega
theorem factV_len (c : DCur) : (factV c).Fields.length = (factN c).toNat := by
  show (smallsL _ _ _).length = _
  rw [smallsL_len]; simp
theorem factN_le (c : DCur) : 0 ≤ factN c ∧ factN c ≤ 5 := by
  have := belowV_lt (c := belowC (strC c sLkind) 12) (n := 6) (by omega)
  unfold factN
  split
  · omega
  · split <;> omega
noncomputable def padL (l : List DVal) (c : DCur) : List DVal × DCur := if h : (l.length : Int) < 5 + belowV c 2 then padL (l ++ [valV (belowC c 2)]) (valC (belowC c 2)) else (l, belowC c 2)
termination_by 6 - l.length
decreasing_by
  have := belowV_lt (c := c) (n := 2) (by omega)
  simp only [List.length_append, List.length_cons, List.length_nil]; omega
theorem padL_yes {l : List DVal} {c : DCur} (h : (l.length : Int) < 5 + belowV c 2) : padL l c = padL (l ++ [valV (belowC c 2)]) (valC (belowC c 2)) := by rw [padL, dif_pos h]
theorem padL_no {l : List DVal} {c : DCur} (h : ¬ (l.length : Int) < 5 + belowV c 2) : padL l c = (l, belowC c 2) := by rw [padL, dif_neg h]
theorem cOk_pad {l : List DVal} {c : DCur} (h : cOk c) : cOk (padL l c).2 := by
  by_cases hl : (l.length : Int) < 5 + belowV c 2
  · rw [padL_yes hl]; exact cOk_pad (cOk_val (cOk_below h _))
  · rw [padL_no hl]; exact cOk_below h _
termination_by 6 - l.length
decreasing_by
  have := belowV_lt (c := c) (n := 2) (by omega)
  simp only [List.length_append, List.length_cons, List.length_nil]; omega
def sLanyk : List ByteArray := [⟨#[]⟩, ⟨#[65]⟩, ⟨#[116, 104, 105, 114, 116, 101, 101, 110, 98, 121, 116, 101, 115]⟩, ⟨#[120]⟩]
noncomputable def anyF (c : DCur) : DFact := let f := factV c; let k := belowV (factC c) 10; let d := belowC (factC c) 10; if k = 0 then ⟨strV d sLanyk, f.Fields⟩ else if k = 1 then ⟨f.Kind, f.Fields ++ [anyvV d]⟩ else if k = 2 then ⟨f.Kind, (padL f.Fields d).1⟩ else f
noncomputable def anyFC (c : DCur) : DCur := let f := factV c; let k := belowV (factC c) 10; let d := belowC (factC c) 10; if k = 0 then strC d sLanyk else if k = 1 then anyvC d else if k = 2 then (padL f.Fields d).2 else d
theorem cOk_anyF {c : DCur} (h : cOk c) : cOk (anyFC c) := by
  have := cOk_below (cOk_fact h) 10
  simp only [anyFC]; split
  · exact cOk_str this _
  · split
    · exact cOk_anyv this
    · split
      · exact cOk_pad this
      · exact this
def con_spec_l1Once : Con UU where
  α := DCur × Int
  md := [.box false, .ro]
  of := fun | [.box [.sl .byte a0, .lit (.int .i64 a1), .lit (.int .i64 a2)], .one (.lit (.int .i64 a3))] => some (⟨a0, a1, a2⟩, a3) | _ => none
  ds := fun (c, n) => [.box [.sl .byte c.b, .lit (.int .i64 c.i), .lit (.int .i64 c.h)], .one (.lit (.int .i64 n))]
  pre := fun (c, n) => [cOk c]
  res := fun (c, n) => ⟨[.one (.lit (.bool (onceV c n)))], true, [.box [.sl .byte ((belowC c n)).b, .lit (.int .i64 ((belowC c n)).i), .lit (.int .i64 ((belowC c n)).h)]]⟩
  law := by intro l x h; (try simp only at h); split at h <;> cases h; rfl
def ann_spec_l1Once : con_spec_l1Once.α → Nat → Option (Ann UU) := fun (c, n) => annL []
def use_spec_l1Once : List (FuncId × Con UU) := [(46, con_spec_l1Below)]
theorem vc_spec_l1Once (c : DCur) (n : Int) : goal EE use_spec_l1Once Go.Proofs.Tryd.f45 con_spec_l1Once ann_spec_l1Once (c, n) = ((0 : Int) ≤ c.i ∧ List.length c.b ≤ (4294967296 : Nat) ∧ (0 : Nat) = (0 : Nat) ∧ asD [DV.one (Cell.lit (Value.bool (belowV c n == (0 : Int))))] = asD [DV.one (Cell.lit (Value.bool (onceV c n)))] ∧ asD [DV.box [Cell.sl Cd.byte (belowC c n).b, Cell.lit (Value.int IntKind.i64 (belowC c n).i), Cell.lit (Value.int IntKind.i64 (belowC c n).h)]] = asD [DV.box [Cell.sl Cd.byte (belowC c n).b, Cell.lit (Value.int IntKind.i64 (belowC c n).i), Cell.lit (Value.int IntKind.i64 (belowC c n).h)]]) := by kernel_rfl
theorem ok_spec_l1Once : Holds EE (45, con_spec_l1Once) := by
  refine holds_of EE_ok Go.Proofs.Tryd.func45 con_spec_l1Once (by kernel_rfl) use_spec_l1Once (all_cons ok_spec_l1Below all_nil) ann_spec_l1Once (fun x hp hb => ?_)
  obtain ⟨c, n⟩ := x
  have hb_c : BdDV (U := UU) (.box [.sl .byte c.b, .lit (.int .i64 c.i), .lit (.int .i64 c.h)]) := hb _ (List.mem_cons_self)
  have hl_c_b : c.b.length ≤ 9223372036854775807 := Bd.len (U := UU) (τ := .byte) (xs := c.b) (hb_c _ (by simp))
  have hb_n : BdDV (U := UU) (.one (.lit (.int .i64 n))) := hb _ (List.mem_cons_of_mem _ (List.mem_cons_self))
  have hl_n := Bd.i64 hb_n
  have hp0 : cOk c := hp _ (List.mem_cons_self)
  clear hp hb
  rw [vc_spec_l1Once c n]
  exact ⟨hp0.1, hp0.2, rfl, rfl, rfl⟩
def con_spec_l1Str : Con UU where
  α := DCur × (List ByteArray)
  md := [.box false, .ro]
  of := fun | [.box [.sl .byte a0, .lit (.int .i64 a1), .lit (.int .i64 a2)], .one (.sl .str a3)] => some (⟨a0, a1, a2⟩, a3) | _ => none
  ds := fun (c, list) => [.box [.sl .byte c.b, .lit (.int .i64 c.i), .lit (.int .i64 c.h)], .one (.sl .str list)]
  pre := fun (c, list) => [cOk c, 1 ≤ list.length]
  res := fun (c, list) => ⟨[.one (.lit (.string (strV c list)))], true, [.box [.sl .byte ((strC c list)).b, .lit (.int .i64 ((strC c list)).i), .lit (.int .i64 ((strC c list)).h)]]⟩
  law := by intro l x h; (try simp only at h); split at h <;> cases h; rfl
def ann_spec_l1Str : con_spec_l1Str.α → Nat → Option (Ann UU) := fun (c, list) => annL []
def use_spec_l1Str : List (FuncId × Con UU) := [(46, con_spec_l1Below)]
theorem vc_spec_l1Str (c : DCur) (list : (List ByteArray)) : goal EE use_spec_l1Str Go.Proofs.Tryd.f32 con_spec_l1Str ann_spec_l1Str (c, list) = (let x0 : DCur := belowC c (↑(List.length list) : Int);
(0 : Int) ≤ c.i ∧ List.length c.b ≤ (4294967296 : Nat) ∧ (0 : Int) ≤ belowV c (↑(List.length list) : Int) ∧ Int.toNat (belowV c (↑(List.length list) : Int)) < List.length list ∧ (0 : Nat) = (0 : Nat) ∧ asD [DV.one (Cell.lit (Value.string (List.getD list (Int.toNat (belowV c (↑(List.length list) : Int))) noBytes)))] = asD [DV.one (Cell.lit (Value.string (strV c list)))] ∧ asD [DV.box [Cell.sl Cd.byte x0.b, Cell.lit (Value.int IntKind.i64 x0.i), Cell.lit (Value.int IntKind.i64 x0.h)]] = asD [DV.box [Cell.sl Cd.byte (strC c list).b, Cell.lit (Value.int IntKind.i64 (strC c list).i), Cell.lit (Value.int IntKind.i64 (strC c list).h)]]) := by kernel_rfl
theorem ok_spec_l1Str : Holds EE (32, con_spec_l1Str) := by
  refine holds_of EE_ok Go.Proofs.Tryd.func32 con_spec_l1Str (by kernel_rfl) use_spec_l1Str (all_cons ok_spec_l1Below all_nil) ann_spec_l1Str (fun x hp hb => ?_)
  obtain ⟨c, list⟩ := x
  have hb_c : BdDV (U := UU) (.box [.sl .byte c.b, .lit (.int .i64 c.i), .lit (.int .i64 c.h)]) := hb _ (List.mem_cons_self)
  have hl_c_b : c.b.length ≤ 9223372036854775807 := Bd.len (U := UU) (τ := .byte) (xs := c.b) (hb_c _ (by simp))
  have hb_list : BdDV (U := UU) (.one (.sl .str list)) := hb _ (List.mem_cons_of_mem _ (List.mem_cons_self))
  have hl_list : list.length ≤ 9223372036854775807 := Bd.len hb_list
  have hp0 : cOk c := hp _ (List.mem_cons_self)
  have hp1 : 1 ≤ list.length := hp _ (List.mem_cons_of_mem _ (List.mem_cons_self))
  clear hp hb
  rw [vc_spec_l1Str c list]
  dsimp only
  have hb := belowV_lt (c := c) (n := list.length) (by omega)
  exact ⟨hp0.1, hp0.2, hb.1, by omega, rfl, rfl, rfl⟩
def con_spec_l3Small : Con UU where
  α := DCur
  md := [.box false]
  of := fun | [.box [.sl .byte a0, .lit (.int .i64 a1), .lit (.int .i64 a2)]] => some ⟨a0, a1, a2⟩ | _ => none
  ds := fun c => [.box [.sl .byte c.b, .lit (.int .i64 c.i), .lit (.int .i64 c.h)]]
  pre := fun c => [cOk c]
  res := fun c => ⟨[.agg [.lit (.int .i64 ((smallV c)).K), .lit (.int .i64 ((smallV c)).N), .lit (.string ((smallV c)).S)]], true, [.box [.sl .byte ((smallC c)).b, .lit (.int .i64 ((smallC c)).i), .lit (.int .i64 ((smallC c)).h)]]⟩
  law := by intro l x h; (try simp only at h); split at h <;> cases h; rfl
def ann_spec_l3Small : con_spec_l3Small.α → Nat → Option (Ann UU) := fun c => annL []
def use_spec_l3Small : List (FuncId × Con UU) := [(45, con_spec_l1Once), (46, con_spec_l1Below), (32, con_spec_l1Str)]
theorem vc_spec_l3Small (c : DCur) : goal EE use_spec_l3Small Go.Proofs.Tryd.f47 con_spec_l3Small ann_spec_l3Small c = (let x0 : DCur := strC (belowC c (2 : Int)) [{ data := #[(97 : UInt8)] : ByteArray }, { data := #[(98 : UInt8)] : ByteArray }];
let x1 : List ByteArray := [{ data := #[(97 : UInt8)] : ByteArray }, { data := #[(98 : UInt8)] : ByteArray }];
let x2 : DCur := belowC (belowC c (2 : Int)) (3 : Int);
cOk c ∧ bif onceV c (2 : Int) then (0 : Int) ≤ (belowC c (2 : Int)).i ∧ List.length (belowC c (2 : Int)).b ≤ (4294967296 : Nat) ∧ (0 : Nat) = (0 : Nat) ∧ asD [DV.agg [Cell.lit (Value.int IntKind.i64 (1 : Int)), Cell.lit (Value.int IntKind.i64 (IntKind.wrap IntKind.i64 ((1 : Int) + belowV (belowC c (2 : Int)) (3 : Int)))), Cell.lit (Value.string { data := #[] : ByteArray })]] = asD [DV.agg [Cell.lit (Value.int IntKind.i64 (smallV c).K), Cell.lit (Value.int IntKind.i64 (smallV c).N), Cell.lit (Value.string (smallV c).S)]] ∧ asD [DV.box [Cell.sl Cd.byte x2.b, Cell.lit (Value.int IntKind.i64 x2.i), Cell.lit (Value.int IntKind.i64 x2.h)]] = asD [DV.box [Cell.sl Cd.byte (smallC c).b, Cell.lit (Value.int IntKind.i64 (smallC c).i), Cell.lit (Value.int IntKind.i64 (smallC c).h)]] else cOk (belowC c (2 : Int)) ∧ (1 : Nat) ≤ List.length x1 ∧ (0 : Nat) = (0 : Nat) ∧ asD [DV.agg [Cell.lit (Value.int IntKind.i64 (2 : Int)), Cell.lit (Value.int IntKind.i64 (0 : Int)), Cell.lit (Value.string (strV (belowC c (2 : Int)) x1))]] = asD [DV.agg [Cell.lit (Value.int IntKind.i64 (smallV c).K), Cell.lit (Value.int IntKind.i64 (smallV c).N), Cell.lit (Value.string (smallV c).S)]] ∧ asD [DV.box [Cell.sl Cd.byte x0.b, Cell.lit (Value.int IntKind.i64 x0.i), Cell.lit (Value.int IntKind.i64 x0.h)]] = asD [DV.box [Cell.sl Cd.byte (smallC c).b, Cell.lit (Value.int IntKind.i64 (smallC c).i), Cell.lit (Value.int IntKind.i64 (smallC c).h)]]) := by kernel_rfl
theorem ok_spec_l3Small : Holds EE (47, con_spec_l3Small) := by
  refine holds_of EE_ok Go.Proofs.Tryd.func47 con_spec_l3Small (by kernel_rfl) use_spec_l3Small (all_cons ok_spec_l1Once (all_cons ok_spec_l1Below (all_cons ok_spec_l1Str all_nil))) ann_spec_l3Small (fun (c : DCur) hp hb => ?_)
  have hb_c : BdDV (U := UU) (.box [.sl .byte c.b, .lit (.int .i64 c.i), .lit (.int .i64 c.h)]) := hb _ (List.mem_cons_self)
  have hl_c_b : c.b.length ≤ 9223372036854775807 := Bd.len (U := UU) (τ := .byte) (xs := c.b) (hb_c _ (by simp))
  have hp0 : cOk c := hp _ (List.mem_cons_self)
  clear hp hb
  rw [vc_spec_l3Small c]
  dsimp only
  refine ⟨hp0, if_cond (fun h => ?_) (fun h => ?_)⟩
  · have hb := belowV_lt (c := belowC c 2) (n := 3) (by omega)
    have h2 := cOk_below hp0 2
    rw [wrap_i64 (by omega) (by omega)]
    rw [smallV, smallC, if_pos h, if_pos h]; exact ⟨h2.1, h2.2, rfl, rfl, rfl⟩
  · have h2 := cOk_below hp0 2
    rw [smallV, smallC, if_neg (by simp [h]), if_neg (by simp [h])]; exact ⟨h2, by simp, rfl, rfl, rfl⟩
def con_spec_l3Draw : Con UU where
  α := DCur
  md := [.box false]
  of := fun | [.box [.sl .byte a0, .lit (.int .i64 a1), .lit (.int .i64 a2)]] => some ⟨a0, a1, a2⟩ | _ => none
  ds := fun c => [.box [.sl .byte c.b, .lit (.int .i64 c.i), .lit (.int .i64 c.h)]]
  pre := fun c => [cOk c]
  res := fun c => ⟨[.agg [.lit (.string ((factV c)).Kind), .sl .eVal ((factV c)).Fields]], true, [.box [.sl .byte ((factC c)).b, .lit (.int .i64 ((factC c)).i), .lit (.int .i64 ((factC c)).h)]]⟩
  law := by intro l x h; (try simp only at h); split at h <;> cases h; rfl
def I_spec_l3Draw_8 (c : DCur) : Int × (ByteArray × List DVal × Unit) × (ByteArray × List DVal × Unit) × (List Int × Int × Int × Unit) × Unit → Prop := fun (i, r, f, cu, _) => 0 ≤ i ∧ i ≤ factN c ∧ f.1 = strV c sLkind ∧ cOk ⟨cu.1, cu.2.1, cu.2.2.1⟩ ∧ f.2.1.length ≤ i ∧ smallsL (factN c - i).toNat f.2.1 ⟨cu.1, cu.2.1, cu.2.2.1⟩ = (factV c).Fields ∧ smallsC (factN c - i).toNat ⟨cu.1, cu.2.1, cu.2.2.1⟩ = factC c
def μ_spec_l3Draw_8 (c : DCur) : Int × (ByteArray × List DVal × Unit) × (ByteArray × List DVal × Unit) × (List Int × Int × Int × Unit) × Unit → Nat := fun (i, r, f, cu, _) => (factN c - i).toNat
def ann_spec_l3Draw : con_spec_l3Draw.α → Nat → Option (Ann UU) := fun c => annL [(8, annOf [.slot 5 (5, 1024) (.lit (.int .i64)), .box 2 (2, 1024) [.lit .str, .own .eVal true], .box 3 (3, 1024) [.lit .str, .own .eVal true], .box 0 (2000000, 0) [.shr .byte, .lit (.int .i64), .lit (.int .i64)]] (fun _ => I_spec_l3Draw_8 c) (μ_spec_l3Draw_8 c))]
def use_spec_l3Draw : List (FuncId × Con UU) := [(32, con_spec_l1Str), (45, con_spec_l1Once), (46, con_spec_l1Below), (47, con_spec_l3Small)]
theorem vc_spec_l3Draw (c : DCur) : goal EE use_spec_l3Draw Go.Proofs.Tryd.f20 con_spec_l3Draw ann_spec_l3Draw c = (let x0 : DCur := belowC (strC c [{ data := #[(111 : UInt8), (114 : UInt8), (100 : UInt8), (101 : UInt8), (114 : UInt8)] : ByteArray }, { data := #[(112 : UInt8), (97 : UInt8), (105 : UInt8), (100 : UInt8)] : ByteArray }, { data := #[(105 : UInt8), (116 : UInt8), (101 : UInt8), (109 : UInt8)] : ByteArray }, { data := #[(111 : UInt8), (114 : UInt8), (100 : UInt8), (101 : UInt8), (114 : UInt8)] : ByteArray }]) (12 : Int);
let x1 : List ByteArray := [{ data := #[(111 : UInt8), (114 : UInt8), (100 : UInt8), (101 : UInt8), (114 : UInt8)] : ByteArray }, { data := #[(112 : UInt8), (97 : UInt8), (105 : UInt8), (100 : UInt8)] : ByteArray }, { data := #[(105 : UInt8), (116 : UInt8), (101 : UInt8), (109 : UInt8)] : ByteArray }, { data := #[(111 : UInt8), (114 : UInt8), (100 : UInt8), (101 : UInt8), (114 : UInt8)] : ByteArray }];
cOk c ∧
  (1 : Nat) ≤ List.length x1 ∧
    bif ByteArray.toList (strV c x1) == ByteArray.toList { data := #[(105 : UInt8), (116 : UInt8), (101 : UInt8), (109 : UInt8)] : ByteArray } then
      cOk (strC c x1) ∧
        bif onceV (strC c x1) (12 : Int) then
          (0 : Int) ≤ x0.i ∧
            List.length x0.b ≤ (4294967296 : Nat) ∧
              I_spec_l3Draw_8 c ((0 : Int), ({ data := #[] : ByteArray }, [], PUnit.unit), (strV c x1, [], PUnit.unit), ((belowC x0 (6 : Int)).b, (belowC x0 (6 : Int)).i, (belowC x0 (6 : Int)).h, PUnit.unit), PUnit.unit) ∧
                ∀ (y : Int × (ByteArray × List DVal × PUnit) × (ByteArray × List DVal × PUnit) × (List Int × Int × Int × PUnit) × PUnit),
                  let x2 : DCur := smallC { b := y.2.2.2.1.1, i := y.2.2.2.1.2.1, h := y.2.2.2.1.2.2.1 : DCur };
                  let x3 : List DVal := [smallV { b := y.2.2.2.1.1, i := y.2.2.2.1.2.1, h := y.2.2.2.1.2.2.1 : DCur }];
                  I_spec_l3Draw_8 c y → bif decide (y.1 < belowV x0 (6 : Int)) then cOk { b := y.2.2.2.1.1, i := y.2.2.2.1.2.1, h := y.2.2.2.1.2.2.1 : DCur } ∧ List.length y.2.2.1.2.1 + List.length x3 ≤ (4294967296 : Nat) ∧ I_spec_l3Draw_8 c (IntKind.wrap IntKind.i64 (y.1 + (1 : Int)), (y.2.1.1, y.2.1.2.1, PUnit.unit), (y.2.2.1.1, y.2.2.1.2.1 ++ x3, PUnit.unit), (x2.b, x2.i, x2.h, PUnit.unit), PUnit.unit) ∧ μ_spec_l3Draw_8 c (IntKind.wrap IntKind.i64 (y.1 + (1 : Int)), (y.2.1.1, y.2.1.2.1, PUnit.unit), (y.2.2.1.1, y.2.2.1.2.1 ++ x3, PUnit.unit), (x2.b, x2.i, x2.h, PUnit.unit), PUnit.unit) < μ_spec_l3Draw_8 c y else (0 : Nat) = (0 : Nat) ∧ asD [DV.agg [Cell.lit (Value.string y.2.2.1.1), Cell.sl Cd.eVal y.2.2.1.2.1]] = asD [DV.agg [Cell.lit (Value.string (factV c).Kind), Cell.sl Cd.eVal (factV c).Fields]] ∧ asD [DV.box [Cell.sl Cd.byte y.2.2.2.1.1, Cell.lit (Value.int IntKind.i64 y.2.2.2.1.2.1), Cell.lit (Value.int IntKind.i64 y.2.2.2.1.2.2.1)]] = asD [DV.box [Cell.sl Cd.byte (factC c).b, Cell.lit (Value.int IntKind.i64 (factC c).i), Cell.lit (Value.int IntKind.i64 (factC c).h)]]
        else
          I_spec_l3Draw_8 c ((0 : Int), ({ data := #[] : ByteArray }, [], PUnit.unit), (strV c x1, [], PUnit.unit), (x0.b, x0.i, x0.h, PUnit.unit), PUnit.unit) ∧
            ∀ (y : Int × (ByteArray × List DVal × PUnit) × (ByteArray × List DVal × PUnit) × (List Int × Int × Int × PUnit) × PUnit),
              let x2 : DCur := smallC { b := y.2.2.2.1.1, i := y.2.2.2.1.2.1, h := y.2.2.2.1.2.2.1 : DCur };
              let x3 : List DVal := [smallV { b := y.2.2.2.1.1, i := y.2.2.2.1.2.1, h := y.2.2.2.1.2.2.1 : DCur }];
              I_spec_l3Draw_8 c y → bif decide (y.1 < (2 : Int)) then cOk { b := y.2.2.2.1.1, i := y.2.2.2.1.2.1, h := y.2.2.2.1.2.2.1 : DCur } ∧ List.length y.2.2.1.2.1 + List.length x3 ≤ (4294967296 : Nat) ∧ I_spec_l3Draw_8 c (IntKind.wrap IntKind.i64 (y.1 + (1 : Int)), (y.2.1.1, y.2.1.2.1, PUnit.unit), (y.2.2.1.1, y.2.2.1.2.1 ++ x3, PUnit.unit), (x2.b, x2.i, x2.h, PUnit.unit), PUnit.unit) ∧ μ_spec_l3Draw_8 c (IntKind.wrap IntKind.i64 (y.1 + (1 : Int)), (y.2.1.1, y.2.1.2.1, PUnit.unit), (y.2.2.1.1, y.2.2.1.2.1 ++ x3, PUnit.unit), (x2.b, x2.i, x2.h, PUnit.unit), PUnit.unit) < μ_spec_l3Draw_8 c y else (0 : Nat) = (0 : Nat) ∧ asD [DV.agg [Cell.lit (Value.string y.2.2.1.1), Cell.sl Cd.eVal y.2.2.1.2.1]] = asD [DV.agg [Cell.lit (Value.string (factV c).Kind), Cell.sl Cd.eVal (factV c).Fields]] ∧ asD [DV.box [Cell.sl Cd.byte y.2.2.2.1.1, Cell.lit (Value.int IntKind.i64 y.2.2.2.1.2.1), Cell.lit (Value.int IntKind.i64 y.2.2.2.1.2.2.1)]] = asD [DV.box [Cell.sl Cd.byte (factC c).b, Cell.lit (Value.int IntKind.i64 (factC c).i), Cell.lit (Value.int IntKind.i64 (factC c).h)]]
    else
      cOk (strC c x1) ∧
        bif onceV (strC c x1) (12 : Int) then
          (0 : Int) ≤ x0.i ∧
            List.length x0.b ≤ (4294967296 : Nat) ∧
              I_spec_l3Draw_8 c ((0 : Int), ({ data := #[] : ByteArray }, [], PUnit.unit), (strV c x1, [], PUnit.unit), ((belowC x0 (6 : Int)).b, (belowC x0 (6 : Int)).i, (belowC x0 (6 : Int)).h, PUnit.unit), PUnit.unit) ∧
                ∀ (y : Int × (ByteArray × List DVal × PUnit) × (ByteArray × List DVal × PUnit) × (List Int × Int × Int × PUnit) × PUnit),
                  let x2 : DCur := smallC { b := y.2.2.2.1.1, i := y.2.2.2.1.2.1, h := y.2.2.2.1.2.2.1 : DCur };
                  let x3 : List DVal := [smallV { b := y.2.2.2.1.1, i := y.2.2.2.1.2.1, h := y.2.2.2.1.2.2.1 : DCur }];
                  I_spec_l3Draw_8 c y → bif decide (y.1 < belowV x0 (6 : Int)) then cOk { b := y.2.2.2.1.1, i := y.2.2.2.1.2.1, h := y.2.2.2.1.2.2.1 : DCur } ∧ List.length y.2.2.1.2.1 + List.length x3 ≤ (4294967296 : Nat) ∧ I_spec_l3Draw_8 c (IntKind.wrap IntKind.i64 (y.1 + (1 : Int)), (y.2.1.1, y.2.1.2.1, PUnit.unit), (y.2.2.1.1, y.2.2.1.2.1 ++ x3, PUnit.unit), (x2.b, x2.i, x2.h, PUnit.unit), PUnit.unit) ∧ μ_spec_l3Draw_8 c (IntKind.wrap IntKind.i64 (y.1 + (1 : Int)), (y.2.1.1, y.2.1.2.1, PUnit.unit), (y.2.2.1.1, y.2.2.1.2.1 ++ x3, PUnit.unit), (x2.b, x2.i, x2.h, PUnit.unit), PUnit.unit) < μ_spec_l3Draw_8 c y else (0 : Nat) = (0 : Nat) ∧ asD [DV.agg [Cell.lit (Value.string y.2.2.1.1), Cell.sl Cd.eVal y.2.2.1.2.1]] = asD [DV.agg [Cell.lit (Value.string (factV c).Kind), Cell.sl Cd.eVal (factV c).Fields]] ∧ asD [DV.box [Cell.sl Cd.byte y.2.2.2.1.1, Cell.lit (Value.int IntKind.i64 y.2.2.2.1.2.1), Cell.lit (Value.int IntKind.i64 y.2.2.2.1.2.2.1)]] = asD [DV.box [Cell.sl Cd.byte (factC c).b, Cell.lit (Value.int IntKind.i64 (factC c).i), Cell.lit (Value.int IntKind.i64 (factC c).h)]]
        else
          I_spec_l3Draw_8 c ((0 : Int), ({ data := #[] : ByteArray }, [], PUnit.unit), (strV c x1, [], PUnit.unit), (x0.b, x0.i, x0.h, PUnit.unit), PUnit.unit) ∧
            ∀ (y : Int × (ByteArray × List DVal × PUnit) × (ByteArray × List DVal × PUnit) × (List Int × Int × Int × PUnit) × PUnit),
              let x2 : DCur := smallC { b := y.2.2.2.1.1, i := y.2.2.2.1.2.1, h := y.2.2.2.1.2.2.1 : DCur };
              let x3 : List DVal := [smallV { b := y.2.2.2.1.1, i := y.2.2.2.1.2.1, h := y.2.2.2.1.2.2.1 : DCur }];
              I_spec_l3Draw_8 c y → bif decide (y.1 < (1 : Int)) then cOk { b := y.2.2.2.1.1, i := y.2.2.2.1.2.1, h := y.2.2.2.1.2.2.1 : DCur } ∧ List.length y.2.2.1.2.1 + List.length x3 ≤ (4294967296 : Nat) ∧ I_spec_l3Draw_8 c (IntKind.wrap IntKind.i64 (y.1 + (1 : Int)), (y.2.1.1, y.2.1.2.1, PUnit.unit), (y.2.2.1.1, y.2.2.1.2.1 ++ x3, PUnit.unit), (x2.b, x2.i, x2.h, PUnit.unit), PUnit.unit) ∧ μ_spec_l3Draw_8 c (IntKind.wrap IntKind.i64 (y.1 + (1 : Int)), (y.2.1.1, y.2.1.2.1, PUnit.unit), (y.2.2.1.1, y.2.2.1.2.1 ++ x3, PUnit.unit), (x2.b, x2.i, x2.h, PUnit.unit), PUnit.unit) < μ_spec_l3Draw_8 c y else (0 : Nat) = (0 : Nat) ∧ asD [DV.agg [Cell.lit (Value.string y.2.2.1.1), Cell.sl Cd.eVal y.2.2.1.2.1]] = asD [DV.agg [Cell.lit (Value.string (factV c).Kind), Cell.sl Cd.eVal (factV c).Fields]] ∧ asD [DV.box [Cell.sl Cd.byte y.2.2.2.1.1, Cell.lit (Value.int IntKind.i64 y.2.2.2.1.2.1), Cell.lit (Value.int IntKind.i64 y.2.2.2.1.2.2.1)]] = asD [DV.box [Cell.sl Cd.byte (factC c).b, Cell.lit (Value.int IntKind.i64 (factC c).i), Cell.lit (Value.int IntKind.i64 (factC c).h)]]) := by kernel_rfl
theorem ok_spec_l3Draw : Holds EE (20, con_spec_l3Draw) := by
  refine holds_of EE_ok Go.Proofs.Tryd.func20 con_spec_l3Draw (by kernel_rfl) use_spec_l3Draw (all_cons ok_spec_l1Str (all_cons ok_spec_l1Once (all_cons ok_spec_l1Below (all_cons ok_spec_l3Small all_nil)))) ann_spec_l3Draw (fun (c : DCur) hp hb => ?_)
  have hb_c : BdDV (U := UU) (.box [.sl .byte c.b, .lit (.int .i64 c.i), .lit (.int .i64 c.h)]) := hb _ (List.mem_cons_self)
  have hl_c_b : c.b.length ≤ 9223372036854775807 := Bd.len (U := UU) (τ := .byte) (xs := c.b) (hb_c _ (by simp))
  have hp0 : cOk c := hp _ (List.mem_cons_self)
  clear hp hb
  rw [vc_spec_l3Draw c]
  dsimp only
  have hk := cOk_str hp0 sLkind
  have hd := cOk_factD hp0
  have hle := factN_le c
  have fin : ∀ (n : Int) (d : DCur), factN c = n → factD c = d →
      I_spec_l3Draw_8 c ((0 : Int), (noBytes, [], PUnit.unit), (strV c sLkind, [], PUnit.unit), (d.b, d.i, d.h, PUnit.unit), PUnit.unit) := by
    rintro n d rfl rfl
    exact ⟨by omega, by omega, rfl, hd, by simp, by simp only [Int.sub_zero]; rfl, by simp only [Int.sub_zero]; rfl⟩
  refine ⟨hp0, by simp, ?_⟩
  refine if_cond (fun h => ⟨hk, if_cond (fun h' => ⟨(cOk_below hk 12).1, (cOk_below hk 12).2, ?_⟩) (fun h' => ?_)⟩) (fun h => ⟨hk, if_cond (fun h' => ⟨(cOk_below hk 12).1, (cOk_below hk 12).2, ?_⟩) (fun h' => ?_)⟩)
  · have hN : factN c = belowV (belowC (strC c sLkind) 12) 6 := if_pos h'
    have hD : factD c = belowC (belowC (strC c sLkind) 12) 6 := if_pos h'
    refine ⟨fin _ _ hN hD, ?_⟩
    have hN' : belowV (belowC (strC c sLkind) 12) 6 = factN c := hN.symm
    rintro ⟨i, r, ⟨fk, fl, ⟨⟩⟩, ⟨cb, ci, ch, ⟨⟩⟩, ⟨⟩⟩ ⟨g1, g2, g3, g4, g5, g6, g7⟩
    simp only at g1 g2 g3 g4 g5 g6 g7 ⊢
    refine if_cond (fun hc => ?_) (fun hc => ?_)
    · have hc : i < factN c := by rw [hN]; exact of_decide_eq_true hc
      have e : (factN c - i).toNat = (factN c - (i + 1)).toNat + 1 := by omega
      rw [e] at g6 g7
      rw [wrap_i64 (by omega) (by omega)]
      exact ⟨g4, by simp only [List.length_cons, List.length_nil]; omega, ⟨by omega, by omega, g3, cOk_small g4, by simp only [List.length_append, List.length_cons, List.length_nil]; omega, g6, g7⟩, by simp only [μ_spec_l3Draw_8]; omega⟩
    · have hc : ¬ i < factN c := by rw [hN]; exact of_decide_eq_false hc
      have e : (factN c - i).toNat = 0 := by omega
      rw [e] at g6 g7
      have g6 : fl = (factV c).Fields := g6
      have g7 : (⟨cb, ci, ch⟩ : DCur) = factC c := g7
      have g3 : fk = (factV c).Kind := g3
      rw [← g7, ← g6, ← g3]
      exact ⟨by trivial, rfl, rfl⟩
  · have h : strV c sLkind = bItem := by rw [toList_beq] at h; exact of_decide_eq_true h
    have hN : factN c = 2 := by rw [factN, if_neg (by rw [show onceV (strC c sLkind) 12 = false from h']; simp), if_pos h]
    have hD : factD c = belowC (strC c sLkind) 12 := if_neg (by rw [show onceV (strC c sLkind) 12 = false from h']; simp)
    refine ⟨fin _ _ hN hD, ?_⟩
    rintro ⟨i, r, ⟨fk, fl, ⟨⟩⟩, ⟨cb, ci, ch, ⟨⟩⟩, ⟨⟩⟩ ⟨g1, g2, g3, g4, g5, g6, g7⟩
    simp only at g1 g2 g3 g4 g5 g6 g7 ⊢
    refine if_cond (fun hc => ?_) (fun hc => ?_)
    · have hc : i < factN c := by rw [hN]; exact of_decide_eq_true hc
      have e : (factN c - i).toNat = (factN c - (i + 1)).toNat + 1 := by omega
      rw [e] at g6 g7
      rw [wrap_i64 (by omega) (by omega)]
      exact ⟨g4, by simp only [List.length_cons, List.length_nil]; omega, ⟨by omega, by omega, g3, cOk_small g4, by simp only [List.length_append, List.length_cons, List.length_nil]; omega, g6, g7⟩, by simp only [μ_spec_l3Draw_8]; omega⟩
    · have hc : ¬ i < factN c := by rw [hN]; exact of_decide_eq_false hc
      have e : (factN c - i).toNat = 0 := by omega
      rw [e] at g6 g7
      have g6 : fl = (factV c).Fields := g6
      have g7 : (⟨cb, ci, ch⟩ : DCur) = factC c := g7
      have g3 : fk = (factV c).Kind := g3
      rw [← g7, ← g6, ← g3]
      exact ⟨by trivial, rfl, rfl⟩
  · have hN : factN c = belowV (belowC (strC c sLkind) 12) 6 := if_pos h'
    have hD : factD c = belowC (belowC (strC c sLkind) 12) 6 := if_pos h'
    refine ⟨fin _ _ hN hD, ?_⟩
    have hN' : belowV (belowC (strC c sLkind) 12) 6 = factN c := hN.symm
    rintro ⟨i, r, ⟨fk, fl, ⟨⟩⟩, ⟨cb, ci, ch, ⟨⟩⟩, ⟨⟩⟩ ⟨g1, g2, g3, g4, g5, g6, g7⟩
    simp only at g1 g2 g3 g4 g5 g6 g7 ⊢
    refine if_cond (fun hc => ?_) (fun hc => ?_)
    · have hc : i < factN c := by rw [hN]; exact of_decide_eq_true hc
      have e : (factN c - i).toNat = (factN c - (i + 1)).toNat + 1 := by omega
      rw [e] at g6 g7
      rw [wrap_i64 (by omega) (by omega)]
      exact ⟨g4, by simp only [List.length_cons, List.length_nil]; omega, ⟨by omega, by omega, g3, cOk_small g4, by simp only [List.length_append, List.length_cons, List.length_nil]; omega, g6, g7⟩, by simp only [μ_spec_l3Draw_8]; omega⟩
    · have hc : ¬ i < factN c := by rw [hN]; exact of_decide_eq_false hc
      have e : (factN c - i).toNat = 0 := by omega
      rw [e] at g6 g7
      have g6 : fl = (factV c).Fields := g6
      have g7 : (⟨cb, ci, ch⟩ : DCur) = factC c := g7
      have g3 : fk = (factV c).Kind := g3
      rw [← g7, ← g6, ← g3]
      exact ⟨by trivial, rfl, rfl⟩
  · have h : ¬ strV c sLkind = bItem := by rw [toList_beq] at h; exact of_decide_eq_false h
    have hN : factN c = 1 := by rw [factN, if_neg (by rw [show onceV (strC c sLkind) 12 = false from h']; simp), if_neg h]
    have hD : factD c = belowC (strC c sLkind) 12 := if_neg (by rw [show onceV (strC c sLkind) 12 = false from h']; simp)
    refine ⟨fin _ _ hN hD, ?_⟩
    rintro ⟨i, r, ⟨fk, fl, ⟨⟩⟩, ⟨cb, ci, ch, ⟨⟩⟩, ⟨⟩⟩ ⟨g1, g2, g3, g4, g5, g6, g7⟩
    simp only at g1 g2 g3 g4 g5 g6 g7 ⊢
    refine if_cond (fun hc => ?_) (fun hc => ?_)
    · have hc : i < factN c := by rw [hN]; exact of_decide_eq_true hc
      have e : (factN c - i).toNat = (factN c - (i + 1)).toNat + 1 := by omega
      rw [e] at g6 g7
      rw [wrap_i64 (by omega) (by omega)]
      exact ⟨g4, by simp only [List.length_cons, List.length_nil]; omega, ⟨by omega, by omega, g3, cOk_small g4, by simp only [List.length_append, List.length_cons, List.length_nil]; omega, g6, g7⟩, by simp only [μ_spec_l3Draw_8]; omega⟩
    · have hc : ¬ i < factN c := by rw [hN]; exact of_decide_eq_false hc
      have e : (factN c - i).toNat = 0 := by omega
      rw [e] at g6 g7
      have g6 : fl = (factV c).Fields := g6
      have g7 : (⟨cb, ci, ch⟩ : DCur) = factC c := g7
      have g3 : fk = (factV c).Kind := g3
      rw [← g7, ← g6, ← g3]
      exact ⟨by trivial, rfl, rfl⟩
def con_laws_big : Con UU where
  α := (List Int)
  md := [.ro]
  of := fun | [.one (.sl .byte a0)] => some a0 | _ => none
  ds := fun code => [.one (.sl .byte code)]
  pre := fun code => []
  res := fun code => ⟨[.one (.lit (.bool (decide (code.length > 1048576))))], true, []⟩
  law := by intro l x h; (try simp only at h); split at h <;> cases h; rfl
def ann_laws_big : con_laws_big.α → Nat → Option (Ann UU) := fun code => annL []
def use_laws_big : List (FuncId × Con UU) := []
theorem vc_laws_big (code : (List Int)) : goal EE use_laws_big Go.Proofs.Tryd.f5 con_laws_big ann_laws_big code = (Lf [DV.one (Cell.lit (Value.bool (decide ((↑(List.length code) : Int) > (1048576 : Int)))))] [DV.one (Cell.lit (Value.bool (decide (List.length code > (1048576 : Nat)))))]) := by kernel_rfl
theorem ok_laws_big : Holds EE (5, con_laws_big) := by
  refine holds_of EE_ok Go.Proofs.Tryd.func5 con_laws_big (by kernel_rfl) use_laws_big all_nil ann_laws_big (fun (code : (List Int)) hp hb => ?_)
  have hb_code : BdDV (U := UU) (.one (.sl .byte code)) := hb _ (List.mem_cons_self)
  have hl_code : code.length ≤ 9223372036854775807 := Bd.len hb_code
  clear hp hb
  rw [vc_laws_big code]
  exact Lf_b (decide_eq_decide.2 (by omega))
def allI (n : Nat) (p : Nat → Bool) : Bool := (List.range n).all p
theorem allI_true {n : Nat} {p : Nat → Bool} (h : ∀ j, j < n → p j = true) : allI n p = true := by simpa [allI] using h
theorem allI_false {n : Nat} {p : Nat → Bool} {j : Nat} (h : j < n) (hj : p j = false) : allI n p = false := by
  simp only [allI, List.all_eq_false, List.mem_range]
  exact ⟨j, h, by simp [hj]⟩
theorem upto_step {i : Int} {p : Nat → Bool} (h0 : 0 ≤ i) (h : ∀ j : Nat, (j : Int) < i → p j = true) (hi : p i.toNat = true) : ∀ j : Nat, (j : Int) < i + 1 → p j = true := by
  intro j hj
  by_cases hji : (j : Int) < i
  · exact h j hji
  · have : j = i.toNat := by omega
    subst this; exact hi
def timerOk (x : DTimer) : Bool := decide (0 ≤ x.At ∧ x.At ≤ 1000000000) && factOk x.F
def timerAt (l : List DTimer) (i : Nat) : Bool := timerOk (List.getD l i zTimer) && (decide (i = 0) || decide ((List.getD l (i - 1) zTimer).At ≤ (List.getD l i zTimer).At))
def timersOk (l : List DTimer) : Bool := decide (l.length ≤ 30) && allI l.length (timerAt l)
def con_impl_isTime : Con UU where
  α := Int
  md := [.ro]
  of := fun | [.one (.lit (.int .i64 a0))] => some a0 | _ => none
  ds := fun n => [.one (.lit (.int .i64 n))]
  pre := fun n => []
  res := fun n => ⟨[.one (.lit (.bool (decide (0 ≤ n ∧ n ≤ 1000000000))))], true, []⟩
  law := by intro l x h; (try simp only at h); split at h <;> cases h; rfl
def ann_impl_isTime : con_impl_isTime.α → Nat → Option (Ann UU) := fun n => annL []
def use_impl_isTime : List (FuncId × Con UU) := [(50, con_impl_inRange)]
theorem vc_impl_isTime (n : Int) : goal EE use_impl_isTime Go.Proofs.Tryd.f25 con_impl_isTime ann_impl_isTime n = (Lf [DV.one (Cell.lit (Value.bool (decide ((0 : Int) ≤ n ∧ n ≤ (1000000000 : Int)))))] [DV.one (Cell.lit (Value.bool (decide ((0 : Int) ≤ n ∧ n ≤ (1000000000 : Int)))))]) := by kernel_rfl
theorem ok_impl_isTime : Holds EE (25, con_impl_isTime) := by
  refine holds_of EE_ok Go.Proofs.Tryd.func25 con_impl_isTime (by kernel_rfl) use_impl_isTime (all_cons ok_impl_inRange all_nil) ann_impl_isTime (fun (n : Int) hp hb => ?_)
  have hb_n : BdDV (U := UU) (.one (.lit (.int .i64 n))) := hb _ (List.mem_cons_self)
  have hl_n := Bd.i64 hb_n
  clear hp hb
  rw [vc_impl_isTime n]
  exact Lf_rfl _
/-- The first place where p holds; -1. -/
def idxI (n : Nat) (p : Nat → Bool) : Int := match (List.range n).find? p with | some i => i | none => -1
def anyI (n : Nat) (p : Nat → Bool) : Bool := (List.range n).any p
theorem idxI_found {n i : Nat} {p : Nat → Bool} (h : i < n) (hp : p i = true) (hj : ∀ j, j < i → p j = false) : idxI n p = i := by
  have : (List.range n).find? p = some i := by
    rw [List.find?_range_eq_some]
    exact ⟨hp, List.mem_range.2 h, fun j hj' => by simp [hj j hj']⟩
  simp [idxI, this]
theorem idxI_none {n : Nat} {p : Nat → Bool} (hj : ∀ j, j < n → p j = false) : idxI n p = -1 := by
  have : (List.range n).find? p = none := by
    rw [List.find?_eq_none]
    intro j hj'
    simp [hj j (List.mem_range.1 hj')]
  simp [idxI, this]
theorem idxI_cases (n : Nat) (p : Nat → Bool) : (idxI n p = -1 ∧ ∀ j, j < n → p j = false) ∨ ∃ i, i < n ∧ idxI n p = (i : Int) ∧ p i = true ∧ ∀ j, j < i → p j = false := by
  cases h : (List.range n).find? p with
  | none =>
    refine .inl ⟨by simp [idxI, h], fun j hj => ?_⟩
    have := List.find?_eq_none.1 h j (List.mem_range.2 hj)
    simpa using this
  | some i =>
    rw [List.find?_range_eq_some] at h
    obtain ⟨h1, h2, h3⟩ := h
    exact .inr ⟨i, List.mem_range.1 h2, idxI_found (List.mem_range.1 h2) h1 (fun j hj => by simpa using h3 j hj), h1, fun j hj => by simpa using h3 j hj⟩
theorem idxI_congr {n : Nat} {p q : Nat → Bool} (h : ∀ j, j < n → p j = q j) : idxI n p = idxI n q := by
  rcases idxI_cases n q with ⟨h1, h2⟩ | ⟨i, h1, h2, h3, h4⟩
  · rw [h1, idxI_none (fun j hj => by rw [h j hj, h2 j hj])]
  · rw [h2, idxI_found h1 (by rw [h i h1, h3]) (fun j hj => by rw [h j (by omega), h4 j hj])]
theorem anyI_true {n j : Nat} {p : Nat → Bool} (h : j < n) (hp : p j = true) : anyI n p = true := by
  simp only [anyI, List.any_eq_true, List.mem_range]
  exact ⟨j, h, hp⟩
theorem anyI_false {n : Nat} {p : Nat → Bool} (h : ∀ j, j < n → p j = false) : anyI n p = false := by
  simp only [anyI, List.any_eq_false, List.mem_range]
  exact fun j hj => by simp [h j hj]
theorem anyI_iff {n : Nat} {p : Nat → Bool} : anyI n p = true ↔ ∃ j, j < n ∧ p j = true := by
  simp only [anyI, List.any_eq_true, List.mem_range]
theorem anyI_not {n : Nat} {p : Nat → Bool} : anyI n p = false ↔ ∀ j, j < n → p j = false := by
  simp only [anyI, List.any_eq_false, List.mem_range, Bool.not_eq_true]
theorem allI_iff {n : Nat} {p : Nat → Bool} : allI n p = true ↔ ∀ j, j < n → p j = true := by
  simp only [allI, List.all_eq_true, List.mem_range]
theorem allI_not {n : Nat} {p : Nat → Bool} : allI n p = false ↔ ∃ j, j < n ∧ p j = false := by
  simp only [allI, List.all_eq_false, List.mem_range, Bool.not_eq_true]
theorem anyI_congr {n : Nat} {p q : Nat → Bool} (h : ∀ j, j < n → p j = q j) : anyI n p = anyI n q := by
  rw [Bool.eq_iff_iff, anyI_iff, anyI_iff]
  exact ⟨fun ⟨j, h1, h2⟩ => ⟨j, h1, by rw [← h j h1]; exact h2⟩, fun ⟨j, h1, h2⟩ => ⟨j, h1, by rw [h j h1]; exact h2⟩⟩
theorem allI_congr {n : Nat} {p q : Nat → Bool} (h : ∀ j, j < n → p j = q j) : allI n p = allI n q := by
  rw [Bool.eq_iff_iff, allI_iff, allI_iff]
  exact ⟨fun g j hj => by rw [← h j hj]; exact g j hj, fun g j hj => by rw [h j hj]; exact g j hj⟩
theorem idxI_ge {n : Nat} {p : Nat → Bool} : decide (0 ≤ idxI n p) = anyI n p := by
  rcases idxI_cases n p with ⟨h1, h2⟩ | ⟨i, h1, h2, h3, h4⟩
  · rw [h1, anyI_false h2]; rfl
  · rw [h2, anyI_true h1 h3]; simp
theorem getD_take {α : Type} (l : List α) (z : α) {i j : Nat} (h : j < i) : List.getD (l.take i) j z = List.getD l j z := by
  rw [List.getD_eq_getElem?_getD, List.getD_eq_getElem?_getD, List.getElem?_take, if_pos h]
/-- What a closure answers. -/
theorem closP_of {k : Con UU} {caps : List (DV UU)} {ds : List (DA UU)} {x : k.α} {v : Value} (h : k.of (ds.map DA.dv ++ caps) = some x) (hv : (k.res x).val = [.one (.lit v)]) (hm : (k.res x).muts = [])
    (hl : k.md.length = ds.length + caps.length) (hp : ∀ p ∈ k.pre x, p) : closP k caps ds = some v := by
  unfold closP
  simp only [h, hv, hm]
  rw [if_pos ⟨hl, hp⟩]
theorem val_beq (a b : DVal) : (a.K == b.K && (a.N == b.N && (ByteArray.toList a.S == ByteArray.toList b.S && true))) = decide (a = b) := by
  obtain ⟨K, N, S⟩ := a
  obtain ⟨K', N', S'⟩ := b
  simp only [toList_beq, Bool.and_true]
  rw [Bool.eq_iff_iff]
  simp only [Bool.and_eq_true, beq_iff_eq, decide_eq_true_eq, DVal.mk.injEq]
/-- The end of a search. -/
theorem upto_no {i : Int} {p : Nat → Bool} (h0 : 0 ≤ i) (h : ∀ j : Nat, (j : Int) < i → p j = false) (hi : p i.toNat = false) : ∀ j : Nat, (j : Int) < i + 1 → p j = false := by
  intro j hj
  by_cases hji : (j : Int) < i
  · exact h j hji
  · have : j = i.toNat := by omega
    subst this; exact hi
def daUndo (x : DUndo) : DA UU := ⟨true, [.lit (.string x.Key), .lit (.string x.F.Kind), .sl .eVal x.F.Fields]⟩
def undoAt (l : List DUndo) (i : Nat) : Bool := decide (1 ≤ (List.getD l i zUndo).Key.size ∧ (List.getD l i zUndo).Key.size ≤ 200) && factOk (List.getD l i zUndo).F && !(anyI i fun k => decide ((List.getD l k zUndo).Key = (List.getD l i zUndo).Key))
def undosOk (l : List DUndo) : Bool := decide (l.length ≤ 30) && allI l.length (undoAt l)
def hasKey (l : List DUndo) (key : ByteArray) : Bool := anyI l.length fun k => decide ((List.getD l k zUndo).Key = key)
def undoLast (l : List DUndo) : DFact := if l = [] then zFact else (List.getD l (l.length - 1) zUndo).F
theorem undoLast_ct (l : List DUndo) : ctFact (undoLast l) ≤ 20 * sizeUndoS l := by
  unfold undoLast
  split
  · exact Nat.zero_le _
  · rename_i hl
    have h0 : 0 < l.length := List.length_pos_iff.2 hl
    have h1 : (l.length - 1 : Int).toNat = l.length - 1 := by omega
    have hs := sum_getD_le sizeUndo l zUndo (i := l.length - 1) (by omega) (by omega)
    rw [h1] at hs
    have := ctFact_le (List.getD l (l.length - 1) zUndo).F
    simp only [sizeUndo] at hs
    simp only [sizeUndoS, sizeUndo]
    omega
theorem sum_take_le {α : Type} (f : α → Nat) (l : List α) (n : Nat) : ((l.take n).map f).sum ≤ (l.map f).sum := by
  have h := congrArg (fun q => (q.map f).sum) (List.take_append_drop n l)
  simp only [List.map_append, List.sum_append] at h
  omega
theorem sizeUndoS_take (l : List DUndo) (n : Nat) : sizeUndoS (l.take n) ≤ sizeUndoS l := by
  have := sum_take_le sizeUndo l n
  simp only [sizeUndoS, List.length_take]
  omega
def con_slices_CloneVal : Con UU where
  α := (List DVal)
  md := [.ro]
  of := fun | [.one (.sl .eVal a0)] => some a0 | _ => none
  ds := fun l => [.one (.sl .eVal l)]
  pre := fun l => [l.length ≤ 4294967296]
  res := fun l => ⟨[.one (.sl .eVal l)], true, []⟩
  law := by intro l x h; (try simp only at h); split at h <;> cases h; rfl
def ann_slices_CloneVal : con_slices_CloneVal.α → Nat → Option (Ann UU) := fun l => annL []
def use_slices_CloneVal : List (FuncId × Con UU) := []
theorem vc_slices_CloneVal (l : (List DVal)) : goalN EE use_slices_CloneVal Go.Proofs.Tryd.f36 con_slices_CloneVal ann_slices_CloneVal l .eVal l false = ((0 : Nat) + List.length l ≤ (4294967296 : Nat) ∧ Lf [DV.one (Cell.sl Cd.eVal ([] ++ l))] [DV.one (Cell.sl Cd.eVal l)]) := by kernel_rfl
theorem vc2_slices_CloneVal : goalN EE use_slices_CloneVal Go.Proofs.Tryd.f36 con_slices_CloneVal ann_slices_CloneVal [] .eVal [] true = (Lf [DV.one (Cell.sl Cd.eVal [])] [DV.one (Cell.sl Cd.eVal [])]) := by kernel_rfl
theorem vd2_slices_CloneVal : goalN EE use_slices_CloneVal Go.Proofs.Tryd.f36 con_slices_CloneVal ann_slices_CloneVal [] .eVal [] true := by
  rw [vc2_slices_CloneVal]
  exact Lf_rfl _
theorem ok_slices_CloneVal : Holds EE (36, con_slices_CloneVal) := by
  refine holds_ofN EE_ok Go.Proofs.Tryd.func36 con_slices_CloneVal (by kernel_rfl) rfl .eVal (fun x => x) (fun _ => rfl) use_slices_CloneVal all_nil ann_slices_CloneVal (fun (l : (List DVal)) hp hb => ?_)
  have hb_l : BdDV (U := UU) (.one (.sl .eVal l)) := hb _ (List.mem_cons_self)
  have hl_l : l.length ≤ 9223372036854775807 := Bd.len hb_l
  have hp0 : l.length ≤ 4294967296 := hp _ (List.mem_cons_self)
  clear hp hb
  refine ⟨?_, fun h0 => ?_⟩
  rotate_left
  · subst h0; exact vd2_slices_CloneVal
  rw [vc_slices_CloneVal l]
  exact ⟨by simp; omega, Lf_rfl _⟩
def con_impl_copyFact : Con UU where
  α := DFact
  md := [.ro]
  of := fun | [.agg [.lit (.string a0), .sl .eVal a1]] => some ⟨a0, a1⟩ | _ => none
  ds := fun f => [.agg [.lit (.string f.Kind), .sl .eVal f.Fields]]
  pre := fun f => [f.Fields.length ≤ 4294967296]
  res := fun f => ⟨[.agg [.lit (.string f.Kind), .sl .eVal f.Fields]], true, []⟩
  law := by intro l x h; (try simp only at h); split at h <;> cases h; rfl
def ann_impl_copyFact : con_impl_copyFact.α → Nat → Option (Ann UU) := fun f => annL []
def use_impl_copyFact : List (FuncId × Con UU) := [(36, con_slices_CloneVal)]
theorem vc_impl_copyFact (f : DFact) : goal EE use_impl_copyFact Go.Proofs.Tryd.f27 con_impl_copyFact ann_impl_copyFact f = (List.length f.Fields ≤ (4294967296 : Nat) ∧ Lf [DV.agg [Cell.lit (Value.string f.Kind), Cell.sl Cd.eVal f.Fields]] [DV.agg [Cell.lit (Value.string f.Kind), Cell.sl Cd.eVal f.Fields]]) := by kernel_rfl
theorem ok_impl_copyFact : Holds EE (27, con_impl_copyFact) := by
  refine holds_of EE_ok Go.Proofs.Tryd.func27 con_impl_copyFact (by kernel_rfl) use_impl_copyFact (all_cons ok_slices_CloneVal all_nil) ann_impl_copyFact (fun (f : DFact) hp hb => ?_)
  have hb_f : BdDV (U := UU) (.agg [.lit (.string f.Kind), .sl .eVal f.Fields]) := hb _ (List.mem_cons_self)
  have hl_f_Kind : f.Kind.size ≤ 9223372036854775807 := Bd.str (hb_f _ (by simp))
  have hl_f_Fields : f.Fields.length ≤ 9223372036854775807 := Bd.len (U := UU) (τ := .eVal) (xs := f.Fields) (hb_f _ (by simp))
  have hp0 : f.Fields.length ≤ 4294967296 := hp _ (List.mem_cons_self)
  clear hp hb
  rw [vc_impl_copyFact f]
  exact ⟨hp0, Lf_rfl _⟩
def undoOk (s : ByteArray) : Bool := decide (s = noBytes) || nameOk s
def taskOk (t : DTask) : Bool := factOk t.F && undoOk t.Undo && decide (1 ≤ t.State ∧ t.State ≤ 4) && decide (0 ≤ t.Tries ∧ t.Tries ≤ 4) && decide (0 ≤ t.Due ∧ t.Due ≤ 1000001000) && (decide (t.V = zVal) || valOk t.V) && decide ((t.State = 1 → t.Tries = 0) ∧ (t.State = 2 → t.Tries ≠ 0))
def taskAt (l : List DTask) (i : Nat) : Bool := taskOk (List.getD l i zTask) && !(anyI i fun k => decide ((List.getD l k zTask).F = (List.getD l i zTask).F))
def tasksOk (l : List DTask) : Bool := decide (l.length ≤ 30) && allI l.length (taskAt l)
def placeOf (l : List DTask) (f : DFact) : Int := idxI l.length fun k => decide ((List.getD l k zTask).F = f)
def isOpen (t : DTask) : Bool := decide (t.State = 1 ∨ t.State = 2)
def giveUp1 (t : DTask) : DTask := if t.State = 1 ∨ t.State = 2 then ⟨t.F, t.Undo, 4, t.Tries, t.Due, t.V⟩ else t
def giveUp (l : List DTask) : List DTask := l.map giveUp1
def daTask (x : DTask) : DA UU := ⟨true, [.lit (.string x.F.Kind), .sl .eVal x.F.Fields, .lit (.string x.Undo), .lit (.int .i64 x.State), .lit (.int .i64 x.Tries), .lit (.int .i64 x.Due), .lit (.int .i64 x.V.K), .lit (.int .i64 x.V.N), .lit (.string x.V.S)]⟩
theorem fact_ext {a b : DFact} : a = b ↔ a.Kind = b.Kind ∧ a.Fields = b.Fields := by
  obtain ⟨k, f⟩ := a; obtain ⟨k', f'⟩ := b; simp
theorem map_mod {α : Type} (f : α → α) (l : List α) (z : α) {i : Int} (F : α → α) (h0 : 0 ≤ i) (h : i < l.length) (hF : F (List.getD l i.toNat z) = f (List.getD l i.toNat z)) :
    ((l.map f).take i.toNat ++ l.drop i.toNat).modify i.toNat F = (l.map f).take (i + 1).toNat ++ l.drop (i + 1).toNat := by
  have hn : i.toNat < l.length := by omega
  have e : (i + 1).toNat = i.toNat + 1 := by omega
  have ht : ((l.map f).take i.toNat).length = i.toNat := by rw [List.length_take, List.length_map]; omega
  rw [modify_set _ z, mk_getD _ l z ht h0 h, hF, drop_step l z h0 h, List.set_append_right _ _ (by rw [ht]; exact Nat.le_refl _), ht, Nat.sub_self, List.set_cons_zero, e, List.take_succ_eq_append_getElem (by simpa using hn), List.append_assoc, List.getElem_map]
  rw [List.getD_eq_getElem?_getD, List.getElem?_eq_getElem hn]
  rfl
theorem map_skip {α : Type} (f : α → α) (l : List α) (z : α) {i : Int} (h0 : 0 ≤ i) (h : i < l.length) (hF : List.getD l i.toNat z = f (List.getD l i.toNat z)) :
    (l.map f).take i.toNat ++ l.drop i.toNat = (l.map f).take (i + 1).toNat ++ l.drop (i + 1).toNat := by
  rw [← map_mod f l z (fun x => x) h0 h hF]
  have : ∀ (m : List α) (n : Nat), m.modify n (fun x => x) = m := by
    intro m n
    refine List.ext_getElem? fun j => ?_
    rw [List.getElem?_modify]
    cases m[j]? <;> simp
  rw [this]
theorem map_row {α : Type} (f : α → α) (l : List α) {i : Int} (h0 : 0 ≤ i) (h : i ≤ l.length) : ((l.map f).take i.toNat ++ l.drop i.toNat).length = l.length := by
  rw [List.length_append, List.length_take, List.length_map, List.length_drop]; omega
theorem map_tl {α : Type} (f : α → α) (l : List α) {i : Int} (h0 : 0 ≤ i) (h : i ≤ l.length) : ((l.map f).take i.toNat).length = i.toNat := by
  rw [List.length_take, List.length_map]; omega
theorem map_done {α : Type} (f : α → α) (l : List α) {i : Int} (h : l.length ≤ i) : (l.map f).take i.toNat ++ l.drop i.toNat = l.map f := by
  rw [List.drop_eq_nil_of_le (by omega), List.append_nil, List.take_of_length_le (by rw [List.length_map]; omega)]
def con_EqualVal : Con UU where
  α := (List DVal) × (List DVal)
  md := [.ro, .ro]
  of := fun | [.one (.sl .eVal a0), .one (.sl .eVal a1)] => some (a0, a1) | _ => none
  ds := fun (a, b) => [.one (.sl .eVal a), .one (.sl .eVal b)]
  pre := fun (a, b) => []
  res := fun (a, b) => ⟨[.one (.lit (.bool (decide (a = b))))], true, []⟩
  law := by intro l x h; (try simp only at h); split at h <;> cases h; rfl
def I_EqualVal_4 (a : (List DVal)) (b : (List DVal)) : Int × Unit → Prop := fun (i, _) => 0 ≤ i ∧ i ≤ a.length ∧ a.length = b.length ∧ (a.drop i.toNat = b.drop i.toNat ↔ a = b)
def μ_EqualVal_4 (a : (List DVal)) (b : (List DVal)) : Int × Unit → Nat := fun (i, _) => a.length - i.toNat
def ann_EqualVal : con_EqualVal.α → Nat → Option (Ann UU) := fun (a, b) => annL [(4, annOf [.slot 13 (13, 1024) (.lit (.int .i64))] (fun _ => I_EqualVal_4 a b) (μ_EqualVal_4 a b))]
def use_EqualVal : List (FuncId × Con UU) := []
theorem vc_EqualVal (a : (List DVal)) (b : (List DVal)) : goal EE use_EqualVal Go.Proofs.Tryd.f43 con_EqualVal ann_EqualVal (a, b) = (bif (↑(List.length a) : Int) != (↑(List.length b) : Int) then Lf [DV.one (Cell.lit (Value.bool false))] [DV.one (Cell.lit (Value.bool (decide (a = b))))]
else
  I_EqualVal_4 a b ((0 : Int), PUnit.unit) ∧
    ∀ (y : Int × PUnit),
      let x0 : DVal := List.getD b (Int.toNat y.1) zVal;
      let x1 : DVal := List.getD a (Int.toNat y.1) zVal;
      I_EqualVal_4 a b y → bif decide (y.1 < (↑(List.length a) : Int)) then (0 : Int) ≤ y.1 ∧ Int.toNat y.1 < List.length a ∧ (0 : Int) ≤ y.1 ∧ Int.toNat y.1 < List.length b ∧ bif !(x1.K == x0.K && (x1.N == x0.N && (ByteArray.toList x1.S == ByteArray.toList x0.S && true))) then Lf [DV.one (Cell.lit (Value.bool false))] [DV.one (Cell.lit (Value.bool (decide (a = b))))] else I_EqualVal_4 a b (IntKind.wrap IntKind.i64 (y.1 + (1 : Int)), PUnit.unit) ∧ μ_EqualVal_4 a b (IntKind.wrap IntKind.i64 (y.1 + (1 : Int)), PUnit.unit) < μ_EqualVal_4 a b y else Lf [DV.one (Cell.lit (Value.bool true))] [DV.one (Cell.lit (Value.bool (decide (a = b))))]) := by kernel_rfl
theorem ok_EqualVal : Holds EE (43, con_EqualVal) := by
  refine holds_of EE_ok Go.Proofs.Tryd.func43 con_EqualVal (by kernel_rfl) use_EqualVal all_nil ann_EqualVal (fun x hp hb => ?_)
  obtain ⟨a, b⟩ := x
  have hb_a : BdDV (U := UU) (.one (.sl .eVal a)) := hb _ (List.mem_cons_self)
  have hl_a : a.length ≤ 9223372036854775807 := Bd.len hb_a
  have hb_b : BdDV (U := UU) (.one (.sl .eVal b)) := hb _ (List.mem_cons_of_mem _ (List.mem_cons_self))
  have hl_b : b.length ≤ 9223372036854775807 := Bd.len hb_b
  clear hp hb
  rw [vc_EqualVal a b]
  dsimp only
  refine if_cond (fun h => Lf_f ?_) (fun h => ⟨?_, ?_⟩)
  · rintro rfl; simp at h
  · simp [I_EqualVal_4] at *; omega
  rintro ⟨i, ⟨⟩⟩ ⟨h1, h2, h3, hR⟩
  simp only at *
  refine if_cond (fun hc => ?_) (fun hc => ?_)
  · have hc : i < a.length := by simpa using hc
    rw [drop_step a zVal h1 hc, drop_step b zVal h1 (by omega)] at hR
    rw [wrap_i64 (by omega) (by omega)]
    simp only [val_beq]
    refine ⟨by omega, by omega, by omega, by omega, if_cond (fun h => Lf_f ?_) (fun h => ⟨⟨by omega, by omega, h3, ?_⟩, ?_⟩)⟩
    · rw [← hR]; simp at h; simp [h]
    · rw [← hR]; simp at h; simp [h]
    · simp only [μ_EqualVal_4]; omega
  · have hc : a.length ≤ i := by simpa using hc
    rw [drop_end a hc, drop_end b (by omega)] at hR
    exact Lf_t (hR.1 rfl)
def con_impl_SameFact : Con UU where
  α := DFact × DFact
  md := [.ro, .ro]
  of := fun | [.agg [.lit (.string a0), .sl .eVal a1], .agg [.lit (.string a2), .sl .eVal a3]] => some (⟨a0, a1⟩, ⟨a2, a3⟩) | _ => none
  ds := fun (a, b) => [.agg [.lit (.string a.Kind), .sl .eVal a.Fields], .agg [.lit (.string b.Kind), .sl .eVal b.Fields]]
  pre := fun (a, b) => []
  res := fun (a, b) => ⟨[.one (.lit (.bool (decide (a = b))))], true, []⟩
  law := by intro l x h; (try simp only at h); split at h <;> cases h; rfl
def ann_impl_SameFact : con_impl_SameFact.α → Nat → Option (Ann UU) := fun (a, b) => annL []
def use_impl_SameFact : List (FuncId × Con UU) := [(43, con_EqualVal)]
theorem vc_impl_SameFact (a : DFact) (b : DFact) : goal EE use_impl_SameFact Go.Proofs.Tryd.f17 con_impl_SameFact ann_impl_SameFact (a, b) = (bif ByteArray.toList a.Kind == ByteArray.toList b.Kind then Lf [DV.one (Cell.lit (Value.bool (decide (a.Fields = b.Fields))))] [DV.one (Cell.lit (Value.bool (decide (a = b))))] else Lf [DV.one (Cell.lit (Value.bool false))] [DV.one (Cell.lit (Value.bool (decide (a = b))))]) := by kernel_rfl
theorem ok_impl_SameFact : Holds EE (17, con_impl_SameFact) := by
  refine holds_of EE_ok Go.Proofs.Tryd.func17 con_impl_SameFact (by kernel_rfl) use_impl_SameFact (all_cons ok_EqualVal all_nil) ann_impl_SameFact (fun x hp hb => ?_)
  obtain ⟨a, b⟩ := x
  have hb_a : BdDV (U := UU) (.agg [.lit (.string a.Kind), .sl .eVal a.Fields]) := hb _ (List.mem_cons_self)
  have hl_a_Kind : a.Kind.size ≤ 9223372036854775807 := Bd.str (hb_a _ (by simp))
  have hl_a_Fields : a.Fields.length ≤ 9223372036854775807 := Bd.len (U := UU) (τ := .eVal) (xs := a.Fields) (hb_a _ (by simp))
  have hb_b : BdDV (U := UU) (.agg [.lit (.string b.Kind), .sl .eVal b.Fields]) := hb _ (List.mem_cons_of_mem _ (List.mem_cons_self))
  have hl_b_Kind : b.Kind.size ≤ 9223372036854775807 := Bd.str (hb_b _ (by simp))
  have hl_b_Fields : b.Fields.length ≤ 9223372036854775807 := Bd.len (U := UU) (τ := .eVal) (xs := b.Fields) (hb_b _ (by simp))
  clear hp hb
  rw [vc_impl_SameFact a b]
  simp only [toList_beq]
  refine if_cond (fun h => Lf_b ?_) (fun h => Lf_b ?_) <;> (simp only [fact_ext]; grind)
def con_impl_isUndo : Con UU where
  α := ByteArray
  md := [.ro]
  of := fun | [.one (.lit (.string a0))] => some a0 | _ => none
  ds := fun s => [.one (.lit (.string s))]
  pre := fun s => []
  res := fun s => ⟨[.one (.lit (.bool (undoOk s)))], true, []⟩
  law := by intro l x h; (try simp only at h); split at h <;> cases h; rfl
def ann_impl_isUndo : con_impl_isUndo.α → Nat → Option (Ann UU) := fun s => annL []
def use_impl_isUndo : List (FuncId × Con UU) := [(34, con_impl_NameOk)]
theorem vc_impl_isUndo (s : ByteArray) : goal EE use_impl_isUndo Go.Proofs.Tryd.f24 con_impl_isUndo ann_impl_isUndo s = (bif ByteArray.toList s == ByteArray.toList { data := #[] : ByteArray } then Lf [DV.one (Cell.lit (Value.bool true))] [DV.one (Cell.lit (Value.bool (undoOk s)))] else Lf [DV.one (Cell.lit (Value.bool (nameOk s)))] [DV.one (Cell.lit (Value.bool (undoOk s)))]) := by kernel_rfl
theorem ok_impl_isUndo : Holds EE (24, con_impl_isUndo) := by
  refine holds_of EE_ok Go.Proofs.Tryd.func24 con_impl_isUndo (by kernel_rfl) use_impl_isUndo (all_cons ok_impl_NameOk all_nil) ann_impl_isUndo (fun (s : ByteArray) hp hb => ?_)
  have hb_s : BdDV (U := UU) (.one (.lit (.string s))) := hb _ (List.mem_cons_self)
  have hl_s : s.size ≤ 9223372036854775807 := Bd.str hb_s
  clear hp hb
  rw [vc_impl_isUndo s]
  have e : (ByteArray.toList s == ByteArray.toList { data := #[] }) = decide (s = noBytes) := toList_beq _ _
  simp only [e, undoOk]
  refine if_cond (fun h => Lf_b ?_) (fun h => Lf_b ?_) <;> grind
def con_impl_taskOk : Con UU where
  α := DTask
  md := [.ro]
  of := fun | [.agg [.lit (.string a0), .sl .eVal a1, .lit (.string a2), .lit (.int .i64 a3), .lit (.int .i64 a4), .lit (.int .i64 a5), .lit (.int .i64 a6), .lit (.int .i64 a7), .lit (.string a8)]] => some ⟨⟨a0, a1⟩, a2, a3, a4, a5, ⟨a6, a7, a8⟩⟩ | _ => none
  ds := fun t => [.agg [.lit (.string t.F.Kind), .sl .eVal t.F.Fields, .lit (.string t.Undo), .lit (.int .i64 t.State), .lit (.int .i64 t.Tries), .lit (.int .i64 t.Due), .lit (.int .i64 t.V.K), .lit (.int .i64 t.V.N), .lit (.string t.V.S)]]
  pre := fun t => []
  res := fun t => ⟨[.one (.lit (.bool (taskOk t)))], true, []⟩
  law := by intro l x h; (try simp only at h); split at h <;> cases h; rfl
def ann_impl_taskOk : con_impl_taskOk.α → Nat → Option (Ann UU) := fun t => annL []
def use_impl_taskOk : List (FuncId × Con UU) := [(23, con_impl_FactOk), (24, con_impl_isUndo), (50, con_impl_inRange), (49, con_impl_ValOk)]
theorem vc_impl_taskOk (t : DTask) : goal EE use_impl_taskOk Go.Proofs.Tryd.f48 con_impl_taskOk ann_impl_taskOk t = (bif !factOk t.F then Lf [DV.one (Cell.lit (Value.bool false))] [DV.one (Cell.lit (Value.bool (taskOk t)))] else bif !undoOk t.Undo then Lf [DV.one (Cell.lit (Value.bool false))] [DV.one (Cell.lit (Value.bool (taskOk t)))] else bif !decide ((1 : Int) ≤ t.State ∧ t.State ≤ (4 : Int)) then Lf [DV.one (Cell.lit (Value.bool false))] [DV.one (Cell.lit (Value.bool (taskOk t)))] else bif !decide ((0 : Int) ≤ t.Tries ∧ t.Tries ≤ (4 : Int)) then Lf [DV.one (Cell.lit (Value.bool false))] [DV.one (Cell.lit (Value.bool (taskOk t)))] else bif t.State == (1 : Int) then bif t.Tries != (0 : Int) then Lf [DV.one (Cell.lit (Value.bool false))] [DV.one (Cell.lit (Value.bool (taskOk t)))] else bif t.State == (2 : Int) then bif t.Tries == (0 : Int) then Lf [DV.one (Cell.lit (Value.bool false))] [DV.one (Cell.lit (Value.bool (taskOk t)))] else bif decide ((0 : Int) ≤ t.Due ∧ t.Due ≤ (1000001000 : Int)) then bif t.V.K == (0 : Int) && (t.V.N == (0 : Int) && (ByteArray.toList t.V.S == ByteArray.toList { data := #[] : ByteArray } && true)) then Lf [DV.one (Cell.lit (Value.bool true))] [DV.one (Cell.lit (Value.bool (taskOk t)))] else Lf [DV.one (Cell.lit (Value.bool (valOk t.V)))] [DV.one (Cell.lit (Value.bool (taskOk t)))] else Lf [DV.one (Cell.lit (Value.bool false))] [DV.one (Cell.lit (Value.bool (taskOk t)))] else bif decide ((0 : Int) ≤ t.Due ∧ t.Due ≤ (1000001000 : Int)) then bif t.V.K == (0 : Int) && (t.V.N == (0 : Int) && (ByteArray.toList t.V.S == ByteArray.toList { data := #[] : ByteArray } && true)) then Lf [DV.one (Cell.lit (Value.bool true))] [DV.one (Cell.lit (Value.bool (taskOk t)))] else Lf [DV.one (Cell.lit (Value.bool (valOk t.V)))] [DV.one (Cell.lit (Value.bool (taskOk t)))] else Lf [DV.one (Cell.lit (Value.bool false))] [DV.one (Cell.lit (Value.bool (taskOk t)))] else bif t.State == (2 : Int) then bif t.Tries == (0 : Int) then Lf [DV.one (Cell.lit (Value.bool false))] [DV.one (Cell.lit (Value.bool (taskOk t)))] else bif decide ((0 : Int) ≤ t.Due ∧ t.Due ≤ (1000001000 : Int)) then bif t.V.K == (0 : Int) && (t.V.N == (0 : Int) && (ByteArray.toList t.V.S == ByteArray.toList { data := #[] : ByteArray } && true)) then Lf [DV.one (Cell.lit (Value.bool true))] [DV.one (Cell.lit (Value.bool (taskOk t)))] else Lf [DV.one (Cell.lit (Value.bool (valOk t.V)))] [DV.one (Cell.lit (Value.bool (taskOk t)))] else Lf [DV.one (Cell.lit (Value.bool false))] [DV.one (Cell.lit (Value.bool (taskOk t)))] else bif decide ((0 : Int) ≤ t.Due ∧ t.Due ≤ (1000001000 : Int)) then bif t.V.K == (0 : Int) && (t.V.N == (0 : Int) && (ByteArray.toList t.V.S == ByteArray.toList { data := #[] : ByteArray } && true)) then Lf [DV.one (Cell.lit (Value.bool true))] [DV.one (Cell.lit (Value.bool (taskOk t)))] else Lf [DV.one (Cell.lit (Value.bool (valOk t.V)))] [DV.one (Cell.lit (Value.bool (taskOk t)))] else Lf [DV.one (Cell.lit (Value.bool false))] [DV.one (Cell.lit (Value.bool (taskOk t)))]) := by kernel_rfl
theorem ok_impl_taskOk : Holds EE (48, con_impl_taskOk) := by
  refine holds_of EE_ok Go.Proofs.Tryd.func48 con_impl_taskOk (by kernel_rfl) use_impl_taskOk (all_cons ok_impl_FactOk (all_cons ok_impl_isUndo (all_cons ok_impl_inRange (all_cons ok_impl_ValOk all_nil)))) ann_impl_taskOk (fun (t : DTask) hp hb => ?_)
  have hb_t : BdDV (U := UU) (.agg [.lit (.string t.F.Kind), .sl .eVal t.F.Fields, .lit (.string t.Undo), .lit (.int .i64 t.State), .lit (.int .i64 t.Tries), .lit (.int .i64 t.Due), .lit (.int .i64 t.V.K), .lit (.int .i64 t.V.N), .lit (.string t.V.S)]) := hb _ (List.mem_cons_self)
  have hl_t_F_Kind : t.F.Kind.size ≤ 9223372036854775807 := Bd.str (hb_t _ (by simp))
  have hl_t_F_Fields : t.F.Fields.length ≤ 9223372036854775807 := Bd.len (U := UU) (τ := .eVal) (xs := t.F.Fields) (hb_t _ (by simp))
  have hl_t_Undo : t.Undo.size ≤ 9223372036854775807 := Bd.str (hb_t _ (by simp))
  have hl_t_V_S : t.V.S.size ≤ 9223372036854775807 := Bd.str (hb_t _ (by simp))
  clear hp hb
  rw [vc_impl_taskOk t]
  have e : ∀ v : DVal, (v.K == 0 && (v.N == 0 && (ByteArray.toList v.S == ByteArray.toList { data := #[] } && true))) = decide (v = zVal) := fun v => val_beq v zVal
  simp only [e]
  simp only [taskOk]
  repeat' (refine if_cond (fun h => ?_) (fun h => ?_))
  all_goals (refine Lf_b ?_; grind)
def con_IndexFuncTask : Con UU where
  α := (List DTask) × (List (DA UU) → Option Value)
  md := [.ro, .ro]
  of := fun | [.one (.sl .eTask a0), .fn a1] => some (a0, a1) | _ => none
  ds := fun (l, p) => [.one (.sl .eTask l), .fn p]
  pre := fun (l, p) => [∀ j : Nat, j < l.length → p [daTask (List.getD l j zTask)] = some (.bool (boolOf (p [daTask (List.getD l j zTask)])))]
  res := fun (l, p) => ⟨[.one (.lit (.int .i64 (idxI l.length (fun j => boolOf (p [daTask (List.getD l j zTask)])))))], true, []⟩
  law := by intro l x h; (try simp only at h); split at h <;> cases h; rfl
def I_IndexFuncTask_2 (l : (List DTask)) (p : (List (DA UU) → Option Value)) : Int × Unit → Prop := fun (i, _) => 0 ≤ i ∧ i ≤ l.length ∧ ∀ j : Nat, (j : Int) < i → boolOf (p [daTask (List.getD l j zTask)]) = false
def μ_IndexFuncTask_2 (l : (List DTask)) (p : (List (DA UU) → Option Value)) : Int × Unit → Nat := fun (i, _) => l.length - i.toNat
def ann_IndexFuncTask : con_IndexFuncTask.α → Nat → Option (Ann UU) := fun (l, p) => annL [(2, annOf [.slot 8 (8, 1024) (.lit (.int .i64))] (fun _ => I_IndexFuncTask_2 l p) (μ_IndexFuncTask_2 l p))]
def use_IndexFuncTask : List (FuncId × Con UU) := []
theorem vc_IndexFuncTask (l : (List DTask)) (p : (List (DA UU) → Option Value)) : goal EE use_IndexFuncTask Go.Proofs.Tryd.f51 con_IndexFuncTask ann_IndexFuncTask (l, p) = (I_IndexFuncTask_2 l p ((0 : Int), PUnit.unit) ∧
  ∀ (y : Int × PUnit),
    let x0 : Bool := boolOf (p [{ agg := true, cs := [Cell.lit (Value.string (List.getD l (Int.toNat y.1) zTask).F.Kind), Cell.sl Cd.eVal (List.getD l (Int.toNat y.1) zTask).F.Fields, Cell.lit (Value.string (List.getD l (Int.toNat y.1) zTask).Undo), Cell.lit (Value.int IntKind.i64 (List.getD l (Int.toNat y.1) zTask).State), Cell.lit (Value.int IntKind.i64 (List.getD l (Int.toNat y.1) zTask).Tries), Cell.lit (Value.int IntKind.i64 (List.getD l (Int.toNat y.1) zTask).Due), Cell.lit (Value.int IntKind.i64 (List.getD l (Int.toNat y.1) zTask).V.K), Cell.lit (Value.int IntKind.i64 (List.getD l (Int.toNat y.1) zTask).V.N), Cell.lit (Value.string (List.getD l (Int.toNat y.1) zTask).V.S)] : DA UU }]);
    let x1 : DTask := List.getD l (Int.toNat y.1) zTask;
    I_IndexFuncTask_2 l p y → bif decide (y.1 < (↑(List.length l) : Int)) then (0 : Int) ≤ y.1 ∧ Int.toNat y.1 < List.length l ∧ p [{ agg := true, cs := [Cell.lit (Value.string x1.F.Kind), Cell.sl Cd.eVal x1.F.Fields, Cell.lit (Value.string x1.Undo), Cell.lit (Value.int IntKind.i64 x1.State), Cell.lit (Value.int IntKind.i64 x1.Tries), Cell.lit (Value.int IntKind.i64 x1.Due), Cell.lit (Value.int IntKind.i64 x1.V.K), Cell.lit (Value.int IntKind.i64 x1.V.N), Cell.lit (Value.string x1.V.S)] : DA UU }] = some (Value.bool x0) ∧ bif x0 then Lf [DV.one (Cell.lit (Value.int IntKind.i64 y.1))] [DV.one (Cell.lit (Value.int IntKind.i64 (idxI (List.length l) fun (j : Nat) => boolOf (p [daTask (List.getD l j zTask)]))))] else I_IndexFuncTask_2 l p (IntKind.wrap IntKind.i64 (y.1 + (1 : Int)), PUnit.unit) ∧ μ_IndexFuncTask_2 l p (IntKind.wrap IntKind.i64 (y.1 + (1 : Int)), PUnit.unit) < μ_IndexFuncTask_2 l p y else Lf [DV.one (Cell.lit (Value.int IntKind.i64 (-1 : Int)))] [DV.one (Cell.lit (Value.int IntKind.i64 (idxI (List.length l) fun (j : Nat) => boolOf (p [daTask (List.getD l j zTask)]))))]) := by kernel_rfl
theorem ok_IndexFuncTask : Holds EE (51, con_IndexFuncTask) := by
  refine holds_of EE_ok Go.Proofs.Tryd.func51 con_IndexFuncTask (by kernel_rfl) use_IndexFuncTask all_nil ann_IndexFuncTask (fun x hp hb => ?_)
  obtain ⟨l, p⟩ := x
  have hb_l : BdDV (U := UU) (.one (.sl .eTask l)) := hb _ (List.mem_cons_self)
  have hl_l : l.length ≤ 9223372036854775807 := Bd.len hb_l
  have hp0 : ∀ j : Nat, j < l.length → p [daTask (List.getD l j zTask)] = some (.bool (boolOf (p [daTask (List.getD l j zTask)]))) := hp _ (List.mem_cons_self)
  clear hp hb
  rw [vc_IndexFuncTask l p]
  dsimp only
  refine ⟨⟨by omega, by omega, by intro j hj; omega⟩, ?_⟩
  rintro ⟨i, ⟨⟩⟩ ⟨h1, h2, hR⟩
  simp only [daTask] at *
  refine if_cond (fun hc => ?_) (fun hc => ?_)
  · have hc := of_decide_eq_true hc
    rw [wrap_i64 (by omega) (by omega)]
    refine ⟨by omega, by omega, hp0 i.toNat (by omega), if_cond (fun h => Lf_i ?_) (fun h => ⟨⟨by omega, by omega, upto_no (p := fun j => boolOf (p [daTask (List.getD l j zTask)])) h1 hR h⟩, by simp only [μ_IndexFuncTask_2]; omega⟩)⟩
    rw [idxI_found (i := i.toNat) (by omega) h (fun j hj => hR j (by omega))]
    omega
  · have hc := of_decide_eq_false hc
    exact Lf_i (idxI_none (fun j hj => hR j (by omega))).symm
def con_impl_placeOfTask_1 : Con UU where
  α := DTask × DFact
  md := [.ro, .ro]
  of := fun | [.agg [.lit (.string a0), .sl .eVal a1, .lit (.string a2), .lit (.int .i64 a3), .lit (.int .i64 a4), .lit (.int .i64 a5), .lit (.int .i64 a6), .lit (.int .i64 a7), .lit (.string a8)], .ptr [.lit (.string a9), .sl .eVal a10]] => some (⟨⟨a0, a1⟩, a2, a3, a4, a5, ⟨a6, a7, a8⟩⟩, ⟨a9, a10⟩) | _ => none
  ds := fun (t, f) => [.agg [.lit (.string t.F.Kind), .sl .eVal t.F.Fields, .lit (.string t.Undo), .lit (.int .i64 t.State), .lit (.int .i64 t.Tries), .lit (.int .i64 t.Due), .lit (.int .i64 t.V.K), .lit (.int .i64 t.V.N), .lit (.string t.V.S)], .ptr [.lit (.string f.Kind), .sl .eVal f.Fields]]
  pre := fun (t, f) => []
  res := fun (t, f) => ⟨[.one (.lit (.bool (decide (t.F = f))))], true, []⟩
  law := by intro l x h; (try simp only at h); split at h <;> cases h; rfl
def ann_impl_placeOfTask_1 : con_impl_placeOfTask_1.α → Nat → Option (Ann UU) := fun (t, f) => annL []
def use_impl_placeOfTask_1 : List (FuncId × Con UU) := [(17, con_impl_SameFact)]
theorem vc_impl_placeOfTask_1 (t : DTask) (f : DFact) : goal EE use_impl_placeOfTask_1 Go.Proofs.Tryd.f52 con_impl_placeOfTask_1 ann_impl_placeOfTask_1 (t, f) = (Lf [DV.one (Cell.lit (Value.bool (decide (t.F = f))))] [DV.one (Cell.lit (Value.bool (decide (t.F = f))))]) := by kernel_rfl
theorem ok_impl_placeOfTask_1 : Holds EE (52, con_impl_placeOfTask_1) := by
  refine holds_of EE_ok Go.Proofs.Tryd.func52 con_impl_placeOfTask_1 (by kernel_rfl) use_impl_placeOfTask_1 (all_cons ok_impl_SameFact all_nil) ann_impl_placeOfTask_1 (fun x hp hb => ?_)
  obtain ⟨t, f⟩ := x
  have hb_t : BdDV (U := UU) (.agg [.lit (.string t.F.Kind), .sl .eVal t.F.Fields, .lit (.string t.Undo), .lit (.int .i64 t.State), .lit (.int .i64 t.Tries), .lit (.int .i64 t.Due), .lit (.int .i64 t.V.K), .lit (.int .i64 t.V.N), .lit (.string t.V.S)]) := hb _ (List.mem_cons_self)
  have hl_t_F_Kind : t.F.Kind.size ≤ 9223372036854775807 := Bd.str (hb_t _ (by simp))
  have hl_t_F_Fields : t.F.Fields.length ≤ 9223372036854775807 := Bd.len (U := UU) (τ := .eVal) (xs := t.F.Fields) (hb_t _ (by simp))
  have hl_t_Undo : t.Undo.size ≤ 9223372036854775807 := Bd.str (hb_t _ (by simp))
  have hl_t_V_S : t.V.S.size ≤ 9223372036854775807 := Bd.str (hb_t _ (by simp))
  have hb_f : BdDV (U := UU) (.ptr [.lit (.string f.Kind), .sl .eVal f.Fields]) := hb _ (List.mem_cons_of_mem _ (List.mem_cons_self))
  have hl_f_Kind : f.Kind.size ≤ 9223372036854775807 := Bd.str (hb_f _ (by simp))
  have hl_f_Fields : f.Fields.length ≤ 9223372036854775807 := Bd.len (U := UU) (τ := .eVal) (xs := f.Fields) (hb_f _ (by simp))
  clear hp hb
  rw [vc_impl_placeOfTask_1 t f]
  exact Lf_rfl _
def con_impl_placeOfTask : Con UU where
  α := (List DTask) × DFact
  md := [.ro, .ro]
  of := fun | [.one (.sl .eTask a0), .agg [.lit (.string a1), .sl .eVal a2]] => some (a0, ⟨a1, a2⟩) | _ => none
  ds := fun (l, f) => [.one (.sl .eTask l), .agg [.lit (.string f.Kind), .sl .eVal f.Fields]]
  pre := fun (l, f) => []
  res := fun (l, f) => ⟨[.one (.lit (.int .i64 (placeOf l f)))], true, []⟩
  law := by intro l x h; (try simp only at h); split at h <;> cases h; rfl
def ann_impl_placeOfTask : con_impl_placeOfTask.α → Nat → Option (Ann UU) := fun (l, f) => annL []
def use_impl_placeOfTask : List (FuncId × Con UU) := [(51, con_IndexFuncTask), (52, con_impl_placeOfTask_1)]
theorem vc_impl_placeOfTask (l : (List DTask)) (f : DFact) : goal EE use_impl_placeOfTask Go.Proofs.Tryd.f26 con_impl_placeOfTask ann_impl_placeOfTask (l, f) = ((∀ (j : Nat), j < List.length l → closP con_impl_placeOfTask_1 [DV.ptr [Cell.lit (Value.string f.Kind), Cell.sl Cd.eVal f.Fields]] [daTask (List.getD l j zTask)] = some (Value.bool (boolOf (closP con_impl_placeOfTask_1 [DV.ptr [Cell.lit (Value.string f.Kind), Cell.sl Cd.eVal f.Fields]] [daTask (List.getD l j zTask)])))) ∧ Lf [DV.one (Cell.lit (Value.int IntKind.i64 (idxI (List.length l) fun (j : Nat) => boolOf (closP con_impl_placeOfTask_1 [DV.ptr [Cell.lit (Value.string f.Kind), Cell.sl Cd.eVal f.Fields]] [daTask (List.getD l j zTask)]))))] [DV.one (Cell.lit (Value.int IntKind.i64 (placeOf l f)))]) := by kernel_rfl
theorem ok_impl_placeOfTask : Holds EE (26, con_impl_placeOfTask) := by
  refine holds_of EE_ok Go.Proofs.Tryd.func26 con_impl_placeOfTask (by kernel_rfl) use_impl_placeOfTask (all_cons ok_IndexFuncTask (all_cons ok_impl_placeOfTask_1 all_nil)) ann_impl_placeOfTask (fun x hp hb => ?_)
  obtain ⟨l, f⟩ := x
  have hb_l : BdDV (U := UU) (.one (.sl .eTask l)) := hb _ (List.mem_cons_self)
  have hl_l : l.length ≤ 9223372036854775807 := Bd.len hb_l
  have hb_f : BdDV (U := UU) (.agg [.lit (.string f.Kind), .sl .eVal f.Fields]) := hb _ (List.mem_cons_of_mem _ (List.mem_cons_self))
  have hl_f_Kind : f.Kind.size ≤ 9223372036854775807 := Bd.str (hb_f _ (by simp))
  have hl_f_Fields : f.Fields.length ≤ 9223372036854775807 := Bd.len (U := UU) (τ := .eVal) (xs := f.Fields) (hb_f _ (by simp))
  clear hp hb
  rw [vc_impl_placeOfTask l f]
  have hc : ∀ x : DTask, closP con_impl_placeOfTask_1 [.ptr [.lit (.string f.Kind), .sl .eVal f.Fields]] [daTask x] = some (.bool (decide (x.F = f))) := fun x => closP_of (x := (x, f)) rfl rfl rfl rfl (by simp [con_impl_placeOfTask_1])
  refine ⟨fun j hj => ?_, Lf_i ?_⟩
  · show closP con_impl_placeOfTask_1 [.ptr [.lit (.string f.Kind), .sl .eVal f.Fields]] [daTask (List.getD l j zTask)] = _
    rw [hc]; rfl
  · exact idxI_congr fun j hj => by
      show boolOf (closP con_impl_placeOfTask_1 [.ptr [.lit (.string f.Kind), .sl .eVal f.Fields]] [daTask (List.getD l j zTask)]) = _
      rw [hc]; rfl
def con_impl_TasksOk : Con UU where
  α := (List DTask)
  md := [.ro]
  of := fun | [.one (.sl .eTask a0)] => some a0 | _ => none
  ds := fun l => [.one (.sl .eTask l)]
  pre := fun l => []
  res := fun l => ⟨[.one (.lit (.bool (tasksOk l)))], true, []⟩
  law := by intro l x h; (try simp only at h); split at h <;> cases h; rfl
def I_impl_TasksOk_4 (l : (List DTask)) : Int × Unit → Prop := fun (i, _) => 0 ≤ i ∧ i ≤ l.length ∧ l.length ≤ 30 ∧ ∀ j : Nat, (j : Int) < i → taskAt l j = true
def μ_impl_TasksOk_4 (l : (List DTask)) : Int × Unit → Nat := fun (i, _) => l.length - i.toNat
def ann_impl_TasksOk : con_impl_TasksOk.α → Nat → Option (Ann UU) := fun l => annL [(4, annOf [.slot 10 (10, 1024) (.lit (.int .i64))] (fun _ => I_impl_TasksOk_4 l) (μ_impl_TasksOk_4 l))]
def use_impl_TasksOk : List (FuncId × Con UU) := [(48, con_impl_taskOk), (26, con_impl_placeOfTask)]
theorem vc_impl_TasksOk (l : (List DTask)) : goal EE use_impl_TasksOk Go.Proofs.Tryd.f22 con_impl_TasksOk ann_impl_TasksOk l = (let x0 : Int := (↑(List.length l) : Int);
bif decide (x0 > (30 : Int)) then Lf [DV.one (Cell.lit (Value.bool false))] [DV.one (Cell.lit (Value.bool (tasksOk l)))] else I_impl_TasksOk_4 l ((0 : Int), PUnit.unit) ∧ ∀ (y : Int × PUnit), I_impl_TasksOk_4 l y → bif decide (y.1 < x0) then (0 : Int) ≤ y.1 ∧ Int.toNat y.1 < List.length l ∧ bif !taskOk (List.getD l (Int.toNat y.1) zTask) then Lf [DV.one (Cell.lit (Value.bool false))] [DV.one (Cell.lit (Value.bool (tasksOk l)))] else bif placeOf l (List.getD l (Int.toNat y.1) zTask).F != y.1 then Lf [DV.one (Cell.lit (Value.bool false))] [DV.one (Cell.lit (Value.bool (tasksOk l)))] else I_impl_TasksOk_4 l (IntKind.wrap IntKind.i64 (y.1 + (1 : Int)), PUnit.unit) ∧ μ_impl_TasksOk_4 l (IntKind.wrap IntKind.i64 (y.1 + (1 : Int)), PUnit.unit) < μ_impl_TasksOk_4 l y else Lf [DV.one (Cell.lit (Value.bool true))] [DV.one (Cell.lit (Value.bool (tasksOk l)))]) := by kernel_rfl
theorem ok_impl_TasksOk : Holds EE (22, con_impl_TasksOk) := by
  refine holds_of EE_ok Go.Proofs.Tryd.func22 con_impl_TasksOk (by kernel_rfl) use_impl_TasksOk (all_cons ok_impl_taskOk (all_cons ok_impl_placeOfTask all_nil)) ann_impl_TasksOk (fun (l : (List DTask)) hp hb => ?_)
  have hb_l : BdDV (U := UU) (.one (.sl .eTask l)) := hb _ (List.mem_cons_self)
  have hl_l : l.length ≤ 9223372036854775807 := Bd.len hb_l
  clear hp hb
  rw [vc_impl_TasksOk l]
  dsimp only
  refine if_cond (fun h => Lf_ff ?_) (fun h => ⟨⟨by omega, by omega, by have h := of_decide_eq_false h; omega, by intro j hj; omega⟩, ?_⟩)
  · have h := of_decide_eq_true h; simp only [tasksOk]; rw [decide_eq_false (by omega)]; rfl
  rintro ⟨i, ⟨⟩⟩ ⟨h1, h2, h3, hR⟩
  simp only
  refine if_cond (fun hc => ?_) (fun hc => ?_)
  · have hc := of_decide_eq_true hc
    have hN : taskAt l i.toNat = false → tasksOk l = false := fun h => by
      have hf : allI l.length (taskAt l) = false := allI_false (j := i.toNat) (by omega) h
      simp only [tasksOk, hf]; simp
    have hpl : (placeOf l (List.getD l i.toNat zTask).F = i) ↔ (anyI i.toNat fun k => decide ((List.getD l k zTask).F = (List.getD l i.toNat zTask).F)) = false := by
      rw [anyI_not]
      unfold placeOf
      rcases idxI_cases l.length (fun k => decide ((List.getD l k zTask).F = (List.getD l i.toNat zTask).F)) with ⟨g1, g2⟩ | ⟨m, g1, g2, g3, g4⟩
      · have := g2 i.toNat (by omega); simp at this
      · rw [g2]
        constructor
        · intro e j hj; exact g4 j (by omega)
        · intro e
          by_cases hm : m < i.toNat
          · have := e m hm; rw [g3] at this; cases this
          · by_cases hm' : i.toNat < m
            · have := g4 i.toNat hm'; simp at this
            · omega
    simp (disch := omega) only [wrap_i64]
    have hm : μ_impl_TasksOk_4 l (i + 1, PUnit.unit) < μ_impl_TasksOk_4 l (i, ()) := by simp only [μ_impl_TasksOk_4]; omega
    refine ⟨by omega, by omega, if_cond (fun h => Lf_ff (hN ?_)) (fun h => if_cond (fun h' => Lf_ff (hN ?_)) (fun h' => ⟨⟨by omega, by omega, h3, upto_step h1 hR ?_⟩, hm⟩))⟩
    · simp only [taskAt]; grind
    · have : ¬ (placeOf l (List.getD l i.toNat zTask).F = i) := by simpa using h'
      rw [hpl] at this
      simp only [taskAt]; grind
    · have : placeOf l (List.getD l i.toNat zTask).F = i := by simpa using h'
      rw [hpl] at this
      simp only [taskAt, this]; grind
  · have hc := of_decide_eq_false hc
    have hA : allI l.length (taskAt l) = true := allI_true fun j hj => hR j (by omega)
    refine Lf_b ?_
    simp only [tasksOk, hA]; grind
open Go.RowKit
def itoaB (n : Int) : ByteArray := ⟨(Go.Lib.itoa n).toArray⟩
def joinB (l : List ByteArray) (sep : ByteArray) : ByteArray := ⟨(Go.Lib.join (l.map (fun s => s.data.toList)) sep.data.toList).toArray⟩
theorem grow_upto {w : World} {k : Nat} {os : Array Obj} : Upto (fun _ => False) w (Go.Sort.grow (w.drewN k) os) := by
  refine ⟨rfl, rfl, rfl, ?_, fun i hi _ => ?_⟩
  · show w.heap.size ≤ (w.heap ++ os).size
    simp
  · show (w.heap ++ os)[i]? = _
    rw [Array.getElem?_append_left hi]
def con_strconv_Itoa : Con UU where
  α := Int
  md := [.ro]
  of := fun | [.one (.lit (.int .i64 a0))] => some a0 | _ => none
  ds := fun n => [.one (.lit (.int .i64 n))]
  pre := fun n => []
  res := fun n => ⟨[.one (.lit (.string (itoaB n)))], true, []⟩
  law := by intro l x h; (try simp only at h); split at h <;> cases h; rfl
theorem ok_strconv_Itoa : Holds EE (73, con_strconv_Itoa) := by
  refine ⟨⟨_, Go.Proofs.Tryd.func73, by kernel_rfl, by kernel_rfl⟩, ?_⟩
  refine sound_lit rfl fun (n : Int) _ w F vs ls hF hlay hra => ?_
  obtain ⟨v, rfl, hv⟩ := rargs1 hra
  obtain ⟨_, rfl, hl⟩ := hv.lit_all
  have hb : -9223372036854775808 ≤ n ∧ n ≤ 9223372036854775807 := hl.2
  refine ⟨_, rfl, rfl, rfl, ⟨rfl, ?_⟩, (Go.Proofs.Tryd.strconv_Itoa n hb.1 hb.2 w (tab_is hlay)).mono ?_⟩
  · have := Go.Lib.itoa_length_le n hb.1 hb.2
    show (ByteArray.mk _).size ≤ _
    simp only [itoaB, ByteArray.size, List.size_toArray]
    omega
  · rintro e w' ⟨rfl, k, os, rfl⟩
    exact ⟨rfl, grow_upto⟩
def con_strings_Join : Con UU where
  α := (List ByteArray) × ByteArray
  md := [.ro, .ro]
  of := fun | [.one (.sl .str a0), .one (.lit (.string a1))] => some (a0, a1) | _ => none
  ds := fun (l, sep) => [.one (.sl .str l), .one (.lit (.string sep))]
  pre := fun (l, sep) => [(joinB l sep).size ≤ 140737488355328, l.length ≤ 140737488355328]
  res := fun (l, sep) => ⟨[.one (.lit (.string (joinB l sep)))], true, []⟩
  law := by intro l x h; (try simp only at h); split at h <;> cases h; rfl
theorem ok_strings_Join : Holds EE (66, con_strings_Join) := by
  refine ⟨⟨_, Go.Proofs.Tryd.func66, by kernel_rfl, by kernel_rfl⟩, ?_⟩
  refine sound_lit rfl fun (x : List ByteArray × ByteArray) hp w F vs ls hF hlay hra => ?_
  obtain ⟨l, sep⟩ := x
  have hp0 : (joinB l sep).size ≤ 140737488355328 := hp _ List.mem_cons_self
  have hp1 : l.length ≤ 140737488355328 := hp _ (List.mem_cons_of_mem _ List.mem_cons_self)
  obtain ⟨u, v, rfl, hu, hv⟩ := rargs2 hra
  obtain ⟨_, rfl, hl⟩ := hv.lit_all
  refine ⟨_, rfl, rfl, rfl, ⟨rfl, by omega⟩, ?_⟩
  rcases hu.inv with ⟨h0, a, c, rfl⟩ | ⟨b, off, cap, vs, rfl, hb, hc, hcell, hr⟩
  · subst h0
    refine (Go.Proofs.Tryd.strings_Join_none a c sep w).mono ?_
    rintro e w' ⟨rfl, rfl⟩
    exact ⟨rfl, Upto.refl _ _⟩
  · refine (Go.Proofs.Tryd.strings_Join b off cap l sep w (fun j x hj => ?_) (hF b hb) hp1 hc (by simpa [joinB, ByteArray.size] using hp0)).mono ?_
    · have h1 := hr j x 0 (.lit (.string x)) hj rfl
      have hj' : j < l.length := by
        rcases Nat.lt_or_ge j l.length with h | h
        · exact h
        · rw [List.getElem?_eq_none h] at hj; cases hj
      have h2 := hcell j (by show j < l.length * 1; omega)
      have e : j * UU.wd .str + 0 = j := by show j * 1 + 0 = j; omega
      rw [e] at h1
      rw [h2, (h1.lit_all).2.1]
    · rintro e w' ⟨rfl, hbe⟩
      exact ⟨rfl, Upto.below hbe⟩
def mkB (l : List UInt8) : ByteArray := ⟨l.toArray⟩
theorem mkB_app (a b : List UInt8) : mkB a ++ mkB b = mkB (a ++ b) := by
  apply ByteArray.ext
  simp [mkB]
theorem mkB_bs (s : ByteArray) : mkB (bs s) = s := by
  apply ByteArray.ext
  simp [mkB, bs]
theorem bs_mkB (l : List UInt8) : bs (mkB l) = l := by simp [mkB, bs]
theorem mkB_size (l : List UInt8) : (mkB l).size = l.length := by simp [mkB, ByteArray.size]
theorem app_mkB (s : ByteArray) (l : List UInt8) : s ++ mkB l = mkB (bs s ++ l) := by rw [← mkB_app, mkB_bs]
def valT (v : DVal) : List UInt8 := if v.K = 1 then Go.Lib.itoa v.N else 39 :: (bs v.S ++ [39])
def valsT (l : List DVal) : List UInt8 := 40 :: (Go.Lib.join (l.map valT) [44] ++ [41])
def valText (v : DVal) : ByteArray := if valOk v = true then mkB (valT v) else noBytes
def factText (f : DFact) : ByteArray := if factOk f = true then mkB (bs f.Kind ++ valsT f.Fields) else noBytes
theorem joinB_eq (l : List ByteArray) (s : ByteArray) : joinB l s = mkB (Go.Lib.join (l.map bs) (bs s)) := rfl
theorem itoaB_eq (n : Int) : itoaB n = mkB (Go.Lib.itoa n) := rfl
theorem join_snoc (l : List (List UInt8)) (x sep : List UInt8) : Go.Lib.join (l ++ [x]) sep = if l = [] then x else Go.Lib.join l sep ++ (sep ++ x) := by
  cases l with
  | nil => simp [Go.Lib.join_one]
  | cons y r =>
    rw [List.cons_append, Go.Lib.join_cons, Go.Lib.join_cons, if_neg (by simp)]
    simp [Go.Lib.joinTail]
theorem valOk_cases {v : DVal} (h : valOk v = true) : (v.K = 1 ∧ -1000000000 ≤ v.N ∧ v.N ≤ 1000000000) ∨ (v.K = 2 ∧ v.S.size ≤ 20) := by
  simp only [valOk] at h
  by_cases h1 : v.K = 1
  · simp [h1] at h; exact .inl ⟨h1, h.1.1, h.1.2⟩
  · by_cases h2 : v.K = 2
    · simp [h2] at h; exact .inr ⟨h2, h.1.2⟩
    · simp [h1, h2] at h
theorem valT_len {v : DVal} (h : valOk v = true) : (valT v).length ≤ 22 := by
  rcases valOk_cases h with ⟨h1, h2, h3⟩ | ⟨h1, h2⟩
  · have := Go.Lib.itoa_length_le v.N (by omega) (by omega)
    simp only [valT, if_pos h1]; omega
  · simp only [valT, if_neg (show ¬ v.K = 1 by omega), List.length_cons, List.length_append, bs_len, List.length_nil]; omega
theorem join_len : ∀ (l : List DVal), l.all valOk = true → (Go.Lib.join (l.map valT) [44]).length ≤ 23 * l.length
  | [], _ => by simp [Go.Lib.join_nil]
  | x :: r, h => by
    rw [List.map_cons, Go.Lib.join_cons]
    simp only [List.all_cons, Bool.and_eq_true] at h
    have h1 := valT_len h.1
    have h2 : ∀ r : List DVal, r.all valOk = true → (Go.Lib.joinTail [44] (r.map valT)).length ≤ 23 * r.length := by
      intro r
      induction r with
      | nil => intro _; simp [Go.Lib.joinTail]
      | cons y r ih =>
        intro h
        simp only [List.all_cons, Bool.and_eq_true] at h
        have h3 := valT_len h.1
        have h4 := ih h.2
        simp only [Go.Lib.joinTail, List.map_cons, List.flatten_cons, List.length_append, List.length_cons, List.length_nil] at h4 ⊢
        omega
    have h3 := h2 r h.2
    simp only [List.length_append, List.length_cons]
    omega
theorem factOk_fields {f : DFact} (h : factOk f = true) : f.Fields.length ≤ 5 ∧ f.Fields.all valOk = true ∧ nameOk f.Kind = true ∧ f.Kind.size ≤ 12 := by
  simp only [factOk, Bool.and_eq_true, decide_eq_true_eq] at h
  have h2 := h.1.1
  simp only [nameOk, Bool.and_eq_true, decide_eq_true_eq] at h2
  exact ⟨h.1.2, h.2, h.1.1, h2.1.1.2⟩
theorem all_getD {α : Type} {p : α → Bool} {l : List α} (h : l.all p = true) (z : α) {i : Int} (h0 : 0 ≤ i) (hi : i < l.length) : p (List.getD l i.toNat z) = true :=
  List.all_eq_true.1 h _ (getD_mem l z h0 hi)
theorem all_take {α : Type} {p : α → Bool} {l : List α} (h : l.all p = true) (n : Nat) : (l.take n).all p = true := by
  rw [List.all_eq_true] at h ⊢
  exact fun x hx => h x (List.mem_of_mem_take hx)
theorem dec_step {n : Int} (h : 10 ≤ n) : Go.Lib.itoa n = Go.Lib.itoa (n / 10) ++ [UInt8.ofNat (48 + n.toNat % 10)] := by
  simp only [Go.Lib.itoa]
  rw [if_neg (by omega), if_neg (by omega)]
  have e : (n / 10).toNat = n.toNat / 10 := by omega
  rw [e, Go.Lib.decDigits, dif_neg (by omega)]
theorem dec_one {n : Int} (h0 : 0 ≤ n) (h : n < 10) : Go.Lib.itoa n = [UInt8.ofNat (48 + n.toNat)] := by
  simp only [Go.Lib.itoa]
  rw [if_neg (by omega), Go.Lib.decDigits_one (by omega)]
theorem dec_neg {n : Int} (h : n < 0) : Go.Lib.itoa n = 45 :: Go.Lib.itoa (-n) := by
  simp only [Go.Lib.itoa]
  rw [if_pos h, if_neg (by omega)]
  have e : (-n).toNat = n.natAbs := by omega
  rw [e]
theorem chr_eq {n : Int} (h0 : 0 ≤ n) (h : n ≤ 255) : strOfNums (List.map (fun (x : Int) => x) [n]) = mkB [UInt8.ofNat n.toNat] := by
  simp [strOfNums, mkB]
theorem wrap_u8' {n : Int} (h : 0 ≤ n) (h' : n ≤ 255) : IntKind.wrap .u8 n = n := by
  simp only [IntKind.wrap]
  simp [IntKind.bits, IntKind.signed]
  omega
def taskAtKey (l : List DTask) (key : ByteArray) : Int := idxI l.length fun k => decide (factText (List.getD l k zTask).F = key)
def con_impl_ValText : Con UU where
  α := DVal
  md := [.ro]
  of := fun | [.agg [.lit (.int .i64 a0), .lit (.int .i64 a1), .lit (.string a2)]] => some ⟨a0, a1, a2⟩ | _ => none
  ds := fun v => [.agg [.lit (.int .i64 v.K), .lit (.int .i64 v.N), .lit (.string v.S)]]
  pre := fun v => []
  res := fun v => ⟨[.one (.lit (.string (valText v)))], true, []⟩
  law := by intro l x h; (try simp only at h); split at h <;> cases h; rfl
def ann_impl_ValText : con_impl_ValText.α → Nat → Option (Ann UU) := fun v => annL []
def use_impl_ValText : List (FuncId × Con UU) := [(49, con_impl_ValOk), (73, con_strconv_Itoa)]
theorem vc_impl_ValText (v : DVal) : goal EE use_impl_ValText Go.Proofs.Tryd.f65 con_impl_ValText ann_impl_ValText v = (let x0 : ByteArray := { data := #[(39 : UInt8)] : ByteArray };
bif !valOk v then Lf [DV.one (Cell.lit (Value.string { data := #[] : ByteArray }))] [DV.one (Cell.lit (Value.string (valText v)))] else bif v.K == (1 : Int) then Lf [DV.one (Cell.lit (Value.string (itoaB v.N)))] [DV.one (Cell.lit (Value.string (valText v)))] else ByteArray.size x0 + ByteArray.size v.S ≤ (4611686018427387904 : Nat) ∧ ByteArray.size (x0 ++ v.S) + ByteArray.size x0 ≤ (4611686018427387904 : Nat) ∧ Lf [DV.one (Cell.lit (Value.string (x0 ++ v.S ++ x0)))] [DV.one (Cell.lit (Value.string (valText v)))]) := by kernel_rfl
theorem ok_impl_ValText : Holds EE (65, con_impl_ValText) := by
  refine holds_of EE_ok Go.Proofs.Tryd.func65 con_impl_ValText (by kernel_rfl) use_impl_ValText (all_cons ok_impl_ValOk (all_cons ok_strconv_Itoa all_nil)) ann_impl_ValText (fun (v : DVal) hp hb => ?_)
  have hb_v : BdDV (U := UU) (.agg [.lit (.int .i64 v.K), .lit (.int .i64 v.N), .lit (.string v.S)]) := hb _ (List.mem_cons_self)
  have hl_v_S : v.S.size ≤ 9223372036854775807 := Bd.str (hb_v _ (by simp))
  clear hp hb
  rw [vc_impl_ValText v]
  dsimp only
  refine if_cond (fun h => Lf_s ?_) (fun h => ?_)
  · have h : valOk v = false := by simpa using h
    simp only [valText, h]; rfl
  · have h : valOk v = true := by simpa using h
    have ev : valText v = mkB (valT v) := by simp only [valText, h, if_true]
    rw [ev]
    rcases valOk_cases h with ⟨h1, h2, h3⟩ | ⟨h1, h2⟩
    · refine if_cond (fun h => Lf_s ?_) (fun h => absurd h (by simp [h1]))
      simp only [valT, if_pos h1]; rfl
    · refine if_cond (fun h => absurd h (by simp [h1])) (fun h => ?_)
      have e : ({ data := #[(39 : UInt8)] : ByteArray } ++ v.S) = mkB (39 :: bs v.S) := by
        conv => lhs; rw [← mkB_bs v.S]
        exact mkB_app [39] _
      rw [e]
      refine ⟨?_, ?_, Lf_s ?_⟩
      · show 1 + _ ≤ _; omega
      · rw [mkB_size]; show _ + 1 ≤ _; simp only [List.length_cons, bs_len]; omega
      · simp only [valT, if_neg (show ¬ v.K = 1 by omega)]; exact mkB_app (39 :: bs v.S) [39]
def con_impl_FactText : Con UU where
  α := DFact
  md := [.ro]
  of := fun | [.agg [.lit (.string a0), .sl .eVal a1]] => some ⟨a0, a1⟩ | _ => none
  ds := fun f => [.agg [.lit (.string f.Kind), .sl .eVal f.Fields]]
  pre := fun f => []
  res := fun f => ⟨[.one (.lit (.string (factText f)))], true, []⟩
  law := by intro l x h; (try simp only at h); split at h <;> cases h; rfl
def I_impl_FactText_5 (f : DFact) : List ByteArray × Int × (ByteArray × List DVal × Unit) × Unit → Prop := fun (out, i, fb, _) => fb = (f.Kind, f.Fields, ()) ∧ factOk f = true ∧ 0 ≤ i ∧ i ≤ f.Fields.length ∧ out = (f.Fields.take i.toNat).map valText
def μ_impl_FactText_5 (f : DFact) : List ByteArray × Int × (ByteArray × List DVal × Unit) × Unit → Nat := fun (out, i, fb, _) => f.Fields.length - i.toNat
def ann_impl_FactText : con_impl_FactText.α → Nat → Option (Ann UU) := fun f => annL [(5, annOf [.slot 3 (3, 1024) (.own .str true), .slot 12 (12, 1024) (.lit (.int .i64)), .box 1 (1, 1024) [.lit .str, .shr .eVal]] (fun _ => I_impl_FactText_5 f) (μ_impl_FactText_5 f))]
def use_impl_FactText : List (FuncId × Con UU) := [(23, con_impl_FactOk), (65, con_impl_ValText), (66, con_strings_Join)]
theorem vc_impl_FactText (f : DFact) : goal EE use_impl_FactText Go.Proofs.Tryd.f44 con_impl_FactText ann_impl_FactText f = (bif !factOk f then Lf [DV.one (Cell.lit (Value.string { data := #[] : ByteArray }))] [DV.one (Cell.lit (Value.string (factText f)))]
else
  I_impl_FactText_5 f ([], (0 : Int), (f.Kind, f.Fields, PUnit.unit), PUnit.unit) ∧
    ∀ (y : List ByteArray × Int × (ByteArray × List DVal × PUnit) × PUnit),
      let x0 : ByteArray := y.2.2.1.1 ++ { data := #[(40 : UInt8)] : ByteArray } ++ joinB y.1 { data := #[(44 : UInt8)] : ByteArray };
      let x1 : List ByteArray := [valText (List.getD f.Fields (Int.toNat y.2.1) zVal)];
      let x2 : Nat := ByteArray.size (joinB y.1 { data := #[(44 : UInt8)] : ByteArray });
      I_impl_FactText_5 f y → bif decide (y.2.1 < (↑(List.length f.Fields) : Int)) then (0 : Int) ≤ y.2.1 ∧ Int.toNat y.2.1 < List.length f.Fields ∧ List.length y.1 + List.length x1 ≤ (4294967296 : Nat) ∧ I_impl_FactText_5 f (y.1 ++ x1, IntKind.wrap IntKind.i64 (y.2.1 + (1 : Int)), (y.2.2.1.1, y.2.2.1.2.1, PUnit.unit), PUnit.unit) ∧ μ_impl_FactText_5 f (y.1 ++ x1, IntKind.wrap IntKind.i64 (y.2.1 + (1 : Int)), (y.2.2.1.1, y.2.2.1.2.1, PUnit.unit), PUnit.unit) < μ_impl_FactText_5 f y else ByteArray.size y.2.2.1.1 + ByteArray.size { data := #[(40 : UInt8)] : ByteArray } ≤ (4611686018427387904 : Nat) ∧ x2 ≤ (140737488355328 : Nat) ∧ List.length y.1 ≤ (140737488355328 : Nat) ∧ ByteArray.size (y.2.2.1.1 ++ { data := #[(40 : UInt8)] : ByteArray }) + x2 ≤ (4611686018427387904 : Nat) ∧ ByteArray.size x0 + ByteArray.size { data := #[(41 : UInt8)] : ByteArray } ≤ (4611686018427387904 : Nat) ∧ Lf [DV.one (Cell.lit (Value.string (x0 ++ { data := #[(41 : UInt8)] : ByteArray })))] [DV.one (Cell.lit (Value.string (factText f)))]) := by kernel_rfl
theorem ok_impl_FactText : Holds EE (44, con_impl_FactText) := by
  refine holds_of EE_ok Go.Proofs.Tryd.func44 con_impl_FactText (by kernel_rfl) use_impl_FactText (all_cons ok_impl_FactOk (all_cons ok_impl_ValText (all_cons ok_strings_Join all_nil))) ann_impl_FactText (fun (f : DFact) hp hb => ?_)
  have hb_f : BdDV (U := UU) (.agg [.lit (.string f.Kind), .sl .eVal f.Fields]) := hb _ (List.mem_cons_self)
  have hl_f_Kind : f.Kind.size ≤ 9223372036854775807 := Bd.str (hb_f _ (by simp))
  have hl_f_Fields : f.Fields.length ≤ 9223372036854775807 := Bd.len (U := UU) (τ := .eVal) (xs := f.Fields) (hb_f _ (by simp))
  clear hp hb
  rw [vc_impl_FactText f]
  dsimp only
  refine if_cond (fun h => Lf_s ?_) (fun h => ?_)
  · have h : factOk f = false := by simpa using h
    simp only [factText, h]; rfl
  have h : factOk f = true := by simpa using h
  refine ⟨⟨rfl, h, by omega, by omega, rfl⟩, ?_⟩
  rintro ⟨out, i, fb, ⟨⟩⟩ ⟨rfl, _, h1, h2, rfl⟩
  obtain ⟨g1, g2, g3, g4⟩ := factOk_fields h
  simp only
  refine if_cond (fun hc => ?_) (fun hc => ?_)
  · have hc : i < f.Fields.length := of_decide_eq_true hc
    rw [wrap_i64 (by omega) (by omega)]
    refine ⟨h1, by omega, by simp; omega, ⟨rfl, h, by omega, by omega, ?_⟩, by simp only [μ_impl_FactText_5]; omega⟩
    rw [← take_step f.Fields zVal h1 hc, List.map_append]; rfl
  · have hc : ¬ i < f.Fields.length := of_decide_eq_false hc
    rw [take_all f.Fields (by omega)]
    have em : f.Fields.map valText = (f.Fields.map valT).map mkB := by
      rw [List.map_map]
      exact List.map_congr_left fun v hv => by
        have := List.all_eq_true.1 g2 v hv
        simp only [valText, this, if_true, Function.comp]
    have ej : joinB (f.Fields.map valText) { data := #[(44 : UInt8)] : ByteArray } = mkB (Go.Lib.join (f.Fields.map valT) [44]) := by
      rw [em, joinB_eq, List.map_map]
      have : (bs ∘ mkB) = id := funext fun l => bs_mkB l
      rw [this, List.map_id]
      rfl
    rw [ej]
    have hj := join_len f.Fields g2
    have e1 : (f.Kind ++ { data := #[(40 : UInt8)] : ByteArray }) = mkB (bs f.Kind ++ [40]) := app_mkB _ [40]
    rw [e1, mkB_app]
    refine ⟨?_, ?_, by simp; omega, ?_, ?_, Lf_s ?_⟩
    · show _ + 1 ≤ _; omega
    · rw [mkB_size]; omega
    · rw [mkB_size, mkB_size]; simp only [List.length_append, bs_len, List.length_cons, List.length_nil]; omega
    · rw [mkB_size]; show _ + 1 ≤ _; simp only [List.length_append, bs_len, List.length_cons, List.length_nil]; omega
    · simp only [factText, h, if_true]
      refine (mkB_app _ [41]).trans ?_
      simp [valsT]
def con_impl_TaskKey : Con UU where
  α := DFact
  md := [.ro]
  of := fun | [.agg [.lit (.string a0), .sl .eVal a1]] => some ⟨a0, a1⟩ | _ => none
  ds := fun f => [.agg [.lit (.string f.Kind), .sl .eVal f.Fields]]
  pre := fun f => []
  res := fun f => ⟨[.one (.lit (.string (factText f)))], true, []⟩
  law := by intro l x h; (try simp only at h); split at h <;> cases h; rfl
def ann_impl_TaskKey : con_impl_TaskKey.α → Nat → Option (Ann UU) := fun f => annL []
def use_impl_TaskKey : List (FuncId × Con UU) := [(44, con_impl_FactText)]
theorem vc_impl_TaskKey (f : DFact) : goal EE use_impl_TaskKey Go.Proofs.Tryd.f18 con_impl_TaskKey ann_impl_TaskKey f = (Lf [DV.one (Cell.lit (Value.string (factText f)))] [DV.one (Cell.lit (Value.string (factText f)))]) := by kernel_rfl
theorem ok_impl_TaskKey : Holds EE (18, con_impl_TaskKey) := by
  refine holds_of EE_ok Go.Proofs.Tryd.func18 con_impl_TaskKey (by kernel_rfl) use_impl_TaskKey (all_cons ok_impl_FactText all_nil) ann_impl_TaskKey (fun (f : DFact) hp hb => ?_)
  have hb_f : BdDV (U := UU) (.agg [.lit (.string f.Kind), .sl .eVal f.Fields]) := hb _ (List.mem_cons_self)
  have hl_f_Kind : f.Kind.size ≤ 9223372036854775807 := Bd.str (hb_f _ (by simp))
  have hl_f_Fields : f.Fields.length ≤ 9223372036854775807 := Bd.len (U := UU) (τ := .eVal) (xs := f.Fields) (hb_f _ (by simp))
  clear hp hb
  rw [vc_impl_TaskKey f]
  exact Lf_rfl _
theorem size_map_giveUp (l : List DTask) : cntTaskS (giveUp l) = cntTaskS l := by
  unfold cntTaskS giveUp ctS
  rw [List.map_map]
  congr 1
  refine List.map_congr_left fun t _ => ?_
  simp only [Function.comp, giveUp1]
  split <;> rfl
def instNew (now : Int) : DInst := if 0 ≤ now ∧ now ≤ 1000000000 then ⟨⟨[], 1⟩, [], [], [], [], 1, now⟩ else zInst
theorem instNew_ct (n : Int) : ctInst (instNew n) = 0 := by unfold instNew; split <;> rfl
def con_impl_copyTasks : Con UU where
  α := (List DTask)
  md := [.ro]
  of := fun | [.one (.sl .eTask a0)] => some a0 | _ => none
  ds := fun l => [.one (.sl .eTask l)]
  pre := fun l => [sizeTaskS l ≤ 4294967296]
  res := fun l => ⟨[.one (.sl .eTask l)], true, []⟩
  law := by intro l x h; (try simp only at h); split at h <;> cases h; rfl
def I_impl_copyTasks_3 (l : (List DTask)) : List DTask × Int × Unit → Prop := fun (out, i, _) => 0 ≤ i ∧ i ≤ l.length ∧ out = l.take i.toNat
def μ_impl_copyTasks_3 (l : (List DTask)) : List DTask × Int × Unit → Nat := fun (out, i, _) => l.length - i.toNat
def ann_impl_copyTasks : con_impl_copyTasks.α → Nat → Option (Ann UU) := fun l => annL [(3, annOf [.slot 3 (3, 1024) (.own .eTask true), .slot 8 (8, 1024) (.lit (.int .i64))] (fun _ => I_impl_copyTasks_3 l) (μ_impl_copyTasks_3 l))]
def use_impl_copyTasks : List (FuncId × Con UU) := [(27, con_impl_copyFact)]
theorem vc_impl_copyTasks (l : (List DTask)) : goal EE use_impl_copyTasks Go.Proofs.Tryd.f21 con_impl_copyTasks ann_impl_copyTasks l = (I_impl_copyTasks_3 l ([], (0 : Int), PUnit.unit) ∧
  ∀ (y : List DTask × Int × PUnit),
    let x0 : List DTask := [List.getD l (Int.toNat y.2.1) zTask];
    let x1 : Nat := Int.toNat y.2.1;
    I_impl_copyTasks_3 l y → bif decide (y.2.1 < (↑(List.length l) : Int)) then (0 : Int) ≤ y.2.1 ∧ x1 < List.length l ∧ List.length (List.getD l x1 zTask).F.Fields ≤ (4294967296 : Nat) ∧ List.length y.1 + List.length x0 ≤ (4294967296 : Nat) ∧ I_impl_copyTasks_3 l (y.1 ++ x0, IntKind.wrap IntKind.i64 (y.2.1 + (1 : Int)), PUnit.unit) ∧ μ_impl_copyTasks_3 l (y.1 ++ x0, IntKind.wrap IntKind.i64 (y.2.1 + (1 : Int)), PUnit.unit) < μ_impl_copyTasks_3 l y else Lf [DV.one (Cell.sl Cd.eTask y.1)] [DV.one (Cell.sl Cd.eTask l)]) := by kernel_rfl
theorem ok_impl_copyTasks : Holds EE (21, con_impl_copyTasks) := by
  refine holds_of EE_ok Go.Proofs.Tryd.func21 con_impl_copyTasks (by kernel_rfl) use_impl_copyTasks (all_cons ok_impl_copyFact all_nil) ann_impl_copyTasks (fun (l : (List DTask)) hp hb => ?_)
  have hb_l : BdDV (U := UU) (.one (.sl .eTask l)) := hb _ (List.mem_cons_self)
  have hl_l : l.length ≤ 9223372036854775807 := Bd.len hb_l
  have hp0 : sizeTaskS l ≤ 4294967296 := hp _ (List.mem_cons_self)
  clear hp hb
  rw [vc_impl_copyTasks l]
  dsimp only
  refine ⟨⟨by omega, by omega, by simp⟩, ?_⟩
  rintro ⟨out, i, ⟨⟩⟩ ⟨h1, h2, rfl⟩
  simp only
  refine if_cond (fun hc => ?_) (fun hc => ?_)
  · have hc := of_decide_eq_true hc
    have hs := sum_getD_le sizeTask l zTask h1 hc
    simp only [sizeTaskS] at hp0
    have hx := hs
    simp only [sizeTask, sizeFact, sizeValS] at hx
    rw [take_step l zTask h1 hc, wrap_i64 (by omega) (by omega)]
    repeat' (first | refine And.intro (by omega) ?_ | fail)
    refine ⟨by simp; omega, ⟨by omega, by omega, rfl⟩, by simp only [μ_impl_copyTasks_3]; omega⟩
  · have hc := of_decide_eq_false hc
    rw [take_all l (by omega)]
    exact Lf_rfl _
def con_impl_isOpen : Con UU where
  α := DTask
  md := [.ro]
  of := fun | [.agg [.lit (.string a0), .sl .eVal a1, .lit (.string a2), .lit (.int .i64 a3), .lit (.int .i64 a4), .lit (.int .i64 a5), .lit (.int .i64 a6), .lit (.int .i64 a7), .lit (.string a8)]] => some ⟨⟨a0, a1⟩, a2, a3, a4, a5, ⟨a6, a7, a8⟩⟩ | _ => none
  ds := fun t => [.agg [.lit (.string t.F.Kind), .sl .eVal t.F.Fields, .lit (.string t.Undo), .lit (.int .i64 t.State), .lit (.int .i64 t.Tries), .lit (.int .i64 t.Due), .lit (.int .i64 t.V.K), .lit (.int .i64 t.V.N), .lit (.string t.V.S)]]
  pre := fun t => []
  res := fun t => ⟨[.one (.lit (.bool (isOpen t)))], true, []⟩
  law := by intro l x h; (try simp only at h); split at h <;> cases h; rfl
def ann_impl_isOpen : con_impl_isOpen.α → Nat → Option (Ann UU) := fun t => annL []
def use_impl_isOpen : List (FuncId × Con UU) := []
theorem vc_impl_isOpen (t : DTask) : goal EE use_impl_isOpen Go.Proofs.Tryd.f28 con_impl_isOpen ann_impl_isOpen t = (bif t.State == (1 : Int) then Lf [DV.one (Cell.lit (Value.bool true))] [DV.one (Cell.lit (Value.bool (isOpen t)))] else Lf [DV.one (Cell.lit (Value.bool (t.State == (2 : Int))))] [DV.one (Cell.lit (Value.bool (isOpen t)))]) := by kernel_rfl
theorem ok_impl_isOpen : Holds EE (28, con_impl_isOpen) := by
  refine holds_of EE_ok Go.Proofs.Tryd.func28 con_impl_isOpen (by kernel_rfl) use_impl_isOpen all_nil ann_impl_isOpen (fun (t : DTask) hp hb => ?_)
  have hb_t : BdDV (U := UU) (.agg [.lit (.string t.F.Kind), .sl .eVal t.F.Fields, .lit (.string t.Undo), .lit (.int .i64 t.State), .lit (.int .i64 t.Tries), .lit (.int .i64 t.Due), .lit (.int .i64 t.V.K), .lit (.int .i64 t.V.N), .lit (.string t.V.S)]) := hb _ (List.mem_cons_self)
  have hl_t_F_Kind : t.F.Kind.size ≤ 9223372036854775807 := Bd.str (hb_t _ (by simp))
  have hl_t_F_Fields : t.F.Fields.length ≤ 9223372036854775807 := Bd.len (U := UU) (τ := .eVal) (xs := t.F.Fields) (hb_t _ (by simp))
  have hl_t_Undo : t.Undo.size ≤ 9223372036854775807 := Bd.str (hb_t _ (by simp))
  have hl_t_V_S : t.V.S.size ≤ 9223372036854775807 := Bd.str (hb_t _ (by simp))
  clear hp hb
  rw [vc_impl_isOpen t]
  simp only [isOpen]
  refine if_cond (fun h => Lf_b ?_) (fun h => Lf_b ?_) <;> grind
def hasUndo (l : List DUndo) (key : ByteArray) : Bool := hasKey l key
def canPush (l : List DUndo) (t : DTask) : Bool := undosOk l && factOk t.F && nameOk t.Undo && !hasKey l (factText t.F) && !decide (30 ≤ l.length)
def pushUndo (l : List DUndo) (t : DTask) : List DUndo × Bool := if canPush l t = true then (l ++ [⟨factText t.F, ⟨t.Undo, t.F.Fields⟩⟩], true) else (l, false)
def replied (ok : Bool) (v : DVal) (t : DTask) : DTask := ⟨t.F, t.Undo, if ok = true then 3 else 4, t.Tries, t.Due, v⟩
def replyTask (l : List DTask) (key : ByteArray) (ok : Bool) (v : DVal) : List DTask × Int :=
  if tasksOk l = true ∧ valOk v = true ∧ 0 ≤ taskAtKey l key ∧ (List.getD l (taskAtKey l key).toNat zTask).State ≠ 1 then
    (if (List.getD l (taskAtKey l key).toNat zTask).State = 2 then (l.modify (taskAtKey l key).toNat (replied ok v), 1) else (l, 2)) else (l, 3)
def due (now : Int) (t : DTask) : Bool := isOpen t && decide (t.Due ≤ now)
def send1 (now : Int) (t : DTask) : DTask := if due now t = true then (if t.Tries = 4 then ⟨t.F, t.Undo, 4, t.Tries, t.Due, t.V⟩ else ⟨t.F, t.Undo, 2, t.Tries + 1, now + backoff 2 (t.Tries + 1) 60, t.V⟩) else t
def call1 (now : Int) (t : DTask) : List DCall := if due now t = true ∧ t.Tries ≠ 4 then [⟨factText t.F, t.F, t.Tries + 1⟩] else []
def fail1 (now : Int) (t : DTask) : List ByteArray := if due now t = true ∧ t.Tries = 4 then [factText t.F] else []
theorem undosOk_len {l : List DUndo} (h : undosOk l = true) : l.length ≤ 30 := by
  simp only [undosOk, Bool.and_eq_true, decide_eq_true_eq] at h; exact h.1
theorem tasksOk_len' {l : List DTask} (h : tasksOk l = true) : l.length ≤ 30 := by
  simp only [tasksOk, Bool.and_eq_true, decide_eq_true_eq] at h; exact h.1
theorem tasksOk_at {l : List DTask} (h : tasksOk l = true) {k : Nat} (hk : k < l.length) : taskOk (List.getD l k zTask) = true := by
  simp only [tasksOk, Bool.and_eq_true] at h
  have := allI_iff.1 h.2 k hk
  simp only [taskAt, Bool.and_eq_true] at this
  exact this.1
theorem taskOk_st {t : DTask} (h : taskOk t = true) : (1 ≤ t.State ∧ t.State ≤ 4) ∧ (0 ≤ t.Tries ∧ t.Tries ≤ 4) ∧ (0 ≤ t.Due ∧ t.Due ≤ 1000001000) ∧ ((t.State = 1 → t.Tries = 0) ∧ (t.State = 2 → t.Tries ≠ 0)) ∧ t.F.Fields.length ≤ 5 := by
  simp only [taskOk, Bool.and_eq_true, decide_eq_true_eq] at h
  obtain ⟨⟨⟨⟨⟨⟨h1, h2⟩, h3⟩, h4⟩, h5⟩, h6⟩, h7⟩ := h
  refine ⟨h3, h4, h5, h7, ?_⟩
  simp only [factOk, Bool.and_eq_true, decide_eq_true_eq] at h1
  first | exact h1.1.2 | exact h1.2.1 | omega
theorem taskAtKey_lt {l : List DTask} {key : ByteArray} (h : 0 ≤ taskAtKey l key) : (taskAtKey l key).toNat < l.length := by
  unfold taskAtKey at *
  rcases idxI_cases l.length (fun k => decide (factText (List.getD l k zTask).F = key)) with ⟨h1, h2⟩ | ⟨i, h1, h2, h3, h4⟩
  · rw [h1] at h; omega
  · rw [h2]; omega
theorem reply_none {l : List DTask} {key : ByteArray} {ok : Bool} {v : DVal} (h : ¬ (tasksOk l = true ∧ valOk v = true ∧ 0 ≤ taskAtKey l key ∧ (List.getD l (taskAtKey l key).toNat zTask).State ≠ 1)) : replyTask l key ok v = (l, 3) := if_neg h
theorem reply_old {l : List DTask} {key : ByteArray} {ok : Bool} {v : DVal} (h : tasksOk l = true ∧ valOk v = true ∧ 0 ≤ taskAtKey l key ∧ (List.getD l (taskAtKey l key).toNat zTask).State ≠ 1) (h2 : (List.getD l (taskAtKey l key).toNat zTask).State ≠ 2) : replyTask l key ok v = (l, 2) := by rw [replyTask, if_pos h, if_neg h2]
theorem reply_new {l : List DTask} {key : ByteArray} {ok : Bool} {v : DVal} (h : tasksOk l = true ∧ valOk v = true ∧ 0 ≤ taskAtKey l key ∧ (List.getD l (taskAtKey l key).toNat zTask).State ≠ 1) (h2 : (List.getD l (taskAtKey l key).toNat zTask).State = 2) : replyTask l key ok v = (l.modify (taskAtKey l key).toNat (replied ok v), 1) := by rw [replyTask, if_pos h, if_pos h2]
theorem reply_t (l : List DTask) (k : Nat) (v : DVal) : (((l.modify k fun x => ⟨x.F, x.Undo, 4, x.Tries, x.Due, x.V⟩).modify k fun x => ⟨x.F, x.Undo, 3, x.Tries, x.Due, x.V⟩).modify k fun x => ⟨x.F, x.Undo, x.State, x.Tries, x.Due, v⟩) = l.modify k (replied true v) := by
  rw [modify_modify, modify_modify]; rfl
theorem reply_f (l : List DTask) (k : Nat) (v : DVal) : ((l.modify k fun x => ⟨x.F, x.Undo, 4, x.Tries, x.Due, x.V⟩).modify k fun x => ⟨x.F, x.Undo, x.State, x.Tries, x.Due, v⟩) = l.modify k (replied false v) := by
  rw [modify_modify]; rfl
theorem Lf3 {a a' : List DTask} {b b' : List DCall} {c c' : List ByteArray} (h1 : a = a') (h2 : b = b') (h3 : c = c') : Lf [.one (.sl .eTask a), .one (.sl .eCall b), .one (.sl .str c)] [.one (.sl .eTask a'), .one (.sl .eCall b'), .one (.sl .str c')] := by
  subst h1 h2 h3; exact Lf_rfl _
theorem Lf_row {a a' : List DTask} {n : Int} (h : a = a') : Lf [.one (.sl .eTask a), .one (.lit (.int .i64 n))] [.one (.sl .eTask a'), .one (.lit (.int .i64 n))] := by
  subst h; exact Lf_rfl _
theorem asD_row {a a' : List DTask} (h : a = a') : asD ([DV.one (Cell.sl Cd.eTask a)] : List (DV UU)) = asD ([DV.one (Cell.sl Cd.eTask a')] : List (DV UU)) := by rw [h]
theorem flat_step {α β : Type} (f : α → List β) (l : List α) (z : α) {i : Int} (h0 : 0 ≤ i) (h : i < l.length) : (l.take i.toNat).flatMap f ++ f (List.getD l i.toNat z) = (l.take (i + 1).toNat).flatMap f := by
  rw [← take_step l z h0 h, List.flatMap_append]; simp
theorem flat_len {α β : Type} (f : α → List β) (hf : ∀ x, (f x).length ≤ 1) : ∀ l : List α, (l.flatMap f).length ≤ l.length
  | [] => by simp
  | x :: l => by
    rw [List.flatMap_cons, List.length_append]
    have h1 := flat_len f hf l
    have h2 := hf x
    simp only [List.length_cons]; omega
theorem call1_len (now : Int) (t : DTask) : (call1 now t).length ≤ 1 := by unfold call1; split <;> simp
theorem fail1_len (now : Int) (t : DTask) : (fail1 now t).length ≤ 1 := by unfold fail1; split <;> simp
theorem backN_pos (most : Int) : ∀ (k : Nat) (n : Int), 0 ≤ n → 0 ≤ backN most k n
  | 0, n, h => h
  | k + 1, n, h => by rw [backN]; split; exact backN_pos most k (2 * n) (by omega); exact h
theorem backoff_le (k : Int) : 0 ≤ backoff 2 k 60 ∧ backoff 2 k 60 ≤ 60 := by
  have := backN_pos 60 k.toNat 2 (by omega)
  unfold backoff
  split
  · split <;> omega
  · omega
def con_impl_SendDue : Con UU where
  α := (List DTask) × Int
  md := [.ro, .ro]
  of := fun | [.one (.sl .eTask a0), .one (.lit (.int .i64 a1))] => some (a0, a1) | _ => none
  ds := fun (l, now) => [.one (.sl .eTask l), .one (.lit (.int .i64 now))]
  pre := fun (l, now) => [sizeTaskS l ≤ 4294967296]
  res := fun (l, now) => ⟨[.one (.sl .eTask (if tasksOk l = true ∧ 0 ≤ now ∧ now ≤ 1000000000 then l.map (send1 now) else l)), .one (.sl .eCall (if tasksOk l = true ∧ 0 ≤ now ∧ now ≤ 1000000000 then l.flatMap (call1 now) else [])), .one (.sl .str (if tasksOk l = true ∧ 0 ≤ now ∧ now ≤ 1000000000 then l.flatMap (fail1 now) else []))], true, []⟩
  law := by intro l x h; (try simp only at h); split at h <;> cases h; rfl
def I_impl_SendDue_7 (l : (List DTask)) (now : Int) : List DTask × List DCall × List ByteArray × Int × Unit → Prop := fun (out, calls, failed, i, _) => 0 ≤ i ∧ i ≤ l.length ∧ out = (l.map (send1 now)).take i.toNat ++ l.drop i.toNat ∧ calls = (l.take i.toNat).flatMap (call1 now) ∧ failed = (l.take i.toNat).flatMap (fail1 now)
def μ_impl_SendDue_7 (l : (List DTask)) (now : Int) : List DTask × List DCall × List ByteArray × Int × Unit → Nat := fun (out, calls, failed, i, _) => l.length - i.toNat
def ann_impl_SendDue : con_impl_SendDue.α → Nat → Option (Ann UU) := fun (l, now) => annL [(7, annOf [.slot 7 (7, 1024) (.own .eTask true), .slot 8 (8, 1024) (.own .eCall true), .slot 9 (9, 1024) (.own .str true), .slot 25 (25, 1024) (.lit (.int .i64))] (fun _ => I_impl_SendDue_7 l now) (μ_impl_SendDue_7 l now))]
def use_impl_SendDue : List (FuncId × Con UU) := [(21, con_impl_copyTasks), (22, con_impl_TasksOk), (25, con_impl_isTime), (28, con_impl_isOpen), (18, con_impl_TaskKey), (29, con_impl_Backoff), (27, con_impl_copyFact)]
theorem vc_impl_SendDue (l : (List DTask)) (now : Int) : goal EE use_impl_SendDue Go.Proofs.Tryd.f9 con_impl_SendDue ann_impl_SendDue (l, now) = (sizeTaskS l ≤ (4294967296 : Nat) ∧
  bif !tasksOk l then Lf [DV.one (Cell.sl Cd.eTask l), DV.one (Cell.sl Cd.eCall []), DV.one (Cell.sl Cd.str [])] [DV.one (Cell.sl Cd.eTask (if tasksOk l = true ∧ (0 : Int) ≤ now ∧ now ≤ (1000000000 : Int) then List.map (send1 now) l else l)), DV.one (Cell.sl Cd.eCall (if tasksOk l = true ∧ (0 : Int) ≤ now ∧ now ≤ (1000000000 : Int) then List.flatMap (call1 now) l else [])), DV.one (Cell.sl Cd.str (if tasksOk l = true ∧ (0 : Int) ≤ now ∧ now ≤ (1000000000 : Int) then List.flatMap (fail1 now) l else []))]
  else
    bif !decide ((0 : Int) ≤ now ∧ now ≤ (1000000000 : Int)) then Lf [DV.one (Cell.sl Cd.eTask l), DV.one (Cell.sl Cd.eCall []), DV.one (Cell.sl Cd.str [])] [DV.one (Cell.sl Cd.eTask (if tasksOk l = true ∧ (0 : Int) ≤ now ∧ now ≤ (1000000000 : Int) then List.map (send1 now) l else l)), DV.one (Cell.sl Cd.eCall (if tasksOk l = true ∧ (0 : Int) ≤ now ∧ now ≤ (1000000000 : Int) then List.flatMap (call1 now) l else [])), DV.one (Cell.sl Cd.str (if tasksOk l = true ∧ (0 : Int) ≤ now ∧ now ≤ (1000000000 : Int) then List.flatMap (fail1 now) l else []))]
    else
      I_impl_SendDue_7 l now (l, [], [], (0 : Int), PUnit.unit) ∧
        ∀ (y : List DTask × List DCall × List ByteArray × Int × PUnit),
          let x0 : List DCall := [{ Key := factText (List.getD (List.modify (List.modify (List.modify y.1 (Int.toNat y.2.2.2.1) fun (x : DTask) => { F := x.F, Undo := x.Undo, State := (2 : Int), Tries := x.Tries, Due := x.Due, V := x.V : DTask }) (Int.toNat y.2.2.2.1) fun (x : DTask) => { F := x.F, Undo := x.Undo, State := x.State, Tries := IntKind.wrap IntKind.i64 ((List.getD (List.modify y.1 (Int.toNat y.2.2.2.1) fun (x : DTask) => { F := x.F, Undo := x.Undo, State := (2 : Int), Tries := x.Tries, Due := x.Due, V := x.V : DTask }) (Int.toNat y.2.2.2.1) zTask).Tries + (1 : Int)), Due := x.Due, V := x.V : DTask }) (Int.toNat y.2.2.2.1) fun (x : DTask) => { F := x.F, Undo := x.Undo, State := x.State, Tries := x.Tries, Due := IntKind.wrap IntKind.i64 (now + backoff (2 : Int) (List.getD (List.modify (List.modify y.1 (Int.toNat y.2.2.2.1) fun (x : DTask) => { F := x.F, Undo := x.Undo, State := (2 : Int), Tries := x.Tries, Due := x.Due, V := x.V : DTask }) (Int.toNat y.2.2.2.1) fun (x : DTask) => { F := x.F, Undo := x.Undo, State := x.State, Tries := IntKind.wrap IntKind.i64 ((List.getD (List.modify y.1 (Int.toNat y.2.2.2.1) fun (x : DTask) => { F := x.F, Undo := x.Undo, State := (2 : Int), Tries := x.Tries, Due := x.Due, V := x.V : DTask }) (Int.toNat y.2.2.2.1) zTask).Tries + (1 : Int)), Due := x.Due, V := x.V : DTask }) (Int.toNat y.2.2.2.1) zTask).Tries (60 : Int)), V := x.V : DTask }) (Int.toNat y.2.2.2.1) zTask).F, F := (List.getD (List.modify (List.modify (List.modify y.1 (Int.toNat y.2.2.2.1) fun (x : DTask) => { F := x.F, Undo := x.Undo, State := (2 : Int), Tries := x.Tries, Due := x.Due, V := x.V : DTask }) (Int.toNat y.2.2.2.1) fun (x : DTask) => { F := x.F, Undo := x.Undo, State := x.State, Tries := IntKind.wrap IntKind.i64 ((List.getD (List.modify y.1 (Int.toNat y.2.2.2.1) fun (x : DTask) => { F := x.F, Undo := x.Undo, State := (2 : Int), Tries := x.Tries, Due := x.Due, V := x.V : DTask }) (Int.toNat y.2.2.2.1) zTask).Tries + (1 : Int)), Due := x.Due, V := x.V : DTask }) (Int.toNat y.2.2.2.1) fun (x : DTask) => { F := x.F, Undo := x.Undo, State := x.State, Tries := x.Tries, Due := IntKind.wrap IntKind.i64 (now + backoff (2 : Int) (List.getD (List.modify (List.modify y.1 (Int.toNat y.2.2.2.1) fun (x : DTask) => { F := x.F, Undo := x.Undo, State := (2 : Int), Tries := x.Tries, Due := x.Due, V := x.V : DTask }) (Int.toNat y.2.2.2.1) fun (x : DTask) => { F := x.F, Undo := x.Undo, State := x.State, Tries := IntKind.wrap IntKind.i64 ((List.getD (List.modify y.1 (Int.toNat y.2.2.2.1) fun (x : DTask) => { F := x.F, Undo := x.Undo, State := (2 : Int), Tries := x.Tries, Due := x.Due, V := x.V : DTask }) (Int.toNat y.2.2.2.1) zTask).Tries + (1 : Int)), Due := x.Due, V := x.V : DTask }) (Int.toNat y.2.2.2.1) zTask).Tries (60 : Int)), V := x.V : DTask }) (Int.toNat y.2.2.2.1) zTask).F, Try := (List.getD (List.modify (List.modify (List.modify y.1 (Int.toNat y.2.2.2.1) fun (x : DTask) => { F := x.F, Undo := x.Undo, State := (2 : Int), Tries := x.Tries, Due := x.Due, V := x.V : DTask }) (Int.toNat y.2.2.2.1) fun (x : DTask) => { F := x.F, Undo := x.Undo, State := x.State, Tries := IntKind.wrap IntKind.i64 ((List.getD (List.modify y.1 (Int.toNat y.2.2.2.1) fun (x : DTask) => { F := x.F, Undo := x.Undo, State := (2 : Int), Tries := x.Tries, Due := x.Due, V := x.V : DTask }) (Int.toNat y.2.2.2.1) zTask).Tries + (1 : Int)), Due := x.Due, V := x.V : DTask }) (Int.toNat y.2.2.2.1) fun (x : DTask) => { F := x.F, Undo := x.Undo, State := x.State, Tries := x.Tries, Due := IntKind.wrap IntKind.i64 (now + backoff (2 : Int) (List.getD (List.modify (List.modify y.1 (Int.toNat y.2.2.2.1) fun (x : DTask) => { F := x.F, Undo := x.Undo, State := (2 : Int), Tries := x.Tries, Due := x.Due, V := x.V : DTask }) (Int.toNat y.2.2.2.1) fun (x : DTask) => { F := x.F, Undo := x.Undo, State := x.State, Tries := IntKind.wrap IntKind.i64 ((List.getD (List.modify y.1 (Int.toNat y.2.2.2.1) fun (x : DTask) => { F := x.F, Undo := x.Undo, State := (2 : Int), Tries := x.Tries, Due := x.Due, V := x.V : DTask }) (Int.toNat y.2.2.2.1) zTask).Tries + (1 : Int)), Due := x.Due, V := x.V : DTask }) (Int.toNat y.2.2.2.1) zTask).Tries (60 : Int)), V := x.V : DTask }) (Int.toNat y.2.2.2.1) zTask).Tries : DCall }];
          let x1 : List DTask := List.modify (List.modify (List.modify y.1 (Int.toNat y.2.2.2.1) fun (x : DTask) => { F := x.F, Undo := x.Undo, State := (2 : Int), Tries := x.Tries, Due := x.Due, V := x.V : DTask }) (Int.toNat y.2.2.2.1) fun (x : DTask) => { F := x.F, Undo := x.Undo, State := x.State, Tries := IntKind.wrap IntKind.i64 ((List.getD (List.modify y.1 (Int.toNat y.2.2.2.1) fun (x : DTask) => { F := x.F, Undo := x.Undo, State := (2 : Int), Tries := x.Tries, Due := x.Due, V := x.V : DTask }) (Int.toNat y.2.2.2.1) zTask).Tries + (1 : Int)), Due := x.Due, V := x.V : DTask }) (Int.toNat y.2.2.2.1) fun (x : DTask) => { F := x.F, Undo := x.Undo, State := x.State, Tries := x.Tries, Due := IntKind.wrap IntKind.i64 (now + backoff (2 : Int) (List.getD (List.modify (List.modify y.1 (Int.toNat y.2.2.2.1) fun (x : DTask) => { F := x.F, Undo := x.Undo, State := (2 : Int), Tries := x.Tries, Due := x.Due, V := x.V : DTask }) (Int.toNat y.2.2.2.1) fun (x : DTask) => { F := x.F, Undo := x.Undo, State := x.State, Tries := IntKind.wrap IntKind.i64 ((List.getD (List.modify y.1 (Int.toNat y.2.2.2.1) fun (x : DTask) => { F := x.F, Undo := x.Undo, State := (2 : Int), Tries := x.Tries, Due := x.Due, V := x.V : DTask }) (Int.toNat y.2.2.2.1) zTask).Tries + (1 : Int)), Due := x.Due, V := x.V : DTask }) (Int.toNat y.2.2.2.1) zTask).Tries (60 : Int)), V := x.V : DTask };
          let x2 : Nat := Int.toNat y.2.2.2.1;
          let x3 : List DTask := List.modify y.1 x2 fun (x : DTask) => { F := x.F, Undo := x.Undo, State := (4 : Int), Tries := x.Tries, Due := x.Due, V := x.V : DTask };
          let x4 : List DTask := List.modify y.1 x2 fun (x : DTask) => { F := x.F, Undo := x.Undo, State := (2 : Int), Tries := x.Tries, Due := x.Due, V := x.V : DTask };
          I_impl_SendDue_7 l now y → bif decide (y.2.2.2.1 < (↑(List.length l) : Int)) then (0 : Int) ≤ y.2.2.2.1 ∧ x2 < List.length y.1 ∧ x2 < List.length y.1 ∧ x2 < List.length y.1 ∧ bif !isOpen (List.getD y.1 x2 zTask) then I_impl_SendDue_7 l now (y.1, y.2.1, y.2.2.1, IntKind.wrap IntKind.i64 (y.2.2.2.1 + (1 : Int)), PUnit.unit) ∧ μ_impl_SendDue_7 l now (y.1, y.2.1, y.2.2.1, IntKind.wrap IntKind.i64 (y.2.2.2.1 + (1 : Int)), PUnit.unit) < μ_impl_SendDue_7 l now y else x2 < List.length y.1 ∧ bif decide ((List.getD y.1 x2 zTask).Due > now) then I_impl_SendDue_7 l now (y.1, y.2.1, y.2.2.1, IntKind.wrap IntKind.i64 (y.2.2.2.1 + (1 : Int)), PUnit.unit) ∧ μ_impl_SendDue_7 l now (y.1, y.2.1, y.2.2.1, IntKind.wrap IntKind.i64 (y.2.2.2.1 + (1 : Int)), PUnit.unit) < μ_impl_SendDue_7 l now y else x2 < List.length y.1 ∧ bif (List.getD y.1 x2 zTask).Tries == (4 : Int) then x2 < List.length y.1 ∧ x2 < List.length x3 ∧ x2 < List.length x3 ∧ List.length y.2.2.1 + List.length [factText (List.getD x3 x2 zTask).F] ≤ (4294967296 : Nat) ∧ I_impl_SendDue_7 l now (x3, y.2.1, y.2.2.1 ++ [factText (List.getD x3 x2 zTask).F], IntKind.wrap IntKind.i64 (y.2.2.2.1 + (1 : Int)), PUnit.unit) ∧ μ_impl_SendDue_7 l now (x3, y.2.1, y.2.2.1 ++ [factText (List.getD x3 x2 zTask).F], IntKind.wrap IntKind.i64 (y.2.2.2.1 + (1 : Int)), PUnit.unit) < μ_impl_SendDue_7 l now y else x2 < List.length y.1 ∧ x2 < List.length x4 ∧ x2 < List.length x4 ∧ x2 < List.length (List.modify x4 x2 fun (x : DTask) => { F := x.F, Undo := x.Undo, State := x.State, Tries := IntKind.wrap IntKind.i64 ((List.getD x4 x2 zTask).Tries + (1 : Int)), Due := x.Due, V := x.V : DTask }) ∧ x2 < List.length (List.modify x4 x2 fun (x : DTask) => { F := x.F, Undo := x.Undo, State := x.State, Tries := IntKind.wrap IntKind.i64 ((List.getD x4 x2 zTask).Tries + (1 : Int)), Due := x.Due, V := x.V : DTask }) ∧ x2 < List.length x1 ∧ x2 < List.length x1 ∧ x2 < List.length x1 ∧ x2 < List.length x1 ∧ List.length (List.getD x1 x2 zTask).F.Fields ≤ (4294967296 : Nat) ∧ x2 < List.length x1 ∧ List.length y.2.1 + List.length x0 ≤ (4294967296 : Nat) ∧ I_impl_SendDue_7 l now (x1, y.2.1 ++ x0, y.2.2.1, IntKind.wrap IntKind.i64 (y.2.2.2.1 + (1 : Int)), PUnit.unit) ∧ μ_impl_SendDue_7 l now (x1, y.2.1 ++ x0, y.2.2.1, IntKind.wrap IntKind.i64 (y.2.2.2.1 + (1 : Int)), PUnit.unit) < μ_impl_SendDue_7 l now y else Lf [DV.one (Cell.sl Cd.eTask y.1), DV.one (Cell.sl Cd.eCall y.2.1), DV.one (Cell.sl Cd.str y.2.2.1)] [DV.one (Cell.sl Cd.eTask (if tasksOk l = true ∧ (0 : Int) ≤ now ∧ now ≤ (1000000000 : Int) then List.map (send1 now) l else l)), DV.one (Cell.sl Cd.eCall (if tasksOk l = true ∧ (0 : Int) ≤ now ∧ now ≤ (1000000000 : Int) then List.flatMap (call1 now) l else [])), DV.one (Cell.sl Cd.str (if tasksOk l = true ∧ (0 : Int) ≤ now ∧ now ≤ (1000000000 : Int) then List.flatMap (fail1 now) l else []))]) := by kernel_rfl
theorem ok_impl_SendDue : Holds EE (9, con_impl_SendDue) := by
  refine holds_of EE_ok Go.Proofs.Tryd.func9 con_impl_SendDue (by kernel_rfl) use_impl_SendDue (all_cons ok_impl_copyTasks (all_cons ok_impl_TasksOk (all_cons ok_impl_isTime (all_cons ok_impl_isOpen (all_cons ok_impl_TaskKey (all_cons ok_impl_Backoff (all_cons ok_impl_copyFact all_nil))))))) ann_impl_SendDue (fun x hp hb => ?_)
  obtain ⟨l, now⟩ := x
  have hb_l : BdDV (U := UU) (.one (.sl .eTask l)) := hb _ (List.mem_cons_self)
  have hl_l : l.length ≤ 9223372036854775807 := Bd.len hb_l
  have hb_now : BdDV (U := UU) (.one (.lit (.int .i64 now))) := hb _ (List.mem_cons_of_mem _ (List.mem_cons_self))
  have hl_now := Bd.i64 hb_now
  have hp0 : sizeTaskS l ≤ 4294967296 := hp _ (List.mem_cons_self)
  clear hp hb
  rw [vc_impl_SendDue l now]
  dsimp only
  refine ⟨hp0, if_cond (fun h => ?_) (fun h => if_cond (fun h2 => ?_) (fun h2 => ?_))⟩
  · have hh' : ¬ (tasksOk l = true ∧ 0 ≤ now ∧ now ≤ 1000000000) := fun hh => by rw [hh.1] at h; simp at h
    exact Lf3 (if_neg hh').symm (if_neg hh').symm (if_neg hh').symm
  · have hh' : ¬ (tasksOk l = true ∧ 0 ≤ now ∧ now ≤ 1000000000) := fun hh => by simp [hh.2] at h2
    exact Lf3 (if_neg hh').symm (if_neg hh').symm (if_neg hh').symm
  have ht : tasksOk l = true := by simpa using h
  have hw : 0 ≤ now ∧ now ≤ 1000000000 := by simpa using h2
  have hh' : tasksOk l = true ∧ 0 ≤ now ∧ now ≤ 1000000000 := ⟨ht, hw⟩
  clear h h2
  refine ⟨⟨by omega, by omega, by simp, by simp, by simp⟩, ?_⟩
  rintro ⟨out, calls, failed, i, ⟨⟩⟩ ⟨h1, h2, rfl, rfl, rfl⟩
  have hl := map_row (send1 now) l h1 h2
  have hlen := tasksOk_len' ht
  have hcl := flat_len (call1 now) (call1_len now) (l.take i.toNat)
  have hfl := flat_len (fail1 now) (fail1_len now) (l.take i.toNat)
  rw [List.length_take] at hcl hfl
  simp only
  refine if_cond (fun hc => ?_) (fun hc => ?_)
  · have hc := of_decide_eq_true hc
    have hc : i < l.length := by omega
    have hi : i.toNat < l.length := by omega
    have hg := mk_getD _ l zTask (map_tl (send1 now) l h1 h2) h1 hc
    obtain ⟨s1, s2, s3, s4, s5⟩ := taskOk_st (tasksOk_at ht hi)
    have hct := flat_step (call1 now) l zTask h1 hc
    have hft := flat_step (fail1 now) l zTask h1 hc
    have hM := fun F hF => map_mod (send1 now) l zTask F h1 hc hF
    have hS := fun hF => map_skip (send1 now) l zTask h1 hc hF
    have hb := backoff_le ((List.getD l i.toNat zTask).Tries + 1)
    generalize hRR : (l.map (send1 now)).take i.toNat ++ l.drop i.toNat = R at *
    rw [wrap_i64 (n := i + 1) (by omega) (by omega)]
    simp (disch := first | omega | (simp only [List.length_modify]; omega)) only [getD_modify, modify_modify, List.length_modify, hl, hg]
    generalize hT : List.getD l i.toNat zTask = t at *
    simp (disch := omega) only [wrap_i64, List.length_cons, List.length_nil]
    repeat' (first | refine And.intro (by omega) ?_ | refine if_cond (fun h => ?_) (fun h => ?_) | fail)
    all_goals simp only [Bool.not_eq_true', Bool.not_eq_false', decide_eq_true_eq, decide_eq_false_iff_not, beq_iff_eq, beq_eq_false_iff_ne] at *
    all_goals first
      | (have hd : due now t = true := by first | assumption | (simp only [due]; grind)
         have e1 : call1 now t = [] := by simp only [call1]; exact if_neg (by simp_all)
         have e2 : fail1 now t = [factText t.F] := by simp only [fail1]; exact if_pos ⟨hd, by assumption⟩
         rw [e1, List.append_nil] at hct
         rw [e2] at hft
         rw [hM _ (by simp only [send1, hd, if_true]; rw [if_pos (by assumption)])]
         exact ⟨⟨by omega, by omega, rfl, hct, hft⟩, by simp only [μ_impl_SendDue_7]; omega⟩)
      | (have hd : due now t = true := by first | assumption | (simp only [due]; grind)
         have e1 : call1 now t = [⟨factText t.F, t.F, t.Tries + 1⟩] := by simp only [call1]; exact if_pos ⟨hd, by assumption⟩
         have e2 : fail1 now t = [] := by simp only [fail1]; exact if_neg (by simp_all)
         rw [e2, List.append_nil] at hft
         rw [e1] at hct
         rw [hM _ (by simp only [send1, hd, if_true]; rw [if_neg (by assumption)])]
         exact ⟨⟨by omega, by omega, rfl, hct, hft⟩, by simp only [μ_impl_SendDue_7]; omega⟩)
      | (have hd : due now t = false := by first | assumption | (simp only [due]; grind)
         have e1 : call1 now t = [] := by simp only [call1]; exact if_neg (by simp_all)
         have e2 : fail1 now t = [] := by simp only [fail1]; exact if_neg (by simp_all)
         rw [e1, List.append_nil] at hct
         rw [e2, List.append_nil] at hft
         have hs := hS (by simp only [send1, hd]; rfl)
         exact ⟨⟨by omega, by omega, hs, hct, hft⟩, by simp only [μ_impl_SendDue_7]; omega⟩)
  · have hc := of_decide_eq_false hc
    rw [take_all l (by omega)]
    exact Lf3 ((map_done (i := i) (send1 now) l (by omega)).trans (if_pos hh').symm) (if_pos hh').symm (if_pos hh').symm
theorem smallV_ok (c : DCur) : valOk (smallV c) = true := by
  unfold smallV; split
  · have := belowV_lt (c := belowC c 2) (n := 3) (by omega)
    simp only [valOk, decide_true, cond_true, Bool.and_true]
    simp only [decide_eq_true_eq]; omega
  · have h := strV_all (belowC c 2) (l := sLsmall) (fun s => decide (s.size ≤ 20) && wordS s) (by decide) (by rfl)
    simp only [valOk]
    simpa using h
def vFit (v : DVal) : Bool := decide (v.S.size ≤ 21)
def fFit (f : DFact) : Prop := f.Kind.size ≤ 13 ∧ f.Fields.length ≤ 6 ∧ f.Fields.all vFit = true
theorem valOk_fit {v : DVal} (h : valOk v = true) : vFit v = true := by
  simp only [valOk] at h
  simp only [vFit, decide_eq_true_eq]
  by_cases h1 : v.K = 1
  · simp [h1] at h; rw [h.2]; simp [noBytes]
  · by_cases h2 : v.K = 2
    · simp [h2] at h; omega
    · simp [h1, h2] at h
theorem valV_fit (c : DCur) : vFit (valV c) = true := by
  unfold valV; split
  · rfl
  · exact strV_all (belowC c 2) (l := sLval) (fun s => decide (s.size ≤ 21)) (by decide) (by rfl)
theorem anyvV_fit (c : DCur) : vFit (anyvV c) = true := by
  have h := valV_fit c
  simp only [anyvV]; split
  · exact h
  · split
    · exact h
    · split
      · exact strV_all _ (l := sLany) (fun s => decide (s.size ≤ 21)) (by decide) (by rfl)
      · exact h
theorem smallsL_all {p : DVal → Bool} (hp : ∀ c, p (smallV c) = true) : ∀ (k : Nat) (l : List DVal) (c : DCur), l.all p = true → (smallsL k l c).all p = true
  | 0, _, _, h => h
  | k + 1, l, c, h => smallsL_all hp k _ _ (by rw [List.all_append, h]; simp [hp])
theorem factV_ok (c : DCur) : factOk (factV c) = true := by
  have h1 := factV_len c
  have h2 := factN_le c
  have h3 : nameOk (factV c).Kind = true := strV_all c (l := sLkind) nameOk (by decide) (by rfl)
  have h4 : (factV c).Fields.all valOk = true := smallsL_all smallV_ok _ _ _ rfl
  simp only [factOk, h3, h4, Bool.and_true, Bool.true_and, decide_eq_true_eq]
  omega
theorem ok_fit {f : DFact} (h : factOk f = true) : fFit f := by
  obtain ⟨h1, h2, h3, h4⟩ := factOk_fields h
  exact ⟨by omega, by omega, List.all_eq_true.2 fun v hv => valOk_fit (List.all_eq_true.1 h2 v hv)⟩
theorem padL_fit {l : List DVal} {c : DCur} (h : l.all vFit = true) (hl : l.length ≤ 6) : (padL l c).1.all vFit = true ∧ (padL l c).1.length ≤ 6 := by
  have hb := belowV_lt (c := c) (n := 2) (by omega)
  by_cases hn : (l.length : Int) < 5 + belowV c 2
  · rw [padL_yes hn]
    refine padL_fit (l := l ++ [valV (belowC c 2)]) ?_ ?_
    · rw [List.all_append, h]; simp [valV_fit]
    · simp only [List.length_append, List.length_cons, List.length_nil]; omega
  · rw [padL_no hn]; exact ⟨h, hl⟩
termination_by 6 - l.length
decreasing_by
  simp only [List.length_append, List.length_cons, List.length_nil]; omega
theorem anyF_fit (c : DCur) : fFit (anyF c) := by
  obtain ⟨h1, h2, h3⟩ := ok_fit (factV_ok c)
  have h5 := (factOk_fields (factV_ok c)).1
  simp only [anyF]; split
  · refine ⟨?_, h2, h3⟩
    have := strV_all (belowC (factC c) 10) (l := sLanyk) (fun s => decide (s.size ≤ 13)) (by decide) (by rfl)
    simpa using this
  · split
    · exact ⟨h1, by simp only [List.length_append, List.length_cons, List.length_nil]; omega, by rw [List.all_append, h3]; simp [anyvV_fit]⟩
    · split
      · exact ⟨h1, (padL_fit h3 h2).2, (padL_fit h3 h2).1⟩
      · exact ⟨h1, h2, h3⟩
theorem vals_size : ∀ {l : List DVal}, l.all vFit = true → sizeValS l ≤ 22 * l.length
  | [], _ => by simp [sizeValS]
  | x :: l, h => by
    simp only [List.all_cons, Bool.and_eq_true] at h
    have h1 := vals_size h.2
    have h2 := h.1
    simp only [vFit, decide_eq_true_eq] at h2
    simp only [sizeValS, List.length_cons, List.map_cons, List.sum_cons, sizeVal] at h1 ⊢
    omega
theorem fit_size {f : DFact} (h : fFit f) : sizeFact f ≤ 145 := by
  obtain ⟨h1, h2, h3⟩ := h
  have := vals_size h3
  simp only [sizeFact]; omega
theorem sumB {α : Type} (f : α → Nat) (B : Nat) : ∀ (l : List α), (∀ x ∈ l, f x ≤ B) → (l.map f).sum ≤ l.length * B
  | [], _ => by simp
  | x :: l, h => by
    have h1 := sumB f B l (fun y hy => h y (List.mem_cons_of_mem _ hy))
    have h2 := h x List.mem_cons_self
    simp only [List.map_cons, List.sum_cons, List.length_cons, Nat.add_mul]; omega
theorem undoS_size {l : List DUndo} {B : Nat} (h : ∀ u ∈ l, sizeUndo u ≤ B) : sizeUndoS l ≤ l.length * (B + 1) := by
  have := sumB sizeUndo B l h
  simp only [sizeUndoS, Nat.mul_add]; omega
theorem factText_size (f : DFact) : (factText f).size ≤ 200 := by
  unfold factText; split
  · rename_i h
    obtain ⟨h1, h2, h3, h4⟩ := factOk_fields h
    have := join_len f.Fields h2
    rw [mkB_size]; simp only [List.length_append, bs_len, valsT, List.length_cons, List.length_nil]; omega
  · simp [noBytes]
theorem nameOk_size {s : ByteArray} (h : nameOk s = true) : s.size ≤ 12 := by
  simp only [nameOk, Bool.and_eq_true, decide_eq_true_eq] at h; omega
theorem pushUndo_mem {l : List DUndo} {t : DTask} {B : Nat} (hB : 400 ≤ B) (h : ∀ u ∈ l, sizeUndo u ≤ B) : ∀ u ∈ (pushUndo l t).1, sizeUndo u ≤ B := by
  unfold pushUndo; split
  · rename_i hc
    simp only [canPush, Bool.and_eq_true] at hc
    intro u hu
    rcases List.mem_append.1 hu with hu | hu
    · exact h u hu
    · rw [List.mem_singleton.1 hu]
      have h1 := factText_size t.F
      have h2 := nameOk_size hc.1.1.2
      have h3 := vals_size (ok_fit hc.1.1.1.2).2.2
      have h4 := (ok_fit hc.1.1.1.2).2.1
      simp only [sizeUndo, sizeFact]; omega
  · exact h
theorem pushUndo_len (l : List DUndo) (t : DTask) : (pushUndo l t).1.length ≤ l.length + 1 := by
  unfold pushUndo; split <;> simp
def sLundo : List ByteArray := [⟨#[114, 101, 102, 117, 110, 100]⟩, ⟨#[99, 97, 110, 99, 101, 108]⟩]
def tUndo (c : DCur) : DTask := ⟨factV c, strV (factC c) sLundo, 0, 0, 0, zVal⟩
def tUndoC (c : DCur) : DCur := strC (factC c) sLundo
theorem cOk_tUndo {c : DCur} (h : cOk c) : cOk (tUndoC c) := cOk_str (cOk_fact h) _
def drawU : Nat → List DUndo → DCur → List DUndo × DCur
  | 0, l, c => (l, c)
  | k + 1, l, c => drawU k (pushUndo l (tUndo c)).1 (tUndoC c)
theorem drawU_ok : ∀ (k : Nat) {l : List DUndo} {c : DCur}, cOk c → (∀ u ∈ l, sizeUndo u ≤ 400) → cOk (drawU k l c).2 ∧ (∀ u ∈ (drawU k l c).1, sizeUndo u ≤ 400) ∧ (drawU k l c).1.length ≤ l.length + k
  | 0, _, _, h, h2 => ⟨h, h2, by simp [drawU]⟩
  | k + 1, l, c, h, h2 => by
    obtain ⟨h3, h4, h5⟩ := drawU_ok k (cOk_tUndo h) (pushUndo_mem (t := tUndo c) (Nat.le_refl 400) h2)
    have := pushUndo_len l (tUndo c)
    exact ⟨h3, h4, by simp only [drawU]; omega⟩
def undosV (c : DCur) : List DUndo := (drawU (belowV c 5).toNat [] (belowC c 5)).1
def undosC (c : DCur) : DCur := (drawU (belowV c 5).toNat [] (belowC c 5)).2
theorem undos_ok {c : DCur} (h : cOk c) : cOk (undosC c) ∧ (∀ u ∈ undosV c, sizeUndo u ≤ 400) ∧ (undosV c).length ≤ 4 := by
  have hb := belowV_lt (c := c) (n := 5) (by omega)
  obtain ⟨h1, h2, h3⟩ := drawU_ok (belowV c 5).toNat (l := []) (cOk_below h 5) (by simp)
  exact ⟨h1, h2, by simp only [List.length_nil] at h3; simp only [undosV]; omega⟩
def bX : ByteArray := ⟨#[120]⟩
def keyL (l : List DUndo) : List ByteArray := [noBytes, (List.getD l 0 zUndo).Key, bX]
noncomputable def anyU (c : DCur) : List DUndo := let l := undosV c; if l = [] then l else
  let k := belowV (undosC c) l.length; let d := belowC (undosC c) l.length; let s := belowV d 8; let e := belowC d 8
  if s = 0 then l.modify k.toNat (fun u => ⟨strV e (keyL l), u.F⟩) else if s = 1 then l.modify k.toNat (fun u => ⟨u.Key, anyF e⟩) else l
noncomputable def anyUC (c : DCur) : DCur := let l := undosV c; if l = [] then undosC c else
  let d := belowC (undosC c) l.length; let s := belowV d 8; let e := belowC d 8
  if s = 0 then strC e (keyL l) else if s = 1 then anyFC e else e
theorem getD_le {l : List DUndo} {B : Nat} (h : ∀ u ∈ l, sizeUndo u ≤ B) : (List.getD l 0 zUndo).Key.size ≤ B := by
  cases l with
  | nil => simp [zUndo, noBytes]
  | cons x r => have := h x List.mem_cons_self; simp only [sizeUndo] at this; simp only [List.getD_cons_zero]; omega
theorem modify_all {α : Type} {p : α → Prop} (f : α → α) (hf : ∀ x, p x → p (f x)) : ∀ (l : List α) (k : Nat), (∀ x ∈ l, p x) → ∀ x ∈ l.modify k f, p x
  | [], k, h => by simp
  | x :: l, 0, h => by
    intro y hy
    simp only [List.modify_zero_cons, List.mem_cons] at hy
    rcases hy with rfl | hy
    · exact hf x (h x List.mem_cons_self)
    · exact h y (List.mem_cons_of_mem _ hy)
  | x :: l, k + 1, h => by
    intro y hy
    simp only [List.modify_succ_cons, List.mem_cons] at hy
    rcases hy with rfl | hy
    · exact h y List.mem_cons_self
    · exact modify_all f hf l k (fun z hz => h z (List.mem_cons_of_mem _ hz)) y hy
theorem asD_undo {a a' : List DUndo} (h : a = a') : asD ([DV.one (Cell.sl Cd.eUndo a)] : List (DV UU)) = asD ([DV.one (Cell.sl Cd.eUndo a')] : List (DV UU)) := by rw [h]
def uFit (u : DUndo) : Prop := u.Key.size ≤ 400 ∧ sizeFact u.F ≤ 400
theorem uFit_of {u : DUndo} (h : sizeUndo u ≤ 400) : uFit u := by simp only [sizeUndo] at h; exact ⟨by omega, by omega⟩
theorem uFit_size {u : DUndo} (h : uFit u) : sizeUndo u ≤ 800 := by obtain ⟨h1, h2⟩ := h; simp only [sizeUndo]; omega
theorem mod_key {l : List DUndo} (k : Nat) {key : ByteArray} (hk : key.size ≤ 400) (h : ∀ u ∈ l, uFit u) : ∀ u ∈ l.modify k (fun u => (⟨key, u.F⟩ : DUndo)), uFit u :=
  modify_all (p := uFit) (fun u => (⟨key, u.F⟩ : DUndo)) (fun u hu => ⟨hk, hu.2⟩) l k h
theorem mod_F {l : List DUndo} (k : Nat) {f : DFact} (hk : sizeFact f ≤ 400) (h : ∀ u ∈ l, uFit u) : ∀ u ∈ l.modify k (fun u => (⟨u.Key, f⟩ : DUndo)), uFit u :=
  modify_all (p := uFit) (fun u => (⟨u.Key, f⟩ : DUndo)) (fun u hu => ⟨hu.1, hk⟩) l k h
theorem anyU_ok {c : DCur} (h : cOk c) : cOk (anyUC c) ∧ (∀ u ∈ anyU c, sizeUndo u ≤ 800) ∧ (anyU c).length ≤ 4 := by
  obtain ⟨h1, h2, h3⟩ := undos_ok h
  have h2' : ∀ u ∈ undosV c, uFit u := fun u hu => uFit_of (h2 u hu)
  have he := cOk_below (cOk_below h1 (undosV c).length) 8
  refine ⟨?_, fun u hu => uFit_size ?_, ?_⟩
  · simp only [anyUC]; split
    · exact h1
    · split
      · exact cOk_str he _
      · split
        · exact cOk_anyF he
        · exact he
  · revert u
    simp only [anyU]; split
    · exact h2'
    · split
      · refine mod_key _ ?_ h2'
        have hk := strV_mem (belowC (belowC (undosC c) (undosV c).length) 8) (l := keyL (undosV c)) (by simp [keyL])
        simp only [keyL, List.mem_cons, List.not_mem_nil, or_false] at hk
        show (strV _ (keyL (undosV c))).size ≤ 400
        rcases hk with hk | hk | hk
        · simp only [keyL]; rw [hk]; simp [noBytes]
        · simp only [keyL]; rw [hk]; exact getD_le h2
        · simp only [keyL]; rw [hk]; decide
      · split
        · exact mod_F _ (Nat.le_trans (fit_size (anyF_fit _)) (by omega)) h2'
        · exact h2'
  · simp only [anyU]; split
    · omega
    · split
      · simp only [List.length_modify]; omega
      · split
        · simp only [List.length_modify]; omega
        · omega
def bendK (l : List ByteArray) (k : Int) : List ByteArray := if k = 0 then l ++ [bX] else if k = 1 then (if 1 < l.length then (l.set 0 (List.getD l 1 noBytes)).set 1 (List.getD l 0 noBytes) else l) else l
theorem Lf_uk {a a' : List DUndo} {b b' : List ByteArray} (h1 : a = a') (h2 : b = b') : Lf [.one (.sl .eUndo a), .one (.sl .str b)] [.one (.sl .eUndo a'), .one (.sl .str b')] := by
  subst h1 h2; exact Lf_rfl _
noncomputable def drawnK (code : List Int) : List ByteArray := bendK ((anyU (newCur code)).reverse.map DUndo.Key) (belowV (anyUC (newCur code)) 4)
def newTask (f : DFact) (undo : ByteArray) (now : Int) : DTask := ⟨f, undo, 1, 0, now, zVal⟩
def hasTask (l : List DTask) (f : DFact) : Bool := anyI l.length fun k => decide ((List.getD l k zTask).F = f)
def startL (l : List DTask) (f : DFact) (undo : ByteArray) (now : Int) : List DTask × Bool :=
  if hasTask l f = true then (l, true) else if 30 ≤ l.length then (l, false) else (l ++ [newTask f undo now], true)
def canStart (l : List DTask) (f : DFact) (undo : ByteArray) (now : Int) : Bool := tasksOk l && factOk f && undoOk undo && decide (0 ≤ now ∧ now ≤ 1000000000)
def startTask (l : List DTask) (f : DFact) (undo : ByteArray) (now : Int) : List DTask × Bool := if canStart l f undo now = true then startL l f undo now else (l, false)
theorem startL_ct (l : List DTask) (f : DFact) (undo : ByteArray) (now : Int) : cntTaskS (startL l f undo now).1 ≤ cntTaskS l + 20 * (sizeFact f + undo.size) + 20 := by
  have h := cntTask_le (newTask f undo now)
  simp only [sizeTask, newTask] at h
  have hz : sizeVal zVal = 0 := rfl
  rw [hz] at h
  unfold startL
  split
  · show cntTaskS l ≤ _; omega
  · split
    · show cntTaskS l ≤ _; omega
    · show ctS cntTask (l ++ [newTask f undo now]) ≤ _
      rw [ctS_append]
      have : ctS cntTask [newTask f undo now] = cntTask (newTask f undo now) := by simp [ctS]
      have hc : cntTaskS l = ctS cntTask l := rfl
      rw [this, hc]
      simp only [newTask] at h ⊢
      omega
theorem startTask_ct (l : List DTask) (f : DFact) (undo : ByteArray) (now : Int) : cntTaskS (startTask l f undo now).1 ≤ cntTaskS l + 20 * (sizeFact f + undo.size) + 20 := by
  unfold startTask
  split
  · exact startL_ct l f undo now
  · show cntTaskS l ≤ _; omega
theorem placeOf_ge (l : List DTask) (f : DFact) : decide (0 ≤ placeOf l f) = hasTask l f := idxI_ge
theorem tasksOk_len {l : List DTask} (h : tasksOk l = true) : l.length ≤ 30 := by
  simp only [tasksOk, Bool.and_eq_true, decide_eq_true_eq] at h; exact h.1
def con_impl_StartTask : Con UU where
  α := (List DTask) × DFact × ByteArray × Int
  md := [.ro, .ro, .ro, .ro]
  of := fun | [.one (.sl .eTask a0), .agg [.lit (.string a1), .sl .eVal a2], .one (.lit (.string a3)), .one (.lit (.int .i64 a4))] => some (a0, ⟨a1, a2⟩, a3, a4) | _ => none
  ds := fun (l, f, undo, now) => [.one (.sl .eTask l), .agg [.lit (.string f.Kind), .sl .eVal f.Fields], .one (.lit (.string undo)), .one (.lit (.int .i64 now))]
  pre := fun (l, f, undo, now) => [sizeTaskS l ≤ 4294967296, f.Fields.length ≤ 4294967296]
  res := fun (l, f, undo, now) => ⟨[.one (.sl .eTask ((startTask l f undo now).1)), .one (.lit (.bool ((startTask l f undo now).2)))], true, []⟩
  law := by intro l x h; (try simp only at h); split at h <;> cases h; rfl
def ann_impl_StartTask : con_impl_StartTask.α → Nat → Option (Ann UU) := fun (l, f, undo, now) => annL []
def use_impl_StartTask : List (FuncId × Con UU) := [(21, con_impl_copyTasks), (22, con_impl_TasksOk), (23, con_impl_FactOk), (24, con_impl_isUndo), (25, con_impl_isTime), (26, con_impl_placeOfTask), (27, con_impl_copyFact)]
theorem vc_impl_StartTask (l : (List DTask)) (f : DFact) (undo : ByteArray) (now : Int) : goal EE use_impl_StartTask Go.Proofs.Tryd.f8 con_impl_StartTask ann_impl_StartTask (l, f, undo, now) = (let x0 : List DTask := [{ F := f, Undo := undo, State := (1 : Int), Tries := (0 : Int), Due := now, V := { K := (0 : Int), N := (0 : Int), S := { data := #[] : ByteArray } : DVal } : DTask }];
sizeTaskS l ≤ (4294967296 : Nat) ∧ bif !tasksOk l then Lf [DV.one (Cell.sl Cd.eTask l), DV.one (Cell.lit (Value.bool false))] [DV.one (Cell.sl Cd.eTask (startTask l f undo now).1), DV.one (Cell.lit (Value.bool (startTask l f undo now).2))] else bif !factOk f then Lf [DV.one (Cell.sl Cd.eTask l), DV.one (Cell.lit (Value.bool false))] [DV.one (Cell.sl Cd.eTask (startTask l f undo now).1), DV.one (Cell.lit (Value.bool (startTask l f undo now).2))] else bif !undoOk undo then Lf [DV.one (Cell.sl Cd.eTask l), DV.one (Cell.lit (Value.bool false))] [DV.one (Cell.sl Cd.eTask (startTask l f undo now).1), DV.one (Cell.lit (Value.bool (startTask l f undo now).2))] else bif !decide ((0 : Int) ≤ now ∧ now ≤ (1000000000 : Int)) then Lf [DV.one (Cell.sl Cd.eTask l), DV.one (Cell.lit (Value.bool false))] [DV.one (Cell.sl Cd.eTask (startTask l f undo now).1), DV.one (Cell.lit (Value.bool (startTask l f undo now).2))] else bif decide (placeOf l f ≥ (0 : Int)) then Lf [DV.one (Cell.sl Cd.eTask l), DV.one (Cell.lit (Value.bool true))] [DV.one (Cell.sl Cd.eTask (startTask l f undo now).1), DV.one (Cell.lit (Value.bool (startTask l f undo now).2))] else bif (↑(List.length l) : Int) == (30 : Int) then Lf [DV.one (Cell.sl Cd.eTask l), DV.one (Cell.lit (Value.bool false))] [DV.one (Cell.sl Cd.eTask (startTask l f undo now).1), DV.one (Cell.lit (Value.bool (startTask l f undo now).2))] else List.length f.Fields ≤ (4294967296 : Nat) ∧ List.length l + List.length x0 ≤ (4294967296 : Nat) ∧ Lf [DV.one (Cell.sl Cd.eTask (l ++ x0)), DV.one (Cell.lit (Value.bool true))] [DV.one (Cell.sl Cd.eTask (startTask l f undo now).1), DV.one (Cell.lit (Value.bool (startTask l f undo now).2))]) := by kernel_rfl
theorem ok_impl_StartTask : Holds EE (8, con_impl_StartTask) := by
  refine holds_of EE_ok Go.Proofs.Tryd.func8 con_impl_StartTask (by kernel_rfl) use_impl_StartTask (all_cons ok_impl_copyTasks (all_cons ok_impl_TasksOk (all_cons ok_impl_FactOk (all_cons ok_impl_isUndo (all_cons ok_impl_isTime (all_cons ok_impl_placeOfTask (all_cons ok_impl_copyFact all_nil))))))) ann_impl_StartTask (fun x hp hb => ?_)
  obtain ⟨l, f, undo, now⟩ := x
  have hb_l : BdDV (U := UU) (.one (.sl .eTask l)) := hb _ (List.mem_cons_self)
  have hl_l : l.length ≤ 9223372036854775807 := Bd.len hb_l
  have hb_f : BdDV (U := UU) (.agg [.lit (.string f.Kind), .sl .eVal f.Fields]) := hb _ (List.mem_cons_of_mem _ (List.mem_cons_self))
  have hl_f_Kind : f.Kind.size ≤ 9223372036854775807 := Bd.str (hb_f _ (by simp))
  have hl_f_Fields : f.Fields.length ≤ 9223372036854775807 := Bd.len (U := UU) (τ := .eVal) (xs := f.Fields) (hb_f _ (by simp))
  have hb_undo : BdDV (U := UU) (.one (.lit (.string undo))) := hb _ (List.mem_cons_of_mem _ (List.mem_cons_of_mem _ (List.mem_cons_self)))
  have hl_undo : undo.size ≤ 9223372036854775807 := Bd.str hb_undo
  have hb_now : BdDV (U := UU) (.one (.lit (.int .i64 now))) := hb _ (List.mem_cons_of_mem _ (List.mem_cons_of_mem _ (List.mem_cons_of_mem _ (List.mem_cons_self))))
  have hl_now := Bd.i64 hb_now
  have hp0 : sizeTaskS l ≤ 4294967296 := hp _ (List.mem_cons_self)
  have hp1 : f.Fields.length ≤ 4294967296 := hp _ (List.mem_cons_of_mem _ (List.mem_cons_self))
  clear hp hb
  rw [vc_impl_StartTask l f undo now]
  dsimp only
  refine ⟨hp0, ?_⟩
  have hN : canStart l f undo now = false → Lf [.one (.sl .eTask l), .one (.lit (.bool false))] [.one (.sl .eTask (startTask l f undo now).1), .one (.lit (.bool (startTask l f undo now).2))] := fun h => by
    simp only [startTask, h]; exact Lf_rfl _
  have hpl : decide (placeOf l f ≥ 0) = hasTask l f := placeOf_ge l f
  rw [hpl]
  repeat' (first | refine And.intro (by first | omega | (simp; omega)) ?_ | refine if_cond (fun h => ?_) (fun h => ?_) | fail)
  all_goals first
    | (refine hN ?_; simp only [canStart]; grind)
    | (have hy : canStart l f undo now = true := by simp only [canStart]; grind
       have hlen := tasksOk_len (l := l) (by simp only [canStart] at hy; grind)
       simp only [startTask, hy, if_true, startL]
       first
         | (rw [if_pos (by assumption)]; exact Lf_rfl _)
         | (rw [if_neg (by simp_all), if_pos (by (try simp_all); omega)]; exact Lf_rfl _)
         | (rw [if_neg (by simp_all), if_neg (by simp_all; omega)]; exact ⟨by simp; omega, Lf_rfl _⟩))
theorem tasksOk_iff {l : List DTask} : tasksOk l = true ↔ l.length ≤ 30 ∧ (∀ t ∈ l, taskOk t = true) ∧ (l.map DTask.F).Nodup := by
  have hg : ∀ {i : Nat} (h : i < l.length), List.getD l i zTask = l[i] := fun {i} h => by rw [List.getD_eq_getElem?_getD, List.getElem?_eq_getElem h]; rfl
  simp only [tasksOk, Bool.and_eq_true, decide_eq_true_eq]
  refine and_congr_right fun _ => ?_
  rw [allI_iff]
  constructor
  · intro h
    refine ⟨fun t ht => ?_, ?_⟩
    · obtain ⟨i, hi, rfl⟩ := List.getElem_of_mem ht
      have := h i hi
      simp only [taskAt, Bool.and_eq_true] at this
      rw [← hg hi]; exact this.1
    · rw [List.Nodup, List.pairwise_iff_getElem]
      intro i j hi hj hij
      simp only [List.length_map] at hi hj
      have := h j hj
      simp only [taskAt, Bool.and_eq_true, Bool.not_eq_true'] at this
      have := anyI_not.1 this.2 i hij
      simp only [decide_eq_false_iff_not] at this
      rw [hg hi, hg hj] at this
      simpa using this
  · rintro ⟨h1, h2⟩ j hj
    simp only [taskAt, Bool.and_eq_true, Bool.not_eq_true']
    refine ⟨by rw [hg hj]; exact h1 _ (List.getElem_mem hj), anyI_not.2 fun i hij => ?_⟩
    have hi : i < l.length := by omega
    rw [List.Nodup, List.pairwise_iff_getElem] at h2
    have := h2 i j (by simpa using hi) (by simpa using hj) hij
    simp only [decide_eq_false_iff_not]
    rw [hg hi, hg hj]
    simpa using this
theorem tasksOk_map {l : List DTask} {f : DTask → DTask} (hF : ∀ t, (f t).F = t.F) (hf : ∀ t, taskOk t = true → taskOk (f t) = true) (h : tasksOk l = true) : tasksOk (l.map f) = true := by
  rw [tasksOk_iff] at h ⊢
  refine ⟨by simpa using h.1, fun t ht => ?_, ?_⟩
  · obtain ⟨t0, h0, rfl⟩ := List.mem_map.1 ht
    exact hf _ (h.2.1 _ h0)
  · rw [List.map_map]
    have : DTask.F ∘ f = DTask.F := funext hF
    rw [this]; exact h.2.2
theorem map_modify_same {α β : Type} (g : α → β) (f : α → α) (hg : ∀ x, g (f x) = g x) : ∀ (l : List α) (k : Nat), (l.modify k f).map g = l.map g
  | [], k => by simp
  | x :: l, 0 => by simp [hg]
  | x :: l, k + 1 => by simp [map_modify_same g f hg l k]
theorem tasksOk_modify {l : List DTask} {f : DTask → DTask} {k : Nat} (hF : ∀ t, (f t).F = t.F) (hk : k < l.length) (hf : taskOk (f (List.getD l k zTask)) = true) (h : tasksOk l = true) : tasksOk (l.modify k f) = true := by
  rw [tasksOk_iff] at h ⊢
  refine ⟨by simpa using h.1, fun t ht => ?_, by rw [map_modify_same _ _ hF]; exact h.2.2⟩
  obtain ⟨i, hi, rfl⟩ := List.getElem_of_mem ht
  have hi' : i < l.length := by simpa using hi
  rw [List.getElem_modify]
  split
  · rename_i hki
    subst hki
    rw [List.getD_eq_getElem?_getD, List.getElem?_eq_getElem hk] at hf
    exact hf
  · exact h.2.1 _ (List.getElem_mem hi')
theorem taskOk_iff {t : DTask} : taskOk t = true ↔ factOk t.F = true ∧ undoOk t.Undo = true ∧ (1 ≤ t.State ∧ t.State ≤ 4) ∧ (0 ≤ t.Tries ∧ t.Tries ≤ 4) ∧ (0 ≤ t.Due ∧ t.Due ≤ 1000001000) ∧ (t.V = zVal ∨ valOk t.V = true) ∧ ((t.State = 1 → t.Tries = 0) ∧ (t.State = 2 → t.Tries ≠ 0)) := by
  simp only [taskOk, Bool.and_eq_true, Bool.or_eq_true, decide_eq_true_eq]
  constructor
  · rintro ⟨⟨⟨⟨⟨⟨h1, h2⟩, h3⟩, h4⟩, h5⟩, h6⟩, h7⟩; exact ⟨h1, h2, h3, h4, h5, h6, h7⟩
  · rintro ⟨h1, h2, h3, h4, h5, h6, h7⟩; exact ⟨⟨⟨⟨⟨⟨h1, h2⟩, h3⟩, h4⟩, h5⟩, h6⟩, h7⟩
theorem send1_F (now : Int) (t : DTask) : (send1 now t).F = t.F := by unfold send1; split; split <;> rfl; rfl
theorem send1_ok {now : Int} (h0 : 0 ≤ now) (h1 : now ≤ 1000000000) (t : DTask) (h : taskOk t = true) : taskOk (send1 now t) = true := by
  obtain ⟨a1, a2, a3, a4, a5, a6, a7⟩ := taskOk_iff.1 h
  unfold send1; split
  · split
    · exact taskOk_iff.2 ⟨a1, a2, by simp, a4, a5, a6, by simp⟩
    · have hb := backoff_le (t.Tries + 1)
      exact taskOk_iff.2 ⟨a1, a2, by simp, by simp only; omega, by simp only; omega, a6, by simp only; omega⟩
  · exact h
theorem tasksOk_send {l : List DTask} {now : Int} (h0 : 0 ≤ now) (h1 : now ≤ 1000000000) (h : tasksOk l = true) : tasksOk (l.map (send1 now)) = true := tasksOk_map (send1_F now) (send1_ok h0 h1) h
theorem giveUp1_F (t : DTask) : (giveUp1 t).F = t.F := by unfold giveUp1; split <;> rfl
theorem tasksOk_giveUp {l : List DTask} (h : tasksOk l = true) : tasksOk (giveUp l) = true := by
  refine tasksOk_map giveUp1_F (fun t h => ?_) h
  obtain ⟨a1, a2, a3, a4, a5, a6, a7⟩ := taskOk_iff.1 h
  unfold giveUp1; split
  · exact taskOk_iff.2 ⟨a1, a2, by simp, a4, a5, a6, by simp⟩
  · exact h
theorem tasksOk_reply {l : List DTask} {key : ByteArray} {ok : Bool} {v : DVal} (h : tasksOk l = true) : tasksOk (replyTask l key ok v).1 = true := by
  unfold replyTask; split
  · rename_i hc
    split
    · have hk := taskAtKey_lt (l := l) (key := key) hc.2.2.1
      refine tasksOk_modify (fun _ => rfl) hk ?_ h
      obtain ⟨a1, a2, a3, a4, a5, a6, a7⟩ := taskOk_iff.1 (tasksOk_at h hk)
      refine taskOk_iff.2 ⟨a1, a2, ?_, a4, a5, .inr hc.2.1, ?_⟩
      · simp only [replied]; split <;> omega
      · simp only [replied]; split <;> simp
    · exact h
  · exact h
theorem hasTask_mem {l : List DTask} {f : DFact} : hasTask l f = true ↔ f ∈ l.map DTask.F := by
  simp only [hasTask, anyI_iff, decide_eq_true_eq, List.mem_map]
  constructor
  · rintro ⟨j, hj, rfl⟩
    rw [List.getD_eq_getElem?_getD, List.getElem?_eq_getElem hj]
    exact ⟨l[j], List.getElem_mem hj, rfl⟩
  · rintro ⟨t, ht, rfl⟩
    obtain ⟨i, hi, rfl⟩ := List.getElem_of_mem ht
    exact ⟨i, hi, by rw [List.getD_eq_getElem?_getD, List.getElem?_eq_getElem hi]; rfl⟩
theorem tasksOk_start {l : List DTask} {f : DFact} {u : ByteArray} {now : Int} (h : tasksOk l = true) (hf : factOk f = true) (hu : undoOk u = true) (h0 : 0 ≤ now) (h1 : now ≤ 1000001000) : tasksOk (startL l f u now).1 = true := by
  unfold startL; split
  · exact h
  · rename_i hn
    split
    · exact h
    · rename_i hl
      rw [tasksOk_iff] at h ⊢
      refine ⟨by simp only [List.length_append, List.length_cons, List.length_nil]; omega, fun t ht => ?_, ?_⟩
      · rcases List.mem_append.1 ht with ht | ht
        · exact h.2.1 t ht
        · rw [List.mem_singleton.1 ht]
          exact taskOk_iff.2 ⟨hf, hu, by simp [newTask], by simp [newTask], by simp only [newTask]; omega, .inl rfl, by simp [newTask]⟩
      · rw [List.map_append, List.nodup_append]
        refine ⟨h.2.2, by simp, ?_⟩
        intro x hx y hy e
        rw [hasTask_mem] at hn
        simp only [List.map_cons, List.map_nil, List.mem_singleton] at hy
        rw [hy] at e; rw [e] at hx; exact hn hx
theorem startL_len (l : List DTask) (f : DFact) (u : ByteArray) (now : Int) : (startL l f u now).1.length ≤ l.length + 1 := by
  unfold startL; split
  · simp
  · split <;> simp
theorem reply_len (l : List DTask) (key : ByteArray) (ok : Bool) (v : DVal) : (replyTask l key ok v).1.length = l.length := by
  unfold replyTask; split
  · split <;> simp
  · rfl
def tFit (t : DTask) : Prop := sizeFact t.F ≤ 145 ∧ t.Undo.size ≤ 21 ∧ vFit t.V = true
theorem tFit_of {t : DTask} (h : taskOk t = true) : tFit t := by
  obtain ⟨a1, a2, a3, a4, a5, a6, a7⟩ := taskOk_iff.1 h
  refine ⟨fit_size (ok_fit a1), ?_, ?_⟩
  · simp only [undoOk, Bool.or_eq_true, decide_eq_true_eq] at a2
    rcases a2 with a2 | a2
    · rw [a2]; simp [noBytes]
    · have := nameOk_size a2; omega
  · rcases a6 with a6 | a6
    · rw [a6]; rfl
    · exact valOk_fit a6
theorem tFit_size {t : DTask} (h : tFit t) : sizeTask t ≤ 187 := by
  obtain ⟨h1, h2, h3⟩ := h
  simp only [vFit, decide_eq_true_eq] at h3
  simp only [sizeTask, sizeVal]; omega
theorem taskS_size {l : List DTask} (h : ∀ t ∈ l, tFit t) : sizeTaskS l ≤ l.length * 188 := by
  have := sumB sizeTask 187 l (fun t ht => tFit_size (h t ht))
  simp only [sizeTaskS]; omega
def sLu : List ByteArray := [⟨#[]⟩, ⟨#[114, 101, 102, 117, 110, 100]⟩]
def dT1 (l : List DTask) (now : Int) (d : DCur) : List DTask := (startL l (factV d) (strV (factC d) sLu) now).1
def dT3 (l : List DTask) (d : DCur) : List DTask :=
  let e := belowC d l.length
  (replyTask l (factText (List.getD l (belowV d l.length).toNat zTask).F) (!onceV e 3) (smallV (belowC e 3))).1
def dT (l : List DTask) (now : Int) (c : DCur) : List DTask :=
  let k := belowV c 4; let d := belowC c 4
  if k = 0 ∨ k = 1 then dT1 l now d else if k = 2 then l.map (send1 (now + belowV d 40)) else if 0 < l.length then dT3 l d else l
def dN (now : Int) (c : DCur) : Int := if belowV c 4 = 2 then now + belowV (belowC c 4) 40 else now
def dC (n : Nat) (c : DCur) : DCur :=
  let k := belowV c 4; let d := belowC c 4
  if k = 0 ∨ k = 1 then strC (factC d) sLu else if k = 2 then belowC d 40 else if 0 < n then smallC (belowC (belowC d n) 3) else d
def drawT : Nat → List DTask → Int → DCur → List DTask × DCur
  | 0, l, _, c => (l, c)
  | k + 1, l, now, c => drawT k (dT l now c) (dN now c) (dC l.length c)
theorem cOk_dC {n : Nat} {c : DCur} (h : cOk c) : cOk (dC n c) := by
  have h4 := cOk_below h 4
  simp only [dC]; split
  · exact cOk_str (cOk_fact h4) _
  · split
    · exact cOk_below h4 _
    · split
      · exact cOk_small (cOk_below (cOk_below h4 _) _)
      · exact h4
theorem undo_str (c : DCur) : undoOk (strV c sLu) = true := strV_all c undoOk (by decide) (by rfl)
theorem dN_le (now : Int) (c : DCur) : now ≤ dN now c ∧ dN now c ≤ now + 39 := by
  have := belowV_lt (c := belowC c 4) (n := 40) (by omega)
  unfold dN; split <;> omega
theorem dT_ok {l : List DTask} {now : Int} {c : DCur} (h : tasksOk l = true) (h0 : 0 ≤ now) (h1 : now ≤ 1000) : tasksOk (dT l now c) = true ∧ (dT l now c).length ≤ l.length + 1 := by
  have hb := belowV_lt (c := belowC c 4) (n := 40) (by omega)
  simp only [dT]; split
  · exact ⟨tasksOk_start h (factV_ok _) (undo_str _) h0 (by omega), startL_len _ _ _ _⟩
  · split
    · exact ⟨tasksOk_send (by omega) (by omega) h, by simp⟩
    · split
      · exact ⟨tasksOk_reply h, by simp only [dT3]; rw [reply_len]; omega⟩
      · exact ⟨h, by omega⟩
theorem drawT_ok : ∀ (k : Nat) {l : List DTask} {now : Int} {c : DCur}, cOk c → tasksOk l = true → 0 ≤ now → now + 39 * k ≤ 1000 → cOk (drawT k l now c).2 ∧ tasksOk (drawT k l now c).1 = true ∧ (drawT k l now c).1.length ≤ l.length + k
  | 0, _, _, _, h, h2, _, _ => ⟨h, h2, by simp [drawT]⟩
  | k + 1, l, now, c, h, h2, h3, h4 => by
    have hn := dN_le now c
    obtain ⟨t1, t2⟩ := dT_ok (c := c) h2 h3 (by omega)
    obtain ⟨h3, h4, h5⟩ := drawT_ok k (l := dT l now c) (now := dN now c) (c := dC l.length c) (cOk_dC h) t1 (by omega) (by omega)
    exact ⟨h3, h4, by simp only [drawT]; omega⟩
def tasksV (c : DCur) : List DTask := (drawT (belowV c 8).toNat [] 0 (belowC c 8)).1
def tasksC (c : DCur) : DCur := (drawT (belowV c 8).toNat [] 0 (belowC c 8)).2
theorem tasks_ok {c : DCur} (h : cOk c) : cOk (tasksC c) ∧ tasksOk (tasksV c) = true ∧ (tasksV c).length ≤ 7 := by
  have hb := belowV_lt (c := c) (n := 8) (by omega)
  obtain ⟨h1, h2, h3⟩ := drawT_ok (belowV c 8).toNat (l := []) (now := 0) (cOk_below h 8) rfl (by omega) (by omega)
  exact ⟨h1, h2, by simp only [List.length_nil] at h3; simp only [tasksV]; omega⟩
theorem if_eq {a b : Int} {P Q : Prop} (h1 : a = b → P) (h2 : ¬ a = b → Q) : bif a == b then P else Q := if_cond (fun h => h1 (eq_of_beq h)) (fun h => h2 (fun e => by rw [e] at h; simp at h))
theorem dT_1 {l : List DTask} {now : Int} {c : DCur} (h : belowV c 4 = 0 ∨ belowV c 4 = 1) : dT l now c = dT1 l now (belowC c 4) ∧ dN now c = now ∧ dC l.length c = strC (factC (belowC c 4)) sLu :=
  ⟨by simp only [dT]; rw [if_pos h], by rw [dN, if_neg (by omega)], by simp only [dC]; rw [if_pos h]⟩
theorem dT_2 {l : List DTask} {now : Int} {c : DCur} (h : belowV c 4 = 2) : dT l now c = l.map (send1 (now + belowV (belowC c 4) 40)) ∧ dN now c = now + belowV (belowC c 4) 40 ∧ dC l.length c = belowC (belowC c 4) 40 :=
  ⟨by simp only [dT]; rw [if_neg (by omega), if_pos h], by rw [dN, if_pos h], by simp only [dC]; rw [if_neg (by omega), if_pos h]⟩
theorem dT_3 {l : List DTask} {now : Int} {c : DCur} (h0 : ¬ belowV c 4 = 0) (h1 : ¬ belowV c 4 = 1) (h2 : ¬ belowV c 4 = 2) (hl : 0 < l.length) : dT l now c = dT3 l (belowC c 4) ∧ dN now c = now ∧ dC l.length c = smallC (belowC (belowC (belowC c 4) l.length) 3) :=
  ⟨by simp only [dT]; rw [if_neg (by omega), if_neg h2, if_pos hl], by rw [dN, if_neg h2], by simp only [dC]; rw [if_neg (by omega), if_neg h2, if_pos hl]⟩
theorem dT_4 {l : List DTask} {now : Int} {c : DCur} (h0 : ¬ belowV c 4 = 0) (h1 : ¬ belowV c 4 = 1) (h2 : ¬ belowV c 4 = 2) (hl : ¬ 0 < l.length) : dT l now c = l ∧ dN now c = now ∧ dC l.length c = belowC c 4 :=
  ⟨by simp only [dT]; rw [if_neg (by omega), if_neg h2, if_neg hl], by rw [dN, if_neg h2], by simp only [dC]; rw [if_neg (by omega), if_neg h2, if_neg hl]⟩
def sLanyu : List ByteArray := [⟨#[]⟩, ⟨#[65]⟩, ⟨#[117, 110, 100, 111]⟩]
def iLtries : List Int := [-1, 0, 4, 5]
def iLdue : List Int := [-1, 1000001000, 1000001001]
def asF (f : DFact) (x : DTask) : DTask := ⟨f, x.Undo, x.State, x.Tries, x.Due, x.V⟩
def asUndo (u : ByteArray) (x : DTask) : DTask := ⟨x.F, u, x.State, x.Tries, x.Due, x.V⟩
def asState (n : Int) (x : DTask) : DTask := ⟨x.F, x.Undo, n, x.Tries, x.Due, x.V⟩
def asTries (n : Int) (x : DTask) : DTask := ⟨x.F, x.Undo, x.State, n, x.Due, x.V⟩
def asDue (n : Int) (x : DTask) : DTask := ⟨x.F, x.Undo, x.State, x.Tries, n, x.V⟩
def asV (v : DVal) (x : DTask) : DTask := ⟨x.F, x.Undo, x.State, x.Tries, x.Due, v⟩
noncomputable def bendT (s : Int) (e : DCur) (x : DTask) : DTask :=
  if s = 0 then asF (anyF e) x else if s = 1 then asUndo (strV e sLanyu) x else if s = 2 then asState (belowV e 6) x else if s = 3 then asTries (intV e iLtries) x else if s = 4 then asDue (intV e iLdue) x else if s = 5 then asV (anyvV e) x else x
noncomputable def bendC (s : Int) (e : DCur) : DCur :=
  if s = 0 then anyFC e else if s = 1 then strC e sLanyu else if s = 2 then belowC e 6 else if s = 3 then intC e iLtries else if s = 4 then intC e iLdue else if s = 5 then anyvC e else e
noncomputable def anyT (c : DCur) : List DTask := if tasksV c = [] then tasksV c else
  (tasksV c).modify (belowV (tasksC c) (tasksV c).length).toNat (bendT (belowV (belowC (tasksC c) (tasksV c).length) 14) (belowC (belowC (tasksC c) (tasksV c).length) 14))
noncomputable def anyTC (c : DCur) : DCur := if tasksV c = [] then tasksC c else
  bendC (belowV (belowC (tasksC c) (tasksV c).length) 14) (belowC (belowC (tasksC c) (tasksV c).length) 14)
theorem cOk_bend {s : Int} {e : DCur} (h : cOk e) : cOk (bendC s e) := by
  unfold bendC
  repeat' split
  · exact cOk_anyF h
  · exact cOk_str h _
  · exact cOk_below h _
  · exact cOk_int h _
  · exact cOk_int h _
  · exact cOk_anyv h
  · exact h
theorem bend_fit {s : Int} {e : DCur} {x : DTask} (h : tFit x) : tFit (bendT s e x) := by
  obtain ⟨h1, h2, h3⟩ := h
  unfold bendT
  repeat' split
  · exact ⟨fit_size (anyF_fit e), h2, h3⟩
  · refine ⟨h1, ?_, h3⟩
    have := strV_all e (l := sLanyu) (fun s => decide (s.size ≤ 21)) (by decide) (by rfl)
    exact of_decide_eq_true this
  · exact ⟨h1, h2, h3⟩
  · exact ⟨h1, h2, h3⟩
  · exact ⟨h1, h2, h3⟩
  · exact ⟨h1, h2, anyvV_fit e⟩
  · exact ⟨h1, h2, h3⟩
theorem anyT_ok {c : DCur} (h : cOk c) : cOk (anyTC c) ∧ (∀ t ∈ anyT c, tFit t) ∧ (anyT c).length ≤ 7 := by
  obtain ⟨h1, h2, h3⟩ := tasks_ok h
  have h4 : ∀ t ∈ tasksV c, tFit t := fun t ht => tFit_of ((tasksOk_iff.1 h2).2.1 t ht)
  refine ⟨?_, ?_, ?_⟩
  · unfold anyTC; split
    · exact h1
    · exact cOk_bend (cOk_below (cOk_below h1 _) _)
  · unfold anyT; split
    · exact h4
    · exact modify_all (p := tFit) _ (fun x hx => bend_fit hx) _ _ h4
  · unfold anyT; split
    · exact h3
    · rw [List.length_modify]; exact h3
def sLpu : List ByteArray := [⟨#[114, 101, 102, 117, 110, 100]⟩, ⟨#[99, 97, 110, 99, 101, 108]⟩, ⟨#[]⟩, ⟨#[65]⟩]
noncomputable def drawnT (code : List Int) : DTask := ⟨anyF (anyUC (newCur code)), strV (anyFC (anyUC (newCur code))) sLpu, 0, 0, 0, zVal⟩
def atV (code : List Int) (i : Int) : Int := if i < code.length then List.getD code i.toNat 0 else Int.tmod (i * 31 + code.length * 7) 256
theorem Bd.u8 {n : Int} (h : Bd (U := UU) (.lit (.int .u8 n))) : 0 ≤ n ∧ n ≤ 255 := by
  cases h with
  | lit _ h => exact h.2
theorem Lf_fff {a b c : DFact} : Lf [.agg [.lit (.string a.Kind), .sl .eVal a.Fields], .agg [.lit (.string b.Kind), .sl .eVal b.Fields], .agg [.lit (.string c.Kind), .sl .eVal c.Fields]] [.agg [.lit (.string a.Kind), .sl .eVal a.Fields], .agg [.lit (.string b.Kind), .sl .eVal b.Fields], .agg [.lit (.string c.Kind), .sl .eVal c.Fields]] := Lf_rfl _
def con_spec_DrawThree : Con UU where
  α := (List Int)
  md := [.ro]
  of := fun | [.one (.sl .byte a0)] => some a0 | _ => none
  ds := fun code => [.one (.sl .byte code)]
  pre := fun code => [code.length ≤ 4294967296]
  res := fun code => ⟨[.agg [.lit (.string ((factV (newCur code))).Kind), .sl .eVal ((factV (newCur code))).Fields], .agg [.lit (.string ((factV (factC (newCur code)))).Kind), .sl .eVal ((factV (factC (newCur code)))).Fields], .agg [.lit (.string ((factV (factC (factC (newCur code))))).Kind), .sl .eVal ((factV (factC (factC (newCur code))))).Fields]], true, []⟩
  law := by intro l x h; (try simp only at h); split at h <;> cases h; rfl
def ann_spec_DrawThree : con_spec_DrawThree.α → Nat → Option (Ann UU) := fun code => annL []
def use_spec_DrawThree : List (FuncId × Con UU) := [(19, con_spec_l1New), (20, con_spec_l3Draw)]
theorem vc_spec_DrawThree (code : (List Int)) : goal EE use_spec_DrawThree Go.Proofs.Tryd.f6 con_spec_DrawThree ann_spec_DrawThree code = (List.length code ≤ (4294967296 : Nat) ∧ cOk (newCur code) ∧ cOk (factC (newCur code)) ∧ cOk (factC (factC (newCur code))) ∧ Lf [DV.agg [Cell.lit (Value.string (factV (newCur code)).Kind), Cell.sl Cd.eVal (factV (newCur code)).Fields], DV.agg [Cell.lit (Value.string (factV (factC (newCur code))).Kind), Cell.sl Cd.eVal (factV (factC (newCur code))).Fields], DV.agg [Cell.lit (Value.string (factV (factC (factC (newCur code)))).Kind), Cell.sl Cd.eVal (factV (factC (factC (newCur code)))).Fields]] [DV.agg [Cell.lit (Value.string (factV (newCur code)).Kind), Cell.sl Cd.eVal (factV (newCur code)).Fields], DV.agg [Cell.lit (Value.string (factV (factC (newCur code))).Kind), Cell.sl Cd.eVal (factV (factC (newCur code))).Fields], DV.agg [Cell.lit (Value.string (factV (factC (factC (newCur code)))).Kind), Cell.sl Cd.eVal (factV (factC (factC (newCur code)))).Fields]]) := by kernel_rfl
theorem ok_spec_DrawThree : Holds EE (6, con_spec_DrawThree) := by
  refine holds_of EE_ok Go.Proofs.Tryd.func6 con_spec_DrawThree (by kernel_rfl) use_spec_DrawThree (all_cons ok_spec_l1New (all_cons ok_spec_l3Draw all_nil)) ann_spec_DrawThree (fun (code : (List Int)) hp hb => ?_)
  have hb_code : BdDV (U := UU) (.one (.sl .byte code)) := hb _ (List.mem_cons_self)
  have hl_code : code.length ≤ 9223372036854775807 := Bd.len hb_code
  have hp0 : code.length ≤ 4294967296 := hp _ (List.mem_cons_self)
  clear hp hb
  rw [vc_spec_DrawThree code]
  have h1 := cOk_new hp0
  exact ⟨hp0, h1, cOk_fact h1, cOk_fact (cOk_fact h1), Lf_rfl _⟩
def con_laws_at : Con UU where
  α := (List Int) × Int
  md := [.ro, .ro]
  of := fun | [.one (.sl .byte a0), .one (.lit (.int .i64 a1))] => some (a0, a1) | _ => none
  ds := fun (code, i) => [.one (.sl .byte code), .one (.lit (.int .i64 i))]
  pre := fun (code, i) => [0 ≤ i ∧ i ≤ 1000, code.length ≤ 4294967296]
  res := fun (code, i) => ⟨[.one (.lit (.int .i64 (atV code i)))], true, []⟩
  law := by intro l x h; (try simp only at h); split at h <;> cases h; rfl
def ann_laws_at : con_laws_at.α → Nat → Option (Ann UU) := fun (code, i) => annL []
def use_laws_at : List (FuncId × Con UU) := []
theorem vc_laws_at (code : (List Int)) (i : Int) : goal EE use_laws_at Go.Proofs.Tryd.f7 con_laws_at ann_laws_at (code, i) = (bif decide (i < (↑(List.length code) : Int)) then (0 : Int) ≤ i ∧ Int.toNat i < List.length code ∧ Lf [DV.one (Cell.lit (Value.int IntKind.i64 (IntKind.wrap IntKind.i64 (List.getD code (Int.toNat i) (0 : Int)))))] [DV.one (Cell.lit (Value.int IntKind.i64 (atV code i)))] else (256 : Int) ≠ (0 : Int) ∧ Lf [DV.one (Cell.lit (Value.int IntKind.i64 (Int.tmod (IntKind.wrap IntKind.i64 (IntKind.wrap IntKind.i64 (i * (31 : Int)) + IntKind.wrap IntKind.i64 ((↑(List.length code) : Int) * (7 : Int)))) (256 : Int))))] [DV.one (Cell.lit (Value.int IntKind.i64 (atV code i)))]) := by kernel_rfl
theorem ok_laws_at : Holds EE (7, con_laws_at) := by
  refine holds_of EE_ok Go.Proofs.Tryd.func7 con_laws_at (by kernel_rfl) use_laws_at all_nil ann_laws_at (fun x hp hb => ?_)
  obtain ⟨code, i⟩ := x
  have hb_code : BdDV (U := UU) (.one (.sl .byte code)) := hb _ (List.mem_cons_self)
  have hl_code : code.length ≤ 9223372036854775807 := Bd.len hb_code
  have hb_i : BdDV (U := UU) (.one (.lit (.int .i64 i))) := hb _ (List.mem_cons_of_mem _ (List.mem_cons_self))
  have hl_i := Bd.i64 hb_i
  have hp0 : 0 ≤ i ∧ i ≤ 1000 := hp _ (List.mem_cons_self)
  have hp1 : code.length ≤ 4294967296 := hp _ (List.mem_cons_of_mem _ (List.mem_cons_self))
  clear hp hb
  rw [vc_laws_at code i]
  refine if_cond (fun h => ?_) (fun h => ?_)
  · have h := of_decide_eq_true h
    have hx : 0 ≤ List.getD code i.toNat (0 : Int) ∧ List.getD code i.toNat (0 : Int) ≤ 255 := Bd.u8 (Bd.row (U := UU) (τ := Cd.byte) hb_code (getD_mem code (0 : Int) hp0.1 h) (c := .lit (.int .u8 (List.getD code i.toNat (0 : Int)))) List.mem_cons_self)
    rw [wrap_i64 (by omega) (by omega)]
    refine ⟨hp0.1, by omega, Lf_i ?_⟩
    rw [atV, if_pos h]
  · have h := of_decide_eq_false h
    refine ⟨by decide, Lf_i ?_⟩
    rw [atV, if_neg h, wrap_i64 (n := i * 31) (by omega) (by omega), wrap_i64 (n := (code.length : Int) * 7) (by omega) (by omega), wrap_i64 (n := i * 31 + (code.length : Int) * 7) (by omega) (by omega)]
def sentL (f : DFact) (st tr du : Int) : List DTask := [⟨f, noBytes, st, tr, du, zVal⟩]
def sched (now i st tr du : Int) : Prop := (i = 0 ∧ st = 1 ∧ tr = 0 ∧ du = now) ∨ (1 ≤ i ∧ i ≤ 4 ∧ st = 2 ∧ tr = 1 ∧ du = now + 4) ∨ (5 ≤ i ∧ i ≤ 12 ∧ st = 2 ∧ tr = 2 ∧ du = now + 12) ∨ (13 ≤ i ∧ i ≤ 28 ∧ st = 2 ∧ tr = 3 ∧ du = now + 28) ∨ (29 ≤ i ∧ i ≤ 60 ∧ st = 2 ∧ tr = 4 ∧ du = now + 60)
theorem atV_le {code : List Int} (hc : code.length ≤ 4294967296) (h : ∀ x ∈ code, 0 ≤ x ∧ x ≤ 255) (i : Int) (h0 : 0 ≤ i) : 0 ≤ atV code i ∧ atV code i ≤ 255 := by
  unfold atV; split
  · rename_i hi
    exact h _ (getD_mem code 0 h0 hi)
  · rw [Int.tmod_eq_emod_of_nonneg (by omega)]; omega
theorem due_sent (f : DFact) (st tr du m : Int) (hs : st = 1 ∨ st = 2) : due m ⟨f, noBytes, st, tr, du, zVal⟩ = decide (du ≤ m) := by
  simp only [due, isOpen]
  rw [decide_eq_true hs, Bool.true_and]
theorem sent_wait {f : DFact} {st tr du m : Int} (hs : st = 1 ∨ st = 2) (h : ¬ du ≤ m) : (sentL f st tr du).map (send1 m) = sentL f st tr du ∧ (sentL f st tr du).flatMap (call1 m) = [] ∧ (sentL f st tr du).flatMap (fail1 m) = [] := by
  have hd := due_sent f st tr du m hs
  rw [decide_eq_false h] at hd
  simp [sentL, send1, call1, fail1, hd]
theorem sent_go {f : DFact} {st tr du m : Int} (hs : st = 1 ∨ st = 2) (h : du ≤ m) (ht : tr ≠ 4) : (sentL f st tr du).map (send1 m) = sentL f 2 (tr + 1) (m + backoff 2 (tr + 1) 60) ∧ ((sentL f st tr du).flatMap (call1 m)).length = 1 ∧ (sentL f st tr du).flatMap (fail1 m) = [] := by
  have hd := due_sent f st tr du m hs
  rw [decide_eq_true h] at hd
  simp [sentL, send1, call1, fail1, hd, ht]
theorem sent_fail {f : DFact} {st du m : Int} (hs : st = 1 ∨ st = 2) (h : du ≤ m) : (sentL f st 4 du).map (send1 m) = sentL f 4 4 du ∧ (sentL f st 4 du).flatMap (call1 m) = [] ∧ ((sentL f st 4 du).flatMap (fail1 m)).length = 1 := by
  have hd := due_sent f st 4 du m hs
  rw [decide_eq_true h] at hd
  simp [sentL, send1, call1, fail1, hd]
theorem backs : backoff 2 1 60 = 4 ∧ backoff 2 2 60 = 8 ∧ backoff 2 3 60 = 16 ∧ backoff 2 4 60 = 32 := by decide
def con_laws_FnSentUp : Con UU where
  α := (List Int)
  md := [.ro]
  of := fun | [.one (.sl .byte a0)] => some a0 | _ => none
  ds := fun code => [.one (.sl .byte code)]
  pre := fun code => []
  res := fun code => ⟨[.one (.lit (.bool true))], true, []⟩
  law := by intro l x h; (try simp only at h); split at h <;> cases h; rfl
def I_laws_FnSentUp_8 (code : (List Int)) : List DTask × Int × Int × Unit → Prop := fun (l, n, i, _) => 0 ≤ i ∧ ∃ st du, l = sentL (factV (newCur code)) st n du ∧ sched (atV code 2) i st n du
def μ_laws_FnSentUp_8 (code : (List Int)) : List DTask × Int × Int × Unit → Nat := fun (l, n, i, _) => 200 - i.toNat
def ann_laws_FnSentUp : con_laws_FnSentUp.α → Nat → Option (Ann UU) := fun code => annL [(8, annOf [.slot 7 (7, 1024) (.own .eTask true), .slot 9 (9, 1024) (.lit (.int .i64)), .slot 10 (10, 1024) (.lit (.int .i64))] (fun _ => I_laws_FnSentUp_8 code) (μ_laws_FnSentUp_8 code))]
def use_laws_FnSentUp : List (FuncId × Con UU) := [(5, con_laws_big), (6, con_spec_DrawThree), (7, con_laws_at), (8, con_impl_StartTask), (9, con_impl_SendDue)]
theorem vc_laws_FnSentUp (code : (List Int)) : goal EE use_laws_FnSentUp Go.Proofs.Tryd.f3 con_laws_FnSentUp ann_laws_FnSentUp code = (bif decide (List.length code > (1048576 : Nat)) then Lf [DV.one (Cell.lit (Value.bool true))] [DV.one (Cell.lit (Value.bool true))]
else
  List.length code ≤ (4294967296 : Nat) ∧
    ((0 : Int) ≤ (2 : Int) ∧ (2 : Int) ≤ (1000 : Int)) ∧
      List.length code ≤ (4294967296 : Nat) ∧
        sizeTaskS [] ≤ (4294967296 : Nat) ∧
          List.length (factV (newCur code)).Fields ≤ (4294967296 : Nat) ∧
            I_laws_FnSentUp_8 code ((startTask { τ := Cd.eTask, xs := [] : Arr UU }.xs { Kind := (factV (newCur code)).Kind, Fields := { τ := Cd.eVal, xs := (factV (newCur code)).Fields : Arr UU }.xs : DFact } { data := #[] : ByteArray } (atV code (2 : Int))).1, (0 : Int), (0 : Int), PUnit.unit) ∧
              ∀ (y : List DTask × Int × Int × PUnit),
                let x0 : List DTask := if tasksOk y.1 = true ∧ (0 : Int) ≤ IntKind.wrap IntKind.i64 (atV code (2 : Int) + y.2.2.1) ∧ IntKind.wrap IntKind.i64 (atV code (2 : Int) + y.2.2.1) ≤ (1000000000 : Int) then List.map (send1 (IntKind.wrap IntKind.i64 (atV code (2 : Int) + y.2.2.1))) y.1 else y.1;
                let x1 : Int := IntKind.wrap IntKind.i64 (y.2.1 + (↑(List.length (if tasksOk y.1 = true ∧ (0 : Int) ≤ IntKind.wrap IntKind.i64 (atV code (2 : Int) + y.2.2.1) ∧ IntKind.wrap IntKind.i64 (atV code (2 : Int) + y.2.2.1) ≤ (1000000000 : Int) then List.flatMap (call1 (IntKind.wrap IntKind.i64 (atV code (2 : Int) + y.2.2.1))) y.1 else [])) : Int));
                let x2 : Int := IntKind.wrap IntKind.i64 (atV code (2 : Int) + y.2.2.1);
                I_laws_FnSentUp_8 code y → bif decide (y.2.2.1 < (200 : Int)) then sizeTaskS y.1 ≤ (4294967296 : Nat) ∧ bif (↑(List.length (if tasksOk y.1 = true ∧ (0 : Int) ≤ x2 ∧ x2 ≤ (1000000000 : Int) then List.flatMap (fail1 x2) y.1 else [])) : Int) == (1 : Int) then bif (startTask { τ := Cd.eTask, xs := [] : Arr UU }.xs { Kind := (factV (newCur code)).Kind, Fields := { τ := Cd.eVal, xs := (factV (newCur code)).Fields : Arr UU }.xs : DFact } { data := #[] : ByteArray } (atV code (2 : Int))).2 then bif x1 == (4 : Int) then (0 : Int) ≤ (0 : Int) ∧ Int.toNat (0 : Int) < List.length x0 ∧ nat_lit 0 < List.length x0 ∧ bif (List.getD x0 (nat_lit 0) zTask).State == (4 : Int) then Lf [DV.one (Cell.lit (Value.bool (y.2.2.1 == (60 : Int))))] [DV.one (Cell.lit (Value.bool true))] else Lf [DV.one (Cell.lit (Value.bool false))] [DV.one (Cell.lit (Value.bool true))] else Lf [DV.one (Cell.lit (Value.bool false))] [DV.one (Cell.lit (Value.bool true))] else Lf [DV.one (Cell.lit (Value.bool false))] [DV.one (Cell.lit (Value.bool true))] else I_laws_FnSentUp_8 code (x0, x1, IntKind.wrap IntKind.i64 (y.2.2.1 + (1 : Int)), PUnit.unit) ∧ μ_laws_FnSentUp_8 code (x0, x1, IntKind.wrap IntKind.i64 (y.2.2.1 + (1 : Int)), PUnit.unit) < μ_laws_FnSentUp_8 code y else Lf [DV.one (Cell.lit (Value.bool false))] [DV.one (Cell.lit (Value.bool true))]) := by kernel_rfl
theorem ok_laws_FnSentUp : Holds EE (3, con_laws_FnSentUp) := by
  refine holds_of EE_ok Go.Proofs.Tryd.func3 con_laws_FnSentUp (by kernel_rfl) use_laws_FnSentUp (all_cons ok_laws_big (all_cons ok_spec_DrawThree (all_cons ok_laws_at (all_cons ok_impl_StartTask (all_cons ok_impl_SendDue all_nil))))) ann_laws_FnSentUp (fun (code : (List Int)) hp hb => ?_)
  have hb_code : BdDV (U := UU) (.one (.sl .byte code)) := hb _ (List.mem_cons_self)
  have hl_code : code.length ≤ 9223372036854775807 := Bd.len hb_code
  clear hp hb
  rw [vc_laws_FnSentUp code]
  dsimp only
  refine if_cond (fun h => Lf_rfl _) (fun h => ?_)
  have hcode := of_decide_eq_false h
  have hbyte : ∀ x ∈ code, 0 ≤ x ∧ x ≤ 255 := fun x hx => Bd.u8 (Bd.row (U := UU) (τ := Cd.byte) hb_code hx (c := .lit (.int .u8 x)) List.mem_cons_self)
  have hnow := atV_le (code := code) (by omega) hbyte 2 (by omega)
  have hf := factV_ok (newCur code)
  have hfl := (factOk_fields hf).1
  generalize hN : atV code 2 = now at hnow ⊢
  generalize hF : factV (newCur code) = f at hf hfl ⊢
  obtain ⟨fk, ff⟩ := f
  dsimp only at hfl ⊢
  have hst : startTask [] ⟨fk, ff⟩ ⟨#[]⟩ now = ([newTask ⟨fk, ff⟩ noBytes now], true) := by
    have hc : canStart [] ⟨fk, ff⟩ noBytes now = true := by
      have h1 : tasksOk [] = true := rfl
      have h2 : undoOk noBytes = true := by simp [undoOk]
      simp only [canStart, hf, h1, h2, Bool.and_true, Bool.true_and, decide_eq_true_eq]; omega
    show startTask [] _ noBytes now = _
    rw [startTask, if_pos hc]; rfl
  erw [hst]
  refine ⟨by omega, ⟨by omega, by omega⟩, by omega, by decide, by omega, ⟨Int.le_refl 0, 1, now, by rw [hF]; rfl, by rw [hN]; exact .inl ⟨rfl, rfl, rfl, rfl⟩⟩, ?_⟩
  rintro ⟨l, n, i, ⟨⟩⟩ ⟨g0, st, du, g1, g2⟩
  rw [hF] at g1
  rw [hN] at g2
  dsimp only at g0 g1 g2 ⊢
  subst g1
  have hi : i ≤ 60 := by unfold sched at g2; omega
  have hs : st = 1 ∨ st = 2 := by unfold sched at g2; omega
  have hn : 0 ≤ n ∧ n ≤ 4 := by unfold sched at g2; omega
  have hok : tasksOk (sentL ⟨fk, ff⟩ st n du) = true := by
    refine tasksOk_iff.2 ⟨by simp [sentL], fun t ht => ?_, by simp [sentL]⟩
    rw [List.mem_singleton.1 ht]
    refine taskOk_iff.2 ⟨hf, by simp [undoOk], ?_, ?_, ?_, .inl rfl, ?_⟩ <;> (simp only; unfold sched at g2; omega)
  have hsz := taskS_size (l := sentL ⟨fk, ff⟩ st n du) (fun t ht => tFit_of ((tasksOk_iff.1 hok).2.1 t ht))
  have hl1 : (sentL ⟨fk, ff⟩ st n du).length = 1 := rfl
  rw [hl1] at hsz
  refine if_cond (fun hd => ?_) (fun hd => absurd (of_decide_eq_false hd) (by omega))
  rw [wrap_i64 (n := now + i) (by omega) (by omega)]
  have hcond : tasksOk (sentL ⟨fk, ff⟩ st n du) = true ∧ 0 ≤ now + i ∧ now + i ≤ 1000000000 := ⟨hok, by omega, by omega⟩
  simp only [if_pos hcond]
  refine ⟨by omega, ?_⟩
  obtain ⟨b1, b2, b3, b4⟩ := backs
  by_cases hdue : du ≤ now + i
  · by_cases h4 : n = 4
    · subst h4
      obtain ⟨e1, e2, e3⟩ := sent_fail (f := ⟨fk, ff⟩) hs hdue
      have hi60 : i = 60 := by unfold sched at g2; omega
      rw [e1, e2, e3]
      subst hi60
      refine if_cond (fun _ => if_cond (fun _ => if_cond (fun _ => ?_) (fun g => absurd g (by decide))) (fun g => absurd g (by simp))) (fun g => absurd g (by decide))
      refine ⟨by omega, by simp [sentL], by simp [sentL], if_cond (fun _ => Lf_b (by decide)) (fun g => absurd g (by simp [sentL]))⟩
    · obtain ⟨e1, e2, e3⟩ := sent_go (f := ⟨fk, ff⟩) hs hdue h4
      rw [e1, e2, e3, wrap_i64 (n := n + ((1 : Nat) : Int)) (by omega) (by omega), wrap_i64 (n := i + 1) (by omega) (by omega)]
      refine if_cond (fun g => absurd g (by decide)) (fun _ => ⟨⟨by omega, 2, now + i + backoff 2 (n + 1) 60, by rw [hF]; rfl, ?_⟩, by simp only [μ_laws_FnSentUp_8]; omega⟩)
      rw [hN]
      unfold sched at g2 ⊢
      rcases g2 with ⟨r1, r2, r3, r4⟩ | ⟨r0, r1, r2, r3, r4⟩ | ⟨r0, r1, r2, r3, r4⟩ | ⟨r0, r1, r2, r3, r4⟩ | ⟨r0, r1, r2, r3, r4⟩
      · have hb : backoff 2 (n + 1) 60 = 4 := by rw [r3]; exact b1
        exact .inr (.inl ⟨by omega, by omega, rfl, by omega, by rw [hb]; omega⟩)
      · have hb : backoff 2 (n + 1) 60 = 8 := by rw [r3]; exact b2
        exact .inr (.inr (.inl ⟨by omega, by omega, rfl, by omega, by rw [hb]; omega⟩))
      · have hb : backoff 2 (n + 1) 60 = 16 := by rw [r3]; exact b3
        exact .inr (.inr (.inr (.inl ⟨by omega, by omega, rfl, by omega, by rw [hb]; omega⟩)))
      · have hb : backoff 2 (n + 1) 60 = 32 := by rw [r3]; exact b4
        exact .inr (.inr (.inr (.inr ⟨by omega, by omega, rfl, by omega, by rw [hb]; omega⟩)))
      · exact absurd r3 h4
  · obtain ⟨e1, e2, e3⟩ := sent_wait (f := ⟨fk, ff⟩) (tr := n) hs hdue
    rw [e1, e2, e3]
    have hz : n + (([] : List DCall).length : Int) = n := by simp
    rw [hz, wrap_i64 (n := n) (by omega) (by omega), wrap_i64 (n := i + 1) (by omega) (by omega)]
    refine if_cond (fun g => absurd g (by decide)) (fun _ => ⟨⟨by omega, st, du, by rw [hF], ?_⟩, by simp only [μ_laws_FnSentUp_8]; omega⟩)
    rw [hN]
    unfold sched at g2 ⊢
    rcases g2 with ⟨r1, r2, r3, r4⟩ | ⟨r0, r1, r2, r3, r4⟩ | ⟨r0, r1, r2, r3, r4⟩ | ⟨r0, r1, r2, r3, r4⟩ | ⟨r0, r1, r2, r3, r4⟩
    · exact absurd (show du ≤ now + i by omega) hdue
    · exact .inr (.inl ⟨by omega, by omega, r2, r3, r4⟩)
    · exact .inr (.inr (.inl ⟨by omega, by omega, r2, r3, r4⟩))
    · exact .inr (.inr (.inr (.inl ⟨by omega, by omega, r2, r3, r4⟩)))
    · exact .inr (.inr (.inr (.inr ⟨by omega, by omega, r2, r3, r4⟩)))
end
end AM
