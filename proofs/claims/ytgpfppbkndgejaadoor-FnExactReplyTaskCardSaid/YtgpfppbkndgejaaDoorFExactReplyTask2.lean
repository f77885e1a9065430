/- Functions of the program with their contracts: put together by gen/link.py for FnExactReplyTask. -/
import Derived.Test.YtgpfppbkndgejaaDoorAmLib
import Derived.Test.YtgpfppbkndgejaaDoorAmModels
import Derived.Test.YtgpfppbkndgejaaDoorFExactReplyTask
import Derived.Lib.ItoaLen
import Derived.Lib.Join
import Derived.Test.YtgpfppbkndgejaaDoorShelf
namespace AM
open Go
set_option linter.unusedVariables false
set_option linter.unusedSimpArgs false
set_option maxRecDepth 100000
noncomputable section
def con_spec_l3ValsText : Con UU where
  α := (List DVal)
  md := [.ro]
  of := fun | [.one (.sl .eVal a0)] => some a0 | _ => none
  ds := fun l => [.one (.sl .eVal l)]
  pre := fun l => [l.length ≤ 5, l.all valOk = true]
  res := fun l => ⟨[.one (.lit (.string (mkB (valsT l))))], true, []⟩
  law := by intro l x h; (try simp only at h); split at h <;> cases h; rfl
def I_spec_l3ValsText_3 (l : (List DVal)) : ByteArray × Int × Unit → Prop := fun (s, i, _) => 0 ≤ i ∧ i ≤ l.length ∧ s = mkB (40 :: Go.Lib.join ((l.take i.toNat).map valT) [44])
def μ_spec_l3ValsText_3 (l : (List DVal)) : ByteArray × Int × Unit → Nat := fun (s, i, _) => l.length - i.toNat
def ann_spec_l3ValsText : con_spec_l3ValsText.α → Nat → Option (Ann UU) := fun l => annL [(3, annOf [.slot 3 (3, 1024) (.lit .str), .slot 4 (4, 1024) (.lit (.int .i64))] (fun _ => I_spec_l3ValsText_3 l) (μ_spec_l3ValsText_3 l))]
def use_spec_l3ValsText : List (FuncId × Con UU) := [(106, con_spec_l2Text)]
theorem vc_spec_l3ValsText (l : (List DVal)) : goal EE use_spec_l3ValsText Go.Proofs.Tryd.f96 con_spec_l3ValsText ann_spec_l3ValsText l = (I_spec_l3ValsText_3 l ({ data := #[(40 : UInt8)] : ByteArray }, (0 : Int), PUnit.unit) ∧
  ∀ (y : ByteArray × Int × PUnit),
    let x0 : ByteArray := mkB (valT (List.getD l (Int.toNat y.2.1) zVal));
    let x1 : Nat := Int.toNat y.2.1;
    let x2 : ByteArray := y.1 ++ { data := #[(44 : UInt8)] : ByteArray };
    I_spec_l3ValsText_3 l y → bif decide (y.2.1 < (↑(List.length l) : Int)) then bif decide (y.2.1 > (0 : Int)) then ByteArray.size y.1 + ByteArray.size { data := #[(44 : UInt8)] : ByteArray } ≤ (4611686018427387904 : Nat) ∧ (0 : Int) ≤ y.2.1 ∧ x1 < List.length l ∧ valOk (List.getD l x1 zVal) = true ∧ ByteArray.size x2 + ByteArray.size x0 ≤ (4611686018427387904 : Nat) ∧ I_spec_l3ValsText_3 l (x2 ++ x0, IntKind.wrap IntKind.i64 (y.2.1 + (1 : Int)), PUnit.unit) ∧ μ_spec_l3ValsText_3 l (x2 ++ x0, IntKind.wrap IntKind.i64 (y.2.1 + (1 : Int)), PUnit.unit) < μ_spec_l3ValsText_3 l y else (0 : Int) ≤ y.2.1 ∧ x1 < List.length l ∧ valOk (List.getD l x1 zVal) = true ∧ ByteArray.size y.1 + ByteArray.size x0 ≤ (4611686018427387904 : Nat) ∧ I_spec_l3ValsText_3 l (y.1 ++ x0, IntKind.wrap IntKind.i64 (y.2.1 + (1 : Int)), PUnit.unit) ∧ μ_spec_l3ValsText_3 l (y.1 ++ x0, IntKind.wrap IntKind.i64 (y.2.1 + (1 : Int)), PUnit.unit) < μ_spec_l3ValsText_3 l y else ByteArray.size y.1 + ByteArray.size { data := #[(41 : UInt8)] : ByteArray } ≤ (4611686018427387904 : Nat) ∧ Lf [DV.one (Cell.lit (Value.string (y.1 ++ { data := #[(41 : UInt8)] : ByteArray })))] [DV.one (Cell.lit (Value.string (mkB (valsT l))))]) := by kernel_rfl
theorem ok_spec_l3ValsText : Holds EE (96, con_spec_l3ValsText) := by
  refine holds_of EE_ok Go.Proofs.Tryd.func96 con_spec_l3ValsText (by kernel_rfl) rfl use_spec_l3ValsText (all_cons ok_spec_l2Text all_nil) ann_spec_l3ValsText (fun (l : (List DVal)) hp hb => ?_)
  have hb_l : BdDV (U := UU) (.one (.sl .eVal l)) := hb _ (List.mem_cons_self)
  have hl_l : l.length ≤ 9223372036854775807 := Bd.len hb_l
  have hp0 : l.length ≤ 5 := hp _ (List.mem_cons_self)
  have hp1 : l.all valOk = true := hp _ (List.mem_cons_of_mem _ (List.mem_cons_self))
  clear hp hb
  rw [vc_spec_l3ValsText l]
  dsimp only
  refine ⟨⟨by omega, by omega, rfl⟩, ?_⟩
  rintro ⟨s, i, ⟨⟩⟩ ⟨h1, h2, rfl⟩
  simp only
  have hj := join_len (l.take i.toNat) (all_take hp1 _)
  rw [List.length_take] at hj
  refine if_cond (fun hc => ?_) (fun hc => ?_)
  · have hc : i < l.length := of_decide_eq_true hc
    have hv := all_getD hp1 zVal h1 hc
    have hvl := valT_len hv
    rw [wrap_i64 (by omega) (by omega)]
    have ht : (l.take (i + 1).toNat).map valT = (l.take i.toNat).map valT ++ [valT (List.getD l i.toNat zVal)] := by rw [← take_step l zVal h1 hc, List.map_append]; rfl
    refine if_cond (fun h => ?_) (fun h => ?_)
    · have h := of_decide_eq_true h
      have e : (mkB (40 :: Go.Lib.join ((l.take i.toNat).map valT) [44]) ++ { data := #[(44 : UInt8)] : ByteArray }) = mkB (40 :: (Go.Lib.join ((l.take i.toNat).map valT) [44] ++ [44])) := mkB_app _ [44]
      rw [e, mkB_app]
      have hn : ¬ (l.take i.toNat).map valT = [] := by
        intro h0
        have := congrArg List.length h0
        rw [List.length_map, List.length_take, List.length_nil] at this
        omega
      refine ⟨?_, h1, by omega, hv, ?_, ⟨by omega, by omega, ?_⟩, by simp only [μ_spec_l3ValsText_3]; omega⟩
      · rw [mkB_size]; show _ + 1 ≤ _; simp only [List.length_cons]; omega
      · rw [mkB_size, mkB_size]; simp only [List.length_cons, List.length_append, List.length_nil]; omega
      · rw [ht, join_snoc, if_neg hn]; simp
    · have h := of_decide_eq_false h
      have h0 : i = 0 := by omega
      subst h0
      rw [mkB_app]
      refine ⟨by omega, by omega, hv, ?_, ⟨by omega, by omega, ?_⟩, by simp only [μ_spec_l3ValsText_3]; omega⟩
      · rw [mkB_size, mkB_size]; simp only [List.length_cons]; omega
      · rw [ht, join_snoc]; simp [Go.Lib.join_nil]
  · have hc : ¬ i < l.length := of_decide_eq_false hc
    rw [take_all l (by omega)]
    refine ⟨?_, Lf_s ?_⟩
    · rw [mkB_size]; show _ + 1 ≤ _; simp only [List.length_cons]; rw [take_all l (by omega)] at hj; omega
    · exact mkB_app _ [41]
def con_spec_FactText : Con UU where
  α := DFact
  md := [.ro]
  of := fun | [.agg [.lit (.string a0), .sl .eVal a1]] => some ⟨a0, a1⟩ | _ => none
  ds := fun f => [.agg [.lit (.string f.Kind), .sl .eVal f.Fields]]
  pre := fun f => []
  res := fun f => ⟨[.one (.lit (.string (factText f)))], true, []⟩
  law := by intro l x h; (try simp only at h); split at h <;> cases h; rfl
def ann_spec_FactText : con_spec_FactText.α → Nat → Option (Ann UU) := fun f => annL []
def use_spec_FactText : List (FuncId × Con UU) := [(38, con_spec_FactOk), (96, con_spec_l3ValsText)]
theorem vc_spec_FactText (f : DFact) : goal EE use_spec_FactText Go.Proofs.Tryd.f76 con_spec_FactText ann_spec_FactText f = (bif !factOk f then Lf [DV.one (Cell.lit (Value.string { data := #[] : ByteArray }))] [DV.one (Cell.lit (Value.string (factText f)))] else List.length f.Fields ≤ (5 : Nat) ∧ List.all f.Fields valOk = true ∧ ByteArray.size f.Kind + ByteArray.size (mkB (valsT f.Fields)) ≤ (4611686018427387904 : Nat) ∧ Lf [DV.one (Cell.lit (Value.string (f.Kind ++ mkB (valsT f.Fields))))] [DV.one (Cell.lit (Value.string (factText f)))]) := by kernel_rfl
theorem ok_spec_FactText : Holds EE (76, con_spec_FactText) := by
  refine holds_of EE_ok Go.Proofs.Tryd.func76 con_spec_FactText (by kernel_rfl) rfl use_spec_FactText (all_cons ok_spec_FactOk (all_cons ok_spec_l3ValsText all_nil)) ann_spec_FactText (fun (f : DFact) hp hb => ?_)
  have hb_f : BdDV (U := UU) (.agg [.lit (.string f.Kind), .sl .eVal f.Fields]) := hb _ (List.mem_cons_self)
  have hl_f_Kind : f.Kind.size ≤ 9223372036854775807 := Bd.str (hb_f _ (by simp))
  have hl_f_Fields : f.Fields.length ≤ 9223372036854775807 := Bd.len (U := UU) (τ := .eVal) (xs := f.Fields) (hb_f _ (by simp))
  clear hp hb
  rw [vc_spec_FactText f]
  refine if_cond (fun h => Lf_s ?_) (fun h => ?_)
  · have h : factOk f = false := by simpa using h
    simp only [factText, h]; rfl
  · have h : factOk f = true := by simpa using h
    obtain ⟨h1, h2, h3, h4⟩ := factOk_fields h
    have hj := join_len f.Fields h2
    refine ⟨h1, h2, ?_, Lf_s ?_⟩
    · rw [mkB_size]; simp only [valsT, List.length_cons, List.length_append, List.length_nil]; omega
    · simp only [factText, h, if_true]; exact app_mkB _ _
def con_spec_TaskKey : Con UU where
  α := DFact
  md := [.ro]
  of := fun | [.agg [.lit (.string a0), .sl .eVal a1]] => some ⟨a0, a1⟩ | _ => none
  ds := fun f => [.agg [.lit (.string f.Kind), .sl .eVal f.Fields]]
  pre := fun f => []
  res := fun f => ⟨[.one (.lit (.string (factText f)))], true, []⟩
  law := by intro l x h; (try simp only at h); split at h <;> cases h; rfl
def ann_spec_TaskKey : con_spec_TaskKey.α → Nat → Option (Ann UU) := fun f => annL []
def use_spec_TaskKey : List (FuncId × Con UU) := [(76, con_spec_FactText)]
theorem vc_spec_TaskKey (f : DFact) : goal EE use_spec_TaskKey Go.Proofs.Tryd.f40 con_spec_TaskKey ann_spec_TaskKey f = (Lf [DV.one (Cell.lit (Value.string (factText f)))] [DV.one (Cell.lit (Value.string (factText f)))]) := by kernel_rfl
theorem ok_spec_TaskKey : Holds EE (40, con_spec_TaskKey) := by
  refine holds_of EE_ok Go.Proofs.Tryd.func40 con_spec_TaskKey (by kernel_rfl) rfl use_spec_TaskKey (all_cons ok_spec_FactText all_nil) ann_spec_TaskKey (fun (f : DFact) hp hb => ?_)
  have hb_f : BdDV (U := UU) (.agg [.lit (.string f.Kind), .sl .eVal f.Fields]) := hb _ (List.mem_cons_self)
  have hl_f_Kind : f.Kind.size ≤ 9223372036854775807 := Bd.str (hb_f _ (by simp))
  have hl_f_Fields : f.Fields.length ≤ 9223372036854775807 := Bd.len (U := UU) (τ := .eVal) (xs := f.Fields) (hb_f _ (by simp))
  clear hp hb
  rw [vc_spec_TaskKey f]
  exact Lf_rfl _
def con_impl_ValText : Con UU where
  α := DVal
  md := [.ro]
  of := fun | [.agg [.lit (.int .i64 a0), .lit (.int .i64 a1), .lit (.string a2)]] => some ⟨a0, a1, a2⟩ | _ => none
  ds := fun v => [.agg [.lit (.int .i64 v.K), .lit (.int .i64 v.N), .lit (.string v.S)]]
  pre := fun v => []
  res := fun v => ⟨[.one (.lit (.string (valText v)))], true, []⟩
  law := by intro l x h; (try simp only at h); split at h <;> cases h; rfl
def ann_impl_ValText : con_impl_ValText.α → Nat → Option (Ann UU) := fun v => annL []
def use_impl_ValText : List (FuncId × Con UU) := [(64, con_impl_ValOk), (107, con_strconv_Itoa)]
theorem vc_impl_ValText (v : DVal) : goal EE use_impl_ValText Go.Proofs.Tryd.f97 con_impl_ValText ann_impl_ValText v = (let x0 : ByteArray := { data := #[(39 : UInt8)] : ByteArray };
bif !valOk v then Lf [DV.one (Cell.lit (Value.string { data := #[] : ByteArray }))] [DV.one (Cell.lit (Value.string (valText v)))] else bif v.K == (1 : Int) then Lf [DV.one (Cell.lit (Value.string (itoaB v.N)))] [DV.one (Cell.lit (Value.string (valText v)))] else ByteArray.size x0 + ByteArray.size v.S ≤ (4611686018427387904 : Nat) ∧ ByteArray.size (x0 ++ v.S) + ByteArray.size x0 ≤ (4611686018427387904 : Nat) ∧ Lf [DV.one (Cell.lit (Value.string (x0 ++ v.S ++ x0)))] [DV.one (Cell.lit (Value.string (valText v)))]) := by kernel_rfl
theorem ok_impl_ValText : Holds EE (97, con_impl_ValText) := by
  refine holds_of EE_ok Go.Proofs.Tryd.func97 con_impl_ValText (by kernel_rfl) rfl use_impl_ValText (all_cons ok_impl_ValOk (all_cons ok_strconv_Itoa all_nil)) ann_impl_ValText (fun (v : DVal) hp hb => ?_)
  have hb_v : BdDV (U := UU) (.agg [.lit (.int .i64 v.K), .lit (.int .i64 v.N), .lit (.string v.S)]) := hb _ (List.mem_cons_self)
  have hl_v_S : v.S.size ≤ 9223372036854775807 := Bd.str (hb_v _ (by simp))
  clear hp hb
  rw [vc_impl_ValText v]
  dsimp only
  refine if_cond (fun h => Lf_s ?_) (fun h => ?_)
  · have h : valOk v = false := by simpa using h
    simp only [valText, h]; rfl
  · have h : valOk v = true := by simpa using h
    have ev : valText v = mkB (valT v) := by simp only [valText, h, if_true]
    rw [ev]
    rcases valOk_cases h with ⟨h1, h2, h3⟩ | ⟨h1, h2⟩
    · refine if_cond (fun h => Lf_s ?_) (fun h => absurd h (by simp [h1]))
      simp only [valT, if_pos h1]; rfl
    · refine if_cond (fun h => absurd h (by simp [h1])) (fun h => ?_)
      have e : ({ data := #[(39 : UInt8)] : ByteArray } ++ v.S) = mkB (39 :: bs v.S) := by
        conv => lhs; rw [← mkB_bs v.S]
        exact mkB_app [39] _
      rw [e]
      refine ⟨?_, ?_, Lf_s ?_⟩
      · show 1 + _ ≤ _; omega
      · rw [mkB_size]; show _ + 1 ≤ _; simp only [List.length_cons, bs_len]; omega
      · simp only [valT, if_neg (show ¬ v.K = 1 by omega)]; exact mkB_app (39 :: bs v.S) [39]
def con_impl_FactText : Con UU where
  α := DFact
  md := [.ro]
  of := fun | [.agg [.lit (.string a0), .sl .eVal a1]] => some ⟨a0, a1⟩ | _ => none
  ds := fun f => [.agg [.lit (.string f.Kind), .sl .eVal f.Fields]]
  pre := fun f => []
  res := fun f => ⟨[.one (.lit (.string (factText f)))], true, []⟩
  law := by intro l x h; (try simp only at h); split at h <;> cases h; rfl
def I_impl_FactText_5 (f : DFact) : List ByteArray × Int × (ByteArray × List DVal × Unit) × Unit → Prop := fun (out, i, fb, _) => fb = (f.Kind, f.Fields, ()) ∧ factOk f = true ∧ 0 ≤ i ∧ i ≤ f.Fields.length ∧ out = (f.Fields.take i.toNat).map valText
def μ_impl_FactText_5 (f : DFact) : List ByteArray × Int × (ByteArray × List DVal × Unit) × Unit → Nat := fun (out, i, fb, _) => f.Fields.length - i.toNat
def ann_impl_FactText : con_impl_FactText.α → Nat → Option (Ann UU) := fun f => annL [(5, annOf [.slot 3 (3, 1024) (.own .str true), .slot 12 (12, 1024) (.lit (.int .i64)), .box 1 (1, 1024) [.lit .str, .shr .eVal]] (fun _ => I_impl_FactText_5 f) (μ_impl_FactText_5 f))]
def use_impl_FactText : List (FuncId × Con UU) := [(46, con_impl_FactOk), (97, con_impl_ValText), (98, con_strings_Join)]
theorem vc_impl_FactText (f : DFact) : goal EE use_impl_FactText Go.Proofs.Tryd.f78 con_impl_FactText ann_impl_FactText f = (bif !factOk f then Lf [DV.one (Cell.lit (Value.string { data := #[] : ByteArray }))] [DV.one (Cell.lit (Value.string (factText f)))]
else
  I_impl_FactText_5 f ([], (0 : Int), (f.Kind, f.Fields, PUnit.unit), PUnit.unit) ∧
    ∀ (y : List ByteArray × Int × (ByteArray × List DVal × PUnit) × PUnit),
      let x0 : ByteArray := y.2.2.1.1 ++ { data := #[(40 : UInt8)] : ByteArray } ++ joinB y.1 { data := #[(44 : UInt8)] : ByteArray };
      let x1 : List ByteArray := [valText (List.getD f.Fields (Int.toNat y.2.1) zVal)];
      let x2 : Nat := ByteArray.size (joinB y.1 { data := #[(44 : UInt8)] : ByteArray });
      I_impl_FactText_5 f y → bif decide (y.2.1 < (↑(List.length f.Fields) : Int)) then (0 : Int) ≤ y.2.1 ∧ Int.toNat y.2.1 < List.length f.Fields ∧ List.length y.1 + List.length x1 ≤ (4294967296 : Nat) ∧ I_impl_FactText_5 f (y.1 ++ x1, IntKind.wrap IntKind.i64 (y.2.1 + (1 : Int)), (y.2.2.1.1, y.2.2.1.2.1, PUnit.unit), PUnit.unit) ∧ μ_impl_FactText_5 f (y.1 ++ x1, IntKind.wrap IntKind.i64 (y.2.1 + (1 : Int)), (y.2.2.1.1, y.2.2.1.2.1, PUnit.unit), PUnit.unit) < μ_impl_FactText_5 f y else ByteArray.size y.2.2.1.1 + ByteArray.size { data := #[(40 : UInt8)] : ByteArray } ≤ (4611686018427387904 : Nat) ∧ x2 ≤ (140737488355328 : Nat) ∧ List.length y.1 ≤ (140737488355328 : Nat) ∧ ByteArray.size (y.2.2.1.1 ++ { data := #[(40 : UInt8)] : ByteArray }) + x2 ≤ (4611686018427387904 : Nat) ∧ ByteArray.size x0 + ByteArray.size { data := #[(41 : UInt8)] : ByteArray } ≤ (4611686018427387904 : Nat) ∧ Lf [DV.one (Cell.lit (Value.string (x0 ++ { data := #[(41 : UInt8)] : ByteArray })))] [DV.one (Cell.lit (Value.string (factText f)))]) := by kernel_rfl
theorem ok_impl_FactText : Holds EE (78, con_impl_FactText) := by
  refine holds_of EE_ok Go.Proofs.Tryd.func78 con_impl_FactText (by kernel_rfl) rfl use_impl_FactText (all_cons ok_impl_FactOk (all_cons ok_impl_ValText (all_cons ok_strings_Join all_nil))) ann_impl_FactText (fun (f : DFact) hp hb => ?_)
  have hb_f : BdDV (U := UU) (.agg [.lit (.string f.Kind), .sl .eVal f.Fields]) := hb _ (List.mem_cons_self)
  have hl_f_Kind : f.Kind.size ≤ 9223372036854775807 := Bd.str (hb_f _ (by simp))
  have hl_f_Fields : f.Fields.length ≤ 9223372036854775807 := Bd.len (U := UU) (τ := .eVal) (xs := f.Fields) (hb_f _ (by simp))
  clear hp hb
  rw [vc_impl_FactText f]
  dsimp only
  refine if_cond (fun h => Lf_s ?_) (fun h => ?_)
  · have h : factOk f = false := by simpa using h
    simp only [factText, h]; rfl
  have h : factOk f = true := by simpa using h
  refine ⟨⟨rfl, h, by omega, by omega, rfl⟩, ?_⟩
  rintro ⟨out, i, fb, ⟨⟩⟩ ⟨rfl, _, h1, h2, rfl⟩
  obtain ⟨g1, g2, g3, g4⟩ := factOk_fields h
  simp only
  refine if_cond (fun hc => ?_) (fun hc => ?_)
  · have hc : i < f.Fields.length := of_decide_eq_true hc
    rw [wrap_i64 (by omega) (by omega)]
    refine ⟨h1, by omega, by simp; omega, ⟨rfl, h, by omega, by omega, ?_⟩, by simp only [μ_impl_FactText_5]; omega⟩
    rw [← take_step f.Fields zVal h1 hc, List.map_append]; rfl
  · have hc : ¬ i < f.Fields.length := of_decide_eq_false hc
    rw [take_all f.Fields (by omega)]
    have em : f.Fields.map valText = (f.Fields.map valT).map mkB := by
      rw [List.map_map]
      exact List.map_congr_left fun v hv => by
        have := List.all_eq_true.1 g2 v hv
        simp only [valText, this, if_true, Function.comp]
    have ej : joinB (f.Fields.map valText) { data := #[(44 : UInt8)] : ByteArray } = mkB (Go.Lib.join (f.Fields.map valT) [44]) := by
      rw [em, joinB_eq, List.map_map]
      have : (bs ∘ mkB) = id := funext fun l => bs_mkB l
      rw [this, List.map_id]
      rfl
    rw [ej]
    have hj := join_len f.Fields g2
    have e1 : (f.Kind ++ { data := #[(40 : UInt8)] : ByteArray }) = mkB (bs f.Kind ++ [40]) := app_mkB _ [40]
    rw [e1, mkB_app]
    refine ⟨?_, ?_, by simp; omega, ?_, ?_, Lf_s ?_⟩
    · show _ + 1 ≤ _; omega
    · rw [mkB_size]; omega
    · rw [mkB_size, mkB_size]; simp only [List.length_append, bs_len, List.length_cons, List.length_nil]; omega
    · rw [mkB_size]; show _ + 1 ≤ _; simp only [List.length_append, bs_len, List.length_cons, List.length_nil]; omega
    · simp only [factText, h, if_true]
      refine (mkB_app _ [41]).trans ?_
      simp [valsT]
def con_impl_TaskKey : Con UU where
  α := DFact
  md := [.ro]
  of := fun | [.agg [.lit (.string a0), .sl .eVal a1]] => some ⟨a0, a1⟩ | _ => none
  ds := fun f => [.agg [.lit (.string f.Kind), .sl .eVal f.Fields]]
  pre := fun f => []
  res := fun f => ⟨[.one (.lit (.string (factText f)))], true, []⟩
  law := by intro l x h; (try simp only at h); split at h <;> cases h; rfl
def ann_impl_TaskKey : con_impl_TaskKey.α → Nat → Option (Ann UU) := fun f => annL []
def use_impl_TaskKey : List (FuncId × Con UU) := [(78, con_impl_FactText)]
theorem vc_impl_TaskKey (f : DFact) : goal EE use_impl_TaskKey Go.Proofs.Tryd.f44 con_impl_TaskKey ann_impl_TaskKey f = (Lf [DV.one (Cell.lit (Value.string (factText f)))] [DV.one (Cell.lit (Value.string (factText f)))]) := by kernel_rfl
theorem ok_impl_TaskKey : Holds EE (44, con_impl_TaskKey) := by
  refine holds_of EE_ok Go.Proofs.Tryd.func44 con_impl_TaskKey (by kernel_rfl) rfl use_impl_TaskKey (all_cons ok_impl_FactText all_nil) ann_impl_TaskKey (fun (f : DFact) hp hb => ?_)
  have hb_f : BdDV (U := UU) (.agg [.lit (.string f.Kind), .sl .eVal f.Fields]) := hb _ (List.mem_cons_self)
  have hl_f_Kind : f.Kind.size ≤ 9223372036854775807 := Bd.str (hb_f _ (by simp))
  have hl_f_Fields : f.Fields.length ≤ 9223372036854775807 := Bd.len (U := UU) (τ := .eVal) (xs := f.Fields) (hb_f _ (by simp))
  clear hp hb
  rw [vc_impl_TaskKey f]
  exact Lf_rfl _
def con_spec_TaskAt : Con UU where
  α := (List DTask) × ByteArray
  md := [.ro, .ro]
  of := fun | [.one (.sl .eTask a0), .one (.lit (.string a1))] => some (a0, a1) | _ => none
  ds := fun (l, key) => [.one (.sl .eTask l), .one (.lit (.string key))]
  pre := fun (l, key) => []
  res := fun (l, key) => ⟨[.one (.lit (.int .i64 (taskAtKey l key)))], true, []⟩
  law := by intro l x h; (try simp only at h); split at h <;> cases h; rfl
def I_spec_TaskAt_2 (l : (List DTask)) (key : ByteArray) : Int × Unit → Prop := fun (i, _) => 0 ≤ i ∧ i ≤ l.length ∧ ∀ j : Nat, (j : Int) < i → decide (factText (List.getD l j zTask).F = key) = false
def μ_spec_TaskAt_2 (l : (List DTask)) (key : ByteArray) : Int × Unit → Nat := fun (i, _) => l.length - i.toNat
def ann_spec_TaskAt : con_spec_TaskAt.α → Nat → Option (Ann UU) := fun (l, key) => annL [(2, annOf [.slot 5 (5, 1024) (.lit (.int .i64))] (fun _ => I_spec_TaskAt_2 l key) (μ_spec_TaskAt_2 l key))]
def use_spec_TaskAt : List (FuncId × Con UU) := [(40, con_spec_TaskKey)]
theorem vc_spec_TaskAt (l : (List DTask)) (key : ByteArray) : goal EE use_spec_TaskAt Go.Proofs.Tryd.f88 con_spec_TaskAt ann_spec_TaskAt (l, key) = (I_spec_TaskAt_2 l key ((0 : Int), PUnit.unit) ∧ ∀ (y : Int × PUnit), I_spec_TaskAt_2 l key y → bif decide (y.1 < (↑(List.length l) : Int)) then (0 : Int) ≤ y.1 ∧ Int.toNat y.1 < List.length l ∧ bif ByteArray.toList (factText (List.getD l (Int.toNat y.1) zTask).F) == ByteArray.toList key then Lf [DV.one (Cell.lit (Value.int IntKind.i64 y.1))] [DV.one (Cell.lit (Value.int IntKind.i64 (taskAtKey l key)))] else I_spec_TaskAt_2 l key (IntKind.wrap IntKind.i64 (y.1 + (1 : Int)), PUnit.unit) ∧ μ_spec_TaskAt_2 l key (IntKind.wrap IntKind.i64 (y.1 + (1 : Int)), PUnit.unit) < μ_spec_TaskAt_2 l key y else Lf [DV.one (Cell.lit (Value.int IntKind.i64 (-1 : Int)))] [DV.one (Cell.lit (Value.int IntKind.i64 (taskAtKey l key)))]) := by kernel_rfl
theorem ok_spec_TaskAt : Holds EE (88, con_spec_TaskAt) := by
  refine holds_of EE_ok Go.Proofs.Tryd.func88 con_spec_TaskAt (by kernel_rfl) rfl use_spec_TaskAt (all_cons ok_spec_TaskKey all_nil) ann_spec_TaskAt (fun x hp hb => ?_)
  obtain ⟨l, key⟩ := x
  have hb_l : BdDV (U := UU) (.one (.sl .eTask l)) := hb _ (List.mem_cons_self)
  have hl_l : l.length ≤ 9223372036854775807 := Bd.len hb_l
  have hb_key : BdDV (U := UU) (.one (.lit (.string key))) := hb _ (List.mem_cons_of_mem _ (List.mem_cons_self))
  have hl_key : key.size ≤ 9223372036854775807 := Bd.str hb_key
  clear hp hb
  rw [vc_spec_TaskAt l key]
  refine ⟨⟨by omega, by omega, by intro j hj; omega⟩, ?_⟩
  rintro ⟨i, ⟨⟩⟩ ⟨h1, h2, hR⟩
  simp only
  refine if_cond (fun hc => ?_) (fun hc => ?_)
  · have hc : i < l.length := of_decide_eq_true hc
    simp (disch := omega) only [wrap_i64, toList_beq]
    refine ⟨by omega, by omega, if_cond (fun h => Lf_i ?_) (fun h => ⟨⟨by omega, by omega, upto_no (p := fun j => decide (factText (List.getD l j zTask).F = key)) h1 hR h⟩, by simp only [μ_spec_TaskAt_2]; omega⟩)⟩
    rw [taskAtKey, idxI_found (i := i.toNat) (by omega) h (fun j hj => hR j (by omega))]
    omega
  · have hc : ¬ i < l.length := of_decide_eq_false hc
    exact Lf_i (idxI_none (fun j hj => hR j (by omega))).symm
def con_impl_TaskAt_1 : Con UU where
  α := DTask × ByteArray
  md := [.ro, .ro]
  of := fun | [.agg [.lit (.string a0), .sl .eVal a1, .lit (.string a2), .lit (.int .i64 a3), .lit (.int .i64 a4), .lit (.int .i64 a5), .lit (.int .i64 a6), .lit (.int .i64 a7), .lit (.string a8)], .ptr [.lit (.string a9)]] => some (⟨⟨a0, a1⟩, a2, a3, a4, a5, ⟨a6, a7, a8⟩⟩, a9) | _ => none
  ds := fun (t, key) => [.agg [.lit (.string t.F.Kind), .sl .eVal t.F.Fields, .lit (.string t.Undo), .lit (.int .i64 t.State), .lit (.int .i64 t.Tries), .lit (.int .i64 t.Due), .lit (.int .i64 t.V.K), .lit (.int .i64 t.V.N), .lit (.string t.V.S)], .ptr [.lit (.string key)]]
  pre := fun (t, key) => []
  res := fun (t, key) => ⟨[.one (.lit (.bool (decide (factText t.F = key))))], true, []⟩
  law := by intro l x h; (try simp only at h); split at h <;> cases h; rfl
def ann_impl_TaskAt_1 : con_impl_TaskAt_1.α → Nat → Option (Ann UU) := fun (t, key) => annL []
def use_impl_TaskAt_1 : List (FuncId × Con UU) := [(44, con_impl_TaskKey)]
theorem vc_impl_TaskAt_1 (t : DTask) (key : ByteArray) : goal EE use_impl_TaskAt_1 Go.Proofs.Tryd.f90 con_impl_TaskAt_1 ann_impl_TaskAt_1 (t, key) = (Lf [DV.one (Cell.lit (Value.bool (ByteArray.toList (factText t.F) == ByteArray.toList key)))] [DV.one (Cell.lit (Value.bool (decide (factText t.F = key))))]) := by kernel_rfl
theorem ok_impl_TaskAt_1 : Holds EE (90, con_impl_TaskAt_1) := by
  refine holds_of EE_ok Go.Proofs.Tryd.func90 con_impl_TaskAt_1 (by kernel_rfl) rfl use_impl_TaskAt_1 (all_cons ok_impl_TaskKey all_nil) ann_impl_TaskAt_1 (fun x hp hb => ?_)
  obtain ⟨t, key⟩ := x
  have hb_t : BdDV (U := UU) (.agg [.lit (.string t.F.Kind), .sl .eVal t.F.Fields, .lit (.string t.Undo), .lit (.int .i64 t.State), .lit (.int .i64 t.Tries), .lit (.int .i64 t.Due), .lit (.int .i64 t.V.K), .lit (.int .i64 t.V.N), .lit (.string t.V.S)]) := hb _ (List.mem_cons_self)
  have hl_t_F_Kind : t.F.Kind.size ≤ 9223372036854775807 := Bd.str (hb_t _ (by simp))
  have hl_t_F_Fields : t.F.Fields.length ≤ 9223372036854775807 := Bd.len (U := UU) (τ := .eVal) (xs := t.F.Fields) (hb_t _ (by simp))
  have hl_t_Undo : t.Undo.size ≤ 9223372036854775807 := Bd.str (hb_t _ (by simp))
  have hl_t_V_S : t.V.S.size ≤ 9223372036854775807 := Bd.str (hb_t _ (by simp))
  have hb_key : BdDV (U := UU) (.ptr [.lit (.string key)]) := hb _ (List.mem_cons_of_mem _ (List.mem_cons_self))
  have hl_key : key.size ≤ 9223372036854775807 := Bd.str (hb_key _ (by simp))
  clear hp hb
  rw [vc_impl_TaskAt_1 t key]
  rw [toList_beq]
  exact Lf_rfl _
def con_impl_TaskAt : Con UU where
  α := (List DTask) × ByteArray
  md := [.ro, .ro]
  of := fun | [.one (.sl .eTask a0), .one (.lit (.string a1))] => some (a0, a1) | _ => none
  ds := fun (l, key) => [.one (.sl .eTask l), .one (.lit (.string key))]
  pre := fun (l, key) => []
  res := fun (l, key) => ⟨[.one (.lit (.int .i64 (taskAtKey l key)))], true, []⟩
  law := by intro l x h; (try simp only at h); split at h <;> cases h; rfl
def ann_impl_TaskAt : con_impl_TaskAt.α → Nat → Option (Ann UU) := fun (l, key) => annL []
def use_impl_TaskAt : List (FuncId × Con UU) := [(89, con_IndexFuncTask), (90, con_impl_TaskAt_1)]
theorem vc_impl_TaskAt (l : (List DTask)) (key : ByteArray) : goal EE use_impl_TaskAt Go.Proofs.Tryd.f62 con_impl_TaskAt ann_impl_TaskAt (l, key) = ((∀ (j : Nat), j < List.length l → closP con_impl_TaskAt_1 [DV.ptr [Cell.lit (Value.string key)]] [daTask (List.getD l j zTask)] = some (Value.bool (boolOf (closP con_impl_TaskAt_1 [DV.ptr [Cell.lit (Value.string key)]] [daTask (List.getD l j zTask)])))) ∧ Lf [DV.one (Cell.lit (Value.int IntKind.i64 (idxI (List.length l) fun (j : Nat) => boolOf (closP con_impl_TaskAt_1 [DV.ptr [Cell.lit (Value.string key)]] [daTask (List.getD l j zTask)]))))] [DV.one (Cell.lit (Value.int IntKind.i64 (taskAtKey l key)))]) := by kernel_rfl
theorem ok_impl_TaskAt : Holds EE (62, con_impl_TaskAt) := by
  refine holds_of EE_ok Go.Proofs.Tryd.func62 con_impl_TaskAt (by kernel_rfl) rfl use_impl_TaskAt (all_cons ok_IndexFuncTask (all_cons ok_impl_TaskAt_1 all_nil)) ann_impl_TaskAt (fun x hp hb => ?_)
  obtain ⟨l, key⟩ := x
  have hb_l : BdDV (U := UU) (.one (.sl .eTask l)) := hb _ (List.mem_cons_self)
  have hl_l : l.length ≤ 9223372036854775807 := Bd.len hb_l
  have hb_key : BdDV (U := UU) (.one (.lit (.string key))) := hb _ (List.mem_cons_of_mem _ (List.mem_cons_self))
  have hl_key : key.size ≤ 9223372036854775807 := Bd.str hb_key
  clear hp hb
  rw [vc_impl_TaskAt l key]
  have hc : ∀ x : DTask, closP con_impl_TaskAt_1 [.ptr [.lit (.string key)]] [daTask x] = some (.bool (decide (factText x.F = key))) := fun x => closP_of (x := (x, key)) rfl rfl rfl rfl (by simp [con_impl_TaskAt_1])
  refine ⟨fun j hj => ?_, Lf_i ?_⟩
  · show closP con_impl_TaskAt_1 [.ptr [.lit (.string key)]] [daTask (List.getD l j zTask)] = _
    rw [hc]; rfl
  · exact idxI_congr fun j hj => by
      show boolOf (closP con_impl_TaskAt_1 [.ptr [.lit (.string key)]] [daTask (List.getD l j zTask)]) = _
      rw [hc]; rfl
theorem size_map_giveUp (l : List DTask) : cntTaskS (giveUp l) = cntTaskS l := by
  unfold cntTaskS giveUp ctS
  rw [List.map_map]
  congr 1
  refine List.map_congr_left fun t _ => ?_
  simp only [Function.comp, giveUp1]
  split <;> rfl
def instNew (now : Int) : DInst := if 0 ≤ now ∧ now ≤ 1000000000 then ⟨⟨[], 1⟩, [], [], [], [], 1, now⟩ else zInst
theorem instNew_ct (n : Int) : ctInst (instNew n) = 0 := by unfold instNew; split <;> rfl
def con_spec_l18Copy : Con UU where
  α := (List DTask)
  md := [.ro]
  of := fun | [.one (.sl .eTask a0)] => some a0 | _ => none
  ds := fun l => [.one (.sl .eTask l)]
  pre := fun l => [sizeTaskS l ≤ 4294967296]
  res := fun l => ⟨[.one (.sl .eTask l)], true, []⟩
  law := by intro l x h; (try simp only at h); split at h <;> cases h; rfl
def I_spec_l18Copy_3 (l : (List DTask)) : List DTask × Int × Unit → Prop := fun (out, i, _) => 0 ≤ i ∧ i ≤ l.length ∧ out = l.take i.toNat
def μ_spec_l18Copy_3 (l : (List DTask)) : List DTask × Int × Unit → Nat := fun (out, i, _) => l.length - i.toNat
def ann_spec_l18Copy : con_spec_l18Copy.α → Nat → Option (Ann UU) := fun l => annL [(3, annOf [.slot 3 (3, 1024) (.own .eTask true), .slot 4 (4, 1024) (.lit (.int .i64))] (fun _ => I_spec_l18Copy_3 l) (μ_spec_l18Copy_3 l))]
def use_spec_l18Copy : List (FuncId × Con UU) := [(73, con_spec_l3Copy)]
theorem vc_spec_l18Copy (l : (List DTask)) : goal EE use_spec_l18Copy Go.Proofs.Tryd.f57 con_spec_l18Copy ann_spec_l18Copy l = (I_spec_l18Copy_3 l ([], (0 : Int), PUnit.unit) ∧
  ∀ (y : List DTask × Int × PUnit),
    let x0 : List DTask := [List.getD l (Int.toNat y.2.1) zTask];
    let x1 : Nat := Int.toNat y.2.1;
    I_spec_l18Copy_3 l y → bif decide (y.2.1 < (↑(List.length l) : Int)) then (0 : Int) ≤ y.2.1 ∧ x1 < List.length l ∧ List.length (List.getD l x1 zTask).F.Fields ≤ (4294967296 : Nat) ∧ List.length y.1 + List.length x0 ≤ (4294967296 : Nat) ∧ I_spec_l18Copy_3 l (y.1 ++ x0, IntKind.wrap IntKind.i64 (y.2.1 + (1 : Int)), PUnit.unit) ∧ μ_spec_l18Copy_3 l (y.1 ++ x0, IntKind.wrap IntKind.i64 (y.2.1 + (1 : Int)), PUnit.unit) < μ_spec_l18Copy_3 l y else Lf [DV.one (Cell.sl Cd.eTask y.1)] [DV.one (Cell.sl Cd.eTask l)]) := by kernel_rfl
theorem ok_spec_l18Copy : Holds EE (57, con_spec_l18Copy) := by
  refine holds_of EE_ok Go.Proofs.Tryd.func57 con_spec_l18Copy (by kernel_rfl) rfl use_spec_l18Copy (all_cons ok_spec_l3Copy all_nil) ann_spec_l18Copy (fun (l : (List DTask)) hp hb => ?_)
  have hb_l : BdDV (U := UU) (.one (.sl .eTask l)) := hb _ (List.mem_cons_self)
  have hl_l : l.length ≤ 9223372036854775807 := Bd.len hb_l
  have hp0 : sizeTaskS l ≤ 4294967296 := hp _ (List.mem_cons_self)
  clear hp hb
  rw [vc_spec_l18Copy l]
  dsimp only
  refine ⟨⟨by omega, by omega, by simp⟩, ?_⟩
  rintro ⟨out, i, ⟨⟩⟩ ⟨h1, h2, rfl⟩
  simp only
  refine if_cond (fun hc => ?_) (fun hc => ?_)
  · have hc := of_decide_eq_true hc
    have hs := sum_getD_le sizeTask l zTask h1 hc
    simp only [sizeTaskS] at hp0
    have hx := hs
    simp only [sizeTask, sizeFact, sizeValS] at hx
    rw [take_step l zTask h1 hc, wrap_i64 (by omega) (by omega)]
    repeat' (first | refine And.intro (by omega) ?_ | fail)
    refine ⟨by simp; omega, ⟨by omega, by omega, rfl⟩, by simp only [μ_spec_l18Copy_3]; omega⟩
  · have hc := of_decide_eq_false hc
    rw [take_all l (by omega)]
    exact Lf_rfl _
def con_impl_copyTasks : Con UU where
  α := (List DTask)
  md := [.ro]
  of := fun | [.one (.sl .eTask a0)] => some a0 | _ => none
  ds := fun l => [.one (.sl .eTask l)]
  pre := fun l => [sizeTaskS l ≤ 4294967296]
  res := fun l => ⟨[.one (.sl .eTask l)], true, []⟩
  law := by intro l x h; (try simp only at h); split at h <;> cases h; rfl
def I_impl_copyTasks_3 (l : (List DTask)) : List DTask × Int × Unit → Prop := fun (out, i, _) => 0 ≤ i ∧ i ≤ l.length ∧ out = l.take i.toNat
def μ_impl_copyTasks_3 (l : (List DTask)) : List DTask × Int × Unit → Nat := fun (out, i, _) => l.length - i.toNat
def ann_impl_copyTasks : con_impl_copyTasks.α → Nat → Option (Ann UU) := fun l => annL [(3, annOf [.slot 3 (3, 1024) (.own .eTask true), .slot 8 (8, 1024) (.lit (.int .i64))] (fun _ => I_impl_copyTasks_3 l) (μ_impl_copyTasks_3 l))]
def use_impl_copyTasks : List (FuncId × Con UU) := [(70, con_impl_copyFact)]
theorem vc_impl_copyTasks (l : (List DTask)) : goal EE use_impl_copyTasks Go.Proofs.Tryd.f61 con_impl_copyTasks ann_impl_copyTasks l = (I_impl_copyTasks_3 l ([], (0 : Int), PUnit.unit) ∧
  ∀ (y : List DTask × Int × PUnit),
    let x0 : List DTask := [List.getD l (Int.toNat y.2.1) zTask];
    let x1 : Nat := Int.toNat y.2.1;
    I_impl_copyTasks_3 l y → bif decide (y.2.1 < (↑(List.length l) : Int)) then (0 : Int) ≤ y.2.1 ∧ x1 < List.length l ∧ List.length (List.getD l x1 zTask).F.Fields ≤ (4294967296 : Nat) ∧ List.length y.1 + List.length x0 ≤ (4294967296 : Nat) ∧ I_impl_copyTasks_3 l (y.1 ++ x0, IntKind.wrap IntKind.i64 (y.2.1 + (1 : Int)), PUnit.unit) ∧ μ_impl_copyTasks_3 l (y.1 ++ x0, IntKind.wrap IntKind.i64 (y.2.1 + (1 : Int)), PUnit.unit) < μ_impl_copyTasks_3 l y else Lf [DV.one (Cell.sl Cd.eTask y.1)] [DV.one (Cell.sl Cd.eTask l)]) := by kernel_rfl
theorem ok_impl_copyTasks : Holds EE (61, con_impl_copyTasks) := by
  refine holds_of EE_ok Go.Proofs.Tryd.func61 con_impl_copyTasks (by kernel_rfl) rfl use_impl_copyTasks (all_cons ok_impl_copyFact all_nil) ann_impl_copyTasks (fun (l : (List DTask)) hp hb => ?_)
  have hb_l : BdDV (U := UU) (.one (.sl .eTask l)) := hb _ (List.mem_cons_self)
  have hl_l : l.length ≤ 9223372036854775807 := Bd.len hb_l
  have hp0 : sizeTaskS l ≤ 4294967296 := hp _ (List.mem_cons_self)
  clear hp hb
  rw [vc_impl_copyTasks l]
  dsimp only
  refine ⟨⟨by omega, by omega, by simp⟩, ?_⟩
  rintro ⟨out, i, ⟨⟩⟩ ⟨h1, h2, rfl⟩
  simp only
  refine if_cond (fun hc => ?_) (fun hc => ?_)
  · have hc := of_decide_eq_true hc
    have hs := sum_getD_le sizeTask l zTask h1 hc
    simp only [sizeTaskS] at hp0
    have hx := hs
    simp only [sizeTask, sizeFact, sizeValS] at hx
    rw [take_step l zTask h1 hc, wrap_i64 (by omega) (by omega)]
    repeat' (first | refine And.intro (by omega) ?_ | fail)
    refine ⟨by simp; omega, ⟨by omega, by omega, rfl⟩, by simp only [μ_impl_copyTasks_3]; omega⟩
  · have hc := of_decide_eq_false hc
    rw [take_all l (by omega)]
    exact Lf_rfl _
def backN (most : Int) : Nat → Int → Int
  | 0, n => n
  | k + 1, n => if n < most then backN most k (2 * n) else n
def backoff (base k most : Int) : Int := if 1 ≤ base ∧ base ≤ 100000 ∧ 1 ≤ most ∧ most ≤ 100000 ∧ 0 ≤ k then (if backN most k.toNat base < most then backN most k.toNat base else most) else 0
theorem backN_ge {most n : Int} (h : ¬ n < most) : ∀ k : Nat, backN most k n = n
  | 0 => rfl
  | k + 1 => by rw [backN, if_neg h]
theorem backN_step {most n k i : Int} (h0 : 0 ≤ i) (h : i < k) (hn : n < most) : backN most (k - i).toNat n = backN most (k - (i + 1)).toNat (2 * n) := by
  obtain ⟨m, hm⟩ : ∃ m : Nat, (k - i).toNat = m + 1 := ⟨(k - i).toNat - 1, by omega⟩
  have h2 : (k - (i + 1)).toNat = m := by omega
  rw [hm, h2, backN, if_pos hn]
theorem backN_end {most n k i : Int} (h : ¬ (i < k ∧ n < most)) : backN most (k - i).toNat n = n := by
  by_cases hk : i < k
  · exact backN_ge (fun hn => h ⟨hk, hn⟩) _
  · rw [show (k - i).toNat = 0 by omega]; rfl
def hasUndo (l : List DUndo) (key : ByteArray) : Bool := hasKey l key
def canPush (l : List DUndo) (t : DTask) : Bool := undosOk l && factOk t.F && nameOk t.Undo && !hasKey l (factText t.F) && !decide (30 ≤ l.length)
def pushUndo (l : List DUndo) (t : DTask) : List DUndo × Bool := if canPush l t = true then (l ++ [⟨factText t.F, ⟨t.Undo, t.F.Fields⟩⟩], true) else (l, false)
def replied (ok : Bool) (v : DVal) (t : DTask) : DTask := ⟨t.F, t.Undo, if ok = true then 3 else 4, t.Tries, t.Due, v⟩
def replyTask (l : List DTask) (key : ByteArray) (ok : Bool) (v : DVal) : List DTask × Int :=
  if tasksOk l = true ∧ valOk v = true ∧ 0 ≤ taskAtKey l key ∧ (List.getD l (taskAtKey l key).toNat zTask).State ≠ 1 then
    (if (List.getD l (taskAtKey l key).toNat zTask).State = 2 then (l.modify (taskAtKey l key).toNat (replied ok v), 1) else (l, 2)) else (l, 3)
def due (now : Int) (t : DTask) : Bool := isOpen t && decide (t.Due ≤ now)
def send1 (now : Int) (t : DTask) : DTask := if due now t = true then (if t.Tries = 4 then ⟨t.F, t.Undo, 4, t.Tries, t.Due, t.V⟩ else ⟨t.F, t.Undo, 2, t.Tries + 1, now + backoff 2 (t.Tries + 1) 60, t.V⟩) else t
def call1 (now : Int) (t : DTask) : List DCall := if due now t = true ∧ t.Tries ≠ 4 then [⟨factText t.F, t.F, t.Tries + 1⟩] else []
def fail1 (now : Int) (t : DTask) : List ByteArray := if due now t = true ∧ t.Tries = 4 then [factText t.F] else []
theorem undosOk_len {l : List DUndo} (h : undosOk l = true) : l.length ≤ 30 := by
  simp only [undosOk, Bool.and_eq_true, decide_eq_true_eq] at h; exact h.1
theorem tasksOk_len' {l : List DTask} (h : tasksOk l = true) : l.length ≤ 30 := by
  simp only [tasksOk, Bool.and_eq_true, decide_eq_true_eq] at h; exact h.1
theorem tasksOk_at {l : List DTask} (h : tasksOk l = true) {k : Nat} (hk : k < l.length) : taskOk (List.getD l k zTask) = true := by
  simp only [tasksOk, Bool.and_eq_true] at h
  have := allI_iff.1 h.2 k hk
  simp only [taskAt, Bool.and_eq_true] at this
  exact this.1
theorem taskOk_st {t : DTask} (h : taskOk t = true) : (1 ≤ t.State ∧ t.State ≤ 4) ∧ (0 ≤ t.Tries ∧ t.Tries ≤ 4) ∧ (0 ≤ t.Due ∧ t.Due ≤ 1000001000) ∧ ((t.State = 1 → t.Tries = 0) ∧ (t.State = 2 → t.Tries ≠ 0)) ∧ t.F.Fields.length ≤ 5 := by
  simp only [taskOk, Bool.and_eq_true, decide_eq_true_eq] at h
  obtain ⟨⟨⟨⟨⟨⟨h1, h2⟩, h3⟩, h4⟩, h5⟩, h6⟩, h7⟩ := h
  refine ⟨h3, h4, h5, h7, ?_⟩
  simp only [factOk, Bool.and_eq_true, decide_eq_true_eq] at h1
  first | exact h1.1.2 | exact h1.2.1 | omega
theorem taskAtKey_lt {l : List DTask} {key : ByteArray} (h : 0 ≤ taskAtKey l key) : (taskAtKey l key).toNat < l.length := by
  unfold taskAtKey at *
  rcases idxI_cases l.length (fun k => decide (factText (List.getD l k zTask).F = key)) with ⟨h1, h2⟩ | ⟨i, h1, h2, h3, h4⟩
  · rw [h1] at h; omega
  · rw [h2]; omega
theorem reply_none {l : List DTask} {key : ByteArray} {ok : Bool} {v : DVal} (h : ¬ (tasksOk l = true ∧ valOk v = true ∧ 0 ≤ taskAtKey l key ∧ (List.getD l (taskAtKey l key).toNat zTask).State ≠ 1)) : replyTask l key ok v = (l, 3) := if_neg h
theorem reply_old {l : List DTask} {key : ByteArray} {ok : Bool} {v : DVal} (h : tasksOk l = true ∧ valOk v = true ∧ 0 ≤ taskAtKey l key ∧ (List.getD l (taskAtKey l key).toNat zTask).State ≠ 1) (h2 : (List.getD l (taskAtKey l key).toNat zTask).State ≠ 2) : replyTask l key ok v = (l, 2) := by rw [replyTask, if_pos h, if_neg h2]
theorem reply_new {l : List DTask} {key : ByteArray} {ok : Bool} {v : DVal} (h : tasksOk l = true ∧ valOk v = true ∧ 0 ≤ taskAtKey l key ∧ (List.getD l (taskAtKey l key).toNat zTask).State ≠ 1) (h2 : (List.getD l (taskAtKey l key).toNat zTask).State = 2) : replyTask l key ok v = (l.modify (taskAtKey l key).toNat (replied ok v), 1) := by rw [replyTask, if_pos h, if_pos h2]
theorem reply_t (l : List DTask) (k : Nat) (v : DVal) : (((l.modify k fun x => ⟨x.F, x.Undo, 4, x.Tries, x.Due, x.V⟩).modify k fun x => ⟨x.F, x.Undo, 3, x.Tries, x.Due, x.V⟩).modify k fun x => ⟨x.F, x.Undo, x.State, x.Tries, x.Due, v⟩) = l.modify k (replied true v) := by
  rw [modify_modify, modify_modify]; rfl
theorem reply_f (l : List DTask) (k : Nat) (v : DVal) : ((l.modify k fun x => ⟨x.F, x.Undo, 4, x.Tries, x.Due, x.V⟩).modify k fun x => ⟨x.F, x.Undo, x.State, x.Tries, x.Due, v⟩) = l.modify k (replied false v) := by
  rw [modify_modify]; rfl
theorem Lf3 {a a' : List DTask} {b b' : List DCall} {c c' : List ByteArray} (h1 : a = a') (h2 : b = b') (h3 : c = c') : Lf [.one (.sl .eTask a), .one (.sl .eCall b), .one (.sl .str c)] [.one (.sl .eTask a'), .one (.sl .eCall b'), .one (.sl .str c')] := by
  subst h1 h2 h3; exact Lf_rfl _
theorem Lf_row {a a' : List DTask} {n : Int} (h : a = a') : Lf [.one (.sl .eTask a), .one (.lit (.int .i64 n))] [.one (.sl .eTask a'), .one (.lit (.int .i64 n))] := by
  subst h; exact Lf_rfl _
theorem asD_row {a a' : List DTask} (h : a = a') : asD ([DV.one (Cell.sl Cd.eTask a)] : List (DV UU)) = asD ([DV.one (Cell.sl Cd.eTask a')] : List (DV UU)) := by rw [h]
theorem flat_step {α β : Type} (f : α → List β) (l : List α) (z : α) {i : Int} (h0 : 0 ≤ i) (h : i < l.length) : (l.take i.toNat).flatMap f ++ f (List.getD l i.toNat z) = (l.take (i + 1).toNat).flatMap f := by
  rw [← take_step l z h0 h, List.flatMap_append]; simp
theorem flat_len {α β : Type} (f : α → List β) (hf : ∀ x, (f x).length ≤ 1) : ∀ l : List α, (l.flatMap f).length ≤ l.length
  | [] => by simp
  | x :: l => by
    rw [List.flatMap_cons, List.length_append]
    have h1 := flat_len f hf l
    have h2 := hf x
    simp only [List.length_cons]; omega
theorem call1_len (now : Int) (t : DTask) : (call1 now t).length ≤ 1 := by unfold call1; split <;> simp
theorem fail1_len (now : Int) (t : DTask) : (fail1 now t).length ≤ 1 := by unfold fail1; split <;> simp
theorem backN_pos (most : Int) : ∀ (k : Nat) (n : Int), 0 ≤ n → 0 ≤ backN most k n
  | 0, n, h => h
  | k + 1, n, h => by rw [backN]; split; exact backN_pos most k (2 * n) (by omega); exact h
theorem backoff_le (k : Int) : 0 ≤ backoff 2 k 60 ∧ backoff 2 k 60 ≤ 60 := by
  have := backN_pos 60 k.toNat 2 (by omega)
  unfold backoff
  split
  · split <;> omega
  · omega
def con_spec_l18Reply : Con UU where
  α := (List DTask) × ByteArray × Bool × DVal
  md := [.wr, .ro, .ro, .ro]
  of := fun | [.one (.sl .eTask a0), .one (.lit (.string a1)), .one (.lit (.bool a2)), .agg [.lit (.int .i64 a3), .lit (.int .i64 a4), .lit (.string a5)]] => some (a0, a1, a2, ⟨a3, a4, a5⟩) | _ => none
  ds := fun (l, key, ok, v) => [.one (.sl .eTask l), .one (.lit (.string key)), .one (.lit (.bool ok)), .agg [.lit (.int .i64 v.K), .lit (.int .i64 v.N), .lit (.string v.S)]]
  pre := fun (l, key, ok, v) => [tasksOk l = true, valOk v = true]
  res := fun (l, key, ok, v) => ⟨[.one (.lit (.int .i64 ((replyTask l key ok v).2)))], true, [.one (.sl .eTask ((replyTask l key ok v).1))]⟩
  law := by intro l x h; (try simp only at h); split at h <;> cases h; rfl
def ann_spec_l18Reply : con_spec_l18Reply.α → Nat → Option (Ann UU) := fun (l, key, ok, v) => annL []
def use_spec_l18Reply : List (FuncId × Con UU) := [(88, con_spec_TaskAt)]
theorem vc_spec_l18Reply (l : (List DTask)) (key : ByteArray) (ok : Bool) (v : DVal) : goal EE use_spec_l18Reply Go.Proofs.Tryd.f60 con_spec_l18Reply ann_spec_l18Reply (l, key, ok, v) = (let x0 : List DTask := List.modify l (Int.toNat (taskAtKey l key)) fun (x : DTask) => { F := x.F, Undo := x.Undo, State := (4 : Int), Tries := x.Tries, Due := x.Due, V := x.V : DTask };
let x1 : List DTask := List.modify x0 (Int.toNat (taskAtKey l key)) fun (x : DTask) => { F := x.F, Undo := x.Undo, State := (3 : Int), Tries := x.Tries, Due := x.Due, V := x.V : DTask };
bif decide (taskAtKey l key < (0 : Int)) then asD [DV.one (Cell.lit (Value.int IntKind.i64 (3 : Int)))] = asD [DV.one (Cell.lit (Value.int IntKind.i64 (replyTask l key ok v).2))] ∧ asD [DV.one (Cell.sl Cd.eTask l)] = asD [DV.one (Cell.sl Cd.eTask (replyTask l key ok v).1)] else (0 : Int) ≤ taskAtKey l key ∧ Int.toNat (taskAtKey l key) < List.length l ∧ Int.toNat (taskAtKey l key) < List.length l ∧ bif (List.getD l (Int.toNat (taskAtKey l key)) zTask).State == (3 : Int) then asD [DV.one (Cell.lit (Value.int IntKind.i64 (2 : Int)))] = asD [DV.one (Cell.lit (Value.int IntKind.i64 (replyTask l key ok v).2))] ∧ asD [DV.one (Cell.sl Cd.eTask l)] = asD [DV.one (Cell.sl Cd.eTask (replyTask l key ok v).1)] else Int.toNat (taskAtKey l key) < List.length l ∧ bif (List.getD l (Int.toNat (taskAtKey l key)) zTask).State == (4 : Int) then asD [DV.one (Cell.lit (Value.int IntKind.i64 (2 : Int)))] = asD [DV.one (Cell.lit (Value.int IntKind.i64 (replyTask l key ok v).2))] ∧ asD [DV.one (Cell.sl Cd.eTask l)] = asD [DV.one (Cell.sl Cd.eTask (replyTask l key ok v).1)] else Int.toNat (taskAtKey l key) < List.length l ∧ bif (List.getD l (Int.toNat (taskAtKey l key)) zTask).Tries == (0 : Int) then asD [DV.one (Cell.lit (Value.int IntKind.i64 (3 : Int)))] = asD [DV.one (Cell.lit (Value.int IntKind.i64 (replyTask l key ok v).2))] ∧ asD [DV.one (Cell.sl Cd.eTask l)] = asD [DV.one (Cell.sl Cd.eTask (replyTask l key ok v).1)] else Int.toNat (taskAtKey l key) < List.length l ∧ bif ok then Int.toNat (taskAtKey l key) < List.length x0 ∧ Int.toNat (taskAtKey l key) < List.length x1 ∧ asD [DV.one (Cell.lit (Value.int IntKind.i64 (1 : Int)))] = asD [DV.one (Cell.lit (Value.int IntKind.i64 (replyTask l key ok v).2))] ∧ asD [DV.one (Cell.sl Cd.eTask (List.modify x1 (Int.toNat (taskAtKey l key)) fun (x : DTask) => { F := x.F, Undo := x.Undo, State := x.State, Tries := x.Tries, Due := x.Due, V := v : DTask }))] = asD [DV.one (Cell.sl Cd.eTask (replyTask l key ok v).1)] else Int.toNat (taskAtKey l key) < List.length x0 ∧ asD [DV.one (Cell.lit (Value.int IntKind.i64 (1 : Int)))] = asD [DV.one (Cell.lit (Value.int IntKind.i64 (replyTask l key ok v).2))] ∧ asD [DV.one (Cell.sl Cd.eTask (List.modify x0 (Int.toNat (taskAtKey l key)) fun (x : DTask) => { F := x.F, Undo := x.Undo, State := x.State, Tries := x.Tries, Due := x.Due, V := v : DTask }))] = asD [DV.one (Cell.sl Cd.eTask (replyTask l key ok v).1)]) := by kernel_rfl
theorem ok_spec_l18Reply : Holds EE (60, con_spec_l18Reply) := by
  refine holds_of EE_ok Go.Proofs.Tryd.func60 con_spec_l18Reply (by kernel_rfl) rfl use_spec_l18Reply (all_cons ok_spec_TaskAt all_nil) ann_spec_l18Reply (fun x hp hb => ?_)
  obtain ⟨l, key, ok, v⟩ := x
  have hb_l : BdDV (U := UU) (.one (.sl .eTask l)) := hb _ (List.mem_cons_self)
  have hl_l : l.length ≤ 9223372036854775807 := Bd.len hb_l
  have hb_key : BdDV (U := UU) (.one (.lit (.string key))) := hb _ (List.mem_cons_of_mem _ (List.mem_cons_self))
  have hl_key : key.size ≤ 9223372036854775807 := Bd.str hb_key
  have hb_ok : BdDV (U := UU) (.one (.lit (.bool ok))) := hb _ (List.mem_cons_of_mem _ (List.mem_cons_of_mem _ (List.mem_cons_self)))
  have hb_v : BdDV (U := UU) (.agg [.lit (.int .i64 v.K), .lit (.int .i64 v.N), .lit (.string v.S)]) := hb _ (List.mem_cons_of_mem _ (List.mem_cons_of_mem _ (List.mem_cons_of_mem _ (List.mem_cons_self))))
  have hl_v_S : v.S.size ≤ 9223372036854775807 := Bd.str (hb_v _ (by simp))
  have hp0 : tasksOk l = true := hp _ (List.mem_cons_self)
  have hp1 : valOk v = true := hp _ (List.mem_cons_of_mem _ (List.mem_cons_self))
  clear hp hb
  rw [vc_spec_l18Reply l key ok v]
  dsimp only
  refine if_cond (fun h => ?_) (fun h => ?_)
  · have h := of_decide_eq_true h
    rw [reply_none (fun hh => absurd hh.2.2.1 (by omega))]; exact ⟨rfl, rfl⟩
  have h := of_decide_eq_false h
  have hk := taskAtKey_lt (l := l) (key := key) (by omega)
  obtain ⟨s1, s2, s3, s4, s5⟩ := taskOk_st (tasksOk_at hp0 hk)
  refine ⟨by omega, hk, hk, if_cond (fun h1 => ?_) (fun h1 => ⟨hk, if_cond (fun h2 => ?_) (fun h2 => ⟨hk, if_cond (fun h3 => ?_) (fun h3 => ⟨hk, if_cond (fun h4 => ?_) (fun h4 => ?_)⟩)⟩)⟩)⟩
  · have h1 := eq_of_beq h1
    rw [reply_old ⟨hp0, hp1, by omega, by omega⟩ (by omega)]; exact ⟨rfl, rfl⟩
  · have h2 := eq_of_beq h2
    rw [reply_old ⟨hp0, hp1, by omega, by omega⟩ (by omega)]; exact ⟨rfl, rfl⟩
  · have h3 := eq_of_beq h3
    simp only [beq_eq_false_iff_ne, ne_eq] at h1 h2
    rw [reply_none (fun hh => absurd hh.2.2.2 (by omega))]; exact ⟨rfl, rfl⟩
  · subst h4
    simp only [beq_eq_false_iff_ne, ne_eq] at h1 h2 h3
    rw [reply_new ⟨hp0, hp1, by omega, by omega⟩ (by omega)]
    exact ⟨by simp only [List.length_modify]; exact hk, by simp only [List.length_modify]; exact hk, rfl, asD_row (reply_t _ _ _)⟩
  · subst h4
    simp only [beq_eq_false_iff_ne, ne_eq] at h1 h2 h3
    rw [reply_new ⟨hp0, hp1, by omega, by omega⟩ (by omega)]
    exact ⟨by simp only [List.length_modify]; exact hk, rfl, asD_row (reply_f _ _ _)⟩
def con_spec_ReplyTask : Con UU where
  α := (List DTask) × ByteArray × Bool × DVal
  md := [.ro, .ro, .ro, .ro]
  of := fun | [.one (.sl .eTask a0), .one (.lit (.string a1)), .one (.lit (.bool a2)), .agg [.lit (.int .i64 a3), .lit (.int .i64 a4), .lit (.string a5)]] => some (a0, a1, a2, ⟨a3, a4, a5⟩) | _ => none
  ds := fun (l, key, ok, v) => [.one (.sl .eTask l), .one (.lit (.string key)), .one (.lit (.bool ok)), .agg [.lit (.int .i64 v.K), .lit (.int .i64 v.N), .lit (.string v.S)]]
  pre := fun (l, key, ok, v) => [sizeTaskS l ≤ 4294967296]
  res := fun (l, key, ok, v) => ⟨[.one (.sl .eTask ((replyTask l key ok v).1)), .one (.lit (.int .i64 ((replyTask l key ok v).2)))], true, []⟩
  law := by intro l x h; (try simp only at h); split at h <;> cases h; rfl
def ann_spec_ReplyTask : con_spec_ReplyTask.α → Nat → Option (Ann UU) := fun (l, key, ok, v) => annL []
def use_spec_ReplyTask : List (FuncId × Con UU) := [(57, con_spec_l18Copy), (58, con_spec_TasksOk), (59, con_spec_ValOk), (60, con_spec_l18Reply)]
theorem vc_spec_ReplyTask (l : (List DTask)) (key : ByteArray) (ok : Bool) (v : DVal) : goal EE use_spec_ReplyTask Go.Proofs.Tryd.f19 con_spec_ReplyTask ann_spec_ReplyTask (l, key, ok, v) = (sizeTaskS l ≤ (4294967296 : Nat) ∧ bif !tasksOk l then Lf [DV.one (Cell.sl Cd.eTask l), DV.one (Cell.lit (Value.int IntKind.i64 (3 : Int)))] [DV.one (Cell.sl Cd.eTask (replyTask l key ok v).1), DV.one (Cell.lit (Value.int IntKind.i64 (replyTask l key ok v).2))] else bif !valOk v then Lf [DV.one (Cell.sl Cd.eTask l), DV.one (Cell.lit (Value.int IntKind.i64 (3 : Int)))] [DV.one (Cell.sl Cd.eTask (replyTask l key ok v).1), DV.one (Cell.lit (Value.int IntKind.i64 (replyTask l key ok v).2))] else tasksOk l = true ∧ valOk v = true ∧ Lf [DV.one (Cell.sl Cd.eTask (replyTask { τ := Cd.eTask, xs := l : Arr UU }.xs key ok { K := v.K, N := v.N, S := v.S : DVal }).1), DV.one (Cell.lit (Value.int IntKind.i64 (replyTask { τ := Cd.eTask, xs := l : Arr UU }.xs key ok { K := v.K, N := v.N, S := v.S : DVal }).2))] [DV.one (Cell.sl Cd.eTask (replyTask l key ok v).1), DV.one (Cell.lit (Value.int IntKind.i64 (replyTask l key ok v).2))]) := by kernel_rfl
theorem ok_spec_ReplyTask : Holds EE (19, con_spec_ReplyTask) := by
  refine holds_of EE_ok Go.Proofs.Tryd.func19 con_spec_ReplyTask (by kernel_rfl) rfl use_spec_ReplyTask (all_cons ok_spec_l18Copy (all_cons ok_spec_TasksOk (all_cons ok_spec_ValOk (all_cons ok_spec_l18Reply all_nil)))) ann_spec_ReplyTask (fun x hp hb => ?_)
  obtain ⟨l, key, ok, v⟩ := x
  have hb_l : BdDV (U := UU) (.one (.sl .eTask l)) := hb _ (List.mem_cons_self)
  have hl_l : l.length ≤ 9223372036854775807 := Bd.len hb_l
  have hb_key : BdDV (U := UU) (.one (.lit (.string key))) := hb _ (List.mem_cons_of_mem _ (List.mem_cons_self))
  have hl_key : key.size ≤ 9223372036854775807 := Bd.str hb_key
  have hb_ok : BdDV (U := UU) (.one (.lit (.bool ok))) := hb _ (List.mem_cons_of_mem _ (List.mem_cons_of_mem _ (List.mem_cons_self)))
  have hb_v : BdDV (U := UU) (.agg [.lit (.int .i64 v.K), .lit (.int .i64 v.N), .lit (.string v.S)]) := hb _ (List.mem_cons_of_mem _ (List.mem_cons_of_mem _ (List.mem_cons_of_mem _ (List.mem_cons_self))))
  have hl_v_S : v.S.size ≤ 9223372036854775807 := Bd.str (hb_v _ (by simp))
  have hp0 : sizeTaskS l ≤ 4294967296 := hp _ (List.mem_cons_self)
  clear hp hb
  rw [vc_spec_ReplyTask l key ok v]
  refine ⟨hp0, if_cond (fun h => ?_) (fun h => if_cond (fun h2 => ?_) (fun h2 => ⟨by simpa using h, by simpa using h2, Lf_rfl _⟩))⟩
  · rw [reply_none (fun hh => by rw [hh.1] at h; simp at h)]; exact Lf_rfl _
  · rw [reply_none (fun hh => by rw [hh.2.1] at h2; simp at h2)]; exact Lf_rfl _
def con_impl_ReplyTask : Con UU where
  α := (List DTask) × ByteArray × Bool × DVal
  md := [.ro, .ro, .ro, .ro]
  of := fun | [.one (.sl .eTask a0), .one (.lit (.string a1)), .one (.lit (.bool a2)), .agg [.lit (.int .i64 a3), .lit (.int .i64 a4), .lit (.string a5)]] => some (a0, a1, a2, ⟨a3, a4, a5⟩) | _ => none
  ds := fun (l, key, ok, v) => [.one (.sl .eTask l), .one (.lit (.string key)), .one (.lit (.bool ok)), .agg [.lit (.int .i64 v.K), .lit (.int .i64 v.N), .lit (.string v.S)]]
  pre := fun (l, key, ok, v) => [sizeTaskS l ≤ 4294967296]
  res := fun (l, key, ok, v) => ⟨[.one (.sl .eTask ((replyTask l key ok v).1)), .one (.lit (.int .i64 ((replyTask l key ok v).2)))], true, []⟩
  law := by intro l x h; (try simp only at h); split at h <;> cases h; rfl
def ann_impl_ReplyTask : con_impl_ReplyTask.α → Nat → Option (Ann UU) := fun (l, key, ok, v) => annL []
def use_impl_ReplyTask : List (FuncId × Con UU) := [(61, con_impl_copyTasks), (62, con_impl_TaskAt), (63, con_impl_TasksOk), (64, con_impl_ValOk)]
theorem vc_impl_ReplyTask (l : (List DTask)) (key : ByteArray) (ok : Bool) (v : DVal) : goal EE use_impl_ReplyTask Go.Proofs.Tryd.f22 con_impl_ReplyTask ann_impl_ReplyTask (l, key, ok, v) = (let x0 : List DTask := List.modify l (Int.toNat (taskAtKey l key)) fun (x : DTask) => { F := x.F, Undo := x.Undo, State := (4 : Int), Tries := x.Tries, Due := x.Due, V := x.V : DTask };
let x1 : List DTask := List.modify x0 (Int.toNat (taskAtKey l key)) fun (x : DTask) => { F := x.F, Undo := x.Undo, State := (3 : Int), Tries := x.Tries, Due := x.Due, V := x.V : DTask };
sizeTaskS l ≤ (4294967296 : Nat) ∧ bif !tasksOk l then Lf [DV.one (Cell.sl Cd.eTask l), DV.one (Cell.lit (Value.int IntKind.i64 (3 : Int)))] [DV.one (Cell.sl Cd.eTask (replyTask l key ok v).1), DV.one (Cell.lit (Value.int IntKind.i64 (replyTask l key ok v).2))] else bif !valOk v then Lf [DV.one (Cell.sl Cd.eTask l), DV.one (Cell.lit (Value.int IntKind.i64 (3 : Int)))] [DV.one (Cell.sl Cd.eTask (replyTask l key ok v).1), DV.one (Cell.lit (Value.int IntKind.i64 (replyTask l key ok v).2))] else bif decide (taskAtKey l key < (0 : Int)) then Lf [DV.one (Cell.sl Cd.eTask l), DV.one (Cell.lit (Value.int IntKind.i64 (3 : Int)))] [DV.one (Cell.sl Cd.eTask (replyTask l key ok v).1), DV.one (Cell.lit (Value.int IntKind.i64 (replyTask l key ok v).2))] else (0 : Int) ≤ taskAtKey l key ∧ Int.toNat (taskAtKey l key) < List.length l ∧ bif (List.getD l (Int.toNat (taskAtKey l key)) zTask).State == (1 : Int) then Lf [DV.one (Cell.sl Cd.eTask l), DV.one (Cell.lit (Value.int IntKind.i64 (3 : Int)))] [DV.one (Cell.sl Cd.eTask (replyTask l key ok v).1), DV.one (Cell.lit (Value.int IntKind.i64 (replyTask l key ok v).2))] else (0 : Int) ≤ taskAtKey l key ∧ Int.toNat (taskAtKey l key) < List.length l ∧ Int.toNat (taskAtKey l key) < List.length l ∧ bif (List.getD l (Int.toNat (taskAtKey l key)) zTask).State != (2 : Int) then Lf [DV.one (Cell.sl Cd.eTask l), DV.one (Cell.lit (Value.int IntKind.i64 (2 : Int)))] [DV.one (Cell.sl Cd.eTask (replyTask l key ok v).1), DV.one (Cell.lit (Value.int IntKind.i64 (replyTask l key ok v).2))] else Int.toNat (taskAtKey l key) < List.length l ∧ bif ok then Int.toNat (taskAtKey l key) < List.length x0 ∧ Int.toNat (taskAtKey l key) < List.length x1 ∧ Lf [DV.one (Cell.sl Cd.eTask (List.modify x1 (Int.toNat (taskAtKey l key)) fun (x : DTask) => { F := x.F, Undo := x.Undo, State := x.State, Tries := x.Tries, Due := x.Due, V := v : DTask })), DV.one (Cell.lit (Value.int IntKind.i64 (1 : Int)))] [DV.one (Cell.sl Cd.eTask (replyTask l key ok v).1), DV.one (Cell.lit (Value.int IntKind.i64 (replyTask l key ok v).2))] else Int.toNat (taskAtKey l key) < List.length x0 ∧ Lf [DV.one (Cell.sl Cd.eTask (List.modify x0 (Int.toNat (taskAtKey l key)) fun (x : DTask) => { F := x.F, Undo := x.Undo, State := x.State, Tries := x.Tries, Due := x.Due, V := v : DTask })), DV.one (Cell.lit (Value.int IntKind.i64 (1 : Int)))] [DV.one (Cell.sl Cd.eTask (replyTask l key ok v).1), DV.one (Cell.lit (Value.int IntKind.i64 (replyTask l key ok v).2))]) := by kernel_rfl
theorem ok_impl_ReplyTask : Holds EE (22, con_impl_ReplyTask) := by
  refine holds_of EE_ok Go.Proofs.Tryd.func22 con_impl_ReplyTask (by kernel_rfl) rfl use_impl_ReplyTask (all_cons ok_impl_copyTasks (all_cons ok_impl_TaskAt (all_cons ok_impl_TasksOk (all_cons ok_impl_ValOk all_nil)))) ann_impl_ReplyTask (fun x hp hb => ?_)
  obtain ⟨l, key, ok, v⟩ := x
  have hb_l : BdDV (U := UU) (.one (.sl .eTask l)) := hb _ (List.mem_cons_self)
  have hl_l : l.length ≤ 9223372036854775807 := Bd.len hb_l
  have hb_key : BdDV (U := UU) (.one (.lit (.string key))) := hb _ (List.mem_cons_of_mem _ (List.mem_cons_self))
  have hl_key : key.size ≤ 9223372036854775807 := Bd.str hb_key
  have hb_ok : BdDV (U := UU) (.one (.lit (.bool ok))) := hb _ (List.mem_cons_of_mem _ (List.mem_cons_of_mem _ (List.mem_cons_self)))
  have hb_v : BdDV (U := UU) (.agg [.lit (.int .i64 v.K), .lit (.int .i64 v.N), .lit (.string v.S)]) := hb _ (List.mem_cons_of_mem _ (List.mem_cons_of_mem _ (List.mem_cons_of_mem _ (List.mem_cons_self))))
  have hl_v_S : v.S.size ≤ 9223372036854775807 := Bd.str (hb_v _ (by simp))
  have hp0 : sizeTaskS l ≤ 4294967296 := hp _ (List.mem_cons_self)
  clear hp hb
  rw [vc_impl_ReplyTask l key ok v]
  dsimp only
  refine ⟨hp0, if_cond (fun h => ?_) (fun h => if_cond (fun h2 => ?_) (fun h2 => if_cond (fun h3 => ?_) (fun h3 => ?_)))⟩
  · rw [reply_none (fun hh => by rw [hh.1] at h; simp at h)]; exact Lf_rfl _
  · rw [reply_none (fun hh => by rw [hh.2.1] at h2; simp at h2)]; exact Lf_rfl _
  · have h3 := of_decide_eq_true h3
    rw [reply_none (fun hh => absurd hh.2.2.1 (by omega))]; exact Lf_rfl _
  have h : tasksOk l = true := by simpa using h
  have h2 : valOk v = true := by simpa using h2
  have h3 := of_decide_eq_false h3
  have hk := taskAtKey_lt (l := l) (key := key) (by omega)
  refine ⟨by omega, hk, if_cond (fun h4 => ?_) (fun h4 => ⟨by omega, hk, hk, if_cond (fun h5 => ?_) (fun h5 => ⟨hk, if_cond (fun h6 => ?_) (fun h6 => ?_)⟩)⟩)⟩
  · have h4 := eq_of_beq h4
    rw [reply_none (fun hh => absurd hh.2.2.2 (by omega))]; exact Lf_rfl _
  · simp only [bne_iff_ne, beq_eq_false_iff_ne, ne_eq] at h4 h5
    rw [reply_old ⟨h, h2, by omega, h4⟩ h5]; exact Lf_rfl _
  · subst h6
    simp only [bne_iff_ne, bne_eq_false_iff_eq, beq_eq_false_iff_ne, ne_eq] at h4 h5
    rw [reply_new ⟨h, h2, by omega, h4⟩ h5]
    exact ⟨by simp only [List.length_modify]; exact hk, by simp only [List.length_modify]; exact hk, Lf_row (reply_t _ _ _)⟩
  · subst h6
    simp only [bne_iff_ne, bne_eq_false_iff_eq, beq_eq_false_iff_ne, ne_eq] at h4 h5
    rw [reply_new ⟨h, h2, by omega, h4⟩ h5]
    exact ⟨by simp only [List.length_modify]; exact hk, Lf_row (reply_f _ _ _)⟩
theorem ctS_flat {α β : Type} (c' : β → Nat) (c : α → Nat) (f : α → List β) (h : ∀ x, ctS c' (f x) ≤ c x) : ∀ l : List α, ctS c' (l.flatMap f) ≤ ctS c l
  | [] => by simp [ctS]
  | x :: l => by
    rw [List.flatMap_cons, ctS_append, ctS_cons]
    have h1 := h x
    have h2 := ctS_flat c' c f h l
    omega
theorem ctS_modify {α : Type} (c : α → Nat) (f : α → α) (h : ∀ x, c (f x) = c x) : ∀ (l : List α) (i : Nat), ctS c (l.modify i f) = ctS c l
  | [], i => by simp
  | x :: l, 0 => by rw [List.modify_zero_cons, ctS_cons, ctS_cons, h]
  | x :: l, i + 1 => by rw [List.modify_succ_cons, ctS_cons, ctS_cons, ctS_modify c f h l i]
theorem ctS_mapc {α : Type} (c : α → Nat) (f : α → α) (h : ∀ x, c (f x) = c x) : ∀ l : List α, ctS c (l.map f) = ctS c l
  | [] => rfl
  | x :: l => by rw [List.map_cons, ctS_cons, ctS_cons, h, ctS_mapc c f h l]
theorem pushUndo_ct (l : List DUndo) (t : DTask) : cntUndoS (pushUndo l t).1 ≤ cntUndoS l + 20 * sizeTask t + 20 := by
  unfold pushUndo
  split
  · show ctS cntUndo (l ++ [⟨factText t.F, ⟨t.Undo, t.F.Fields⟩⟩]) ≤ _
    rw [ctS_append]
    have h1 := cntValS_le t.F.Fields
    have h2 : ctS cntUndo [⟨factText t.F, ⟨t.Undo, t.F.Fields⟩⟩] = cntUndo ⟨factText t.F, ⟨t.Undo, t.F.Fields⟩⟩ := by simp [ctS]
    have h3 : cntUndoS l = ctS cntUndo l := rfl
    rw [h2, h3]
    simp only [cntUndo, sizeTask, sizeFact] at *
    omega
  · show cntUndoS l ≤ _; omega
theorem replyTask_ct (l : List DTask) (key : ByteArray) (ok : Bool) (v : DVal) : cntTaskS (replyTask l key ok v).1 = cntTaskS l := by
  unfold replyTask
  split
  · split
    · exact ctS_modify cntTask (replied ok v) (fun _ => rfl) l _
    · rfl
  · rfl
theorem send1_ct (now : Int) (l : List DTask) : cntTaskS (l.map (send1 now)) = cntTaskS l := ctS_mapc cntTask (send1 now) (fun x => by unfold send1; split; split; rfl; rfl; rfl) l
theorem call1_ct (now : Int) (l : List DTask) : cntCallS (l.flatMap (call1 now)) ≤ cntTaskS l := ctS_flat cntCall cntTask (call1 now) (fun x => by
  unfold call1
  split
  · have : ctS cntCall [⟨factText x.F, x.F, x.Tries + 1⟩] = cntCall ⟨factText x.F, x.F, x.Tries + 1⟩ := by simp [ctS]
    rw [this]; simp only [cntCall, cntTask]; omega
  · simp [ctS]) l
theorem fail1_ct (now : Int) (l : List DTask) : cntStringS (l.flatMap (fail1 now)) ≤ cntTaskS l := ctS_flat (fun _ => 1) cntTask (fail1 now) (fun x => by
  unfold fail1
  split
  · have : ctS (fun _ : ByteArray => 1) [factText x.F] = 1 := by simp [ctS]
    rw [this]; simp only [cntTask]; omega
  · simp [ctS]) l
def con_laws_FnExactReplyTask : Con UU where
  α := (List DTask) × ByteArray × Bool × DVal
  md := [.ro, .ro, .ro, .ro]
  of := fun | [.one (.sl .lTask a0), .one (.lit (.string a1)), .one (.lit (.bool a2)), .agg [.lit (.int .i64 a3), .lit (.int .i64 a4), .lit (.string a5)]] => some (a0, a1, a2, ⟨a3, a4, a5⟩) | _ => none
  ds := fun (aL, aKey, aOk, aV) => [.one (.sl .lTask aL), .one (.lit (.string aKey)), .one (.lit (.bool aOk)), .agg [.lit (.int .i64 aV.K), .lit (.int .i64 aV.N), .lit (.string aV.S)]]
  pre := fun (aL, aKey, aOk, aV) => []
  res := fun (aL, aKey, aOk, aV) => ⟨[.one (.lit (.bool true))], true, []⟩
  law := by intro l x h; (try simp only at h); split at h <;> cases h; rfl
def ann_laws_FnExactReplyTask : con_laws_FnExactReplyTask.α → Nat → Option (Ann UU) := fun (aL, aKey, aOk, aV) => annL []
def use_laws_FnExactReplyTask : List (FuncId × Con UU) := [(17, con_laws_szTaskS), (18, con_laws_szVal), (20, con_laws_toTaskS), (21, con_laws_toVal), (19, con_spec_ReplyTask), (22, con_impl_ReplyTask), (23, con_laws_eqTaskS), (24, con_laws_markTaskS), (25, con_laws_heldTaskS)]
theorem vc_laws_FnExactReplyTask (aL : (List DTask)) (aKey : ByteArray) (aOk : Bool) (aV : DVal) : goal EE use_laws_FnExactReplyTask Go.Proofs.Tryd.f4 con_laws_FnExactReplyTask ann_laws_FnExactReplyTask (aL, aKey, aOk, aV) = (let x0 : Bool := decide ((if markTaskS (markTaskS (replyTask { τ := Cd.eTask, xs := aL : Arr UU }.xs aKey aOk { K := aV.K, N := aV.N, S := aV.S : DVal }).1 (1 : Int)) (1 : Int) = markTaskS (replyTask { τ := Cd.eTask, xs := aL : Arr UU }.xs aKey aOk { K := aV.K, N := aV.N, S := aV.S : DVal }).1 (1 : Int) then (1 : Int) + (↑(cntTaskS (markTaskS (replyTask { τ := Cd.eTask, xs := aL : Arr UU }.xs aKey aOk { K := aV.K, N := aV.N, S := aV.S : DVal }).1 (1 : Int))) : Int) else (-1 : Int)) < (0 : Int));
let x1 : Bool := (if markTaskS (markTaskS (replyTask { τ := Cd.eTask, xs := aL : Arr UU }.xs aKey aOk { K := aV.K, N := aV.N, S := aV.S : DVal }).1 (1 : Int)) (1 : Int) = markTaskS (replyTask { τ := Cd.eTask, xs := aL : Arr UU }.xs aKey aOk { K := aV.K, N := aV.N, S := aV.S : DVal }).1 (1 : Int) then (1 : Int) + (↑(cntTaskS (markTaskS (replyTask { τ := Cd.eTask, xs := aL : Arr UU }.xs aKey aOk { K := aV.K, N := aV.N, S := aV.S : DVal }).1 (1 : Int))) : Int) else (-1 : Int)) != (1 : Int) + (↑(cntTaskS (replyTask { τ := Cd.eTask, xs := aL : Arr UU }.xs aKey aOk { K := aV.K, N := aV.N, S := aV.S : DVal }).1) : Int);
let x2 : Bool := !decide ((replyTask { τ := Cd.eTask, xs := aL : Arr UU }.xs aKey aOk { K := aV.K, N := aV.N, S := aV.S : DVal }).1 = (replyTask { τ := Cd.eTask, xs := aL : Arr UU }.xs aKey aOk { K := aV.K, N := aV.N, S := aV.S : DVal }).1);
let x3 : Bool := (replyTask { τ := Cd.eTask, xs := aL : Arr UU }.xs aKey aOk { K := aV.K, N := aV.N, S := aV.S : DVal }).2 != (replyTask { τ := Cd.eTask, xs := aL : Arr UU }.xs aKey aOk { K := aV.K, N := aV.N, S := aV.S : DVal }).2;
let x4 : Int := szr (1048576 : Int) (sizeTaskS aL);
bif decide ((↑(ByteArray.size aKey) : Int) > (1048576 : Int)) then Lf [DV.one (Cell.lit (Value.bool true))] [DV.one (Cell.lit (Value.bool true))] else (0 : Int) ≤ (1048576 : Int) ∧ bif decide (x4 < (0 : Int)) then Lf [DV.one (Cell.lit (Value.bool true))] [DV.one (Cell.lit (Value.bool true))] else (0 : Int) ≤ x4 ∧ bif decide (szr x4 (sizeVal aV) < (0 : Int)) then Lf [DV.one (Cell.lit (Value.bool true))] [DV.one (Cell.lit (Value.bool true))] else sizeTaskS aL ≤ (4294967296 : Nat) ∧ sizeVal aV ≤ (4294967296 : Nat) ∧ sizeTaskS aL ≤ (4294967296 : Nat) ∧ sizeTaskS aL ≤ (4294967296 : Nat) ∧ sizeVal aV ≤ (4294967296 : Nat) ∧ sizeTaskS aL ≤ (4294967296 : Nat) ∧ bif x2 then Lf [DV.one (Cell.lit (Value.bool false))] [DV.one (Cell.lit (Value.bool true))] else bif x3 then Lf [DV.one (Cell.lit (Value.bool false))] [DV.one (Cell.lit (Value.bool true))] else sizeTaskS aL ≤ (4294967296 : Nat) ∧ bif !decide (aL = aL) then Lf [DV.one (Cell.lit (Value.bool false))] [DV.one (Cell.lit (Value.bool true))] else (0 : Int) ≤ (1 : Int) ∧ (1 : Int) + (↑(cntTaskS aL) : Int) ≤ (4611686018427387904 : Int) ∧ bif x2 then Lf [DV.one (Cell.lit (Value.bool false))] [DV.one (Cell.lit (Value.bool true))] else bif x3 then Lf [DV.one (Cell.lit (Value.bool false))] [DV.one (Cell.lit (Value.bool true))] else (0 : Int) ≤ (1 : Int) ∧ (1 : Int) + (↑(cntTaskS (replyTask { τ := Cd.eTask, xs := aL : Arr UU }.xs aKey aOk { K := aV.K, N := aV.N, S := aV.S : DVal }).1) : Int) ≤ (4611686018427387904 : Int) ∧ (0 : Int) ≤ (1 : Int) ∧ (1 : Int) + (↑(cntTaskS (markTaskS (replyTask { τ := Cd.eTask, xs := aL : Arr UU }.xs aKey aOk { K := aV.K, N := aV.N, S := aV.S : DVal }).1 (1 : Int))) : Int) ≤ (4611686018427387904 : Int) ∧ bif x0 then Lf [DV.one (Cell.lit (Value.bool false))] [DV.one (Cell.lit (Value.bool true))] else bif x1 then Lf [DV.one (Cell.lit (Value.bool false))] [DV.one (Cell.lit (Value.bool true))] else sizeTaskS aL ≤ (4294967296 : Nat) ∧ sizeVal aV ≤ (4294967296 : Nat) ∧ sizeTaskS aL ≤ (4294967296 : Nat) ∧ bif x2 then Lf [DV.one (Cell.lit (Value.bool false))] [DV.one (Cell.lit (Value.bool true))] else bif x3 then Lf [DV.one (Cell.lit (Value.bool false))] [DV.one (Cell.lit (Value.bool true))] else (0 : Int) ≤ (1 : Int) ∧ (1 : Int) + (↑(cntTaskS (markTaskS (replyTask { τ := Cd.eTask, xs := aL : Arr UU }.xs aKey aOk { K := aV.K, N := aV.N, S := aV.S : DVal }).1 (1 : Int))) : Int) ≤ (4611686018427387904 : Int) ∧ bif x0 then Lf [DV.one (Cell.lit (Value.bool false))] [DV.one (Cell.lit (Value.bool true))] else bif x1 then Lf [DV.one (Cell.lit (Value.bool false))] [DV.one (Cell.lit (Value.bool true))] else Lf [DV.one (Cell.lit (Value.bool true))] [DV.one (Cell.lit (Value.bool true))]) := by kernel_rfl
theorem ok_laws_FnExactReplyTask : Holds EE (4, con_laws_FnExactReplyTask) := by
  refine holds_of EE_ok Go.Proofs.Tryd.func4 con_laws_FnExactReplyTask (by kernel_rfl) rfl use_laws_FnExactReplyTask (all_cons ok_laws_szTaskS (all_cons ok_laws_szVal (all_cons ok_laws_toTaskS (all_cons ok_laws_toVal (all_cons ok_spec_ReplyTask (all_cons ok_impl_ReplyTask (all_cons ok_laws_eqTaskS (all_cons ok_laws_markTaskS (all_cons ok_laws_heldTaskS all_nil))))))))) ann_laws_FnExactReplyTask (fun x hp hb => ?_)
  obtain ⟨aL, aKey, aOk, aV⟩ := x
  have hb_aL : BdDV (U := UU) (.one (.sl .lTask aL)) := hb _ (List.mem_cons_self)
  have hl_aL : aL.length ≤ 9223372036854775807 := Bd.len hb_aL
  have hb_aKey : BdDV (U := UU) (.one (.lit (.string aKey))) := hb _ (List.mem_cons_of_mem _ (List.mem_cons_self))
  have hl_aKey : aKey.size ≤ 9223372036854775807 := Bd.str hb_aKey
  have hb_aOk : BdDV (U := UU) (.one (.lit (.bool aOk))) := hb _ (List.mem_cons_of_mem _ (List.mem_cons_of_mem _ (List.mem_cons_self)))
  have hb_aV : BdDV (U := UU) (.agg [.lit (.int .i64 aV.K), .lit (.int .i64 aV.N), .lit (.string aV.S)]) := hb _ (List.mem_cons_of_mem _ (List.mem_cons_of_mem _ (List.mem_cons_of_mem _ (List.mem_cons_self))))
  have hl_aV_S : aV.S.size ≤ 9223372036854775807 := Bd.str (hb_aV _ (by simp))
  clear hp hb
  rw [vc_laws_FnExactReplyTask aL aKey aOk aV]
  dsimp only
  obtain ⟨vk, vn, vs⟩ := aV
  dsimp only at hb_aV hl_aV_S ⊢
  refine if_cond (fun h => Lf_rfl _) (fun hu => ?_)
  refine ⟨by omega, if_cond (fun h => Lf_rfl _) (fun h => ?_)⟩
  obtain ⟨e0, h0⟩ := szr_pos h
  rw [e0]
  refine ⟨by omega, if_cond (fun h => Lf_rfl _) (fun h => ?_)⟩
  obtain ⟨e1, h1⟩ := szr_pos h
  have hc := cntTaskS_le aL
  have hc2 := replyTask_ct aL aKey aOk ⟨vk, vn, vs⟩
  simp only [markTaskS_idem, markTaskS_ct, if_true]
  repeat' (first | exact Lf_rfl _ | refine And.intro (by omega) ?_ | refine if_cond (fun h => absurd h (by first | (simp; done) | (simp; omega))) (fun h => ?_) | fail)
end
end AM
