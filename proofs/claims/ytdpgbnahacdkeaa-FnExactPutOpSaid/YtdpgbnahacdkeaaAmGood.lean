/- The frame's facts on the program's types: written by gen/env.py. -/
import Derived.Test.YtdpgbnahacdkeaaAmProg
import Derived.Test.YtdpgbnahacdkeaaAmKinds
import Derived.KernelRfl
namespace AM
open Go
set_option maxRecDepth 100000
theorem tk_3 : tk EE 8 3 = some (Cd.kinds .int) := by kernel_rfl
theorem tk_5 : tk EE 8 5 = some (Cd.kinds .byte) := by kernel_rfl
theorem tk_9 : tk EE 8 9 = some (Cd.kinds .str) := by kernel_rfl
theorem tk_41 : tk EE 8 41 = some (Cd.kinds .eVal) := by kernel_rfl
theorem tk_33 : tk EE 8 33 = some (Cd.kinds .lVal) := by kernel_rfl
theorem tk_40 : tk EE 8 40 = some (Cd.kinds .eFact) := by kernel_rfl
theorem tk_31 : tk EE 8 31 = some (Cd.kinds .lFact) := by kernel_rfl
theorem tk_209 : tk EE 8 209 = some (Cd.kinds .eItem) := by kernel_rfl
theorem tk_216 : tk EE 8 216 = some (Cd.kinds .lItem) := by kernel_rfl
theorem tk_87 : tk EE 8 87 = some (Cd.kinds .eStore) := by kernel_rfl
theorem tk_97 : tk EE 8 97 = some (Cd.kinds .lStore) := by kernel_rfl
theorem tk_213 : tk EE 8 213 = some (Cd.kinds .eBind) := by kernel_rfl
theorem tk_225 : tk EE 8 225 = some (Cd.kinds .lBind) := by kernel_rfl
theorem tk_187 : tk EE 8 187 = some (Cd.kinds .eMatch) := by kernel_rfl
theorem tk_195 : tk EE 8 195 = some (Cd.kinds .lMatch) := by kernel_rfl
theorem tk_71 : tk EE 8 71 = some (Cd.kinds .eTimer) := by kernel_rfl
theorem tk_63 : tk EE 8 63 = some (Cd.kinds .lTimer) := by kernel_rfl
theorem tk_129 : tk EE 8 129 = some (Cd.kinds .eTask) := by kernel_rfl
theorem tk_127 : tk EE 8 127 = some (Cd.kinds .lTask) := by kernel_rfl
theorem tk_114 : tk EE 8 114 = some (Cd.kinds .eUndo) := by kernel_rfl
theorem tk_111 : tk EE 8 111 = some (Cd.kinds .lUndo) := by kernel_rfl
theorem tk_90 : tk EE 8 90 = some (Cd.kinds .eInst) := by kernel_rfl
theorem tk_100 : tk EE 8 100 = some (Cd.kinds .lInst) := by kernel_rfl
theorem tk_43 : tk EE 8 43 = some (Cd.kinds .eOp) := by kernel_rfl
theorem tk_35 : tk EE 8 35 = some (Cd.kinds .lOp) := by kernel_rfl
theorem wd_3 : EE.P.cellsOf 3 = UU.wd .int := by kernel_rfl
theorem wd_5 : EE.P.cellsOf 5 = UU.wd .byte := by kernel_rfl
theorem wd_9 : EE.P.cellsOf 9 = UU.wd .str := by kernel_rfl
theorem wd_41 : EE.P.cellsOf 41 = UU.wd .eVal := by kernel_rfl
theorem wd_33 : EE.P.cellsOf 33 = UU.wd .lVal := by kernel_rfl
theorem wd_40 : EE.P.cellsOf 40 = UU.wd .eFact := by kernel_rfl
theorem wd_31 : EE.P.cellsOf 31 = UU.wd .lFact := by kernel_rfl
theorem wd_209 : EE.P.cellsOf 209 = UU.wd .eItem := by kernel_rfl
theorem wd_216 : EE.P.cellsOf 216 = UU.wd .lItem := by kernel_rfl
theorem wd_87 : EE.P.cellsOf 87 = UU.wd .eStore := by kernel_rfl
theorem wd_97 : EE.P.cellsOf 97 = UU.wd .lStore := by kernel_rfl
theorem wd_213 : EE.P.cellsOf 213 = UU.wd .eBind := by kernel_rfl
theorem wd_225 : EE.P.cellsOf 225 = UU.wd .lBind := by kernel_rfl
theorem wd_187 : EE.P.cellsOf 187 = UU.wd .eMatch := by kernel_rfl
theorem wd_195 : EE.P.cellsOf 195 = UU.wd .lMatch := by kernel_rfl
theorem wd_71 : EE.P.cellsOf 71 = UU.wd .eTimer := by kernel_rfl
theorem wd_63 : EE.P.cellsOf 63 = UU.wd .lTimer := by kernel_rfl
theorem wd_129 : EE.P.cellsOf 129 = UU.wd .eTask := by kernel_rfl
theorem wd_127 : EE.P.cellsOf 127 = UU.wd .lTask := by kernel_rfl
theorem wd_114 : EE.P.cellsOf 114 = UU.wd .eUndo := by kernel_rfl
theorem wd_111 : EE.P.cellsOf 111 = UU.wd .lUndo := by kernel_rfl
theorem wd_90 : EE.P.cellsOf 90 = UU.wd .eInst := by kernel_rfl
theorem wd_100 : EE.P.cellsOf 100 = UU.wd .lInst := by kernel_rfl
theorem wd_43 : EE.P.cellsOf 43 = UU.wd .eOp := by kernel_rfl
theorem wd_35 : EE.P.cellsOf 35 = UU.wd .lOp := by kernel_rfl
theorem code_mem {l : List (TypeId × Cd)} {e : TypeId} {τ : Cd} (h : codeOf (U := UU) l e = some τ) : (e, τ) ∈ l := by
  induction l with
  | nil => cases h
  | cons p l ih =>
    obtain ⟨a, b⟩ := p
    simp only [codeOf] at h
    cases hb : Nat.beq a e <;> rw [hb] at h <;> simp only [cond_true, cond_false] at h
    · exact List.mem_cons_of_mem _ (ih h)
    · cases h
      rw [Nat.eq_of_beq_eq_true hb]
      exact List.mem_cons_self
theorem kgood : KGood EE Cd.kinds := by
  refine ⟨fun e τ h => ?_, fun e τ h => ?_, kinds_dec⟩
  · have := code_mem (l := tyl) h
    simp only [tyl, List.mem_cons, Prod.mk.injEq, List.not_mem_nil, or_false] at this
    rcases this with ⟨rfl, rfl⟩ | ⟨rfl, rfl⟩ | ⟨rfl, rfl⟩ | ⟨rfl, rfl⟩ | ⟨rfl, rfl⟩ | ⟨rfl, rfl⟩ | ⟨rfl, rfl⟩ | ⟨rfl, rfl⟩ | ⟨rfl, rfl⟩ | ⟨rfl, rfl⟩ | ⟨rfl, rfl⟩ | ⟨rfl, rfl⟩ | ⟨rfl, rfl⟩ | ⟨rfl, rfl⟩ | ⟨rfl, rfl⟩ | ⟨rfl, rfl⟩ | ⟨rfl, rfl⟩ | ⟨rfl, rfl⟩ | ⟨rfl, rfl⟩ | ⟨rfl, rfl⟩ | ⟨rfl, rfl⟩ | ⟨rfl, rfl⟩ | ⟨rfl, rfl⟩ | ⟨rfl, rfl⟩ | ⟨rfl, rfl⟩
    · exact tk_3
    · exact tk_5
    · exact tk_9
    · exact tk_41
    · exact tk_33
    · exact tk_40
    · exact tk_31
    · exact tk_209
    · exact tk_216
    · exact tk_87
    · exact tk_97
    · exact tk_213
    · exact tk_225
    · exact tk_187
    · exact tk_195
    · exact tk_71
    · exact tk_63
    · exact tk_129
    · exact tk_127
    · exact tk_114
    · exact tk_111
    · exact tk_90
    · exact tk_100
    · exact tk_43
    · exact tk_35
  · have := code_mem (l := tyl) h
    simp only [tyl, List.mem_cons, Prod.mk.injEq, List.not_mem_nil, or_false] at this
    rcases this with ⟨rfl, rfl⟩ | ⟨rfl, rfl⟩ | ⟨rfl, rfl⟩ | ⟨rfl, rfl⟩ | ⟨rfl, rfl⟩ | ⟨rfl, rfl⟩ | ⟨rfl, rfl⟩ | ⟨rfl, rfl⟩ | ⟨rfl, rfl⟩ | ⟨rfl, rfl⟩ | ⟨rfl, rfl⟩ | ⟨rfl, rfl⟩ | ⟨rfl, rfl⟩ | ⟨rfl, rfl⟩ | ⟨rfl, rfl⟩ | ⟨rfl, rfl⟩ | ⟨rfl, rfl⟩ | ⟨rfl, rfl⟩ | ⟨rfl, rfl⟩ | ⟨rfl, rfl⟩ | ⟨rfl, rfl⟩ | ⟨rfl, rfl⟩ | ⟨rfl, rfl⟩ | ⟨rfl, rfl⟩ | ⟨rfl, rfl⟩
    · exact wd_3
    · exact wd_5
    · exact wd_9
    · exact wd_41
    · exact wd_33
    · exact wd_40
    · exact wd_31
    · exact wd_209
    · exact wd_216
    · exact wd_87
    · exact wd_97
    · exact wd_213
    · exact wd_225
    · exact wd_187
    · exact wd_195
    · exact wd_71
    · exact wd_63
    · exact wd_129
    · exact wd_127
    · exact wd_114
    · exact wd_111
    · exact wd_90
    · exact wd_100
    · exact wd_43
    · exact wd_35
theorem laid : laidOutB EE.P = true := by kernel_rfl
theorem mapped : mapsRowed EE.P = true := by kernel_rfl
theorem sized : ((List.range EE.P.types.size).all fun t => match EE.P.underlying t with | some (.slice e) => decide (0 < EE.P.cellsOf e) | _ => true) = true := by kernel_rfl
theorem own : ownKnob EE.P.godebug = none := by kernel_rfl
end AM
