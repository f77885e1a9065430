/- The frame's facts on the program's types: written by gen/env.py. -/
import Derived.Test.YtignnkcjolobgaaAmProg
import Derived.Test.YtignnkcjolobgaaAmKinds
import Derived.KernelRfl
namespace AM
open Go
set_option maxRecDepth 100000
theorem tk_3 : tk EE 8 3 = some (Cd.kinds .int) := by kernel_rfl
theorem tk_5 : tk EE 8 5 = some (Cd.kinds .byte) := by kernel_rfl
theorem tk_9 : tk EE 8 9 = some (Cd.kinds .str) := by kernel_rfl
theorem tk_41 : tk EE 8 41 = some (Cd.kinds .eVal) := by kernel_rfl
theorem tk_192 : tk EE 8 192 = some (Cd.kinds .lVal) := by kernel_rfl
theorem tk_30 : tk EE 8 30 = some (Cd.kinds .eFact) := by kernel_rfl
theorem tk_67 : tk EE 8 67 = some (Cd.kinds .lFact) := by kernel_rfl
theorem tk_217 : tk EE 8 217 = some (Cd.kinds .eItem) := by kernel_rfl
theorem tk_100 : tk EE 8 100 = some (Cd.kinds .eStore) := by kernel_rfl
theorem tk_211 : tk EE 8 211 = some (Cd.kinds .eArg) := by kernel_rfl
theorem tk_227 : tk EE 8 227 = some (Cd.kinds .ePat) := by kernel_rfl
theorem tk_223 : tk EE 8 223 = some (Cd.kinds .eBind) := by kernel_rfl
theorem tk_213 : tk EE 8 213 = some (Cd.kinds .eCond) := by kernel_rfl
theorem tk_232 : tk EE 8 232 = some (Cd.kinds .eExpr) := by kernel_rfl
theorem tk_230 : tk EE 8 230 = some (Cd.kinds .eAct) := by kernel_rfl
theorem tk_205 : tk EE 8 205 = some (Cd.kinds .eRule) := by kernel_rfl
theorem tk_189 : tk EE 8 189 = some (Cd.kinds .eDef) := by kernel_rfl
theorem tk_221 : tk EE 8 221 = some (Cd.kinds .eMatch) := by kernel_rfl
theorem tk_74 : tk EE 8 74 = some (Cd.kinds .eTimer) := by kernel_rfl
theorem tk_69 : tk EE 8 69 = some (Cd.kinds .lTimer) := by kernel_rfl
theorem tk_43 : tk EE 8 43 = some (Cd.kinds .eTask) := by kernel_rfl
theorem tk_198 : tk EE 8 198 = some (Cd.kinds .eCall) := by kernel_rfl
theorem tk_32 : tk EE 8 32 = some (Cd.kinds .eUndo) := by kernel_rfl
theorem tk_103 : tk EE 8 103 = some (Cd.kinds .eInst) := by kernel_rfl
theorem tk_48 : tk EE 8 48 = some (Cd.kinds .eOp) := by kernel_rfl
theorem tk_153 : tk EE 8 153 = some (Cd.kinds .eWork) := by kernel_rfl
theorem tk_157 : tk EE 8 157 = some (Cd.kinds .eBook) := by kernel_rfl
theorem wd_3 : EE.P.cellsOf 3 = UU.wd .int := by kernel_rfl
theorem wd_5 : EE.P.cellsOf 5 = UU.wd .byte := by kernel_rfl
theorem wd_9 : EE.P.cellsOf 9 = UU.wd .str := by kernel_rfl
theorem wd_41 : EE.P.cellsOf 41 = UU.wd .eVal := by kernel_rfl
theorem wd_192 : EE.P.cellsOf 192 = UU.wd .lVal := by kernel_rfl
theorem wd_30 : EE.P.cellsOf 30 = UU.wd .eFact := by kernel_rfl
theorem wd_67 : EE.P.cellsOf 67 = UU.wd .lFact := by kernel_rfl
theorem wd_217 : EE.P.cellsOf 217 = UU.wd .eItem := by kernel_rfl
theorem wd_100 : EE.P.cellsOf 100 = UU.wd .eStore := by kernel_rfl
theorem wd_211 : EE.P.cellsOf 211 = UU.wd .eArg := by kernel_rfl
theorem wd_227 : EE.P.cellsOf 227 = UU.wd .ePat := by kernel_rfl
theorem wd_223 : EE.P.cellsOf 223 = UU.wd .eBind := by kernel_rfl
theorem wd_213 : EE.P.cellsOf 213 = UU.wd .eCond := by kernel_rfl
theorem wd_232 : EE.P.cellsOf 232 = UU.wd .eExpr := by kernel_rfl
theorem wd_230 : EE.P.cellsOf 230 = UU.wd .eAct := by kernel_rfl
theorem wd_205 : EE.P.cellsOf 205 = UU.wd .eRule := by kernel_rfl
theorem wd_189 : EE.P.cellsOf 189 = UU.wd .eDef := by kernel_rfl
theorem wd_221 : EE.P.cellsOf 221 = UU.wd .eMatch := by kernel_rfl
theorem wd_74 : EE.P.cellsOf 74 = UU.wd .eTimer := by kernel_rfl
theorem wd_69 : EE.P.cellsOf 69 = UU.wd .lTimer := by kernel_rfl
theorem wd_43 : EE.P.cellsOf 43 = UU.wd .eTask := by kernel_rfl
theorem wd_198 : EE.P.cellsOf 198 = UU.wd .eCall := by kernel_rfl
theorem wd_32 : EE.P.cellsOf 32 = UU.wd .eUndo := by kernel_rfl
theorem wd_103 : EE.P.cellsOf 103 = UU.wd .eInst := by kernel_rfl
theorem wd_48 : EE.P.cellsOf 48 = UU.wd .eOp := by kernel_rfl
theorem wd_153 : EE.P.cellsOf 153 = UU.wd .eWork := by kernel_rfl
theorem wd_157 : EE.P.cellsOf 157 = UU.wd .eBook := by kernel_rfl
theorem code_mem {l : List (TypeId × Cd)} {e : TypeId} {τ : Cd} (h : codeOf (U := UU) l e = some τ) : (e, τ) ∈ l := by
  induction l with
  | nil => cases h
  | cons p l ih =>
    obtain ⟨a, b⟩ := p
    simp only [codeOf] at h
    cases hb : Nat.beq a e <;> rw [hb] at h <;> simp only [cond_true, cond_false] at h
    · exact List.mem_cons_of_mem _ (ih h)
    · cases h
      rw [Nat.eq_of_beq_eq_true hb]
      exact List.mem_cons_self
theorem kgood : KGood EE Cd.kinds := by
  refine ⟨fun e τ h => ?_, fun e τ h => ?_, kinds_dec⟩
  · have := code_mem (l := tyl) h
    simp only [tyl, List.mem_cons, Prod.mk.injEq, List.not_mem_nil, or_false] at this
    rcases this with ⟨rfl, rfl⟩ | ⟨rfl, rfl⟩ | ⟨rfl, rfl⟩ | ⟨rfl, rfl⟩ | ⟨rfl, rfl⟩ | ⟨rfl, rfl⟩ | ⟨rfl, rfl⟩ | ⟨rfl, rfl⟩ | ⟨rfl, rfl⟩ | ⟨rfl, rfl⟩ | ⟨rfl, rfl⟩ | ⟨rfl, rfl⟩ | ⟨rfl, rfl⟩ | ⟨rfl, rfl⟩ | ⟨rfl, rfl⟩ | ⟨rfl, rfl⟩ | ⟨rfl, rfl⟩ | ⟨rfl, rfl⟩ | ⟨rfl, rfl⟩ | ⟨rfl, rfl⟩ | ⟨rfl, rfl⟩ | ⟨rfl, rfl⟩ | ⟨rfl, rfl⟩ | ⟨rfl, rfl⟩ | ⟨rfl, rfl⟩ | ⟨rfl, rfl⟩ | ⟨rfl, rfl⟩
    · exact tk_3
    · exact tk_5
    · exact tk_9
    · exact tk_41
    · exact tk_192
    · exact tk_30
    · exact tk_67
    · exact tk_217
    · exact tk_100
    · exact tk_211
    · exact tk_227
    · exact tk_223
    · exact tk_213
    · exact tk_232
    · exact tk_230
    · exact tk_205
    · exact tk_189
    · exact tk_221
    · exact tk_74
    · exact tk_69
    · exact tk_43
    · exact tk_198
    · exact tk_32
    · exact tk_103
    · exact tk_48
    · exact tk_153
    · exact tk_157
  · have := code_mem (l := tyl) h
    simp only [tyl, List.mem_cons, Prod.mk.injEq, List.not_mem_nil, or_false] at this
    rcases this with ⟨rfl, rfl⟩ | ⟨rfl, rfl⟩ | ⟨rfl, rfl⟩ | ⟨rfl, rfl⟩ | ⟨rfl, rfl⟩ | ⟨rfl, rfl⟩ | ⟨rfl, rfl⟩ | ⟨rfl, rfl⟩ | ⟨rfl, rfl⟩ | ⟨rfl, rfl⟩ | ⟨rfl, rfl⟩ | ⟨rfl, rfl⟩ | ⟨rfl, rfl⟩ | ⟨rfl, rfl⟩ | ⟨rfl, rfl⟩ | ⟨rfl, rfl⟩ | ⟨rfl, rfl⟩ | ⟨rfl, rfl⟩ | ⟨rfl, rfl⟩ | ⟨rfl, rfl⟩ | ⟨rfl, rfl⟩ | ⟨rfl, rfl⟩ | ⟨rfl, rfl⟩ | ⟨rfl, rfl⟩ | ⟨rfl, rfl⟩ | ⟨rfl, rfl⟩ | ⟨rfl, rfl⟩
    · exact wd_3
    · exact wd_5
    · exact wd_9
    · exact wd_41
    · exact wd_192
    · exact wd_30
    · exact wd_67
    · exact wd_217
    · exact wd_100
    · exact wd_211
    · exact wd_227
    · exact wd_223
    · exact wd_213
    · exact wd_232
    · exact wd_230
    · exact wd_205
    · exact wd_189
    · exact wd_221
    · exact wd_74
    · exact wd_69
    · exact wd_43
    · exact wd_198
    · exact wd_32
    · exact wd_103
    · exact wd_48
    · exact wd_153
    · exact wd_157
theorem laid : laidOutB EE.P = true := by kernel_rfl
theorem mapped : mapsRowed EE.P = true := by kernel_rfl
theorem sized : ((List.range EE.P.types.size).all fun t => match EE.P.underlying t with | some (.slice e) => decide (0 < EE.P.cellsOf e) | _ => true) = true := by kernel_rfl
theorem own : ownKnob EE.P.godebug = none := by kernel_rfl
end AM
