/- The frame's facts on the program's types: written by gen/env.py. -/
import Derived.Test.YtmkeifamnehobaaGreatAmProg
import Derived.Test.YtmkeifamnehobaaGreatAmKinds
import Derived.KernelRfl
namespace AM
open Go
set_option maxRecDepth 100000
theorem tk_3 : tk EE 8 3 = some (Cd.kinds .int) := by kernel_rfl
theorem tk_5 : tk EE 8 5 = some (Cd.kinds .byte) := by kernel_rfl
theorem tk_9 : tk EE 8 9 = some (Cd.kinds .str) := by kernel_rfl
theorem tk_152 : tk EE 8 152 = some (Cd.kinds .eVal) := by kernel_rfl
theorem tk_119 : tk EE 8 119 = some (Cd.kinds .lVal) := by kernel_rfl
theorem tk_64 : tk EE 8 64 = some (Cd.kinds .eFact) := by kernel_rfl
theorem tk_59 : tk EE 8 59 = some (Cd.kinds .lFact) := by kernel_rfl
theorem tk_196 : tk EE 8 196 = some (Cd.kinds .eItem) := by kernel_rfl
theorem tk_193 : tk EE 8 193 = some (Cd.kinds .lItem) := by kernel_rfl
theorem tk_38 : tk EE 8 38 = some (Cd.kinds .eStore) := by kernel_rfl
theorem tk_27 : tk EE 8 27 = some (Cd.kinds .lStore) := by kernel_rfl
theorem tk_232 : tk EE 8 232 = some (Cd.kinds .eArg) := by kernel_rfl
theorem tk_249 : tk EE 8 249 = some (Cd.kinds .lArg) := by kernel_rfl
theorem tk_229 : tk EE 8 229 = some (Cd.kinds .ePat) := by kernel_rfl
theorem tk_246 : tk EE 8 246 = some (Cd.kinds .lPat) := by kernel_rfl
theorem tk_240 : tk EE 8 240 = some (Cd.kinds .eBind) := by kernel_rfl
theorem tk_258 : tk EE 8 258 = some (Cd.kinds .lBind) := by kernel_rfl
theorem tk_234 : tk EE 8 234 = some (Cd.kinds .eCond) := by kernel_rfl
theorem tk_251 : tk EE 8 251 = some (Cd.kinds .lCond) := by kernel_rfl
theorem tk_281 : tk EE 8 281 = some (Cd.kinds .eExpr) := by kernel_rfl
theorem tk_300 : tk EE 8 300 = some (Cd.kinds .lExpr) := by kernel_rfl
theorem tk_237 : tk EE 8 237 = some (Cd.kinds .eAct) := by kernel_rfl
theorem tk_255 : tk EE 8 255 = some (Cd.kinds .lAct) := by kernel_rfl
theorem tk_145 : tk EE 8 145 = some (Cd.kinds .eRule) := by kernel_rfl
theorem tk_110 : tk EE 8 110 = some (Cd.kinds .lRule) := by kernel_rfl
theorem tk_49 : tk EE 8 49 = some (Cd.kinds .eDef) := by kernel_rfl
theorem tk_24 : tk EE 8 24 = some (Cd.kinds .lDef) := by kernel_rfl
theorem tk_150 : tk EE 8 150 = some (Cd.kinds .eMatch) := by kernel_rfl
theorem tk_116 : tk EE 8 116 = some (Cd.kinds .lMatch) := by kernel_rfl
theorem tk_157 : tk EE 8 157 = some (Cd.kinds .eTimer) := by kernel_rfl
theorem tk_124 : tk EE 8 124 = some (Cd.kinds .lTimer) := by kernel_rfl
theorem tk_154 : tk EE 8 154 = some (Cd.kinds .eTask) := by kernel_rfl
theorem tk_121 : tk EE 8 121 = some (Cd.kinds .lTask) := by kernel_rfl
theorem tk_160 : tk EE 8 160 = some (Cd.kinds .eUndo) := by kernel_rfl
theorem tk_127 : tk EE 8 127 = some (Cd.kinds .lUndo) := by kernel_rfl
theorem tk_44 : tk EE 8 44 = some (Cd.kinds .eInst) := by kernel_rfl
theorem tk_33 : tk EE 8 33 = some (Cd.kinds .lInst) := by kernel_rfl
theorem wd_3 : EE.P.cellsOf 3 = UU.wd .int := by kernel_rfl
theorem wd_5 : EE.P.cellsOf 5 = UU.wd .byte := by kernel_rfl
theorem wd_9 : EE.P.cellsOf 9 = UU.wd .str := by kernel_rfl
theorem wd_152 : EE.P.cellsOf 152 = UU.wd .eVal := by kernel_rfl
theorem wd_119 : EE.P.cellsOf 119 = UU.wd .lVal := by kernel_rfl
theorem wd_64 : EE.P.cellsOf 64 = UU.wd .eFact := by kernel_rfl
theorem wd_59 : EE.P.cellsOf 59 = UU.wd .lFact := by kernel_rfl
theorem wd_196 : EE.P.cellsOf 196 = UU.wd .eItem := by kernel_rfl
theorem wd_193 : EE.P.cellsOf 193 = UU.wd .lItem := by kernel_rfl
theorem wd_38 : EE.P.cellsOf 38 = UU.wd .eStore := by kernel_rfl
theorem wd_27 : EE.P.cellsOf 27 = UU.wd .lStore := by kernel_rfl
theorem wd_232 : EE.P.cellsOf 232 = UU.wd .eArg := by kernel_rfl
theorem wd_249 : EE.P.cellsOf 249 = UU.wd .lArg := by kernel_rfl
theorem wd_229 : EE.P.cellsOf 229 = UU.wd .ePat := by kernel_rfl
theorem wd_246 : EE.P.cellsOf 246 = UU.wd .lPat := by kernel_rfl
theorem wd_240 : EE.P.cellsOf 240 = UU.wd .eBind := by kernel_rfl
theorem wd_258 : EE.P.cellsOf 258 = UU.wd .lBind := by kernel_rfl
theorem wd_234 : EE.P.cellsOf 234 = UU.wd .eCond := by kernel_rfl
theorem wd_251 : EE.P.cellsOf 251 = UU.wd .lCond := by kernel_rfl
theorem wd_281 : EE.P.cellsOf 281 = UU.wd .eExpr := by kernel_rfl
theorem wd_300 : EE.P.cellsOf 300 = UU.wd .lExpr := by kernel_rfl
theorem wd_237 : EE.P.cellsOf 237 = UU.wd .eAct := by kernel_rfl
theorem wd_255 : EE.P.cellsOf 255 = UU.wd .lAct := by kernel_rfl
theorem wd_145 : EE.P.cellsOf 145 = UU.wd .eRule := by kernel_rfl
theorem wd_110 : EE.P.cellsOf 110 = UU.wd .lRule := by kernel_rfl
theorem wd_49 : EE.P.cellsOf 49 = UU.wd .eDef := by kernel_rfl
theorem wd_24 : EE.P.cellsOf 24 = UU.wd .lDef := by kernel_rfl
theorem wd_150 : EE.P.cellsOf 150 = UU.wd .eMatch := by kernel_rfl
theorem wd_116 : EE.P.cellsOf 116 = UU.wd .lMatch := by kernel_rfl
theorem wd_157 : EE.P.cellsOf 157 = UU.wd .eTimer := by kernel_rfl
theorem wd_124 : EE.P.cellsOf 124 = UU.wd .lTimer := by kernel_rfl
theorem wd_154 : EE.P.cellsOf 154 = UU.wd .eTask := by kernel_rfl
theorem wd_121 : EE.P.cellsOf 121 = UU.wd .lTask := by kernel_rfl
theorem wd_160 : EE.P.cellsOf 160 = UU.wd .eUndo := by kernel_rfl
theorem wd_127 : EE.P.cellsOf 127 = UU.wd .lUndo := by kernel_rfl
theorem wd_44 : EE.P.cellsOf 44 = UU.wd .eInst := by kernel_rfl
theorem wd_33 : EE.P.cellsOf 33 = UU.wd .lInst := by kernel_rfl
theorem code_mem {l : List (TypeId × Cd)} {e : TypeId} {τ : Cd} (h : codeOf (U := UU) l e = some τ) : (e, τ) ∈ l := by
  induction l with
  | nil => cases h
  | cons p l ih =>
    obtain ⟨a, b⟩ := p
    simp only [codeOf] at h
    cases hb : Nat.beq a e <;> rw [hb] at h <;> simp only [cond_true, cond_false] at h
    · exact List.mem_cons_of_mem _ (ih h)
    · cases h
      rw [Nat.eq_of_beq_eq_true hb]
      exact List.mem_cons_self
theorem kgood : KGood EE Cd.kinds := by
  refine ⟨fun e τ h => ?_, fun e τ h => ?_, kinds_dec⟩
  · have := code_mem (l := tyl) h
    simp only [tyl, List.mem_cons, Prod.mk.injEq, List.not_mem_nil, or_false] at this
    rcases this with ⟨rfl, rfl⟩ | ⟨rfl, rfl⟩ | ⟨rfl, rfl⟩ | ⟨rfl, rfl⟩ | ⟨rfl, rfl⟩ | ⟨rfl, rfl⟩ | ⟨rfl, rfl⟩ | ⟨rfl, rfl⟩ | ⟨rfl, rfl⟩ | ⟨rfl, rfl⟩ | ⟨rfl, rfl⟩ | ⟨rfl, rfl⟩ | ⟨rfl, rfl⟩ | ⟨rfl, rfl⟩ | ⟨rfl, rfl⟩ | ⟨rfl, rfl⟩ | ⟨rfl, rfl⟩ | ⟨rfl, rfl⟩ | ⟨rfl, rfl⟩ | ⟨rfl, rfl⟩ | ⟨rfl, rfl⟩ | ⟨rfl, rfl⟩ | ⟨rfl, rfl⟩ | ⟨rfl, rfl⟩ | ⟨rfl, rfl⟩ | ⟨rfl, rfl⟩ | ⟨rfl, rfl⟩ | ⟨rfl, rfl⟩ | ⟨rfl, rfl⟩ | ⟨rfl, rfl⟩ | ⟨rfl, rfl⟩ | ⟨rfl, rfl⟩ | ⟨rfl, rfl⟩ | ⟨rfl, rfl⟩ | ⟨rfl, rfl⟩ | ⟨rfl, rfl⟩ | ⟨rfl, rfl⟩
    · exact tk_3
    · exact tk_5
    · exact tk_9
    · exact tk_152
    · exact tk_119
    · exact tk_64
    · exact tk_59
    · exact tk_196
    · exact tk_193
    · exact tk_38
    · exact tk_27
    · exact tk_232
    · exact tk_249
    · exact tk_229
    · exact tk_246
    · exact tk_240
    · exact tk_258
    · exact tk_234
    · exact tk_251
    · exact tk_281
    · exact tk_300
    · exact tk_237
    · exact tk_255
    · exact tk_145
    · exact tk_110
    · exact tk_49
    · exact tk_24
    · exact tk_150
    · exact tk_116
    · exact tk_157
    · exact tk_124
    · exact tk_154
    · exact tk_121
    · exact tk_160
    · exact tk_127
    · exact tk_44
    · exact tk_33
  · have := code_mem (l := tyl) h
    simp only [tyl, List.mem_cons, Prod.mk.injEq, List.not_mem_nil, or_false] at this
    rcases this with ⟨rfl, rfl⟩ | ⟨rfl, rfl⟩ | ⟨rfl, rfl⟩ | ⟨rfl, rfl⟩ | ⟨rfl, rfl⟩ | ⟨rfl, rfl⟩ | ⟨rfl, rfl⟩ | ⟨rfl, rfl⟩ | ⟨rfl, rfl⟩ | ⟨rfl, rfl⟩ | ⟨rfl, rfl⟩ | ⟨rfl, rfl⟩ | ⟨rfl, rfl⟩ | ⟨rfl, rfl⟩ | ⟨rfl, rfl⟩ | ⟨rfl, rfl⟩ | ⟨rfl, rfl⟩ | ⟨rfl, rfl⟩ | ⟨rfl, rfl⟩ | ⟨rfl, rfl⟩ | ⟨rfl, rfl⟩ | ⟨rfl, rfl⟩ | ⟨rfl, rfl⟩ | ⟨rfl, rfl⟩ | ⟨rfl, rfl⟩ | ⟨rfl, rfl⟩ | ⟨rfl, rfl⟩ | ⟨rfl, rfl⟩ | ⟨rfl, rfl⟩ | ⟨rfl, rfl⟩ | ⟨rfl, rfl⟩ | ⟨rfl, rfl⟩ | ⟨rfl, rfl⟩ | ⟨rfl, rfl⟩ | ⟨rfl, rfl⟩ | ⟨rfl, rfl⟩ | ⟨rfl, rfl⟩
    · exact wd_3
    · exact wd_5
    · exact wd_9
    · exact wd_152
    · exact wd_119
    · exact wd_64
    · exact wd_59
    · exact wd_196
    · exact wd_193
    · exact wd_38
    · exact wd_27
    · exact wd_232
    · exact wd_249
    · exact wd_229
    · exact wd_246
    · exact wd_240
    · exact wd_258
    · exact wd_234
    · exact wd_251
    · exact wd_281
    · exact wd_300
    · exact wd_237
    · exact wd_255
    · exact wd_145
    · exact wd_110
    · exact wd_49
    · exact wd_24
    · exact wd_150
    · exact wd_116
    · exact wd_157
    · exact wd_124
    · exact wd_154
    · exact wd_121
    · exact wd_160
    · exact wd_127
    · exact wd_44
    · exact wd_33
theorem laid : laidOutB EE.P = true := by kernel_rfl
theorem mapped : mapsRowed EE.P = true := by kernel_rfl
theorem sized : ((List.range EE.P.types.size).all fun t => match EE.P.underlying t with | some (.slice e) => decide (0 < EE.P.cellsOf e) | _ => true) = true := by kernel_rfl
theorem own : ownKnob EE.P.godebug = none := by kernel_rfl
end AM
