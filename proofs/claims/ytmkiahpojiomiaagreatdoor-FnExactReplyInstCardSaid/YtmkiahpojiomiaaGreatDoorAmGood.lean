/- The frame's facts on the program's types: written by gen/env.py. -/
import Derived.Test.YtmkiahpojiomiaaGreatDoorAmProg
import Derived.Test.YtmkiahpojiomiaaGreatDoorAmKinds
import Derived.KernelRfl
namespace AM
open Go
set_option maxRecDepth 100000
theorem tk_3 : tk EE 8 3 = some (Cd.kinds .int) := by kernel_rfl
theorem tk_5 : tk EE 8 5 = some (Cd.kinds .byte) := by kernel_rfl
theorem tk_9 : tk EE 8 9 = some (Cd.kinds .str) := by kernel_rfl
theorem tk_55 : tk EE 8 55 = some (Cd.kinds .eVal) := by kernel_rfl
theorem tk_35 : tk EE 8 35 = some (Cd.kinds .lVal) := by kernel_rfl
theorem tk_145 : tk EE 8 145 = some (Cd.kinds .eFact) := by kernel_rfl
theorem tk_107 : tk EE 8 107 = some (Cd.kinds .lFact) := by kernel_rfl
theorem tk_187 : tk EE 8 187 = some (Cd.kinds .eItem) := by kernel_rfl
theorem tk_183 : tk EE 8 183 = some (Cd.kinds .lItem) := by kernel_rfl
theorem tk_41 : tk EE 8 41 = some (Cd.kinds .eStore) := by kernel_rfl
theorem tk_27 : tk EE 8 27 = some (Cd.kinds .lStore) := by kernel_rfl
theorem tk_233 : tk EE 8 233 = some (Cd.kinds .eArg) := by kernel_rfl
theorem tk_248 : tk EE 8 248 = some (Cd.kinds .lArg) := by kernel_rfl
theorem tk_230 : tk EE 8 230 = some (Cd.kinds .ePat) := by kernel_rfl
theorem tk_245 : tk EE 8 245 = some (Cd.kinds .lPat) := by kernel_rfl
theorem tk_241 : tk EE 8 241 = some (Cd.kinds .eBind) := by kernel_rfl
theorem tk_257 : tk EE 8 257 = some (Cd.kinds .lBind) := by kernel_rfl
theorem tk_235 : tk EE 8 235 = some (Cd.kinds .eCond) := by kernel_rfl
theorem tk_250 : tk EE 8 250 = some (Cd.kinds .lCond) := by kernel_rfl
theorem tk_290 : tk EE 8 290 = some (Cd.kinds .eExpr) := by kernel_rfl
theorem tk_312 : tk EE 8 312 = some (Cd.kinds .lExpr) := by kernel_rfl
theorem tk_238 : tk EE 8 238 = some (Cd.kinds .eAct) := by kernel_rfl
theorem tk_254 : tk EE 8 254 = some (Cd.kinds .lAct) := by kernel_rfl
theorem tk_136 : tk EE 8 136 = some (Cd.kinds .eRule) := by kernel_rfl
theorem tk_97 : tk EE 8 97 = some (Cd.kinds .lRule) := by kernel_rfl
theorem tk_52 : tk EE 8 52 = some (Cd.kinds .eDef) := by kernel_rfl
theorem tk_24 : tk EE 8 24 = some (Cd.kinds .lDef) := by kernel_rfl
theorem tk_141 : tk EE 8 141 = some (Cd.kinds .eMatch) := by kernel_rfl
theorem tk_103 : tk EE 8 103 = some (Cd.kinds .lMatch) := by kernel_rfl
theorem tk_150 : tk EE 8 150 = some (Cd.kinds .eTimer) := by kernel_rfl
theorem tk_112 : tk EE 8 112 = some (Cd.kinds .lTimer) := by kernel_rfl
theorem tk_147 : tk EE 8 147 = some (Cd.kinds .eTask) := by kernel_rfl
theorem tk_109 : tk EE 8 109 = some (Cd.kinds .lTask) := by kernel_rfl
theorem tk_153 : tk EE 8 153 = some (Cd.kinds .eUndo) := by kernel_rfl
theorem tk_115 : tk EE 8 115 = some (Cd.kinds .lUndo) := by kernel_rfl
theorem tk_47 : tk EE 8 47 = some (Cd.kinds .eInst) := by kernel_rfl
theorem tk_33 : tk EE 8 33 = some (Cd.kinds .lInst) := by kernel_rfl
theorem wd_3 : EE.P.cellsOf 3 = UU.wd .int := by kernel_rfl
theorem wd_5 : EE.P.cellsOf 5 = UU.wd .byte := by kernel_rfl
theorem wd_9 : EE.P.cellsOf 9 = UU.wd .str := by kernel_rfl
theorem wd_55 : EE.P.cellsOf 55 = UU.wd .eVal := by kernel_rfl
theorem wd_35 : EE.P.cellsOf 35 = UU.wd .lVal := by kernel_rfl
theorem wd_145 : EE.P.cellsOf 145 = UU.wd .eFact := by kernel_rfl
theorem wd_107 : EE.P.cellsOf 107 = UU.wd .lFact := by kernel_rfl
theorem wd_187 : EE.P.cellsOf 187 = UU.wd .eItem := by kernel_rfl
theorem wd_183 : EE.P.cellsOf 183 = UU.wd .lItem := by kernel_rfl
theorem wd_41 : EE.P.cellsOf 41 = UU.wd .eStore := by kernel_rfl
theorem wd_27 : EE.P.cellsOf 27 = UU.wd .lStore := by kernel_rfl
theorem wd_233 : EE.P.cellsOf 233 = UU.wd .eArg := by kernel_rfl
theorem wd_248 : EE.P.cellsOf 248 = UU.wd .lArg := by kernel_rfl
theorem wd_230 : EE.P.cellsOf 230 = UU.wd .ePat := by kernel_rfl
theorem wd_245 : EE.P.cellsOf 245 = UU.wd .lPat := by kernel_rfl
theorem wd_241 : EE.P.cellsOf 241 = UU.wd .eBind := by kernel_rfl
theorem wd_257 : EE.P.cellsOf 257 = UU.wd .lBind := by kernel_rfl
theorem wd_235 : EE.P.cellsOf 235 = UU.wd .eCond := by kernel_rfl
theorem wd_250 : EE.P.cellsOf 250 = UU.wd .lCond := by kernel_rfl
theorem wd_290 : EE.P.cellsOf 290 = UU.wd .eExpr := by kernel_rfl
theorem wd_312 : EE.P.cellsOf 312 = UU.wd .lExpr := by kernel_rfl
theorem wd_238 : EE.P.cellsOf 238 = UU.wd .eAct := by kernel_rfl
theorem wd_254 : EE.P.cellsOf 254 = UU.wd .lAct := by kernel_rfl
theorem wd_136 : EE.P.cellsOf 136 = UU.wd .eRule := by kernel_rfl
theorem wd_97 : EE.P.cellsOf 97 = UU.wd .lRule := by kernel_rfl
theorem wd_52 : EE.P.cellsOf 52 = UU.wd .eDef := by kernel_rfl
theorem wd_24 : EE.P.cellsOf 24 = UU.wd .lDef := by kernel_rfl
theorem wd_141 : EE.P.cellsOf 141 = UU.wd .eMatch := by kernel_rfl
theorem wd_103 : EE.P.cellsOf 103 = UU.wd .lMatch := by kernel_rfl
theorem wd_150 : EE.P.cellsOf 150 = UU.wd .eTimer := by kernel_rfl
theorem wd_112 : EE.P.cellsOf 112 = UU.wd .lTimer := by kernel_rfl
theorem wd_147 : EE.P.cellsOf 147 = UU.wd .eTask := by kernel_rfl
theorem wd_109 : EE.P.cellsOf 109 = UU.wd .lTask := by kernel_rfl
theorem wd_153 : EE.P.cellsOf 153 = UU.wd .eUndo := by kernel_rfl
theorem wd_115 : EE.P.cellsOf 115 = UU.wd .lUndo := by kernel_rfl
theorem wd_47 : EE.P.cellsOf 47 = UU.wd .eInst := by kernel_rfl
theorem wd_33 : EE.P.cellsOf 33 = UU.wd .lInst := by kernel_rfl
theorem code_mem {l : List (TypeId × Cd)} {e : TypeId} {τ : Cd} (h : codeOf (U := UU) l e = some τ) : (e, τ) ∈ l := by
  induction l with
  | nil => cases h
  | cons p l ih =>
    obtain ⟨a, b⟩ := p
    simp only [codeOf] at h
    cases hb : Nat.beq a e <;> rw [hb] at h <;> simp only [cond_true, cond_false] at h
    · exact List.mem_cons_of_mem _ (ih h)
    · cases h
      rw [Nat.eq_of_beq_eq_true hb]
      exact List.mem_cons_self
theorem kgood : KGood EE Cd.kinds := by
  refine ⟨fun e τ h => ?_, fun e τ h => ?_, kinds_dec⟩
  · have := code_mem (l := tyl) h
    simp only [tyl, List.mem_cons, Prod.mk.injEq, List.not_mem_nil, or_false] at this
    rcases this with ⟨rfl, rfl⟩ | ⟨rfl, rfl⟩ | ⟨rfl, rfl⟩ | ⟨rfl, rfl⟩ | ⟨rfl, rfl⟩ | ⟨rfl, rfl⟩ | ⟨rfl, rfl⟩ | ⟨rfl, rfl⟩ | ⟨rfl, rfl⟩ | ⟨rfl, rfl⟩ | ⟨rfl, rfl⟩ | ⟨rfl, rfl⟩ | ⟨rfl, rfl⟩ | ⟨rfl, rfl⟩ | ⟨rfl, rfl⟩ | ⟨rfl, rfl⟩ | ⟨rfl, rfl⟩ | ⟨rfl, rfl⟩ | ⟨rfl, rfl⟩ | ⟨rfl, rfl⟩ | ⟨rfl, rfl⟩ | ⟨rfl, rfl⟩ | ⟨rfl, rfl⟩ | ⟨rfl, rfl⟩ | ⟨rfl, rfl⟩ | ⟨rfl, rfl⟩ | ⟨rfl, rfl⟩ | ⟨rfl, rfl⟩ | ⟨rfl, rfl⟩ | ⟨rfl, rfl⟩ | ⟨rfl, rfl⟩ | ⟨rfl, rfl⟩ | ⟨rfl, rfl⟩ | ⟨rfl, rfl⟩ | ⟨rfl, rfl⟩ | ⟨rfl, rfl⟩ | ⟨rfl, rfl⟩
    · exact tk_3
    · exact tk_5
    · exact tk_9
    · exact tk_55
    · exact tk_35
    · exact tk_145
    · exact tk_107
    · exact tk_187
    · exact tk_183
    · exact tk_41
    · exact tk_27
    · exact tk_233
    · exact tk_248
    · exact tk_230
    · exact tk_245
    · exact tk_241
    · exact tk_257
    · exact tk_235
    · exact tk_250
    · exact tk_290
    · exact tk_312
    · exact tk_238
    · exact tk_254
    · exact tk_136
    · exact tk_97
    · exact tk_52
    · exact tk_24
    · exact tk_141
    · exact tk_103
    · exact tk_150
    · exact tk_112
    · exact tk_147
    · exact tk_109
    · exact tk_153
    · exact tk_115
    · exact tk_47
    · exact tk_33
  · have := code_mem (l := tyl) h
    simp only [tyl, List.mem_cons, Prod.mk.injEq, List.not_mem_nil, or_false] at this
    rcases this with ⟨rfl, rfl⟩ | ⟨rfl, rfl⟩ | ⟨rfl, rfl⟩ | ⟨rfl, rfl⟩ | ⟨rfl, rfl⟩ | ⟨rfl, rfl⟩ | ⟨rfl, rfl⟩ | ⟨rfl, rfl⟩ | ⟨rfl, rfl⟩ | ⟨rfl, rfl⟩ | ⟨rfl, rfl⟩ | ⟨rfl, rfl⟩ | ⟨rfl, rfl⟩ | ⟨rfl, rfl⟩ | ⟨rfl, rfl⟩ | ⟨rfl, rfl⟩ | ⟨rfl, rfl⟩ | ⟨rfl, rfl⟩ | ⟨rfl, rfl⟩ | ⟨rfl, rfl⟩ | ⟨rfl, rfl⟩ | ⟨rfl, rfl⟩ | ⟨rfl, rfl⟩ | ⟨rfl, rfl⟩ | ⟨rfl, rfl⟩ | ⟨rfl, rfl⟩ | ⟨rfl, rfl⟩ | ⟨rfl, rfl⟩ | ⟨rfl, rfl⟩ | ⟨rfl, rfl⟩ | ⟨rfl, rfl⟩ | ⟨rfl, rfl⟩ | ⟨rfl, rfl⟩ | ⟨rfl, rfl⟩ | ⟨rfl, rfl⟩ | ⟨rfl, rfl⟩ | ⟨rfl, rfl⟩
    · exact wd_3
    · exact wd_5
    · exact wd_9
    · exact wd_55
    · exact wd_35
    · exact wd_145
    · exact wd_107
    · exact wd_187
    · exact wd_183
    · exact wd_41
    · exact wd_27
    · exact wd_233
    · exact wd_248
    · exact wd_230
    · exact wd_245
    · exact wd_241
    · exact wd_257
    · exact wd_235
    · exact wd_250
    · exact wd_290
    · exact wd_312
    · exact wd_238
    · exact wd_254
    · exact wd_136
    · exact wd_97
    · exact wd_52
    · exact wd_24
    · exact wd_141
    · exact wd_103
    · exact wd_150
    · exact wd_112
    · exact wd_147
    · exact wd_109
    · exact wd_153
    · exact wd_115
    · exact wd_47
    · exact wd_33
theorem laid : laidOutB EE.P = true := by kernel_rfl
theorem mapped : mapsRowed EE.P = true := by kernel_rfl
theorem sized : ((List.range EE.P.types.size).all fun t => match EE.P.underlying t with | some (.slice e) => decide (0 < EE.P.cellsOf e) | _ => true) = true := by kernel_rfl
theorem own : ownKnob EE.P.godebug = none := by kernel_rfl
end AM
