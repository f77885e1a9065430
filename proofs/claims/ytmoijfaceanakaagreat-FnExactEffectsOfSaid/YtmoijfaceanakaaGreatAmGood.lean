/- The frame's facts on the program's types: written by gen/env.py. -/
import Derived.Test.YtmoijfaceanakaaGreatAmProg
import Derived.Test.YtmoijfaceanakaaGreatAmKinds
import Derived.KernelRfl
namespace AM
open Go
set_option maxRecDepth 100000
theorem tk_3 : tk EE 8 3 = some (Cd.kinds .int) := by kernel_rfl
theorem tk_5 : tk EE 8 5 = some (Cd.kinds .byte) := by kernel_rfl
theorem tk_9 : tk EE 8 9 = some (Cd.kinds .str) := by kernel_rfl
theorem tk_110 : tk EE 8 110 = some (Cd.kinds .eVal) := by kernel_rfl
theorem tk_166 : tk EE 8 166 = some (Cd.kinds .lVal) := by kernel_rfl
theorem tk_108 : tk EE 8 108 = some (Cd.kinds .eFact) := by kernel_rfl
theorem tk_165 : tk EE 8 165 = some (Cd.kinds .lFact) := by kernel_rfl
theorem tk_178 : tk EE 8 178 = some (Cd.kinds .eItem) := by kernel_rfl
theorem tk_234 : tk EE 8 234 = some (Cd.kinds .lItem) := by kernel_rfl
theorem tk_43 : tk EE 8 43 = some (Cd.kinds .eStore) := by kernel_rfl
theorem tk_27 : tk EE 8 27 = some (Cd.kinds .lStore) := by kernel_rfl
theorem tk_253 : tk EE 8 253 = some (Cd.kinds .eArg) := by kernel_rfl
theorem tk_279 : tk EE 8 279 = some (Cd.kinds .lArg) := by kernel_rfl
theorem tk_217 : tk EE 8 217 = some (Cd.kinds .ePat) := by kernel_rfl
theorem tk_276 : tk EE 8 276 = some (Cd.kinds .lPat) := by kernel_rfl
theorem tk_222 : tk EE 8 222 = some (Cd.kinds .eBind) := by kernel_rfl
theorem tk_214 : tk EE 8 214 = some (Cd.kinds .lBind) := by kernel_rfl
theorem tk_255 : tk EE 8 255 = some (Cd.kinds .eCond) := by kernel_rfl
theorem tk_281 : tk EE 8 281 = some (Cd.kinds .lCond) := by kernel_rfl
theorem tk_270 : tk EE 8 270 = some (Cd.kinds .eExpr) := by kernel_rfl
theorem tk_320 : tk EE 8 320 = some (Cd.kinds .lExpr) := by kernel_rfl
theorem tk_145 : tk EE 8 145 = some (Cd.kinds .eAct) := by kernel_rfl
theorem tk_285 : tk EE 8 285 = some (Cd.kinds .lAct) := by kernel_rfl
theorem tk_138 : tk EE 8 138 = some (Cd.kinds .eRule) := by kernel_rfl
theorem tk_160 : tk EE 8 160 = some (Cd.kinds .lRule) := by kernel_rfl
theorem tk_39 : tk EE 8 39 = some (Cd.kinds .eDef) := by kernel_rfl
theorem tk_24 : tk EE 8 24 = some (Cd.kinds .lDef) := by kernel_rfl
theorem tk_77 : tk EE 8 77 = some (Cd.kinds .eMatch) := by kernel_rfl
theorem tk_70 : tk EE 8 70 = some (Cd.kinds .lMatch) := by kernel_rfl
theorem tk_140 : tk EE 8 140 = some (Cd.kinds .eEffect) := by kernel_rfl
theorem tk_184 : tk EE 8 184 = some (Cd.kinds .eTimer) := by kernel_rfl
theorem tk_171 : tk EE 8 171 = some (Cd.kinds .lTimer) := by kernel_rfl
theorem tk_112 : tk EE 8 112 = some (Cd.kinds .eTask) := by kernel_rfl
theorem tk_168 : tk EE 8 168 = some (Cd.kinds .lTask) := by kernel_rfl
theorem tk_186 : tk EE 8 186 = some (Cd.kinds .eUndo) := by kernel_rfl
theorem tk_174 : tk EE 8 174 = some (Cd.kinds .lUndo) := by kernel_rfl
theorem tk_49 : tk EE 8 49 = some (Cd.kinds .eInst) := by kernel_rfl
theorem tk_33 : tk EE 8 33 = some (Cd.kinds .lInst) := by kernel_rfl
theorem tk_124 : tk EE 8 124 = some (Cd.kinds .eWork) := by kernel_rfl
theorem tk_204 : tk EE 8 204 = some (Cd.kinds .lWork) := by kernel_rfl
theorem tk_63 : tk EE 8 63 = some (Cd.kinds .eBook) := by kernel_rfl
theorem tk_57 : tk EE 8 57 = some (Cd.kinds .lBook) := by kernel_rfl
theorem wd_3 : EE.P.cellsOf 3 = UU.wd .int := by kernel_rfl
theorem wd_5 : EE.P.cellsOf 5 = UU.wd .byte := by kernel_rfl
theorem wd_9 : EE.P.cellsOf 9 = UU.wd .str := by kernel_rfl
theorem wd_110 : EE.P.cellsOf 110 = UU.wd .eVal := by kernel_rfl
theorem wd_166 : EE.P.cellsOf 166 = UU.wd .lVal := by kernel_rfl
theorem wd_108 : EE.P.cellsOf 108 = UU.wd .eFact := by kernel_rfl
theorem wd_165 : EE.P.cellsOf 165 = UU.wd .lFact := by kernel_rfl
theorem wd_178 : EE.P.cellsOf 178 = UU.wd .eItem := by kernel_rfl
theorem wd_234 : EE.P.cellsOf 234 = UU.wd .lItem := by kernel_rfl
theorem wd_43 : EE.P.cellsOf 43 = UU.wd .eStore := by kernel_rfl
theorem wd_27 : EE.P.cellsOf 27 = UU.wd .lStore := by kernel_rfl
theorem wd_253 : EE.P.cellsOf 253 = UU.wd .eArg := by kernel_rfl
theorem wd_279 : EE.P.cellsOf 279 = UU.wd .lArg := by kernel_rfl
theorem wd_217 : EE.P.cellsOf 217 = UU.wd .ePat := by kernel_rfl
theorem wd_276 : EE.P.cellsOf 276 = UU.wd .lPat := by kernel_rfl
theorem wd_222 : EE.P.cellsOf 222 = UU.wd .eBind := by kernel_rfl
theorem wd_214 : EE.P.cellsOf 214 = UU.wd .lBind := by kernel_rfl
theorem wd_255 : EE.P.cellsOf 255 = UU.wd .eCond := by kernel_rfl
theorem wd_281 : EE.P.cellsOf 281 = UU.wd .lCond := by kernel_rfl
theorem wd_270 : EE.P.cellsOf 270 = UU.wd .eExpr := by kernel_rfl
theorem wd_320 : EE.P.cellsOf 320 = UU.wd .lExpr := by kernel_rfl
theorem wd_145 : EE.P.cellsOf 145 = UU.wd .eAct := by kernel_rfl
theorem wd_285 : EE.P.cellsOf 285 = UU.wd .lAct := by kernel_rfl
theorem wd_138 : EE.P.cellsOf 138 = UU.wd .eRule := by kernel_rfl
theorem wd_160 : EE.P.cellsOf 160 = UU.wd .lRule := by kernel_rfl
theorem wd_39 : EE.P.cellsOf 39 = UU.wd .eDef := by kernel_rfl
theorem wd_24 : EE.P.cellsOf 24 = UU.wd .lDef := by kernel_rfl
theorem wd_77 : EE.P.cellsOf 77 = UU.wd .eMatch := by kernel_rfl
theorem wd_70 : EE.P.cellsOf 70 = UU.wd .lMatch := by kernel_rfl
theorem wd_140 : EE.P.cellsOf 140 = UU.wd .eEffect := by kernel_rfl
theorem wd_184 : EE.P.cellsOf 184 = UU.wd .eTimer := by kernel_rfl
theorem wd_171 : EE.P.cellsOf 171 = UU.wd .lTimer := by kernel_rfl
theorem wd_112 : EE.P.cellsOf 112 = UU.wd .eTask := by kernel_rfl
theorem wd_168 : EE.P.cellsOf 168 = UU.wd .lTask := by kernel_rfl
theorem wd_186 : EE.P.cellsOf 186 = UU.wd .eUndo := by kernel_rfl
theorem wd_174 : EE.P.cellsOf 174 = UU.wd .lUndo := by kernel_rfl
theorem wd_49 : EE.P.cellsOf 49 = UU.wd .eInst := by kernel_rfl
theorem wd_33 : EE.P.cellsOf 33 = UU.wd .lInst := by kernel_rfl
theorem wd_124 : EE.P.cellsOf 124 = UU.wd .eWork := by kernel_rfl
theorem wd_204 : EE.P.cellsOf 204 = UU.wd .lWork := by kernel_rfl
theorem wd_63 : EE.P.cellsOf 63 = UU.wd .eBook := by kernel_rfl
theorem wd_57 : EE.P.cellsOf 57 = UU.wd .lBook := by kernel_rfl
theorem code_mem {l : List (TypeId × Cd)} {e : TypeId} {τ : Cd} (h : codeOf (U := UU) l e = some τ) : (e, τ) ∈ l := by
  induction l with
  | nil => cases h
  | cons p l ih =>
    obtain ⟨a, b⟩ := p
    simp only [codeOf] at h
    cases hb : Nat.beq a e <;> rw [hb] at h <;> simp only [cond_true, cond_false] at h
    · exact List.mem_cons_of_mem _ (ih h)
    · cases h
      rw [Nat.eq_of_beq_eq_true hb]
      exact List.mem_cons_self
theorem kgood : KGood EE Cd.kinds := by
  refine ⟨fun e τ h => ?_, fun e τ h => ?_, kinds_dec⟩
  · have := code_mem (l := tyl) h
    simp only [tyl, List.mem_cons, Prod.mk.injEq, List.not_mem_nil, or_false] at this
    rcases this with ⟨rfl, rfl⟩ | ⟨rfl, rfl⟩ | ⟨rfl, rfl⟩ | ⟨rfl, rfl⟩ | ⟨rfl, rfl⟩ | ⟨rfl, rfl⟩ | ⟨rfl, rfl⟩ | ⟨rfl, rfl⟩ | ⟨rfl, rfl⟩ | ⟨rfl, rfl⟩ | ⟨rfl, rfl⟩ | ⟨rfl, rfl⟩ | ⟨rfl, rfl⟩ | ⟨rfl, rfl⟩ | ⟨rfl, rfl⟩ | ⟨rfl, rfl⟩ | ⟨rfl, rfl⟩ | ⟨rfl, rfl⟩ | ⟨rfl, rfl⟩ | ⟨rfl, rfl⟩ | ⟨rfl, rfl⟩ | ⟨rfl, rfl⟩ | ⟨rfl, rfl⟩ | ⟨rfl, rfl⟩ | ⟨rfl, rfl⟩ | ⟨rfl, rfl⟩ | ⟨rfl, rfl⟩ | ⟨rfl, rfl⟩ | ⟨rfl, rfl⟩ | ⟨rfl, rfl⟩ | ⟨rfl, rfl⟩ | ⟨rfl, rfl⟩ | ⟨rfl, rfl⟩ | ⟨rfl, rfl⟩ | ⟨rfl, rfl⟩ | ⟨rfl, rfl⟩ | ⟨rfl, rfl⟩ | ⟨rfl, rfl⟩ | ⟨rfl, rfl⟩ | ⟨rfl, rfl⟩ | ⟨rfl, rfl⟩ | ⟨rfl, rfl⟩
    · exact tk_3
    · exact tk_5
    · exact tk_9
    · exact tk_110
    · exact tk_166
    · exact tk_108
    · exact tk_165
    · exact tk_178
    · exact tk_234
    · exact tk_43
    · exact tk_27
    · exact tk_253
    · exact tk_279
    · exact tk_217
    · exact tk_276
    · exact tk_222
    · exact tk_214
    · exact tk_255
    · exact tk_281
    · exact tk_270
    · exact tk_320
    · exact tk_145
    · exact tk_285
    · exact tk_138
    · exact tk_160
    · exact tk_39
    · exact tk_24
    · exact tk_77
    · exact tk_70
    · exact tk_140
    · exact tk_184
    · exact tk_171
    · exact tk_112
    · exact tk_168
    · exact tk_186
    · exact tk_174
    · exact tk_49
    · exact tk_33
    · exact tk_124
    · exact tk_204
    · exact tk_63
    · exact tk_57
  · have := code_mem (l := tyl) h
    simp only [tyl, List.mem_cons, Prod.mk.injEq, List.not_mem_nil, or_false] at this
    rcases this with ⟨rfl, rfl⟩ | ⟨rfl, rfl⟩ | ⟨rfl, rfl⟩ | ⟨rfl, rfl⟩ | ⟨rfl, rfl⟩ | ⟨rfl, rfl⟩ | ⟨rfl, rfl⟩ | ⟨rfl, rfl⟩ | ⟨rfl, rfl⟩ | ⟨rfl, rfl⟩ | ⟨rfl, rfl⟩ | ⟨rfl, rfl⟩ | ⟨rfl, rfl⟩ | ⟨rfl, rfl⟩ | ⟨rfl, rfl⟩ | ⟨rfl, rfl⟩ | ⟨rfl, rfl⟩ | ⟨rfl, rfl⟩ | ⟨rfl, rfl⟩ | ⟨rfl, rfl⟩ | ⟨rfl, rfl⟩ | ⟨rfl, rfl⟩ | ⟨rfl, rfl⟩ | ⟨rfl, rfl⟩ | ⟨rfl, rfl⟩ | ⟨rfl, rfl⟩ | ⟨rfl, rfl⟩ | ⟨rfl, rfl⟩ | ⟨rfl, rfl⟩ | ⟨rfl, rfl⟩ | ⟨rfl, rfl⟩ | ⟨rfl, rfl⟩ | ⟨rfl, rfl⟩ | ⟨rfl, rfl⟩ | ⟨rfl, rfl⟩ | ⟨rfl, rfl⟩ | ⟨rfl, rfl⟩ | ⟨rfl, rfl⟩ | ⟨rfl, rfl⟩ | ⟨rfl, rfl⟩ | ⟨rfl, rfl⟩ | ⟨rfl, rfl⟩
    · exact wd_3
    · exact wd_5
    · exact wd_9
    · exact wd_110
    · exact wd_166
    · exact wd_108
    · exact wd_165
    · exact wd_178
    · exact wd_234
    · exact wd_43
    · exact wd_27
    · exact wd_253
    · exact wd_279
    · exact wd_217
    · exact wd_276
    · exact wd_222
    · exact wd_214
    · exact wd_255
    · exact wd_281
    · exact wd_270
    · exact wd_320
    · exact wd_145
    · exact wd_285
    · exact wd_138
    · exact wd_160
    · exact wd_39
    · exact wd_24
    · exact wd_77
    · exact wd_70
    · exact wd_140
    · exact wd_184
    · exact wd_171
    · exact wd_112
    · exact wd_168
    · exact wd_186
    · exact wd_174
    · exact wd_49
    · exact wd_33
    · exact wd_124
    · exact wd_204
    · exact wd_63
    · exact wd_57
theorem laid : laidOutB EE.P = true := by kernel_rfl
theorem mapped : mapsRowed EE.P = true := by kernel_rfl
theorem sized : ((List.range EE.P.types.size).all fun t => match EE.P.underlying t with | some (.slice e) => decide (0 < EE.P.cellsOf e) | _ => true) = true := by kernel_rfl
theorem own : ownKnob EE.P.godebug = none := by kernel_rfl
end AM
