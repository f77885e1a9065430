/- The frame's facts on the program's types: written by gen/env.py. -/
import Derived.Test.YtceiiofmelhipaaGreatAmProg
import Derived.Test.YtceiiofmelhipaaGreatAmKinds
import Derived.KernelRfl
namespace AM
open Go
set_option maxRecDepth 100000
theorem tk_3 : tk EE 8 3 = some (Cd.kinds .int) := by kernel_rfl
theorem tk_5 : tk EE 8 5 = some (Cd.kinds .byte) := by kernel_rfl
theorem tk_9 : tk EE 8 9 = some (Cd.kinds .str) := by kernel_rfl
theorem tk_150 : tk EE 8 150 = some (Cd.kinds .eVal) := by kernel_rfl
theorem tk_181 : tk EE 8 181 = some (Cd.kinds .lVal) := by kernel_rfl
theorem tk_50 : tk EE 8 50 = some (Cd.kinds .eFact) := by kernel_rfl
theorem tk_180 : tk EE 8 180 = some (Cd.kinds .lFact) := by kernel_rfl
theorem tk_141 : tk EE 8 141 = some (Cd.kinds .eItem) := by kernel_rfl
theorem tk_254 : tk EE 8 254 = some (Cd.kinds .lItem) := by kernel_rfl
theorem tk_29 : tk EE 8 29 = some (Cd.kinds .eStore) := by kernel_rfl
theorem tk_62 : tk EE 8 62 = some (Cd.kinds .lStore) := by kernel_rfl
theorem tk_152 : tk EE 8 152 = some (Cd.kinds .eArg) := by kernel_rfl
theorem tk_304 : tk EE 8 304 = some (Cd.kinds .lArg) := by kernel_rfl
theorem tk_162 : tk EE 8 162 = some (Cd.kinds .ePat) := by kernel_rfl
theorem tk_301 : tk EE 8 301 = some (Cd.kinds .lPat) := by kernel_rfl
theorem tk_214 : tk EE 8 214 = some (Cd.kinds .eBind) := by kernel_rfl
theorem tk_313 : tk EE 8 313 = some (Cd.kinds .lBind) := by kernel_rfl
theorem tk_154 : tk EE 8 154 = some (Cd.kinds .eCond) := by kernel_rfl
theorem tk_306 : tk EE 8 306 = some (Cd.kinds .lCond) := by kernel_rfl
theorem tk_232 : tk EE 8 232 = some (Cd.kinds .eExpr) := by kernel_rfl
theorem tk_349 : tk EE 8 349 = some (Cd.kinds .lExpr) := by kernel_rfl
theorem tk_55 : tk EE 8 55 = some (Cd.kinds .eAct) := by kernel_rfl
theorem tk_310 : tk EE 8 310 = some (Cd.kinds .lAct) := by kernel_rfl
theorem tk_46 : tk EE 8 46 = some (Cd.kinds .eRule) := by kernel_rfl
theorem tk_171 : tk EE 8 171 = some (Cd.kinds .lRule) := by kernel_rfl
theorem tk_26 : tk EE 8 26 = some (Cd.kinds .eDef) := by kernel_rfl
theorem tk_59 : tk EE 8 59 = some (Cd.kinds .lDef) := by kernel_rfl
theorem tk_33 : tk EE 8 33 = some (Cd.kinds .eMatch) := by kernel_rfl
theorem tk_176 : tk EE 8 176 = some (Cd.kinds .lMatch) := by kernel_rfl
theorem tk_52 : tk EE 8 52 = some (Cd.kinds .eEffect) := by kernel_rfl
theorem tk_201 : tk EE 8 201 = some (Cd.kinds .eTimer) := by kernel_rfl
theorem tk_186 : tk EE 8 186 = some (Cd.kinds .lTimer) := by kernel_rfl
theorem tk_198 : tk EE 8 198 = some (Cd.kinds .eTask) := by kernel_rfl
theorem tk_183 : tk EE 8 183 = some (Cd.kinds .lTask) := by kernel_rfl
theorem tk_204 : tk EE 8 204 = some (Cd.kinds .eUndo) := by kernel_rfl
theorem tk_189 : tk EE 8 189 = some (Cd.kinds .lUndo) := by kernel_rfl
theorem tk_78 : tk EE 8 78 = some (Cd.kinds .eInst) := by kernel_rfl
theorem tk_68 : tk EE 8 68 = some (Cd.kinds .lInst) := by kernel_rfl
theorem wd_3 : EE.P.cellsOf 3 = UU.wd .int := by kernel_rfl
theorem wd_5 : EE.P.cellsOf 5 = UU.wd .byte := by kernel_rfl
theorem wd_9 : EE.P.cellsOf 9 = UU.wd .str := by kernel_rfl
theorem wd_150 : EE.P.cellsOf 150 = UU.wd .eVal := by kernel_rfl
theorem wd_181 : EE.P.cellsOf 181 = UU.wd .lVal := by kernel_rfl
theorem wd_50 : EE.P.cellsOf 50 = UU.wd .eFact := by kernel_rfl
theorem wd_180 : EE.P.cellsOf 180 = UU.wd .lFact := by kernel_rfl
theorem wd_141 : EE.P.cellsOf 141 = UU.wd .eItem := by kernel_rfl
theorem wd_254 : EE.P.cellsOf 254 = UU.wd .lItem := by kernel_rfl
theorem wd_29 : EE.P.cellsOf 29 = UU.wd .eStore := by kernel_rfl
theorem wd_62 : EE.P.cellsOf 62 = UU.wd .lStore := by kernel_rfl
theorem wd_152 : EE.P.cellsOf 152 = UU.wd .eArg := by kernel_rfl
theorem wd_304 : EE.P.cellsOf 304 = UU.wd .lArg := by kernel_rfl
theorem wd_162 : EE.P.cellsOf 162 = UU.wd .ePat := by kernel_rfl
theorem wd_301 : EE.P.cellsOf 301 = UU.wd .lPat := by kernel_rfl
theorem wd_214 : EE.P.cellsOf 214 = UU.wd .eBind := by kernel_rfl
theorem wd_313 : EE.P.cellsOf 313 = UU.wd .lBind := by kernel_rfl
theorem wd_154 : EE.P.cellsOf 154 = UU.wd .eCond := by kernel_rfl
theorem wd_306 : EE.P.cellsOf 306 = UU.wd .lCond := by kernel_rfl
theorem wd_232 : EE.P.cellsOf 232 = UU.wd .eExpr := by kernel_rfl
theorem wd_349 : EE.P.cellsOf 349 = UU.wd .lExpr := by kernel_rfl
theorem wd_55 : EE.P.cellsOf 55 = UU.wd .eAct := by kernel_rfl
theorem wd_310 : EE.P.cellsOf 310 = UU.wd .lAct := by kernel_rfl
theorem wd_46 : EE.P.cellsOf 46 = UU.wd .eRule := by kernel_rfl
theorem wd_171 : EE.P.cellsOf 171 = UU.wd .lRule := by kernel_rfl
theorem wd_26 : EE.P.cellsOf 26 = UU.wd .eDef := by kernel_rfl
theorem wd_59 : EE.P.cellsOf 59 = UU.wd .lDef := by kernel_rfl
theorem wd_33 : EE.P.cellsOf 33 = UU.wd .eMatch := by kernel_rfl
theorem wd_176 : EE.P.cellsOf 176 = UU.wd .lMatch := by kernel_rfl
theorem wd_52 : EE.P.cellsOf 52 = UU.wd .eEffect := by kernel_rfl
theorem wd_201 : EE.P.cellsOf 201 = UU.wd .eTimer := by kernel_rfl
theorem wd_186 : EE.P.cellsOf 186 = UU.wd .lTimer := by kernel_rfl
theorem wd_198 : EE.P.cellsOf 198 = UU.wd .eTask := by kernel_rfl
theorem wd_183 : EE.P.cellsOf 183 = UU.wd .lTask := by kernel_rfl
theorem wd_204 : EE.P.cellsOf 204 = UU.wd .eUndo := by kernel_rfl
theorem wd_189 : EE.P.cellsOf 189 = UU.wd .lUndo := by kernel_rfl
theorem wd_78 : EE.P.cellsOf 78 = UU.wd .eInst := by kernel_rfl
theorem wd_68 : EE.P.cellsOf 68 = UU.wd .lInst := by kernel_rfl
theorem code_mem {l : List (TypeId × Cd)} {e : TypeId} {τ : Cd} (h : codeOf (U := UU) l e = some τ) : (e, τ) ∈ l := by
  induction l with
  | nil => cases h
  | cons p l ih =>
    obtain ⟨a, b⟩ := p
    simp only [codeOf] at h
    cases hb : Nat.beq a e <;> rw [hb] at h <;> simp only [cond_true, cond_false] at h
    · exact List.mem_cons_of_mem _ (ih h)
    · cases h
      rw [Nat.eq_of_beq_eq_true hb]
      exact List.mem_cons_self
theorem kgood : KGood EE Cd.kinds := by
  refine ⟨fun e τ h => ?_, fun e τ h => ?_, kinds_dec⟩
  · have := code_mem (l := tyl) h
    simp only [tyl, List.mem_cons, Prod.mk.injEq, List.not_mem_nil, or_false] at this
    rcases this with ⟨rfl, rfl⟩ | ⟨rfl, rfl⟩ | ⟨rfl, rfl⟩ | ⟨rfl, rfl⟩ | ⟨rfl, rfl⟩ | ⟨rfl, rfl⟩ | ⟨rfl, rfl⟩ | ⟨rfl, rfl⟩ | ⟨rfl, rfl⟩ | ⟨rfl, rfl⟩ | ⟨rfl, rfl⟩ | ⟨rfl, rfl⟩ | ⟨rfl, rfl⟩ | ⟨rfl, rfl⟩ | ⟨rfl, rfl⟩ | ⟨rfl, rfl⟩ | ⟨rfl, rfl⟩ | ⟨rfl, rfl⟩ | ⟨rfl, rfl⟩ | ⟨rfl, rfl⟩ | ⟨rfl, rfl⟩ | ⟨rfl, rfl⟩ | ⟨rfl, rfl⟩ | ⟨rfl, rfl⟩ | ⟨rfl, rfl⟩ | ⟨rfl, rfl⟩ | ⟨rfl, rfl⟩ | ⟨rfl, rfl⟩ | ⟨rfl, rfl⟩ | ⟨rfl, rfl⟩ | ⟨rfl, rfl⟩ | ⟨rfl, rfl⟩ | ⟨rfl, rfl⟩ | ⟨rfl, rfl⟩ | ⟨rfl, rfl⟩ | ⟨rfl, rfl⟩ | ⟨rfl, rfl⟩ | ⟨rfl, rfl⟩
    · exact tk_3
    · exact tk_5
    · exact tk_9
    · exact tk_150
    · exact tk_181
    · exact tk_50
    · exact tk_180
    · exact tk_141
    · exact tk_254
    · exact tk_29
    · exact tk_62
    · exact tk_152
    · exact tk_304
    · exact tk_162
    · exact tk_301
    · exact tk_214
    · exact tk_313
    · exact tk_154
    · exact tk_306
    · exact tk_232
    · exact tk_349
    · exact tk_55
    · exact tk_310
    · exact tk_46
    · exact tk_171
    · exact tk_26
    · exact tk_59
    · exact tk_33
    · exact tk_176
    · exact tk_52
    · exact tk_201
    · exact tk_186
    · exact tk_198
    · exact tk_183
    · exact tk_204
    · exact tk_189
    · exact tk_78
    · exact tk_68
  · have := code_mem (l := tyl) h
    simp only [tyl, List.mem_cons, Prod.mk.injEq, List.not_mem_nil, or_false] at this
    rcases this with ⟨rfl, rfl⟩ | ⟨rfl, rfl⟩ | ⟨rfl, rfl⟩ | ⟨rfl, rfl⟩ | ⟨rfl, rfl⟩ | ⟨rfl, rfl⟩ | ⟨rfl, rfl⟩ | ⟨rfl, rfl⟩ | ⟨rfl, rfl⟩ | ⟨rfl, rfl⟩ | ⟨rfl, rfl⟩ | ⟨rfl, rfl⟩ | ⟨rfl, rfl⟩ | ⟨rfl, rfl⟩ | ⟨rfl, rfl⟩ | ⟨rfl, rfl⟩ | ⟨rfl, rfl⟩ | ⟨rfl, rfl⟩ | ⟨rfl, rfl⟩ | ⟨rfl, rfl⟩ | ⟨rfl, rfl⟩ | ⟨rfl, rfl⟩ | ⟨rfl, rfl⟩ | ⟨rfl, rfl⟩ | ⟨rfl, rfl⟩ | ⟨rfl, rfl⟩ | ⟨rfl, rfl⟩ | ⟨rfl, rfl⟩ | ⟨rfl, rfl⟩ | ⟨rfl, rfl⟩ | ⟨rfl, rfl⟩ | ⟨rfl, rfl⟩ | ⟨rfl, rfl⟩ | ⟨rfl, rfl⟩ | ⟨rfl, rfl⟩ | ⟨rfl, rfl⟩ | ⟨rfl, rfl⟩ | ⟨rfl, rfl⟩
    · exact wd_3
    · exact wd_5
    · exact wd_9
    · exact wd_150
    · exact wd_181
    · exact wd_50
    · exact wd_180
    · exact wd_141
    · exact wd_254
    · exact wd_29
    · exact wd_62
    · exact wd_152
    · exact wd_304
    · exact wd_162
    · exact wd_301
    · exact wd_214
    · exact wd_313
    · exact wd_154
    · exact wd_306
    · exact wd_232
    · exact wd_349
    · exact wd_55
    · exact wd_310
    · exact wd_46
    · exact wd_171
    · exact wd_26
    · exact wd_59
    · exact wd_33
    · exact wd_176
    · exact wd_52
    · exact wd_201
    · exact wd_186
    · exact wd_198
    · exact wd_183
    · exact wd_204
    · exact wd_189
    · exact wd_78
    · exact wd_68
theorem laid : laidOutB EE.P = true := by kernel_rfl
theorem mapped : mapsRowed EE.P = true := by kernel_rfl
theorem sized : ((List.range EE.P.types.size).all fun t => match EE.P.underlying t with | some (.slice e) => decide (0 < EE.P.cellsOf e) | _ => true) = true := by kernel_rfl
theorem own : ownKnob EE.P.godebug = none := by kernel_rfl
end AM
