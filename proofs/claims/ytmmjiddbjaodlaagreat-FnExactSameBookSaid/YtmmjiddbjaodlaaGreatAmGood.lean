/- The frame's facts on the program's types: written by gen/env.py. -/
import Derived.Test.YtmmjiddbjaodlaaGreatAmProg
import Derived.Test.YtmmjiddbjaodlaaGreatAmKinds
import Derived.KernelRfl
namespace AM
open Go
set_option maxRecDepth 100000
theorem tk_3 : tk EE 8 3 = some (Cd.kinds .int) := by kernel_rfl
theorem tk_5 : tk EE 8 5 = some (Cd.kinds .byte) := by kernel_rfl
theorem tk_9 : tk EE 8 9 = some (Cd.kinds .str) := by kernel_rfl
theorem tk_105 : tk EE 8 105 = some (Cd.kinds .eVal) := by kernel_rfl
theorem tk_177 : tk EE 8 177 = some (Cd.kinds .lVal) := by kernel_rfl
theorem tk_86 : tk EE 8 86 = some (Cd.kinds .eFact) := by kernel_rfl
theorem tk_176 : tk EE 8 176 = some (Cd.kinds .lFact) := by kernel_rfl
theorem tk_97 : tk EE 8 97 = some (Cd.kinds .eItem) := by kernel_rfl
theorem tk_210 : tk EE 8 210 = some (Cd.kinds .lItem) := by kernel_rfl
theorem tk_42 : tk EE 8 42 = some (Cd.kinds .eStore) := by kernel_rfl
theorem tk_66 : tk EE 8 66 = some (Cd.kinds .lStore) := by kernel_rfl
theorem tk_112 : tk EE 8 112 = some (Cd.kinds .eArg) := by kernel_rfl
theorem tk_201 : tk EE 8 201 = some (Cd.kinds .lArg) := by kernel_rfl
theorem tk_131 : tk EE 8 131 = some (Cd.kinds .ePat) := by kernel_rfl
theorem tk_198 : tk EE 8 198 = some (Cd.kinds .lPat) := by kernel_rfl
theorem tk_123 : tk EE 8 123 = some (Cd.kinds .eBind) := by kernel_rfl
theorem tk_230 : tk EE 8 230 = some (Cd.kinds .lBind) := by kernel_rfl
theorem tk_114 : tk EE 8 114 = some (Cd.kinds .eCond) := by kernel_rfl
theorem tk_203 : tk EE 8 203 = some (Cd.kinds .lCond) := by kernel_rfl
theorem tk_153 : tk EE 8 153 = some (Cd.kinds .eExpr) := by kernel_rfl
theorem tk_241 : tk EE 8 241 = some (Cd.kinds .lExpr) := by kernel_rfl
theorem tk_136 : tk EE 8 136 = some (Cd.kinds .eAct) := by kernel_rfl
theorem tk_207 : tk EE 8 207 = some (Cd.kinds .lAct) := by kernel_rfl
theorem tk_80 : tk EE 8 80 = some (Cd.kinds .eRule) := by kernel_rfl
theorem tk_146 : tk EE 8 146 = some (Cd.kinds .lRule) := by kernel_rfl
theorem tk_39 : tk EE 8 39 = some (Cd.kinds .eDef) := by kernel_rfl
theorem tk_62 : tk EE 8 62 = some (Cd.kinds .lDef) := by kernel_rfl
theorem tk_121 : tk EE 8 121 = some (Cd.kinds .eMatch) := by kernel_rfl
theorem tk_172 : tk EE 8 172 = some (Cd.kinds .lMatch) := by kernel_rfl
theorem tk_88 : tk EE 8 88 = some (Cd.kinds .eTimer) := by kernel_rfl
theorem tk_182 : tk EE 8 182 = some (Cd.kinds .lTimer) := by kernel_rfl
theorem tk_107 : tk EE 8 107 = some (Cd.kinds .eTask) := by kernel_rfl
theorem tk_179 : tk EE 8 179 = some (Cd.kinds .lTask) := by kernel_rfl
theorem tk_91 : tk EE 8 91 = some (Cd.kinds .eUndo) := by kernel_rfl
theorem tk_185 : tk EE 8 185 = some (Cd.kinds .lUndo) := by kernel_rfl
theorem tk_48 : tk EE 8 48 = some (Cd.kinds .eInst) := by kernel_rfl
theorem tk_72 : tk EE 8 72 = some (Cd.kinds .lInst) := by kernel_rfl
theorem tk_50 : tk EE 8 50 = some (Cd.kinds .eWork) := by kernel_rfl
theorem tk_74 : tk EE 8 74 = some (Cd.kinds .lWork) := by kernel_rfl
theorem tk_31 : tk EE 8 31 = some (Cd.kinds .eBook) := by kernel_rfl
theorem tk_25 : tk EE 8 25 = some (Cd.kinds .lBook) := by kernel_rfl
theorem wd_3 : EE.P.cellsOf 3 = UU.wd .int := by kernel_rfl
theorem wd_5 : EE.P.cellsOf 5 = UU.wd .byte := by kernel_rfl
theorem wd_9 : EE.P.cellsOf 9 = UU.wd .str := by kernel_rfl
theorem wd_105 : EE.P.cellsOf 105 = UU.wd .eVal := by kernel_rfl
theorem wd_177 : EE.P.cellsOf 177 = UU.wd .lVal := by kernel_rfl
theorem wd_86 : EE.P.cellsOf 86 = UU.wd .eFact := by kernel_rfl
theorem wd_176 : EE.P.cellsOf 176 = UU.wd .lFact := by kernel_rfl
theorem wd_97 : EE.P.cellsOf 97 = UU.wd .eItem := by kernel_rfl
theorem wd_210 : EE.P.cellsOf 210 = UU.wd .lItem := by kernel_rfl
theorem wd_42 : EE.P.cellsOf 42 = UU.wd .eStore := by kernel_rfl
theorem wd_66 : EE.P.cellsOf 66 = UU.wd .lStore := by kernel_rfl
theorem wd_112 : EE.P.cellsOf 112 = UU.wd .eArg := by kernel_rfl
theorem wd_201 : EE.P.cellsOf 201 = UU.wd .lArg := by kernel_rfl
theorem wd_131 : EE.P.cellsOf 131 = UU.wd .ePat := by kernel_rfl
theorem wd_198 : EE.P.cellsOf 198 = UU.wd .lPat := by kernel_rfl
theorem wd_123 : EE.P.cellsOf 123 = UU.wd .eBind := by kernel_rfl
theorem wd_230 : EE.P.cellsOf 230 = UU.wd .lBind := by kernel_rfl
theorem wd_114 : EE.P.cellsOf 114 = UU.wd .eCond := by kernel_rfl
theorem wd_203 : EE.P.cellsOf 203 = UU.wd .lCond := by kernel_rfl
theorem wd_153 : EE.P.cellsOf 153 = UU.wd .eExpr := by kernel_rfl
theorem wd_241 : EE.P.cellsOf 241 = UU.wd .lExpr := by kernel_rfl
theorem wd_136 : EE.P.cellsOf 136 = UU.wd .eAct := by kernel_rfl
theorem wd_207 : EE.P.cellsOf 207 = UU.wd .lAct := by kernel_rfl
theorem wd_80 : EE.P.cellsOf 80 = UU.wd .eRule := by kernel_rfl
theorem wd_146 : EE.P.cellsOf 146 = UU.wd .lRule := by kernel_rfl
theorem wd_39 : EE.P.cellsOf 39 = UU.wd .eDef := by kernel_rfl
theorem wd_62 : EE.P.cellsOf 62 = UU.wd .lDef := by kernel_rfl
theorem wd_121 : EE.P.cellsOf 121 = UU.wd .eMatch := by kernel_rfl
theorem wd_172 : EE.P.cellsOf 172 = UU.wd .lMatch := by kernel_rfl
theorem wd_88 : EE.P.cellsOf 88 = UU.wd .eTimer := by kernel_rfl
theorem wd_182 : EE.P.cellsOf 182 = UU.wd .lTimer := by kernel_rfl
theorem wd_107 : EE.P.cellsOf 107 = UU.wd .eTask := by kernel_rfl
theorem wd_179 : EE.P.cellsOf 179 = UU.wd .lTask := by kernel_rfl
theorem wd_91 : EE.P.cellsOf 91 = UU.wd .eUndo := by kernel_rfl
theorem wd_185 : EE.P.cellsOf 185 = UU.wd .lUndo := by kernel_rfl
theorem wd_48 : EE.P.cellsOf 48 = UU.wd .eInst := by kernel_rfl
theorem wd_72 : EE.P.cellsOf 72 = UU.wd .lInst := by kernel_rfl
theorem wd_50 : EE.P.cellsOf 50 = UU.wd .eWork := by kernel_rfl
theorem wd_74 : EE.P.cellsOf 74 = UU.wd .lWork := by kernel_rfl
theorem wd_31 : EE.P.cellsOf 31 = UU.wd .eBook := by kernel_rfl
theorem wd_25 : EE.P.cellsOf 25 = UU.wd .lBook := by kernel_rfl
theorem code_mem {l : List (TypeId × Cd)} {e : TypeId} {τ : Cd} (h : codeOf (U := UU) l e = some τ) : (e, τ) ∈ l := by
  induction l with
  | nil => cases h
  | cons p l ih =>
    obtain ⟨a, b⟩ := p
    simp only [codeOf] at h
    cases hb : Nat.beq a e <;> rw [hb] at h <;> simp only [cond_true, cond_false] at h
    · exact List.mem_cons_of_mem _ (ih h)
    · cases h
      rw [Nat.eq_of_beq_eq_true hb]
      exact List.mem_cons_self
theorem kgood : KGood EE Cd.kinds := by
  refine ⟨fun e τ h => ?_, fun e τ h => ?_, kinds_dec⟩
  · have := code_mem (l := tyl) h
    simp only [tyl, List.mem_cons, Prod.mk.injEq, List.not_mem_nil, or_false] at this
    rcases this with ⟨rfl, rfl⟩ | ⟨rfl, rfl⟩ | ⟨rfl, rfl⟩ | ⟨rfl, rfl⟩ | ⟨rfl, rfl⟩ | ⟨rfl, rfl⟩ | ⟨rfl, rfl⟩ | ⟨rfl, rfl⟩ | ⟨rfl, rfl⟩ | ⟨rfl, rfl⟩ | ⟨rfl, rfl⟩ | ⟨rfl, rfl⟩ | ⟨rfl, rfl⟩ | ⟨rfl, rfl⟩ | ⟨rfl, rfl⟩ | ⟨rfl, rfl⟩ | ⟨rfl, rfl⟩ | ⟨rfl, rfl⟩ | ⟨rfl, rfl⟩ | ⟨rfl, rfl⟩ | ⟨rfl, rfl⟩ | ⟨rfl, rfl⟩ | ⟨rfl, rfl⟩ | ⟨rfl, rfl⟩ | ⟨rfl, rfl⟩ | ⟨rfl, rfl⟩ | ⟨rfl, rfl⟩ | ⟨rfl, rfl⟩ | ⟨rfl, rfl⟩ | ⟨rfl, rfl⟩ | ⟨rfl, rfl⟩ | ⟨rfl, rfl⟩ | ⟨rfl, rfl⟩ | ⟨rfl, rfl⟩ | ⟨rfl, rfl⟩ | ⟨rfl, rfl⟩ | ⟨rfl, rfl⟩ | ⟨rfl, rfl⟩ | ⟨rfl, rfl⟩ | ⟨rfl, rfl⟩ | ⟨rfl, rfl⟩
    · exact tk_3
    · exact tk_5
    · exact tk_9
    · exact tk_105
    · exact tk_177
    · exact tk_86
    · exact tk_176
    · exact tk_97
    · exact tk_210
    · exact tk_42
    · exact tk_66
    · exact tk_112
    · exact tk_201
    · exact tk_131
    · exact tk_198
    · exact tk_123
    · exact tk_230
    · exact tk_114
    · exact tk_203
    · exact tk_153
    · exact tk_241
    · exact tk_136
    · exact tk_207
    · exact tk_80
    · exact tk_146
    · exact tk_39
    · exact tk_62
    · exact tk_121
    · exact tk_172
    · exact tk_88
    · exact tk_182
    · exact tk_107
    · exact tk_179
    · exact tk_91
    · exact tk_185
    · exact tk_48
    · exact tk_72
    · exact tk_50
    · exact tk_74
    · exact tk_31
    · exact tk_25
  · have := code_mem (l := tyl) h
    simp only [tyl, List.mem_cons, Prod.mk.injEq, List.not_mem_nil, or_false] at this
    rcases this with ⟨rfl, rfl⟩ | ⟨rfl, rfl⟩ | ⟨rfl, rfl⟩ | ⟨rfl, rfl⟩ | ⟨rfl, rfl⟩ | ⟨rfl, rfl⟩ | ⟨rfl, rfl⟩ | ⟨rfl, rfl⟩ | ⟨rfl, rfl⟩ | ⟨rfl, rfl⟩ | ⟨rfl, rfl⟩ | ⟨rfl, rfl⟩ | ⟨rfl, rfl⟩ | ⟨rfl, rfl⟩ | ⟨rfl, rfl⟩ | ⟨rfl, rfl⟩ | ⟨rfl, rfl⟩ | ⟨rfl, rfl⟩ | ⟨rfl, rfl⟩ | ⟨rfl, rfl⟩ | ⟨rfl, rfl⟩ | ⟨rfl, rfl⟩ | ⟨rfl, rfl⟩ | ⟨rfl, rfl⟩ | ⟨rfl, rfl⟩ | ⟨rfl, rfl⟩ | ⟨rfl, rfl⟩ | ⟨rfl, rfl⟩ | ⟨rfl, rfl⟩ | ⟨rfl, rfl⟩ | ⟨rfl, rfl⟩ | ⟨rfl, rfl⟩ | ⟨rfl, rfl⟩ | ⟨rfl, rfl⟩ | ⟨rfl, rfl⟩ | ⟨rfl, rfl⟩ | ⟨rfl, rfl⟩ | ⟨rfl, rfl⟩ | ⟨rfl, rfl⟩ | ⟨rfl, rfl⟩ | ⟨rfl, rfl⟩
    · exact wd_3
    · exact wd_5
    · exact wd_9
    · exact wd_105
    · exact wd_177
    · exact wd_86
    · exact wd_176
    · exact wd_97
    · exact wd_210
    · exact wd_42
    · exact wd_66
    · exact wd_112
    · exact wd_201
    · exact wd_131
    · exact wd_198
    · exact wd_123
    · exact wd_230
    · exact wd_114
    · exact wd_203
    · exact wd_153
    · exact wd_241
    · exact wd_136
    · exact wd_207
    · exact wd_80
    · exact wd_146
    · exact wd_39
    · exact wd_62
    · exact wd_121
    · exact wd_172
    · exact wd_88
    · exact wd_182
    · exact wd_107
    · exact wd_179
    · exact wd_91
    · exact wd_185
    · exact wd_48
    · exact wd_72
    · exact wd_50
    · exact wd_74
    · exact wd_31
    · exact wd_25
theorem laid : laidOutB EE.P = true := by kernel_rfl
theorem mapped : mapsRowed EE.P = true := by kernel_rfl
theorem sized : ((List.range EE.P.types.size).all fun t => match EE.P.underlying t with | some (.slice e) => decide (0 < EE.P.cellsOf e) | _ => true) = true := by kernel_rfl
theorem own : ownKnob EE.P.godebug = none := by kernel_rfl
end AM
