/- The frame's facts on the program's types: written by gen/env.py. -/
import Derived.Test.YtgpfppbkndgejaaGreatAmProg
import Derived.Test.YtgpfppbkndgejaaGreatAmKinds
import Derived.KernelRfl
namespace AM
open Go
set_option maxRecDepth 100000
theorem tk_3 : tk EE 8 3 = some (Cd.kinds .int) := by kernel_rfl
theorem tk_5 : tk EE 8 5 = some (Cd.kinds .byte) := by kernel_rfl
theorem tk_9 : tk EE 8 9 = some (Cd.kinds .str) := by kernel_rfl
theorem tk_111 : tk EE 8 111 = some (Cd.kinds .eVal) := by kernel_rfl
theorem tk_183 : tk EE 8 183 = some (Cd.kinds .lVal) := by kernel_rfl
theorem tk_94 : tk EE 8 94 = some (Cd.kinds .eFact) := by kernel_rfl
theorem tk_182 : tk EE 8 182 = some (Cd.kinds .lFact) := by kernel_rfl
theorem tk_103 : tk EE 8 103 = some (Cd.kinds .eItem) := by kernel_rfl
theorem tk_216 : tk EE 8 216 = some (Cd.kinds .lItem) := by kernel_rfl
theorem tk_49 : tk EE 8 49 = some (Cd.kinds .eStore) := by kernel_rfl
theorem tk_72 : tk EE 8 72 = some (Cd.kinds .lStore) := by kernel_rfl
theorem tk_121 : tk EE 8 121 = some (Cd.kinds .eArg) := by kernel_rfl
theorem tk_207 : tk EE 8 207 = some (Cd.kinds .lArg) := by kernel_rfl
theorem tk_138 : tk EE 8 138 = some (Cd.kinds .ePat) := by kernel_rfl
theorem tk_204 : tk EE 8 204 = some (Cd.kinds .lPat) := by kernel_rfl
theorem tk_132 : tk EE 8 132 = some (Cd.kinds .eBind) := by kernel_rfl
theorem tk_236 : tk EE 8 236 = some (Cd.kinds .lBind) := by kernel_rfl
theorem tk_123 : tk EE 8 123 = some (Cd.kinds .eCond) := by kernel_rfl
theorem tk_209 : tk EE 8 209 = some (Cd.kinds .lCond) := by kernel_rfl
theorem tk_167 : tk EE 8 167 = some (Cd.kinds .eExpr) := by kernel_rfl
theorem tk_247 : tk EE 8 247 = some (Cd.kinds .lExpr) := by kernel_rfl
theorem tk_143 : tk EE 8 143 = some (Cd.kinds .eAct) := by kernel_rfl
theorem tk_213 : tk EE 8 213 = some (Cd.kinds .lAct) := by kernel_rfl
theorem tk_88 : tk EE 8 88 = some (Cd.kinds .eRule) := by kernel_rfl
theorem tk_152 : tk EE 8 152 = some (Cd.kinds .lRule) := by kernel_rfl
theorem tk_40 : tk EE 8 40 = some (Cd.kinds .eDef) := by kernel_rfl
theorem tk_68 : tk EE 8 68 = some (Cd.kinds .lDef) := by kernel_rfl
theorem tk_130 : tk EE 8 130 = some (Cd.kinds .eMatch) := by kernel_rfl
theorem tk_178 : tk EE 8 178 = some (Cd.kinds .lMatch) := by kernel_rfl
theorem tk_96 : tk EE 8 96 = some (Cd.kinds .eTimer) := by kernel_rfl
theorem tk_188 : tk EE 8 188 = some (Cd.kinds .lTimer) := by kernel_rfl
theorem tk_113 : tk EE 8 113 = some (Cd.kinds .eTask) := by kernel_rfl
theorem tk_185 : tk EE 8 185 = some (Cd.kinds .lTask) := by kernel_rfl
theorem tk_99 : tk EE 8 99 = some (Cd.kinds .eUndo) := by kernel_rfl
theorem tk_191 : tk EE 8 191 = some (Cd.kinds .lUndo) := by kernel_rfl
theorem tk_55 : tk EE 8 55 = some (Cd.kinds .eInst) := by kernel_rfl
theorem tk_78 : tk EE 8 78 = some (Cd.kinds .lInst) := by kernel_rfl
theorem tk_57 : tk EE 8 57 = some (Cd.kinds .eWork) := by kernel_rfl
theorem tk_80 : tk EE 8 80 = some (Cd.kinds .lWork) := by kernel_rfl
theorem tk_31 : tk EE 8 31 = some (Cd.kinds .eBook) := by kernel_rfl
theorem tk_25 : tk EE 8 25 = some (Cd.kinds .lBook) := by kernel_rfl
theorem wd_3 : EE.P.cellsOf 3 = UU.wd .int := by kernel_rfl
theorem wd_5 : EE.P.cellsOf 5 = UU.wd .byte := by kernel_rfl
theorem wd_9 : EE.P.cellsOf 9 = UU.wd .str := by kernel_rfl
theorem wd_111 : EE.P.cellsOf 111 = UU.wd .eVal := by kernel_rfl
theorem wd_183 : EE.P.cellsOf 183 = UU.wd .lVal := by kernel_rfl
theorem wd_94 : EE.P.cellsOf 94 = UU.wd .eFact := by kernel_rfl
theorem wd_182 : EE.P.cellsOf 182 = UU.wd .lFact := by kernel_rfl
theorem wd_103 : EE.P.cellsOf 103 = UU.wd .eItem := by kernel_rfl
theorem wd_216 : EE.P.cellsOf 216 = UU.wd .lItem := by kernel_rfl
theorem wd_49 : EE.P.cellsOf 49 = UU.wd .eStore := by kernel_rfl
theorem wd_72 : EE.P.cellsOf 72 = UU.wd .lStore := by kernel_rfl
theorem wd_121 : EE.P.cellsOf 121 = UU.wd .eArg := by kernel_rfl
theorem wd_207 : EE.P.cellsOf 207 = UU.wd .lArg := by kernel_rfl
theorem wd_138 : EE.P.cellsOf 138 = UU.wd .ePat := by kernel_rfl
theorem wd_204 : EE.P.cellsOf 204 = UU.wd .lPat := by kernel_rfl
theorem wd_132 : EE.P.cellsOf 132 = UU.wd .eBind := by kernel_rfl
theorem wd_236 : EE.P.cellsOf 236 = UU.wd .lBind := by kernel_rfl
theorem wd_123 : EE.P.cellsOf 123 = UU.wd .eCond := by kernel_rfl
theorem wd_209 : EE.P.cellsOf 209 = UU.wd .lCond := by kernel_rfl
theorem wd_167 : EE.P.cellsOf 167 = UU.wd .eExpr := by kernel_rfl
theorem wd_247 : EE.P.cellsOf 247 = UU.wd .lExpr := by kernel_rfl
theorem wd_143 : EE.P.cellsOf 143 = UU.wd .eAct := by kernel_rfl
theorem wd_213 : EE.P.cellsOf 213 = UU.wd .lAct := by kernel_rfl
theorem wd_88 : EE.P.cellsOf 88 = UU.wd .eRule := by kernel_rfl
theorem wd_152 : EE.P.cellsOf 152 = UU.wd .lRule := by kernel_rfl
theorem wd_40 : EE.P.cellsOf 40 = UU.wd .eDef := by kernel_rfl
theorem wd_68 : EE.P.cellsOf 68 = UU.wd .lDef := by kernel_rfl
theorem wd_130 : EE.P.cellsOf 130 = UU.wd .eMatch := by kernel_rfl
theorem wd_178 : EE.P.cellsOf 178 = UU.wd .lMatch := by kernel_rfl
theorem wd_96 : EE.P.cellsOf 96 = UU.wd .eTimer := by kernel_rfl
theorem wd_188 : EE.P.cellsOf 188 = UU.wd .lTimer := by kernel_rfl
theorem wd_113 : EE.P.cellsOf 113 = UU.wd .eTask := by kernel_rfl
theorem wd_185 : EE.P.cellsOf 185 = UU.wd .lTask := by kernel_rfl
theorem wd_99 : EE.P.cellsOf 99 = UU.wd .eUndo := by kernel_rfl
theorem wd_191 : EE.P.cellsOf 191 = UU.wd .lUndo := by kernel_rfl
theorem wd_55 : EE.P.cellsOf 55 = UU.wd .eInst := by kernel_rfl
theorem wd_78 : EE.P.cellsOf 78 = UU.wd .lInst := by kernel_rfl
theorem wd_57 : EE.P.cellsOf 57 = UU.wd .eWork := by kernel_rfl
theorem wd_80 : EE.P.cellsOf 80 = UU.wd .lWork := by kernel_rfl
theorem wd_31 : EE.P.cellsOf 31 = UU.wd .eBook := by kernel_rfl
theorem wd_25 : EE.P.cellsOf 25 = UU.wd .lBook := by kernel_rfl
theorem code_mem {l : List (TypeId × Cd)} {e : TypeId} {τ : Cd} (h : codeOf (U := UU) l e = some τ) : (e, τ) ∈ l := by
  induction l with
  | nil => cases h
  | cons p l ih =>
    obtain ⟨a, b⟩ := p
    simp only [codeOf] at h
    cases hb : Nat.beq a e <;> rw [hb] at h <;> simp only [cond_true, cond_false] at h
    · exact List.mem_cons_of_mem _ (ih h)
    · cases h
      rw [Nat.eq_of_beq_eq_true hb]
      exact List.mem_cons_self
theorem kgood : KGood EE Cd.kinds := by
  refine ⟨fun e τ h => ?_, fun e τ h => ?_, kinds_dec⟩
  · have := code_mem (l := tyl) h
    simp only [tyl, List.mem_cons, Prod.mk.injEq, List.not_mem_nil, or_false] at this
    rcases this with ⟨rfl, rfl⟩ | ⟨rfl, rfl⟩ | ⟨rfl, rfl⟩ | ⟨rfl, rfl⟩ | ⟨rfl, rfl⟩ | ⟨rfl, rfl⟩ | ⟨rfl, rfl⟩ | ⟨rfl, rfl⟩ | ⟨rfl, rfl⟩ | ⟨rfl, rfl⟩ | ⟨rfl, rfl⟩ | ⟨rfl, rfl⟩ | ⟨rfl, rfl⟩ | ⟨rfl, rfl⟩ | ⟨rfl, rfl⟩ | ⟨rfl, rfl⟩ | ⟨rfl, rfl⟩ | ⟨rfl, rfl⟩ | ⟨rfl, rfl⟩ | ⟨rfl, rfl⟩ | ⟨rfl, rfl⟩ | ⟨rfl, rfl⟩ | ⟨rfl, rfl⟩ | ⟨rfl, rfl⟩ | ⟨rfl, rfl⟩ | ⟨rfl, rfl⟩ | ⟨rfl, rfl⟩ | ⟨rfl, rfl⟩ | ⟨rfl, rfl⟩ | ⟨rfl, rfl⟩ | ⟨rfl, rfl⟩ | ⟨rfl, rfl⟩ | ⟨rfl, rfl⟩ | ⟨rfl, rfl⟩ | ⟨rfl, rfl⟩ | ⟨rfl, rfl⟩ | ⟨rfl, rfl⟩ | ⟨rfl, rfl⟩ | ⟨rfl, rfl⟩ | ⟨rfl, rfl⟩ | ⟨rfl, rfl⟩
    · exact tk_3
    · exact tk_5
    · exact tk_9
    · exact tk_111
    · exact tk_183
    · exact tk_94
    · exact tk_182
    · exact tk_103
    · exact tk_216
    · exact tk_49
    · exact tk_72
    · exact tk_121
    · exact tk_207
    · exact tk_138
    · exact tk_204
    · exact tk_132
    · exact tk_236
    · exact tk_123
    · exact tk_209
    · exact tk_167
    · exact tk_247
    · exact tk_143
    · exact tk_213
    · exact tk_88
    · exact tk_152
    · exact tk_40
    · exact tk_68
    · exact tk_130
    · exact tk_178
    · exact tk_96
    · exact tk_188
    · exact tk_113
    · exact tk_185
    · exact tk_99
    · exact tk_191
    · exact tk_55
    · exact tk_78
    · exact tk_57
    · exact tk_80
    · exact tk_31
    · exact tk_25
  · have := code_mem (l := tyl) h
    simp only [tyl, List.mem_cons, Prod.mk.injEq, List.not_mem_nil, or_false] at this
    rcases this with ⟨rfl, rfl⟩ | ⟨rfl, rfl⟩ | ⟨rfl, rfl⟩ | ⟨rfl, rfl⟩ | ⟨rfl, rfl⟩ | ⟨rfl, rfl⟩ | ⟨rfl, rfl⟩ | ⟨rfl, rfl⟩ | ⟨rfl, rfl⟩ | ⟨rfl, rfl⟩ | ⟨rfl, rfl⟩ | ⟨rfl, rfl⟩ | ⟨rfl, rfl⟩ | ⟨rfl, rfl⟩ | ⟨rfl, rfl⟩ | ⟨rfl, rfl⟩ | ⟨rfl, rfl⟩ | ⟨rfl, rfl⟩ | ⟨rfl, rfl⟩ | ⟨rfl, rfl⟩ | ⟨rfl, rfl⟩ | ⟨rfl, rfl⟩ | ⟨rfl, rfl⟩ | ⟨rfl, rfl⟩ | ⟨rfl, rfl⟩ | ⟨rfl, rfl⟩ | ⟨rfl, rfl⟩ | ⟨rfl, rfl⟩ | ⟨rfl, rfl⟩ | ⟨rfl, rfl⟩ | ⟨rfl, rfl⟩ | ⟨rfl, rfl⟩ | ⟨rfl, rfl⟩ | ⟨rfl, rfl⟩ | ⟨rfl, rfl⟩ | ⟨rfl, rfl⟩ | ⟨rfl, rfl⟩ | ⟨rfl, rfl⟩ | ⟨rfl, rfl⟩ | ⟨rfl, rfl⟩ | ⟨rfl, rfl⟩
    · exact wd_3
    · exact wd_5
    · exact wd_9
    · exact wd_111
    · exact wd_183
    · exact wd_94
    · exact wd_182
    · exact wd_103
    · exact wd_216
    · exact wd_49
    · exact wd_72
    · exact wd_121
    · exact wd_207
    · exact wd_138
    · exact wd_204
    · exact wd_132
    · exact wd_236
    · exact wd_123
    · exact wd_209
    · exact wd_167
    · exact wd_247
    · exact wd_143
    · exact wd_213
    · exact wd_88
    · exact wd_152
    · exact wd_40
    · exact wd_68
    · exact wd_130
    · exact wd_178
    · exact wd_96
    · exact wd_188
    · exact wd_113
    · exact wd_185
    · exact wd_99
    · exact wd_191
    · exact wd_55
    · exact wd_78
    · exact wd_57
    · exact wd_80
    · exact wd_31
    · exact wd_25
theorem laid : laidOutB EE.P = true := by kernel_rfl
theorem mapped : mapsRowed EE.P = true := by kernel_rfl
theorem sized : ((List.range EE.P.types.size).all fun t => match EE.P.underlying t with | some (.slice e) => decide (0 < EE.P.cellsOf e) | _ => true) = true := by kernel_rfl
theorem own : ownKnob EE.P.godebug = none := by kernel_rfl
end AM
