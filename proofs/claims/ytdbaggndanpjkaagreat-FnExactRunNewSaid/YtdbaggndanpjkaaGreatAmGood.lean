/- The frame's facts on the program's types: written by gen/env.py. -/
import Derived.Test.YtdbaggndanpjkaaGreatAmProg
import Derived.Test.YtdbaggndanpjkaaGreatAmKinds
import Derived.KernelRfl
namespace AM
open Go
set_option maxRecDepth 100000
theorem tk_3 : tk EE 8 3 = some (Cd.kinds .int) := by kernel_rfl
theorem tk_5 : tk EE 8 5 = some (Cd.kinds .byte) := by kernel_rfl
theorem tk_9 : tk EE 8 9 = some (Cd.kinds .str) := by kernel_rfl
theorem tk_139 : tk EE 8 139 = some (Cd.kinds .eVal) := by kernel_rfl
theorem tk_173 : tk EE 8 173 = some (Cd.kinds .lVal) := by kernel_rfl
theorem tk_137 : tk EE 8 137 = some (Cd.kinds .eFact) := by kernel_rfl
theorem tk_200 : tk EE 8 200 = some (Cd.kinds .eItem) := by kernel_rfl
theorem tk_28 : tk EE 8 28 = some (Cd.kinds .eStore) := by kernel_rfl
theorem tk_156 : tk EE 8 156 = some (Cd.kinds .eArg) := by kernel_rfl
theorem tk_175 : tk EE 8 175 = some (Cd.kinds .lArg) := by kernel_rfl
theorem tk_119 : tk EE 8 119 = some (Cd.kinds .ePat) := by kernel_rfl
theorem tk_171 : tk EE 8 171 = some (Cd.kinds .lPat) := by kernel_rfl
theorem tk_212 : tk EE 8 212 = some (Cd.kinds .eBind) := by kernel_rfl
theorem tk_158 : tk EE 8 158 = some (Cd.kinds .eCond) := by kernel_rfl
theorem tk_177 : tk EE 8 177 = some (Cd.kinds .lCond) := by kernel_rfl
theorem tk_210 : tk EE 8 210 = some (Cd.kinds .eExpr) := by kernel_rfl
theorem tk_237 : tk EE 8 237 = some (Cd.kinds .lExpr) := by kernel_rfl
theorem tk_161 : tk EE 8 161 = some (Cd.kinds .eAct) := by kernel_rfl
theorem tk_181 : tk EE 8 181 = some (Cd.kinds .lAct) := by kernel_rfl
theorem tk_89 : tk EE 8 89 = some (Cd.kinds .eRule) := by kernel_rfl
theorem tk_71 : tk EE 8 71 = some (Cd.kinds .lRule) := by kernel_rfl
theorem tk_44 : tk EE 8 44 = some (Cd.kinds .eDef) := by kernel_rfl
theorem tk_24 : tk EE 8 24 = some (Cd.kinds .lDef) := by kernel_rfl
theorem tk_134 : tk EE 8 134 = some (Cd.kinds .eMatch) := by kernel_rfl
theorem tk_124 : tk EE 8 124 = some (Cd.kinds .eAlpha) := by kernel_rfl
theorem tk_80 : tk EE 8 80 = some (Cd.kinds .eChain) := by kernel_rfl
theorem tk_57 : tk EE 8 57 = some (Cd.kinds .eNet) := by kernel_rfl
theorem tk_75 : tk EE 8 75 = some (Cd.kinds .eIds) := by kernel_rfl
theorem tk_233 : tk EE 8 233 = some (Cd.kinds .eTok) := by kernel_rfl
theorem tk_83 : tk EE 8 83 = some (Cd.kinds .eLevel) := by kernel_rfl
theorem tk_78 : tk EE 8 78 = some (Cd.kinds .eRow) := by kernel_rfl
theorem tk_38 : tk EE 8 38 = some (Cd.kinds .eMem) := by kernel_rfl
theorem tk_144 : tk EE 8 144 = some (Cd.kinds .eTimer) := by kernel_rfl
theorem tk_141 : tk EE 8 141 = some (Cd.kinds .eTask) := by kernel_rfl
theorem tk_147 : tk EE 8 147 = some (Cd.kinds .eUndo) := by kernel_rfl
theorem tk_34 : tk EE 8 34 = some (Cd.kinds .eInst) := by kernel_rfl
theorem tk_40 : tk EE 8 40 = some (Cd.kinds .eRun) := by kernel_rfl
theorem wd_3 : EE.P.cellsOf 3 = UU.wd .int := by kernel_rfl
theorem wd_5 : EE.P.cellsOf 5 = UU.wd .byte := by kernel_rfl
theorem wd_9 : EE.P.cellsOf 9 = UU.wd .str := by kernel_rfl
theorem wd_139 : EE.P.cellsOf 139 = UU.wd .eVal := by kernel_rfl
theorem wd_173 : EE.P.cellsOf 173 = UU.wd .lVal := by kernel_rfl
theorem wd_137 : EE.P.cellsOf 137 = UU.wd .eFact := by kernel_rfl
theorem wd_200 : EE.P.cellsOf 200 = UU.wd .eItem := by kernel_rfl
theorem wd_28 : EE.P.cellsOf 28 = UU.wd .eStore := by kernel_rfl
theorem wd_156 : EE.P.cellsOf 156 = UU.wd .eArg := by kernel_rfl
theorem wd_175 : EE.P.cellsOf 175 = UU.wd .lArg := by kernel_rfl
theorem wd_119 : EE.P.cellsOf 119 = UU.wd .ePat := by kernel_rfl
theorem wd_171 : EE.P.cellsOf 171 = UU.wd .lPat := by kernel_rfl
theorem wd_212 : EE.P.cellsOf 212 = UU.wd .eBind := by kernel_rfl
theorem wd_158 : EE.P.cellsOf 158 = UU.wd .eCond := by kernel_rfl
theorem wd_177 : EE.P.cellsOf 177 = UU.wd .lCond := by kernel_rfl
theorem wd_210 : EE.P.cellsOf 210 = UU.wd .eExpr := by kernel_rfl
theorem wd_237 : EE.P.cellsOf 237 = UU.wd .lExpr := by kernel_rfl
theorem wd_161 : EE.P.cellsOf 161 = UU.wd .eAct := by kernel_rfl
theorem wd_181 : EE.P.cellsOf 181 = UU.wd .lAct := by kernel_rfl
theorem wd_89 : EE.P.cellsOf 89 = UU.wd .eRule := by kernel_rfl
theorem wd_71 : EE.P.cellsOf 71 = UU.wd .lRule := by kernel_rfl
theorem wd_44 : EE.P.cellsOf 44 = UU.wd .eDef := by kernel_rfl
theorem wd_24 : EE.P.cellsOf 24 = UU.wd .lDef := by kernel_rfl
theorem wd_134 : EE.P.cellsOf 134 = UU.wd .eMatch := by kernel_rfl
theorem wd_124 : EE.P.cellsOf 124 = UU.wd .eAlpha := by kernel_rfl
theorem wd_80 : EE.P.cellsOf 80 = UU.wd .eChain := by kernel_rfl
theorem wd_57 : EE.P.cellsOf 57 = UU.wd .eNet := by kernel_rfl
theorem wd_75 : EE.P.cellsOf 75 = UU.wd .eIds := by kernel_rfl
theorem wd_233 : EE.P.cellsOf 233 = UU.wd .eTok := by kernel_rfl
theorem wd_83 : EE.P.cellsOf 83 = UU.wd .eLevel := by kernel_rfl
theorem wd_78 : EE.P.cellsOf 78 = UU.wd .eRow := by kernel_rfl
theorem wd_38 : EE.P.cellsOf 38 = UU.wd .eMem := by kernel_rfl
theorem wd_144 : EE.P.cellsOf 144 = UU.wd .eTimer := by kernel_rfl
theorem wd_141 : EE.P.cellsOf 141 = UU.wd .eTask := by kernel_rfl
theorem wd_147 : EE.P.cellsOf 147 = UU.wd .eUndo := by kernel_rfl
theorem wd_34 : EE.P.cellsOf 34 = UU.wd .eInst := by kernel_rfl
theorem wd_40 : EE.P.cellsOf 40 = UU.wd .eRun := by kernel_rfl
theorem code_mem {l : List (TypeId × Cd)} {e : TypeId} {τ : Cd} (h : codeOf (U := UU) l e = some τ) : (e, τ) ∈ l := by
  induction l with
  | nil => cases h
  | cons p l ih =>
    obtain ⟨a, b⟩ := p
    simp only [codeOf] at h
    cases hb : Nat.beq a e <;> rw [hb] at h <;> simp only [cond_true, cond_false] at h
    · exact List.mem_cons_of_mem _ (ih h)
    · cases h
      rw [Nat.eq_of_beq_eq_true hb]
      exact List.mem_cons_self
theorem kgood : KGood EE Cd.kinds := by
  refine ⟨fun e τ h => ?_, fun e τ h => ?_, kinds_dec⟩
  · have := code_mem (l := tyl) h
    simp only [tyl, List.mem_cons, Prod.mk.injEq, List.not_mem_nil, or_false] at this
    rcases this with ⟨rfl, rfl⟩ | ⟨rfl, rfl⟩ | ⟨rfl, rfl⟩ | ⟨rfl, rfl⟩ | ⟨rfl, rfl⟩ | ⟨rfl, rfl⟩ | ⟨rfl, rfl⟩ | ⟨rfl, rfl⟩ | ⟨rfl, rfl⟩ | ⟨rfl, rfl⟩ | ⟨rfl, rfl⟩ | ⟨rfl, rfl⟩ | ⟨rfl, rfl⟩ | ⟨rfl, rfl⟩ | ⟨rfl, rfl⟩ | ⟨rfl, rfl⟩ | ⟨rfl, rfl⟩ | ⟨rfl, rfl⟩ | ⟨rfl, rfl⟩ | ⟨rfl, rfl⟩ | ⟨rfl, rfl⟩ | ⟨rfl, rfl⟩ | ⟨rfl, rfl⟩ | ⟨rfl, rfl⟩ | ⟨rfl, rfl⟩ | ⟨rfl, rfl⟩ | ⟨rfl, rfl⟩ | ⟨rfl, rfl⟩ | ⟨rfl, rfl⟩ | ⟨rfl, rfl⟩ | ⟨rfl, rfl⟩ | ⟨rfl, rfl⟩ | ⟨rfl, rfl⟩ | ⟨rfl, rfl⟩ | ⟨rfl, rfl⟩ | ⟨rfl, rfl⟩ | ⟨rfl, rfl⟩
    · exact tk_3
    · exact tk_5
    · exact tk_9
    · exact tk_139
    · exact tk_173
    · exact tk_137
    · exact tk_200
    · exact tk_28
    · exact tk_156
    · exact tk_175
    · exact tk_119
    · exact tk_171
    · exact tk_212
    · exact tk_158
    · exact tk_177
    · exact tk_210
    · exact tk_237
    · exact tk_161
    · exact tk_181
    · exact tk_89
    · exact tk_71
    · exact tk_44
    · exact tk_24
    · exact tk_134
    · exact tk_124
    · exact tk_80
    · exact tk_57
    · exact tk_75
    · exact tk_233
    · exact tk_83
    · exact tk_78
    · exact tk_38
    · exact tk_144
    · exact tk_141
    · exact tk_147
    · exact tk_34
    · exact tk_40
  · have := code_mem (l := tyl) h
    simp only [tyl, List.mem_cons, Prod.mk.injEq, List.not_mem_nil, or_false] at this
    rcases this with ⟨rfl, rfl⟩ | ⟨rfl, rfl⟩ | ⟨rfl, rfl⟩ | ⟨rfl, rfl⟩ | ⟨rfl, rfl⟩ | ⟨rfl, rfl⟩ | ⟨rfl, rfl⟩ | ⟨rfl, rfl⟩ | ⟨rfl, rfl⟩ | ⟨rfl, rfl⟩ | ⟨rfl, rfl⟩ | ⟨rfl, rfl⟩ | ⟨rfl, rfl⟩ | ⟨rfl, rfl⟩ | ⟨rfl, rfl⟩ | ⟨rfl, rfl⟩ | ⟨rfl, rfl⟩ | ⟨rfl, rfl⟩ | ⟨rfl, rfl⟩ | ⟨rfl, rfl⟩ | ⟨rfl, rfl⟩ | ⟨rfl, rfl⟩ | ⟨rfl, rfl⟩ | ⟨rfl, rfl⟩ | ⟨rfl, rfl⟩ | ⟨rfl, rfl⟩ | ⟨rfl, rfl⟩ | ⟨rfl, rfl⟩ | ⟨rfl, rfl⟩ | ⟨rfl, rfl⟩ | ⟨rfl, rfl⟩ | ⟨rfl, rfl⟩ | ⟨rfl, rfl⟩ | ⟨rfl, rfl⟩ | ⟨rfl, rfl⟩ | ⟨rfl, rfl⟩ | ⟨rfl, rfl⟩
    · exact wd_3
    · exact wd_5
    · exact wd_9
    · exact wd_139
    · exact wd_173
    · exact wd_137
    · exact wd_200
    · exact wd_28
    · exact wd_156
    · exact wd_175
    · exact wd_119
    · exact wd_171
    · exact wd_212
    · exact wd_158
    · exact wd_177
    · exact wd_210
    · exact wd_237
    · exact wd_161
    · exact wd_181
    · exact wd_89
    · exact wd_71
    · exact wd_44
    · exact wd_24
    · exact wd_134
    · exact wd_124
    · exact wd_80
    · exact wd_57
    · exact wd_75
    · exact wd_233
    · exact wd_83
    · exact wd_78
    · exact wd_38
    · exact wd_144
    · exact wd_141
    · exact wd_147
    · exact wd_34
    · exact wd_40
theorem laid : laidOutB EE.P = true := by kernel_rfl
theorem mapped : mapsRowed EE.P = true := by kernel_rfl
theorem sized : ((List.range EE.P.types.size).all fun t => match EE.P.underlying t with | some (.slice e) => decide (0 < EE.P.cellsOf e) | _ => true) = true := by kernel_rfl
theorem own : ownKnob EE.P.godebug = none := by kernel_rfl
end AM
