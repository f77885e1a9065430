/- The frame's facts on the program's types: written by gen/env.py. -/
import Derived.Test.YtignnkcjolobgaaGreatDoorAmProg
import Derived.Test.YtignnkcjolobgaaGreatDoorAmKinds
import Derived.KernelRfl
namespace AM
open Go
set_option maxRecDepth 100000
theorem tk_3 : tk EE 8 3 = some (Cd.kinds .int) := by kernel_rfl
theorem tk_5 : tk EE 8 5 = some (Cd.kinds .byte) := by kernel_rfl
theorem tk_9 : tk EE 8 9 = some (Cd.kinds .str) := by kernel_rfl
theorem tk_37 : tk EE 8 37 = some (Cd.kinds .eVal) := by kernel_rfl
theorem tk_27 : tk EE 8 27 = some (Cd.kinds .eFact) := by kernel_rfl
theorem tk_143 : tk EE 8 143 = some (Cd.kinds .eItem) := by kernel_rfl
theorem tk_72 : tk EE 8 72 = some (Cd.kinds .eStore) := by kernel_rfl
theorem tk_137 : tk EE 8 137 = some (Cd.kinds .eArg) := by kernel_rfl
theorem tk_156 : tk EE 8 156 = some (Cd.kinds .ePat) := by kernel_rfl
theorem tk_149 : tk EE 8 149 = some (Cd.kinds .eBind) := by kernel_rfl
theorem tk_139 : tk EE 8 139 = some (Cd.kinds .eCond) := by kernel_rfl
theorem tk_161 : tk EE 8 161 = some (Cd.kinds .eExpr) := by kernel_rfl
theorem tk_159 : tk EE 8 159 = some (Cd.kinds .eAct) := by kernel_rfl
theorem tk_127 : tk EE 8 127 = some (Cd.kinds .eRule) := by kernel_rfl
theorem tk_111 : tk EE 8 111 = some (Cd.kinds .eDef) := by kernel_rfl
theorem tk_147 : tk EE 8 147 = some (Cd.kinds .eMatch) := by kernel_rfl
theorem tk_131 : tk EE 8 131 = some (Cd.kinds .eTimer) := by kernel_rfl
theorem tk_39 : tk EE 8 39 = some (Cd.kinds .eTask) := by kernel_rfl
theorem tk_52 : tk EE 8 52 = some (Cd.kinds .eCall) := by kernel_rfl
theorem tk_133 : tk EE 8 133 = some (Cd.kinds .eUndo) := by kernel_rfl
theorem tk_77 : tk EE 8 77 = some (Cd.kinds .eInst) := by kernel_rfl
theorem tk_95 : tk EE 8 95 = some (Cd.kinds .eWork) := by kernel_rfl
theorem tk_99 : tk EE 8 99 = some (Cd.kinds .eBook) := by kernel_rfl
theorem wd_3 : EE.P.cellsOf 3 = UU.wd .int := by kernel_rfl
theorem wd_5 : EE.P.cellsOf 5 = UU.wd .byte := by kernel_rfl
theorem wd_9 : EE.P.cellsOf 9 = UU.wd .str := by kernel_rfl
theorem wd_37 : EE.P.cellsOf 37 = UU.wd .eVal := by kernel_rfl
theorem wd_27 : EE.P.cellsOf 27 = UU.wd .eFact := by kernel_rfl
theorem wd_143 : EE.P.cellsOf 143 = UU.wd .eItem := by kernel_rfl
theorem wd_72 : EE.P.cellsOf 72 = UU.wd .eStore := by kernel_rfl
theorem wd_137 : EE.P.cellsOf 137 = UU.wd .eArg := by kernel_rfl
theorem wd_156 : EE.P.cellsOf 156 = UU.wd .ePat := by kernel_rfl
theorem wd_149 : EE.P.cellsOf 149 = UU.wd .eBind := by kernel_rfl
theorem wd_139 : EE.P.cellsOf 139 = UU.wd .eCond := by kernel_rfl
theorem wd_161 : EE.P.cellsOf 161 = UU.wd .eExpr := by kernel_rfl
theorem wd_159 : EE.P.cellsOf 159 = UU.wd .eAct := by kernel_rfl
theorem wd_127 : EE.P.cellsOf 127 = UU.wd .eRule := by kernel_rfl
theorem wd_111 : EE.P.cellsOf 111 = UU.wd .eDef := by kernel_rfl
theorem wd_147 : EE.P.cellsOf 147 = UU.wd .eMatch := by kernel_rfl
theorem wd_131 : EE.P.cellsOf 131 = UU.wd .eTimer := by kernel_rfl
theorem wd_39 : EE.P.cellsOf 39 = UU.wd .eTask := by kernel_rfl
theorem wd_52 : EE.P.cellsOf 52 = UU.wd .eCall := by kernel_rfl
theorem wd_133 : EE.P.cellsOf 133 = UU.wd .eUndo := by kernel_rfl
theorem wd_77 : EE.P.cellsOf 77 = UU.wd .eInst := by kernel_rfl
theorem wd_95 : EE.P.cellsOf 95 = UU.wd .eWork := by kernel_rfl
theorem wd_99 : EE.P.cellsOf 99 = UU.wd .eBook := by kernel_rfl
theorem code_mem {l : List (TypeId × Cd)} {e : TypeId} {τ : Cd} (h : codeOf (U := UU) l e = some τ) : (e, τ) ∈ l := by
  induction l with
  | nil => cases h
  | cons p l ih =>
    obtain ⟨a, b⟩ := p
    simp only [codeOf] at h
    cases hb : Nat.beq a e <;> rw [hb] at h <;> simp only [cond_true, cond_false] at h
    · exact List.mem_cons_of_mem _ (ih h)
    · cases h
      rw [Nat.eq_of_beq_eq_true hb]
      exact List.mem_cons_self
theorem kgood : KGood EE Cd.kinds := by
  refine ⟨fun e τ h => ?_, fun e τ h => ?_, kinds_dec⟩
  · have := code_mem (l := tyl) h
    simp only [tyl, List.mem_cons, Prod.mk.injEq, List.not_mem_nil, or_false] at this
    rcases this with ⟨rfl, rfl⟩ | ⟨rfl, rfl⟩ | ⟨rfl, rfl⟩ | ⟨rfl, rfl⟩ | ⟨rfl, rfl⟩ | ⟨rfl, rfl⟩ | ⟨rfl, rfl⟩ | ⟨rfl, rfl⟩ | ⟨rfl, rfl⟩ | ⟨rfl, rfl⟩ | ⟨rfl, rfl⟩ | ⟨rfl, rfl⟩ | ⟨rfl, rfl⟩ | ⟨rfl, rfl⟩ | ⟨rfl, rfl⟩ | ⟨rfl, rfl⟩ | ⟨rfl, rfl⟩ | ⟨rfl, rfl⟩ | ⟨rfl, rfl⟩ | ⟨rfl, rfl⟩ | ⟨rfl, rfl⟩ | ⟨rfl, rfl⟩ | ⟨rfl, rfl⟩
    · exact tk_3
    · exact tk_5
    · exact tk_9
    · exact tk_37
    · exact tk_27
    · exact tk_143
    · exact tk_72
    · exact tk_137
    · exact tk_156
    · exact tk_149
    · exact tk_139
    · exact tk_161
    · exact tk_159
    · exact tk_127
    · exact tk_111
    · exact tk_147
    · exact tk_131
    · exact tk_39
    · exact tk_52
    · exact tk_133
    · exact tk_77
    · exact tk_95
    · exact tk_99
  · have := code_mem (l := tyl) h
    simp only [tyl, List.mem_cons, Prod.mk.injEq, List.not_mem_nil, or_false] at this
    rcases this with ⟨rfl, rfl⟩ | ⟨rfl, rfl⟩ | ⟨rfl, rfl⟩ | ⟨rfl, rfl⟩ | ⟨rfl, rfl⟩ | ⟨rfl, rfl⟩ | ⟨rfl, rfl⟩ | ⟨rfl, rfl⟩ | ⟨rfl, rfl⟩ | ⟨rfl, rfl⟩ | ⟨rfl, rfl⟩ | ⟨rfl, rfl⟩ | ⟨rfl, rfl⟩ | ⟨rfl, rfl⟩ | ⟨rfl, rfl⟩ | ⟨rfl, rfl⟩ | ⟨rfl, rfl⟩ | ⟨rfl, rfl⟩ | ⟨rfl, rfl⟩ | ⟨rfl, rfl⟩ | ⟨rfl, rfl⟩ | ⟨rfl, rfl⟩ | ⟨rfl, rfl⟩
    · exact wd_3
    · exact wd_5
    · exact wd_9
    · exact wd_37
    · exact wd_27
    · exact wd_143
    · exact wd_72
    · exact wd_137
    · exact wd_156
    · exact wd_149
    · exact wd_139
    · exact wd_161
    · exact wd_159
    · exact wd_127
    · exact wd_111
    · exact wd_147
    · exact wd_131
    · exact wd_39
    · exact wd_52
    · exact wd_133
    · exact wd_77
    · exact wd_95
    · exact wd_99
theorem laid : laidOutB EE.P = true := by kernel_rfl
theorem mapped : mapsRowed EE.P = true := by kernel_rfl
theorem sized : ((List.range EE.P.types.size).all fun t => match EE.P.underlying t with | some (.slice e) => decide (0 < EE.P.cellsOf e) | _ => true) = true := by kernel_rfl
theorem own : ownKnob EE.P.godebug = none := by kernel_rfl
end AM
