/- The frame's facts on the program's types: written by gen/env.py. -/
import Derived.Test.YtceiiofmelhipaaGreatDoorAmProg
import Derived.Test.YtceiiofmelhipaaGreatDoorAmKinds
import Derived.KernelRfl
namespace AM
open Go
set_option maxRecDepth 100000
theorem tk_3 : tk EE 8 3 = some (Cd.kinds .int) := by kernel_rfl
theorem tk_5 : tk EE 8 5 = some (Cd.kinds .byte) := by kernel_rfl
theorem tk_9 : tk EE 8 9 = some (Cd.kinds .str) := by kernel_rfl
theorem tk_81 : tk EE 8 81 = some (Cd.kinds .eVal) := by kernel_rfl
theorem tk_38 : tk EE 8 38 = some (Cd.kinds .eFact) := by kernel_rfl
theorem tk_89 : tk EE 8 89 = some (Cd.kinds .eItem) := by kernel_rfl
theorem tk_54 : tk EE 8 54 = some (Cd.kinds .eStore) := by kernel_rfl
theorem tk_108 : tk EE 8 108 = some (Cd.kinds .eArg) := by kernel_rfl
theorem tk_96 : tk EE 8 96 = some (Cd.kinds .ePat) := by kernel_rfl
theorem tk_161 : tk EE 8 161 = some (Cd.kinds .eBind) := by kernel_rfl
theorem tk_110 : tk EE 8 110 = some (Cd.kinds .eCond) := by kernel_rfl
theorem tk_115 : tk EE 8 115 = some (Cd.kinds .eExpr) := by kernel_rfl
theorem tk_71 : tk EE 8 71 = some (Cd.kinds .eAct) := by kernel_rfl
theorem tk_66 : tk EE 8 66 = some (Cd.kinds .eRule) := by kernel_rfl
theorem tk_26 : tk EE 8 26 = some (Cd.kinds .eDef) := by kernel_rfl
theorem tk_30 : tk EE 8 30 = some (Cd.kinds .eMatch) := by kernel_rfl
theorem tk_40 : tk EE 8 40 = some (Cd.kinds .eEffect) := by kernel_rfl
theorem wd_3 : EE.P.cellsOf 3 = UU.wd .int := by kernel_rfl
theorem wd_5 : EE.P.cellsOf 5 = UU.wd .byte := by kernel_rfl
theorem wd_9 : EE.P.cellsOf 9 = UU.wd .str := by kernel_rfl
theorem wd_81 : EE.P.cellsOf 81 = UU.wd .eVal := by kernel_rfl
theorem wd_38 : EE.P.cellsOf 38 = UU.wd .eFact := by kernel_rfl
theorem wd_89 : EE.P.cellsOf 89 = UU.wd .eItem := by kernel_rfl
theorem wd_54 : EE.P.cellsOf 54 = UU.wd .eStore := by kernel_rfl
theorem wd_108 : EE.P.cellsOf 108 = UU.wd .eArg := by kernel_rfl
theorem wd_96 : EE.P.cellsOf 96 = UU.wd .ePat := by kernel_rfl
theorem wd_161 : EE.P.cellsOf 161 = UU.wd .eBind := by kernel_rfl
theorem wd_110 : EE.P.cellsOf 110 = UU.wd .eCond := by kernel_rfl
theorem wd_115 : EE.P.cellsOf 115 = UU.wd .eExpr := by kernel_rfl
theorem wd_71 : EE.P.cellsOf 71 = UU.wd .eAct := by kernel_rfl
theorem wd_66 : EE.P.cellsOf 66 = UU.wd .eRule := by kernel_rfl
theorem wd_26 : EE.P.cellsOf 26 = UU.wd .eDef := by kernel_rfl
theorem wd_30 : EE.P.cellsOf 30 = UU.wd .eMatch := by kernel_rfl
theorem wd_40 : EE.P.cellsOf 40 = UU.wd .eEffect := by kernel_rfl
theorem code_mem {l : List (TypeId × Cd)} {e : TypeId} {τ : Cd} (h : codeOf (U := UU) l e = some τ) : (e, τ) ∈ l := by
  induction l with
  | nil => cases h
  | cons p l ih =>
    obtain ⟨a, b⟩ := p
    simp only [codeOf] at h
    cases hb : Nat.beq a e <;> rw [hb] at h <;> simp only [cond_true, cond_false] at h
    · exact List.mem_cons_of_mem _ (ih h)
    · cases h
      rw [Nat.eq_of_beq_eq_true hb]
      exact List.mem_cons_self
theorem kgood : KGood EE Cd.kinds := by
  refine ⟨fun e τ h => ?_, fun e τ h => ?_, kinds_dec⟩
  · have := code_mem (l := tyl) h
    simp only [tyl, List.mem_cons, Prod.mk.injEq, List.not_mem_nil, or_false] at this
    rcases this with ⟨rfl, rfl⟩ | ⟨rfl, rfl⟩ | ⟨rfl, rfl⟩ | ⟨rfl, rfl⟩ | ⟨rfl, rfl⟩ | ⟨rfl, rfl⟩ | ⟨rfl, rfl⟩ | ⟨rfl, rfl⟩ | ⟨rfl, rfl⟩ | ⟨rfl, rfl⟩ | ⟨rfl, rfl⟩ | ⟨rfl, rfl⟩ | ⟨rfl, rfl⟩ | ⟨rfl, rfl⟩ | ⟨rfl, rfl⟩ | ⟨rfl, rfl⟩ | ⟨rfl, rfl⟩
    · exact tk_3
    · exact tk_5
    · exact tk_9
    · exact tk_81
    · exact tk_38
    · exact tk_89
    · exact tk_54
    · exact tk_108
    · exact tk_96
    · exact tk_161
    · exact tk_110
    · exact tk_115
    · exact tk_71
    · exact tk_66
    · exact tk_26
    · exact tk_30
    · exact tk_40
  · have := code_mem (l := tyl) h
    simp only [tyl, List.mem_cons, Prod.mk.injEq, List.not_mem_nil, or_false] at this
    rcases this with ⟨rfl, rfl⟩ | ⟨rfl, rfl⟩ | ⟨rfl, rfl⟩ | ⟨rfl, rfl⟩ | ⟨rfl, rfl⟩ | ⟨rfl, rfl⟩ | ⟨rfl, rfl⟩ | ⟨rfl, rfl⟩ | ⟨rfl, rfl⟩ | ⟨rfl, rfl⟩ | ⟨rfl, rfl⟩ | ⟨rfl, rfl⟩ | ⟨rfl, rfl⟩ | ⟨rfl, rfl⟩ | ⟨rfl, rfl⟩ | ⟨rfl, rfl⟩ | ⟨rfl, rfl⟩
    · exact wd_3
    · exact wd_5
    · exact wd_9
    · exact wd_81
    · exact wd_38
    · exact wd_89
    · exact wd_54
    · exact wd_108
    · exact wd_96
    · exact wd_161
    · exact wd_110
    · exact wd_115
    · exact wd_71
    · exact wd_66
    · exact wd_26
    · exact wd_30
    · exact wd_40
theorem laid : laidOutB EE.P = true := by kernel_rfl
theorem mapped : mapsRowed EE.P = true := by kernel_rfl
theorem sized : ((List.range EE.P.types.size).all fun t => match EE.P.underlying t with | some (.slice e) => decide (0 < EE.P.cellsOf e) | _ => true) = true := by kernel_rfl
theorem own : ownKnob EE.P.godebug = none := by kernel_rfl
end AM
