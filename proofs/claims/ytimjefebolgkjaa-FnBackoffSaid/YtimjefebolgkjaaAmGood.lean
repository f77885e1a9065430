/- The frame's facts on the program's types: written by gen/env.py. -/
import Derived.Test.YtimjefebolgkjaaAmProg
import Derived.Test.YtimjefebolgkjaaAmKinds
import Derived.KernelRfl
namespace AM
open Go
set_option maxRecDepth 100000
theorem tk_3 : tk EE 8 3 = some (Cd.kinds .int) := by kernel_rfl
theorem tk_5 : tk EE 8 5 = some (Cd.kinds .byte) := by kernel_rfl
theorem tk_9 : tk EE 8 9 = some (Cd.kinds .str) := by kernel_rfl
theorem tk_94 : tk EE 8 94 = some (Cd.kinds .eVal) := by kernel_rfl
theorem tk_106 : tk EE 8 106 = some (Cd.kinds .lVal) := by kernel_rfl
theorem tk_41 : tk EE 8 41 = some (Cd.kinds .eFact) := by kernel_rfl
theorem tk_67 : tk EE 8 67 = some (Cd.kinds .lFact) := by kernel_rfl
theorem tk_83 : tk EE 8 83 = some (Cd.kinds .eTimer) := by kernel_rfl
theorem tk_80 : tk EE 8 80 = some (Cd.kinds .lTimer) := by kernel_rfl
theorem tk_71 : tk EE 8 71 = some (Cd.kinds .eUndo) := by kernel_rfl
theorem tk_69 : tk EE 8 69 = some (Cd.kinds .lUndo) := by kernel_rfl
theorem wd_3 : EE.P.cellsOf 3 = UU.wd .int := by kernel_rfl
theorem wd_5 : EE.P.cellsOf 5 = UU.wd .byte := by kernel_rfl
theorem wd_9 : EE.P.cellsOf 9 = UU.wd .str := by kernel_rfl
theorem wd_94 : EE.P.cellsOf 94 = UU.wd .eVal := by kernel_rfl
theorem wd_106 : EE.P.cellsOf 106 = UU.wd .lVal := by kernel_rfl
theorem wd_41 : EE.P.cellsOf 41 = UU.wd .eFact := by kernel_rfl
theorem wd_67 : EE.P.cellsOf 67 = UU.wd .lFact := by kernel_rfl
theorem wd_83 : EE.P.cellsOf 83 = UU.wd .eTimer := by kernel_rfl
theorem wd_80 : EE.P.cellsOf 80 = UU.wd .lTimer := by kernel_rfl
theorem wd_71 : EE.P.cellsOf 71 = UU.wd .eUndo := by kernel_rfl
theorem wd_69 : EE.P.cellsOf 69 = UU.wd .lUndo := by kernel_rfl
theorem code_mem {l : List (TypeId × Cd)} {e : TypeId} {τ : Cd} (h : codeOf (U := UU) l e = some τ) : (e, τ) ∈ l := by
  induction l with
  | nil => cases h
  | cons p l ih =>
    obtain ⟨a, b⟩ := p
    simp only [codeOf] at h
    cases hb : Nat.beq a e <;> rw [hb] at h <;> simp only [cond_true, cond_false] at h
    · exact List.mem_cons_of_mem _ (ih h)
    · cases h
      rw [Nat.eq_of_beq_eq_true hb]
      exact List.mem_cons_self
theorem kgood : KGood EE Cd.kinds := by
  refine ⟨fun e τ h => ?_, fun e τ h => ?_, kinds_dec⟩
  · have := code_mem (l := tyl) h
    simp only [tyl, List.mem_cons, Prod.mk.injEq, List.not_mem_nil, or_false] at this
    rcases this with ⟨rfl, rfl⟩ | ⟨rfl, rfl⟩ | ⟨rfl, rfl⟩ | ⟨rfl, rfl⟩ | ⟨rfl, rfl⟩ | ⟨rfl, rfl⟩ | ⟨rfl, rfl⟩ | ⟨rfl, rfl⟩ | ⟨rfl, rfl⟩ | ⟨rfl, rfl⟩ | ⟨rfl, rfl⟩
    · exact tk_3
    · exact tk_5
    · exact tk_9
    · exact tk_94
    · exact tk_106
    · exact tk_41
    · exact tk_67
    · exact tk_83
    · exact tk_80
    · exact tk_71
    · exact tk_69
  · have := code_mem (l := tyl) h
    simp only [tyl, List.mem_cons, Prod.mk.injEq, List.not_mem_nil, or_false] at this
    rcases this with ⟨rfl, rfl⟩ | ⟨rfl, rfl⟩ | ⟨rfl, rfl⟩ | ⟨rfl, rfl⟩ | ⟨rfl, rfl⟩ | ⟨rfl, rfl⟩ | ⟨rfl, rfl⟩ | ⟨rfl, rfl⟩ | ⟨rfl, rfl⟩ | ⟨rfl, rfl⟩ | ⟨rfl, rfl⟩
    · exact wd_3
    · exact wd_5
    · exact wd_9
    · exact wd_94
    · exact wd_106
    · exact wd_41
    · exact wd_67
    · exact wd_83
    · exact wd_80
    · exact wd_71
    · exact wd_69
theorem laid : laidOutB EE.P = true := by kernel_rfl
theorem mapped : mapsRowed EE.P = true := by kernel_rfl
theorem sized : ((List.range EE.P.types.size).all fun t => match EE.P.underlying t with | some (.slice e) => decide (0 < EE.P.cellsOf e) | _ => true) = true := by kernel_rfl
theorem own : ownKnob EE.P.godebug = none := by kernel_rfl
end AM
