/- The frame's facts on the program's types: written by gen/env.py. -/
import Derived.Test.YtgpfppbkndgejaaDoorAmProg
import Derived.Test.YtgpfppbkndgejaaDoorAmKinds
import Derived.KernelRfl
namespace AM
open Go
set_option maxRecDepth 100000
theorem tk_3 : tk EE 8 3 = some (Cd.kinds .int) := by kernel_rfl
theorem tk_5 : tk EE 8 5 = some (Cd.kinds .byte) := by kernel_rfl
theorem tk_9 : tk EE 8 9 = some (Cd.kinds .str) := by kernel_rfl
theorem tk_39 : tk EE 8 39 = some (Cd.kinds .eVal) := by kernel_rfl
theorem tk_27 : tk EE 8 27 = some (Cd.kinds .lVal) := by kernel_rfl
theorem tk_38 : tk EE 8 38 = some (Cd.kinds .eFact) := by kernel_rfl
theorem tk_25 : tk EE 8 25 = some (Cd.kinds .lFact) := by kernel_rfl
theorem tk_41 : tk EE 8 41 = some (Cd.kinds .eTask) := by kernel_rfl
theorem tk_29 : tk EE 8 29 = some (Cd.kinds .lTask) := by kernel_rfl
theorem tk_103 : tk EE 8 103 = some (Cd.kinds .eCall) := by kernel_rfl
theorem tk_78 : tk EE 8 78 = some (Cd.kinds .eUndo) := by kernel_rfl
theorem tk_70 : tk EE 8 70 = some (Cd.kinds .lUndo) := by kernel_rfl
theorem wd_3 : EE.P.cellsOf 3 = UU.wd .int := by kernel_rfl
theorem wd_5 : EE.P.cellsOf 5 = UU.wd .byte := by kernel_rfl
theorem wd_9 : EE.P.cellsOf 9 = UU.wd .str := by kernel_rfl
theorem wd_39 : EE.P.cellsOf 39 = UU.wd .eVal := by kernel_rfl
theorem wd_27 : EE.P.cellsOf 27 = UU.wd .lVal := by kernel_rfl
theorem wd_38 : EE.P.cellsOf 38 = UU.wd .eFact := by kernel_rfl
theorem wd_25 : EE.P.cellsOf 25 = UU.wd .lFact := by kernel_rfl
theorem wd_41 : EE.P.cellsOf 41 = UU.wd .eTask := by kernel_rfl
theorem wd_29 : EE.P.cellsOf 29 = UU.wd .lTask := by kernel_rfl
theorem wd_103 : EE.P.cellsOf 103 = UU.wd .eCall := by kernel_rfl
theorem wd_78 : EE.P.cellsOf 78 = UU.wd .eUndo := by kernel_rfl
theorem wd_70 : EE.P.cellsOf 70 = UU.wd .lUndo := by kernel_rfl
theorem code_mem {l : List (TypeId × Cd)} {e : TypeId} {τ : Cd} (h : codeOf (U := UU) l e = some τ) : (e, τ) ∈ l := by
  induction l with
  | nil => cases h
  | cons p l ih =>
    obtain ⟨a, b⟩ := p
    simp only [codeOf] at h
    cases hb : Nat.beq a e <;> rw [hb] at h <;> simp only [cond_true, cond_false] at h
    · exact List.mem_cons_of_mem _ (ih h)
    · cases h
      rw [Nat.eq_of_beq_eq_true hb]
      exact List.mem_cons_self
theorem kgood : KGood EE Cd.kinds := by
  refine ⟨fun e τ h => ?_, fun e τ h => ?_, kinds_dec⟩
  · have := code_mem (l := tyl) h
    simp only [tyl, List.mem_cons, Prod.mk.injEq, List.not_mem_nil, or_false] at this
    rcases this with ⟨rfl, rfl⟩ | ⟨rfl, rfl⟩ | ⟨rfl, rfl⟩ | ⟨rfl, rfl⟩ | ⟨rfl, rfl⟩ | ⟨rfl, rfl⟩ | ⟨rfl, rfl⟩ | ⟨rfl, rfl⟩ | ⟨rfl, rfl⟩ | ⟨rfl, rfl⟩ | ⟨rfl, rfl⟩ | ⟨rfl, rfl⟩
    · exact tk_3
    · exact tk_5
    · exact tk_9
    · exact tk_39
    · exact tk_27
    · exact tk_38
    · exact tk_25
    · exact tk_41
    · exact tk_29
    · exact tk_103
    · exact tk_78
    · exact tk_70
  · have := code_mem (l := tyl) h
    simp only [tyl, List.mem_cons, Prod.mk.injEq, List.not_mem_nil, or_false] at this
    rcases this with ⟨rfl, rfl⟩ | ⟨rfl, rfl⟩ | ⟨rfl, rfl⟩ | ⟨rfl, rfl⟩ | ⟨rfl, rfl⟩ | ⟨rfl, rfl⟩ | ⟨rfl, rfl⟩ | ⟨rfl, rfl⟩ | ⟨rfl, rfl⟩ | ⟨rfl, rfl⟩ | ⟨rfl, rfl⟩ | ⟨rfl, rfl⟩
    · exact wd_3
    · exact wd_5
    · exact wd_9
    · exact wd_39
    · exact wd_27
    · exact wd_38
    · exact wd_25
    · exact wd_41
    · exact wd_29
    · exact wd_103
    · exact wd_78
    · exact wd_70
theorem laid : laidOutB EE.P = true := by kernel_rfl
theorem mapped : mapsRowed EE.P = true := by kernel_rfl
theorem sized : ((List.range EE.P.types.size).all fun t => match EE.P.underlying t with | some (.slice e) => decide (0 < EE.P.cellsOf e) | _ => true) = true := by kernel_rfl
theorem own : ownKnob EE.P.godebug = none := by kernel_rfl
end AM
