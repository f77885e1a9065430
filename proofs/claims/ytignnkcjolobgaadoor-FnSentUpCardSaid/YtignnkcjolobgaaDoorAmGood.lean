/- The frame's facts on the program's types: written by gen/env.py. -/
import Derived.Test.YtignnkcjolobgaaDoorAmProg
import Derived.Test.YtignnkcjolobgaaDoorAmKinds
import Derived.KernelRfl
namespace AM
open Go
set_option maxRecDepth 100000
theorem tk_3 : tk EE 8 3 = some (Cd.kinds .int) := by kernel_rfl
theorem tk_5 : tk EE 8 5 = some (Cd.kinds .byte) := by kernel_rfl
theorem tk_9 : tk EE 8 9 = some (Cd.kinds .str) := by kernel_rfl
theorem tk_38 : tk EE 8 38 = some (Cd.kinds .eVal) := by kernel_rfl
theorem tk_26 : tk EE 8 26 = some (Cd.kinds .eFact) := by kernel_rfl
theorem tk_40 : tk EE 8 40 = some (Cd.kinds .eTask) := by kernel_rfl
theorem tk_69 : tk EE 8 69 = some (Cd.kinds .eCall) := by kernel_rfl
theorem tk_52 : tk EE 8 52 = some (Cd.kinds .eUndo) := by kernel_rfl
theorem wd_3 : EE.P.cellsOf 3 = UU.wd .int := by kernel_rfl
theorem wd_5 : EE.P.cellsOf 5 = UU.wd .byte := by kernel_rfl
theorem wd_9 : EE.P.cellsOf 9 = UU.wd .str := by kernel_rfl
theorem wd_38 : EE.P.cellsOf 38 = UU.wd .eVal := by kernel_rfl
theorem wd_26 : EE.P.cellsOf 26 = UU.wd .eFact := by kernel_rfl
theorem wd_40 : EE.P.cellsOf 40 = UU.wd .eTask := by kernel_rfl
theorem wd_69 : EE.P.cellsOf 69 = UU.wd .eCall := by kernel_rfl
theorem wd_52 : EE.P.cellsOf 52 = UU.wd .eUndo := by kernel_rfl
theorem code_mem {l : List (TypeId × Cd)} {e : TypeId} {τ : Cd} (h : codeOf (U := UU) l e = some τ) : (e, τ) ∈ l := by
  induction l with
  | nil => cases h
  | cons p l ih =>
    obtain ⟨a, b⟩ := p
    simp only [codeOf] at h
    cases hb : Nat.beq a e <;> rw [hb] at h <;> simp only [cond_true, cond_false] at h
    · exact List.mem_cons_of_mem _ (ih h)
    · cases h
      rw [Nat.eq_of_beq_eq_true hb]
      exact List.mem_cons_self
theorem kgood : KGood EE Cd.kinds := by
  refine ⟨fun e τ h => ?_, fun e τ h => ?_, kinds_dec⟩
  · have := code_mem (l := tyl) h
    simp only [tyl, List.mem_cons, Prod.mk.injEq, List.not_mem_nil, or_false] at this
    rcases this with ⟨rfl, rfl⟩ | ⟨rfl, rfl⟩ | ⟨rfl, rfl⟩ | ⟨rfl, rfl⟩ | ⟨rfl, rfl⟩ | ⟨rfl, rfl⟩ | ⟨rfl, rfl⟩ | ⟨rfl, rfl⟩
    · exact tk_3
    · exact tk_5
    · exact tk_9
    · exact tk_38
    · exact tk_26
    · exact tk_40
    · exact tk_69
    · exact tk_52
  · have := code_mem (l := tyl) h
    simp only [tyl, List.mem_cons, Prod.mk.injEq, List.not_mem_nil, or_false] at this
    rcases this with ⟨rfl, rfl⟩ | ⟨rfl, rfl⟩ | ⟨rfl, rfl⟩ | ⟨rfl, rfl⟩ | ⟨rfl, rfl⟩ | ⟨rfl, rfl⟩ | ⟨rfl, rfl⟩ | ⟨rfl, rfl⟩
    · exact wd_3
    · exact wd_5
    · exact wd_9
    · exact wd_38
    · exact wd_26
    · exact wd_40
    · exact wd_69
    · exact wd_52
theorem laid : laidOutB EE.P = true := by kernel_rfl
theorem mapped : mapsRowed EE.P = true := by kernel_rfl
theorem sized : ((List.range EE.P.types.size).all fun t => match EE.P.underlying t with | some (.slice e) => decide (0 < EE.P.cellsOf e) | _ => true) = true := by kernel_rfl
theorem own : ownKnob EE.P.godebug = none := by kernel_rfl
end AM
