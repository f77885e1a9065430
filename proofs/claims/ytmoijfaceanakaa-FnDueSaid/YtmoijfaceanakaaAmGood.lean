/- The frame's facts on the program's types: written by gen/env.py. -/
import Derived.Test.YtmoijfaceanakaaAmProg
import Derived.Test.YtmoijfaceanakaaAmKinds
import Derived.KernelRfl
namespace AM
open Go
set_option maxRecDepth 100000
theorem tk_3 : tk EE 8 3 = some (Cd.kinds .int) := by kernel_rfl
theorem tk_5 : tk EE 8 5 = some (Cd.kinds .byte) := by kernel_rfl
theorem tk_9 : tk EE 8 9 = some (Cd.kinds .str) := by kernel_rfl
theorem tk_28 : tk EE 8 28 = some (Cd.kinds .eVal) := by kernel_rfl
theorem tk_139 : tk EE 8 139 = some (Cd.kinds .lVal) := by kernel_rfl
theorem tk_26 : tk EE 8 26 = some (Cd.kinds .eFact) := by kernel_rfl
theorem tk_49 : tk EE 8 49 = some (Cd.kinds .lFact) := by kernel_rfl
theorem tk_56 : tk EE 8 56 = some (Cd.kinds .eTimer) := by kernel_rfl
theorem tk_51 : tk EE 8 51 = some (Cd.kinds .lTimer) := by kernel_rfl
theorem tk_30 : tk EE 8 30 = some (Cd.kinds .eOp) := by kernel_rfl
theorem wd_3 : EE.P.cellsOf 3 = UU.wd .int := by kernel_rfl
theorem wd_5 : EE.P.cellsOf 5 = UU.wd .byte := by kernel_rfl
theorem wd_9 : EE.P.cellsOf 9 = UU.wd .str := by kernel_rfl
theorem wd_28 : EE.P.cellsOf 28 = UU.wd .eVal := by kernel_rfl
theorem wd_139 : EE.P.cellsOf 139 = UU.wd .lVal := by kernel_rfl
theorem wd_26 : EE.P.cellsOf 26 = UU.wd .eFact := by kernel_rfl
theorem wd_49 : EE.P.cellsOf 49 = UU.wd .lFact := by kernel_rfl
theorem wd_56 : EE.P.cellsOf 56 = UU.wd .eTimer := by kernel_rfl
theorem wd_51 : EE.P.cellsOf 51 = UU.wd .lTimer := by kernel_rfl
theorem wd_30 : EE.P.cellsOf 30 = UU.wd .eOp := by kernel_rfl
theorem code_mem {l : List (TypeId × Cd)} {e : TypeId} {τ : Cd} (h : codeOf (U := UU) l e = some τ) : (e, τ) ∈ l := by
  induction l with
  | nil => cases h
  | cons p l ih =>
    obtain ⟨a, b⟩ := p
    simp only [codeOf] at h
    cases hb : Nat.beq a e <;> rw [hb] at h <;> simp only [cond_true, cond_false] at h
    · exact List.mem_cons_of_mem _ (ih h)
    · cases h
      rw [Nat.eq_of_beq_eq_true hb]
      exact List.mem_cons_self
theorem kgood : KGood EE Cd.kinds := by
  refine ⟨fun e τ h => ?_, fun e τ h => ?_, kinds_dec⟩
  · have := code_mem (l := tyl) h
    simp only [tyl, List.mem_cons, Prod.mk.injEq, List.not_mem_nil, or_false] at this
    rcases this with ⟨rfl, rfl⟩ | ⟨rfl, rfl⟩ | ⟨rfl, rfl⟩ | ⟨rfl, rfl⟩ | ⟨rfl, rfl⟩ | ⟨rfl, rfl⟩ | ⟨rfl, rfl⟩ | ⟨rfl, rfl⟩ | ⟨rfl, rfl⟩ | ⟨rfl, rfl⟩
    · exact tk_3
    · exact tk_5
    · exact tk_9
    · exact tk_28
    · exact tk_139
    · exact tk_26
    · exact tk_49
    · exact tk_56
    · exact tk_51
    · exact tk_30
  · have := code_mem (l := tyl) h
    simp only [tyl, List.mem_cons, Prod.mk.injEq, List.not_mem_nil, or_false] at this
    rcases this with ⟨rfl, rfl⟩ | ⟨rfl, rfl⟩ | ⟨rfl, rfl⟩ | ⟨rfl, rfl⟩ | ⟨rfl, rfl⟩ | ⟨rfl, rfl⟩ | ⟨rfl, rfl⟩ | ⟨rfl, rfl⟩ | ⟨rfl, rfl⟩ | ⟨rfl, rfl⟩
    · exact wd_3
    · exact wd_5
    · exact wd_9
    · exact wd_28
    · exact wd_139
    · exact wd_26
    · exact wd_49
    · exact wd_56
    · exact wd_51
    · exact wd_30
theorem laid : laidOutB EE.P = true := by kernel_rfl
theorem mapped : mapsRowed EE.P = true := by kernel_rfl
theorem sized : ((List.range EE.P.types.size).all fun t => match EE.P.underlying t with | some (.slice e) => decide (0 < EE.P.cellsOf e) | _ => true) = true := by kernel_rfl
theorem own : ownKnob EE.P.godebug = none := by kernel_rfl
end AM
