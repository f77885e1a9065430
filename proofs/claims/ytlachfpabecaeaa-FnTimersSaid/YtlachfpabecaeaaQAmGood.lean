/- The frame's facts on the program's types: written by gen/env.py. -/
import Derived.Test.YtlachfpabecaeaaQAmProg
import Derived.Test.YtlachfpabecaeaaQAmKinds
import Derived.KernelRfl
namespace AM
open Go
set_option maxRecDepth 100000
theorem HB : tk EE 8 3 = some (Cd.kinds .int) := by kernel_rfl
theorem HA : tk EE 8 5 = some (Cd.kinds .byte) := by kernel_rfl
theorem Hz : tk EE 8 9 = some (Cd.kinds .str) := by kernel_rfl
theorem CU : tk EE 8 66 = some (Cd.kinds .aH) := by kernel_rfl
theorem CT : tk EE 8 82 = some (Cd.kinds .ej) := by kernel_rfl
theorem CW : tk EE 8 36 = some (Cd.kinds .cN) := by kernel_rfl
theorem CY : tk EE 8 25 = some (Cd.kinds .ga) := by kernel_rfl
theorem CV : tk EE 8 38 = some (Cd.kinds .aj) := by kernel_rfl
theorem CX : tk EE 8 27 = some (Cd.kinds .et) := by kernel_rfl
theorem Ht : EE.P.cellsOf 3 = UU.wd .int := by kernel_rfl
theorem Hs : EE.P.cellsOf 5 = UU.wd .byte := by kernel_rfl
theorem Hr : EE.P.cellsOf 9 = UU.wd .str := by kernel_rfl
theorem CG : EE.P.cellsOf 66 = UU.wd .aH := by kernel_rfl
theorem CF : EE.P.cellsOf 82 = UU.wd .ej := by kernel_rfl
theorem CJ : EE.P.cellsOf 36 = UU.wd .cN := by kernel_rfl
theorem CM : EE.P.cellsOf 25 = UU.wd .ga := by kernel_rfl
theorem CH : EE.P.cellsOf 38 = UU.wd .aj := by kernel_rfl
theorem CK : EE.P.cellsOf 27 = UU.wd .et := by kernel_rfl
theorem rm {l : List (TypeId × Cd)} {e : TypeId} {τ : Cd} (h : jX (U := UU) l e = some τ) : (e, τ) ∈ l := by
  induction l with
  | nil => cases h
  | cons p l ih =>
    obtain ⟨a, b⟩ := p
    simp only [jX] at h
    cases hb : Nat.beq a e <;> rw [hb] at h <;> simp only [cond_true, cond_false] at h
    · exact List.mem_cons_of_mem _ (ih h)
    · cases h
      rw [Nat.eq_of_beq_eq_true hb]
      exact List.mem_cons_self
theorem Ev : jF EE Cd.kinds := by
  refine ⟨fun e τ h => ?_, fun e τ h => ?_, tF⟩
  · have := rm (l := CQ) h
    simp only [CQ, List.mem_cons, Prod.mk.injEq, List.not_mem_nil, or_false] at this
    rcases this with ⟨rfl, rfl⟩ | ⟨rfl, rfl⟩ | ⟨rfl, rfl⟩ | ⟨rfl, rfl⟩ | ⟨rfl, rfl⟩ | ⟨rfl, rfl⟩ | ⟨rfl, rfl⟩ | ⟨rfl, rfl⟩ | ⟨rfl, rfl⟩
    · exact HB
    · exact HA
    · exact Hz
    · exact CU
    · exact CT
    · exact CW
    · exact CY
    · exact CV
    · exact CX
  · have := rm (l := CQ) h
    simp only [CQ, List.mem_cons, Prod.mk.injEq, List.not_mem_nil, or_false] at this
    rcases this with ⟨rfl, rfl⟩ | ⟨rfl, rfl⟩ | ⟨rfl, rfl⟩ | ⟨rfl, rfl⟩ | ⟨rfl, rfl⟩ | ⟨rfl, rfl⟩ | ⟨rfl, rfl⟩ | ⟨rfl, rfl⟩ | ⟨rfl, rfl⟩
    · exact Ht
    · exact Hs
    · exact Hr
    · exact CG
    · exact CF
    · exact CJ
    · exact CM
    · exact CH
    · exact CK
theorem laid : laidOutB EE.P = true := by kernel_rfl
theorem Av : mapsRowed EE.P = true := by kernel_rfl
theorem sized : ((List.range EE.P.types.size).all fun t => match EE.P.underlying t with | some (.slice e) => decide (0 < EE.P.cellsOf e) | _ => true) = true := by kernel_rfl
theorem own : ownKnob EE.P.godebug = none := by kernel_rfl
end AM
