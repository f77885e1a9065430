/- The frame's facts on the program's types: written by gen/env.py. -/
import Derived.Test.YtlachfpabecaeaaQAmProg
import Derived.Test.YtlachfpabecaeaaQAmKinds
import Derived.KernelRfl
namespace AM
open Go
set_option maxRecDepth 100000
theorem Hb : tk EE 8 3 = some (Cd.kinds .int) := by kernel_rfl
theorem Ha : tk EE 8 5 = some (Cd.kinds .byte) := by kernel_rfl
theorem G_ : tk EE 8 9 = some (Cd.kinds .str) := by kernel_rfl
theorem CA : tk EE 8 66 = some (Cd.kinds .aE) := by kernel_rfl
theorem Cz : tk EE 8 82 = some (Cd.kinds .cm) := by kernel_rfl
theorem CD : tk EE 8 36 = some (Cd.kinds .br) := by kernel_rfl
theorem CF : tk EE 8 25 = some (Cd.kinds .dl) := by kernel_rfl
theorem CB : tk EE 8 38 = some (Cd.kinds .af) := by kernel_rfl
theorem CE : tk EE 8 27 = some (Cd.kinds .aU) := by kernel_rfl
theorem G5 : EE.P.cellsOf 3 = UU.wd .int := by kernel_rfl
theorem G4 : EE.P.cellsOf 5 = UU.wd .byte := by kernel_rfl
theorem G3 : EE.P.cellsOf 9 = UU.wd .str := by kernel_rfl
theorem Cp : EE.P.cellsOf 66 = UU.wd .aE := by kernel_rfl
theorem Co : EE.P.cellsOf 82 = UU.wd .cm := by kernel_rfl
theorem Cr : EE.P.cellsOf 36 = UU.wd .br := by kernel_rfl
theorem Ct : EE.P.cellsOf 25 = UU.wd .dl := by kernel_rfl
theorem Cq : EE.P.cellsOf 38 = UU.wd .af := by kernel_rfl
theorem Cs : EE.P.cellsOf 27 = UU.wd .aU := by kernel_rfl
theorem qb {l : List (TypeId × Cd)} {e : TypeId} {τ : Cd} (h : ju (U := UU) l e = some τ) : (e, τ) ∈ l := by
  induction l with
  | nil => cases h
  | cons p l ih =>
    obtain ⟨a, b⟩ := p
    simp only [ju] at h
    cases hb : Nat.beq a e <;> rw [hb] at h <;> simp only [cond_true, cond_false] at h
    · exact List.mem_cons_of_mem _ (ih h)
    · cases h
      rw [Nat.eq_of_beq_eq_true hb]
      exact List.mem_cons_self
theorem xz : jd EE Cd.kinds := by
  refine ⟨fun e τ h => ?_, fun e τ h => ?_, sw⟩
  · have := qb (l := Cw) h
    simp only [Cw, List.mem_cons, Prod.mk.injEq, List.not_mem_nil, or_false] at this
    rcases this with ⟨rfl, rfl⟩ | ⟨rfl, rfl⟩ | ⟨rfl, rfl⟩ | ⟨rfl, rfl⟩ | ⟨rfl, rfl⟩ | ⟨rfl, rfl⟩ | ⟨rfl, rfl⟩ | ⟨rfl, rfl⟩ | ⟨rfl, rfl⟩
    · exact Hb
    · exact Ha
    · exact G_
    · exact CA
    · exact Cz
    · exact CD
    · exact CF
    · exact CB
    · exact CE
  · have := qb (l := Cw) h
    simp only [Cw, List.mem_cons, Prod.mk.injEq, List.not_mem_nil, or_false] at this
    rcases this with ⟨rfl, rfl⟩ | ⟨rfl, rfl⟩ | ⟨rfl, rfl⟩ | ⟨rfl, rfl⟩ | ⟨rfl, rfl⟩ | ⟨rfl, rfl⟩ | ⟨rfl, rfl⟩ | ⟨rfl, rfl⟩ | ⟨rfl, rfl⟩
    · exact G5
    · exact G4
    · exact G3
    · exact Cp
    · exact Co
    · exact Cr
    · exact Ct
    · exact Cq
    · exact Cs
theorem laid : laidOutB EE.P = true := by kernel_rfl
theorem zj : mapsRowed EE.P = true := by kernel_rfl
theorem sized : ((List.range EE.P.types.size).all fun t => match EE.P.underlying t with | some (.slice e) => decide (0 < EE.P.cellsOf e) | _ => true) = true := by kernel_rfl
theorem own : ownKnob EE.P.godebug = none := by kernel_rfl
end AM
