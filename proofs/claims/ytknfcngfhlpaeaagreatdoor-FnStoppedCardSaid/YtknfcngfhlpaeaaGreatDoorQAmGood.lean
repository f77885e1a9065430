import Derived.Test.YtknfcngfhlpaeaaGreatDoorQAmProg
import Derived.Test.YtknfcngfhlpaeaaGreatDoorQAmKinds
import Derived.KernelRfl
namespace AM
open Go
set_option maxRecDepth 100000
theorem ahl : tk EE 8 3 = some (Cd.kinds .int) := by kernel_rfl
theorem ahk : tk EE 8 5 = some (Cd.kinds .byte) := by kernel_rfl
theorem ahj : tk EE 8 9 = some (Cd.kinds .str) := by kernel_rfl
theorem Z5 : tk EE 8 55 = some (Cd.kinds .bf) := by kernel_rfl
theorem Z6 : tk EE 8 45 = some (Cd.kinds .cU) := by kernel_rfl
theorem Wi : tk EE 8 132 = some (Cd.kinds .aK) := by kernel_rfl
theorem Z8 : tk EE 8 29 = some (Cd.kinds .dD) := by kernel_rfl
theorem Wg : tk EE 8 181 = some (Cd.kinds .im) := by kernel_rfl
theorem Wd : tk EE 8 197 = some (Cd.kinds .ey) := by kernel_rfl
theorem Wa : tk EE 8 224 = some (Cd.kinds .cw) := by kernel_rfl
theorem Wf : tk EE 8 183 = some (Cd.kinds .cM) := by kernel_rfl
theorem Wc : tk EE 8 203 = some (Cd.kinds .bN) := by kernel_rfl
theorem We : tk EE 8 187 = some (Cd.kinds .eJ) := by kernel_rfl
theorem Wj : tk EE 8 128 = some (Cd.kinds .cv) := by kernel_rfl
theorem Z9 : tk EE 8 26 = some (Cd.kinds .gJ) := by kernel_rfl
theorem Wh : tk EE 8 139 = some (Cd.kinds .av) := by kernel_rfl
theorem Wb : tk EE 8 214 = some (Cd.kinds .dz) := by kernel_rfl
theorem Wk : tk EE 8 110 = some (Cd.kinds .ax) := by kernel_rfl
theorem Z0 : tk EE 8 87 = some (Cd.kinds .aq) := by kernel_rfl
theorem Z4 : tk EE 8 57 = some (Cd.kinds .dw) := by kernel_rfl
theorem Z3 : tk EE 8 59 = some (Cd.kinds .aI) := by kernel_rfl
theorem Z7 : tk EE 8 35 = some (Cd.kinds .bY) := by kernel_rfl
theorem Z2 : tk EE 8 69 = some (Cd.kinds .kk) := by kernel_rfl
theorem Z1 : tk EE 8 73 = some (Cd.kinds .ny) := by kernel_rfl
theorem ahg : EE.P.cellsOf 3 = UU.wd .int := by kernel_rfl
theorem ahf : EE.P.cellsOf 5 = UU.wd .byte := by kernel_rfl
theorem ahe : EE.P.cellsOf 9 = UU.wd .str := by kernel_rfl
theorem ZQ : EE.P.cellsOf 55 = UU.wd .bf := by kernel_rfl
theorem ZR : EE.P.cellsOf 45 = UU.wd .cU := by kernel_rfl
theorem V6 : EE.P.cellsOf 132 = UU.wd .aK := by kernel_rfl
theorem ZT : EE.P.cellsOf 29 = UU.wd .dD := by kernel_rfl
theorem V4 : EE.P.cellsOf 181 = UU.wd .im := by kernel_rfl
theorem V1 : EE.P.cellsOf 197 = UU.wd .ey := by kernel_rfl
theorem VY : EE.P.cellsOf 224 = UU.wd .cw := by kernel_rfl
theorem V3 : EE.P.cellsOf 183 = UU.wd .cM := by kernel_rfl
theorem V0 : EE.P.cellsOf 203 = UU.wd .bN := by kernel_rfl
theorem V2 : EE.P.cellsOf 187 = UU.wd .eJ := by kernel_rfl
theorem V7 : EE.P.cellsOf 128 = UU.wd .cv := by kernel_rfl
theorem ZU : EE.P.cellsOf 26 = UU.wd .gJ := by kernel_rfl
theorem V5 : EE.P.cellsOf 139 = UU.wd .av := by kernel_rfl
theorem VZ : EE.P.cellsOf 214 = UU.wd .dz := by kernel_rfl
theorem V8 : EE.P.cellsOf 110 = UU.wd .ax := by kernel_rfl
theorem ZL : EE.P.cellsOf 87 = UU.wd .aq := by kernel_rfl
theorem ZP : EE.P.cellsOf 57 = UU.wd .dw := by kernel_rfl
theorem ZO : EE.P.cellsOf 59 = UU.wd .aI := by kernel_rfl
theorem ZS : EE.P.cellsOf 35 = UU.wd .bY := by kernel_rfl
theorem ZN : EE.P.cellsOf 69 = UU.wd .kk := by kernel_rfl
theorem ZM : EE.P.cellsOf 73 = UU.wd .ny := by kernel_rfl
theorem I3 {l : List (TypeId × Cd)} {e : TypeId} {τ : Cd} (h : vM (U := UU) l e = some τ) : (e, τ) ∈ l := by
  induction l with
  | nil => cases h
  | cons p l ih =>
    obtain ⟨a, b⟩ := p
    simp only [vM] at h
    cases hb : Nat.beq a e <;> rw [hb] at h <;> simp only [cond_true, cond_false] at h
    · exact List.mem_cons_of_mem _ (ih h)
    · cases h
      rw [Nat.eq_of_beq_eq_true hb]
      exact List.mem_cons_self
theorem abw : Ft EE Cd.kinds := by
  refine ⟨fun e τ h => ?_, fun e τ h => ?_, Mz⟩
  · have := I3 (l := ZX) h
    simp only [ZX, List.mem_cons, Prod.mk.injEq, List.not_mem_nil, or_false] at this
    rcases this with ⟨rfl, rfl⟩ | ⟨rfl, rfl⟩ | ⟨rfl, rfl⟩ | ⟨rfl, rfl⟩ | ⟨rfl, rfl⟩ | ⟨rfl, rfl⟩ | ⟨rfl, rfl⟩ | ⟨rfl, rfl⟩ | ⟨rfl, rfl⟩ | ⟨rfl, rfl⟩ | ⟨rfl, rfl⟩ | ⟨rfl, rfl⟩ | ⟨rfl, rfl⟩ | ⟨rfl, rfl⟩ | ⟨rfl, rfl⟩ | ⟨rfl, rfl⟩ | ⟨rfl, rfl⟩ | ⟨rfl, rfl⟩ | ⟨rfl, rfl⟩ | ⟨rfl, rfl⟩ | ⟨rfl, rfl⟩ | ⟨rfl, rfl⟩ | ⟨rfl, rfl⟩ | ⟨rfl, rfl⟩
    · exact ahl
    · exact ahk
    · exact ahj
    · exact Z5
    · exact Z6
    · exact Wi
    · exact Z8
    · exact Wg
    · exact Wd
    · exact Wa
    · exact Wf
    · exact Wc
    · exact We
    · exact Wj
    · exact Z9
    · exact Wh
    · exact Wb
    · exact Wk
    · exact Z0
    · exact Z4
    · exact Z3
    · exact Z7
    · exact Z2
    · exact Z1
  · have := I3 (l := ZX) h
    simp only [ZX, List.mem_cons, Prod.mk.injEq, List.not_mem_nil, or_false] at this
    rcases this with ⟨rfl, rfl⟩ | ⟨rfl, rfl⟩ | ⟨rfl, rfl⟩ | ⟨rfl, rfl⟩ | ⟨rfl, rfl⟩ | ⟨rfl, rfl⟩ | ⟨rfl, rfl⟩ | ⟨rfl, rfl⟩ | ⟨rfl, rfl⟩ | ⟨rfl, rfl⟩ | ⟨rfl, rfl⟩ | ⟨rfl, rfl⟩ | ⟨rfl, rfl⟩ | ⟨rfl, rfl⟩ | ⟨rfl, rfl⟩ | ⟨rfl, rfl⟩ | ⟨rfl, rfl⟩ | ⟨rfl, rfl⟩ | ⟨rfl, rfl⟩ | ⟨rfl, rfl⟩ | ⟨rfl, rfl⟩ | ⟨rfl, rfl⟩ | ⟨rfl, rfl⟩ | ⟨rfl, rfl⟩
    · exact ahg
    · exact ahf
    · exact ahe
    · exact ZQ
    · exact ZR
    · exact V6
    · exact ZT
    · exact V4
    · exact V1
    · exact VY
    · exact V3
    · exact V0
    · exact V2
    · exact V7
    · exact ZU
    · exact V5
    · exact VZ
    · exact V8
    · exact ZL
    · exact ZP
    · exact ZO
    · exact ZS
    · exact ZN
    · exact ZM
theorem laid : laidOutB EE.P = true := by kernel_rfl
theorem mapped : mapsRowed EE.P = true := by kernel_rfl
theorem sized : ((List.range EE.P.types.size).all fun t => match EE.P.underlying t with | some (.slice e) => decide (0 < EE.P.cellsOf e) | _ => true) = true := by kernel_rfl
theorem own : ownKnob EE.P.godebug = none := by kernel_rfl
end AM
