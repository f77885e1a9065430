/- The frame's facts on the program's types: written by gen/env.py. -/
import Derived.Test.YtpkdgcookaobfaaGreatDoorQAmProg
import Derived.Test.YtpkdgcookaobfaaGreatDoorQAmKinds
import Derived.KernelRfl
namespace AM
open Go
set_option maxRecDepth 100000
theorem ako : tk EE 8 3 = some (Cd.kinds .int) := by kernel_rfl
theorem akn : tk EE 8 5 = some (Cd.kinds .byte) := by kernel_rfl
theorem akm : tk EE 8 9 = some (Cd.kinds .str) := by kernel_rfl
theorem acu : tk EE 8 37 = some (Cd.kinds .bc) := by kernel_rfl
theorem acr : tk EE 8 47 = some (Cd.kinds .dc) := by kernel_rfl
theorem acn : tk EE 8 84 = some (Cd.kinds .aJ) := by kernel_rfl
theorem acw : tk EE 8 29 = some (Cd.kinds .cT) := by kernel_rfl
theorem ZC : tk EE 8 162 = some (Cd.kinds .gB) := by kernel_rfl
theorem Zz : tk EE 8 177 = some (Cd.kinds .du) := by kernel_rfl
theorem Zy : tk EE 8 198 = some (Cd.kinds .cv) := by kernel_rfl
theorem ZB : tk EE 8 164 = some (Cd.kinds .ca) := by kernel_rfl
theorem Zx : tk EE 8 212 = some (Cd.kinds .bJ) := by kernel_rfl
theorem ZA : tk EE 8 168 = some (Cd.kinds .dx) := by kernel_rfl
theorem ZF : tk EE 8 121 = some (Cd.kinds .bE) := by kernel_rfl
theorem acx : tk EE 8 26 = some (Cd.kinds .hH) := by kernel_rfl
theorem acm : tk EE 8 96 = some (Cd.kinds .aE) := by kernel_rfl
theorem Zw : tk EE 8 234 = some (Cd.kinds .eo) := by kernel_rfl
theorem ZE : tk EE 8 127 = some (Cd.kinds .aI) := by kernel_rfl
theorem acq : tk EE 8 49 = some (Cd.kinds .ax) := by kernel_rfl
theorem Zv : tk EE 8 242 = some (Cd.kinds .k8) := by kernel_rfl
theorem ZD : tk EE 8 130 = some (Cd.kinds .aL) := by kernel_rfl
theorem acv : tk EE 8 35 = some (Cd.kinds .cf) := by kernel_rfl
theorem acp : tk EE 8 65 = some (Cd.kinds .kZ) := by kernel_rfl
theorem aco : tk EE 8 69 = some (Cd.kinds .oz) := by kernel_rfl
theorem aki : EE.P.cellsOf 3 = UU.wd .int := by kernel_rfl
theorem akh : EE.P.cellsOf 5 = UU.wd .byte := by kernel_rfl
theorem akg : EE.P.cellsOf 9 = UU.wd .str := by kernel_rfl
theorem acf : EE.P.cellsOf 37 = UU.wd .bc := by kernel_rfl
theorem ace : EE.P.cellsOf 47 = UU.wd .dc := by kernel_rfl
theorem ab_ : EE.P.cellsOf 84 = UU.wd .aJ := by kernel_rfl
theorem ach : EE.P.cellsOf 29 = UU.wd .cT := by kernel_rfl
theorem Zo : EE.P.cellsOf 162 = UU.wd .gB := by kernel_rfl
theorem Zl : EE.P.cellsOf 177 = UU.wd .du := by kernel_rfl
theorem Zk : EE.P.cellsOf 198 = UU.wd .cv := by kernel_rfl
theorem Zn : EE.P.cellsOf 164 = UU.wd .ca := by kernel_rfl
theorem Zj : EE.P.cellsOf 212 = UU.wd .bJ := by kernel_rfl
theorem Zm : EE.P.cellsOf 168 = UU.wd .dx := by kernel_rfl
theorem Zr : EE.P.cellsOf 121 = UU.wd .bE := by kernel_rfl
theorem aci : EE.P.cellsOf 26 = UU.wd .hH := by kernel_rfl
theorem ab' : EE.P.cellsOf 96 = UU.wd .aE := by kernel_rfl
theorem Zi : EE.P.cellsOf 234 = UU.wd .eo := by kernel_rfl
theorem Zq : EE.P.cellsOf 127 = UU.wd .aI := by kernel_rfl
theorem acd : EE.P.cellsOf 49 = UU.wd .ax := by kernel_rfl
theorem Zh : EE.P.cellsOf 242 = UU.wd .k8 := by kernel_rfl
theorem Zp : EE.P.cellsOf 130 = UU.wd .aL := by kernel_rfl
theorem acg : EE.P.cellsOf 35 = UU.wd .cf := by kernel_rfl
theorem acb : EE.P.cellsOf 65 = UU.wd .kZ := by kernel_rfl
theorem aca : EE.P.cellsOf 69 = UU.wd .oz := by kernel_rfl
theorem LF {l : List (TypeId × Cd)} {e : TypeId} {τ : Cd} (h : xc (U := UU) l e = some τ) : (e, τ) ∈ l := by
  induction l with
  | nil => cases h
  | cons p l ih =>
    obtain ⟨a, b⟩ := p
    simp only [xc] at h
    cases hb : Nat.beq a e <;> rw [hb] at h <;> simp only [cond_true, cond_false] at h
    · exact List.mem_cons_of_mem _ (ih h)
    · cases h
      rw [Nat.eq_of_beq_eq_true hb]
      exact List.mem_cons_self
theorem adY : Hz EE Cd.kinds := by
  refine ⟨fun e τ h => ?_, fun e τ h => ?_, PE⟩
  · have := LF (l := tyl) h
    simp only [tyl, List.mem_cons, Prod.mk.injEq, List.not_mem_nil, or_false] at this
    rcases this with ⟨rfl, rfl⟩ | ⟨rfl, rfl⟩ | ⟨rfl, rfl⟩ | ⟨rfl, rfl⟩ | ⟨rfl, rfl⟩ | ⟨rfl, rfl⟩ | ⟨rfl, rfl⟩ | ⟨rfl, rfl⟩ | ⟨rfl, rfl⟩ | ⟨rfl, rfl⟩ | ⟨rfl, rfl⟩ | ⟨rfl, rfl⟩ | ⟨rfl, rfl⟩ | ⟨rfl, rfl⟩ | ⟨rfl, rfl⟩ | ⟨rfl, rfl⟩ | ⟨rfl, rfl⟩ | ⟨rfl, rfl⟩ | ⟨rfl, rfl⟩ | ⟨rfl, rfl⟩ | ⟨rfl, rfl⟩ | ⟨rfl, rfl⟩ | ⟨rfl, rfl⟩ | ⟨rfl, rfl⟩
    · exact ako
    · exact akn
    · exact akm
    · exact acu
    · exact acr
    · exact acn
    · exact acw
    · exact ZC
    · exact Zz
    · exact Zy
    · exact ZB
    · exact Zx
    · exact ZA
    · exact ZF
    · exact acx
    · exact acm
    · exact Zw
    · exact ZE
    · exact acq
    · exact Zv
    · exact ZD
    · exact acv
    · exact acp
    · exact aco
  · have := LF (l := tyl) h
    simp only [tyl, List.mem_cons, Prod.mk.injEq, List.not_mem_nil, or_false] at this
    rcases this with ⟨rfl, rfl⟩ | ⟨rfl, rfl⟩ | ⟨rfl, rfl⟩ | ⟨rfl, rfl⟩ | ⟨rfl, rfl⟩ | ⟨rfl, rfl⟩ | ⟨rfl, rfl⟩ | ⟨rfl, rfl⟩ | ⟨rfl, rfl⟩ | ⟨rfl, rfl⟩ | ⟨rfl, rfl⟩ | ⟨rfl, rfl⟩ | ⟨rfl, rfl⟩ | ⟨rfl, rfl⟩ | ⟨rfl, rfl⟩ | ⟨rfl, rfl⟩ | ⟨rfl, rfl⟩ | ⟨rfl, rfl⟩ | ⟨rfl, rfl⟩ | ⟨rfl, rfl⟩ | ⟨rfl, rfl⟩ | ⟨rfl, rfl⟩ | ⟨rfl, rfl⟩ | ⟨rfl, rfl⟩
    · exact aki
    · exact akh
    · exact akg
    · exact acf
    · exact ace
    · exact ab_
    · exact ach
    · exact Zo
    · exact Zl
    · exact Zk
    · exact Zn
    · exact Zj
    · exact Zm
    · exact Zr
    · exact aci
    · exact ab'
    · exact Zi
    · exact Zq
    · exact acd
    · exact Zh
    · exact Zp
    · exact acg
    · exact acb
    · exact aca
theorem laid : laidOutB EE.P = true := by kernel_rfl
theorem mapped : mapsRowed EE.P = true := by kernel_rfl
theorem sized : ((List.range EE.P.types.size).all fun t => match EE.P.underlying t with | some (.slice e) => decide (0 < EE.P.cellsOf e) | _ => true) = true := by kernel_rfl
theorem own : ownKnob EE.P.godebug = none := by kernel_rfl
end AM
