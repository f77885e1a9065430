import Derived.Test.YtmcepppejchhkaaGreatDoorQAmProg
import Derived.Test.YtmcepppejchhkaaGreatDoorQAmKinds
import Derived.KernelRfl
namespace AM
open Go
set_option maxRecDepth 100000
theorem akP : tk EE 8 3 = some (Cd.kinds .int) := by kernel_rfl
theorem akO : tk EE 8 5 = some (Cd.kinds .byte) := by kernel_rfl
theorem akN : tk EE 8 9 = some (Cd.kinds .str) := by kernel_rfl
theorem acL : tk EE 8 80 = some (Cd.kinds .bf) := by kernel_rfl
theorem acQ : tk EE 8 47 = some (Cd.kinds .db) := by kernel_rfl
theorem ZZ : tk EE 8 125 = some (Cd.kinds .aJ) := by kernel_rfl
theorem acS : tk EE 8 29 = some (Cd.kinds .cQ) := by kernel_rfl
theorem ZW : tk EE 8 174 = some (Cd.kinds .gM) := by kernel_rfl
theorem ZX : tk EE 8 171 = some (Cd.kinds .dB) := by kernel_rfl
theorem ZT : tk EE 8 205 = some (Cd.kinds .cw) := by kernel_rfl
theorem ZV : tk EE 8 176 = some (Cd.kinds .ca) := by kernel_rfl
theorem ZS : tk EE 8 216 = some (Cd.kinds .bI) := by kernel_rfl
theorem ZU : tk EE 8 180 = some (Cd.kinds .dE) := by kernel_rfl
theorem Z0 : tk EE 8 121 = some (Cd.kinds .bB) := by kernel_rfl
theorem acT : tk EE 8 26 = some (Cd.kinds .h_) := by kernel_rfl
theorem acI : tk EE 8 92 = some (Cd.kinds .aB) := by kernel_rfl
theorem ZR : tk EE 8 231 = some (Cd.kinds .eD) := by kernel_rfl
theorem acP : tk EE 8 49 = some (Cd.kinds .aE) := by kernel_rfl
theorem acJ : tk EE 8 82 = some (Cd.kinds .az) := by kernel_rfl
theorem acM : tk EE 8 70 = some (Cd.kinds .dw) := by kernel_rfl
theorem ZY : tk EE 8 130 = some (Cd.kinds .aQ) := by kernel_rfl
theorem acR : tk EE 8 35 = some (Cd.kinds .cp) := by kernel_rfl
theorem acO : tk EE 8 63 = some (Cd.kinds .lm) := by kernel_rfl
theorem acN : tk EE 8 67 = some (Cd.kinds .oN) := by kernel_rfl
theorem akJ : EE.P.cellsOf 3 = UU.wd .int := by kernel_rfl
theorem akI : EE.P.cellsOf 5 = UU.wd .byte := by kernel_rfl
theorem akH : EE.P.cellsOf 9 = UU.wd .str := by kernel_rfl
theorem acv : EE.P.cellsOf 80 = UU.wd .bf := by kernel_rfl
theorem acA : EE.P.cellsOf 47 = UU.wd .db := by kernel_rfl
theorem ZM : EE.P.cellsOf 125 = UU.wd .aJ := by kernel_rfl
theorem acD : EE.P.cellsOf 29 = UU.wd .cQ := by kernel_rfl
theorem ZJ : EE.P.cellsOf 174 = UU.wd .gM := by kernel_rfl
theorem ZK : EE.P.cellsOf 171 = UU.wd .dB := by kernel_rfl
theorem ZG : EE.P.cellsOf 205 = UU.wd .cw := by kernel_rfl
theorem ZI : EE.P.cellsOf 176 = UU.wd .ca := by kernel_rfl
theorem ZF : EE.P.cellsOf 216 = UU.wd .bI := by kernel_rfl
theorem ZH : EE.P.cellsOf 180 = UU.wd .dE := by kernel_rfl
theorem ZN : EE.P.cellsOf 121 = UU.wd .bB := by kernel_rfl
theorem acF : EE.P.cellsOf 26 = UU.wd .h_ := by kernel_rfl
theorem acr : EE.P.cellsOf 92 = UU.wd .aB := by kernel_rfl
theorem ZE : EE.P.cellsOf 231 = UU.wd .eD := by kernel_rfl
theorem acz : EE.P.cellsOf 49 = UU.wd .aE := by kernel_rfl
theorem acu : EE.P.cellsOf 82 = UU.wd .az := by kernel_rfl
theorem acw : EE.P.cellsOf 70 = UU.wd .dw := by kernel_rfl
theorem ZL : EE.P.cellsOf 130 = UU.wd .aQ := by kernel_rfl
theorem acC : EE.P.cellsOf 35 = UU.wd .cp := by kernel_rfl
theorem acy : EE.P.cellsOf 63 = UU.wd .lm := by kernel_rfl
theorem acx : EE.P.cellsOf 67 = UU.wd .oN := by kernel_rfl
theorem L2 {l : List (TypeId × Cd)} {e : TypeId} {τ : Cd} (h : xy (U := UU) l e = some τ) : (e, τ) ∈ l := by
  induction l with
  | nil => cases h
  | cons p l ih =>
    obtain ⟨a, b⟩ := p
    simp only [xy] at h
    cases hb : Nat.beq a e <;> rw [hb] at h <;> simp only [cond_true, cond_false] at h
    · exact List.mem_cons_of_mem _ (ih h)
    · cases h
      rw [Nat.eq_of_beq_eq_true hb]
      exact List.mem_cons_self
theorem aeh : HO EE Cd.kinds := by
  refine ⟨fun e τ h => ?_, fun e τ h => ?_, PP⟩
  · have := L2 (l := tyl) h
    simp only [tyl, List.mem_cons, Prod.mk.injEq, List.not_mem_nil, or_false] at this
    rcases this with ⟨rfl, rfl⟩ | ⟨rfl, rfl⟩ | ⟨rfl, rfl⟩ | ⟨rfl, rfl⟩ | ⟨rfl, rfl⟩ | ⟨rfl, rfl⟩ | ⟨rfl, rfl⟩ | ⟨rfl, rfl⟩ | ⟨rfl, rfl⟩ | ⟨rfl, rfl⟩ | ⟨rfl, rfl⟩ | ⟨rfl, rfl⟩ | ⟨rfl, rfl⟩ | ⟨rfl, rfl⟩ | ⟨rfl, rfl⟩ | ⟨rfl, rfl⟩ | ⟨rfl, rfl⟩ | ⟨rfl, rfl⟩ | ⟨rfl, rfl⟩ | ⟨rfl, rfl⟩ | ⟨rfl, rfl⟩ | ⟨rfl, rfl⟩ | ⟨rfl, rfl⟩ | ⟨rfl, rfl⟩
    · exact akP
    · exact akO
    · exact akN
    · exact acL
    · exact acQ
    · exact ZZ
    · exact acS
    · exact ZW
    · exact ZX
    · exact ZT
    · exact ZV
    · exact ZS
    · exact ZU
    · exact Z0
    · exact acT
    · exact acI
    · exact ZR
    · exact acP
    · exact acJ
    · exact acM
    · exact ZY
    · exact acR
    · exact acO
    · exact acN
  · have := L2 (l := tyl) h
    simp only [tyl, List.mem_cons, Prod.mk.injEq, List.not_mem_nil, or_false] at this
    rcases this with ⟨rfl, rfl⟩ | ⟨rfl, rfl⟩ | ⟨rfl, rfl⟩ | ⟨rfl, rfl⟩ | ⟨rfl, rfl⟩ | ⟨rfl, rfl⟩ | ⟨rfl, rfl⟩ | ⟨rfl, rfl⟩ | ⟨rfl, rfl⟩ | ⟨rfl, rfl⟩ | ⟨rfl, rfl⟩ | ⟨rfl, rfl⟩ | ⟨rfl, rfl⟩ | ⟨rfl, rfl⟩ | ⟨rfl, rfl⟩ | ⟨rfl, rfl⟩ | ⟨rfl, rfl⟩ | ⟨rfl, rfl⟩ | ⟨rfl, rfl⟩ | ⟨rfl, rfl⟩ | ⟨rfl, rfl⟩ | ⟨rfl, rfl⟩ | ⟨rfl, rfl⟩ | ⟨rfl, rfl⟩
    · exact akJ
    · exact akI
    · exact akH
    · exact acv
    · exact acA
    · exact ZM
    · exact acD
    · exact ZJ
    · exact ZK
    · exact ZG
    · exact ZI
    · exact ZF
    · exact ZH
    · exact ZN
    · exact acF
    · exact acr
    · exact ZE
    · exact acz
    · exact acu
    · exact acw
    · exact ZL
    · exact acC
    · exact acy
    · exact acx
theorem laid : laidOutB EE.P = true := by kernel_rfl
theorem mapped : mapsRowed EE.P = true := by kernel_rfl
theorem sized : ((List.range EE.P.types.size).all fun t => match EE.P.underlying t with | some (.slice e) => decide (0 < EE.P.cellsOf e) | _ => true) = true := by kernel_rfl
theorem own : ownKnob EE.P.godebug = none := by kernel_rfl
end AM
