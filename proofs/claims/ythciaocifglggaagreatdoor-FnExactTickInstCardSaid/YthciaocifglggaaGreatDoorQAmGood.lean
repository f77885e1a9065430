import Derived.Test.YthciaocifglggaaGreatDoorQAmProg
import Derived.Test.YthciaocifglggaaGreatDoorQAmKinds
import Derived.KernelRfl
namespace AM
open Go
set_option maxRecDepth 100000
theorem ajr : tk EE 8 3 = some (Cd.kinds .int) := by kernel_rfl
theorem ajq : tk EE 8 5 = some (Cd.kinds .byte) := by kernel_rfl
theorem ajp : tk EE 8 9 = some (Cd.kinds .str) := by kernel_rfl
theorem VF : tk EE 8 145 = some (Cd.kinds .bm) := by kernel_rfl
theorem VM : tk EE 8 116 = some (Cd.kinds .gJ) := by kernel_rfl
theorem ZX : tk EE 8 87 = some (Cd.kinds .cP) := by kernel_rfl
theorem VN : tk EE 8 114 = some (Cd.kinds .mL) := by kernel_rfl
theorem Vy : tk EE 8 197 = some (Cd.kinds .aP) := by kernel_rfl
theorem Vz : tk EE 8 192 = some (Cd.kinds .iQ) := by kernel_rfl
theorem Z0 : tk EE 8 38 = some (Cd.kinds .di) := by kernel_rfl
theorem Z2 : tk EE 8 27 = some (Cd.kinds .jO) := by kernel_rfl
theorem Vw : tk EE 8 243 = some (Cd.kinds .iy) := by kernel_rfl
theorem Vr : tk EE 8 258 = some (Cd.kinds .nQ) := by kernel_rfl
theorem Vx : tk EE 8 240 = some (Cd.kinds .fU) := by kernel_rfl
theorem Vs : tk EE 8 255 = some (Cd.kinds .nP) := by kernel_rfl
theorem Vt : tk EE 8 251 = some (Cd.kinds .dG) := by kernel_rfl
theorem Vo : tk EE 8 267 = some (Cd.kinds .jS) := by kernel_rfl
theorem Vv : tk EE 8 245 = some (Cd.kinds .de) := by kernel_rfl
theorem Vq : tk EE 8 260 = some (Cd.kinds .jR) := by kernel_rfl
theorem Vn : tk EE 8 300 = some (Cd.kinds .fc) := by kernel_rfl
theorem Vm : tk EE 8 322 = some (Cd.kinds .jQ) := by kernel_rfl
theorem Vu : tk EE 8 248 = some (Cd.kinds .fV) := by kernel_rfl
theorem Vp : tk EE 8 264 = some (Cd.kinds .nR) := by kernel_rfl
theorem VD : tk EE 8 154 = some (Cd.kinds .cy) := by kernel_rfl
theorem VP : tk EE 8 104 = some (Cd.kinds .jP) := by kernel_rfl
theorem ZY : tk EE 8 50 = some (Cd.kinds .kN) := by kernel_rfl
theorem Z3 : tk EE 8 24 = some (Cd.kinds .pd) := by kernel_rfl
theorem VC : tk EE 8 159 = some (Cd.kinds .aI) := by kernel_rfl
theorem VO : tk EE 8 110 = some (Cd.kinds .gL) := by kernel_rfl
theorem VG : tk EE 8 139 = some (Cd.kinds .ax) := by kernel_rfl
theorem VJ : tk EE 8 121 = some (Cd.kinds .gK) := by kernel_rfl
theorem VE : tk EE 8 147 = some (Cd.kinds .aw) := by kernel_rfl
theorem VK : tk EE 8 118 = some (Cd.kinds .jN) := by kernel_rfl
theorem ZW : tk EE 8 89 = some (Cd.kinds .cu) := by kernel_rfl
theorem VA : tk EE 8 164 = some (Cd.kinds .aW) := by kernel_rfl
theorem VH : tk EE 8 124 = some (Cd.kinds .jM) := by kernel_rfl
theorem ZZ : tk EE 8 44 = some (Cd.kinds .cz) := by kernel_rfl
theorem Z1 : tk EE 8 33 = some (Cd.kinds .kG) := by kernel_rfl
theorem ajm : EE.P.cellsOf 3 = UU.wd .int := by kernel_rfl
theorem ajl : EE.P.cellsOf 5 = UU.wd .byte := by kernel_rfl
theorem ajk : EE.P.cellsOf 9 = UU.wd .str := by kernel_rfl
theorem Va : EE.P.cellsOf 145 = UU.wd .bm := by kernel_rfl
theorem Vf : EE.P.cellsOf 116 = UU.wd .gJ := by kernel_rfl
theorem ZK : EE.P.cellsOf 87 = UU.wd .cP := by kernel_rfl
theorem Vg : EE.P.cellsOf 114 = UU.wd .mL := by kernel_rfl
theorem U6 : EE.P.cellsOf 197 = UU.wd .aP := by kernel_rfl
theorem U7 : EE.P.cellsOf 192 = UU.wd .iQ := by kernel_rfl
theorem ZN : EE.P.cellsOf 38 = UU.wd .di := by kernel_rfl
theorem ZP : EE.P.cellsOf 27 = UU.wd .jO := by kernel_rfl
theorem U4 : EE.P.cellsOf 243 = UU.wd .iy := by kernel_rfl
theorem UZ : EE.P.cellsOf 258 = UU.wd .nQ := by kernel_rfl
theorem U5 : EE.P.cellsOf 240 = UU.wd .fU := by kernel_rfl
theorem U0 : EE.P.cellsOf 255 = UU.wd .nP := by kernel_rfl
theorem U1 : EE.P.cellsOf 251 = UU.wd .dG := by kernel_rfl
theorem UW : EE.P.cellsOf 267 = UU.wd .jS := by kernel_rfl
theorem U3 : EE.P.cellsOf 245 = UU.wd .de := by kernel_rfl
theorem UY : EE.P.cellsOf 260 = UU.wd .jR := by kernel_rfl
theorem UT : EE.P.cellsOf 300 = UU.wd .fc := by kernel_rfl
theorem US : EE.P.cellsOf 322 = UU.wd .jQ := by kernel_rfl
theorem U2 : EE.P.cellsOf 248 = UU.wd .fV := by kernel_rfl
theorem UX : EE.P.cellsOf 264 = UU.wd .nR := by kernel_rfl
theorem U' : EE.P.cellsOf 154 = UU.wd .cy := by kernel_rfl
theorem Vi : EE.P.cellsOf 104 = UU.wd .jP := by kernel_rfl
theorem ZL : EE.P.cellsOf 50 = UU.wd .kN := by kernel_rfl
theorem ZQ : EE.P.cellsOf 24 = UU.wd .pd := by kernel_rfl
theorem U9 : EE.P.cellsOf 159 = UU.wd .aI := by kernel_rfl
theorem Vh : EE.P.cellsOf 110 = UU.wd .gL := by kernel_rfl
theorem Vb : EE.P.cellsOf 139 = UU.wd .ax := by kernel_rfl
theorem Vd : EE.P.cellsOf 121 = UU.wd .gK := by kernel_rfl
theorem U_ : EE.P.cellsOf 147 = UU.wd .aw := by kernel_rfl
theorem Ve : EE.P.cellsOf 118 = UU.wd .jN := by kernel_rfl
theorem ZJ : EE.P.cellsOf 89 = UU.wd .cu := by kernel_rfl
theorem U8 : EE.P.cellsOf 164 = UU.wd .aW := by kernel_rfl
theorem Vc : EE.P.cellsOf 124 = UU.wd .jM := by kernel_rfl
theorem ZM : EE.P.cellsOf 44 = UU.wd .cz := by kernel_rfl
theorem ZO : EE.P.cellsOf 33 = UU.wd .kG := by kernel_rfl
theorem GP {l : List (TypeId × Cd)} {e : TypeId} {τ : Cd} (h : uy (U := UU) l e = some τ) : (e, τ) ∈ l := by
  induction l with
  | nil => cases h
  | cons p l ih =>
    obtain ⟨a, b⟩ := p
    simp only [uy] at h
    cases hb : Nat.beq a e <;> rw [hb] at h <;> simp only [cond_true, cond_false] at h
    · exact List.mem_cons_of_mem _ (ih h)
    · cases h
      rw [Nat.eq_of_beq_eq_true hb]
      exact List.mem_cons_self
theorem MC : BT EE Cd.kinds := by
  refine ⟨fun e τ h => ?_, fun e τ h => ?_, Kq⟩
  · have := GP (l := ZV) h
    simp only [ZV, List.mem_cons, Prod.mk.injEq, List.not_mem_nil, or_false] at this
    rcases this with ⟨rfl, rfl⟩ | ⟨rfl, rfl⟩ | ⟨rfl, rfl⟩ | ⟨rfl, rfl⟩ | ⟨rfl, rfl⟩ | ⟨rfl, rfl⟩ | ⟨rfl, rfl⟩ | ⟨rfl, rfl⟩ | ⟨rfl, rfl⟩ | ⟨rfl, rfl⟩ | ⟨rfl, rfl⟩ | ⟨rfl, rfl⟩ | ⟨rfl, rfl⟩ | ⟨rfl, rfl⟩ | ⟨rfl, rfl⟩ | ⟨rfl, rfl⟩ | ⟨rfl, rfl⟩ | ⟨rfl, rfl⟩ | ⟨rfl, rfl⟩ | ⟨rfl, rfl⟩ | ⟨rfl, rfl⟩ | ⟨rfl, rfl⟩ | ⟨rfl, rfl⟩ | ⟨rfl, rfl⟩ | ⟨rfl, rfl⟩ | ⟨rfl, rfl⟩ | ⟨rfl, rfl⟩ | ⟨rfl, rfl⟩ | ⟨rfl, rfl⟩ | ⟨rfl, rfl⟩ | ⟨rfl, rfl⟩ | ⟨rfl, rfl⟩ | ⟨rfl, rfl⟩ | ⟨rfl, rfl⟩ | ⟨rfl, rfl⟩ | ⟨rfl, rfl⟩ | ⟨rfl, rfl⟩ | ⟨rfl, rfl⟩
    · exact ajr
    · exact ajq
    · exact ajp
    · exact VF
    · exact VM
    · exact ZX
    · exact VN
    · exact Vy
    · exact Vz
    · exact Z0
    · exact Z2
    · exact Vw
    · exact Vr
    · exact Vx
    · exact Vs
    · exact Vt
    · exact Vo
    · exact Vv
    · exact Vq
    · exact Vn
    · exact Vm
    · exact Vu
    · exact Vp
    · exact VD
    · exact VP
    · exact ZY
    · exact Z3
    · exact VC
    · exact VO
    · exact VG
    · exact VJ
    · exact VE
    · exact VK
    · exact ZW
    · exact VA
    · exact VH
    · exact ZZ
    · exact Z1
  · have := GP (l := ZV) h
    simp only [ZV, List.mem_cons, Prod.mk.injEq, List.not_mem_nil, or_false] at this
    rcases this with ⟨rfl, rfl⟩ | ⟨rfl, rfl⟩ | ⟨rfl, rfl⟩ | ⟨rfl, rfl⟩ | ⟨rfl, rfl⟩ | ⟨rfl, rfl⟩ | ⟨rfl, rfl⟩ | ⟨rfl, rfl⟩ | ⟨rfl, rfl⟩ | ⟨rfl, rfl⟩ | ⟨rfl, rfl⟩ | ⟨rfl, rfl⟩ | ⟨rfl, rfl⟩ | ⟨rfl, rfl⟩ | ⟨rfl, rfl⟩ | ⟨rfl, rfl⟩ | ⟨rfl, rfl⟩ | ⟨rfl, rfl⟩ | ⟨rfl, rfl⟩ | ⟨rfl, rfl⟩ | ⟨rfl, rfl⟩ | ⟨rfl, rfl⟩ | ⟨rfl, rfl⟩ | ⟨rfl, rfl⟩ | ⟨rfl, rfl⟩ | ⟨rfl, rfl⟩ | ⟨rfl, rfl⟩ | ⟨rfl, rfl⟩ | ⟨rfl, rfl⟩ | ⟨rfl, rfl⟩ | ⟨rfl, rfl⟩ | ⟨rfl, rfl⟩ | ⟨rfl, rfl⟩ | ⟨rfl, rfl⟩ | ⟨rfl, rfl⟩ | ⟨rfl, rfl⟩ | ⟨rfl, rfl⟩ | ⟨rfl, rfl⟩
    · exact ajm
    · exact ajl
    · exact ajk
    · exact Va
    · exact Vf
    · exact ZK
    · exact Vg
    · exact U6
    · exact U7
    · exact ZN
    · exact ZP
    · exact U4
    · exact UZ
    · exact U5
    · exact U0
    · exact U1
    · exact UW
    · exact U3
    · exact UY
    · exact UT
    · exact US
    · exact U2
    · exact UX
    · exact U'
    · exact Vi
    · exact ZL
    · exact ZQ
    · exact U9
    · exact Vh
    · exact Vb
    · exact Vd
    · exact U_
    · exact Ve
    · exact ZJ
    · exact U8
    · exact Vc
    · exact ZM
    · exact ZO
theorem laid : laidOutB EE.P = true := by kernel_rfl
theorem mapped : mapsRowed EE.P = true := by kernel_rfl
theorem sized : ((List.range EE.P.types.size).all fun t => match EE.P.underlying t with | some (.slice e) => decide (0 < EE.P.cellsOf e) | _ => true) = true := by kernel_rfl
theorem own : ownKnob EE.P.godebug = none := by kernel_rfl
end AM
