import Derived.Test.YtnndcpncmmcaaaaGreatQAmProg
import Derived.Test.YtnndcpncmmcaaaaGreatQAmKinds
import Derived.KernelRfl
namespace AM
open Go
set_option maxRecDepth 100000
theorem alZ : tk EE 8 3 = some (Cd.kinds .int) := by kernel_rfl
theorem alX : tk EE 8 5 = some (Cd.kinds .byte) := by kernel_rfl
theorem alW : tk EE 8 9 = some (Cd.kinds .str) := by kernel_rfl
theorem alY : tk EE 8 4 = some (Cd.kinds .bool) := by kernel_rfl
theorem Zd : tk EE 8 134 = some (Cd.kinds .bC) := by kernel_rfl
theorem Y_ : tk EE 8 159 = some (Cd.kinds .hU) := by kernel_rfl
theorem Ze : tk EE 8 132 = some (Cd.kinds .eP) := by kernel_rfl
theorem Za : tk EE 8 158 = some (Cd.kinds .nS) := by kernel_rfl
theorem Y5 : tk EE 8 178 = some (Cd.kinds .cg) := by kernel_rfl
theorem YT : tk EE 8 254 = some (Cd.kinds .fO) := by kernel_rfl
theorem acO : tk EE 8 49 = some (Cd.kinds .dW) := by kernel_rfl
theorem acT : tk EE 8 27 = some (Cd.kinds .jF) := by kernel_rfl
theorem YS : tk EE 8 272 = some (Cd.kinds .ig) := by kernel_rfl
theorem YW : tk EE 8 245 = some (Cd.kinds .oT) := by kernel_rfl
theorem Y0 : tk EE 8 198 = some (Cd.kinds .cq) := by kernel_rfl
theorem YX : tk EE 8 242 = some (Cd.kinds .k8) := by kernel_rfl
theorem YL : tk EE 8 338 = some (Cd.kinds .b8) := by kernel_rfl
theorem YO : tk EE 8 320 = some (Cd.kinds .jJ) := by kernel_rfl
theorem YR : tk EE 8 278 = some (Cd.kinds .cQ) := by kernel_rfl
theorem YV : tk EE 8 247 = some (Cd.kinds .jI) := by kernel_rfl
theorem YM : tk EE 8 330 = some (Cd.kinds .ga) := by kernel_rfl
theorem YK : tk EE 8 363 = some (Cd.kinds .jH) := by kernel_rfl
theorem YQ : tk EE 8 282 = some (Cd.kinds .eT) := by kernel_rfl
theorem YU : tk EE 8 251 = some (Cd.kinds .oU) := by kernel_rfl
theorem Zf : tk EE 8 119 = some (Cd.kinds .cw) := by kernel_rfl
theorem acK : tk EE 8 82 = some (Cd.kinds .jG) := by kernel_rfl
theorem acP : tk EE 8 45 = some (Cd.kinds .jc) := by kernel_rfl
theorem acU : tk EE 8 24 = some (Cd.kinds .qg) := by kernel_rfl
theorem Y2 : tk EE 8 189 = some (Cd.kinds .dB) := by kernel_rfl
theorem Zb : tk EE 8 154 = some (Cd.kinds .fG) := by kernel_rfl
theorem YZ : tk EE 8 202 = some (Cd.kinds .bI) := by kernel_rfl
theorem Y1 : tk EE 8 195 = some (Cd.kinds .ci) := by kernel_rfl
theorem Zj : tk EE 8 100 = some (Cd.kinds .mK) := by kernel_rfl
theorem Zi : tk EE 8 107 = some (Cd.kinds .cD) := by kernel_rfl
theorem Y7 : tk EE 8 169 = some (Cd.kinds .k9) := by kernel_rfl
theorem YY : tk EE 8 210 = some (Cd.kinds .bO) := by kernel_rfl
theorem YJ : tk EE 8 391 = some (Cd.kinds .oR) := by kernel_rfl
theorem Zg : tk EE 8 114 = some (Cd.kinds .cf) := by kernel_rfl
theorem YN : tk EE 8 325 = some (Cd.kinds .gG) := by kernel_rfl
theorem Zh : tk EE 8 110 = some (Cd.kinds .di) := by kernel_rfl
theorem Y6 : tk EE 8 173 = some (Cd.kinds .nb) := by kernel_rfl
theorem acM : tk EE 8 59 = some (Cd.kinds .jU) := by kernel_rfl
theorem acR : tk EE 8 37 = some (Cd.kinds .tu) := by kernel_rfl
theorem Y4 : tk EE 8 184 = some (Cd.kinds .dq) := by kernel_rfl
theorem Y9 : tk EE 8 164 = some (Cd.kinds .fF) := by kernel_rfl
theorem Zc : tk EE 8 136 = some (Cd.kinds .dJ) := by kernel_rfl
theorem Y' : tk EE 8 161 = some (Cd.kinds .iy) := by kernel_rfl
theorem Y3 : tk EE 8 186 = some (Cd.kinds .eO) := by kernel_rfl
theorem Y8 : tk EE 8 167 = some (Cd.kinds .ix) := by kernel_rfl
theorem acN : tk EE 8 55 = some (Cd.kinds .jb) := by kernel_rfl
theorem acS : tk EE 8 33 = some (Cd.kinds .nR) := by kernel_rfl
theorem acL : tk EE 8 61 = some (Cd.kinds .ra) := by kernel_rfl
theorem acQ : tk EE 8 39 = some (Cd.kinds .qf) := by kernel_rfl
theorem YP : tk EE 8 304 = some (Cd.kinds .gM) := by kernel_rfl
theorem alT : EE.P.cellsOf 3 = UU.wd .int := by kernel_rfl
theorem alR : EE.P.cellsOf 5 = UU.wd .byte := by kernel_rfl
theorem alQ : EE.P.cellsOf 9 = UU.wd .str := by kernel_rfl
theorem alS : EE.P.cellsOf 4 = UU.wd .bool := by kernel_rfl
theorem YA : EE.P.cellsOf 134 = UU.wd .bC := by kernel_rfl
theorem Yw : EE.P.cellsOf 159 = UU.wd .hU := by kernel_rfl
theorem YB : EE.P.cellsOf 132 = UU.wd .eP := by kernel_rfl
theorem Yx : EE.P.cellsOf 158 = UU.wd .nS := by kernel_rfl
theorem Yq : EE.P.cellsOf 178 = UU.wd .cg := by kernel_rfl
theorem Ye : EE.P.cellsOf 254 = UU.wd .fO := by kernel_rfl
theorem acC : EE.P.cellsOf 49 = UU.wd .dW := by kernel_rfl
theorem acH : EE.P.cellsOf 27 = UU.wd .jF := by kernel_rfl
theorem Yd : EE.P.cellsOf 272 = UU.wd .ig := by kernel_rfl
theorem Yh : EE.P.cellsOf 245 = UU.wd .oT := by kernel_rfl
theorem Yl : EE.P.cellsOf 198 = UU.wd .cq := by kernel_rfl
theorem Yi : EE.P.cellsOf 242 = UU.wd .k8 := by kernel_rfl
theorem X8 : EE.P.cellsOf 338 = UU.wd .b8 := by kernel_rfl
theorem X_ : EE.P.cellsOf 320 = UU.wd .jJ := by kernel_rfl
theorem Yc : EE.P.cellsOf 278 = UU.wd .cQ := by kernel_rfl
theorem Yg : EE.P.cellsOf 247 = UU.wd .jI := by kernel_rfl
theorem X9 : EE.P.cellsOf 330 = UU.wd .ga := by kernel_rfl
theorem X7 : EE.P.cellsOf 363 = UU.wd .jH := by kernel_rfl
theorem Yb : EE.P.cellsOf 282 = UU.wd .eT := by kernel_rfl
theorem Yf : EE.P.cellsOf 251 = UU.wd .oU := by kernel_rfl
theorem YC : EE.P.cellsOf 119 = UU.wd .cw := by kernel_rfl
theorem acy : EE.P.cellsOf 82 = UU.wd .jG := by kernel_rfl
theorem acD : EE.P.cellsOf 45 = UU.wd .jc := by kernel_rfl
theorem acI : EE.P.cellsOf 24 = UU.wd .qg := by kernel_rfl
theorem Yn : EE.P.cellsOf 189 = UU.wd .dB := by kernel_rfl
theorem Yy : EE.P.cellsOf 154 = UU.wd .fG := by kernel_rfl
theorem Yk : EE.P.cellsOf 202 = UU.wd .bI := by kernel_rfl
theorem Ym : EE.P.cellsOf 195 = UU.wd .ci := by kernel_rfl
theorem YG : EE.P.cellsOf 100 = UU.wd .mK := by kernel_rfl
theorem YF : EE.P.cellsOf 107 = UU.wd .cD := by kernel_rfl
theorem Ys : EE.P.cellsOf 169 = UU.wd .k9 := by kernel_rfl
theorem Yj : EE.P.cellsOf 210 = UU.wd .bO := by kernel_rfl
theorem X6 : EE.P.cellsOf 391 = UU.wd .oR := by kernel_rfl
theorem YD : EE.P.cellsOf 114 = UU.wd .cf := by kernel_rfl
theorem X' : EE.P.cellsOf 325 = UU.wd .gG := by kernel_rfl
theorem YE : EE.P.cellsOf 110 = UU.wd .di := by kernel_rfl
theorem Yr : EE.P.cellsOf 173 = UU.wd .nb := by kernel_rfl
theorem acA : EE.P.cellsOf 59 = UU.wd .jU := by kernel_rfl
theorem acF : EE.P.cellsOf 37 = UU.wd .tu := by kernel_rfl
theorem Yp : EE.P.cellsOf 184 = UU.wd .dq := by kernel_rfl
theorem Yu : EE.P.cellsOf 164 = UU.wd .fF := by kernel_rfl
theorem Yz : EE.P.cellsOf 136 = UU.wd .dJ := by kernel_rfl
theorem Yv : EE.P.cellsOf 161 = UU.wd .iy := by kernel_rfl
theorem Yo : EE.P.cellsOf 186 = UU.wd .eO := by kernel_rfl
theorem Yt : EE.P.cellsOf 167 = UU.wd .ix := by kernel_rfl
theorem acB : EE.P.cellsOf 55 = UU.wd .jb := by kernel_rfl
theorem acG : EE.P.cellsOf 33 = UU.wd .nR := by kernel_rfl
theorem acz : EE.P.cellsOf 61 = UU.wd .ra := by kernel_rfl
theorem acE : EE.P.cellsOf 39 = UU.wd .qf := by kernel_rfl
theorem Ya : EE.P.cellsOf 304 = UU.wd .gM := by kernel_rfl
theorem Jl {l : List (TypeId × Cd)} {e : TypeId} {τ : Cd} (h : vS (U := UU) l e = some τ) : (e, τ) ∈ l := by
  induction l with
  | nil => cases h
  | cons p l ih =>
    obtain ⟨a, b⟩ := p
    simp only [vS] at h
    cases hb : Nat.beq a e <;> rw [hb] at h <;> simp only [cond_true, cond_false] at h
    · exact List.mem_cons_of_mem _ (ih h)
    · cases h
      rw [Nat.eq_of_beq_eq_true hb]
      exact List.mem_cons_self
theorem VD : JW EE Cd.kinds := by
  refine ⟨fun e τ h => ?_, fun e τ h => ?_, Nj⟩
  · have := Jl (l := tyl) (e := e) (τ := τ) h
    simp only [tyl, List.mem_cons, Prod.mk.injEq, List.not_mem_nil, or_false] at this
    rcases this with ⟨rfl, rfl⟩ | ⟨rfl, rfl⟩ | ⟨rfl, rfl⟩ | ⟨rfl, rfl⟩ | ⟨rfl, rfl⟩ | ⟨rfl, rfl⟩ | ⟨rfl, rfl⟩ | ⟨rfl, rfl⟩ | ⟨rfl, rfl⟩ | ⟨rfl, rfl⟩ | ⟨rfl, rfl⟩ | ⟨rfl, rfl⟩ | ⟨rfl, rfl⟩ | ⟨rfl, rfl⟩ | ⟨rfl, rfl⟩ | ⟨rfl, rfl⟩ | ⟨rfl, rfl⟩ | ⟨rfl, rfl⟩ | ⟨rfl, rfl⟩ | ⟨rfl, rfl⟩ | ⟨rfl, rfl⟩ | ⟨rfl, rfl⟩ | ⟨rfl, rfl⟩ | ⟨rfl, rfl⟩ | ⟨rfl, rfl⟩ | ⟨rfl, rfl⟩ | ⟨rfl, rfl⟩ | ⟨rfl, rfl⟩ | ⟨rfl, rfl⟩ | ⟨rfl, rfl⟩ | ⟨rfl, rfl⟩ | ⟨rfl, rfl⟩ | ⟨rfl, rfl⟩ | ⟨rfl, rfl⟩ | ⟨rfl, rfl⟩ | ⟨rfl, rfl⟩ | ⟨rfl, rfl⟩ | ⟨rfl, rfl⟩ | ⟨rfl, rfl⟩ | ⟨rfl, rfl⟩ | ⟨rfl, rfl⟩ | ⟨rfl, rfl⟩ | ⟨rfl, rfl⟩ | ⟨rfl, rfl⟩ | ⟨rfl, rfl⟩ | ⟨rfl, rfl⟩ | ⟨rfl, rfl⟩ | ⟨rfl, rfl⟩ | ⟨rfl, rfl⟩ | ⟨rfl, rfl⟩ | ⟨rfl, rfl⟩ | ⟨rfl, rfl⟩ | ⟨rfl, rfl⟩ | ⟨rfl, rfl⟩
    · exact alZ
    · exact alX
    · exact alW
    · exact alY
    · exact Zd
    · exact Y_
    · exact Ze
    · exact Za
    · exact Y5
    · exact YT
    · exact acO
    · exact acT
    · exact YS
    · exact YW
    · exact Y0
    · exact YX
    · exact YL
    · exact YO
    · exact YR
    · exact YV
    · exact YM
    · exact YK
    · exact YQ
    · exact YU
    · exact Zf
    · exact acK
    · exact acP
    · exact acU
    · exact Y2
    · exact Zb
    · exact YZ
    · exact Y1
    · exact Zj
    · exact Zi
    · exact Y7
    · exact YY
    · exact YJ
    · exact Zg
    · exact YN
    · exact Zh
    · exact Y6
    · exact acM
    · exact acR
    · exact Y4
    · exact Y9
    · exact Zc
    · exact Y'
    · exact Y3
    · exact Y8
    · exact acN
    · exact acS
    · exact acL
    · exact acQ
    · exact YP
  · have := Jl (l := tyl) (e := e) (τ := τ) h
    simp only [tyl, List.mem_cons, Prod.mk.injEq, List.not_mem_nil, or_false] at this
    rcases this with ⟨rfl, rfl⟩ | ⟨rfl, rfl⟩ | ⟨rfl, rfl⟩ | ⟨rfl, rfl⟩ | ⟨rfl, rfl⟩ | ⟨rfl, rfl⟩ | ⟨rfl, rfl⟩ | ⟨rfl, rfl⟩ | ⟨rfl, rfl⟩ | ⟨rfl, rfl⟩ | ⟨rfl, rfl⟩ | ⟨rfl, rfl⟩ | ⟨rfl, rfl⟩ | ⟨rfl, rfl⟩ | ⟨rfl, rfl⟩ | ⟨rfl, rfl⟩ | ⟨rfl, rfl⟩ | ⟨rfl, rfl⟩ | ⟨rfl, rfl⟩ | ⟨rfl, rfl⟩ | ⟨rfl, rfl⟩ | ⟨rfl, rfl⟩ | ⟨rfl, rfl⟩ | ⟨rfl, rfl⟩ | ⟨rfl, rfl⟩ | ⟨rfl, rfl⟩ | ⟨rfl, rfl⟩ | ⟨rfl, rfl⟩ | ⟨rfl, rfl⟩ | ⟨rfl, rfl⟩ | ⟨rfl, rfl⟩ | ⟨rfl, rfl⟩ | ⟨rfl, rfl⟩ | ⟨rfl, rfl⟩ | ⟨rfl, rfl⟩ | ⟨rfl, rfl⟩ | ⟨rfl, rfl⟩ | ⟨rfl, rfl⟩ | ⟨rfl, rfl⟩ | ⟨rfl, rfl⟩ | ⟨rfl, rfl⟩ | ⟨rfl, rfl⟩ | ⟨rfl, rfl⟩ | ⟨rfl, rfl⟩ | ⟨rfl, rfl⟩ | ⟨rfl, rfl⟩ | ⟨rfl, rfl⟩ | ⟨rfl, rfl⟩ | ⟨rfl, rfl⟩ | ⟨rfl, rfl⟩ | ⟨rfl, rfl⟩ | ⟨rfl, rfl⟩ | ⟨rfl, rfl⟩ | ⟨rfl, rfl⟩
    · exact alT
    · exact alR
    · exact alQ
    · exact alS
    · exact YA
    · exact Yw
    · exact YB
    · exact Yx
    · exact Yq
    · exact Ye
    · exact acC
    · exact acH
    · exact Yd
    · exact Yh
    · exact Yl
    · exact Yi
    · exact X8
    · exact X_
    · exact Yc
    · exact Yg
    · exact X9
    · exact X7
    · exact Yb
    · exact Yf
    · exact YC
    · exact acy
    · exact acD
    · exact acI
    · exact Yn
    · exact Yy
    · exact Yk
    · exact Ym
    · exact YG
    · exact YF
    · exact Ys
    · exact Yj
    · exact X6
    · exact YD
    · exact X'
    · exact YE
    · exact Yr
    · exact acA
    · exact acF
    · exact Yp
    · exact Yu
    · exact Yz
    · exact Yv
    · exact Yo
    · exact Yt
    · exact acB
    · exact acG
    · exact acz
    · exact acE
    · exact Ya
theorem laid : laidOutB EE.P = true := by kernel_rfl
theorem aaj : mapsRowed EE.P = true := by kernel_rfl
theorem sized : ((List.range EE.P.types.size).all fun t => match EE.P.underlying t with | some (.slice e) => decide (0 < EE.P.cellsOf e) | _ => true) = true := by kernel_rfl
theorem own : ownKnob EE.P.godebug = none := by kernel_rfl
end AM
