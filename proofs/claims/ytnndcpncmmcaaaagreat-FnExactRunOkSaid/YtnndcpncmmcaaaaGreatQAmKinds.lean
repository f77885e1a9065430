import Derived.Test.YtnndcpncmmcaaaaGreatQAmTypes
import Derived.Test.YtnndcpncmmcaaaaGreatQAmLaw
namespace AM
open Go
noncomputable section
def Cd.kinds:Cd->List (K1 UU)
 | .int=>[.int .i64]
 | .byte=>[.int .u8]
 | .str=>[.str]
 | .bool=>[.bool]
 | .bC=>[.int .i64,.int .i64,.str]
 | .hU=>[.int .i64,.int .i64,.str]
 | .eP=>[.str,.sl .bC]
 | .nS=>[.str,.sl .hU]
 | .cg=>[.int .i64,.str,.sl .bC]
 | .fO=>[.int .i64,.str,.sl .hU]
 | .dW=>[.sl .cg,.int .i64]
 | .jF=>[.sl .fO,.int .i64]
 | .ig=>[.int .i64,.str,.int .i64,.int .i64,.str]
 | .oT=>[.int .i64,.str,.int .i64,.int .i64,.str]
 | .cq=>[.str,.sl .ig,.bool]
 | .k8=>[.str,.sl .oT,.bool]
 | .b8=>[.str,.int .i64,.int .i64,.str]
 | .jJ=>[.str,.int .i64,.int .i64,.str]
 | .cQ=>[.int .i64,.int .i64,.str,.int .i64,.int .i64,.str,.int .i64,.str,.int .i64,.int .i64,.str]
 | .jI=>[.int .i64,.int .i64,.str,.int .i64,.int .i64,.str,.int .i64,.str,.int .i64,.int .i64,.str]
 | .ga=>[.str,.int .i64,.str,.int .i64,.int .i64,.str,.int .i64,.str,.int .i64,.int .i64,.str]
 | .jH=>[.str,.int .i64,.str,.int .i64,.int .i64,.str,.int .i64,.str,.int .i64,.int .i64,.str]
 | .eT=>[.int .i64,.str,.sl .ga,.int .i64,.str]
 | .oU=>[.int .i64,.str,.sl .jH,.int .i64,.str]
 | .cw=>[.str,.int .i64,.sl .cq,.sl .cQ,.sl .eT]
 | .jG=>[.str,.int .i64,.sl .k8,.sl .jI,.sl .oU]
 | .jc=>[.str,.sl .cw]
 | .qg=>[.str,.sl .jG]
 | .dB=>[.int .i64,.sl .int,.sl .b8]
 | .fG=>[.int .i64,.sl .int,.sl .jJ]
 | .bI=>[.str,.int .i64,.sl .bC,.sl .int]
 | .mj=>[.str,.int .i64,.sl .hU,.sl .int]
 | .ci=>[.sl .int,.sl .int]
 | .mi=>[.sl .int,.sl .int]
 | .mK=>[.sl .bI,.sl .ci]
 | .Ev=>[.sl .mj,.sl .mi]
 | .cD=>[.sl .int]
 | .k9=>[.sl .int]
 | .bO=>[.sl .int,.sl .int]
 | .oR=>[.sl .int,.sl .int]
 | .cf=>[.sl .bO]
 | .gG=>[.sl .oR]
 | .di=>[.sl .cf]
 | .nb=>[.sl .gG]
 | .jU=>[.sl .cD,.sl .di]
 | .tu=>[.sl .k9,.sl .nb]
 | .dq=>[.int .i64,.str,.sl .bC]
 | .fF=>[.int .i64,.str,.sl .hU]
 | .dJ=>[.str,.sl .bC,.str,.int .i64,.int .i64,.int .i64,.int .i64,.int .i64,.str]
 | .iy=>[.str,.sl .hU,.str,.int .i64,.int .i64,.int .i64,.int .i64,.int .i64,.str]
 | .eO=>[.str,.str,.sl .bC]
 | .ix=>[.str,.str,.sl .hU]
 | .jb=>[.sl .cg,.int .i64,.sl .dB,.sl .dJ,.sl .dq,.sl .eO,.int .i64,.int .i64]
 | .nR=>[.sl .fO,.int .i64,.sl .fG,.sl .iy,.sl .fF,.sl .ix,.int .i64,.int .i64]
 | .ra=>[.sl .cg,.int .i64,.sl .dB,.sl .dJ,.sl .dq,.sl .eO,.int .i64,.int .i64,.sl .cD,.sl .di]
 | .qf=>[.sl .fO,.int .i64,.sl .fG,.sl .iy,.sl .fF,.sl .ix,.int .i64,.int .i64,.sl .k9,.sl .nb]
 | .gM=>[.sl .cq,.sl .cq,.sl .int,.sl .int,.sl .cD,.sl .cg,.int .i64,.int .i64]
 | .nB=>[.sl .k8,.sl .k8,.sl .int,.sl .int,.sl .k9,.sl .fO,.int .i64,.int .i64]
theorem aap(cs:List UU.C)(h:KM (U:=UU) [.int .i64] cs):∃x,AK cs=some x:=by
 obtain⟨c0,r0,rfl,⟨a0,rfl⟩,h0⟩:=KM.inv h
 obtain rfl:=KM.fk h0
 exact⟨_,rfl⟩
theorem Tr(cs:List UU.C)(h:KM (U:=UU) [.int .u8] cs):∃x,xx cs=some x:=by
 obtain⟨c0,r0,rfl,⟨a0,rfl⟩,h0⟩:=KM.inv h
 obtain rfl:=KM.fk h0
 exact⟨_,rfl⟩
theorem aao(cs:List UU.C)(h:KM (U:=UU) [.str] cs):∃x,AJ cs=some x:=by
 obtain⟨c0,r0,rfl,⟨a0,rfl⟩,h0⟩:=KM.inv h
 obtain rfl:=KM.fk h0
 exact⟨_,rfl⟩
theorem Ts(cs:List UU.C)(h:KM (U:=UU) [.bool] cs):∃x,xy cs=some x:=by
 obtain⟨c0,r0,rfl,⟨a0,rfl⟩,h0⟩:=KM.inv h
 obtain rfl:=KM.fk h0
 exact⟨_,rfl⟩
theorem Tg(cs:List UU.C)(h:KM (U:=UU) [.int .i64,.int .i64,.str] cs):∃x,xk cs=some x:=by
 obtain⟨c0,r0,rfl,⟨a0,rfl⟩,h0⟩:=KM.inv h
 obtain⟨c1,r1,rfl,⟨a1,rfl⟩,h1⟩:=KM.inv h0
 obtain⟨c2,r2,rfl,⟨a2,rfl⟩,h2⟩:=KM.inv h1
 obtain rfl:=KM.fk h2
 exact⟨_,rfl⟩
theorem S6(cs:List UU.C)(h:KM (U:=UU) [.int .i64,.int .i64,.str] cs):∃x,w_ cs=some x:=by
 obtain⟨c0,r0,rfl,⟨a0,rfl⟩,h0⟩:=KM.inv h
 obtain⟨c1,r1,rfl,⟨a1,rfl⟩,h1⟩:=KM.inv h0
 obtain⟨c2,r2,rfl,⟨a2,rfl⟩,h2⟩:=KM.inv h1
 obtain rfl:=KM.fk h2
 exact⟨_,rfl⟩
theorem PE(cs:List UU.C)(h:KM (U:=UU) [.str,.sl .bC] cs):∃x,uF cs=some x:=by
 obtain⟨c0,r0,rfl,⟨a0,rfl⟩,h0⟩:=KM.inv h
 obtain⟨c1,r1,rfl,⟨a1,rfl⟩,h1⟩:=KM.inv h0
 obtain rfl:=KM.fk h1
 exact⟨_,rfl⟩
theorem Pv(cs:List UU.C)(h:KM (U:=UU) [.str,.sl .hU] cs):∃x,uw cs=some x:=by
 obtain⟨c0,r0,rfl,⟨a0,rfl⟩,h0⟩:=KM.inv h
 obtain⟨c1,r1,rfl,⟨a1,rfl⟩,h1⟩:=KM.inv h0
 obtain rfl:=KM.fk h1
 exact⟨_,rfl⟩
theorem PC(cs:List UU.C)(h:KM (U:=UU) [.int .i64,.str,.sl .bC] cs):∃x,uD cs=some x:=by
 obtain⟨c0,r0,rfl,⟨a0,rfl⟩,h0⟩:=KM.inv h
 obtain⟨c1,r1,rfl,⟨a1,rfl⟩,h1⟩:=KM.inv h0
 obtain⟨c2,r2,rfl,⟨a2,rfl⟩,h2⟩:=KM.inv h1
 obtain rfl:=KM.fk h2
 exact⟨_,rfl⟩
theorem Pt(cs:List UU.C)(h:KM (U:=UU) [.int .i64,.str,.sl .hU] cs):∃x,uu cs=some x:=by
 obtain⟨c0,r0,rfl,⟨a0,rfl⟩,h0⟩:=KM.inv h
 obtain⟨c1,r1,rfl,⟨a1,rfl⟩,h1⟩:=KM.inv h0
 obtain⟨c2,r2,rfl,⟨a2,rfl⟩,h2⟩:=KM.inv h1
 obtain rfl:=KM.fk h2
 exact⟨_,rfl⟩
theorem Ns(cs:List UU.C)(h:KM (U:=UU) [.sl .cg,.int .i64] cs):∃x,rV cs=some x:=by
 obtain⟨c0,r0,rfl,⟨a0,rfl⟩,h0⟩:=KM.inv h
 obtain⟨c1,r1,rfl,⟨a1,rfl⟩,h1⟩:=KM.inv h0
 obtain rfl:=KM.fk h1
 exact⟨_,rfl⟩
theorem Nl(cs:List UU.C)(h:KM (U:=UU) [.sl .fO,.int .i64] cs):∃x,rP cs=some x:=by
 obtain⟨c0,r0,rfl,⟨a0,rfl⟩,h0⟩:=KM.inv h
 obtain⟨c1,r1,rfl,⟨a1,rfl⟩,h1⟩:=KM.inv h0
 obtain rfl:=KM.fk h1
 exact⟨_,rfl⟩
theorem Tp(cs:List UU.C)(h:KM (U:=UU) [.int .i64,.str,.int .i64,.int .i64,.str] cs):∃x,xv cs=some x:=by
 obtain⟨c0,r0,rfl,⟨a0,rfl⟩,h0⟩:=KM.inv h
 obtain⟨c1,r1,rfl,⟨a1,rfl⟩,h1⟩:=KM.inv h0
 obtain⟨c2,r2,rfl,⟨a2,rfl⟩,h2⟩:=KM.inv h1
 obtain⟨c3,r3,rfl,⟨a3,rfl⟩,h3⟩:=KM.inv h2
 obtain⟨c4,r4,rfl,⟨a4,rfl⟩,h4⟩:=KM.inv h3
 obtain rfl:=KM.fk h4
 exact⟨_,rfl⟩
theorem Te(cs:List UU.C)(h:KM (U:=UU) [.int .i64,.str,.int .i64,.int .i64,.str] cs):∃x,xi cs=some x:=by
 obtain⟨c0,r0,rfl,⟨a0,rfl⟩,h0⟩:=KM.inv h
 obtain⟨c1,r1,rfl,⟨a1,rfl⟩,h1⟩:=KM.inv h0
 obtain⟨c2,r2,rfl,⟨a2,rfl⟩,h2⟩:=KM.inv h1
 obtain⟨c3,r3,rfl,⟨a3,rfl⟩,h3⟩:=KM.inv h2
 obtain⟨c4,r4,rfl,⟨a4,rfl⟩,h4⟩:=KM.inv h3
 obtain rfl:=KM.fk h4
 exact⟨_,rfl⟩
theorem Tk(cs:List UU.C)(h:KM (U:=UU) [.str,.sl .ig,.bool] cs):∃x,xo cs=some x:=by
 obtain⟨c0,r0,rfl,⟨a0,rfl⟩,h0⟩:=KM.inv h
 obtain⟨c1,r1,rfl,⟨a1,rfl⟩,h1⟩:=KM.inv h0
 obtain⟨c2,r2,rfl,⟨a2,rfl⟩,h2⟩:=KM.inv h1
 obtain rfl:=KM.fk h2
 exact⟨_,rfl⟩
theorem S_(cs:List UU.C)(h:KM (U:=UU) [.str,.sl .oT,.bool] cs):∃x,xd cs=some x:=by
 obtain⟨c0,r0,rfl,⟨a0,rfl⟩,h0⟩:=KM.inv h
 obtain⟨c1,r1,rfl,⟨a1,rfl⟩,h1⟩:=KM.inv h0
 obtain⟨c2,r2,rfl,⟨a2,rfl⟩,h2⟩:=KM.inv h1
 obtain rfl:=KM.fk h2
 exact⟨_,rfl⟩
theorem PH(cs:List UU.C)(h:KM (U:=UU) [.str,.int .i64,.int .i64,.str] cs):∃x,uI cs=some x:=by
 obtain⟨c0,r0,rfl,⟨a0,rfl⟩,h0⟩:=KM.inv h
 obtain⟨c1,r1,rfl,⟨a1,rfl⟩,h1⟩:=KM.inv h0
 obtain⟨c2,r2,rfl,⟨a2,rfl⟩,h2⟩:=KM.inv h1
 obtain⟨c3,r3,rfl,⟨a3,rfl⟩,h3⟩:=KM.inv h2
 obtain rfl:=KM.fk h3
 exact⟨_,rfl⟩
theorem Py(cs:List UU.C)(h:KM (U:=UU) [.str,.int .i64,.int .i64,.str] cs):∃x,uz cs=some x:=by
 obtain⟨c0,r0,rfl,⟨a0,rfl⟩,h0⟩:=KM.inv h
 obtain⟨c1,r1,rfl,⟨a1,rfl⟩,h1⟩:=KM.inv h0
 obtain⟨c2,r2,rfl,⟨a2,rfl⟩,h2⟩:=KM.inv h1
 obtain⟨c3,r3,rfl,⟨a3,rfl⟩,h3⟩:=KM.inv h2
 obtain rfl:=KM.fk h3
 exact⟨_,rfl⟩
theorem PG(cs:List UU.C)(h:KM (U:=UU) [.int .i64,.int .i64,.str,.int .i64,.int .i64,.str,.int .i64,.str,.int .i64,.int .i64,.str] cs):∃x,uH cs=some x:=by
 obtain⟨c0,r0,rfl,⟨a0,rfl⟩,h0⟩:=KM.inv h
 obtain⟨c1,r1,rfl,⟨a1,rfl⟩,h1⟩:=KM.inv h0
 obtain⟨c2,r2,rfl,⟨a2,rfl⟩,h2⟩:=KM.inv h1
 obtain⟨c3,r3,rfl,⟨a3,rfl⟩,h3⟩:=KM.inv h2
 obtain⟨c4,r4,rfl,⟨a4,rfl⟩,h4⟩:=KM.inv h3
 obtain⟨c5,r5,rfl,⟨a5,rfl⟩,h5⟩:=KM.inv h4
 obtain⟨c6,r6,rfl,⟨a6,rfl⟩,h6⟩:=KM.inv h5
 obtain⟨c7,r7,rfl,⟨a7,rfl⟩,h7⟩:=KM.inv h6
 obtain⟨c8,r8,rfl,⟨a8,rfl⟩,h8⟩:=KM.inv h7
 obtain⟨c9,r9,rfl,⟨a9,rfl⟩,h9⟩:=KM.inv h8
 obtain⟨c10,r10,rfl,⟨QU,rfl⟩,rk⟩:=KM.inv h9
 obtain rfl:=KM.fk rk
 exact⟨_,rfl⟩
theorem Px(cs:List UU.C)(h:KM (U:=UU) [.int .i64,.int .i64,.str,.int .i64,.int .i64,.str,.int .i64,.str,.int .i64,.int .i64,.str] cs):∃x,uy cs=some x:=by
 obtain⟨c0,r0,rfl,⟨a0,rfl⟩,h0⟩:=KM.inv h
 obtain⟨c1,r1,rfl,⟨a1,rfl⟩,h1⟩:=KM.inv h0
 obtain⟨c2,r2,rfl,⟨a2,rfl⟩,h2⟩:=KM.inv h1
 obtain⟨c3,r3,rfl,⟨a3,rfl⟩,h3⟩:=KM.inv h2
 obtain⟨c4,r4,rfl,⟨a4,rfl⟩,h4⟩:=KM.inv h3
 obtain⟨c5,r5,rfl,⟨a5,rfl⟩,h5⟩:=KM.inv h4
 obtain⟨c6,r6,rfl,⟨a6,rfl⟩,h6⟩:=KM.inv h5
 obtain⟨c7,r7,rfl,⟨a7,rfl⟩,h7⟩:=KM.inv h6
 obtain⟨c8,r8,rfl,⟨a8,rfl⟩,h8⟩:=KM.inv h7
 obtain⟨c9,r9,rfl,⟨a9,rfl⟩,h9⟩:=KM.inv h8
 obtain⟨c10,r10,rfl,⟨QU,rfl⟩,rk⟩:=KM.inv h9
 obtain rfl:=KM.fk rk
 exact⟨_,rfl⟩
theorem PF(cs:List UU.C)(h:KM (U:=UU) [.str,.int .i64,.str,.int .i64,.int .i64,.str,.int .i64,.str,.int .i64,.int .i64,.str] cs):∃x,uG cs=some x:=by
 obtain⟨c0,r0,rfl,⟨a0,rfl⟩,h0⟩:=KM.inv h
 obtain⟨c1,r1,rfl,⟨a1,rfl⟩,h1⟩:=KM.inv h0
 obtain⟨c2,r2,rfl,⟨a2,rfl⟩,h2⟩:=KM.inv h1
 obtain⟨c3,r3,rfl,⟨a3,rfl⟩,h3⟩:=KM.inv h2
 obtain⟨c4,r4,rfl,⟨a4,rfl⟩,h4⟩:=KM.inv h3
 obtain⟨c5,r5,rfl,⟨a5,rfl⟩,h5⟩:=KM.inv h4
 obtain⟨c6,r6,rfl,⟨a6,rfl⟩,h6⟩:=KM.inv h5
 obtain⟨c7,r7,rfl,⟨a7,rfl⟩,h7⟩:=KM.inv h6
 obtain⟨c8,r8,rfl,⟨a8,rfl⟩,h8⟩:=KM.inv h7
 obtain⟨c9,r9,rfl,⟨a9,rfl⟩,h9⟩:=KM.inv h8
 obtain⟨c10,r10,rfl,⟨QU,rfl⟩,rk⟩:=KM.inv h9
 obtain rfl:=KM.fk rk
 exact⟨_,rfl⟩
theorem Pw(cs:List UU.C)(h:KM (U:=UU) [.str,.int .i64,.str,.int .i64,.int .i64,.str,.int .i64,.str,.int .i64,.int .i64,.str] cs):∃x,ux cs=some x:=by
 obtain⟨c0,r0,rfl,⟨a0,rfl⟩,h0⟩:=KM.inv h
 obtain⟨c1,r1,rfl,⟨a1,rfl⟩,h1⟩:=KM.inv h0
 obtain⟨c2,r2,rfl,⟨a2,rfl⟩,h2⟩:=KM.inv h1
 obtain⟨c3,r3,rfl,⟨a3,rfl⟩,h3⟩:=KM.inv h2
 obtain⟨c4,r4,rfl,⟨a4,rfl⟩,h4⟩:=KM.inv h3
 obtain⟨c5,r5,rfl,⟨a5,rfl⟩,h5⟩:=KM.inv h4
 obtain⟨c6,r6,rfl,⟨a6,rfl⟩,h6⟩:=KM.inv h5
 obtain⟨c7,r7,rfl,⟨a7,rfl⟩,h7⟩:=KM.inv h6
 obtain⟨c8,r8,rfl,⟨a8,rfl⟩,h8⟩:=KM.inv h7
 obtain⟨c9,r9,rfl,⟨a9,rfl⟩,h9⟩:=KM.inv h8
 obtain⟨c10,r10,rfl,⟨QU,rfl⟩,rk⟩:=KM.inv h9
 obtain rfl:=KM.fk rk
 exact⟨_,rfl⟩
theorem Tq(cs:List UU.C)(h:KM (U:=UU) [.int .i64,.str,.sl .ga,.int .i64,.str] cs):∃x,xw cs=some x:=by
 obtain⟨c0,r0,rfl,⟨a0,rfl⟩,h0⟩:=KM.inv h
 obtain⟨c1,r1,rfl,⟨a1,rfl⟩,h1⟩:=KM.inv h0
 obtain⟨c2,r2,rfl,⟨a2,rfl⟩,h2⟩:=KM.inv h1
 obtain⟨c3,r3,rfl,⟨a3,rfl⟩,h3⟩:=KM.inv h2
 obtain⟨c4,r4,rfl,⟨a4,rfl⟩,h4⟩:=KM.inv h3
 obtain rfl:=KM.fk h4
 exact⟨_,rfl⟩
theorem Tf(cs:List UU.C)(h:KM (U:=UU) [.int .i64,.str,.sl .jH,.int .i64,.str] cs):∃x,xj cs=some x:=by
 obtain⟨c0,r0,rfl,⟨a0,rfl⟩,h0⟩:=KM.inv h
 obtain⟨c1,r1,rfl,⟨a1,rfl⟩,h1⟩:=KM.inv h0
 obtain⟨c2,r2,rfl,⟨a2,rfl⟩,h2⟩:=KM.inv h1
 obtain⟨c3,r3,rfl,⟨a3,rfl⟩,h3⟩:=KM.inv h2
 obtain⟨c4,r4,rfl,⟨a4,rfl⟩,h4⟩:=KM.inv h3
 obtain rfl:=KM.fk h4
 exact⟨_,rfl⟩
theorem PB(cs:List UU.C)(h:KM (U:=UU) [.str,.int .i64,.sl .cq,.sl .cQ,.sl .eT] cs):∃x,uC cs=some x:=by
 obtain⟨c0,r0,rfl,⟨a0,rfl⟩,h0⟩:=KM.inv h
 obtain⟨c1,r1,rfl,⟨a1,rfl⟩,h1⟩:=KM.inv h0
 obtain⟨c2,r2,rfl,⟨a2,rfl⟩,h2⟩:=KM.inv h1
 obtain⟨c3,r3,rfl,⟨a3,rfl⟩,h3⟩:=KM.inv h2
 obtain⟨c4,r4,rfl,⟨a4,rfl⟩,h4⟩:=KM.inv h3
 obtain rfl:=KM.fk h4
 exact⟨_,rfl⟩
theorem Ps(cs:List UU.C)(h:KM (U:=UU) [.str,.int .i64,.sl .k8,.sl .jI,.sl .oU] cs):∃x,ur cs=some x:=by
 obtain⟨c0,r0,rfl,⟨a0,rfl⟩,h0⟩:=KM.inv h
 obtain⟨c1,r1,rfl,⟨a1,rfl⟩,h1⟩:=KM.inv h0
 obtain⟨c2,r2,rfl,⟨a2,rfl⟩,h2⟩:=KM.inv h1
 obtain⟨c3,r3,rfl,⟨a3,rfl⟩,h3⟩:=KM.inv h2
 obtain⟨c4,r4,rfl,⟨a4,rfl⟩,h4⟩:=KM.inv h3
 obtain rfl:=KM.fk h4
 exact⟨_,rfl⟩
theorem To(cs:List UU.C)(h:KM (U:=UU) [.str,.sl .cw] cs):∃x,xu cs=some x:=by
 obtain⟨c0,r0,rfl,⟨a0,rfl⟩,h0⟩:=KM.inv h
 obtain⟨c1,r1,rfl,⟨a1,rfl⟩,h1⟩:=KM.inv h0
 obtain rfl:=KM.fk h1
 exact⟨_,rfl⟩
theorem Td(cs:List UU.C)(h:KM (U:=UU) [.str,.sl .jG] cs):∃x,xh cs=some x:=by
 obtain⟨c0,r0,rfl,⟨a0,rfl⟩,h0⟩:=KM.inv h
 obtain⟨c1,r1,rfl,⟨a1,rfl⟩,h1⟩:=KM.inv h0
 obtain rfl:=KM.fk h1
 exact⟨_,rfl⟩
theorem Nt(cs:List UU.C)(h:KM (U:=UU) [.int .i64,.sl .int,.sl .b8] cs):∃x,rW cs=some x:=by
 obtain⟨c0,r0,rfl,⟨a0,rfl⟩,h0⟩:=KM.inv h
 obtain⟨c1,r1,rfl,⟨a1,rfl⟩,h1⟩:=KM.inv h0
 obtain⟨c2,r2,rfl,⟨a2,rfl⟩,h2⟩:=KM.inv h1
 obtain rfl:=KM.fk h2
 exact⟨_,rfl⟩
theorem Nn(cs:List UU.C)(h:KM (U:=UU) [.int .i64,.sl .int,.sl .jJ] cs):∃x,rQ cs=some x:=by
 obtain⟨c0,r0,rfl,⟨a0,rfl⟩,h0⟩:=KM.inv h
 obtain⟨c1,r1,rfl,⟨a1,rfl⟩,h1⟩:=KM.inv h0
 obtain⟨c2,r2,rfl,⟨a2,rfl⟩,h2⟩:=KM.inv h1
 obtain rfl:=KM.fk h2
 exact⟨_,rfl⟩
theorem Nw(cs:List UU.C)(h:KM (U:=UU) [.str,.int .i64,.sl .bC,.sl .int] cs):∃x,rZ cs=some x:=by
 obtain⟨c0,r0,rfl,⟨a0,rfl⟩,h0⟩:=KM.inv h
 obtain⟨c1,r1,rfl,⟨a1,rfl⟩,h1⟩:=KM.inv h0
 obtain⟨c2,r2,rfl,⟨a2,rfl⟩,h2⟩:=KM.inv h1
 obtain⟨c3,r3,rfl,⟨a3,rfl⟩,h3⟩:=KM.inv h2
 obtain rfl:=KM.fk h3
 exact⟨_,rfl⟩
theorem Nq(cs:List UU.C)(h:KM (U:=UU) [.str,.int .i64,.sl .hU,.sl .int] cs):∃x,rT cs=some x:=by
 obtain⟨c0,r0,rfl,⟨a0,rfl⟩,h0⟩:=KM.inv h
 obtain⟨c1,r1,rfl,⟨a1,rfl⟩,h1⟩:=KM.inv h0
 obtain⟨c2,r2,rfl,⟨a2,rfl⟩,h2⟩:=KM.inv h1
 obtain⟨c3,r3,rfl,⟨a3,rfl⟩,h3⟩:=KM.inv h2
 obtain rfl:=KM.fk h3
 exact⟨_,rfl⟩
theorem Nv(cs:List UU.C)(h:KM (U:=UU) [.sl .int,.sl .int] cs):∃x,rY cs=some x:=by
 obtain⟨c0,r0,rfl,⟨a0,rfl⟩,h0⟩:=KM.inv h
 obtain⟨c1,r1,rfl,⟨a1,rfl⟩,h1⟩:=KM.inv h0
 obtain rfl:=KM.fk h1
 exact⟨_,rfl⟩
theorem Np(cs:List UU.C)(h:KM (U:=UU) [.sl .int,.sl .int] cs):∃x,rS cs=some x:=by
 obtain⟨c0,r0,rfl,⟨a0,rfl⟩,h0⟩:=KM.inv h
 obtain⟨c1,r1,rfl,⟨a1,rfl⟩,h1⟩:=KM.inv h0
 obtain rfl:=KM.fk h1
 exact⟨_,rfl⟩
theorem Tl(cs:List UU.C)(h:KM (U:=UU) [.sl .bI,.sl .ci] cs):∃x,xp cs=some x:=by
 obtain⟨c0,r0,rfl,⟨a0,rfl⟩,h0⟩:=KM.inv h
 obtain⟨c1,r1,rfl,⟨a1,rfl⟩,h1⟩:=KM.inv h0
 obtain rfl:=KM.fk h1
 exact⟨_,rfl⟩
theorem Ta(cs:List UU.C)(h:KM (U:=UU) [.sl .mj,.sl .mi] cs):∃x,xe cs=some x:=by
 obtain⟨c0,r0,rfl,⟨a0,rfl⟩,h0⟩:=KM.inv h
 obtain⟨c1,r1,rfl,⟨a1,rfl⟩,h1⟩:=KM.inv h0
 obtain rfl:=KM.fk h1
 exact⟨_,rfl⟩
theorem Tn(cs:List UU.C)(h:KM (U:=UU) [.sl .int] cs):∃x,xt cs=some x:=by
 obtain⟨c0,r0,rfl,⟨a0,rfl⟩,h0⟩:=KM.inv h
 obtain rfl:=KM.fk h0
 exact⟨_,rfl⟩
theorem Tc(cs:List UU.C)(h:KM (U:=UU) [.sl .int] cs):∃x,xg cs=some x:=by
 obtain⟨c0,r0,rfl,⟨a0,rfl⟩,h0⟩:=KM.inv h
 obtain rfl:=KM.fk h0
 exact⟨_,rfl⟩
theorem Th(cs:List UU.C)(h:KM (U:=UU) [.sl .int,.sl .int] cs):∃x,xl cs=some x:=by
 obtain⟨c0,r0,rfl,⟨a0,rfl⟩,h0⟩:=KM.inv h
 obtain⟨c1,r1,rfl,⟨a1,rfl⟩,h1⟩:=KM.inv h0
 obtain rfl:=KM.fk h1
 exact⟨_,rfl⟩
theorem S7(cs:List UU.C)(h:KM (U:=UU) [.sl .int,.sl .int] cs):∃x,xa cs=some x:=by
 obtain⟨c0,r0,rfl,⟨a0,rfl⟩,h0⟩:=KM.inv h
 obtain⟨c1,r1,rfl,⟨a1,rfl⟩,h1⟩:=KM.inv h0
 obtain rfl:=KM.fk h1
 exact⟨_,rfl⟩
theorem Nu(cs:List UU.C)(h:KM (U:=UU) [.sl .bO] cs):∃x,rX cs=some x:=by
 obtain⟨c0,r0,rfl,⟨a0,rfl⟩,h0⟩:=KM.inv h
 obtain rfl:=KM.fk h0
 exact⟨_,rfl⟩
theorem No(cs:List UU.C)(h:KM (U:=UU) [.sl .oR] cs):∃x,rR cs=some x:=by
 obtain⟨c0,r0,rfl,⟨a0,rfl⟩,h0⟩:=KM.inv h
 obtain rfl:=KM.fk h0
 exact⟨_,rfl⟩
theorem Tj(cs:List UU.C)(h:KM (U:=UU) [.sl .cf] cs):∃x,xn cs=some x:=by
 obtain⟨c0,r0,rfl,⟨a0,rfl⟩,h0⟩:=KM.inv h
 obtain rfl:=KM.fk h0
 exact⟨_,rfl⟩
theorem S9(cs:List UU.C)(h:KM (U:=UU) [.sl .gG] cs):∃x,xc cs=some x:=by
 obtain⟨c0,r0,rfl,⟨a0,rfl⟩,h0⟩:=KM.inv h
 obtain rfl:=KM.fk h0
 exact⟨_,rfl⟩
theorem Tm(cs:List UU.C)(h:KM (U:=UU) [.sl .cD,.sl .di] cs):∃x,xr cs=some x:=by
 obtain⟨c0,r0,rfl,⟨a0,rfl⟩,h0⟩:=KM.inv h
 obtain⟨c1,r1,rfl,⟨a1,rfl⟩,h1⟩:=KM.inv h0
 obtain rfl:=KM.fk h1
 exact⟨_,rfl⟩
theorem Tb(cs:List UU.C)(h:KM (U:=UU) [.sl .k9,.sl .nb] cs):∃x,xf cs=some x:=by
 obtain⟨c0,r0,rfl,⟨a0,rfl⟩,h0⟩:=KM.inv h
 obtain⟨c1,r1,rfl,⟨a1,rfl⟩,h1⟩:=KM.inv h0
 obtain rfl:=KM.fk h1
 exact⟨_,rfl⟩
theorem Nr(cs:List UU.C)(h:KM (U:=UU) [.int .i64,.str,.sl .bC] cs):∃x,rU cs=some x:=by
 obtain⟨c0,r0,rfl,⟨a0,rfl⟩,h0⟩:=KM.inv h
 obtain⟨c1,r1,rfl,⟨a1,rfl⟩,h1⟩:=KM.inv h0
 obtain⟨c2,r2,rfl,⟨a2,rfl⟩,h2⟩:=KM.inv h1
 obtain rfl:=KM.fk h2
 exact⟨_,rfl⟩
theorem Nk(cs:List UU.C)(h:KM (U:=UU) [.int .i64,.str,.sl .hU] cs):∃x,rO cs=some x:=by
 obtain⟨c0,r0,rfl,⟨a0,rfl⟩,h0⟩:=KM.inv h
 obtain⟨c1,r1,rfl,⟨a1,rfl⟩,h1⟩:=KM.inv h0
 obtain⟨c2,r2,rfl,⟨a2,rfl⟩,h2⟩:=KM.inv h1
 obtain rfl:=KM.fk h2
 exact⟨_,rfl⟩
theorem PA(cs:List UU.C)(h:KM (U:=UU) [.str,.sl .bC,.str,.int .i64,.int .i64,.int .i64,.int .i64,.int .i64,.str] cs):∃x,uB cs=some x:=by
 obtain⟨c0,r0,rfl,⟨a0,rfl⟩,h0⟩:=KM.inv h
 obtain⟨c1,r1,rfl,⟨a1,rfl⟩,h1⟩:=KM.inv h0
 obtain⟨c2,r2,rfl,⟨a2,rfl⟩,h2⟩:=KM.inv h1
 obtain⟨c3,r3,rfl,⟨a3,rfl⟩,h3⟩:=KM.inv h2
 obtain⟨c4,r4,rfl,⟨a4,rfl⟩,h4⟩:=KM.inv h3
 obtain⟨c5,r5,rfl,⟨a5,rfl⟩,h5⟩:=KM.inv h4
 obtain⟨c6,r6,rfl,⟨a6,rfl⟩,h6⟩:=KM.inv h5
 obtain⟨c7,r7,rfl,⟨a7,rfl⟩,h7⟩:=KM.inv h6
 obtain⟨c8,r8,rfl,⟨a8,rfl⟩,h8⟩:=KM.inv h7
 obtain rfl:=KM.fk h8
 exact⟨_,rfl⟩
theorem Pr(cs:List UU.C)(h:KM (U:=UU) [.str,.sl .hU,.str,.int .i64,.int .i64,.int .i64,.int .i64,.int .i64,.str] cs):∃x,uq cs=some x:=by
 obtain⟨c0,r0,rfl,⟨a0,rfl⟩,h0⟩:=KM.inv h
 obtain⟨c1,r1,rfl,⟨a1,rfl⟩,h1⟩:=KM.inv h0
 obtain⟨c2,r2,rfl,⟨a2,rfl⟩,h2⟩:=KM.inv h1
 obtain⟨c3,r3,rfl,⟨a3,rfl⟩,h3⟩:=KM.inv h2
 obtain⟨c4,r4,rfl,⟨a4,rfl⟩,h4⟩:=KM.inv h3
 obtain⟨c5,r5,rfl,⟨a5,rfl⟩,h5⟩:=KM.inv h4
 obtain⟨c6,r6,rfl,⟨a6,rfl⟩,h6⟩:=KM.inv h5
 obtain⟨c7,r7,rfl,⟨a7,rfl⟩,h7⟩:=KM.inv h6
 obtain⟨c8,r8,rfl,⟨a8,rfl⟩,h8⟩:=KM.inv h7
 obtain rfl:=KM.fk h8
 exact⟨_,rfl⟩
theorem Pz(cs:List UU.C)(h:KM (U:=UU) [.str,.str,.sl .bC] cs):∃x,uA cs=some x:=by
 obtain⟨c0,r0,rfl,⟨a0,rfl⟩,h0⟩:=KM.inv h
 obtain⟨c1,r1,rfl,⟨a1,rfl⟩,h1⟩:=KM.inv h0
 obtain⟨c2,r2,rfl,⟨a2,rfl⟩,h2⟩:=KM.inv h1
 obtain rfl:=KM.fk h2
 exact⟨_,rfl⟩
theorem Pq(cs:List UU.C)(h:KM (U:=UU) [.str,.str,.sl .hU] cs):∃x,uo cs=some x:=by
 obtain⟨c0,r0,rfl,⟨a0,rfl⟩,h0⟩:=KM.inv h
 obtain⟨c1,r1,rfl,⟨a1,rfl⟩,h1⟩:=KM.inv h0
 obtain⟨c2,r2,rfl,⟨a2,rfl⟩,h2⟩:=KM.inv h1
 obtain rfl:=KM.fk h2
 exact⟨_,rfl⟩
theorem PD(cs:List UU.C)(h:KM (U:=UU) [.sl .cg,.int .i64,.sl .dB,.sl .dJ,.sl .dq,.sl .eO,.int .i64,.int .i64] cs):∃x,uE cs=some x:=by
 obtain⟨c0,r0,rfl,⟨a0,rfl⟩,h0⟩:=KM.inv h
 obtain⟨c1,r1,rfl,⟨a1,rfl⟩,h1⟩:=KM.inv h0
 obtain⟨c2,r2,rfl,⟨a2,rfl⟩,h2⟩:=KM.inv h1
 obtain⟨c3,r3,rfl,⟨a3,rfl⟩,h3⟩:=KM.inv h2
 obtain⟨c4,r4,rfl,⟨a4,rfl⟩,h4⟩:=KM.inv h3
 obtain⟨c5,r5,rfl,⟨a5,rfl⟩,h5⟩:=KM.inv h4
 obtain⟨c6,r6,rfl,⟨a6,rfl⟩,h6⟩:=KM.inv h5
 obtain⟨c7,r7,rfl,⟨a7,rfl⟩,h7⟩:=KM.inv h6
 obtain rfl:=KM.fk h7
 exact⟨_,rfl⟩
theorem Pu(cs:List UU.C)(h:KM (U:=UU) [.sl .fO,.int .i64,.sl .fG,.sl .iy,.sl .fF,.sl .ix,.int .i64,.int .i64] cs):∃x,uv cs=some x:=by
 obtain⟨c0,r0,rfl,⟨a0,rfl⟩,h0⟩:=KM.inv h
 obtain⟨c1,r1,rfl,⟨a1,rfl⟩,h1⟩:=KM.inv h0
 obtain⟨c2,r2,rfl,⟨a2,rfl⟩,h2⟩:=KM.inv h1
 obtain⟨c3,r3,rfl,⟨a3,rfl⟩,h3⟩:=KM.inv h2
 obtain⟨c4,r4,rfl,⟨a4,rfl⟩,h4⟩:=KM.inv h3
 obtain⟨c5,r5,rfl,⟨a5,rfl⟩,h5⟩:=KM.inv h4
 obtain⟨c6,r6,rfl,⟨a6,rfl⟩,h6⟩:=KM.inv h5
 obtain⟨c7,r7,rfl,⟨a7,rfl⟩,h7⟩:=KM.inv h6
 obtain rfl:=KM.fk h7
 exact⟨_,rfl⟩
theorem Ti(cs:List UU.C)(h:KM (U:=UU) [.sl .cg,.int .i64,.sl .dB,.sl .dJ,.sl .dq,.sl .eO,.int .i64,.int .i64,.sl .cD,.sl .di] cs):∃x,xm cs=some x:=by
 obtain⟨c0,r0,rfl,⟨a0,rfl⟩,h0⟩:=KM.inv h
 obtain⟨c1,r1,rfl,⟨a1,rfl⟩,h1⟩:=KM.inv h0
 obtain⟨c2,r2,rfl,⟨a2,rfl⟩,h2⟩:=KM.inv h1
 obtain⟨c3,r3,rfl,⟨a3,rfl⟩,h3⟩:=KM.inv h2
 obtain⟨c4,r4,rfl,⟨a4,rfl⟩,h4⟩:=KM.inv h3
 obtain⟨c5,r5,rfl,⟨a5,rfl⟩,h5⟩:=KM.inv h4
 obtain⟨c6,r6,rfl,⟨a6,rfl⟩,h6⟩:=KM.inv h5
 obtain⟨c7,r7,rfl,⟨a7,rfl⟩,h7⟩:=KM.inv h6
 obtain⟨c8,r8,rfl,⟨a8,rfl⟩,h8⟩:=KM.inv h7
 obtain⟨c9,r9,rfl,⟨a9,rfl⟩,h9⟩:=KM.inv h8
 obtain rfl:=KM.fk h9
 exact⟨_,rfl⟩
theorem S8(cs:List UU.C)(h:KM (U:=UU) [.sl .fO,.int .i64,.sl .fG,.sl .iy,.sl .fF,.sl .ix,.int .i64,.int .i64,.sl .k9,.sl .nb] cs):∃x,xb cs=some x:=by
 obtain⟨c0,r0,rfl,⟨a0,rfl⟩,h0⟩:=KM.inv h
 obtain⟨c1,r1,rfl,⟨a1,rfl⟩,h1⟩:=KM.inv h0
 obtain⟨c2,r2,rfl,⟨a2,rfl⟩,h2⟩:=KM.inv h1
 obtain⟨c3,r3,rfl,⟨a3,rfl⟩,h3⟩:=KM.inv h2
 obtain⟨c4,r4,rfl,⟨a4,rfl⟩,h4⟩:=KM.inv h3
 obtain⟨c5,r5,rfl,⟨a5,rfl⟩,h5⟩:=KM.inv h4
 obtain⟨c6,r6,rfl,⟨a6,rfl⟩,h6⟩:=KM.inv h5
 obtain⟨c7,r7,rfl,⟨a7,rfl⟩,h7⟩:=KM.inv h6
 obtain⟨c8,r8,rfl,⟨a8,rfl⟩,h8⟩:=KM.inv h7
 obtain⟨c9,r9,rfl,⟨a9,rfl⟩,h9⟩:=KM.inv h8
 obtain rfl:=KM.fk h9
 exact⟨_,rfl⟩
theorem KE(cs:List UU.C)(h:KM (U:=UU) [.sl .cq,.sl .cq,.sl .int,.sl .int,.sl .cD,.sl .cg,.int .i64,.int .i64] cs):∃x,pZ cs=some x:=by
 obtain⟨c0,r0,rfl,⟨a0,rfl⟩,h0⟩:=KM.inv h
 obtain⟨c1,r1,rfl,⟨a1,rfl⟩,h1⟩:=KM.inv h0
 obtain⟨c2,r2,rfl,⟨a2,rfl⟩,h2⟩:=KM.inv h1
 obtain⟨c3,r3,rfl,⟨a3,rfl⟩,h3⟩:=KM.inv h2
 obtain⟨c4,r4,rfl,⟨a4,rfl⟩,h4⟩:=KM.inv h3
 obtain⟨c5,r5,rfl,⟨a5,rfl⟩,h5⟩:=KM.inv h4
 obtain⟨c6,r6,rfl,⟨a6,rfl⟩,h6⟩:=KM.inv h5
 obtain⟨c7,r7,rfl,⟨a7,rfl⟩,h7⟩:=KM.inv h6
 obtain rfl:=KM.fk h7
 exact⟨_,rfl⟩
theorem KD(cs:List UU.C)(h:KM (U:=UU) [.sl .k8,.sl .k8,.sl .int,.sl .int,.sl .k9,.sl .fO,.int .i64,.int .i64] cs):∃x,pY cs=some x:=by
 obtain⟨c0,r0,rfl,⟨a0,rfl⟩,h0⟩:=KM.inv h
 obtain⟨c1,r1,rfl,⟨a1,rfl⟩,h1⟩:=KM.inv h0
 obtain⟨c2,r2,rfl,⟨a2,rfl⟩,h2⟩:=KM.inv h1
 obtain⟨c3,r3,rfl,⟨a3,rfl⟩,h3⟩:=KM.inv h2
 obtain⟨c4,r4,rfl,⟨a4,rfl⟩,h4⟩:=KM.inv h3
 obtain⟨c5,r5,rfl,⟨a5,rfl⟩,h5⟩:=KM.inv h4
 obtain⟨c6,r6,rfl,⟨a6,rfl⟩,h6⟩:=KM.inv h5
 obtain⟨c7,r7,rfl,⟨a7,rfl⟩,h7⟩:=KM.inv h6
 obtain rfl:=KM.fk h7
 exact⟨_,rfl⟩
theorem Nj(τ:Cd)(cs:List UU.C)(h:KM (Cd.kinds τ) cs):∃x,UU.dec τ cs=some x:=by
 cases τ
 case int=>exact aap cs h
 case byte=>exact Tr cs h
 case str=>exact aao cs h
 case bool=>exact Ts cs h
 case bC=>exact Tg cs h
 case hU=>exact S6 cs h
 case eP=>exact PE cs h
 case nS=>exact Pv cs h
 case cg=>exact PC cs h
 case fO=>exact Pt cs h
 case dW=>exact Ns cs h
 case jF=>exact Nl cs h
 case ig=>exact Tp cs h
 case oT=>exact Te cs h
 case cq=>exact Tk cs h
 case k8=>exact S_ cs h
 case b8=>exact PH cs h
 case jJ=>exact Py cs h
 case cQ=>exact PG cs h
 case jI=>exact Px cs h
 case ga=>exact PF cs h
 case jH=>exact Pw cs h
 case eT=>exact Tq cs h
 case oU=>exact Tf cs h
 case cw=>exact PB cs h
 case jG=>exact Ps cs h
 case jc=>exact To cs h
 case qg=>exact Td cs h
 case dB=>exact Nt cs h
 case fG=>exact Nn cs h
 case bI=>exact Nw cs h
 case mj=>exact Nq cs h
 case ci=>exact Nv cs h
 case mi=>exact Np cs h
 case mK=>exact Tl cs h
 case Ev=>exact Ta cs h
 case cD=>exact Tn cs h
 case k9=>exact Tc cs h
 case bO=>exact Th cs h
 case oR=>exact S7 cs h
 case cf=>exact Nu cs h
 case gG=>exact No cs h
 case di=>exact Tj cs h
 case nb=>exact S9 cs h
 case jU=>exact Tm cs h
 case tu=>exact Tb cs h
 case dq=>exact Nr cs h
 case fF=>exact Nk cs h
 case dJ=>exact PA cs h
 case iy=>exact Pr cs h
 case eO=>exact Pz cs h
 case ix=>exact Pq cs h
 case jb=>exact PD cs h
 case nR=>exact Pu cs h
 case ra=>exact Ti cs h
 case qf=>exact S8 cs h
 case gM=>exact KE cs h
 case nB=>exact KD cs h
end
end AM
