import Derived.Test.YthciaocifglggaaGreatDoorQAmTypes
import Derived.Test.YthciaocifglggaaGreatDoorQAmLaw
namespace AM
open Go
noncomputable section
def Cd.kinds:Cd->List (K1 UU)
 | .int=>[.int .i64]
 | .byte=>[.int .u8]
 | .str=>[.str]
 | .bm=>[.int .i64,.int .i64,.str]
 | .gJ=>[.int .i64,.int .i64,.str]
 | .cP=>[.str,.sl .bm]
 | .mL=>[.str,.sl .gJ]
 | .aP=>[.int .i64,.str,.sl .bm]
 | .iQ=>[.int .i64,.str,.sl .gJ]
 | .di=>[.sl .aP,.int .i64]
 | .jO=>[.sl .iQ,.int .i64]
 | .iy=>[.int .i64,.str,.int .i64,.int .i64,.str]
 | .nQ=>[.int .i64,.str,.int .i64,.int .i64,.str]
 | .fU=>[.str,.sl .iy,.bool]
 | .nP=>[.str,.sl .nQ,.bool]
 | .dG=>[.str,.int .i64,.int .i64,.str]
 | .jS=>[.str,.int .i64,.int .i64,.str]
 | .de=>[.int .i64,.int .i64,.str,.int .i64,.int .i64,.str,.int .i64,.str,.int .i64,.int .i64,.str]
 | .jR=>[.int .i64,.int .i64,.str,.int .i64,.int .i64,.str,.int .i64,.str,.int .i64,.int .i64,.str]
 | .fc=>[.str,.int .i64,.str,.int .i64,.int .i64,.str,.int .i64,.str,.int .i64,.int .i64,.str]
 | .jQ=>[.str,.int .i64,.str,.int .i64,.int .i64,.str,.int .i64,.str,.int .i64,.int .i64,.str]
 | .fV=>[.int .i64,.str,.sl .fc,.int .i64,.str]
 | .nR=>[.int .i64,.str,.sl .jQ,.int .i64,.str]
 | .cy=>[.str,.int .i64,.sl .fU,.sl .de,.sl .fV]
 | .jP=>[.str,.int .i64,.sl .nP,.sl .jR,.sl .nR]
 | .kN=>[.str,.sl .cy]
 | .pd=>[.str,.sl .jP]
 | .aI=>[.int .i64,.sl .int,.sl .dG]
 | .gL=>[.int .i64,.sl .int,.sl .jS]
 | .mw=>[.int .i64,.str,.sl .bm,.int .i64,.int .i64,.str]
 | .mn=>[.int .i64,.str,.sl .gJ,.int .i64,.int .i64,.str]
 | .ax=>[.int .i64,.str,.sl .bm]
 | .gK=>[.int .i64,.str,.sl .gJ]
 | .aw=>[.str,.sl .bm,.str,.int .i64,.int .i64,.int .i64,.int .i64,.int .i64,.str]
 | .jN=>[.str,.sl .gJ,.str,.int .i64,.int .i64,.int .i64,.int .i64,.int .i64,.str]
 | .cu=>[.str,.str,.sl .bm,.int .i64]
 | .tQ=>[.str,.str,.sl .gJ,.int .i64]
 | .aW=>[.str,.str,.sl .bm]
 | .jM=>[.str,.str,.sl .gJ]
 | .cz=>[.sl .aP,.int .i64,.sl .aI,.sl .aw,.sl .ax,.sl .aW,.int .i64,.int .i64]
 | .kG=>[.sl .iQ,.int .i64,.sl .gL,.sl .jN,.sl .gK,.sl .jM,.int .i64,.int .i64]
theorem WT(cs:List UU.C)(h:KM (U:=UU) [.int .i64] cs):∃x,yI cs=some x:=by
 obtain⟨c0,r0,rfl,⟨a0,rfl⟩,h0⟩:=KM.inv h
 obtain rfl:=KM.iS h0
 exact⟨_,rfl⟩
theorem Qh(cs:List UU.C)(h:KM (U:=UU) [.int .u8] cs):∃x,vM cs=some x:=by
 obtain⟨c0,r0,rfl,⟨a0,rfl⟩,h0⟩:=KM.inv h
 obtain rfl:=KM.iS h0
 exact⟨_,rfl⟩
theorem WS(cs:List UU.C)(h:KM (U:=UU) [.str] cs):∃x,yH cs=some x:=by
 obtain⟨c0,r0,rfl,⟨a0,rfl⟩,h0⟩:=KM.inv h
 obtain rfl:=KM.iS h0
 exact⟨_,rfl⟩
theorem Qc(cs:List UU.C)(h:KM (U:=UU) [.int .i64,.int .i64,.str] cs):∃x,vH cs=some x:=by
 obtain⟨c0,r0,rfl,⟨a0,rfl⟩,h0⟩:=KM.inv h
 obtain⟨c1,r1,rfl,⟨a1,rfl⟩,h1⟩:=KM.inv h0
 obtain⟨c2,r2,rfl,⟨a2,rfl⟩,h2⟩:=KM.inv h1
 obtain rfl:=KM.iS h2
 exact⟨_,rfl⟩
theorem P9(cs:List UU.C)(h:KM (U:=UU) [.int .i64,.int .i64,.str] cs):∃x,vB cs=some x:=by
 obtain⟨c0,r0,rfl,⟨a0,rfl⟩,h0⟩:=KM.inv h
 obtain⟨c1,r1,rfl,⟨a1,rfl⟩,h1⟩:=KM.inv h0
 obtain⟨c2,r2,rfl,⟨a2,rfl⟩,h2⟩:=KM.inv h1
 obtain rfl:=KM.iS h2
 exact⟨_,rfl⟩
theorem MS(cs:List UU.C)(h:KM (U:=UU) [.str,.sl .bm] cs):∃x,tm cs=some x:=by
 obtain⟨c0,r0,rfl,⟨a0,rfl⟩,h0⟩:=KM.inv h
 obtain⟨c1,r1,rfl,⟨a1,rfl⟩,h1⟩:=KM.inv h0
 obtain rfl:=KM.iS h1
 exact⟨_,rfl⟩
theorem MI(cs:List UU.C)(h:KM (U:=UU) [.str,.sl .gJ] cs):∃x,s8 cs=some x:=by
 obtain⟨c0,r0,rfl,⟨a0,rfl⟩,h0⟩:=KM.inv h
 obtain⟨c1,r1,rfl,⟨a1,rfl⟩,h1⟩:=KM.inv h0
 obtain rfl:=KM.iS h1
 exact⟨_,rfl⟩
theorem MQ(cs:List UU.C)(h:KM (U:=UU) [.int .i64,.str,.sl .bm] cs):∃x,th cs=some x:=by
 obtain⟨c0,r0,rfl,⟨a0,rfl⟩,h0⟩:=KM.inv h
 obtain⟨c1,r1,rfl,⟨a1,rfl⟩,h1⟩:=KM.inv h0
 obtain⟨c2,r2,rfl,⟨a2,rfl⟩,h2⟩:=KM.inv h1
 obtain rfl:=KM.iS h2
 exact⟨_,rfl⟩
theorem MG(cs:List UU.C)(h:KM (U:=UU) [.int .i64,.str,.sl .gJ] cs):∃x,s6 cs=some x:=by
 obtain⟨c0,r0,rfl,⟨a0,rfl⟩,h0⟩:=KM.inv h
 obtain⟨c1,r1,rfl,⟨a1,rfl⟩,h1⟩:=KM.inv h0
 obtain⟨c2,r2,rfl,⟨a2,rfl⟩,h2⟩:=KM.inv h1
 obtain rfl:=KM.iS h2
 exact⟨_,rfl⟩
theorem Kv(cs:List UU.C)(h:KM (U:=UU) [.sl .aP,.int .i64] cs):∃x,qG cs=some x:=by
 obtain⟨c0,r0,rfl,⟨a0,rfl⟩,h0⟩:=KM.inv h
 obtain⟨c1,r1,rfl,⟨a1,rfl⟩,h1⟩:=KM.inv h0
 obtain rfl:=KM.iS h1
 exact⟨_,rfl⟩
theorem Ks(cs:List UU.C)(h:KM (U:=UU) [.sl .iQ,.int .i64] cs):∃x,qB cs=some x:=by
 obtain⟨c0,r0,rfl,⟨a0,rfl⟩,h0⟩:=KM.inv h
 obtain⟨c1,r1,rfl,⟨a1,rfl⟩,h1⟩:=KM.inv h0
 obtain rfl:=KM.iS h1
 exact⟨_,rfl⟩
theorem Qf(cs:List UU.C)(h:KM (U:=UU) [.int .i64,.str,.int .i64,.int .i64,.str] cs):∃x,vK cs=some x:=by
 obtain⟨c0,r0,rfl,⟨a0,rfl⟩,h0⟩:=KM.inv h
 obtain⟨c1,r1,rfl,⟨a1,rfl⟩,h1⟩:=KM.inv h0
 obtain⟨c2,r2,rfl,⟨a2,rfl⟩,h2⟩:=KM.inv h1
 obtain⟨c3,r3,rfl,⟨a3,rfl⟩,h3⟩:=KM.inv h2
 obtain⟨c4,r4,rfl,⟨a4,rfl⟩,h4⟩:=KM.inv h3
 obtain rfl:=KM.iS h4
 exact⟨_,rfl⟩
theorem Qa(cs:List UU.C)(h:KM (U:=UU) [.int .i64,.str,.int .i64,.int .i64,.str] cs):∃x,vF cs=some x:=by
 obtain⟨c0,r0,rfl,⟨a0,rfl⟩,h0⟩:=KM.inv h
 obtain⟨c1,r1,rfl,⟨a1,rfl⟩,h1⟩:=KM.inv h0
 obtain⟨c2,r2,rfl,⟨a2,rfl⟩,h2⟩:=KM.inv h1
 obtain⟨c3,r3,rfl,⟨a3,rfl⟩,h3⟩:=KM.inv h2
 obtain⟨c4,r4,rfl,⟨a4,rfl⟩,h4⟩:=KM.inv h3
 obtain rfl:=KM.iS h4
 exact⟨_,rfl⟩
theorem Qd(cs:List UU.C)(h:KM (U:=UU) [.str,.sl .iy,.bool] cs):∃x,vI cs=some x:=by
 obtain⟨c0,r0,rfl,⟨a0,rfl⟩,h0⟩:=KM.inv h
 obtain⟨c1,r1,rfl,⟨a1,rfl⟩,h1⟩:=KM.inv h0
 obtain⟨c2,r2,rfl,⟨a2,rfl⟩,h2⟩:=KM.inv h1
 obtain rfl:=KM.iS h2
 exact⟨_,rfl⟩
theorem P'(cs:List UU.C)(h:KM (U:=UU) [.str,.sl .nQ,.bool] cs):∃x,vC cs=some x:=by
 obtain⟨c0,r0,rfl,⟨a0,rfl⟩,h0⟩:=KM.inv h
 obtain⟨c1,r1,rfl,⟨a1,rfl⟩,h1⟩:=KM.inv h0
 obtain⟨c2,r2,rfl,⟨a2,rfl⟩,h2⟩:=KM.inv h1
 obtain rfl:=KM.iS h2
 exact⟨_,rfl⟩
theorem MW(cs:List UU.C)(h:KM (U:=UU) [.str,.int .i64,.int .i64,.str] cs):∃x,tr cs=some x:=by
 obtain⟨c0,r0,rfl,⟨a0,rfl⟩,h0⟩:=KM.inv h
 obtain⟨c1,r1,rfl,⟨a1,rfl⟩,h1⟩:=KM.inv h0
 obtain⟨c2,r2,rfl,⟨a2,rfl⟩,h2⟩:=KM.inv h1
 obtain⟨c3,r3,rfl,⟨a3,rfl⟩,h3⟩:=KM.inv h2
 obtain rfl:=KM.iS h3
 exact⟨_,rfl⟩
theorem MM(cs:List UU.C)(h:KM (U:=UU) [.str,.int .i64,.int .i64,.str] cs):∃x,tc cs=some x:=by
 obtain⟨c0,r0,rfl,⟨a0,rfl⟩,h0⟩:=KM.inv h
 obtain⟨c1,r1,rfl,⟨a1,rfl⟩,h1⟩:=KM.inv h0
 obtain⟨c2,r2,rfl,⟨a2,rfl⟩,h2⟩:=KM.inv h1
 obtain⟨c3,r3,rfl,⟨a3,rfl⟩,h3⟩:=KM.inv h2
 obtain rfl:=KM.iS h3
 exact⟨_,rfl⟩
theorem MU(cs:List UU.C)(h:KM (U:=UU) [.int .i64,.int .i64,.str,.int .i64,.int .i64,.str,.int .i64,.str,.int .i64,.int .i64,.str] cs):∃x,tp cs=some x:=by
 obtain⟨c0,r0,rfl,⟨a0,rfl⟩,h0⟩:=KM.inv h
 obtain⟨c1,r1,rfl,⟨a1,rfl⟩,h1⟩:=KM.inv h0
 obtain⟨c2,r2,rfl,⟨a2,rfl⟩,h2⟩:=KM.inv h1
 obtain⟨c3,r3,rfl,⟨a3,rfl⟩,h3⟩:=KM.inv h2
 obtain⟨c4,r4,rfl,⟨a4,rfl⟩,h4⟩:=KM.inv h3
 obtain⟨c5,r5,rfl,⟨a5,rfl⟩,h5⟩:=KM.inv h4
 obtain⟨c6,r6,rfl,⟨a6,rfl⟩,h6⟩:=KM.inv h5
 obtain⟨c7,r7,rfl,⟨a7,rfl⟩,h7⟩:=KM.inv h6
 obtain⟨c8,r8,rfl,⟨a8,rfl⟩,h8⟩:=KM.inv h7
 obtain⟨c9,r9,rfl,⟨a9,rfl⟩,h9⟩:=KM.inv h8
 obtain⟨c10,r10,rfl,⟨Oe,rfl⟩,ph⟩:=KM.inv h9
 obtain rfl:=KM.iS ph
 exact⟨_,rfl⟩
theorem MK(cs:List UU.C)(h:KM (U:=UU) [.int .i64,.int .i64,.str,.int .i64,.int .i64,.str,.int .i64,.str,.int .i64,.int .i64,.str] cs):∃x,s_ cs=some x:=by
 obtain⟨c0,r0,rfl,⟨a0,rfl⟩,h0⟩:=KM.inv h
 obtain⟨c1,r1,rfl,⟨a1,rfl⟩,h1⟩:=KM.inv h0
 obtain⟨c2,r2,rfl,⟨a2,rfl⟩,h2⟩:=KM.inv h1
 obtain⟨c3,r3,rfl,⟨a3,rfl⟩,h3⟩:=KM.inv h2
 obtain⟨c4,r4,rfl,⟨a4,rfl⟩,h4⟩:=KM.inv h3
 obtain⟨c5,r5,rfl,⟨a5,rfl⟩,h5⟩:=KM.inv h4
 obtain⟨c6,r6,rfl,⟨a6,rfl⟩,h6⟩:=KM.inv h5
 obtain⟨c7,r7,rfl,⟨a7,rfl⟩,h7⟩:=KM.inv h6
 obtain⟨c8,r8,rfl,⟨a8,rfl⟩,h8⟩:=KM.inv h7
 obtain⟨c9,r9,rfl,⟨a9,rfl⟩,h9⟩:=KM.inv h8
 obtain⟨c10,r10,rfl,⟨Oe,rfl⟩,ph⟩:=KM.inv h9
 obtain rfl:=KM.iS ph
 exact⟨_,rfl⟩
theorem MT(cs:List UU.C)(h:KM (U:=UU) [.str,.int .i64,.str,.int .i64,.int .i64,.str,.int .i64,.str,.int .i64,.int .i64,.str] cs):∃x,tn cs=some x:=by
 obtain⟨c0,r0,rfl,⟨a0,rfl⟩,h0⟩:=KM.inv h
 obtain⟨c1,r1,rfl,⟨a1,rfl⟩,h1⟩:=KM.inv h0
 obtain⟨c2,r2,rfl,⟨a2,rfl⟩,h2⟩:=KM.inv h1
 obtain⟨c3,r3,rfl,⟨a3,rfl⟩,h3⟩:=KM.inv h2
 obtain⟨c4,r4,rfl,⟨a4,rfl⟩,h4⟩:=KM.inv h3
 obtain⟨c5,r5,rfl,⟨a5,rfl⟩,h5⟩:=KM.inv h4
 obtain⟨c6,r6,rfl,⟨a6,rfl⟩,h6⟩:=KM.inv h5
 obtain⟨c7,r7,rfl,⟨a7,rfl⟩,h7⟩:=KM.inv h6
 obtain⟨c8,r8,rfl,⟨a8,rfl⟩,h8⟩:=KM.inv h7
 obtain⟨c9,r9,rfl,⟨a9,rfl⟩,h9⟩:=KM.inv h8
 obtain⟨c10,r10,rfl,⟨Oe,rfl⟩,ph⟩:=KM.inv h9
 obtain rfl:=KM.iS ph
 exact⟨_,rfl⟩
theorem MJ(cs:List UU.C)(h:KM (U:=UU) [.str,.int .i64,.str,.int .i64,.int .i64,.str,.int .i64,.str,.int .i64,.int .i64,.str] cs):∃x,s9 cs=some x:=by
 obtain⟨c0,r0,rfl,⟨a0,rfl⟩,h0⟩:=KM.inv h
 obtain⟨c1,r1,rfl,⟨a1,rfl⟩,h1⟩:=KM.inv h0
 obtain⟨c2,r2,rfl,⟨a2,rfl⟩,h2⟩:=KM.inv h1
 obtain⟨c3,r3,rfl,⟨a3,rfl⟩,h3⟩:=KM.inv h2
 obtain⟨c4,r4,rfl,⟨a4,rfl⟩,h4⟩:=KM.inv h3
 obtain⟨c5,r5,rfl,⟨a5,rfl⟩,h5⟩:=KM.inv h4
 obtain⟨c6,r6,rfl,⟨a6,rfl⟩,h6⟩:=KM.inv h5
 obtain⟨c7,r7,rfl,⟨a7,rfl⟩,h7⟩:=KM.inv h6
 obtain⟨c8,r8,rfl,⟨a8,rfl⟩,h8⟩:=KM.inv h7
 obtain⟨c9,r9,rfl,⟨a9,rfl⟩,h9⟩:=KM.inv h8
 obtain⟨c10,r10,rfl,⟨Oe,rfl⟩,ph⟩:=KM.inv h9
 obtain rfl:=KM.iS ph
 exact⟨_,rfl⟩
theorem Qg(cs:List UU.C)(h:KM (U:=UU) [.int .i64,.str,.sl .fc,.int .i64,.str] cs):∃x,vL cs=some x:=by
 obtain⟨c0,r0,rfl,⟨a0,rfl⟩,h0⟩:=KM.inv h
 obtain⟨c1,r1,rfl,⟨a1,rfl⟩,h1⟩:=KM.inv h0
 obtain⟨c2,r2,rfl,⟨a2,rfl⟩,h2⟩:=KM.inv h1
 obtain⟨c3,r3,rfl,⟨a3,rfl⟩,h3⟩:=KM.inv h2
 obtain⟨c4,r4,rfl,⟨a4,rfl⟩,h4⟩:=KM.inv h3
 obtain rfl:=KM.iS h4
 exact⟨_,rfl⟩
theorem Qb(cs:List UU.C)(h:KM (U:=UU) [.int .i64,.str,.sl .jQ,.int .i64,.str] cs):∃x,vG cs=some x:=by
 obtain⟨c0,r0,rfl,⟨a0,rfl⟩,h0⟩:=KM.inv h
 obtain⟨c1,r1,rfl,⟨a1,rfl⟩,h1⟩:=KM.inv h0
 obtain⟨c2,r2,rfl,⟨a2,rfl⟩,h2⟩:=KM.inv h1
 obtain⟨c3,r3,rfl,⟨a3,rfl⟩,h3⟩:=KM.inv h2
 obtain⟨c4,r4,rfl,⟨a4,rfl⟩,h4⟩:=KM.inv h3
 obtain rfl:=KM.iS h4
 exact⟨_,rfl⟩
theorem MP(cs:List UU.C)(h:KM (U:=UU) [.str,.int .i64,.sl .fU,.sl .de,.sl .fV] cs):∃x,tg cs=some x:=by
 obtain⟨c0,r0,rfl,⟨a0,rfl⟩,h0⟩:=KM.inv h
 obtain⟨c1,r1,rfl,⟨a1,rfl⟩,h1⟩:=KM.inv h0
 obtain⟨c2,r2,rfl,⟨a2,rfl⟩,h2⟩:=KM.inv h1
 obtain⟨c3,r3,rfl,⟨a3,rfl⟩,h3⟩:=KM.inv h2
 obtain⟨c4,r4,rfl,⟨a4,rfl⟩,h4⟩:=KM.inv h3
 obtain rfl:=KM.iS h4
 exact⟨_,rfl⟩
theorem MF(cs:List UU.C)(h:KM (U:=UU) [.str,.int .i64,.sl .nP,.sl .jR,.sl .nR] cs):∃x,s0 cs=some x:=by
 obtain⟨c0,r0,rfl,⟨a0,rfl⟩,h0⟩:=KM.inv h
 obtain⟨c1,r1,rfl,⟨a1,rfl⟩,h1⟩:=KM.inv h0
 obtain⟨c2,r2,rfl,⟨a2,rfl⟩,h2⟩:=KM.inv h1
 obtain⟨c3,r3,rfl,⟨a3,rfl⟩,h3⟩:=KM.inv h2
 obtain⟨c4,r4,rfl,⟨a4,rfl⟩,h4⟩:=KM.inv h3
 obtain rfl:=KM.iS h4
 exact⟨_,rfl⟩
theorem Qe(cs:List UU.C)(h:KM (U:=UU) [.str,.sl .cy] cs):∃x,vJ cs=some x:=by
 obtain⟨c0,r0,rfl,⟨a0,rfl⟩,h0⟩:=KM.inv h
 obtain⟨c1,r1,rfl,⟨a1,rfl⟩,h1⟩:=KM.inv h0
 obtain rfl:=KM.iS h1
 exact⟨_,rfl⟩
theorem P_(cs:List UU.C)(h:KM (U:=UU) [.str,.sl .jP] cs):∃x,vD cs=some x:=by
 obtain⟨c0,r0,rfl,⟨a0,rfl⟩,h0⟩:=KM.inv h
 obtain⟨c1,r1,rfl,⟨a1,rfl⟩,h1⟩:=KM.inv h0
 obtain rfl:=KM.iS h1
 exact⟨_,rfl⟩
theorem Kw(cs:List UU.C)(h:KM (U:=UU) [.int .i64,.sl .int,.sl .dG] cs):∃x,qH cs=some x:=by
 obtain⟨c0,r0,rfl,⟨a0,rfl⟩,h0⟩:=KM.inv h
 obtain⟨c1,r1,rfl,⟨a1,rfl⟩,h1⟩:=KM.inv h0
 obtain⟨c2,r2,rfl,⟨a2,rfl⟩,h2⟩:=KM.inv h1
 obtain rfl:=KM.iS h2
 exact⟨_,rfl⟩
theorem Kt(cs:List UU.C)(h:KM (U:=UU) [.int .i64,.sl .int,.sl .jS] cs):∃x,qD cs=some x:=by
 obtain⟨c0,r0,rfl,⟨a0,rfl⟩,h0⟩:=KM.inv h
 obtain⟨c1,r1,rfl,⟨a1,rfl⟩,h1⟩:=KM.inv h0
 obtain⟨c2,r2,rfl,⟨a2,rfl⟩,h2⟩:=KM.inv h1
 obtain rfl:=KM.iS h2
 exact⟨_,rfl⟩
theorem H_(cs:List UU.C)(h:KM (U:=UU) [.int .i64,.str,.sl .bm,.int .i64,.int .i64,.str] cs):∃x,oU cs=some x:=by
 obtain⟨c0,r0,rfl,⟨a0,rfl⟩,h0⟩:=KM.inv h
 obtain⟨c1,r1,rfl,⟨a1,rfl⟩,h1⟩:=KM.inv h0
 obtain⟨c2,r2,rfl,⟨a2,rfl⟩,h2⟩:=KM.inv h1
 obtain⟨c3,r3,rfl,⟨a3,rfl⟩,h3⟩:=KM.inv h2
 obtain⟨c4,r4,rfl,⟨a4,rfl⟩,h4⟩:=KM.inv h3
 obtain⟨c5,r5,rfl,⟨a5,rfl⟩,h5⟩:=KM.inv h4
 obtain rfl:=KM.iS h5
 exact⟨_,rfl⟩
theorem H'(cs:List UU.C)(h:KM (U:=UU) [.int .i64,.str,.sl .gJ,.int .i64,.int .i64,.str] cs):∃x,oT cs=some x:=by
 obtain⟨c0,r0,rfl,⟨a0,rfl⟩,h0⟩:=KM.inv h
 obtain⟨c1,r1,rfl,⟨a1,rfl⟩,h1⟩:=KM.inv h0
 obtain⟨c2,r2,rfl,⟨a2,rfl⟩,h2⟩:=KM.inv h1
 obtain⟨c3,r3,rfl,⟨a3,rfl⟩,h3⟩:=KM.inv h2
 obtain⟨c4,r4,rfl,⟨a4,rfl⟩,h4⟩:=KM.inv h3
 obtain⟨c5,r5,rfl,⟨a5,rfl⟩,h5⟩:=KM.inv h4
 obtain rfl:=KM.iS h5
 exact⟨_,rfl⟩
theorem Ku(cs:List UU.C)(h:KM (U:=UU) [.int .i64,.str,.sl .bm] cs):∃x,qE cs=some x:=by
 obtain⟨c0,r0,rfl,⟨a0,rfl⟩,h0⟩:=KM.inv h
 obtain⟨c1,r1,rfl,⟨a1,rfl⟩,h1⟩:=KM.inv h0
 obtain⟨c2,r2,rfl,⟨a2,rfl⟩,h2⟩:=KM.inv h1
 obtain rfl:=KM.iS h2
 exact⟨_,rfl⟩
theorem Kr(cs:List UU.C)(h:KM (U:=UU) [.int .i64,.str,.sl .gJ] cs):∃x,qz cs=some x:=by
 obtain⟨c0,r0,rfl,⟨a0,rfl⟩,h0⟩:=KM.inv h
 obtain⟨c1,r1,rfl,⟨a1,rfl⟩,h1⟩:=KM.inv h0
 obtain⟨c2,r2,rfl,⟨a2,rfl⟩,h2⟩:=KM.inv h1
 obtain rfl:=KM.iS h2
 exact⟨_,rfl⟩
theorem MO(cs:List UU.C)(h:KM (U:=UU) [.str,.sl .bm,.str,.int .i64,.int .i64,.int .i64,.int .i64,.int .i64,.str] cs):∃x,tf cs=some x:=by
 obtain⟨c0,r0,rfl,⟨a0,rfl⟩,h0⟩:=KM.inv h
 obtain⟨c1,r1,rfl,⟨a1,rfl⟩,h1⟩:=KM.inv h0
 obtain⟨c2,r2,rfl,⟨a2,rfl⟩,h2⟩:=KM.inv h1
 obtain⟨c3,r3,rfl,⟨a3,rfl⟩,h3⟩:=KM.inv h2
 obtain⟨c4,r4,rfl,⟨a4,rfl⟩,h4⟩:=KM.inv h3
 obtain⟨c5,r5,rfl,⟨a5,rfl⟩,h5⟩:=KM.inv h4
 obtain⟨c6,r6,rfl,⟨a6,rfl⟩,h6⟩:=KM.inv h5
 obtain⟨c7,r7,rfl,⟨a7,rfl⟩,h7⟩:=KM.inv h6
 obtain⟨c8,r8,rfl,⟨a8,rfl⟩,h8⟩:=KM.inv h7
 obtain rfl:=KM.iS h8
 exact⟨_,rfl⟩
theorem ME(cs:List UU.C)(h:KM (U:=UU) [.str,.sl .gJ,.str,.int .i64,.int .i64,.int .i64,.int .i64,.int .i64,.str] cs):∃x,sZ cs=some x:=by
 obtain⟨c0,r0,rfl,⟨a0,rfl⟩,h0⟩:=KM.inv h
 obtain⟨c1,r1,rfl,⟨a1,rfl⟩,h1⟩:=KM.inv h0
 obtain⟨c2,r2,rfl,⟨a2,rfl⟩,h2⟩:=KM.inv h1
 obtain⟨c3,r3,rfl,⟨a3,rfl⟩,h3⟩:=KM.inv h2
 obtain⟨c4,r4,rfl,⟨a4,rfl⟩,h4⟩:=KM.inv h3
 obtain⟨c5,r5,rfl,⟨a5,rfl⟩,h5⟩:=KM.inv h4
 obtain⟨c6,r6,rfl,⟨a6,rfl⟩,h6⟩:=KM.inv h5
 obtain⟨c7,r7,rfl,⟨a7,rfl⟩,h7⟩:=KM.inv h6
 obtain⟨c8,r8,rfl,⟨a8,rfl⟩,h8⟩:=KM.inv h7
 obtain rfl:=KM.iS h8
 exact⟨_,rfl⟩
theorem MV(cs:List UU.C)(h:KM (U:=UU) [.str,.str,.sl .bm,.int .i64] cs):∃x,tq cs=some x:=by
 obtain⟨c0,r0,rfl,⟨a0,rfl⟩,h0⟩:=KM.inv h
 obtain⟨c1,r1,rfl,⟨a1,rfl⟩,h1⟩:=KM.inv h0
 obtain⟨c2,r2,rfl,⟨a2,rfl⟩,h2⟩:=KM.inv h1
 obtain⟨c3,r3,rfl,⟨a3,rfl⟩,h3⟩:=KM.inv h2
 obtain rfl:=KM.iS h3
 exact⟨_,rfl⟩
theorem ML(cs:List UU.C)(h:KM (U:=UU) [.str,.str,.sl .gJ,.int .i64] cs):∃x,ta cs=some x:=by
 obtain⟨c0,r0,rfl,⟨a0,rfl⟩,h0⟩:=KM.inv h
 obtain⟨c1,r1,rfl,⟨a1,rfl⟩,h1⟩:=KM.inv h0
 obtain⟨c2,r2,rfl,⟨a2,rfl⟩,h2⟩:=KM.inv h1
 obtain⟨c3,r3,rfl,⟨a3,rfl⟩,h3⟩:=KM.inv h2
 obtain rfl:=KM.iS h3
 exact⟨_,rfl⟩
theorem MN(cs:List UU.C)(h:KM (U:=UU) [.str,.str,.sl .bm] cs):∃x,te cs=some x:=by
 obtain⟨c0,r0,rfl,⟨a0,rfl⟩,h0⟩:=KM.inv h
 obtain⟨c1,r1,rfl,⟨a1,rfl⟩,h1⟩:=KM.inv h0
 obtain⟨c2,r2,rfl,⟨a2,rfl⟩,h2⟩:=KM.inv h1
 obtain rfl:=KM.iS h2
 exact⟨_,rfl⟩
theorem MD(cs:List UU.C)(h:KM (U:=UU) [.str,.str,.sl .gJ] cs):∃x,sY cs=some x:=by
 obtain⟨c0,r0,rfl,⟨a0,rfl⟩,h0⟩:=KM.inv h
 obtain⟨c1,r1,rfl,⟨a1,rfl⟩,h1⟩:=KM.inv h0
 obtain⟨c2,r2,rfl,⟨a2,rfl⟩,h2⟩:=KM.inv h1
 obtain rfl:=KM.iS h2
 exact⟨_,rfl⟩
theorem MR(cs:List UU.C)(h:KM (U:=UU) [.sl .aP,.int .i64,.sl .aI,.sl .aw,.sl .ax,.sl .aW,.int .i64,.int .i64] cs):∃x,tj cs=some x:=by
 obtain⟨c0,r0,rfl,⟨a0,rfl⟩,h0⟩:=KM.inv h
 obtain⟨c1,r1,rfl,⟨a1,rfl⟩,h1⟩:=KM.inv h0
 obtain⟨c2,r2,rfl,⟨a2,rfl⟩,h2⟩:=KM.inv h1
 obtain⟨c3,r3,rfl,⟨a3,rfl⟩,h3⟩:=KM.inv h2
 obtain⟨c4,r4,rfl,⟨a4,rfl⟩,h4⟩:=KM.inv h3
 obtain⟨c5,r5,rfl,⟨a5,rfl⟩,h5⟩:=KM.inv h4
 obtain⟨c6,r6,rfl,⟨a6,rfl⟩,h6⟩:=KM.inv h5
 obtain⟨c7,r7,rfl,⟨a7,rfl⟩,h7⟩:=KM.inv h6
 obtain rfl:=KM.iS h7
 exact⟨_,rfl⟩
theorem MH(cs:List UU.C)(h:KM (U:=UU) [.sl .iQ,.int .i64,.sl .gL,.sl .jN,.sl .gK,.sl .jM,.int .i64,.int .i64] cs):∃x,s7 cs=some x:=by
 obtain⟨c0,r0,rfl,⟨a0,rfl⟩,h0⟩:=KM.inv h
 obtain⟨c1,r1,rfl,⟨a1,rfl⟩,h1⟩:=KM.inv h0
 obtain⟨c2,r2,rfl,⟨a2,rfl⟩,h2⟩:=KM.inv h1
 obtain⟨c3,r3,rfl,⟨a3,rfl⟩,h3⟩:=KM.inv h2
 obtain⟨c4,r4,rfl,⟨a4,rfl⟩,h4⟩:=KM.inv h3
 obtain⟨c5,r5,rfl,⟨a5,rfl⟩,h5⟩:=KM.inv h4
 obtain⟨c6,r6,rfl,⟨a6,rfl⟩,h6⟩:=KM.inv h5
 obtain⟨c7,r7,rfl,⟨a7,rfl⟩,h7⟩:=KM.inv h6
 obtain rfl:=KM.iS h7
 exact⟨_,rfl⟩
theorem Kq(τ:Cd)(cs:List UU.C)(h:KM (Cd.kinds τ) cs):∃x,UU.dec τ cs=some x:=by
 cases τ
 case int=>exact WT cs h
 case byte=>exact Qh cs h
 case str=>exact WS cs h
 case bm=>exact Qc cs h
 case gJ=>exact P9 cs h
 case cP=>exact MS cs h
 case mL=>exact MI cs h
 case aP=>exact MQ cs h
 case iQ=>exact MG cs h
 case di=>exact Kv cs h
 case jO=>exact Ks cs h
 case iy=>exact Qf cs h
 case nQ=>exact Qa cs h
 case fU=>exact Qd cs h
 case nP=>exact P' cs h
 case dG=>exact MW cs h
 case jS=>exact MM cs h
 case de=>exact MU cs h
 case jR=>exact MK cs h
 case fc=>exact MT cs h
 case jQ=>exact MJ cs h
 case fV=>exact Qg cs h
 case nR=>exact Qb cs h
 case cy=>exact MP cs h
 case jP=>exact MF cs h
 case kN=>exact Qe cs h
 case pd=>exact P_ cs h
 case aI=>exact Kw cs h
 case gL=>exact Kt cs h
 case mw=>exact H_ cs h
 case mn=>exact H' cs h
 case ax=>exact Ku cs h
 case gK=>exact Kr cs h
 case aw=>exact MO cs h
 case jN=>exact ME cs h
 case cu=>exact MV cs h
 case tQ=>exact ML cs h
 case aW=>exact MN cs h
 case jM=>exact MD cs h
 case cz=>exact MR cs h
 case kG=>exact MH cs h
end
end AM
