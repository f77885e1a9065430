import Derived.Test.YtknfcngfhlpaeaaGreatDoorQAmTypes
import Derived.Test.YtknfcngfhlpaeaaGreatDoorQAmLaw
namespace AM
open Go
noncomputable section
def Cd.kinds:Cd->List (K1 UU)
 | .int=>[.int .i64]
 | .byte=>[.int .u8]
 | .str=>[.str]
 | .bf=>[.int .i64,.int .i64,.str]
 | .cU=>[.str,.sl .bf]
 | .aK=>[.int .i64,.str,.sl .bf]
 | .dD=>[.sl .aK,.int .i64]
 | .im=>[.int .i64,.str,.int .i64,.int .i64,.str]
 | .ey=>[.str,.sl .im,.bool]
 | .cw=>[.str,.int .i64,.int .i64,.str]
 | .cM=>[.int .i64,.int .i64,.str,.int .i64,.int .i64,.str,.int .i64,.str,.int .i64,.int .i64,.str]
 | .bN=>[.str,.int .i64,.str,.int .i64,.int .i64,.str,.int .i64,.str,.int .i64,.int .i64,.str]
 | .eJ=>[.int .i64,.str,.sl .bN,.int .i64,.str]
 | .cv=>[.str,.int .i64,.sl .ey,.sl .cM,.sl .eJ]
 | .gJ=>[.str,.sl .cv]
 | .av=>[.int .i64,.sl .int,.sl .cw]
 | .dz=>[.int .i64,.str,.sl .bf,.int .i64,.int .i64,.str]
 | .ax=>[.int .i64,.str,.sl .bf]
 | .aq=>[.str,.sl .bf,.str,.int .i64,.int .i64,.int .i64,.int .i64,.int .i64,.str]
 | .dw=>[.str,.str,.sl .bf,.int .i64]
 | .aI=>[.str,.str,.sl .bf]
 | .bY=>[.sl .aK,.int .i64,.sl .av,.sl .aq,.sl .ax,.sl .aI,.int .i64,.int .i64]
 | .kk=>[.str,.str,.sl .aK,.int .i64,.sl .av,.sl .aq,.sl .ax,.sl .aI,.int .i64,.int .i64]
 | .ny=>[.sl .gJ,.sl .kk,.int .i64,.int .i64]
theorem Xg(cs:List UU.C)(h:KM (U:=UU) [.int .i64] cs):∃x,Av cs=some x:=by
 obtain⟨c0,r0,rfl,⟨a0,rfl⟩,h0⟩:=KM.inv h
 obtain rfl:=KM.nV h0
 exact⟨_,rfl⟩
theorem Sc(cs:List UU.C)(h:KM (U:=UU) [.int .u8] cs):∃x,xm cs=some x:=by
 obtain⟨c0,r0,rfl,⟨a0,rfl⟩,h0⟩:=KM.inv h
 obtain rfl:=KM.nV h0
 exact⟨_,rfl⟩
theorem Xf(cs:List UU.C)(h:KM (U:=UU) [.str] cs):∃x,Au cs=some x:=by
 obtain⟨c0,r0,rfl,⟨a0,rfl⟩,h0⟩:=KM.inv h
 obtain rfl:=KM.nV h0
 exact⟨_,rfl⟩
theorem R9(cs:List UU.C)(h:KM (U:=UU) [.int .i64,.int .i64,.str] cs):∃x,xh cs=some x:=by
 obtain⟨c0,r0,rfl,⟨a0,rfl⟩,h0⟩:=KM.inv h
 obtain⟨c1,r1,rfl,⟨a1,rfl⟩,h1⟩:=KM.inv h0
 obtain⟨c2,r2,rfl,⟨a2,rfl⟩,h2⟩:=KM.inv h1
 obtain rfl:=KM.nV h2
 exact⟨_,rfl⟩
theorem OO(cs:List UU.C)(h:KM (U:=UU) [.str,.sl .bf] cs):∃x,uq cs=some x:=by
 obtain⟨c0,r0,rfl,⟨a0,rfl⟩,h0⟩:=KM.inv h
 obtain⟨c1,r1,rfl,⟨a1,rfl⟩,h1⟩:=KM.inv h0
 obtain rfl:=KM.nV h1
 exact⟨_,rfl⟩
theorem OM(cs:List UU.C)(h:KM (U:=UU) [.int .i64,.str,.sl .bf] cs):∃x,um cs=some x:=by
 obtain⟨c0,r0,rfl,⟨a0,rfl⟩,h0⟩:=KM.inv h
 obtain⟨c1,r1,rfl,⟨a1,rfl⟩,h1⟩:=KM.inv h0
 obtain⟨c2,r2,rfl,⟨a2,rfl⟩,h2⟩:=KM.inv h1
 obtain rfl:=KM.nV h2
 exact⟨_,rfl⟩
theorem MB(cs:List UU.C)(h:KM (U:=UU) [.sl .aK,.int .i64] cs):∃x,rI cs=some x:=by
 obtain⟨c0,r0,rfl,⟨a0,rfl⟩,h0⟩:=KM.inv h
 obtain⟨c1,r1,rfl,⟨a1,rfl⟩,h1⟩:=KM.inv h0
 obtain rfl:=KM.nV h1
 exact⟨_,rfl⟩
theorem Sa(cs:List UU.C)(h:KM (U:=UU) [.int .i64,.str,.int .i64,.int .i64,.str] cs):∃x,xk cs=some x:=by
 obtain⟨c0,r0,rfl,⟨a0,rfl⟩,h0⟩:=KM.inv h
 obtain⟨c1,r1,rfl,⟨a1,rfl⟩,h1⟩:=KM.inv h0
 obtain⟨c2,r2,rfl,⟨a2,rfl⟩,h2⟩:=KM.inv h1
 obtain⟨c3,r3,rfl,⟨a3,rfl⟩,h3⟩:=KM.inv h2
 obtain⟨c4,r4,rfl,⟨a4,rfl⟩,h4⟩:=KM.inv h3
 obtain rfl:=KM.nV h4
 exact⟨_,rfl⟩
theorem R'(cs:List UU.C)(h:KM (U:=UU) [.str,.sl .im,.bool] cs):∃x,xi cs=some x:=by
 obtain⟨c0,r0,rfl,⟨a0,rfl⟩,h0⟩:=KM.inv h
 obtain⟨c1,r1,rfl,⟨a1,rfl⟩,h1⟩:=KM.inv h0
 obtain⟨c2,r2,rfl,⟨a2,rfl⟩,h2⟩:=KM.inv h1
 obtain rfl:=KM.nV h2
 exact⟨_,rfl⟩
theorem OT(cs:List UU.C)(h:KM (U:=UU) [.str,.int .i64,.int .i64,.str] cs):∃x,ux cs=some x:=by
 obtain⟨c0,r0,rfl,⟨a0,rfl⟩,h0⟩:=KM.inv h
 obtain⟨c1,r1,rfl,⟨a1,rfl⟩,h1⟩:=KM.inv h0
 obtain⟨c2,r2,rfl,⟨a2,rfl⟩,h2⟩:=KM.inv h1
 obtain⟨c3,r3,rfl,⟨a3,rfl⟩,h3⟩:=KM.inv h2
 obtain rfl:=KM.nV h3
 exact⟨_,rfl⟩
theorem OQ(cs:List UU.C)(h:KM (U:=UU) [.int .i64,.int .i64,.str,.int .i64,.int .i64,.str,.int .i64,.str,.int .i64,.int .i64,.str] cs):∃x,uu cs=some x:=by
 obtain⟨c0,r0,rfl,⟨a0,rfl⟩,h0⟩:=KM.inv h
 obtain⟨c1,r1,rfl,⟨a1,rfl⟩,h1⟩:=KM.inv h0
 obtain⟨c2,r2,rfl,⟨a2,rfl⟩,h2⟩:=KM.inv h1
 obtain⟨c3,r3,rfl,⟨a3,rfl⟩,h3⟩:=KM.inv h2
 obtain⟨c4,r4,rfl,⟨a4,rfl⟩,h4⟩:=KM.inv h3
 obtain⟨c5,r5,rfl,⟨a5,rfl⟩,h5⟩:=KM.inv h4
 obtain⟨c6,r6,rfl,⟨a6,rfl⟩,h6⟩:=KM.inv h5
 obtain⟨c7,r7,rfl,⟨a7,rfl⟩,h7⟩:=KM.inv h6
 obtain⟨c8,r8,rfl,⟨a8,rfl⟩,h8⟩:=KM.inv h7
 obtain⟨c9,r9,rfl,⟨a9,rfl⟩,h9⟩:=KM.inv h8
 obtain⟨c10,r10,rfl,⟨a10,rfl⟩,rv⟩:=KM.inv h9
 obtain rfl:=KM.nV rv
 exact⟨_,rfl⟩
theorem OP(cs:List UU.C)(h:KM (U:=UU) [.str,.int .i64,.str,.int .i64,.int .i64,.str,.int .i64,.str,.int .i64,.int .i64,.str] cs):∃x,ur cs=some x:=by
 obtain⟨c0,r0,rfl,⟨a0,rfl⟩,h0⟩:=KM.inv h
 obtain⟨c1,r1,rfl,⟨a1,rfl⟩,h1⟩:=KM.inv h0
 obtain⟨c2,r2,rfl,⟨a2,rfl⟩,h2⟩:=KM.inv h1
 obtain⟨c3,r3,rfl,⟨a3,rfl⟩,h3⟩:=KM.inv h2
 obtain⟨c4,r4,rfl,⟨a4,rfl⟩,h4⟩:=KM.inv h3
 obtain⟨c5,r5,rfl,⟨a5,rfl⟩,h5⟩:=KM.inv h4
 obtain⟨c6,r6,rfl,⟨a6,rfl⟩,h6⟩:=KM.inv h5
 obtain⟨c7,r7,rfl,⟨a7,rfl⟩,h7⟩:=KM.inv h6
 obtain⟨c8,r8,rfl,⟨a8,rfl⟩,h8⟩:=KM.inv h7
 obtain⟨c9,r9,rfl,⟨a9,rfl⟩,h9⟩:=KM.inv h8
 obtain⟨c10,r10,rfl,⟨a10,rfl⟩,rv⟩:=KM.inv h9
 obtain rfl:=KM.nV rv
 exact⟨_,rfl⟩
theorem Sb(cs:List UU.C)(h:KM (U:=UU) [.int .i64,.str,.sl .bN,.int .i64,.str] cs):∃x,xl cs=some x:=by
 obtain⟨c0,r0,rfl,⟨a0,rfl⟩,h0⟩:=KM.inv h
 obtain⟨c1,r1,rfl,⟨a1,rfl⟩,h1⟩:=KM.inv h0
 obtain⟨c2,r2,rfl,⟨a2,rfl⟩,h2⟩:=KM.inv h1
 obtain⟨c3,r3,rfl,⟨a3,rfl⟩,h3⟩:=KM.inv h2
 obtain⟨c4,r4,rfl,⟨a4,rfl⟩,h4⟩:=KM.inv h3
 obtain rfl:=KM.nV h4
 exact⟨_,rfl⟩
theorem OL(cs:List UU.C)(h:KM (U:=UU) [.str,.int .i64,.sl .ey,.sl .cM,.sl .eJ] cs):∃x,ul cs=some x:=by
 obtain⟨c0,r0,rfl,⟨a0,rfl⟩,h0⟩:=KM.inv h
 obtain⟨c1,r1,rfl,⟨a1,rfl⟩,h1⟩:=KM.inv h0
 obtain⟨c2,r2,rfl,⟨a2,rfl⟩,h2⟩:=KM.inv h1
 obtain⟨c3,r3,rfl,⟨a3,rfl⟩,h3⟩:=KM.inv h2
 obtain⟨c4,r4,rfl,⟨a4,rfl⟩,h4⟩:=KM.inv h3
 obtain rfl:=KM.nV h4
 exact⟨_,rfl⟩
theorem R_(cs:List UU.C)(h:KM (U:=UU) [.str,.sl .cv] cs):∃x,xj cs=some x:=by
 obtain⟨c0,r0,rfl,⟨a0,rfl⟩,h0⟩:=KM.inv h
 obtain⟨c1,r1,rfl,⟨a1,rfl⟩,h1⟩:=KM.inv h0
 obtain rfl:=KM.nV h1
 exact⟨_,rfl⟩
theorem MC(cs:List UU.C)(h:KM (U:=UU) [.int .i64,.sl .int,.sl .cw] cs):∃x,rJ cs=some x:=by
 obtain⟨c0,r0,rfl,⟨a0,rfl⟩,h0⟩:=KM.inv h
 obtain⟨c1,r1,rfl,⟨a1,rfl⟩,h1⟩:=KM.inv h0
 obtain⟨c2,r2,rfl,⟨a2,rfl⟩,h2⟩:=KM.inv h1
 obtain rfl:=KM.nV h2
 exact⟨_,rfl⟩
theorem Kd(cs:List UU.C)(h:KM (U:=UU) [.int .i64,.str,.sl .bf,.int .i64,.int .i64,.str] cs):∃x,pC cs=some x:=by
 obtain⟨c0,r0,rfl,⟨a0,rfl⟩,h0⟩:=KM.inv h
 obtain⟨c1,r1,rfl,⟨a1,rfl⟩,h1⟩:=KM.inv h0
 obtain⟨c2,r2,rfl,⟨a2,rfl⟩,h2⟩:=KM.inv h1
 obtain⟨c3,r3,rfl,⟨a3,rfl⟩,h3⟩:=KM.inv h2
 obtain⟨c4,r4,rfl,⟨a4,rfl⟩,h4⟩:=KM.inv h3
 obtain⟨c5,r5,rfl,⟨a5,rfl⟩,h5⟩:=KM.inv h4
 obtain rfl:=KM.nV h5
 exact⟨_,rfl⟩
theorem MA(cs:List UU.C)(h:KM (U:=UU) [.int .i64,.str,.sl .bf] cs):∃x,rH cs=some x:=by
 obtain⟨c0,r0,rfl,⟨a0,rfl⟩,h0⟩:=KM.inv h
 obtain⟨c1,r1,rfl,⟨a1,rfl⟩,h1⟩:=KM.inv h0
 obtain⟨c2,r2,rfl,⟨a2,rfl⟩,h2⟩:=KM.inv h1
 obtain rfl:=KM.nV h2
 exact⟨_,rfl⟩
theorem OK(cs:List UU.C)(h:KM (U:=UU) [.str,.sl .bf,.str,.int .i64,.int .i64,.int .i64,.int .i64,.int .i64,.str] cs):∃x,uk cs=some x:=by
 obtain⟨c0,r0,rfl,⟨a0,rfl⟩,h0⟩:=KM.inv h
 obtain⟨c1,r1,rfl,⟨a1,rfl⟩,h1⟩:=KM.inv h0
 obtain⟨c2,r2,rfl,⟨a2,rfl⟩,h2⟩:=KM.inv h1
 obtain⟨c3,r3,rfl,⟨a3,rfl⟩,h3⟩:=KM.inv h2
 obtain⟨c4,r4,rfl,⟨a4,rfl⟩,h4⟩:=KM.inv h3
 obtain⟨c5,r5,rfl,⟨a5,rfl⟩,h5⟩:=KM.inv h4
 obtain⟨c6,r6,rfl,⟨a6,rfl⟩,h6⟩:=KM.inv h5
 obtain⟨c7,r7,rfl,⟨a7,rfl⟩,h7⟩:=KM.inv h6
 obtain⟨c8,r8,rfl,⟨a8,rfl⟩,h8⟩:=KM.inv h7
 obtain rfl:=KM.nV h8
 exact⟨_,rfl⟩
theorem OR(cs:List UU.C)(h:KM (U:=UU) [.str,.str,.sl .bf,.int .i64] cs):∃x,uv cs=some x:=by
 obtain⟨c0,r0,rfl,⟨a0,rfl⟩,h0⟩:=KM.inv h
 obtain⟨c1,r1,rfl,⟨a1,rfl⟩,h1⟩:=KM.inv h0
 obtain⟨c2,r2,rfl,⟨a2,rfl⟩,h2⟩:=KM.inv h1
 obtain⟨c3,r3,rfl,⟨a3,rfl⟩,h3⟩:=KM.inv h2
 obtain rfl:=KM.nV h3
 exact⟨_,rfl⟩
theorem OJ(cs:List UU.C)(h:KM (U:=UU) [.str,.str,.sl .bf] cs):∃x,uj cs=some x:=by
 obtain⟨c0,r0,rfl,⟨a0,rfl⟩,h0⟩:=KM.inv h
 obtain⟨c1,r1,rfl,⟨a1,rfl⟩,h1⟩:=KM.inv h0
 obtain⟨c2,r2,rfl,⟨a2,rfl⟩,h2⟩:=KM.inv h1
 obtain rfl:=KM.nV h2
 exact⟨_,rfl⟩
theorem ON(cs:List UU.C)(h:KM (U:=UU) [.sl .aK,.int .i64,.sl .av,.sl .aq,.sl .ax,.sl .aI,.int .i64,.int .i64] cs):∃x,uo cs=some x:=by
 obtain⟨c0,r0,rfl,⟨a0,rfl⟩,h0⟩:=KM.inv h
 obtain⟨c1,r1,rfl,⟨a1,rfl⟩,h1⟩:=KM.inv h0
 obtain⟨c2,r2,rfl,⟨a2,rfl⟩,h2⟩:=KM.inv h1
 obtain⟨c3,r3,rfl,⟨a3,rfl⟩,h3⟩:=KM.inv h2
 obtain⟨c4,r4,rfl,⟨a4,rfl⟩,h4⟩:=KM.inv h3
 obtain⟨c5,r5,rfl,⟨a5,rfl⟩,h5⟩:=KM.inv h4
 obtain⟨c6,r6,rfl,⟨a6,rfl⟩,h6⟩:=KM.inv h5
 obtain⟨c7,r7,rfl,⟨a7,rfl⟩,h7⟩:=KM.inv h6
 obtain rfl:=KM.nV h7
 exact⟨_,rfl⟩
theorem OI(cs:List UU.C)(h:KM (U:=UU) [.str,.str,.sl .aK,.int .i64,.sl .av,.sl .aq,.sl .ax,.sl .aI,.int .i64,.int .i64] cs):∃x,ui cs=some x:=by
 obtain⟨c0,r0,rfl,⟨a0,rfl⟩,h0⟩:=KM.inv h
 obtain⟨c1,r1,rfl,⟨a1,rfl⟩,h1⟩:=KM.inv h0
 obtain⟨c2,r2,rfl,⟨a2,rfl⟩,h2⟩:=KM.inv h1
 obtain⟨c3,r3,rfl,⟨a3,rfl⟩,h3⟩:=KM.inv h2
 obtain⟨c4,r4,rfl,⟨a4,rfl⟩,h4⟩:=KM.inv h3
 obtain⟨c5,r5,rfl,⟨a5,rfl⟩,h5⟩:=KM.inv h4
 obtain⟨c6,r6,rfl,⟨a6,rfl⟩,h6⟩:=KM.inv h5
 obtain⟨c7,r7,rfl,⟨a7,rfl⟩,h7⟩:=KM.inv h6
 obtain⟨c8,r8,rfl,⟨a8,rfl⟩,h8⟩:=KM.inv h7
 obtain⟨c9,r9,rfl,⟨a9,rfl⟩,h9⟩:=KM.inv h8
 obtain rfl:=KM.nV h9
 exact⟨_,rfl⟩
theorem OS(cs:List UU.C)(h:KM (U:=UU) [.sl .gJ,.sl .kk,.int .i64,.int .i64] cs):∃x,uw cs=some x:=by
 obtain⟨c0,r0,rfl,⟨a0,rfl⟩,h0⟩:=KM.inv h
 obtain⟨c1,r1,rfl,⟨a1,rfl⟩,h1⟩:=KM.inv h0
 obtain⟨c2,r2,rfl,⟨a2,rfl⟩,h2⟩:=KM.inv h1
 obtain⟨c3,r3,rfl,⟨a3,rfl⟩,h3⟩:=KM.inv h2
 obtain rfl:=KM.nV h3
 exact⟨_,rfl⟩
theorem Mz(τ:Cd)(cs:List UU.C)(h:KM (Cd.kinds τ) cs):∃x,UU.dec τ cs=some x:=by
 cases τ
 case int=>exact Xg cs h
 case byte=>exact Sc cs h
 case str=>exact Xf cs h
 case bf=>exact R9 cs h
 case cU=>exact OO cs h
 case aK=>exact OM cs h
 case dD=>exact MB cs h
 case im=>exact Sa cs h
 case ey=>exact R' cs h
 case cw=>exact OT cs h
 case cM=>exact OQ cs h
 case bN=>exact OP cs h
 case eJ=>exact Sb cs h
 case cv=>exact OL cs h
 case gJ=>exact R_ cs h
 case av=>exact MC cs h
 case dz=>exact Kd cs h
 case ax=>exact MA cs h
 case aq=>exact OK cs h
 case dw=>exact OR cs h
 case aI=>exact OJ cs h
 case bY=>exact ON cs h
 case kk=>exact OI cs h
 case ny=>exact OS cs h
end
end AM
