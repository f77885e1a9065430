/- The kinds of the data types' cells: written by gen/types.py. -/
import Derived.Test.YtpkdgcookaobfaaGreatDoorQAmTypes
import Derived.Test.YtpkdgcookaobfaaGreatDoorQAmLaw
namespace AM
open Go
noncomputable section
def Cd.kinds:Cd->List (K1 UU)
 | .int=>[.int .i64]
 | .byte=>[.int .u8]
 | .str=>[.str]
 | .bc=>[.int .i64,.int .i64,.str]
 | .dc=>[.str,.sl .bc]
 | .aJ=>[.int .i64,.str,.sl .bc]
 | .cT=>[.sl .aJ,.int .i64]
 | .gB=>[.int .i64,.str,.int .i64,.int .i64,.str]
 | .du=>[.str,.sl .gB,.bool]
 | .cv=>[.str,.int .i64,.int .i64,.str]
 | .ca=>[.int .i64,.int .i64,.str,.int .i64,.int .i64,.str,.int .i64,.str,.int .i64,.int .i64,.str]
 | .bJ=>[.str,.int .i64,.str,.int .i64,.int .i64,.str,.int .i64,.str,.int .i64,.int .i64,.str]
 | .dx=>[.int .i64,.str,.sl .bJ,.int .i64,.str]
 | .bE=>[.str,.int .i64,.sl .du,.sl .ca,.sl .dx]
 | .hH=>[.str,.sl .bE]
 | .aE=>[.int .i64,.sl .int,.sl .cv]
 | .eo=>[.int .i64,.str,.sl .bc,.int .i64,.int .i64,.str]
 | .aI=>[.int .i64,.str,.sl .bc]
 | .ax=>[.str,.sl .bc,.str,.int .i64,.int .i64,.int .i64,.int .i64,.int .i64,.str]
 | .k8=>[.str,.str,.sl .bc,.int .i64]
 | .aL=>[.str,.str,.sl .bc]
 | .cf=>[.sl .aJ,.int .i64,.sl .aE,.sl .ax,.sl .aI,.sl .aL,.int .i64,.int .i64]
 | .kZ=>[.str,.str,.sl .aJ,.int .i64,.sl .aE,.sl .ax,.sl .aI,.sl .aL,.int .i64,.int .i64]
 | .oz=>[.sl .hH,.sl .kZ,.int .i64,.int .i64]
theorem aaz(cs:List UU.C)(h:KM (U:=UU) [.int .i64] cs):∃x,B6 cs=some x:=by
 obtain⟨c0,r0,rfl,⟨a0,rfl⟩,h0⟩:=KM.inv h
 obtain rfl:=KM.pw h0
 exact⟨_,rfl⟩
theorem VJ(cs:List UU.C)(h:KM (U:=UU) [.int .u8] cs):∃x,yK cs=some x:=by
 obtain⟨c0,r0,rfl,⟨a0,rfl⟩,h0⟩:=KM.inv h
 obtain rfl:=KM.pw h0
 exact⟨_,rfl⟩
theorem aay(cs:List UU.C)(h:KM (U:=UU) [.str] cs):∃x,B5 cs=some x:=by
 obtain⟨c0,r0,rfl,⟨a0,rfl⟩,h0⟩:=KM.inv h
 obtain rfl:=KM.pw h0
 exact⟨_,rfl⟩
theorem VD(cs:List UU.C)(h:KM (U:=UU) [.int .i64,.int .i64,.str] cs):∃x,yE cs=some x:=by
 obtain⟨c0,r0,rfl,⟨a0,rfl⟩,h0⟩:=KM.inv h
 obtain⟨c1,r1,rfl,⟨a1,rfl⟩,h1⟩:=KM.inv h0
 obtain⟨c2,r2,rfl,⟨a2,rfl⟩,h2⟩:=KM.inv h1
 obtain rfl:=KM.pw h2
 exact⟨_,rfl⟩
theorem R2(cs:List UU.C)(h:KM (U:=UU) [.str,.sl .bc] cs):∃x,vN cs=some x:=by
 obtain⟨c0,r0,rfl,⟨a0,rfl⟩,h0⟩:=KM.inv h
 obtain⟨c1,r1,rfl,⟨a1,rfl⟩,h1⟩:=KM.inv h0
 obtain rfl:=KM.pw h1
 exact⟨_,rfl⟩
theorem R0(cs:List UU.C)(h:KM (U:=UU) [.int .i64,.str,.sl .bc] cs):∃x,vL cs=some x:=by
 obtain⟨c0,r0,rfl,⟨a0,rfl⟩,h0⟩:=KM.inv h
 obtain⟨c1,r1,rfl,⟨a1,rfl⟩,h1⟩:=KM.inv h0
 obtain⟨c2,r2,rfl,⟨a2,rfl⟩,h2⟩:=KM.inv h1
 obtain rfl:=KM.pw h2
 exact⟨_,rfl⟩
theorem PG(cs:List UU.C)(h:KM (U:=UU) [.sl .aJ,.int .i64] cs):∃x,tp cs=some x:=by
 obtain⟨c0,r0,rfl,⟨a0,rfl⟩,h0⟩:=KM.inv h
 obtain⟨c1,r1,rfl,⟨a1,rfl⟩,h1⟩:=KM.inv h0
 obtain rfl:=KM.pw h1
 exact⟨_,rfl⟩
theorem VG(cs:List UU.C)(h:KM (U:=UU) [.int .i64,.str,.int .i64,.int .i64,.str] cs):∃x,yI cs=some x:=by
 obtain⟨c0,r0,rfl,⟨a0,rfl⟩,h0⟩:=KM.inv h
 obtain⟨c1,r1,rfl,⟨a1,rfl⟩,h1⟩:=KM.inv h0
 obtain⟨c2,r2,rfl,⟨a2,rfl⟩,h2⟩:=KM.inv h1
 obtain⟨c3,r3,rfl,⟨a3,rfl⟩,h3⟩:=KM.inv h2
 obtain⟨c4,r4,rfl,⟨a4,rfl⟩,h4⟩:=KM.inv h3
 obtain rfl:=KM.pw h4
 exact⟨_,rfl⟩
theorem VE(cs:List UU.C)(h:KM (U:=UU) [.str,.sl .gB,.bool] cs):∃x,yG cs=some x:=by
 obtain⟨c0,r0,rfl,⟨a0,rfl⟩,h0⟩:=KM.inv h
 obtain⟨c1,r1,rfl,⟨a1,rfl⟩,h1⟩:=KM.inv h0
 obtain⟨c2,r2,rfl,⟨a2,rfl⟩,h2⟩:=KM.inv h1
 obtain rfl:=KM.pw h2
 exact⟨_,rfl⟩
theorem R7(cs:List UU.C)(h:KM (U:=UU) [.str,.int .i64,.int .i64,.str] cs):∃x,vS cs=some x:=by
 obtain⟨c0,r0,rfl,⟨a0,rfl⟩,h0⟩:=KM.inv h
 obtain⟨c1,r1,rfl,⟨a1,rfl⟩,h1⟩:=KM.inv h0
 obtain⟨c2,r2,rfl,⟨a2,rfl⟩,h2⟩:=KM.inv h1
 obtain⟨c3,r3,rfl,⟨a3,rfl⟩,h3⟩:=KM.inv h2
 obtain rfl:=KM.pw h3
 exact⟨_,rfl⟩
theorem R4(cs:List UU.C)(h:KM (U:=UU) [.int .i64,.int .i64,.str,.int .i64,.int .i64,.str,.int .i64,.str,.int .i64,.int .i64,.str] cs):∃x,vP cs=some x:=by
 obtain⟨c0,r0,rfl,⟨a0,rfl⟩,h0⟩:=KM.inv h
 obtain⟨c1,r1,rfl,⟨a1,rfl⟩,h1⟩:=KM.inv h0
 obtain⟨c2,r2,rfl,⟨a2,rfl⟩,h2⟩:=KM.inv h1
 obtain⟨c3,r3,rfl,⟨a3,rfl⟩,h3⟩:=KM.inv h2
 obtain⟨c4,r4,rfl,⟨a4,rfl⟩,h4⟩:=KM.inv h3
 obtain⟨c5,r5,rfl,⟨a5,rfl⟩,h5⟩:=KM.inv h4
 obtain⟨c6,r6,rfl,⟨a6,rfl⟩,h6⟩:=KM.inv h5
 obtain⟨c7,r7,rfl,⟨a7,rfl⟩,h7⟩:=KM.inv h6
 obtain⟨c8,r8,rfl,⟨a8,rfl⟩,h8⟩:=KM.inv h7
 obtain⟨c9,r9,rfl,⟨a9,rfl⟩,h9⟩:=KM.inv h8
 obtain⟨c10,r10,rfl,⟨a10,rfl⟩,ta⟩:=KM.inv h9
 obtain rfl:=KM.pw ta
 exact⟨_,rfl⟩
theorem R3(cs:List UU.C)(h:KM (U:=UU) [.str,.int .i64,.str,.int .i64,.int .i64,.str,.int .i64,.str,.int .i64,.int .i64,.str] cs):∃x,vO cs=some x:=by
 obtain⟨c0,r0,rfl,⟨a0,rfl⟩,h0⟩:=KM.inv h
 obtain⟨c1,r1,rfl,⟨a1,rfl⟩,h1⟩:=KM.inv h0
 obtain⟨c2,r2,rfl,⟨a2,rfl⟩,h2⟩:=KM.inv h1
 obtain⟨c3,r3,rfl,⟨a3,rfl⟩,h3⟩:=KM.inv h2
 obtain⟨c4,r4,rfl,⟨a4,rfl⟩,h4⟩:=KM.inv h3
 obtain⟨c5,r5,rfl,⟨a5,rfl⟩,h5⟩:=KM.inv h4
 obtain⟨c6,r6,rfl,⟨a6,rfl⟩,h6⟩:=KM.inv h5
 obtain⟨c7,r7,rfl,⟨a7,rfl⟩,h7⟩:=KM.inv h6
 obtain⟨c8,r8,rfl,⟨a8,rfl⟩,h8⟩:=KM.inv h7
 obtain⟨c9,r9,rfl,⟨a9,rfl⟩,h9⟩:=KM.inv h8
 obtain⟨c10,r10,rfl,⟨a10,rfl⟩,ta⟩:=KM.inv h9
 obtain rfl:=KM.pw ta
 exact⟨_,rfl⟩
theorem VH(cs:List UU.C)(h:KM (U:=UU) [.int .i64,.str,.sl .bJ,.int .i64,.str] cs):∃x,yJ cs=some x:=by
 obtain⟨c0,r0,rfl,⟨a0,rfl⟩,h0⟩:=KM.inv h
 obtain⟨c1,r1,rfl,⟨a1,rfl⟩,h1⟩:=KM.inv h0
 obtain⟨c2,r2,rfl,⟨a2,rfl⟩,h2⟩:=KM.inv h1
 obtain⟨c3,r3,rfl,⟨a3,rfl⟩,h3⟩:=KM.inv h2
 obtain⟨c4,r4,rfl,⟨a4,rfl⟩,h4⟩:=KM.inv h3
 obtain rfl:=KM.pw h4
 exact⟨_,rfl⟩
theorem RZ(cs:List UU.C)(h:KM (U:=UU) [.str,.int .i64,.sl .du,.sl .ca,.sl .dx] cs):∃x,vK cs=some x:=by
 obtain⟨c0,r0,rfl,⟨a0,rfl⟩,h0⟩:=KM.inv h
 obtain⟨c1,r1,rfl,⟨a1,rfl⟩,h1⟩:=KM.inv h0
 obtain⟨c2,r2,rfl,⟨a2,rfl⟩,h2⟩:=KM.inv h1
 obtain⟨c3,r3,rfl,⟨a3,rfl⟩,h3⟩:=KM.inv h2
 obtain⟨c4,r4,rfl,⟨a4,rfl⟩,h4⟩:=KM.inv h3
 obtain rfl:=KM.pw h4
 exact⟨_,rfl⟩
theorem VF(cs:List UU.C)(h:KM (U:=UU) [.str,.sl .bE] cs):∃x,yH cs=some x:=by
 obtain⟨c0,r0,rfl,⟨a0,rfl⟩,h0⟩:=KM.inv h
 obtain⟨c1,r1,rfl,⟨a1,rfl⟩,h1⟩:=KM.inv h0
 obtain rfl:=KM.pw h1
 exact⟨_,rfl⟩
theorem PH(cs:List UU.C)(h:KM (U:=UU) [.int .i64,.sl .int,.sl .cv] cs):∃x,tq cs=some x:=by
 obtain⟨c0,r0,rfl,⟨a0,rfl⟩,h0⟩:=KM.inv h
 obtain⟨c1,r1,rfl,⟨a1,rfl⟩,h1⟩:=KM.inv h0
 obtain⟨c2,r2,rfl,⟨a2,rfl⟩,h2⟩:=KM.inv h1
 obtain rfl:=KM.pw h2
 exact⟨_,rfl⟩
theorem M6(cs:List UU.C)(h:KM (U:=UU) [.int .i64,.str,.sl .bc,.int .i64,.int .i64,.str] cs):∃x,qZ cs=some x:=by
 obtain⟨c0,r0,rfl,⟨a0,rfl⟩,h0⟩:=KM.inv h
 obtain⟨c1,r1,rfl,⟨a1,rfl⟩,h1⟩:=KM.inv h0
 obtain⟨c2,r2,rfl,⟨a2,rfl⟩,h2⟩:=KM.inv h1
 obtain⟨c3,r3,rfl,⟨a3,rfl⟩,h3⟩:=KM.inv h2
 obtain⟨c4,r4,rfl,⟨a4,rfl⟩,h4⟩:=KM.inv h3
 obtain⟨c5,r5,rfl,⟨a5,rfl⟩,h5⟩:=KM.inv h4
 obtain rfl:=KM.pw h5
 exact⟨_,rfl⟩
theorem PF(cs:List UU.C)(h:KM (U:=UU) [.int .i64,.str,.sl .bc] cs):∃x,tn cs=some x:=by
 obtain⟨c0,r0,rfl,⟨a0,rfl⟩,h0⟩:=KM.inv h
 obtain⟨c1,r1,rfl,⟨a1,rfl⟩,h1⟩:=KM.inv h0
 obtain⟨c2,r2,rfl,⟨a2,rfl⟩,h2⟩:=KM.inv h1
 obtain rfl:=KM.pw h2
 exact⟨_,rfl⟩
theorem RY(cs:List UU.C)(h:KM (U:=UU) [.str,.sl .bc,.str,.int .i64,.int .i64,.int .i64,.int .i64,.int .i64,.str] cs):∃x,vJ cs=some x:=by
 obtain⟨c0,r0,rfl,⟨a0,rfl⟩,h0⟩:=KM.inv h
 obtain⟨c1,r1,rfl,⟨a1,rfl⟩,h1⟩:=KM.inv h0
 obtain⟨c2,r2,rfl,⟨a2,rfl⟩,h2⟩:=KM.inv h1
 obtain⟨c3,r3,rfl,⟨a3,rfl⟩,h3⟩:=KM.inv h2
 obtain⟨c4,r4,rfl,⟨a4,rfl⟩,h4⟩:=KM.inv h3
 obtain⟨c5,r5,rfl,⟨a5,rfl⟩,h5⟩:=KM.inv h4
 obtain⟨c6,r6,rfl,⟨a6,rfl⟩,h6⟩:=KM.inv h5
 obtain⟨c7,r7,rfl,⟨a7,rfl⟩,h7⟩:=KM.inv h6
 obtain⟨c8,r8,rfl,⟨a8,rfl⟩,h8⟩:=KM.inv h7
 obtain rfl:=KM.pw h8
 exact⟨_,rfl⟩
theorem R5(cs:List UU.C)(h:KM (U:=UU) [.str,.str,.sl .bc,.int .i64] cs):∃x,vQ cs=some x:=by
 obtain⟨c0,r0,rfl,⟨a0,rfl⟩,h0⟩:=KM.inv h
 obtain⟨c1,r1,rfl,⟨a1,rfl⟩,h1⟩:=KM.inv h0
 obtain⟨c2,r2,rfl,⟨a2,rfl⟩,h2⟩:=KM.inv h1
 obtain⟨c3,r3,rfl,⟨a3,rfl⟩,h3⟩:=KM.inv h2
 obtain rfl:=KM.pw h3
 exact⟨_,rfl⟩
theorem RX(cs:List UU.C)(h:KM (U:=UU) [.str,.str,.sl .bc] cs):∃x,vI cs=some x:=by
 obtain⟨c0,r0,rfl,⟨a0,rfl⟩,h0⟩:=KM.inv h
 obtain⟨c1,r1,rfl,⟨a1,rfl⟩,h1⟩:=KM.inv h0
 obtain⟨c2,r2,rfl,⟨a2,rfl⟩,h2⟩:=KM.inv h1
 obtain rfl:=KM.pw h2
 exact⟨_,rfl⟩
theorem R1(cs:List UU.C)(h:KM (U:=UU) [.sl .aJ,.int .i64,.sl .aE,.sl .ax,.sl .aI,.sl .aL,.int .i64,.int .i64] cs):∃x,vM cs=some x:=by
 obtain⟨c0,r0,rfl,⟨a0,rfl⟩,h0⟩:=KM.inv h
 obtain⟨c1,r1,rfl,⟨a1,rfl⟩,h1⟩:=KM.inv h0
 obtain⟨c2,r2,rfl,⟨a2,rfl⟩,h2⟩:=KM.inv h1
 obtain⟨c3,r3,rfl,⟨a3,rfl⟩,h3⟩:=KM.inv h2
 obtain⟨c4,r4,rfl,⟨a4,rfl⟩,h4⟩:=KM.inv h3
 obtain⟨c5,r5,rfl,⟨a5,rfl⟩,h5⟩:=KM.inv h4
 obtain⟨c6,r6,rfl,⟨a6,rfl⟩,h6⟩:=KM.inv h5
 obtain⟨c7,r7,rfl,⟨a7,rfl⟩,h7⟩:=KM.inv h6
 obtain rfl:=KM.pw h7
 exact⟨_,rfl⟩
theorem RW(cs:List UU.C)(h:KM (U:=UU) [.str,.str,.sl .aJ,.int .i64,.sl .aE,.sl .ax,.sl .aI,.sl .aL,.int .i64,.int .i64] cs):∃x,vH cs=some x:=by
 obtain⟨c0,r0,rfl,⟨a0,rfl⟩,h0⟩:=KM.inv h
 obtain⟨c1,r1,rfl,⟨a1,rfl⟩,h1⟩:=KM.inv h0
 obtain⟨c2,r2,rfl,⟨a2,rfl⟩,h2⟩:=KM.inv h1
 obtain⟨c3,r3,rfl,⟨a3,rfl⟩,h3⟩:=KM.inv h2
 obtain⟨c4,r4,rfl,⟨a4,rfl⟩,h4⟩:=KM.inv h3
 obtain⟨c5,r5,rfl,⟨a5,rfl⟩,h5⟩:=KM.inv h4
 obtain⟨c6,r6,rfl,⟨a6,rfl⟩,h6⟩:=KM.inv h5
 obtain⟨c7,r7,rfl,⟨a7,rfl⟩,h7⟩:=KM.inv h6
 obtain⟨c8,r8,rfl,⟨a8,rfl⟩,h8⟩:=KM.inv h7
 obtain⟨c9,r9,rfl,⟨a9,rfl⟩,h9⟩:=KM.inv h8
 obtain rfl:=KM.pw h9
 exact⟨_,rfl⟩
theorem R6(cs:List UU.C)(h:KM (U:=UU) [.sl .hH,.sl .kZ,.int .i64,.int .i64] cs):∃x,vR cs=some x:=by
 obtain⟨c0,r0,rfl,⟨a0,rfl⟩,h0⟩:=KM.inv h
 obtain⟨c1,r1,rfl,⟨a1,rfl⟩,h1⟩:=KM.inv h0
 obtain⟨c2,r2,rfl,⟨a2,rfl⟩,h2⟩:=KM.inv h1
 obtain⟨c3,r3,rfl,⟨a3,rfl⟩,h3⟩:=KM.inv h2
 obtain rfl:=KM.pw h3
 exact⟨_,rfl⟩
theorem PE(τ:Cd)(cs:List UU.C)(h:KM (Cd.kinds τ) cs):∃x,UU.dec τ cs=some x:=by
 cases τ
 case int=>exact aaz cs h
 case byte=>exact VJ cs h
 case str=>exact aay cs h
 case bc=>exact VD cs h
 case dc=>exact R2 cs h
 case aJ=>exact R0 cs h
 case cT=>exact PG cs h
 case gB=>exact VG cs h
 case du=>exact VE cs h
 case cv=>exact R7 cs h
 case ca=>exact R4 cs h
 case bJ=>exact R3 cs h
 case dx=>exact VH cs h
 case bE=>exact RZ cs h
 case hH=>exact VF cs h
 case aE=>exact PH cs h
 case eo=>exact M6 cs h
 case aI=>exact PF cs h
 case ax=>exact RY cs h
 case k8=>exact R5 cs h
 case aL=>exact RX cs h
 case cf=>exact R1 cs h
 case kZ=>exact RW cs h
 case oz=>exact R6 cs h
end
end AM
