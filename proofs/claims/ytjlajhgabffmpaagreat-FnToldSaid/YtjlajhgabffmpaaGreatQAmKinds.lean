/- The kinds of the data types' cells: written by gen/types.py. -/
import Derived.Test.YtjlajhgabffmpaaGreatQAmTypes
import Derived.Test.YtjlajhgabffmpaaGreatQAmLaw
namespace AM
open Go
noncomputable section
def Cd.kinds:Cd->List (K1 UU)
 | .int=>[.int .i64]
 | .byte=>[.int .u8]
 | .str=>[.str]
 | .bc=>[.int .i64,.int .i64,.str]
 | .dk=>[.str,.sl .bc]
 | .aH=>[.int .i64,.str,.sl .bc]
 | .c_=>[.sl .aH,.int .i64]
 | .gH=>[.int .i64,.str,.int .i64,.int .i64,.str]
 | .dE=>[.str,.sl .gH,.bool]
 | .cv=>[.str,.int .i64,.int .i64,.str]
 | .bT=>[.int .i64,.int .i64,.str,.int .i64,.int .i64,.str,.int .i64,.str,.int .i64,.int .i64,.str]
 | .bG=>[.str,.int .i64,.str,.int .i64,.int .i64,.str,.int .i64,.str,.int .i64,.int .i64,.str]
 | .dG=>[.int .i64,.str,.sl .bG,.int .i64,.str]
 | .bz=>[.str,.int .i64,.sl .dE,.sl .bT,.sl .dG]
 | .h_=>[.str,.sl .bz]
 | .aB=>[.int .i64,.sl .int,.sl .cv]
 | .eD=>[.int .i64,.str,.sl .bc,.int .i64,.int .i64,.str]
 | .aI=>[.int .i64,.str,.sl .bc]
 | .az=>[.str,.sl .bc,.str,.int .i64,.int .i64,.int .i64,.int .i64,.int .i64,.str]
 | .k8=>[.str,.str,.sl .bc,.int .i64]
 | .aW=>[.str,.str,.sl .bc]
 | .ct=>[.sl .aH,.int .i64,.sl .aB,.sl .az,.sl .aI,.sl .aW,.int .i64,.int .i64]
 | .kZ=>[.str,.str,.sl .aH,.int .i64,.sl .aB,.sl .az,.sl .aI,.sl .aW,.int .i64,.int .i64]
 | .oi=>[.sl .h_,.sl .kZ,.int .i64,.int .i64]
theorem aah(cs:List UU.C)(h:KM (U:=UU) [.int .i64] cs):∃x,BY cs=some x:=by
 obtain⟨c0,r0,rfl,⟨a0,rfl⟩,h0⟩:=KM.inv h
 obtain rfl:=KM.pg h0
 exact⟨_,rfl⟩
theorem VG(cs:List UU.C)(h:KM (U:=UU) [.int .u8] cs):∃x,yE cs=some x:=by
 obtain⟨c0,r0,rfl,⟨a0,rfl⟩,h0⟩:=KM.inv h
 obtain rfl:=KM.pg h0
 exact⟨_,rfl⟩
theorem aag(cs:List UU.C)(h:KM (U:=UU) [.str] cs):∃x,BX cs=some x:=by
 obtain⟨c0,r0,rfl,⟨a0,rfl⟩,h0⟩:=KM.inv h
 obtain rfl:=KM.pg h0
 exact⟨_,rfl⟩
theorem VA(cs:List UU.C)(h:KM (U:=UU) [.int .i64,.int .i64,.str] cs):∃x,yz cs=some x:=by
 obtain⟨c0,r0,rfl,⟨a0,rfl⟩,h0⟩:=KM.inv h
 obtain⟨c1,r1,rfl,⟨a1,rfl⟩,h1⟩:=KM.inv h0
 obtain⟨c2,r2,rfl,⟨a2,rfl⟩,h2⟩:=KM.inv h1
 obtain rfl:=KM.pg h2
 exact⟨_,rfl⟩
theorem R8(cs:List UU.C)(h:KM (U:=UU) [.str,.sl .bc] cs):∃x,vM cs=some x:=by
 obtain⟨c0,r0,rfl,⟨a0,rfl⟩,h0⟩:=KM.inv h
 obtain⟨c1,r1,rfl,⟨a1,rfl⟩,h1⟩:=KM.inv h0
 obtain rfl:=KM.pg h1
 exact⟨_,rfl⟩
theorem R6(cs:List UU.C)(h:KM (U:=UU) [.int .i64,.str,.sl .bc] cs):∃x,vK cs=some x:=by
 obtain⟨c0,r0,rfl,⟨a0,rfl⟩,h0⟩:=KM.inv h
 obtain⟨c1,r1,rfl,⟨a1,rfl⟩,h1⟩:=KM.inv h0
 obtain⟨c2,r2,rfl,⟨a2,rfl⟩,h2⟩:=KM.inv h1
 obtain rfl:=KM.pg h2
 exact⟨_,rfl⟩
theorem PL(cs:List UU.C)(h:KM (U:=UU) [.sl .aH,.int .i64] cs):∃x,s_ cs=some x:=by
 obtain⟨c0,r0,rfl,⟨a0,rfl⟩,h0⟩:=KM.inv h
 obtain⟨c1,r1,rfl,⟨a1,rfl⟩,h1⟩:=KM.inv h0
 obtain rfl:=KM.pg h1
 exact⟨_,rfl⟩
theorem VE(cs:List UU.C)(h:KM (U:=UU) [.int .i64,.str,.int .i64,.int .i64,.str] cs):∃x,yC cs=some x:=by
 obtain⟨c0,r0,rfl,⟨a0,rfl⟩,h0⟩:=KM.inv h
 obtain⟨c1,r1,rfl,⟨a1,rfl⟩,h1⟩:=KM.inv h0
 obtain⟨c2,r2,rfl,⟨a2,rfl⟩,h2⟩:=KM.inv h1
 obtain⟨c3,r3,rfl,⟨a3,rfl⟩,h3⟩:=KM.inv h2
 obtain⟨c4,r4,rfl,⟨a4,rfl⟩,h4⟩:=KM.inv h3
 obtain rfl:=KM.pg h4
 exact⟨_,rfl⟩
theorem VC(cs:List UU.C)(h:KM (U:=UU) [.str,.sl .gH,.bool] cs):∃x,yA cs=some x:=by
 obtain⟨c0,r0,rfl,⟨a0,rfl⟩,h0⟩:=KM.inv h
 obtain⟨c1,r1,rfl,⟨a1,rfl⟩,h1⟩:=KM.inv h0
 obtain⟨c2,r2,rfl,⟨a2,rfl⟩,h2⟩:=KM.inv h1
 obtain rfl:=KM.pg h2
 exact⟨_,rfl⟩
theorem Sb(cs:List UU.C)(h:KM (U:=UU) [.str,.int .i64,.int .i64,.str] cs):∃x,vR cs=some x:=by
 obtain⟨c0,r0,rfl,⟨a0,rfl⟩,h0⟩:=KM.inv h
 obtain⟨c1,r1,rfl,⟨a1,rfl⟩,h1⟩:=KM.inv h0
 obtain⟨c2,r2,rfl,⟨a2,rfl⟩,h2⟩:=KM.inv h1
 obtain⟨c3,r3,rfl,⟨a3,rfl⟩,h3⟩:=KM.inv h2
 obtain rfl:=KM.pg h3
 exact⟨_,rfl⟩
theorem R'(cs:List UU.C)(h:KM (U:=UU) [.int .i64,.int .i64,.str,.int .i64,.int .i64,.str,.int .i64,.str,.int .i64,.int .i64,.str] cs):∃x,vO cs=some x:=by
 obtain⟨c0,r0,rfl,⟨a0,rfl⟩,h0⟩:=KM.inv h
 obtain⟨c1,r1,rfl,⟨a1,rfl⟩,h1⟩:=KM.inv h0
 obtain⟨c2,r2,rfl,⟨a2,rfl⟩,h2⟩:=KM.inv h1
 obtain⟨c3,r3,rfl,⟨a3,rfl⟩,h3⟩:=KM.inv h2
 obtain⟨c4,r4,rfl,⟨a4,rfl⟩,h4⟩:=KM.inv h3
 obtain⟨c5,r5,rfl,⟨a5,rfl⟩,h5⟩:=KM.inv h4
 obtain⟨c6,r6,rfl,⟨a6,rfl⟩,h6⟩:=KM.inv h5
 obtain⟨c7,r7,rfl,⟨a7,rfl⟩,h7⟩:=KM.inv h6
 obtain⟨c8,r8,rfl,⟨a8,rfl⟩,h8⟩:=KM.inv h7
 obtain⟨c9,r9,rfl,⟨a9,rfl⟩,h9⟩:=KM.inv h8
 obtain⟨c10,r10,rfl,⟨a10,rfl⟩,sV⟩:=KM.inv h9
 obtain rfl:=KM.pg sV
 exact⟨_,rfl⟩
theorem R9(cs:List UU.C)(h:KM (U:=UU) [.str,.int .i64,.str,.int .i64,.int .i64,.str,.int .i64,.str,.int .i64,.int .i64,.str] cs):∃x,vN cs=some x:=by
 obtain⟨c0,r0,rfl,⟨a0,rfl⟩,h0⟩:=KM.inv h
 obtain⟨c1,r1,rfl,⟨a1,rfl⟩,h1⟩:=KM.inv h0
 obtain⟨c2,r2,rfl,⟨a2,rfl⟩,h2⟩:=KM.inv h1
 obtain⟨c3,r3,rfl,⟨a3,rfl⟩,h3⟩:=KM.inv h2
 obtain⟨c4,r4,rfl,⟨a4,rfl⟩,h4⟩:=KM.inv h3
 obtain⟨c5,r5,rfl,⟨a5,rfl⟩,h5⟩:=KM.inv h4
 obtain⟨c6,r6,rfl,⟨a6,rfl⟩,h6⟩:=KM.inv h5
 obtain⟨c7,r7,rfl,⟨a7,rfl⟩,h7⟩:=KM.inv h6
 obtain⟨c8,r8,rfl,⟨a8,rfl⟩,h8⟩:=KM.inv h7
 obtain⟨c9,r9,rfl,⟨a9,rfl⟩,h9⟩:=KM.inv h8
 obtain⟨c10,r10,rfl,⟨a10,rfl⟩,sV⟩:=KM.inv h9
 obtain rfl:=KM.pg sV
 exact⟨_,rfl⟩
theorem VF(cs:List UU.C)(h:KM (U:=UU) [.int .i64,.str,.sl .bG,.int .i64,.str] cs):∃x,yD cs=some x:=by
 obtain⟨c0,r0,rfl,⟨a0,rfl⟩,h0⟩:=KM.inv h
 obtain⟨c1,r1,rfl,⟨a1,rfl⟩,h1⟩:=KM.inv h0
 obtain⟨c2,r2,rfl,⟨a2,rfl⟩,h2⟩:=KM.inv h1
 obtain⟨c3,r3,rfl,⟨a3,rfl⟩,h3⟩:=KM.inv h2
 obtain⟨c4,r4,rfl,⟨a4,rfl⟩,h4⟩:=KM.inv h3
 obtain rfl:=KM.pg h4
 exact⟨_,rfl⟩
theorem R5(cs:List UU.C)(h:KM (U:=UU) [.str,.int .i64,.sl .dE,.sl .bT,.sl .dG] cs):∃x,vJ cs=some x:=by
 obtain⟨c0,r0,rfl,⟨a0,rfl⟩,h0⟩:=KM.inv h
 obtain⟨c1,r1,rfl,⟨a1,rfl⟩,h1⟩:=KM.inv h0
 obtain⟨c2,r2,rfl,⟨a2,rfl⟩,h2⟩:=KM.inv h1
 obtain⟨c3,r3,rfl,⟨a3,rfl⟩,h3⟩:=KM.inv h2
 obtain⟨c4,r4,rfl,⟨a4,rfl⟩,h4⟩:=KM.inv h3
 obtain rfl:=KM.pg h4
 exact⟨_,rfl⟩
theorem VD(cs:List UU.C)(h:KM (U:=UU) [.str,.sl .bz] cs):∃x,yB cs=some x:=by
 obtain⟨c0,r0,rfl,⟨a0,rfl⟩,h0⟩:=KM.inv h
 obtain⟨c1,r1,rfl,⟨a1,rfl⟩,h1⟩:=KM.inv h0
 obtain rfl:=KM.pg h1
 exact⟨_,rfl⟩
theorem PM(cs:List UU.C)(h:KM (U:=UU) [.int .i64,.sl .int,.sl .cv] cs):∃x,ta cs=some x:=by
 obtain⟨c0,r0,rfl,⟨a0,rfl⟩,h0⟩:=KM.inv h
 obtain⟨c1,r1,rfl,⟨a1,rfl⟩,h1⟩:=KM.inv h0
 obtain⟨c2,r2,rfl,⟨a2,rfl⟩,h2⟩:=KM.inv h1
 obtain rfl:=KM.pg h2
 exact⟨_,rfl⟩
theorem M7(cs:List UU.C)(h:KM (U:=UU) [.int .i64,.str,.sl .bc,.int .i64,.int .i64,.str] cs):∃x,qJ cs=some x:=by
 obtain⟨c0,r0,rfl,⟨a0,rfl⟩,h0⟩:=KM.inv h
 obtain⟨c1,r1,rfl,⟨a1,rfl⟩,h1⟩:=KM.inv h0
 obtain⟨c2,r2,rfl,⟨a2,rfl⟩,h2⟩:=KM.inv h1
 obtain⟨c3,r3,rfl,⟨a3,rfl⟩,h3⟩:=KM.inv h2
 obtain⟨c4,r4,rfl,⟨a4,rfl⟩,h4⟩:=KM.inv h3
 obtain⟨c5,r5,rfl,⟨a5,rfl⟩,h5⟩:=KM.inv h4
 obtain rfl:=KM.pg h5
 exact⟨_,rfl⟩
theorem PK(cs:List UU.C)(h:KM (U:=UU) [.int .i64,.str,.sl .bc] cs):∃x,s9 cs=some x:=by
 obtain⟨c0,r0,rfl,⟨a0,rfl⟩,h0⟩:=KM.inv h
 obtain⟨c1,r1,rfl,⟨a1,rfl⟩,h1⟩:=KM.inv h0
 obtain⟨c2,r2,rfl,⟨a2,rfl⟩,h2⟩:=KM.inv h1
 obtain rfl:=KM.pg h2
 exact⟨_,rfl⟩
theorem R4(cs:List UU.C)(h:KM (U:=UU) [.str,.sl .bc,.str,.int .i64,.int .i64,.int .i64,.int .i64,.int .i64,.str] cs):∃x,vI cs=some x:=by
 obtain⟨c0,r0,rfl,⟨a0,rfl⟩,h0⟩:=KM.inv h
 obtain⟨c1,r1,rfl,⟨a1,rfl⟩,h1⟩:=KM.inv h0
 obtain⟨c2,r2,rfl,⟨a2,rfl⟩,h2⟩:=KM.inv h1
 obtain⟨c3,r3,rfl,⟨a3,rfl⟩,h3⟩:=KM.inv h2
 obtain⟨c4,r4,rfl,⟨a4,rfl⟩,h4⟩:=KM.inv h3
 obtain⟨c5,r5,rfl,⟨a5,rfl⟩,h5⟩:=KM.inv h4
 obtain⟨c6,r6,rfl,⟨a6,rfl⟩,h6⟩:=KM.inv h5
 obtain⟨c7,r7,rfl,⟨a7,rfl⟩,h7⟩:=KM.inv h6
 obtain⟨c8,r8,rfl,⟨a8,rfl⟩,h8⟩:=KM.inv h7
 obtain rfl:=KM.pg h8
 exact⟨_,rfl⟩
theorem R_(cs:List UU.C)(h:KM (U:=UU) [.str,.str,.sl .bc,.int .i64] cs):∃x,vP cs=some x:=by
 obtain⟨c0,r0,rfl,⟨a0,rfl⟩,h0⟩:=KM.inv h
 obtain⟨c1,r1,rfl,⟨a1,rfl⟩,h1⟩:=KM.inv h0
 obtain⟨c2,r2,rfl,⟨a2,rfl⟩,h2⟩:=KM.inv h1
 obtain⟨c3,r3,rfl,⟨a3,rfl⟩,h3⟩:=KM.inv h2
 obtain rfl:=KM.pg h3
 exact⟨_,rfl⟩
theorem R3(cs:List UU.C)(h:KM (U:=UU) [.str,.str,.sl .bc] cs):∃x,vH cs=some x:=by
 obtain⟨c0,r0,rfl,⟨a0,rfl⟩,h0⟩:=KM.inv h
 obtain⟨c1,r1,rfl,⟨a1,rfl⟩,h1⟩:=KM.inv h0
 obtain⟨c2,r2,rfl,⟨a2,rfl⟩,h2⟩:=KM.inv h1
 obtain rfl:=KM.pg h2
 exact⟨_,rfl⟩
theorem R7(cs:List UU.C)(h:KM (U:=UU) [.sl .aH,.int .i64,.sl .aB,.sl .az,.sl .aI,.sl .aW,.int .i64,.int .i64] cs):∃x,vL cs=some x:=by
 obtain⟨c0,r0,rfl,⟨a0,rfl⟩,h0⟩:=KM.inv h
 obtain⟨c1,r1,rfl,⟨a1,rfl⟩,h1⟩:=KM.inv h0
 obtain⟨c2,r2,rfl,⟨a2,rfl⟩,h2⟩:=KM.inv h1
 obtain⟨c3,r3,rfl,⟨a3,rfl⟩,h3⟩:=KM.inv h2
 obtain⟨c4,r4,rfl,⟨a4,rfl⟩,h4⟩:=KM.inv h3
 obtain⟨c5,r5,rfl,⟨a5,rfl⟩,h5⟩:=KM.inv h4
 obtain⟨c6,r6,rfl,⟨a6,rfl⟩,h6⟩:=KM.inv h5
 obtain⟨c7,r7,rfl,⟨a7,rfl⟩,h7⟩:=KM.inv h6
 obtain rfl:=KM.pg h7
 exact⟨_,rfl⟩
theorem R2(cs:List UU.C)(h:KM (U:=UU) [.str,.str,.sl .aH,.int .i64,.sl .aB,.sl .az,.sl .aI,.sl .aW,.int .i64,.int .i64] cs):∃x,vG cs=some x:=by
 obtain⟨c0,r0,rfl,⟨a0,rfl⟩,h0⟩:=KM.inv h
 obtain⟨c1,r1,rfl,⟨a1,rfl⟩,h1⟩:=KM.inv h0
 obtain⟨c2,r2,rfl,⟨a2,rfl⟩,h2⟩:=KM.inv h1
 obtain⟨c3,r3,rfl,⟨a3,rfl⟩,h3⟩:=KM.inv h2
 obtain⟨c4,r4,rfl,⟨a4,rfl⟩,h4⟩:=KM.inv h3
 obtain⟨c5,r5,rfl,⟨a5,rfl⟩,h5⟩:=KM.inv h4
 obtain⟨c6,r6,rfl,⟨a6,rfl⟩,h6⟩:=KM.inv h5
 obtain⟨c7,r7,rfl,⟨a7,rfl⟩,h7⟩:=KM.inv h6
 obtain⟨c8,r8,rfl,⟨a8,rfl⟩,h8⟩:=KM.inv h7
 obtain⟨c9,r9,rfl,⟨a9,rfl⟩,h9⟩:=KM.inv h8
 obtain rfl:=KM.pg h9
 exact⟨_,rfl⟩
theorem Sa(cs:List UU.C)(h:KM (U:=UU) [.sl .h_,.sl .kZ,.int .i64,.int .i64] cs):∃x,vQ cs=some x:=by
 obtain⟨c0,r0,rfl,⟨a0,rfl⟩,h0⟩:=KM.inv h
 obtain⟨c1,r1,rfl,⟨a1,rfl⟩,h1⟩:=KM.inv h0
 obtain⟨c2,r2,rfl,⟨a2,rfl⟩,h2⟩:=KM.inv h1
 obtain⟨c3,r3,rfl,⟨a3,rfl⟩,h3⟩:=KM.inv h2
 obtain rfl:=KM.pg h3
 exact⟨_,rfl⟩
theorem PJ(τ:Cd)(cs:List UU.C)(h:KM (Cd.kinds τ) cs):∃x,UU.dec τ cs=some x:=by
 cases τ
 case int=>exact aah cs h
 case byte=>exact VG cs h
 case str=>exact aag cs h
 case bc=>exact VA cs h
 case dk=>exact R8 cs h
 case aH=>exact R6 cs h
 case c_=>exact PL cs h
 case gH=>exact VE cs h
 case dE=>exact VC cs h
 case cv=>exact Sb cs h
 case bT=>exact R' cs h
 case bG=>exact R9 cs h
 case dG=>exact VF cs h
 case bz=>exact R5 cs h
 case h_=>exact VD cs h
 case aB=>exact PM cs h
 case eD=>exact M7 cs h
 case aI=>exact PK cs h
 case az=>exact R4 cs h
 case k8=>exact R_ cs h
 case aW=>exact R3 cs h
 case ct=>exact R7 cs h
 case kZ=>exact R2 cs h
 case oi=>exact Sa cs h
end
end AM
