/- The kinds of the data types' cells: written by gen/types.py. -/
import Derived.Test.YtmlhlndkkidhoaaGreatQAmTypes
import Derived.Test.YtmlhlndkkidhoaaGreatQAmLaw
namespace AM
open Go
noncomputable section
def Cd.kinds:Cd->List (K1 UU)
 | .int=>[.int .i64]
 | .byte=>[.int .u8]
 | .str=>[.str]
 | .aM=>[.int .i64,.int .i64,.str]
 | .bP=>[.str,.sl .aM]
 | .aX=>[.int .i64,.str,.sl .aM]
 | .bV=>[.sl .aX,.int .i64]
 | .er=>[.int .i64,.str,.int .i64,.int .i64,.str]
 | .cU=>[.str,.sl .er,.bool]
 | .b_=>[.str,.int .i64,.int .i64,.str]
 | .bL=>[.int .i64,.int .i64,.str,.int .i64,.int .i64,.str,.int .i64,.str,.int .i64,.int .i64,.str]
 | .bq=>[.str,.int .i64,.str,.int .i64,.int .i64,.str,.int .i64,.str,.int .i64,.int .i64,.str]
 | .cV=>[.int .i64,.str,.sl .bq,.int .i64,.str]
 | .a_=>[.str,.int .i64,.sl .cU,.sl .bL,.sl .cV]
 | .dZ=>[.str,.sl .a_]
 | .az=>[.int .i64,.sl .int,.sl .b_]
 | .dc=>[.int .i64,.str,.sl .aM,.int .i64,.int .i64,.str]
 | .aH=>[.int .i64,.str,.sl .aM]
 | .aA=>[.str,.sl .aM,.str,.int .i64,.int .i64,.int .i64,.int .i64,.int .i64,.str]
 | .kH=>[.str,.str,.sl .aM,.int .i64]
 | .aT=>[.str,.str,.sl .aM]
 | .bD=>[.sl .aX,.int .i64,.sl .az,.sl .aA,.sl .aH,.sl .aT,.int .i64,.int .i64]
theorem Yl(cs:List UU.C)(h:KM (U:=UU) [.int .i64] cs):∃x,AI cs=some x:=by
 obtain⟨c0,r0,rfl,⟨a0,rfl⟩,h0⟩:=KM.inv h
 obtain rfl:=KM.pJ h0
 exact⟨_,rfl⟩
theorem UG(cs:List UU.C)(h:KM (U:=UU) [.int .u8] cs):∃x,xy cs=some x:=by
 obtain⟨c0,r0,rfl,⟨a0,rfl⟩,h0⟩:=KM.inv h
 obtain rfl:=KM.pJ h0
 exact⟨_,rfl⟩
theorem Yk(cs:List UU.C)(h:KM (U:=UU) [.str] cs):∃x,AH cs=some x:=by
 obtain⟨c0,r0,rfl,⟨a0,rfl⟩,h0⟩:=KM.inv h
 obtain rfl:=KM.pJ h0
 exact⟨_,rfl⟩
theorem UB(cs:List UU.C)(h:KM (U:=UU) [.int .i64,.int .i64,.str] cs):∃x,xt cs=some x:=by
 obtain⟨c0,r0,rfl,⟨a0,rfl⟩,h0⟩:=KM.inv h
 obtain⟨c1,r1,rfl,⟨a1,rfl⟩,h1⟩:=KM.inv h0
 obtain⟨c2,r2,rfl,⟨a2,rfl⟩,h2⟩:=KM.inv h1
 obtain rfl:=KM.pJ h2
 exact⟨_,rfl⟩
theorem Py(cs:List UU.C)(h:KM (U:=UU) [.str,.sl .aM] cs):∃x,uF cs=some x:=by
 obtain⟨c0,r0,rfl,⟨a0,rfl⟩,h0⟩:=KM.inv h
 obtain⟨c1,r1,rfl,⟨a1,rfl⟩,h1⟩:=KM.inv h0
 obtain rfl:=KM.pJ h1
 exact⟨_,rfl⟩
theorem Pw(cs:List UU.C)(h:KM (U:=UU) [.int .i64,.str,.sl .aM] cs):∃x,uD cs=some x:=by
 obtain⟨c0,r0,rfl,⟨a0,rfl⟩,h0⟩:=KM.inv h
 obtain⟨c1,r1,rfl,⟨a1,rfl⟩,h1⟩:=KM.inv h0
 obtain⟨c2,r2,rfl,⟨a2,rfl⟩,h2⟩:=KM.inv h1
 obtain rfl:=KM.pJ h2
 exact⟨_,rfl⟩
theorem Ng(cs:List UU.C)(h:KM (U:=UU) [.sl .aX,.int .i64] cs):∃x,rZ cs=some x:=by
 obtain⟨c0,r0,rfl,⟨a0,rfl⟩,h0⟩:=KM.inv h
 obtain⟨c1,r1,rfl,⟨a1,rfl⟩,h1⟩:=KM.inv h0
 obtain rfl:=KM.pJ h1
 exact⟨_,rfl⟩
theorem UE(cs:List UU.C)(h:KM (U:=UU) [.int .i64,.str,.int .i64,.int .i64,.str] cs):∃x,xw cs=some x:=by
 obtain⟨c0,r0,rfl,⟨a0,rfl⟩,h0⟩:=KM.inv h
 obtain⟨c1,r1,rfl,⟨a1,rfl⟩,h1⟩:=KM.inv h0
 obtain⟨c2,r2,rfl,⟨a2,rfl⟩,h2⟩:=KM.inv h1
 obtain⟨c3,r3,rfl,⟨a3,rfl⟩,h3⟩:=KM.inv h2
 obtain⟨c4,r4,rfl,⟨a4,rfl⟩,h4⟩:=KM.inv h3
 obtain rfl:=KM.pJ h4
 exact⟨_,rfl⟩
theorem UC(cs:List UU.C)(h:KM (U:=UU) [.str,.sl .er,.bool] cs):∃x,xu cs=some x:=by
 obtain⟨c0,r0,rfl,⟨a0,rfl⟩,h0⟩:=KM.inv h
 obtain⟨c1,r1,rfl,⟨a1,rfl⟩,h1⟩:=KM.inv h0
 obtain⟨c2,r2,rfl,⟨a2,rfl⟩,h2⟩:=KM.inv h1
 obtain rfl:=KM.pJ h2
 exact⟨_,rfl⟩
theorem PC(cs:List UU.C)(h:KM (U:=UU) [.str,.int .i64,.int .i64,.str] cs):∃x,uJ cs=some x:=by
 obtain⟨c0,r0,rfl,⟨a0,rfl⟩,h0⟩:=KM.inv h
 obtain⟨c1,r1,rfl,⟨a1,rfl⟩,h1⟩:=KM.inv h0
 obtain⟨c2,r2,rfl,⟨a2,rfl⟩,h2⟩:=KM.inv h1
 obtain⟨c3,r3,rfl,⟨a3,rfl⟩,h3⟩:=KM.inv h2
 obtain rfl:=KM.pJ h3
 exact⟨_,rfl⟩
theorem PA(cs:List UU.C)(h:KM (U:=UU) [.int .i64,.int .i64,.str,.int .i64,.int .i64,.str,.int .i64,.str,.int .i64,.int .i64,.str] cs):∃x,uH cs=some x:=by
 obtain⟨c0,r0,rfl,⟨a0,rfl⟩,h0⟩:=KM.inv h
 obtain⟨c1,r1,rfl,⟨a1,rfl⟩,h1⟩:=KM.inv h0
 obtain⟨c2,r2,rfl,⟨a2,rfl⟩,h2⟩:=KM.inv h1
 obtain⟨c3,r3,rfl,⟨a3,rfl⟩,h3⟩:=KM.inv h2
 obtain⟨c4,r4,rfl,⟨a4,rfl⟩,h4⟩:=KM.inv h3
 obtain⟨c5,r5,rfl,⟨a5,rfl⟩,h5⟩:=KM.inv h4
 obtain⟨c6,r6,rfl,⟨a6,rfl⟩,h6⟩:=KM.inv h5
 obtain⟨c7,r7,rfl,⟨a7,rfl⟩,h7⟩:=KM.inv h6
 obtain⟨c8,r8,rfl,⟨a8,rfl⟩,h8⟩:=KM.inv h7
 obtain⟨c9,r9,rfl,⟨a9,rfl⟩,h9⟩:=KM.inv h8
 obtain⟨c10,r10,rfl,⟨a10,rfl⟩,rQ⟩:=KM.inv h9
 obtain rfl:=KM.pJ rQ
 exact⟨_,rfl⟩
theorem Pz(cs:List UU.C)(h:KM (U:=UU) [.str,.int .i64,.str,.int .i64,.int .i64,.str,.int .i64,.str,.int .i64,.int .i64,.str] cs):∃x,uG cs=some x:=by
 obtain⟨c0,r0,rfl,⟨a0,rfl⟩,h0⟩:=KM.inv h
 obtain⟨c1,r1,rfl,⟨a1,rfl⟩,h1⟩:=KM.inv h0
 obtain⟨c2,r2,rfl,⟨a2,rfl⟩,h2⟩:=KM.inv h1
 obtain⟨c3,r3,rfl,⟨a3,rfl⟩,h3⟩:=KM.inv h2
 obtain⟨c4,r4,rfl,⟨a4,rfl⟩,h4⟩:=KM.inv h3
 obtain⟨c5,r5,rfl,⟨a5,rfl⟩,h5⟩:=KM.inv h4
 obtain⟨c6,r6,rfl,⟨a6,rfl⟩,h6⟩:=KM.inv h5
 obtain⟨c7,r7,rfl,⟨a7,rfl⟩,h7⟩:=KM.inv h6
 obtain⟨c8,r8,rfl,⟨a8,rfl⟩,h8⟩:=KM.inv h7
 obtain⟨c9,r9,rfl,⟨a9,rfl⟩,h9⟩:=KM.inv h8
 obtain⟨c10,r10,rfl,⟨a10,rfl⟩,rQ⟩:=KM.inv h9
 obtain rfl:=KM.pJ rQ
 exact⟨_,rfl⟩
theorem UF(cs:List UU.C)(h:KM (U:=UU) [.int .i64,.str,.sl .bq,.int .i64,.str] cs):∃x,xx cs=some x:=by
 obtain⟨c0,r0,rfl,⟨a0,rfl⟩,h0⟩:=KM.inv h
 obtain⟨c1,r1,rfl,⟨a1,rfl⟩,h1⟩:=KM.inv h0
 obtain⟨c2,r2,rfl,⟨a2,rfl⟩,h2⟩:=KM.inv h1
 obtain⟨c3,r3,rfl,⟨a3,rfl⟩,h3⟩:=KM.inv h2
 obtain⟨c4,r4,rfl,⟨a4,rfl⟩,h4⟩:=KM.inv h3
 obtain rfl:=KM.pJ h4
 exact⟨_,rfl⟩
theorem Pv(cs:List UU.C)(h:KM (U:=UU) [.str,.int .i64,.sl .cU,.sl .bL,.sl .cV] cs):∃x,uC cs=some x:=by
 obtain⟨c0,r0,rfl,⟨a0,rfl⟩,h0⟩:=KM.inv h
 obtain⟨c1,r1,rfl,⟨a1,rfl⟩,h1⟩:=KM.inv h0
 obtain⟨c2,r2,rfl,⟨a2,rfl⟩,h2⟩:=KM.inv h1
 obtain⟨c3,r3,rfl,⟨a3,rfl⟩,h3⟩:=KM.inv h2
 obtain⟨c4,r4,rfl,⟨a4,rfl⟩,h4⟩:=KM.inv h3
 obtain rfl:=KM.pJ h4
 exact⟨_,rfl⟩
theorem UD(cs:List UU.C)(h:KM (U:=UU) [.str,.sl .a_] cs):∃x,xv cs=some x:=by
 obtain⟨c0,r0,rfl,⟨a0,rfl⟩,h0⟩:=KM.inv h
 obtain⟨c1,r1,rfl,⟨a1,rfl⟩,h1⟩:=KM.inv h0
 obtain rfl:=KM.pJ h1
 exact⟨_,rfl⟩
theorem Nh(cs:List UU.C)(h:KM (U:=UU) [.int .i64,.sl .int,.sl .b_] cs):∃x,r_ cs=some x:=by
 obtain⟨c0,r0,rfl,⟨a0,rfl⟩,h0⟩:=KM.inv h
 obtain⟨c1,r1,rfl,⟨a1,rfl⟩,h1⟩:=KM.inv h0
 obtain⟨c2,r2,rfl,⟨a2,rfl⟩,h2⟩:=KM.inv h1
 obtain rfl:=KM.pJ h2
 exact⟨_,rfl⟩
theorem KV(cs:List UU.C)(h:KM (U:=UU) [.int .i64,.str,.sl .aM,.int .i64,.int .i64,.str] cs):∃x,qc cs=some x:=by
 obtain⟨c0,r0,rfl,⟨a0,rfl⟩,h0⟩:=KM.inv h
 obtain⟨c1,r1,rfl,⟨a1,rfl⟩,h1⟩:=KM.inv h0
 obtain⟨c2,r2,rfl,⟨a2,rfl⟩,h2⟩:=KM.inv h1
 obtain⟨c3,r3,rfl,⟨a3,rfl⟩,h3⟩:=KM.inv h2
 obtain⟨c4,r4,rfl,⟨a4,rfl⟩,h4⟩:=KM.inv h3
 obtain⟨c5,r5,rfl,⟨a5,rfl⟩,h5⟩:=KM.inv h4
 obtain rfl:=KM.pJ h5
 exact⟨_,rfl⟩
theorem Nf(cs:List UU.C)(h:KM (U:=UU) [.int .i64,.str,.sl .aM] cs):∃x,rY cs=some x:=by
 obtain⟨c0,r0,rfl,⟨a0,rfl⟩,h0⟩:=KM.inv h
 obtain⟨c1,r1,rfl,⟨a1,rfl⟩,h1⟩:=KM.inv h0
 obtain⟨c2,r2,rfl,⟨a2,rfl⟩,h2⟩:=KM.inv h1
 obtain rfl:=KM.pJ h2
 exact⟨_,rfl⟩
theorem Pu(cs:List UU.C)(h:KM (U:=UU) [.str,.sl .aM,.str,.int .i64,.int .i64,.int .i64,.int .i64,.int .i64,.str] cs):∃x,uB cs=some x:=by
 obtain⟨c0,r0,rfl,⟨a0,rfl⟩,h0⟩:=KM.inv h
 obtain⟨c1,r1,rfl,⟨a1,rfl⟩,h1⟩:=KM.inv h0
 obtain⟨c2,r2,rfl,⟨a2,rfl⟩,h2⟩:=KM.inv h1
 obtain⟨c3,r3,rfl,⟨a3,rfl⟩,h3⟩:=KM.inv h2
 obtain⟨c4,r4,rfl,⟨a4,rfl⟩,h4⟩:=KM.inv h3
 obtain⟨c5,r5,rfl,⟨a5,rfl⟩,h5⟩:=KM.inv h4
 obtain⟨c6,r6,rfl,⟨a6,rfl⟩,h6⟩:=KM.inv h5
 obtain⟨c7,r7,rfl,⟨a7,rfl⟩,h7⟩:=KM.inv h6
 obtain⟨c8,r8,rfl,⟨a8,rfl⟩,h8⟩:=KM.inv h7
 obtain rfl:=KM.pJ h8
 exact⟨_,rfl⟩
theorem PB(cs:List UU.C)(h:KM (U:=UU) [.str,.str,.sl .aM,.int .i64] cs):∃x,uI cs=some x:=by
 obtain⟨c0,r0,rfl,⟨a0,rfl⟩,h0⟩:=KM.inv h
 obtain⟨c1,r1,rfl,⟨a1,rfl⟩,h1⟩:=KM.inv h0
 obtain⟨c2,r2,rfl,⟨a2,rfl⟩,h2⟩:=KM.inv h1
 obtain⟨c3,r3,rfl,⟨a3,rfl⟩,h3⟩:=KM.inv h2
 obtain rfl:=KM.pJ h3
 exact⟨_,rfl⟩
theorem Pt(cs:List UU.C)(h:KM (U:=UU) [.str,.str,.sl .aM] cs):∃x,uA cs=some x:=by
 obtain⟨c0,r0,rfl,⟨a0,rfl⟩,h0⟩:=KM.inv h
 obtain⟨c1,r1,rfl,⟨a1,rfl⟩,h1⟩:=KM.inv h0
 obtain⟨c2,r2,rfl,⟨a2,rfl⟩,h2⟩:=KM.inv h1
 obtain rfl:=KM.pJ h2
 exact⟨_,rfl⟩
theorem Px(cs:List UU.C)(h:KM (U:=UU) [.sl .aX,.int .i64,.sl .az,.sl .aA,.sl .aH,.sl .aT,.int .i64,.int .i64] cs):∃x,uE cs=some x:=by
 obtain⟨c0,r0,rfl,⟨a0,rfl⟩,h0⟩:=KM.inv h
 obtain⟨c1,r1,rfl,⟨a1,rfl⟩,h1⟩:=KM.inv h0
 obtain⟨c2,r2,rfl,⟨a2,rfl⟩,h2⟩:=KM.inv h1
 obtain⟨c3,r3,rfl,⟨a3,rfl⟩,h3⟩:=KM.inv h2
 obtain⟨c4,r4,rfl,⟨a4,rfl⟩,h4⟩:=KM.inv h3
 obtain⟨c5,r5,rfl,⟨a5,rfl⟩,h5⟩:=KM.inv h4
 obtain⟨c6,r6,rfl,⟨a6,rfl⟩,h6⟩:=KM.inv h5
 obtain⟨c7,r7,rfl,⟨a7,rfl⟩,h7⟩:=KM.inv h6
 obtain rfl:=KM.pJ h7
 exact⟨_,rfl⟩
theorem Nd(τ:Cd)(cs:List UU.C)(h:KM (Cd.kinds τ) cs):∃x,UU.dec τ cs=some x:=by
 cases τ
 case int=>exact Yl cs h
 case byte=>exact UG cs h
 case str=>exact Yk cs h
 case aM=>exact UB cs h
 case bP=>exact Py cs h
 case aX=>exact Pw cs h
 case bV=>exact Ng cs h
 case er=>exact UE cs h
 case cU=>exact UC cs h
 case b_=>exact PC cs h
 case bL=>exact PA cs h
 case bq=>exact Pz cs h
 case cV=>exact UF cs h
 case a_=>exact Pv cs h
 case dZ=>exact UD cs h
 case az=>exact Nh cs h
 case dc=>exact KV cs h
 case aH=>exact Nf cs h
 case aA=>exact Pu cs h
 case kH=>exact PB cs h
 case aT=>exact Pt cs h
 case bD=>exact Px cs h
end
end AM
