import Derived.Test.YtmcepppejchhkaaGreatDoorQAmTypes
import Derived.Test.YtmcepppejchhkaaGreatDoorQAmLaw
namespace AM
open Go
noncomputable section
def Cd.kinds:Cd->List (K1 UU)
 | .int=>[.int .i64]
 | .byte=>[.int .u8]
 | .str=>[.str]
 | .bf=>[.int .i64,.int .i64,.str]
 | .db=>[.str,.sl .bf]
 | .aJ=>[.int .i64,.str,.sl .bf]
 | .cQ=>[.sl .aJ,.int .i64]
 | .gM=>[.int .i64,.str,.int .i64,.int .i64,.str]
 | .dB=>[.str,.sl .gM,.bool]
 | .cw=>[.str,.int .i64,.int .i64,.str]
 | .ca=>[.int .i64,.int .i64,.str,.int .i64,.int .i64,.str,.int .i64,.str,.int .i64,.int .i64,.str]
 | .bI=>[.str,.int .i64,.str,.int .i64,.int .i64,.str,.int .i64,.str,.int .i64,.int .i64,.str]
 | .dE=>[.int .i64,.str,.sl .bI,.int .i64,.str]
 | .bB=>[.str,.int .i64,.sl .dB,.sl .ca,.sl .dE]
 | .h_=>[.str,.sl .bB]
 | .aB=>[.int .i64,.sl .int,.sl .cw]
 | .eD=>[.int .i64,.str,.sl .bf,.int .i64,.int .i64,.str]
 | .aE=>[.int .i64,.str,.sl .bf]
 | .az=>[.str,.sl .bf,.str,.int .i64,.int .i64,.int .i64,.int .i64,.int .i64,.str]
 | .dw=>[.str,.str,.sl .bf,.int .i64]
 | .aQ=>[.str,.str,.sl .bf]
 | .cp=>[.sl .aJ,.int .i64,.sl .aB,.sl .az,.sl .aE,.sl .aQ,.int .i64,.int .i64]
 | .lm=>[.str,.str,.sl .aJ,.int .i64,.sl .aB,.sl .az,.sl .aE,.sl .aQ,.int .i64,.int .i64]
 | .oN=>[.sl .h_,.sl .lm,.int .i64,.int .i64]
theorem aaS(cs:List UU.C)(h:KM (U:=UU) [.int .i64] cs):∃x,Cp cs=some x:=by
 obtain⟨c0,r0,rfl,⟨a0,rfl⟩,h0⟩:=KM.inv h
 obtain rfl:=KM.pJ h0
 exact⟨_,rfl⟩
theorem VW(cs:List UU.C)(h:KM (U:=UU) [.int .u8] cs):∃x,zc cs=some x:=by
 obtain⟨c0,r0,rfl,⟨a0,rfl⟩,h0⟩:=KM.inv h
 obtain rfl:=KM.pJ h0
 exact⟨_,rfl⟩
theorem aaR(cs:List UU.C)(h:KM (U:=UU) [.str] cs):∃x,Co cs=some x:=by
 obtain⟨c0,r0,rfl,⟨a0,rfl⟩,h0⟩:=KM.inv h
 obtain rfl:=KM.pJ h0
 exact⟨_,rfl⟩
theorem VQ(cs:List UU.C)(h:KM (U:=UU) [.int .i64,.int .i64,.str] cs):∃x,y8 cs=some x:=by
 obtain⟨c0,r0,rfl,⟨a0,rfl⟩,h0⟩:=KM.inv h
 obtain⟨c1,r1,rfl,⟨a1,rfl⟩,h1⟩:=KM.inv h0
 obtain⟨c2,r2,rfl,⟨a2,rfl⟩,h2⟩:=KM.inv h1
 obtain rfl:=KM.pJ h2
 exact⟨_,rfl⟩
theorem R_(cs:List UU.C)(h:KM (U:=UU) [.str,.sl .bf] cs):∃x,wj cs=some x:=by
 obtain⟨c0,r0,rfl,⟨a0,rfl⟩,h0⟩:=KM.inv h
 obtain⟨c1,r1,rfl,⟨a1,rfl⟩,h1⟩:=KM.inv h0
 obtain rfl:=KM.pJ h1
 exact⟨_,rfl⟩
theorem R9(cs:List UU.C)(h:KM (U:=UU) [.int .i64,.str,.sl .bf] cs):∃x,wg cs=some x:=by
 obtain⟨c0,r0,rfl,⟨a0,rfl⟩,h0⟩:=KM.inv h
 obtain⟨c1,r1,rfl,⟨a1,rfl⟩,h1⟩:=KM.inv h0
 obtain⟨c2,r2,rfl,⟨a2,rfl⟩,h2⟩:=KM.inv h1
 obtain rfl:=KM.pJ h2
 exact⟨_,rfl⟩
theorem PR(cs:List UU.C)(h:KM (U:=UU) [.sl .aJ,.int .i64] cs):∃x,tL cs=some x:=by
 obtain⟨c0,r0,rfl,⟨a0,rfl⟩,h0⟩:=KM.inv h
 obtain⟨c1,r1,rfl,⟨a1,rfl⟩,h1⟩:=KM.inv h0
 obtain rfl:=KM.pJ h1
 exact⟨_,rfl⟩
theorem VU(cs:List UU.C)(h:KM (U:=UU) [.int .i64,.str,.int .i64,.int .i64,.str] cs):∃x,za cs=some x:=by
 obtain⟨c0,r0,rfl,⟨a0,rfl⟩,h0⟩:=KM.inv h
 obtain⟨c1,r1,rfl,⟨a1,rfl⟩,h1⟩:=KM.inv h0
 obtain⟨c2,r2,rfl,⟨a2,rfl⟩,h2⟩:=KM.inv h1
 obtain⟨c3,r3,rfl,⟨a3,rfl⟩,h3⟩:=KM.inv h2
 obtain⟨c4,r4,rfl,⟨a4,rfl⟩,h4⟩:=KM.inv h3
 obtain rfl:=KM.pJ h4
 exact⟨_,rfl⟩
theorem VR(cs:List UU.C)(h:KM (U:=UU) [.str,.sl .gM,.bool] cs):∃x,y9 cs=some x:=by
 obtain⟨c0,r0,rfl,⟨a0,rfl⟩,h0⟩:=KM.inv h
 obtain⟨c1,r1,rfl,⟨a1,rfl⟩,h1⟩:=KM.inv h0
 obtain⟨c2,r2,rfl,⟨a2,rfl⟩,h2⟩:=KM.inv h1
 obtain rfl:=KM.pJ h2
 exact⟨_,rfl⟩
theorem Se(cs:List UU.C)(h:KM (U:=UU) [.str,.int .i64,.int .i64,.str] cs):∃x,wq cs=some x:=by
 obtain⟨c0,r0,rfl,⟨a0,rfl⟩,h0⟩:=KM.inv h
 obtain⟨c1,r1,rfl,⟨a1,rfl⟩,h1⟩:=KM.inv h0
 obtain⟨c2,r2,rfl,⟨a2,rfl⟩,h2⟩:=KM.inv h1
 obtain⟨c3,r3,rfl,⟨a3,rfl⟩,h3⟩:=KM.inv h2
 obtain rfl:=KM.pJ h3
 exact⟨_,rfl⟩
theorem Sb(cs:List UU.C)(h:KM (U:=UU) [.int .i64,.int .i64,.str,.int .i64,.int .i64,.str,.int .i64,.str,.int .i64,.int .i64,.str] cs):∃x,wl cs=some x:=by
 obtain⟨c0,r0,rfl,⟨a0,rfl⟩,h0⟩:=KM.inv h
 obtain⟨c1,r1,rfl,⟨a1,rfl⟩,h1⟩:=KM.inv h0
 obtain⟨c2,r2,rfl,⟨a2,rfl⟩,h2⟩:=KM.inv h1
 obtain⟨c3,r3,rfl,⟨a3,rfl⟩,h3⟩:=KM.inv h2
 obtain⟨c4,r4,rfl,⟨a4,rfl⟩,h4⟩:=KM.inv h3
 obtain⟨c5,r5,rfl,⟨a5,rfl⟩,h5⟩:=KM.inv h4
 obtain⟨c6,r6,rfl,⟨a6,rfl⟩,h6⟩:=KM.inv h5
 obtain⟨c7,r7,rfl,⟨a7,rfl⟩,h7⟩:=KM.inv h6
 obtain⟨c8,r8,rfl,⟨a8,rfl⟩,h8⟩:=KM.inv h7
 obtain⟨c9,r9,rfl,⟨a9,rfl⟩,h9⟩:=KM.inv h8
 obtain⟨c10,r10,rfl,⟨a10,rfl⟩,tC⟩:=KM.inv h9
 obtain rfl:=KM.pJ tC
 exact⟨_,rfl⟩
theorem Sa(cs:List UU.C)(h:KM (U:=UU) [.str,.int .i64,.str,.int .i64,.int .i64,.str,.int .i64,.str,.int .i64,.int .i64,.str] cs):∃x,wk cs=some x:=by
 obtain⟨c0,r0,rfl,⟨a0,rfl⟩,h0⟩:=KM.inv h
 obtain⟨c1,r1,rfl,⟨a1,rfl⟩,h1⟩:=KM.inv h0
 obtain⟨c2,r2,rfl,⟨a2,rfl⟩,h2⟩:=KM.inv h1
 obtain⟨c3,r3,rfl,⟨a3,rfl⟩,h3⟩:=KM.inv h2
 obtain⟨c4,r4,rfl,⟨a4,rfl⟩,h4⟩:=KM.inv h3
 obtain⟨c5,r5,rfl,⟨a5,rfl⟩,h5⟩:=KM.inv h4
 obtain⟨c6,r6,rfl,⟨a6,rfl⟩,h6⟩:=KM.inv h5
 obtain⟨c7,r7,rfl,⟨a7,rfl⟩,h7⟩:=KM.inv h6
 obtain⟨c8,r8,rfl,⟨a8,rfl⟩,h8⟩:=KM.inv h7
 obtain⟨c9,r9,rfl,⟨a9,rfl⟩,h9⟩:=KM.inv h8
 obtain⟨c10,r10,rfl,⟨a10,rfl⟩,tC⟩:=KM.inv h9
 obtain rfl:=KM.pJ tC
 exact⟨_,rfl⟩
theorem VV(cs:List UU.C)(h:KM (U:=UU) [.int .i64,.str,.sl .bI,.int .i64,.str] cs):∃x,zb cs=some x:=by
 obtain⟨c0,r0,rfl,⟨a0,rfl⟩,h0⟩:=KM.inv h
 obtain⟨c1,r1,rfl,⟨a1,rfl⟩,h1⟩:=KM.inv h0
 obtain⟨c2,r2,rfl,⟨a2,rfl⟩,h2⟩:=KM.inv h1
 obtain⟨c3,r3,rfl,⟨a3,rfl⟩,h3⟩:=KM.inv h2
 obtain⟨c4,r4,rfl,⟨a4,rfl⟩,h4⟩:=KM.inv h3
 obtain rfl:=KM.pJ h4
 exact⟨_,rfl⟩
theorem R8(cs:List UU.C)(h:KM (U:=UU) [.str,.int .i64,.sl .dB,.sl .ca,.sl .dE] cs):∃x,we cs=some x:=by
 obtain⟨c0,r0,rfl,⟨a0,rfl⟩,h0⟩:=KM.inv h
 obtain⟨c1,r1,rfl,⟨a1,rfl⟩,h1⟩:=KM.inv h0
 obtain⟨c2,r2,rfl,⟨a2,rfl⟩,h2⟩:=KM.inv h1
 obtain⟨c3,r3,rfl,⟨a3,rfl⟩,h3⟩:=KM.inv h2
 obtain⟨c4,r4,rfl,⟨a4,rfl⟩,h4⟩:=KM.inv h3
 obtain rfl:=KM.pJ h4
 exact⟨_,rfl⟩
theorem VT(cs:List UU.C)(h:KM (U:=UU) [.str,.sl .bB] cs):∃x,y_ cs=some x:=by
 obtain⟨c0,r0,rfl,⟨a0,rfl⟩,h0⟩:=KM.inv h
 obtain⟨c1,r1,rfl,⟨a1,rfl⟩,h1⟩:=KM.inv h0
 obtain rfl:=KM.pJ h1
 exact⟨_,rfl⟩
theorem PS(cs:List UU.C)(h:KM (U:=UU) [.int .i64,.sl .int,.sl .cw] cs):∃x,tM cs=some x:=by
 obtain⟨c0,r0,rfl,⟨a0,rfl⟩,h0⟩:=KM.inv h
 obtain⟨c1,r1,rfl,⟨a1,rfl⟩,h1⟩:=KM.inv h0
 obtain⟨c2,r2,rfl,⟨a2,rfl⟩,h2⟩:=KM.inv h1
 obtain rfl:=KM.pJ h2
 exact⟨_,rfl⟩
theorem Nj(cs:List UU.C)(h:KM (U:=UU) [.int .i64,.str,.sl .bf,.int .i64,.int .i64,.str] cs):∃x,rm cs=some x:=by
 obtain⟨c0,r0,rfl,⟨a0,rfl⟩,h0⟩:=KM.inv h
 obtain⟨c1,r1,rfl,⟨a1,rfl⟩,h1⟩:=KM.inv h0
 obtain⟨c2,r2,rfl,⟨a2,rfl⟩,h2⟩:=KM.inv h1
 obtain⟨c3,r3,rfl,⟨a3,rfl⟩,h3⟩:=KM.inv h2
 obtain⟨c4,r4,rfl,⟨a4,rfl⟩,h4⟩:=KM.inv h3
 obtain⟨c5,r5,rfl,⟨a5,rfl⟩,h5⟩:=KM.inv h4
 obtain rfl:=KM.pJ h5
 exact⟨_,rfl⟩
theorem PQ(cs:List UU.C)(h:KM (U:=UU) [.int .i64,.str,.sl .bf] cs):∃x,tK cs=some x:=by
 obtain⟨c0,r0,rfl,⟨a0,rfl⟩,h0⟩:=KM.inv h
 obtain⟨c1,r1,rfl,⟨a1,rfl⟩,h1⟩:=KM.inv h0
 obtain⟨c2,r2,rfl,⟨a2,rfl⟩,h2⟩:=KM.inv h1
 obtain rfl:=KM.pJ h2
 exact⟨_,rfl⟩
theorem R7(cs:List UU.C)(h:KM (U:=UU) [.str,.sl .bf,.str,.int .i64,.int .i64,.int .i64,.int .i64,.int .i64,.str] cs):∃x,wc cs=some x:=by
 obtain⟨c0,r0,rfl,⟨a0,rfl⟩,h0⟩:=KM.inv h
 obtain⟨c1,r1,rfl,⟨a1,rfl⟩,h1⟩:=KM.inv h0
 obtain⟨c2,r2,rfl,⟨a2,rfl⟩,h2⟩:=KM.inv h1
 obtain⟨c3,r3,rfl,⟨a3,rfl⟩,h3⟩:=KM.inv h2
 obtain⟨c4,r4,rfl,⟨a4,rfl⟩,h4⟩:=KM.inv h3
 obtain⟨c5,r5,rfl,⟨a5,rfl⟩,h5⟩:=KM.inv h4
 obtain⟨c6,r6,rfl,⟨a6,rfl⟩,h6⟩:=KM.inv h5
 obtain⟨c7,r7,rfl,⟨a7,rfl⟩,h7⟩:=KM.inv h6
 obtain⟨c8,r8,rfl,⟨a8,rfl⟩,h8⟩:=KM.inv h7
 obtain rfl:=KM.pJ h8
 exact⟨_,rfl⟩
theorem Sc(cs:List UU.C)(h:KM (U:=UU) [.str,.str,.sl .bf,.int .i64] cs):∃x,wm cs=some x:=by
 obtain⟨c0,r0,rfl,⟨a0,rfl⟩,h0⟩:=KM.inv h
 obtain⟨c1,r1,rfl,⟨a1,rfl⟩,h1⟩:=KM.inv h0
 obtain⟨c2,r2,rfl,⟨a2,rfl⟩,h2⟩:=KM.inv h1
 obtain⟨c3,r3,rfl,⟨a3,rfl⟩,h3⟩:=KM.inv h2
 obtain rfl:=KM.pJ h3
 exact⟨_,rfl⟩
theorem R6(cs:List UU.C)(h:KM (U:=UU) [.str,.str,.sl .bf] cs):∃x,wb cs=some x:=by
 obtain⟨c0,r0,rfl,⟨a0,rfl⟩,h0⟩:=KM.inv h
 obtain⟨c1,r1,rfl,⟨a1,rfl⟩,h1⟩:=KM.inv h0
 obtain⟨c2,r2,rfl,⟨a2,rfl⟩,h2⟩:=KM.inv h1
 obtain rfl:=KM.pJ h2
 exact⟨_,rfl⟩
theorem R'(cs:List UU.C)(h:KM (U:=UU) [.sl .aJ,.int .i64,.sl .aB,.sl .az,.sl .aE,.sl .aQ,.int .i64,.int .i64] cs):∃x,wh cs=some x:=by
 obtain⟨c0,r0,rfl,⟨a0,rfl⟩,h0⟩:=KM.inv h
 obtain⟨c1,r1,rfl,⟨a1,rfl⟩,h1⟩:=KM.inv h0
 obtain⟨c2,r2,rfl,⟨a2,rfl⟩,h2⟩:=KM.inv h1
 obtain⟨c3,r3,rfl,⟨a3,rfl⟩,h3⟩:=KM.inv h2
 obtain⟨c4,r4,rfl,⟨a4,rfl⟩,h4⟩:=KM.inv h3
 obtain⟨c5,r5,rfl,⟨a5,rfl⟩,h5⟩:=KM.inv h4
 obtain⟨c6,r6,rfl,⟨a6,rfl⟩,h6⟩:=KM.inv h5
 obtain⟨c7,r7,rfl,⟨a7,rfl⟩,h7⟩:=KM.inv h6
 obtain rfl:=KM.pJ h7
 exact⟨_,rfl⟩
theorem R5(cs:List UU.C)(h:KM (U:=UU) [.str,.str,.sl .aJ,.int .i64,.sl .aB,.sl .az,.sl .aE,.sl .aQ,.int .i64,.int .i64] cs):∃x,wa cs=some x:=by
 obtain⟨c0,r0,rfl,⟨a0,rfl⟩,h0⟩:=KM.inv h
 obtain⟨c1,r1,rfl,⟨a1,rfl⟩,h1⟩:=KM.inv h0
 obtain⟨c2,r2,rfl,⟨a2,rfl⟩,h2⟩:=KM.inv h1
 obtain⟨c3,r3,rfl,⟨a3,rfl⟩,h3⟩:=KM.inv h2
 obtain⟨c4,r4,rfl,⟨a4,rfl⟩,h4⟩:=KM.inv h3
 obtain⟨c5,r5,rfl,⟨a5,rfl⟩,h5⟩:=KM.inv h4
 obtain⟨c6,r6,rfl,⟨a6,rfl⟩,h6⟩:=KM.inv h5
 obtain⟨c7,r7,rfl,⟨a7,rfl⟩,h7⟩:=KM.inv h6
 obtain⟨c8,r8,rfl,⟨a8,rfl⟩,h8⟩:=KM.inv h7
 obtain⟨c9,r9,rfl,⟨a9,rfl⟩,h9⟩:=KM.inv h8
 obtain rfl:=KM.pJ h9
 exact⟨_,rfl⟩
theorem Sd(cs:List UU.C)(h:KM (U:=UU) [.sl .h_,.sl .lm,.int .i64,.int .i64] cs):∃x,wo cs=some x:=by
 obtain⟨c0,r0,rfl,⟨a0,rfl⟩,h0⟩:=KM.inv h
 obtain⟨c1,r1,rfl,⟨a1,rfl⟩,h1⟩:=KM.inv h0
 obtain⟨c2,r2,rfl,⟨a2,rfl⟩,h2⟩:=KM.inv h1
 obtain⟨c3,r3,rfl,⟨a3,rfl⟩,h3⟩:=KM.inv h2
 obtain rfl:=KM.pJ h3
 exact⟨_,rfl⟩
theorem PP(τ:Cd)(cs:List UU.C)(h:KM (Cd.kinds τ) cs):∃x,UU.dec τ cs=some x:=by
 cases τ
 case int=>exact aaS cs h
 case byte=>exact VW cs h
 case str=>exact aaR cs h
 case bf=>exact VQ cs h
 case db=>exact R_ cs h
 case aJ=>exact R9 cs h
 case cQ=>exact PR cs h
 case gM=>exact VU cs h
 case dB=>exact VR cs h
 case cw=>exact Se cs h
 case ca=>exact Sb cs h
 case bI=>exact Sa cs h
 case dE=>exact VV cs h
 case bB=>exact R8 cs h
 case h_=>exact VT cs h
 case aB=>exact PS cs h
 case eD=>exact Nj cs h
 case aE=>exact PQ cs h
 case az=>exact R7 cs h
 case dw=>exact Sc cs h
 case aQ=>exact R6 cs h
 case cp=>exact R' cs h
 case lm=>exact R5 cs h
 case oN=>exact Sd cs h
end
end AM
