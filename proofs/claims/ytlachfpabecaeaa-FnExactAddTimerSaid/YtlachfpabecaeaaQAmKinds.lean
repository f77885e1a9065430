/- The kinds of the data types' cells: written by gen/types.py. -/
import Derived.Test.YtlachfpabecaeaaQAmTypes
import Derived.Test.YtlachfpabecaeaaQAmLaw
namespace AM
open Go
noncomputable section
def Cd.kinds:Cd->List (K1 UU)
 | .int=>[.int .i64]
 | .byte=>[.int .u8]
 | .str=>[.str]
 | .aE=>[.int .i64,.int .i64,.str]
 | .cm=>[.int .i64,.int .i64,.str]
 | .br=>[.str,.sl .aE]
 | .dl=>[.str,.sl .cm]
 | .af=>[.int .i64,.str,.sl .aE]
 | .aU=>[.int .i64,.str,.sl .cm]
 | .jc=>[.str,.sl .aE,.str,.int .i64,.int .i64,.int .i64,.int .i64,.int .i64,.str]
 | .iY=>[.str,.sl .cm,.str,.int .i64,.int .i64,.int .i64,.int .i64,.int .i64,.str]
 | .jb=>[.str,.str,.sl .aE]
 | .iX=>[.str,.str,.sl .cm]
theorem zm(cs:List UU.C)(h:KM (U:=UU) [.int .i64] cs):∃x,lG cs=some x:=by
 obtain⟨c0,r0,rfl,⟨a0,rfl⟩,h0⟩:=KM.inv h
 obtain rfl:=KM.ky h0
 exact⟨_,rfl⟩
theorem wH(cs:List UU.C)(h:KM (U:=UU) [.int .u8] cs):∃x,j0 cs=some x:=by
 obtain⟨c0,r0,rfl,⟨a0,rfl⟩,h0⟩:=KM.inv h
 obtain rfl:=KM.ky h0
 exact⟨_,rfl⟩
theorem zl(cs:List UU.C)(h:KM (U:=UU) [.str] cs):∃x,lE cs=some x:=by
 obtain⟨c0,r0,rfl,⟨a0,rfl⟩,h0⟩:=KM.inv h
 obtain rfl:=KM.ky h0
 exact⟨_,rfl⟩
theorem wG(cs:List UU.C)(h:KM (U:=UU) [.int .i64,.int .i64,.str] cs):∃x,jZ cs=some x:=by
 obtain⟨c0,r0,rfl,⟨a0,rfl⟩,h0⟩:=KM.inv h
 obtain⟨c1,r1,rfl,⟨a1,rfl⟩,h1⟩:=KM.inv h0
 obtain⟨c2,r2,rfl,⟨a2,rfl⟩,h2⟩:=KM.inv h1
 obtain rfl:=KM.ky h2
 exact⟨_,rfl⟩
theorem wF(cs:List UU.C)(h:KM (U:=UU) [.int .i64,.int .i64,.str] cs):∃x,jY cs=some x:=by
 obtain⟨c0,r0,rfl,⟨a0,rfl⟩,h0⟩:=KM.inv h
 obtain⟨c1,r1,rfl,⟨a1,rfl⟩,h1⟩:=KM.inv h0
 obtain⟨c2,r2,rfl,⟨a2,rfl⟩,h2⟩:=KM.inv h1
 obtain rfl:=KM.ky h2
 exact⟨_,rfl⟩
theorem ud(cs:List UU.C)(h:KM (U:=UU) [.str,.sl .aE] cs):∃x,iO cs=some x:=by
 obtain⟨c0,r0,rfl,⟨a0,rfl⟩,h0⟩:=KM.inv h
 obtain⟨c1,r1,rfl,⟨a1,rfl⟩,h1⟩:=KM.inv h0
 obtain rfl:=KM.ky h1
 exact⟨_,rfl⟩
theorem ua(cs:List UU.C)(h:KM (U:=UU) [.str,.sl .cm] cs):∃x,iL cs=some x:=by
 obtain⟨c0,r0,rfl,⟨a0,rfl⟩,h0⟩:=KM.inv h
 obtain⟨c1,r1,rfl,⟨a1,rfl⟩,h1⟩:=KM.inv h0
 obtain rfl:=KM.ky h1
 exact⟨_,rfl⟩
theorem sA(cs:List UU.C)(h:KM (U:=UU) [.int .i64,.str,.sl .aE] cs):∃x,gJ cs=some x:=by
 obtain⟨c0,r0,rfl,⟨a0,rfl⟩,h0⟩:=KM.inv h
 obtain⟨c1,r1,rfl,⟨a1,rfl⟩,h1⟩:=KM.inv h0
 obtain⟨c2,r2,rfl,⟨a2,rfl⟩,h2⟩:=KM.inv h1
 obtain rfl:=KM.ky h2
 exact⟨_,rfl⟩
theorem sz(cs:List UU.C)(h:KM (U:=UU) [.int .i64,.str,.sl .cm] cs):∃x,gI cs=some x:=by
 obtain⟨c0,r0,rfl,⟨a0,rfl⟩,h0⟩:=KM.inv h
 obtain⟨c1,r1,rfl,⟨a1,rfl⟩,h1⟩:=KM.inv h0
 obtain⟨c2,r2,rfl,⟨a2,rfl⟩,h2⟩:=KM.inv h1
 obtain rfl:=KM.ky h2
 exact⟨_,rfl⟩
theorem uc(cs:List UU.C)(h:KM (U:=UU) [.str,.sl .aE,.str,.int .i64,.int .i64,.int .i64,.int .i64,.int .i64,.str] cs):∃x,iN cs=some x:=by
 obtain⟨c0,r0,rfl,⟨a0,rfl⟩,h0⟩:=KM.inv h
 obtain⟨c1,r1,rfl,⟨a1,rfl⟩,h1⟩:=KM.inv h0
 obtain⟨c2,r2,rfl,⟨a2,rfl⟩,h2⟩:=KM.inv h1
 obtain⟨c3,r3,rfl,⟨a3,rfl⟩,h3⟩:=KM.inv h2
 obtain⟨c4,r4,rfl,⟨a4,rfl⟩,h4⟩:=KM.inv h3
 obtain⟨c5,r5,rfl,⟨a5,rfl⟩,h5⟩:=KM.inv h4
 obtain⟨c6,r6,rfl,⟨a6,rfl⟩,h6⟩:=KM.inv h5
 obtain⟨c7,r7,rfl,⟨a7,rfl⟩,h7⟩:=KM.inv h6
 obtain⟨c8,r8,rfl,⟨a8,rfl⟩,h8⟩:=KM.inv h7
 obtain rfl:=KM.ky h8
 exact⟨_,rfl⟩
theorem t_(cs:List UU.C)(h:KM (U:=UU) [.str,.sl .cm,.str,.int .i64,.int .i64,.int .i64,.int .i64,.int .i64,.str] cs):∃x,iK cs=some x:=by
 obtain⟨c0,r0,rfl,⟨a0,rfl⟩,h0⟩:=KM.inv h
 obtain⟨c1,r1,rfl,⟨a1,rfl⟩,h1⟩:=KM.inv h0
 obtain⟨c2,r2,rfl,⟨a2,rfl⟩,h2⟩:=KM.inv h1
 obtain⟨c3,r3,rfl,⟨a3,rfl⟩,h3⟩:=KM.inv h2
 obtain⟨c4,r4,rfl,⟨a4,rfl⟩,h4⟩:=KM.inv h3
 obtain⟨c5,r5,rfl,⟨a5,rfl⟩,h5⟩:=KM.inv h4
 obtain⟨c6,r6,rfl,⟨a6,rfl⟩,h6⟩:=KM.inv h5
 obtain⟨c7,r7,rfl,⟨a7,rfl⟩,h7⟩:=KM.inv h6
 obtain⟨c8,r8,rfl,⟨a8,rfl⟩,h8⟩:=KM.inv h7
 obtain rfl:=KM.ky h8
 exact⟨_,rfl⟩
theorem ub(cs:List UU.C)(h:KM (U:=UU) [.str,.str,.sl .aE] cs):∃x,iM cs=some x:=by
 obtain⟨c0,r0,rfl,⟨a0,rfl⟩,h0⟩:=KM.inv h
 obtain⟨c1,r1,rfl,⟨a1,rfl⟩,h1⟩:=KM.inv h0
 obtain⟨c2,r2,rfl,⟨a2,rfl⟩,h2⟩:=KM.inv h1
 obtain rfl:=KM.ky h2
 exact⟨_,rfl⟩
theorem tZ(cs:List UU.C)(h:KM (U:=UU) [.str,.str,.sl .cm] cs):∃x,iJ cs=some x:=by
 obtain⟨c0,r0,rfl,⟨a0,rfl⟩,h0⟩:=KM.inv h
 obtain⟨c1,r1,rfl,⟨a1,rfl⟩,h1⟩:=KM.inv h0
 obtain⟨c2,r2,rfl,⟨a2,rfl⟩,h2⟩:=KM.inv h1
 obtain rfl:=KM.ky h2
 exact⟨_,rfl⟩
theorem sw(τ:Cd)(cs:List UU.C)(h:KM (Cd.kinds τ) cs):∃x,UU.dec τ cs=some x:=by
 cases τ
 case int=>exact zm cs h
 case byte=>exact wH cs h
 case str=>exact zl cs h
 case aE=>exact wG cs h
 case cm=>exact wF cs h
 case br=>exact ud cs h
 case dl=>exact ua cs h
 case af=>exact sA cs h
 case aU=>exact sz cs h
 case jc=>exact uc cs h
 case iY=>exact t_ cs h
 case jb=>exact ub cs h
 case iX=>exact tZ cs h
end
end AM
