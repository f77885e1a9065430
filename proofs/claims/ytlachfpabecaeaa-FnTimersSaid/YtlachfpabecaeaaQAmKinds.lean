/- The kinds of the data types' cells: written by gen/types.py. -/
import Derived.Test.YtlachfpabecaeaaQAmTypes
import Derived.Test.YtlachfpabecaeaaQAmLaw
namespace AM
open Go
noncomputable section
def Cd.kinds:Cd->List (K1 UU)
 | .int=>[.int .i64]
 | .byte=>[.int .u8]
 | .str=>[.str]
 | .aH=>[.int .i64,.int .i64,.str]
 | .ej=>[.int .i64,.int .i64,.str]
 | .cN=>[.str,.sl .aH]
 | .ga=>[.str,.sl .ej]
 | .aj=>[.int .i64,.str,.sl .aH]
 | .et=>[.int .i64,.str,.sl .ej]
 | .jE=>[.str,.sl .aH,.str,.int .i64,.int .i64,.int .i64,.int .i64,.int .i64,.str]
 | .jz=>[.str,.sl .ej,.str,.int .i64,.int .i64,.int .i64,.int .i64,.int .i64,.str]
 | .jD=>[.str,.str,.sl .aH]
 | .jy=>[.str,.str,.sl .ej]
theorem Ay(cs:List UU.C)(h:KM (U:=UU) [.int .i64] cs):∃x,mB cs=some x:=by
 obtain⟨c0,r0,rfl,⟨a0,rfl⟩,h0⟩:=KM.inv h
 obtain rfl:=KM.lf h0
 exact⟨_,rfl⟩
theorem xM(cs:List UU.C)(h:KM (U:=UU) [.int .u8] cs):∃x,kH cs=some x:=by
 obtain⟨c0,r0,rfl,⟨a0,rfl⟩,h0⟩:=KM.inv h
 obtain rfl:=KM.lf h0
 exact⟨_,rfl⟩
theorem Ax(cs:List UU.C)(h:KM (U:=UU) [.str] cs):∃x,mA cs=some x:=by
 obtain⟨c0,r0,rfl,⟨a0,rfl⟩,h0⟩:=KM.inv h
 obtain rfl:=KM.lf h0
 exact⟨_,rfl⟩
theorem xL(cs:List UU.C)(h:KM (U:=UU) [.int .i64,.int .i64,.str] cs):∃x,kG cs=some x:=by
 obtain⟨c0,r0,rfl,⟨a0,rfl⟩,h0⟩:=KM.inv h
 obtain⟨c1,r1,rfl,⟨a1,rfl⟩,h1⟩:=KM.inv h0
 obtain⟨c2,r2,rfl,⟨a2,rfl⟩,h2⟩:=KM.inv h1
 obtain rfl:=KM.lf h2
 exact⟨_,rfl⟩
theorem xK(cs:List UU.C)(h:KM (U:=UU) [.int .i64,.int .i64,.str] cs):∃x,kF cs=some x:=by
 obtain⟨c0,r0,rfl,⟨a0,rfl⟩,h0⟩:=KM.inv h
 obtain⟨c1,r1,rfl,⟨a1,rfl⟩,h1⟩:=KM.inv h0
 obtain⟨c2,r2,rfl,⟨a2,rfl⟩,h2⟩:=KM.inv h1
 obtain rfl:=KM.lf h2
 exact⟨_,rfl⟩
theorem vm(cs:List UU.C)(h:KM (U:=UU) [.str,.sl .aH] cs):∃x,jn cs=some x:=by
 obtain⟨c0,r0,rfl,⟨a0,rfl⟩,h0⟩:=KM.inv h
 obtain⟨c1,r1,rfl,⟨a1,rfl⟩,h1⟩:=KM.inv h0
 obtain rfl:=KM.lf h1
 exact⟨_,rfl⟩
theorem vj(cs:List UU.C)(h:KM (U:=UU) [.str,.sl .ej] cs):∃x,jk cs=some x:=by
 obtain⟨c0,r0,rfl,⟨a0,rfl⟩,h0⟩:=KM.inv h
 obtain⟨c1,r1,rfl,⟨a1,rfl⟩,h1⟩:=KM.inv h0
 obtain rfl:=KM.lf h1
 exact⟨_,rfl⟩
theorem tH(cs:List UU.C)(h:KM (U:=UU) [.int .i64,.str,.sl .aH] cs):∃x,hZ cs=some x:=by
 obtain⟨c0,r0,rfl,⟨a0,rfl⟩,h0⟩:=KM.inv h
 obtain⟨c1,r1,rfl,⟨a1,rfl⟩,h1⟩:=KM.inv h0
 obtain⟨c2,r2,rfl,⟨a2,rfl⟩,h2⟩:=KM.inv h1
 obtain rfl:=KM.lf h2
 exact⟨_,rfl⟩
theorem tG(cs:List UU.C)(h:KM (U:=UU) [.int .i64,.str,.sl .ej] cs):∃x,hY cs=some x:=by
 obtain⟨c0,r0,rfl,⟨a0,rfl⟩,h0⟩:=KM.inv h
 obtain⟨c1,r1,rfl,⟨a1,rfl⟩,h1⟩:=KM.inv h0
 obtain⟨c2,r2,rfl,⟨a2,rfl⟩,h2⟩:=KM.inv h1
 obtain rfl:=KM.lf h2
 exact⟨_,rfl⟩
theorem vl(cs:List UU.C)(h:KM (U:=UU) [.str,.sl .aH,.str,.int .i64,.int .i64,.int .i64,.int .i64,.int .i64,.str] cs):∃x,jm cs=some x:=by
 obtain⟨c0,r0,rfl,⟨a0,rfl⟩,h0⟩:=KM.inv h
 obtain⟨c1,r1,rfl,⟨a1,rfl⟩,h1⟩:=KM.inv h0
 obtain⟨c2,r2,rfl,⟨a2,rfl⟩,h2⟩:=KM.inv h1
 obtain⟨c3,r3,rfl,⟨a3,rfl⟩,h3⟩:=KM.inv h2
 obtain⟨c4,r4,rfl,⟨a4,rfl⟩,h4⟩:=KM.inv h3
 obtain⟨c5,r5,rfl,⟨a5,rfl⟩,h5⟩:=KM.inv h4
 obtain⟨c6,r6,rfl,⟨a6,rfl⟩,h6⟩:=KM.inv h5
 obtain⟨c7,r7,rfl,⟨a7,rfl⟩,h7⟩:=KM.inv h6
 obtain⟨c8,r8,rfl,⟨a8,rfl⟩,h8⟩:=KM.inv h7
 obtain rfl:=KM.lf h8
 exact⟨_,rfl⟩
theorem vi(cs:List UU.C)(h:KM (U:=UU) [.str,.sl .ej,.str,.int .i64,.int .i64,.int .i64,.int .i64,.int .i64,.str] cs):∃x,jj cs=some x:=by
 obtain⟨c0,r0,rfl,⟨a0,rfl⟩,h0⟩:=KM.inv h
 obtain⟨c1,r1,rfl,⟨a1,rfl⟩,h1⟩:=KM.inv h0
 obtain⟨c2,r2,rfl,⟨a2,rfl⟩,h2⟩:=KM.inv h1
 obtain⟨c3,r3,rfl,⟨a3,rfl⟩,h3⟩:=KM.inv h2
 obtain⟨c4,r4,rfl,⟨a4,rfl⟩,h4⟩:=KM.inv h3
 obtain⟨c5,r5,rfl,⟨a5,rfl⟩,h5⟩:=KM.inv h4
 obtain⟨c6,r6,rfl,⟨a6,rfl⟩,h6⟩:=KM.inv h5
 obtain⟨c7,r7,rfl,⟨a7,rfl⟩,h7⟩:=KM.inv h6
 obtain⟨c8,r8,rfl,⟨a8,rfl⟩,h8⟩:=KM.inv h7
 obtain rfl:=KM.lf h8
 exact⟨_,rfl⟩
theorem vk(cs:List UU.C)(h:KM (U:=UU) [.str,.str,.sl .aH] cs):∃x,jl cs=some x:=by
 obtain⟨c0,r0,rfl,⟨a0,rfl⟩,h0⟩:=KM.inv h
 obtain⟨c1,r1,rfl,⟨a1,rfl⟩,h1⟩:=KM.inv h0
 obtain⟨c2,r2,rfl,⟨a2,rfl⟩,h2⟩:=KM.inv h1
 obtain rfl:=KM.lf h2
 exact⟨_,rfl⟩
theorem vh(cs:List UU.C)(h:KM (U:=UU) [.str,.str,.sl .ej] cs):∃x,ji cs=some x:=by
 obtain⟨c0,r0,rfl,⟨a0,rfl⟩,h0⟩:=KM.inv h
 obtain⟨c1,r1,rfl,⟨a1,rfl⟩,h1⟩:=KM.inv h0
 obtain⟨c2,r2,rfl,⟨a2,rfl⟩,h2⟩:=KM.inv h1
 obtain rfl:=KM.lf h2
 exact⟨_,rfl⟩
theorem tF(τ:Cd)(cs:List UU.C)(h:KM (Cd.kinds τ) cs):∃x,UU.dec τ cs=some x:=by
 cases τ
 case int=>exact Ay cs h
 case byte=>exact xM cs h
 case str=>exact Ax cs h
 case aH=>exact xL cs h
 case ej=>exact xK cs h
 case cN=>exact vm cs h
 case ga=>exact vj cs h
 case aj=>exact tH cs h
 case et=>exact tG cs h
 case jE=>exact vl cs h
 case jz=>exact vi cs h
 case jD=>exact vk cs h
 case jy=>exact vh cs h
end
end AM
