/- THE DATA TYPES OF THE PROGRAM: written by gen/types.py. A code with an l ahead is the mirror type of the package laws. -/
import Derived.Test.YtlachfpabecaeaaQAmCore
namespace AM
open Go
noncomputable section
structure aI where
 K:Int
 N:Int
 S:ByteArray
structure bc where
 Kind:ByteArray
 ak:List aI
structure ae where
 At:Int
 F:bc
structure jf where
 F:bc
 FP:ByteArray
 State:Int
 ya:Int
 O5:Int
 V:aI
structure je where
 Key:ByteArray
 F:bc
inductive Cd where
 |int|byte|str|aE|cm|br|dl|af|aU|jc|iY|jb|iX
 deriving DecidableEq
noncomputable def Cd.T:Cd->Type
 | .int=>Int
 | .byte=>Int
 | .str=>ByteArray
 | .aE=>aI
 | .cm=>aI
 | .br=>bc
 | .dl=>bc
 | .af=>ae
 | .aU=>ae
 | .jc=>jf
 | .iY=>jf
 | .jb=>je
 | .iX=>je
abbrev CC:=Cell Cd Cd.T
noncomputable def dx:ByteArray:=ByteArray.empty
noncomputable def Cd.wd:Cd->Nat
 | .int=>1
 | .byte=>1
 | .str=>1
 | .aE=>3
 | .cm=>3
 | .br=>2
 | .dl=>2
 | .af=>3
 | .aU=>3
 | .jc=>9
 | .iY=>9
 | .jb=>3
 | .iX=>3
noncomputable def lD(x:Int):List CC:=[.lit (.int .i64 x)]
noncomputable def lG(cs:List CC):Option (Int):=match cs with
 |[.lit (.int .i64 a0)]=>some a0
 |_=>none
theorem ok_int(cs:List CC)(x:Int)(h:lG cs=some x):lD x=cs:=by
 unfold lG at h;split at h<;>cases h;rfl
noncomputable def jX(x:Int):List CC:=[.lit (.int .u8 x)]
noncomputable def j0(cs:List CC):Option (Int):=match cs with
 |[.lit (.int .u8 a0)]=>some a0
 |_=>none
theorem wB(cs:List CC)(x:Int)(h:j0 cs=some x):jX x=cs:=by
 unfold j0 at h;split at h<;>cases h;rfl
noncomputable def lB(x:ByteArray):List CC:=[.lit (.string x)]
noncomputable def lE(cs:List CC):Option (ByteArray):=match cs with
 |[.lit (.string a0)]=>some a0
 |_=>none
theorem zg(cs:List CC)(x:ByteArray)(h:lE cs=some x):lB x=cs:=by
 unfold lE at h;split at h<;>cases h;rfl
noncomputable def jW(x:aI):List CC:=[.lit (.int .i64 x.K),.lit (.int .i64 x.N),.lit (.string x.S)]
noncomputable def jZ(cs:List CC):Option (aI):=match cs with
 |[.lit (.int .i64 a0),.lit (.int .i64 a1),.lit (.string a2)]=>some ⟨a0,a1,a2⟩
 |_=>none
theorem wA(cs:List CC)(x:aI)(h:jZ cs=some x):jW x=cs:=by
 unfold jZ at h;split at h<;>cases h;rfl
noncomputable def jV(x:aI):List CC:=[.lit (.int .i64 x.K),.lit (.int .i64 x.N),.lit (.string x.S)]
noncomputable def jY(cs:List CC):Option (aI):=match cs with
 |[.lit (.int .i64 a0),.lit (.int .i64 a1),.lit (.string a2)]=>some ⟨a0,a1,a2⟩
 |_=>none
theorem wz(cs:List CC)(x:aI)(h:jY cs=some x):jV x=cs:=by
 unfold jY at h;split at h<;>cases h;rfl
noncomputable def nF(x:bc):List CC:=[.lit (.string x.Kind),.sl .aE x.ak]
noncomputable def iO(cs:List CC):Option (bc):=match cs with
 |[.lit (.string a0),.sl .aE a1]=>some ⟨a0,a1⟩
 |_=>none
theorem tS(cs:List CC)(x:bc)(h:iO cs=some x):nF x=cs:=by
 unfold iO at h;split at h<;>cases h;rfl
noncomputable def nC(x:bc):List CC:=[.lit (.string x.Kind),.sl .cm x.ak]
noncomputable def iL(cs:List CC):Option (bc):=match cs with
 |[.lit (.string a0),.sl .cm a1]=>some ⟨a0,a1⟩
 |_=>none
theorem tP(cs:List CC)(x:bc)(h:iL cs=some x):nC x=cs:=by
 unfold iL at h;split at h<;>cases h;rfl
noncomputable def mC(x:ae):List CC:=[.lit (.int .i64 x.At),.lit (.string x.F.Kind),.sl .aE x.F.ak]
noncomputable def gJ(cs:List CC):Option (ae):=match cs with
 |[.lit (.int .i64 a0),.lit (.string a1),.sl .aE a2]=>some ⟨a0,⟨a1,a2⟩⟩
 |_=>none
theorem sn(cs:List CC)(x:ae)(h:gJ cs=some x):mC x=cs:=by
 unfold gJ at h;split at h<;>cases h;rfl
noncomputable def mB(x:ae):List CC:=[.lit (.int .i64 x.At),.lit (.string x.F.Kind),.sl .cm x.F.ak]
noncomputable def gI(cs:List CC):Option (ae):=match cs with
 |[.lit (.int .i64 a0),.lit (.string a1),.sl .cm a2]=>some ⟨a0,⟨a1,a2⟩⟩
 |_=>none
theorem sk(cs:List CC)(x:ae)(h:gI cs=some x):mB x=cs:=by
 unfold gI at h;split at h<;>cases h;rfl
noncomputable def nE(x:jf):List CC:=[.lit (.string x.F.Kind),.sl .aE x.F.ak,.lit (.string x.FP),.lit (.int .i64 x.State),.lit (.int .i64 x.ya),.lit (.int .i64 x.O5),.lit (.int .i64 x.V.K),.lit (.int .i64 x.V.N),.lit (.string x.V.S)]
noncomputable def iN(cs:List CC):Option (jf):=match cs with
 |[.lit (.string a0),.sl .aE a1,.lit (.string a2),.lit (.int .i64 a3),.lit (.int .i64 a4),.lit (.int .i64 a5),.lit (.int .i64 a6),.lit (.int .i64 a7),.lit (.string a8)]=>some ⟨⟨a0,a1⟩,a2,a3,a4,a5,⟨a6,a7,a8⟩⟩
 |_=>none
theorem tR(cs:List CC)(x:jf)(h:iN cs=some x):nE x=cs:=by
 unfold iN at h;split at h<;>cases h;rfl
noncomputable def nB(x:jf):List CC:=[.lit (.string x.F.Kind),.sl .cm x.F.ak,.lit (.string x.FP),.lit (.int .i64 x.State),.lit (.int .i64 x.ya),.lit (.int .i64 x.O5),.lit (.int .i64 x.V.K),.lit (.int .i64 x.V.N),.lit (.string x.V.S)]
noncomputable def iK(cs:List CC):Option (jf):=match cs with
 |[.lit (.string a0),.sl .cm a1,.lit (.string a2),.lit (.int .i64 a3),.lit (.int .i64 a4),.lit (.int .i64 a5),.lit (.int .i64 a6),.lit (.int .i64 a7),.lit (.string a8)]=>some ⟨⟨a0,a1⟩,a2,a3,a4,a5,⟨a6,a7,a8⟩⟩
 |_=>none
theorem tO(cs:List CC)(x:jf)(h:iK cs=some x):nB x=cs:=by
 unfold iK at h;split at h<;>cases h;rfl
noncomputable def nD(x:je):List CC:=[.lit (.string x.Key),.lit (.string x.F.Kind),.sl .aE x.F.ak]
noncomputable def iM(cs:List CC):Option (je):=match cs with
 |[.lit (.string a0),.lit (.string a1),.sl .aE a2]=>some ⟨a0,⟨a1,a2⟩⟩
 |_=>none
theorem tQ(cs:List CC)(x:je)(h:iM cs=some x):nD x=cs:=by
 unfold iM at h;split at h<;>cases h;rfl
noncomputable def nA(x:je):List CC:=[.lit (.string x.Key),.lit (.string x.F.Kind),.sl .cm x.F.ak]
noncomputable def iJ(cs:List CC):Option (je):=match cs with
 |[.lit (.string a0),.lit (.string a1),.sl .cm a2]=>some ⟨a0,⟨a1,a2⟩⟩
 |_=>none
theorem tN(cs:List CC)(x:je)(h:iJ cs=some x):nA x=cs:=by
 unfold iJ at h;split at h<;>cases h;rfl
noncomputable def Cd.enc:(τ:Cd)->τ.T->List CC
 | .int,x=>lD x
 | .byte,x=>jX x
 | .str,x=>lB x
 | .aE,x=>jW x
 | .cm,x=>jV x
 | .br,x=>nF x
 | .dl,x=>nC x
 | .af,x=>mC x
 | .aU,x=>mB x
 | .jc,x=>nE x
 | .iY,x=>nB x
 | .jb,x=>nD x
 | .iX,x=>nA x
noncomputable def Cd.dec:(τ:Cd)->List CC->Option τ.T
 | .int,cs=>lG cs
 | .byte,cs=>j0 cs
 | .str,cs=>lE cs
 | .aE,cs=>jZ cs
 | .cm,cs=>jY cs
 | .br,cs=>iO cs
 | .dl,cs=>iL cs
 | .af,cs=>gJ cs
 | .aU,cs=>gI cs
 | .jc,cs=>iN cs
 | .iY,cs=>iK cs
 | .jb,cs=>iM cs
 | .iX,cs=>iJ cs
noncomputable def gU:aI:=⟨0,0,dx⟩
noncomputable def xo:bc:=⟨dx,[]⟩
noncomputable def aH:ae:=⟨0,⟨dx,[]⟩⟩
noncomputable def xn:jf:=⟨⟨dx,[]⟩,dx,0,0,0,⟨0,0,dx⟩⟩
noncomputable def xm:je:=⟨dx,⟨dx,[]⟩⟩
noncomputable def Cd.bn:(τ:Cd)->τ.T
 | .int=>(0:Int)
 | .byte=>(0:Int)
 | .str=>(dx:ByteArray)
 | .aE=>gU
 | .cm=>gU
 | .br=>xo
 | .dl=>xo
 | .af=>aH
 | .aU=>aH
 | .jc=>xn
 | .iY=>xn
 | .jb=>xm
 | .iX=>xm
noncomputable def Cd.flat:Cd->Bool
 | .int=>true
 | .byte=>true
 | .str=>true
 | .aE=>true
 | .cm=>true
 | .br=>false
 | .dl=>false
 | .af=>false
 | .aU=>false
 | .jc=>false
 | .iY=>false
 | .jb=>false
 | .iX=>false
theorem AD(x:Int)(c:CC)(h:c∈lD x):∃v,c=.lit v:=by
 simp only[lD,dQ,vt,or_false] at h
 rcases h with rfl<;>exact⟨_,rfl⟩
theorem w9(x:Int)(c:CC)(h:c∈jX x):∃v,c=.lit v:=by
 simp only[jX,dQ,vt,or_false] at h
 rcases h with rfl<;>exact⟨_,rfl⟩
theorem AB(x:ByteArray)(c:CC)(h:c∈lB x):∃v,c=.lit v:=by
 simp only[lB,dQ,vt,or_false] at h
 rcases h with rfl<;>exact⟨_,rfl⟩
theorem w8(x:aI)(c:CC)(h:c∈jW x):∃v,c=.lit v:=by
 simp only[jW,dQ,vt,or_false] at h
 rcases h with rfl|rfl|rfl<;>exact⟨_,rfl⟩
theorem w7(x:aI)(c:CC)(h:c∈jV x):∃v,c=.lit v:=by
 simp only[jV,dQ,vt,or_false] at h
 rcases h with rfl|rfl|rfl<;>exact⟨_,rfl⟩
noncomputable abbrev UU:dh where
 Ty:=Cd
 T:=Cd.T
 Lj:=inferInstance
 wd:=Cd.wd
 enc:=Cd.enc
 dec:=Cd.dec
 bn:=Cd.bn
 flat:=Cd.flat
 rO:=by
  intro τ h x c hc
  cases τ
  case int=>exact AD x c hc
  case byte=>exact w9 x c hc
  case str=>exact AB x c hc
  case aE=>exact w8 x c hc
  case cm=>exact w7 x c hc
  case br=>cases h
  case dl=>cases h
  case af=>cases h
  case aU=>cases h
  case jc=>cases h
  case iY=>cases h
  case jb=>cases h
  case iX=>cases h
 eM:=.byte
 xp:=fun x=>x
 Gf:=fun x=>x
 rl:=fun _=>rfl
 nG:=fun _=>rfl
 c_:=by intro τ;cases τ<;>decide
 aM:=by intro τ x;cases τ<;>rfl
 dB:=by
  intro τ cs x h
  cases τ
  case int=>exact ok_int cs x h
  case byte=>exact wB cs x h
  case str=>exact zg cs x h
  case aE=>exact wA cs x h
  case cm=>exact wz cs x h
  case br=>exact tS cs x h
  case dl=>exact tP cs x h
  case af=>exact sn cs x h
  case aU=>exact sk cs x h
  case jc=>exact tR cs x h
  case iY=>exact tO cs x h
  case jb=>exact tQ cs x h
  case iX=>exact tN cs x h
abbrev pw(l:List (DV UU)):List (DV UU):=l
def Lf(a b:List (DV UU)):Prop:=a=b/\pw []=pw []
theorem Oe{a b:List (DV UU)}:Lf a b↔a=b:=⟨fun h=>h.1,fun h=>⟨h,rfl⟩⟩
end
end AM
