/- THE DATA TYPES OF THE PROGRAM: written by gen/types.py. A code with an l ahead is the mirror type of the package laws. -/
import Derived.Test.YtlachfpabecaeaaQAmCore
namespace AM
open Go
noncomputable section
structure bq where
 K:Int
 N:Int
 S:ByteArray
structure br where
 Kind:ByteArray
 ai:List bq
structure ae where
 At:Int
 F:br
structure jH where
 F:br
 Gp:ByteArray
 State:Int
 zk:Int
 NO:Int
 V:bq
structure jG where
 Key:ByteArray
 F:br
inductive Cd where
 |int|byte|str|aH|ej|cN|ga|aj|et|jE|jz|jD|jy
 deriving DecidableEq
noncomputable def Cd.T:Cd->Type
 | .int=>Int
 | .byte=>Int
 | .str=>ByteArray
 | .aH=>bq
 | .ej=>bq
 | .cN=>br
 | .ga=>br
 | .aj=>ae
 | .et=>ae
 | .jE=>jH
 | .jz=>jH
 | .jD=>jG
 | .jy=>jG
abbrev CC:=Cell Cd Cd.T
noncomputable def bT:ByteArray:=ByteArray.empty
noncomputable def Cd.wd:Cd->Nat
 | .int=>1
 | .byte=>1
 | .str=>1
 | .aH=>3
 | .ej=>3
 | .cN=>2
 | .ga=>2
 | .aj=>3
 | .et=>3
 | .jE=>9
 | .jz=>9
 | .jD=>3
 | .jy=>3
noncomputable def mz(x:Int):List CC:=[.lit (.int .i64 x)]
noncomputable def mB(cs:List CC):Option (Int):=match cs with
 |[.lit (.int .i64 a0)]=>some a0
 |_=>none
theorem ok_int(cs:List CC)(x:Int)(h:mB cs=some x):mz x=cs:=by
 unfold mB at h;split at h<;>cases h;rfl
noncomputable def kE(x:Int):List CC:=[.lit (.int .u8 x)]
noncomputable def kH(cs:List CC):Option (Int):=match cs with
 |[.lit (.int .u8 a0)]=>some a0
 |_=>none
theorem xE(cs:List CC)(x:Int)(h:kH cs=some x):kE x=cs:=by
 unfold kH at h;split at h<;>cases h;rfl
noncomputable def my(x:ByteArray):List CC:=[.lit (.string x)]
noncomputable def mA(cs:List CC):Option (ByteArray):=match cs with
 |[.lit (.string a0)]=>some a0
 |_=>none
theorem As(cs:List CC)(x:ByteArray)(h:mA cs=some x):my x=cs:=by
 unfold mA at h;split at h<;>cases h;rfl
noncomputable def kD(x:bq):List CC:=[.lit (.int .i64 x.K),.lit (.int .i64 x.N),.lit (.string x.S)]
noncomputable def kG(cs:List CC):Option (bq):=match cs with
 |[.lit (.int .i64 a0),.lit (.int .i64 a1),.lit (.string a2)]=>some ⟨a0,a1,a2⟩
 |_=>none
theorem xD(cs:List CC)(x:bq)(h:kG cs=some x):kD x=cs:=by
 unfold kG at h;split at h<;>cases h;rfl
noncomputable def kC(x:bq):List CC:=[.lit (.int .i64 x.K),.lit (.int .i64 x.N),.lit (.string x.S)]
noncomputable def kF(cs:List CC):Option (bq):=match cs with
 |[.lit (.int .i64 a0),.lit (.int .i64 a1),.lit (.string a2)]=>some ⟨a0,a1,a2⟩
 |_=>none
theorem xC(cs:List CC)(x:bq)(h:kF cs=some x):kC x=cs:=by
 unfold kF at h;split at h<;>cases h;rfl
noncomputable def ou(x:br):List CC:=[.lit (.string x.Kind),.sl .aH x.ai]
noncomputable def jn(cs:List CC):Option (br):=match cs with
 |[.lit (.string a0),.sl .aH a1]=>some ⟨a0,a1⟩
 |_=>none
theorem u_(cs:List CC)(x:br)(h:jn cs=some x):ou x=cs:=by
 unfold jn at h;split at h<;>cases h;rfl
noncomputable def om(x:br):List CC:=[.lit (.string x.Kind),.sl .ej x.ai]
noncomputable def jk(cs:List CC):Option (br):=match cs with
 |[.lit (.string a0),.sl .ej a1]=>some ⟨a0,a1⟩
 |_=>none
theorem u5(cs:List CC)(x:br)(h:jk cs=some x):om x=cs:=by
 unfold jk at h;split at h<;>cases h;rfl
noncomputable def nq(x:ae):List CC:=[.lit (.int .i64 x.At),.lit (.string x.F.Kind),.sl .aH x.F.ai]
noncomputable def hZ(cs:List CC):Option (ae):=match cs with
 |[.lit (.int .i64 a0),.lit (.string a1),.sl .aH a2]=>some ⟨a0,⟨a1,a2⟩⟩
 |_=>none
theorem tB(cs:List CC)(x:ae)(h:hZ cs=some x):nq x=cs:=by
 unfold hZ at h;split at h<;>cases h;rfl
noncomputable def np(x:ae):List CC:=[.lit (.int .i64 x.At),.lit (.string x.F.Kind),.sl .ej x.F.ai]
noncomputable def hY(cs:List CC):Option (ae):=match cs with
 |[.lit (.int .i64 a0),.lit (.string a1),.sl .ej a2]=>some ⟨a0,⟨a1,a2⟩⟩
 |_=>none
theorem tA(cs:List CC)(x:ae)(h:hY cs=some x):np x=cs:=by
 unfold hY at h;split at h<;>cases h;rfl
noncomputable def ot(x:jH):List CC:=[.lit (.string x.F.Kind),.sl .aH x.F.ai,.lit (.string x.Gp),.lit (.int .i64 x.State),.lit (.int .i64 x.zk),.lit (.int .i64 x.NO),.lit (.int .i64 x.V.K),.lit (.int .i64 x.V.N),.lit (.string x.V.S)]
noncomputable def jm(cs:List CC):Option (jH):=match cs with
 |[.lit (.string a0),.sl .aH a1,.lit (.string a2),.lit (.int .i64 a3),.lit (.int .i64 a4),.lit (.int .i64 a5),.lit (.int .i64 a6),.lit (.int .i64 a7),.lit (.string a8)]=>some ⟨⟨a0,a1⟩,a2,a3,a4,a5,⟨a6,a7,a8⟩⟩
 |_=>none
theorem u9(cs:List CC)(x:jH)(h:jm cs=some x):ot x=cs:=by
 unfold jm at h;split at h<;>cases h;rfl
noncomputable def ol(x:jH):List CC:=[.lit (.string x.F.Kind),.sl .ej x.F.ai,.lit (.string x.Gp),.lit (.int .i64 x.State),.lit (.int .i64 x.zk),.lit (.int .i64 x.NO),.lit (.int .i64 x.V.K),.lit (.int .i64 x.V.N),.lit (.string x.V.S)]
noncomputable def jj(cs:List CC):Option (jH):=match cs with
 |[.lit (.string a0),.sl .ej a1,.lit (.string a2),.lit (.int .i64 a3),.lit (.int .i64 a4),.lit (.int .i64 a5),.lit (.int .i64 a6),.lit (.int .i64 a7),.lit (.string a8)]=>some ⟨⟨a0,a1⟩,a2,a3,a4,a5,⟨a6,a7,a8⟩⟩
 |_=>none
theorem u4(cs:List CC)(x:jH)(h:jj cs=some x):ol x=cs:=by
 unfold jj at h;split at h<;>cases h;rfl
noncomputable def oq(x:jG):List CC:=[.lit (.string x.Key),.lit (.string x.F.Kind),.sl .aH x.F.ai]
noncomputable def jl(cs:List CC):Option (jG):=match cs with
 |[.lit (.string a0),.lit (.string a1),.sl .aH a2]=>some ⟨a0,⟨a1,a2⟩⟩
 |_=>none
theorem u7(cs:List CC)(x:jG)(h:jl cs=some x):oq x=cs:=by
 unfold jl at h;split at h<;>cases h;rfl
noncomputable def oj(x:jG):List CC:=[.lit (.string x.Key),.lit (.string x.F.Kind),.sl .ej x.F.ai]
noncomputable def ji(cs:List CC):Option (jG):=match cs with
 |[.lit (.string a0),.lit (.string a1),.sl .ej a2]=>some ⟨a0,⟨a1,a2⟩⟩
 |_=>none
theorem u3(cs:List CC)(x:jG)(h:ji cs=some x):oj x=cs:=by
 unfold ji at h;split at h<;>cases h;rfl
noncomputable def Cd.enc:(τ:Cd)->τ.T->List CC
 | .int,x=>mz x
 | .byte,x=>kE x
 | .str,x=>my x
 | .aH,x=>kD x
 | .ej,x=>kC x
 | .cN,x=>ou x
 | .ga,x=>om x
 | .aj,x=>nq x
 | .et,x=>np x
 | .jE,x=>ot x
 | .jz,x=>ol x
 | .jD,x=>oq x
 | .jy,x=>oj x
noncomputable def Cd.dec:(τ:Cd)->List CC->Option τ.T
 | .int,cs=>mB cs
 | .byte,cs=>kH cs
 | .str,cs=>mA cs
 | .aH,cs=>kG cs
 | .ej,cs=>kF cs
 | .cN,cs=>jn cs
 | .ga,cs=>jk cs
 | .aj,cs=>hZ cs
 | .et,cs=>hY cs
 | .jE,cs=>jm cs
 | .jz,cs=>jj cs
 | .jD,cs=>jl cs
 | .jy,cs=>ji cs
noncomputable def nK:bq:=⟨0,0,bT⟩
noncomputable def yC:br:=⟨bT,[]⟩
noncomputable def aC:ae:=⟨0,⟨bT,[]⟩⟩
noncomputable def yB:jH:=⟨⟨bT,[]⟩,bT,0,0,0,⟨0,0,bT⟩⟩
noncomputable def yA:jG:=⟨bT,⟨bT,[]⟩⟩
noncomputable def Cd.bj:(τ:Cd)->τ.T
 | .int=>(0:Int)
 | .byte=>(0:Int)
 | .str=>(bT:ByteArray)
 | .aH=>nK
 | .ej=>nK
 | .cN=>yC
 | .ga=>yC
 | .aj=>aC
 | .et=>aC
 | .jE=>yB
 | .jz=>yB
 | .jD=>yA
 | .jy=>yA
noncomputable def Cd.flat:Cd->Bool
 | .int=>true
 | .byte=>true
 | .str=>true
 | .aH=>true
 | .ej=>true
 | .cN=>false
 | .ga=>false
 | .aj=>false
 | .et=>false
 | .jE=>false
 | .jz=>false
 | .jD=>false
 | .jy=>false
theorem BJ(x:Int)(c:CC)(h:c∈mz x):∃v,c=.lit v:=by
 simp only[mz,dJ,wE,or_false] at h
 rcases h with rfl<;>exact⟨_,rfl⟩
theorem yh(x:Int)(c:CC)(h:c∈kE x):∃v,c=.lit v:=by
 simp only[kE,dJ,wE,or_false] at h
 rcases h with rfl<;>exact⟨_,rfl⟩
theorem BI(x:ByteArray)(c:CC)(h:c∈my x):∃v,c=.lit v:=by
 simp only[my,dJ,wE,or_false] at h
 rcases h with rfl<;>exact⟨_,rfl⟩
theorem yg(x:bq)(c:CC)(h:c∈kD x):∃v,c=.lit v:=by
 simp only[kD,dJ,wE,or_false] at h
 rcases h with rfl|rfl|rfl<;>exact⟨_,rfl⟩
theorem yf(x:bq)(c:CC)(h:c∈kC x):∃v,c=.lit v:=by
 simp only[kC,dJ,wE,or_false] at h
 rcases h with rfl|rfl|rfl<;>exact⟨_,rfl⟩
noncomputable abbrev UU:dw where
 Ty:=Cd
 T:=Cd.T
 LH:=inferInstance
 wd:=Cd.wd
 enc:=Cd.enc
 dec:=Cd.dec
 bj:=Cd.bj
 flat:=Cd.flat
 sY:=by
  intro τ h x c hc
  cases τ
  case int=>exact BJ x c hc
  case byte=>exact yh x c hc
  case str=>exact BI x c hc
  case aH=>exact yg x c hc
  case ej=>exact yf x c hc
  case cN=>cases h
  case ga=>cases h
  case aj=>cases h
  case et=>cases h
  case jE=>cases h
  case jz=>cases h
  case jD=>cases h
  case jy=>cases h
 fo:=.byte
 yE:=fun x=>x
 GI:=fun x=>x
 sD:=fun _=>rfl
 ov:=fun _=>rfl
 dq:=by intro τ;cases τ<;>decide
 aK:=by intro τ x;cases τ<;>rfl
 dN:=by
  intro τ cs x h
  cases τ
  case int=>exact ok_int cs x h
  case byte=>exact xE cs x h
  case str=>exact As cs x h
  case aH=>exact xD cs x h
  case ej=>exact xC cs x h
  case cN=>exact u_ cs x h
  case ga=>exact u5 cs x h
  case aj=>exact tB cs x h
  case et=>exact tA cs x h
  case jE=>exact u9 cs x h
  case jz=>exact u4 cs x h
  case jD=>exact u7 cs x h
  case jy=>exact u3 cs x h
abbrev aY(l:List (DV UU)):List (DV UU):=l
def Lf(a b:List (DV UU)):Prop:=a=b/\aY []=aY []
theorem M8{a b:List (DV UU)}:Lf a b↔a=b:=⟨fun h=>h.1,fun h=>⟨h,rfl⟩⟩
end
end AM
