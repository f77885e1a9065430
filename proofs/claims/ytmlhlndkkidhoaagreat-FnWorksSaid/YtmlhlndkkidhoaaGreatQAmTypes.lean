/- THE DATA TYPES OF THE PROGRAM: written by gen/types.py. A code with an l ahead is the mirror type of the package laws. -/
import Derived.Test.YtmlhlndkkidhoaaGreatQAmCore
namespace AM
open Go
noncomputable section
structure aQ where
 K:Int
 N:Int
 S:ByteArray
structure aJ where
 Kind:ByteArray
 aj:List aQ
structure bH where
 Id:Int
 F:aJ
structure aG where
 ab:List bH
 Next:Int
structure cp where
 K:Int
 S:ByteArray
 V:aQ
structure cn where
 Kind:ByteArray
 ay:List cp
 Not:Bool
structure b9 where
 Name:ByteArray
 V:aQ
structure c_ where
 Op:Int
 L:cp
 R:cp
structure b7 where
 Op:ByteArray
 L:cp
 R:cp
structure eX where
 Kind:Int
 Name:ByteArray
 ay:List b7
 N:Int
 aW:ByteArray
structure aV where
 Name:ByteArray
 jP:Int
 aB:List cn
 aY:List c_
 bG:List eX
structure bB where
 Name:ByteArray
 aw:List aV
structure av where
 cN:Int
 eJ:List Int
 cr:List b9
structure cD where
 Kind:Int
 F:aJ
 Id:Int
 N:Int
 aW:ByteArray
structure aI where
 At:Int
 F:aJ
structure ak where
 F:aJ
 aW:ByteArray
 State:Int
 bE:Int
 kf:Int
 V:aQ
structure ow where
 Key:ByteArray
 F:aJ
 Try:Int
structure bu where
 Key:ByteArray
 F:aJ
structure ao where
 S:aG
 aD:List av
 au:List ak
 aC:List aI
 aL:List bu
 State:Int
 dw:Int
inductive Cd where
 |int|byte|str|aM|bP|aX|bV|er|cU|b_|bL|bq|cV|a_|dZ|az|dc|aH|aA|kH|aT|bD
 deriving DecidableEq
noncomputable def Cd.T:Cd->Type
 | .int=>Int
 | .byte=>Int
 | .str=>ByteArray
 | .aM=>aQ
 | .bP=>aJ
 | .aX=>bH
 | .bV=>aG
 | .er=>cp
 | .cU=>cn
 | .b_=>b9
 | .bL=>c_
 | .bq=>b7
 | .cV=>eX
 | .a_=>aV
 | .dZ=>bB
 | .az=>av
 | .dc=>cD
 | .aH=>aI
 | .aA=>ak
 | .kH=>ow
 | .aT=>bu
 | .bD=>ao
abbrev CC:=Cell Cd Cd.T
noncomputable def ai:ByteArray:=ByteArray.empty
noncomputable def Cd.wd:Cd->Nat
 | .int=>1
 | .byte=>1
 | .str=>1
 | .aM=>3
 | .bP=>2
 | .aX=>3
 | .bV=>2
 | .er=>5
 | .cU=>3
 | .b_=>4
 | .bL=>11
 | .bq=>11
 | .cV=>5
 | .a_=>5
 | .dZ=>2
 | .az=>3
 | .dc=>6
 | .aH=>3
 | .aA=>9
 | .kH=>4
 | .aT=>3
 | .bD=>8
noncomputable def AG(x:Int):List CC:=[.lit (.int .i64 x)]
noncomputable def AI(cs:List CC):Option (Int):=match cs with
 |[.lit (.int .i64 a0)]=>some a0
 |_=>none
theorem ok_int(cs:List CC)(x:Int)(h:AI cs=some x):AG x=cs:=by
 unfold AI at h;split at h<;>cases h;rfl
noncomputable def xp(x:Int):List CC:=[.lit (.int .u8 x)]
noncomputable def xy(cs:List CC):Option (Int):=match cs with
 |[.lit (.int .u8 a0)]=>some a0
 |_=>none
theorem Uu(cs:List CC)(x:Int)(h:xy cs=some x):xp x=cs:=by
 unfold xy at h;split at h<;>cases h;rfl
noncomputable def AF(x:ByteArray):List CC:=[.lit (.string x)]
noncomputable def AH(cs:List CC):Option (ByteArray):=match cs with
 |[.lit (.string a0)]=>some a0
 |_=>none
theorem X_(cs:List CC)(x:ByteArray)(h:AH cs=some x):AF x=cs:=by
 unfold AH at h;split at h<;>cases h;rfl
noncomputable def xn(x:aQ):List CC:=[.lit (.int .i64 x.K),.lit (.int .i64 x.N),.lit (.string x.S)]
noncomputable def xt(cs:List CC):Option (aQ):=match cs with
 |[.lit (.int .i64 a0),.lit (.int .i64 a1),.lit (.string a2)]=>some ⟨a0,a1,a2⟩
 |_=>none
theorem Up(cs:List CC)(x:aQ)(h:xt cs=some x):xn x=cs:=by
 unfold xt at h;split at h<;>cases h;rfl
noncomputable def Fx(x:aJ):List CC:=[.lit (.string x.Kind),.sl .aM x.aj]
noncomputable def uF(cs:List CC):Option (aJ):=match cs with
 |[.lit (.string a0),.sl .aM a1]=>some ⟨a0,a1⟩
 |_=>none
theorem Pc(cs:List CC)(x:aJ)(h:uF cs=some x):Fx x=cs:=by
 unfold uF at h;split at h<;>cases h;rfl
noncomputable def Fw(x:bH):List CC:=[.lit (.int .i64 x.Id),.lit (.string x.F.Kind),.sl .aM x.F.aj]
noncomputable def uD(cs:List CC):Option (bH):=match cs with
 |[.lit (.int .i64 a0),.lit (.string a1),.sl .aM a2]=>some ⟨a0,⟨a1,a2⟩⟩
 |_=>none
theorem Pa(cs:List CC)(x:bH)(h:uD cs=some x):Fw x=cs:=by
 unfold uD at h;split at h<;>cases h;rfl
noncomputable def Dt(x:aG):List CC:=[.sl .aX x.ab,.lit (.int .i64 x.Next)]
noncomputable def rZ(cs:List CC):Option (aG):=match cs with
 |[.sl .aX a0,.lit (.int .i64 a1)]=>some ⟨a0,a1⟩
 |_=>none
theorem M6(cs:List CC)(x:aG)(h:rZ cs=some x):Dt x=cs:=by
 unfold rZ at h;split at h<;>cases h;rfl
noncomputable def xo(x:cp):List CC:=[.lit (.int .i64 x.K),.lit (.string x.S),.lit (.int .i64 x.V.K),.lit (.int .i64 x.V.N),.lit (.string x.V.S)]
noncomputable def xw(cs:List CC):Option (cp):=match cs with
 |[.lit (.int .i64 a0),.lit (.string a1),.lit (.int .i64 a2),.lit (.int .i64 a3),.lit (.string a4)]=>some ⟨a0,a1,⟨a2,a3,a4⟩⟩
 |_=>none
theorem Us(cs:List CC)(x:cp)(h:xw cs=some x):xo x=cs:=by
 unfold xw at h;split at h<;>cases h;rfl
noncomputable def Jx(x:cn):List CC:=[.lit (.string x.Kind),.sl .er x.ay,.lit (.bool x.Not)]
noncomputable def xu(cs:List CC):Option (cn):=match cs with
 |[.lit (.string a0),.sl .er a1,.lit (.bool a2)]=>some ⟨a0,a1,a2⟩
 |_=>none
theorem Uq(cs:List CC)(x:cn)(h:xu cs=some x):Jx x=cs:=by
 unfold xu at h;split at h<;>cases h;rfl
noncomputable def ux(x:b9):List CC:=[.lit (.string x.Name),.lit (.int .i64 x.V.K),.lit (.int .i64 x.V.N),.lit (.string x.V.S)]
noncomputable def uJ(cs:List CC):Option (b9):=match cs with
 |[.lit (.string a0),.lit (.int .i64 a1),.lit (.int .i64 a2),.lit (.string a3)]=>some ⟨a0,⟨a1,a2,a3⟩⟩
 |_=>none
theorem Pg(cs:List CC)(x:b9)(h:uJ cs=some x):ux x=cs:=by
 unfold uJ at h;split at h<;>cases h;rfl
noncomputable def uw(x:c_):List CC:=[.lit (.int .i64 x.Op),.lit (.int .i64 x.L.K),.lit (.string x.L.S),.lit (.int .i64 x.L.V.K),.lit (.int .i64 x.L.V.N),.lit (.string x.L.V.S),.lit (.int .i64 x.R.K),.lit (.string x.R.S),.lit (.int .i64 x.R.V.K),.lit (.int .i64 x.R.V.N),.lit (.string x.R.V.S)]
noncomputable def uH(cs:List CC):Option (c_):=match cs with
 |[.lit (.int .i64 a0),.lit (.int .i64 a1),.lit (.string a2),.lit (.int .i64 a3),.lit (.int .i64 a4),.lit (.string a5),.lit (.int .i64 a6),.lit (.string a7),.lit (.int .i64 a8),.lit (.int .i64 a9),.lit (.string a10)]=>some ⟨a0,⟨a1,a2,⟨a3,a4,a5⟩⟩,⟨a6,a7,⟨a8,a9,a10⟩⟩⟩
 |_=>none
theorem Pe(cs:List CC)(x:c_)(h:uH cs=some x):uw x=cs:=by
 unfold uH at h;split at h<;>cases h;rfl
noncomputable def uv(x:b7):List CC:=[.lit (.string x.Op),.lit (.int .i64 x.L.K),.lit (.string x.L.S),.lit (.int .i64 x.L.V.K),.lit (.int .i64 x.L.V.N),.lit (.string x.L.V.S),.lit (.int .i64 x.R.K),.lit (.string x.R.S),.lit (.int .i64 x.R.V.K),.lit (.int .i64 x.R.V.N),.lit (.string x.R.V.S)]
noncomputable def uG(cs:List CC):Option (b7):=match cs with
 |[.lit (.string a0),.lit (.int .i64 a1),.lit (.string a2),.lit (.int .i64 a3),.lit (.int .i64 a4),.lit (.string a5),.lit (.int .i64 a6),.lit (.string a7),.lit (.int .i64 a8),.lit (.int .i64 a9),.lit (.string a10)]=>some ⟨a0,⟨a1,a2,⟨a3,a4,a5⟩⟩,⟨a6,a7,⟨a8,a9,a10⟩⟩⟩
 |_=>none
theorem Pd(cs:List CC)(x:b7)(h:uG cs=some x):uv x=cs:=by
 unfold uG at h;split at h<;>cases h;rfl
noncomputable def Jz(x:eX):List CC:=[.lit (.int .i64 x.Kind),.lit (.string x.Name),.sl .bq x.ay,.lit (.int .i64 x.N),.lit (.string x.aW)]
noncomputable def xx(cs:List CC):Option (eX):=match cs with
 |[.lit (.int .i64 a0),.lit (.string a1),.sl .bq a2,.lit (.int .i64 a3),.lit (.string a4)]=>some ⟨a0,a1,a2,a3,a4⟩
 |_=>none
theorem Ut(cs:List CC)(x:eX)(h:xx cs=some x):Jz x=cs:=by
 unfold xx at h;split at h<;>cases h;rfl
noncomputable def Fv(x:aV):List CC:=[.lit (.string x.Name),.lit (.int .i64 x.jP),.sl .cU x.aB,.sl .bL x.aY,.sl .cV x.bG]
noncomputable def uC(cs:List CC):Option (aV):=match cs with
 |[.lit (.string a0),.lit (.int .i64 a1),.sl .cU a2,.sl .bL a3,.sl .cV a4]=>some ⟨a0,a1,a2,a3,a4⟩
 |_=>none
theorem O_(cs:List CC)(x:aV)(h:uC cs=some x):Fv x=cs:=by
 unfold uC at h;split at h<;>cases h;rfl
noncomputable def Jy(x:bB):List CC:=[.lit (.string x.Name),.sl .a_ x.aw]
noncomputable def xv(cs:List CC):Option (bB):=match cs with
 |[.lit (.string a0),.sl .a_ a1]=>some ⟨a0,a1⟩
 |_=>none
theorem Ur(cs:List CC)(x:bB)(h:xv cs=some x):Jy x=cs:=by
 unfold xv at h;split at h<;>cases h;rfl
noncomputable def Du(x:av):List CC:=[.lit (.int .i64 x.cN),.sl .int x.eJ,.sl .b_ x.cr]
noncomputable def r_(cs:List CC):Option (av):=match cs with
 |[.lit (.int .i64 a0),.sl .int a1,.sl .b_ a2]=>some ⟨a0,a1,a2⟩
 |_=>none
theorem M7(cs:List CC)(x:av)(h:r_ cs=some x):Du x=cs:=by
 unfold r_ at h;split at h<;>cases h;rfl
noncomputable def z0(x:cD):List CC:=[.lit (.int .i64 x.Kind),.lit (.string x.F.Kind),.sl .aM x.F.aj,.lit (.int .i64 x.Id),.lit (.int .i64 x.N),.lit (.string x.aW)]
noncomputable def qc(cs:List CC):Option (cD):=match cs with
 |[.lit (.int .i64 a0),.lit (.string a1),.sl .aM a2,.lit (.int .i64 a3),.lit (.int .i64 a4),.lit (.string a5)]=>some ⟨a0,⟨a1,a2⟩,a3,a4,a5⟩
 |_=>none
theorem KN(cs:List CC)(x:cD)(h:qc cs=some x):z0 x=cs:=by
 unfold qc at h;split at h<;>cases h;rfl
noncomputable def Ds(x:aI):List CC:=[.lit (.int .i64 x.At),.lit (.string x.F.Kind),.sl .aM x.F.aj]
noncomputable def rY(cs:List CC):Option (aI):=match cs with
 |[.lit (.int .i64 a0),.lit (.string a1),.sl .aM a2]=>some ⟨a0,⟨a1,a2⟩⟩
 |_=>none
theorem M5(cs:List CC)(x:aI)(h:rY cs=some x):Ds x=cs:=by
 unfold rY at h;split at h<;>cases h;rfl
noncomputable def Fu(x:ak):List CC:=[.lit (.string x.F.Kind),.sl .aM x.F.aj,.lit (.string x.aW),.lit (.int .i64 x.State),.lit (.int .i64 x.bE),.lit (.int .i64 x.kf),.lit (.int .i64 x.V.K),.lit (.int .i64 x.V.N),.lit (.string x.V.S)]
noncomputable def uB(cs:List CC):Option (ak):=match cs with
 |[.lit (.string a0),.sl .aM a1,.lit (.string a2),.lit (.int .i64 a3),.lit (.int .i64 a4),.lit (.int .i64 a5),.lit (.int .i64 a6),.lit (.int .i64 a7),.lit (.string a8)]=>some ⟨⟨a0,a1⟩,a2,a3,a4,a5,⟨a6,a7,a8⟩⟩
 |_=>none
theorem O'(cs:List CC)(x:ak)(h:uB cs=some x):Fu x=cs:=by
 unfold uB at h;split at h<;>cases h;rfl
noncomputable def Fy(x:ow):List CC:=[.lit (.string x.Key),.lit (.string x.F.Kind),.sl .aM x.F.aj,.lit (.int .i64 x.Try)]
noncomputable def uI(cs:List CC):Option (ow):=match cs with
 |[.lit (.string a0),.lit (.string a1),.sl .aM a2,.lit (.int .i64 a3)]=>some ⟨a0,⟨a1,a2⟩,a3⟩
 |_=>none
theorem Pf(cs:List CC)(x:ow)(h:uI cs=some x):Fy x=cs:=by
 unfold uI at h;split at h<;>cases h;rfl
noncomputable def Ft(x:bu):List CC:=[.lit (.string x.Key),.lit (.string x.F.Kind),.sl .aM x.F.aj]
noncomputable def uA(cs:List CC):Option (bu):=match cs with
 |[.lit (.string a0),.lit (.string a1),.sl .aM a2]=>some ⟨a0,⟨a1,a2⟩⟩
 |_=>none
theorem O9(cs:List CC)(x:bu)(h:uA cs=some x):Ft x=cs:=by
 unfold uA at h;split at h<;>cases h;rfl
noncomputable def aO(x:ao):List CC:=[.sl .aX x.S.ab,.lit (.int .i64 x.S.Next),.sl .az x.aD,.sl .aA x.au,.sl .aH x.aC,.sl .aT x.aL,.lit (.int .i64 x.State),.lit (.int .i64 x.dw)]
noncomputable def uE(cs:List CC):Option (ao):=match cs with
 |[.sl .aX a0,.lit (.int .i64 a1),.sl .az a2,.sl .aA a3,.sl .aH a4,.sl .aT a5,.lit (.int .i64 a6),.lit (.int .i64 a7)]=>some ⟨⟨a0,a1⟩,a2,a3,a4,a5,a6,a7⟩
 |_=>none
theorem Pb(cs:List CC)(x:ao)(h:uE cs=some x):aO x=cs:=by
 unfold uE at h;split at h<;>cases h;rfl
noncomputable def Cd.enc:(τ:Cd)->τ.T->List CC
 | .int,x=>AG x
 | .byte,x=>xp x
 | .str,x=>AF x
 | .aM,x=>xn x
 | .bP,x=>Fx x
 | .aX,x=>Fw x
 | .bV,x=>Dt x
 | .er,x=>xo x
 | .cU,x=>Jx x
 | .b_,x=>ux x
 | .bL,x=>uw x
 | .bq,x=>uv x
 | .cV,x=>Jz x
 | .a_,x=>Fv x
 | .dZ,x=>Jy x
 | .az,x=>Du x
 | .dc,x=>z0 x
 | .aH,x=>Ds x
 | .aA,x=>Fu x
 | .kH,x=>Fy x
 | .aT,x=>Ft x
 | .bD,x=>aO x
noncomputable def Cd.dec:(τ:Cd)->List CC->Option τ.T
 | .int,cs=>AI cs
 | .byte,cs=>xy cs
 | .str,cs=>AH cs
 | .aM,cs=>xt cs
 | .bP,cs=>uF cs
 | .aX,cs=>uD cs
 | .bV,cs=>rZ cs
 | .er,cs=>xw cs
 | .cU,cs=>xu cs
 | .b_,cs=>uJ cs
 | .bL,cs=>uH cs
 | .bq,cs=>uG cs
 | .cV,cs=>xx cs
 | .a_,cs=>uC cs
 | .dZ,cs=>xv cs
 | .az,cs=>r_ cs
 | .dc,cs=>qc cs
 | .aH,cs=>rY cs
 | .aA,cs=>uB cs
 | .kH,cs=>uI cs
 | .aT,cs=>uA cs
 | .bD,cs=>uE cs
noncomputable def dx:aQ:=⟨0,0,ai⟩
noncomputable def ta:aJ:=⟨ai,[]⟩
noncomputable def bg:bH:=⟨0,⟨ai,[]⟩⟩
noncomputable def W6:aG:=⟨[],0⟩
noncomputable def nW:cp:=⟨0,ai,⟨0,0,ai⟩⟩
noncomputable def dy:cn:=⟨ai,[],false⟩
noncomputable def EN:b9:=⟨ai,⟨0,0,ai⟩⟩
noncomputable def vc:c_:=⟨0,⟨0,ai,⟨0,0,ai⟩⟩,⟨0,ai,⟨0,0,ai⟩⟩⟩
noncomputable def fq:b7:=⟨ai,⟨0,ai,⟨0,0,ai⟩⟩,⟨0,ai,⟨0,0,ai⟩⟩⟩
noncomputable def fP:eX:=⟨0,ai,[],0,ai⟩
noncomputable def ct:aV:=⟨ai,0,[],[],[]⟩
noncomputable def alb:bB:=⟨ai,[]⟩
noncomputable def bM:av:=⟨0,[],[]⟩
noncomputable def ua:cD:=⟨0,⟨ai,[]⟩,0,0,ai⟩
noncomputable def dH:aI:=⟨0,⟨ai,[]⟩⟩
noncomputable def aR:ak:=⟨⟨ai,[]⟩,ai,0,0,0,⟨0,0,ai⟩⟩
noncomputable def abj:ow:=⟨ai,⟨ai,[]⟩,0⟩
noncomputable def ck:bu:=⟨ai,⟨ai,[]⟩⟩
noncomputable def VK:ao:=⟨⟨[],0⟩,[],[],[],[],0,0⟩
noncomputable def Cd.e_:(τ:Cd)->τ.T
 | .int=>(0:Int)
 | .byte=>(0:Int)
 | .str=>(ai:ByteArray)
 | .aM=>dx
 | .bP=>ta
 | .aX=>bg
 | .bV=>W6
 | .er=>nW
 | .cU=>dy
 | .b_=>EN
 | .bL=>vc
 | .bq=>fq
 | .cV=>fP
 | .a_=>ct
 | .dZ=>alb
 | .az=>bM
 | .dc=>ua
 | .aH=>dH
 | .aA=>aR
 | .kH=>abj
 | .aT=>ck
 | .bD=>VK
noncomputable def Cd.flat:Cd->Bool
 | .int=>true
 | .byte=>true
 | .str=>true
 | .aM=>true
 | .bP=>false
 | .aX=>false
 | .bV=>false
 | .er=>true
 | .cU=>false
 | .b_=>true
 | .bL=>true
 | .bq=>true
 | .cV=>false
 | .a_=>false
 | .dZ=>false
 | .az=>false
 | .dc=>false
 | .aH=>false
 | .aA=>false
 | .kH=>false
 | .aT=>false
 | .bD=>false
theorem Zo(x:Int)(c:CC)(h:c∈AG x):∃v,c=.lit v:=by
 simp only[AG,jQ,LA,or_false] at h
 rcases h with rfl<;>exact⟨_,rfl⟩
theorem U'(x:Int)(c:CC)(h:c∈xp x):∃v,c=.lit v:=by
 simp only[xp,jQ,LA,or_false] at h
 rcases h with rfl<;>exact⟨_,rfl⟩
theorem Zn(x:ByteArray)(c:CC)(h:c∈AF x):∃v,c=.lit v:=by
 simp only[AF,jQ,LA,or_false] at h
 rcases h with rfl<;>exact⟨_,rfl⟩
theorem U8(x:aQ)(c:CC)(h:c∈xn x):∃v,c=.lit v:=by
 simp only[xn,jQ,LA,or_false] at h
 rcases h with rfl|rfl|rfl<;>exact⟨_,rfl⟩
theorem U9(x:cp)(c:CC)(h:c∈xo x):∃v,c=.lit v:=by
 simp only[xo,jQ,LA,or_false] at h
 rcases h with rfl|rfl|rfl|rfl|rfl<;>exact⟨_,rfl⟩
theorem Qm(x:b9)(c:CC)(h:c∈ux x):∃v,c=.lit v:=by
 simp only[ux,jQ,LA,or_false] at h
 rcases h with rfl|rfl|rfl|rfl<;>exact⟨_,rfl⟩
theorem Ql(x:c_)(c:CC)(h:c∈uw x):∃v,c=.lit v:=by
 simp only[uw,jQ,LA,or_false] at h
 rcases h with rfl|rfl|rfl|rfl|rfl|rfl|rfl|rfl|rfl|rfl|rfl<;>exact⟨_,rfl⟩
theorem Qk(x:b7)(c:CC)(h:c∈uv x):∃v,c=.lit v:=by
 simp only[uv,jQ,LA,or_false] at h
 rcases h with rfl|rfl|rfl|rfl|rfl|rfl|rfl|rfl|rfl|rfl|rfl<;>exact⟨_,rfl⟩
noncomputable abbrev UU:kZ where
 Ty:=Cd
 T:=Cd.T
 deq:=inferInstance
 wd:=Cd.wd
 enc:=Cd.enc
 dec:=Cd.dec
 e_:=Cd.e_
 flat:=Cd.flat
 Mc:=by
  intro τ h x c hc
  cases τ
  case int=>exact Zo x c hc
  case byte=>exact U' x c hc
  case str=>exact Zn x c hc
  case aM=>exact U8 x c hc
  case bP=>cases h
  case aX=>cases h
  case bV=>cases h
  case er=>exact U9 x c hc
  case cU=>cases h
  case b_=>exact Qm x c hc
  case bL=>exact Ql x c hc
  case bq=>exact Qk x c hc
  case cV=>cases h
  case a_=>cases h
  case dZ=>cases h
  case az=>cases h
  case dc=>cases h
  case aH=>cases h
  case aA=>cases h
  case kH=>cases h
  case aT=>cases h
  case bD=>cases h
 ot:=.byte
 VO:=fun x=>x
 ofB:=fun x=>x
 LF:=fun _=>rfl
 Fz:=fun _=>rfl
 kJ:=by intro τ;cases τ<;>decide
 dj:=by intro τ x;cases τ<;>rfl
 lp:=by
  intro τ cs x h
  cases τ
  case int=>exact ok_int cs x h
  case byte=>exact Uu cs x h
  case str=>exact X_ cs x h
  case aM=>exact Up cs x h
  case bP=>exact Pc cs x h
  case aX=>exact Pa cs x h
  case bV=>exact M6 cs x h
  case er=>exact Us cs x h
  case cU=>exact Uq cs x h
  case b_=>exact Pg cs x h
  case bL=>exact Pe cs x h
  case bq=>exact Pd cs x h
  case cV=>exact Ut cs x h
  case a_=>exact O_ cs x h
  case dZ=>exact Ur cs x h
  case az=>exact M7 cs x h
  case dc=>exact KN cs x h
  case aH=>exact M5 cs x h
  case aA=>exact O' cs x h
  case kH=>exact Pf cs x h
  case aT=>exact O9 cs x h
  case bD=>exact Pb cs x h
abbrev ap(l:List (DV UU)):List (DV UU):=l
def Lf(a b:List (DV UU)):Prop:=a=b/\ap []=ap []
theorem atT{a b:List (DV UU)}:Lf a b↔a=b:=⟨fun h=>h.1,fun h=>⟨h,rfl⟩⟩
end
end AM
