import Derived.Test.YtknfcngfhlpaeaaGreatDoorQAmCore
namespace AM
open Go
noncomputable section
structure aU where
 K:Int
 N:Int
 S:ByteArray
structure aO where
 Kind:ByteArray
 af:List aU
structure bW where
 Id:Int
 F:aO
structure aG where
 aa:List bW
 Next:Int
structure cP where
 K:Int
 S:ByteArray
 V:aU
structure ck where
 Kind:ByteArray
 aC:List cP
 Not:Bool
structure bQ where
 Name:ByteArray
 V:aU
structure dt where
 Op:Int
 L:cP
 R:cP
structure cj where
 Op:ByteArray
 L:cP
 R:cP
structure dQ where
 Kind:Int
 Name:ByteArray
 aC:List cj
 N:Int
 aX:ByteArray
structure a_ where
 Name:ByteArray
 nB:Int
 aM:List ck
 bt:List dt
 cx:List dQ
structure aZ where
 Name:ByteArray
 az:List a_
structure au where
 cO:Int
 ep:List Int
 bE:List bQ
structure cN where
 Kind:Int
 F:aO
 Id:Int
 N:Int
 aX:ByteArray
structure aF where
 At:Int
 F:aO
structure ap where
 F:aO
 aX:ByteArray
 State:Int
 bi:Int
 iy:Int
 V:aU
structure ib where
 Key:ByteArray
 F:aO
 Try:Int
structure br where
 Key:ByteArray
 F:aO
structure aj where
 S:aG
 aw:List au
 ae:List ap
 ao:List aF
 ai:List br
 State:Int
 bB:Int
structure qy where
 Name:ByteArray
 Y3:ByteArray
 X:aj
structure ko where
 nD:List aZ
 iS:List qy
 bB:Int
 za:Int
inductive Cd where
 |int|byte|str|bf|cU|aK|dD|im|ey|cw|cM|bN|eJ|cv|gJ|av|dz|ax|aq|dw|aI|bY|kk|ny
 deriving DecidableEq
noncomputable def Cd.T:Cd->Type
 | .int=>Int
 | .byte=>Int
 | .str=>ByteArray
 | .bf=>aU
 | .cU=>aO
 | .aK=>bW
 | .dD=>aG
 | .im=>cP
 | .ey=>ck
 | .cw=>bQ
 | .cM=>dt
 | .bN=>cj
 | .eJ=>dQ
 | .cv=>a_
 | .gJ=>aZ
 | .av=>au
 | .dz=>cN
 | .ax=>aF
 | .aq=>ap
 | .dw=>ib
 | .aI=>br
 | .bY=>aj
 | .kk=>qy
 | .ny=>ko
abbrev CC:=Cell Cd Cd.T
noncomputable def ah:ByteArray:=ByteArray.empty
noncomputable def Cd.wd:Cd->Nat
 | .int=>1
 | .byte=>1
 | .str=>1
 | .bf=>3
 | .cU=>2
 | .aK=>3
 | .dD=>2
 | .im=>5
 | .ey=>3
 | .cw=>4
 | .cM=>11
 | .bN=>11
 | .eJ=>5
 | .cv=>5
 | .gJ=>2
 | .av=>3
 | .dz=>6
 | .ax=>3
 | .aq=>9
 | .dw=>4
 | .aI=>3
 | .bY=>8
 | .kk=>10
 | .ny=>4
noncomputable def Ar(x:Int):List CC:=[.lit (.int .i64 x)]
noncomputable def Av(cs:List CC):Option (Int):=match cs with
 |[.lit (.int .i64 a0)]=>some a0
 |_=>none
theorem ok_int(cs:List CC)(x:Int)(h:Av cs=some x):Ar x=cs:=by
 unfold Av at h;split at h<;>cases h;rfl
noncomputable def xf(x:Int):List CC:=[.lit (.int .u8 x)]
noncomputable def xm(cs:List CC):Option (Int):=match cs with
 |[.lit (.int .u8 a0)]=>some a0
 |_=>none
theorem R2(cs:List CC)(x:Int)(h:xm cs=some x):xf x=cs:=by
 unfold xm at h;split at h<;>cases h;rfl
noncomputable def Aq(x:ByteArray):List CC:=[.lit (.string x)]
noncomputable def Au(cs:List CC):Option (ByteArray):=match cs with
 |[.lit (.string a0)]=>some a0
 |_=>none
theorem Xb(cs:List CC)(x:ByteArray)(h:Au cs=some x):Aq x=cs:=by
 unfold Au at h;split at h<;>cases h;rfl
noncomputable def xd(x:aU):List CC:=[.lit (.int .i64 x.K),.lit (.int .i64 x.N),.lit (.string x.S)]
noncomputable def xh(cs:List CC):Option (aU):=match cs with
 |[.lit (.int .i64 a0),.lit (.int .i64 a1),.lit (.string a2)]=>some ⟨a0,a1,a2⟩
 |_=>none
theorem RX(cs:List CC)(x:aU)(h:xh cs=some x):xd x=cs:=by
 unfold xh at h;split at h<;>cases h;rfl
noncomputable def E7(x:aO):List CC:=[.lit (.string x.Kind),.sl .bf x.af]
noncomputable def uq(cs:List CC):Option (aO):=match cs with
 |[.lit (.string a0),.sl .bf a1]=>some ⟨a0,a1⟩
 |_=>none
theorem Om(cs:List CC)(x:aO)(h:uq cs=some x):E7 x=cs:=by
 unfold uq at h;split at h<;>cases h;rfl
noncomputable def E6(x:bW):List CC:=[.lit (.int .i64 x.Id),.lit (.string x.F.Kind),.sl .bf x.F.af]
noncomputable def um(cs:List CC):Option (bW):=match cs with
 |[.lit (.int .i64 a0),.lit (.string a1),.sl .bf a2]=>some ⟨a0,⟨a1,a2⟩⟩
 |_=>none
theorem Oj(cs:List CC)(x:bW)(h:um cs=some x):E6 x=cs:=by
 unfold um at h;split at h<;>cases h;rfl
noncomputable def Dk(x:aG):List CC:=[.sl .aK x.aa,.lit (.int .i64 x.Next)]
noncomputable def rI(cs:List CC):Option (aG):=match cs with
 |[.sl .aK a0,.lit (.int .i64 a1)]=>some ⟨a0,a1⟩
 |_=>none
theorem Mo(cs:List CC)(x:aG)(h:rI cs=some x):Dk x=cs:=by
 unfold rI at h;split at h<;>cases h;rfl
noncomputable def xe(x:cP):List CC:=[.lit (.int .i64 x.K),.lit (.string x.S),.lit (.int .i64 x.V.K),.lit (.int .i64 x.V.N),.lit (.string x.V.S)]
noncomputable def xk(cs:List CC):Option (cP):=match cs with
 |[.lit (.int .i64 a0),.lit (.string a1),.lit (.int .i64 a2),.lit (.int .i64 a3),.lit (.string a4)]=>some ⟨a0,a1,⟨a2,a3,a4⟩⟩
 |_=>none
theorem R0(cs:List CC)(x:cP)(h:xk cs=some x):xe x=cs:=by
 unfold xk at h;split at h<;>cases h;rfl
noncomputable def IR(x:ck):List CC:=[.lit (.string x.Kind),.sl .im x.aC,.lit (.bool x.Not)]
noncomputable def xi(cs:List CC):Option (ck):=match cs with
 |[.lit (.string a0),.sl .im a1,.lit (.bool a2)]=>some ⟨a0,a1,a2⟩
 |_=>none
theorem RY(cs:List CC)(x:ck)(h:xi cs=some x):IR x=cs:=by
 unfold xi at h;split at h<;>cases h;rfl
noncomputable def uf(x:bQ):List CC:=[.lit (.string x.Name),.lit (.int .i64 x.V.K),.lit (.int .i64 x.V.N),.lit (.string x.V.S)]
noncomputable def ux(cs:List CC):Option (bQ):=match cs with
 |[.lit (.string a0),.lit (.int .i64 a1),.lit (.int .i64 a2),.lit (.string a3)]=>some ⟨a0,⟨a1,a2,a3⟩⟩
 |_=>none
theorem Ou(cs:List CC)(x:bQ)(h:ux cs=some x):uf x=cs:=by
 unfold ux at h;split at h<;>cases h;rfl
noncomputable def ue(x:dt):List CC:=[.lit (.int .i64 x.Op),.lit (.int .i64 x.L.K),.lit (.string x.L.S),.lit (.int .i64 x.L.V.K),.lit (.int .i64 x.L.V.N),.lit (.string x.L.V.S),.lit (.int .i64 x.R.K),.lit (.string x.R.S),.lit (.int .i64 x.R.V.K),.lit (.int .i64 x.R.V.N),.lit (.string x.R.V.S)]
noncomputable def uu(cs:List CC):Option (dt):=match cs with
 |[.lit (.int .i64 a0),.lit (.int .i64 a1),.lit (.string a2),.lit (.int .i64 a3),.lit (.int .i64 a4),.lit (.string a5),.lit (.int .i64 a6),.lit (.string a7),.lit (.int .i64 a8),.lit (.int .i64 a9),.lit (.string a10)]=>some ⟨a0,⟨a1,a2,⟨a3,a4,a5⟩⟩,⟨a6,a7,⟨a8,a9,a10⟩⟩⟩
 |_=>none
theorem Oo(cs:List CC)(x:dt)(h:uu cs=some x):ue x=cs:=by
 unfold uu at h;split at h<;>cases h;rfl
noncomputable def ud(x:cj):List CC:=[.lit (.string x.Op),.lit (.int .i64 x.L.K),.lit (.string x.L.S),.lit (.int .i64 x.L.V.K),.lit (.int .i64 x.L.V.N),.lit (.string x.L.V.S),.lit (.int .i64 x.R.K),.lit (.string x.R.S),.lit (.int .i64 x.R.V.K),.lit (.int .i64 x.R.V.N),.lit (.string x.R.V.S)]
noncomputable def ur(cs:List CC):Option (cj):=match cs with
 |[.lit (.string a0),.lit (.int .i64 a1),.lit (.string a2),.lit (.int .i64 a3),.lit (.int .i64 a4),.lit (.string a5),.lit (.int .i64 a6),.lit (.string a7),.lit (.int .i64 a8),.lit (.int .i64 a9),.lit (.string a10)]=>some ⟨a0,⟨a1,a2,⟨a3,a4,a5⟩⟩,⟨a6,a7,⟨a8,a9,a10⟩⟩⟩
 |_=>none
theorem On(cs:List CC)(x:cj)(h:ur cs=some x):ud x=cs:=by
 unfold ur at h;split at h<;>cases h;rfl
noncomputable def IT(x:dQ):List CC:=[.lit (.int .i64 x.Kind),.lit (.string x.Name),.sl .bN x.aC,.lit (.int .i64 x.N),.lit (.string x.aX)]
noncomputable def xl(cs:List CC):Option (dQ):=match cs with
 |[.lit (.int .i64 a0),.lit (.string a1),.sl .bN a2,.lit (.int .i64 a3),.lit (.string a4)]=>some ⟨a0,a1,a2,a3,a4⟩
 |_=>none
theorem R1(cs:List CC)(x:dQ)(h:xl cs=some x):IT x=cs:=by
 unfold xl at h;split at h<;>cases h;rfl
noncomputable def E5(x:a_):List CC:=[.lit (.string x.Name),.lit (.int .i64 x.nB),.sl .ey x.aM,.sl .cM x.bt,.sl .eJ x.cx]
noncomputable def ul(cs:List CC):Option (a_):=match cs with
 |[.lit (.string a0),.lit (.int .i64 a1),.sl .ey a2,.sl .cM a3,.sl .eJ a4]=>some ⟨a0,a1,a2,a3,a4⟩
 |_=>none
theorem Oi(cs:List CC)(x:a_)(h:ul cs=some x):E5 x=cs:=by
 unfold ul at h;split at h<;>cases h;rfl
noncomputable def IS(x:aZ):List CC:=[.lit (.string x.Name),.sl .cv x.az]
noncomputable def xj(cs:List CC):Option (aZ):=match cs with
 |[.lit (.string a0),.sl .cv a1]=>some ⟨a0,a1⟩
 |_=>none
theorem RZ(cs:List CC)(x:aZ)(h:xj cs=some x):IS x=cs:=by
 unfold xj at h;split at h<;>cases h;rfl
noncomputable def Dl(x:au):List CC:=[.lit (.int .i64 x.cO),.sl .int x.ep,.sl .cw x.bE]
noncomputable def rJ(cs:List CC):Option (au):=match cs with
 |[.lit (.int .i64 a0),.sl .int a1,.sl .cw a2]=>some ⟨a0,a1,a2⟩
 |_=>none
theorem Mp(cs:List CC)(x:au)(h:rJ cs=some x):Dl x=cs:=by
 unfold rJ at h;split at h<;>cases h;rfl
noncomputable def zB(x:cN):List CC:=[.lit (.int .i64 x.Kind),.lit (.string x.F.Kind),.sl .bf x.F.af,.lit (.int .i64 x.Id),.lit (.int .i64 x.N),.lit (.string x.aX)]
noncomputable def pC(cs:List CC):Option (cN):=match cs with
 |[.lit (.int .i64 a0),.lit (.string a1),.sl .bf a2,.lit (.int .i64 a3),.lit (.int .i64 a4),.lit (.string a5)]=>some ⟨a0,⟨a1,a2⟩,a3,a4,a5⟩
 |_=>none
theorem J9(cs:List CC)(x:cN)(h:pC cs=some x):zB x=cs:=by
 unfold pC at h;split at h<;>cases h;rfl
noncomputable def Dj(x:aF):List CC:=[.lit (.int .i64 x.At),.lit (.string x.F.Kind),.sl .bf x.F.af]
noncomputable def rH(cs:List CC):Option (aF):=match cs with
 |[.lit (.int .i64 a0),.lit (.string a1),.sl .bf a2]=>some ⟨a0,⟨a1,a2⟩⟩
 |_=>none
theorem Mn(cs:List CC)(x:aF)(h:rH cs=some x):Dj x=cs:=by
 unfold rH at h;split at h<;>cases h;rfl
noncomputable def E4(x:ap):List CC:=[.lit (.string x.F.Kind),.sl .bf x.F.af,.lit (.string x.aX),.lit (.int .i64 x.State),.lit (.int .i64 x.bi),.lit (.int .i64 x.iy),.lit (.int .i64 x.V.K),.lit (.int .i64 x.V.N),.lit (.string x.V.S)]
noncomputable def uk(cs:List CC):Option (ap):=match cs with
 |[.lit (.string a0),.sl .bf a1,.lit (.string a2),.lit (.int .i64 a3),.lit (.int .i64 a4),.lit (.int .i64 a5),.lit (.int .i64 a6),.lit (.int .i64 a7),.lit (.string a8)]=>some ⟨⟨a0,a1⟩,a2,a3,a4,a5,⟨a6,a7,a8⟩⟩
 |_=>none
theorem Oh(cs:List CC)(x:ap)(h:uk cs=some x):E4 x=cs:=by
 unfold uk at h;split at h<;>cases h;rfl
noncomputable def E8(x:ib):List CC:=[.lit (.string x.Key),.lit (.string x.F.Kind),.sl .bf x.F.af,.lit (.int .i64 x.Try)]
noncomputable def uv(cs:List CC):Option (ib):=match cs with
 |[.lit (.string a0),.lit (.string a1),.sl .bf a2,.lit (.int .i64 a3)]=>some ⟨a0,⟨a1,a2⟩,a3⟩
 |_=>none
theorem Oq(cs:List CC)(x:ib)(h:uv cs=some x):E8 x=cs:=by
 unfold uv at h;split at h<;>cases h;rfl
noncomputable def E3(x:br):List CC:=[.lit (.string x.Key),.lit (.string x.F.Kind),.sl .bf x.F.af]
noncomputable def uj(cs:List CC):Option (br):=match cs with
 |[.lit (.string a0),.lit (.string a1),.sl .bf a2]=>some ⟨a0,⟨a1,a2⟩⟩
 |_=>none
theorem Og(cs:List CC)(x:br)(h:uj cs=some x):E3 x=cs:=by
 unfold uj at h;split at h<;>cases h;rfl
noncomputable def ay(x:aj):List CC:=[.sl .aK x.S.aa,.lit (.int .i64 x.S.Next),.sl .av x.aw,.sl .aq x.ae,.sl .ax x.ao,.sl .aI x.ai,.lit (.int .i64 x.State),.lit (.int .i64 x.bB)]
noncomputable def uo(cs:List CC):Option (aj):=match cs with
 |[.sl .aK a0,.lit (.int .i64 a1),.sl .av a2,.sl .aq a3,.sl .ax a4,.sl .aI a5,.lit (.int .i64 a6),.lit (.int .i64 a7)]=>some ⟨⟨a0,a1⟩,a2,a3,a4,a5,a6,a7⟩
 |_=>none
theorem Ol(cs:List CC)(x:aj)(h:uo cs=some x):ay x=cs:=by
 unfold uo at h;split at h<;>cases h;rfl
noncomputable def E2(x:qy):List CC:=[.lit (.string x.Name),.lit (.string x.Y3),.sl .aK x.X.S.aa,.lit (.int .i64 x.X.S.Next),.sl .av x.X.aw,.sl .aq x.X.ae,.sl .ax x.X.ao,.sl .aI x.X.ai,.lit (.int .i64 x.X.State),.lit (.int .i64 x.X.bB)]
noncomputable def ui(cs:List CC):Option (qy):=match cs with
 |[.lit (.string a0),.lit (.string a1),.sl .aK a2,.lit (.int .i64 a3),.sl .av a4,.sl .aq a5,.sl .ax a6,.sl .aI a7,.lit (.int .i64 a8),.lit (.int .i64 a9)]=>some ⟨a0,a1,⟨⟨a2,a3⟩,a4,a5,a6,a7,a8,a9⟩⟩
 |_=>none
theorem Of(cs:List CC)(x:qy)(h:ui cs=some x):E2 x=cs:=by
 unfold ui at h;split at h<;>cases h;rfl
noncomputable def E9(x:ko):List CC:=[.sl .gJ x.nD,.sl .kk x.iS,.lit (.int .i64 x.bB),.lit (.int .i64 x.za)]
noncomputable def uw(cs:List CC):Option (ko):=match cs with
 |[.sl .gJ a0,.sl .kk a1,.lit (.int .i64 a2),.lit (.int .i64 a3)]=>some ⟨a0,a1,a2,a3⟩
 |_=>none
theorem Ot(cs:List CC)(x:ko)(h:uw cs=some x):E9 x=cs:=by
 unfold uw at h;split at h<;>cases h;rfl
noncomputable def Cd.enc:(τ:Cd)->τ.T->List CC
 | .int,x=>Ar x
 | .byte,x=>xf x
 | .str,x=>Aq x
 | .bf,x=>xd x
 | .cU,x=>E7 x
 | .aK,x=>E6 x
 | .dD,x=>Dk x
 | .im,x=>xe x
 | .ey,x=>IR x
 | .cw,x=>uf x
 | .cM,x=>ue x
 | .bN,x=>ud x
 | .eJ,x=>IT x
 | .cv,x=>E5 x
 | .gJ,x=>IS x
 | .av,x=>Dl x
 | .dz,x=>zB x
 | .ax,x=>Dj x
 | .aq,x=>E4 x
 | .dw,x=>E8 x
 | .aI,x=>E3 x
 | .bY,x=>ay x
 | .kk,x=>E2 x
 | .ny,x=>E9 x
noncomputable def Cd.dec:(τ:Cd)->List CC->Option τ.T
 | .int,cs=>Av cs
 | .byte,cs=>xm cs
 | .str,cs=>Au cs
 | .bf,cs=>xh cs
 | .cU,cs=>uq cs
 | .aK,cs=>um cs
 | .dD,cs=>rI cs
 | .im,cs=>xk cs
 | .ey,cs=>xi cs
 | .cw,cs=>ux cs
 | .cM,cs=>uu cs
 | .bN,cs=>ur cs
 | .eJ,cs=>xl cs
 | .cv,cs=>ul cs
 | .gJ,cs=>xj cs
 | .av,cs=>rJ cs
 | .dz,cs=>pC cs
 | .ax,cs=>rH cs
 | .aq,cs=>uk cs
 | .dw,cs=>uv cs
 | .aI,cs=>uj cs
 | .bY,cs=>uo cs
 | .kk,cs=>ui cs
 | .ny,cs=>uw cs
noncomputable def du:aU:=⟨0,0,ah⟩
noncomputable def uX:aO:=⟨ah,[]⟩
noncomputable def bj:bW:=⟨0,⟨ah,[]⟩⟩
noncomputable def VX:aG:=⟨[],0⟩
noncomputable def l8:cP:=⟨0,ah,⟨0,0,ah⟩⟩
noncomputable def cr:ck:=⟨ah,[],false⟩
noncomputable def sj:bQ:=⟨ah,⟨0,0,ah⟩⟩
noncomputable def pe:dt:=⟨0,⟨0,ah,⟨0,0,ah⟩⟩,⟨0,ah,⟨0,0,ah⟩⟩⟩
noncomputable def ez:cj:=⟨ah,⟨0,ah,⟨0,0,ah⟩⟩,⟨0,ah,⟨0,0,ah⟩⟩⟩
noncomputable def cQ:dQ:=⟨0,ah,[],0,ah⟩
noncomputable def cB:a_:=⟨ah,0,[],[],[]⟩
noncomputable def JF:aZ:=⟨ah,[]⟩
noncomputable def bh:au:=⟨0,[],[]⟩
noncomputable def tK:cN:=⟨0,⟨ah,[]⟩,0,0,ah⟩
noncomputable def cq:aF:=⟨0,⟨ah,[]⟩⟩
noncomputable def aB:ap:=⟨⟨ah,[]⟩,ah,0,0,0,⟨0,0,ah⟩⟩
noncomputable def Tu:ib:=⟨ah,⟨ah,[]⟩,0⟩
noncomputable def bM:br:=⟨ah,⟨ah,[]⟩⟩
noncomputable def Tt:aj:=⟨⟨[],0⟩,[],[],[],[],0,0⟩
noncomputable def Cf:qy:=⟨ah,ah,⟨⟨[],0⟩,[],[],[],[],0,0⟩⟩
noncomputable def ZJ:ko:=⟨[],[],0,0⟩
noncomputable def Cd.ee:(τ:Cd)->τ.T
 | .int=>(0:Int)
 | .byte=>(0:Int)
 | .str=>(ah:ByteArray)
 | .bf=>du
 | .cU=>uX
 | .aK=>bj
 | .dD=>VX
 | .im=>l8
 | .ey=>cr
 | .cw=>sj
 | .cM=>pe
 | .bN=>ez
 | .eJ=>cQ
 | .cv=>cB
 | .gJ=>JF
 | .av=>bh
 | .dz=>tK
 | .ax=>cq
 | .aq=>aB
 | .dw=>Tu
 | .aI=>bM
 | .bY=>Tt
 | .kk=>Cf
 | .ny=>ZJ
noncomputable def Cd.flat:Cd->Bool
 | .int=>true
 | .byte=>true
 | .str=>true
 | .bf=>true
 | .cU=>false
 | .aK=>false
 | .dD=>false
 | .im=>true
 | .ey=>false
 | .cw=>true
 | .cM=>true
 | .bN=>true
 | .eJ=>false
 | .cv=>false
 | .gJ=>false
 | .av=>false
 | .dz=>false
 | .ax=>false
 | .aq=>false
 | .dw=>false
 | .aI=>false
 | .bY=>false
 | .kk=>false
 | .ny=>false
theorem YB(x:Int)(c:CC)(h:c∈Ar x):∃v,c=.lit v:=by
 simp only[Ar,jF,LX,or_false] at h
 rcases h with rfl<;>exact⟨_,rfl⟩
theorem SK(x:Int)(c:CC)(h:c∈xf x):∃v,c=.lit v:=by
 simp only[xf,jF,LX,or_false] at h
 rcases h with rfl<;>exact⟨_,rfl⟩
theorem YA(x:ByteArray)(c:CC)(h:c∈Aq x):∃v,c=.lit v:=by
 simp only[Aq,jF,LX,or_false] at h
 rcases h with rfl<;>exact⟨_,rfl⟩
theorem SI(x:aU)(c:CC)(h:c∈xd x):∃v,c=.lit v:=by
 simp only[xd,jF,LX,or_false] at h
 rcases h with rfl|rfl|rfl<;>exact⟨_,rfl⟩
theorem SJ(x:cP)(c:CC)(h:c∈xe x):∃v,c=.lit v:=by
 simp only[xe,jF,LX,or_false] at h
 rcases h with rfl|rfl|rfl|rfl|rfl<;>exact⟨_,rfl⟩
theorem PF(x:bQ)(c:CC)(h:c∈uf x):∃v,c=.lit v:=by
 simp only[uf,jF,LX,or_false] at h
 rcases h with rfl|rfl|rfl|rfl<;>exact⟨_,rfl⟩
theorem PE(x:dt)(c:CC)(h:c∈ue x):∃v,c=.lit v:=by
 simp only[ue,jF,LX,or_false] at h
 rcases h with rfl|rfl|rfl|rfl|rfl|rfl|rfl|rfl|rfl|rfl|rfl<;>exact⟨_,rfl⟩
theorem PD(x:cj)(c:CC)(h:c∈ud x):∃v,c=.lit v:=by
 simp only[ud,jF,LX,or_false] at h
 rcases h with rfl|rfl|rfl|rfl|rfl|rfl|rfl|rfl|rfl|rfl|rfl<;>exact⟨_,rfl⟩
noncomputable abbrev UU:kz where
 Ty:=Cd
 T:=Cd.T
 deq:=inferInstance
 wd:=Cd.wd
 enc:=Cd.enc
 dec:=Cd.dec
 ee:=Cd.ee
 flat:=Cd.flat
 Lw:=by
  intro τ h x c hc
  cases τ
  case int=>exact YB x c hc
  case byte=>exact SK x c hc
  case str=>exact YA x c hc
  case bf=>exact SI x c hc
  case cU=>cases h
  case aK=>cases h
  case dD=>cases h
  case im=>exact SJ x c hc
  case ey=>cases h
  case cw=>exact PF x c hc
  case cM=>exact PE x c hc
  case bN=>exact PD x c hc
  case eJ=>cases h
  case cv=>cases h
  case gJ=>cases h
  case av=>cases h
  case dz=>cases h
  case ax=>cases h
  case aq=>cases h
  case dw=>cases h
  case aI=>cases h
  case bY=>cases h
  case kk=>cases h
  case ny=>cases h
 nR:=.byte
 Tx:=fun x=>x
 ofB:=fun x=>x
 KV:=fun _=>rfl
 E_:=fun _=>rfl
 kp:=by intro τ;cases τ<;>decide
 cY:=by intro τ x;cases τ<;>rfl
 lK:=by
  intro τ cs x h
  cases τ
  case int=>exact ok_int cs x h
  case byte=>exact R2 cs x h
  case str=>exact Xb cs x h
  case bf=>exact RX cs x h
  case cU=>exact Om cs x h
  case aK=>exact Oj cs x h
  case dD=>exact Mo cs x h
  case im=>exact R0 cs x h
  case ey=>exact RY cs x h
  case cw=>exact Ou cs x h
  case cM=>exact Oo cs x h
  case bN=>exact On cs x h
  case eJ=>exact R1 cs x h
  case cv=>exact Oi cs x h
  case gJ=>exact RZ cs x h
  case av=>exact Mp cs x h
  case dz=>exact J9 cs x h
  case ax=>exact Mn cs x h
  case aq=>exact Oh cs x h
  case dw=>exact Oq cs x h
  case aI=>exact Og cs x h
  case bY=>exact Ol cs x h
  case kk=>exact Of cs x h
  case ny=>exact Ot cs x h
abbrev gH(l:List (DV UU)):List (DV UU):=l
def Lf(a b:List (DV UU)):Prop:=a=b/\gH []=gH []
end
end AM
