/- THE DATA TYPES OF THE PROGRAM: written by gen/types.py. A code with an l ahead is the mirror type of the package laws. -/
import Derived.Test.YtpkdgcookaobfaaGreatDoorQAmCore
namespace AM
open Go
noncomputable section
structure aS where
 K:Int
 N:Int
 S:ByteArray
structure aK where
 Kind:ByteArray
 ah:List aS
structure bN where
 Id:Int
 F:aK
structure aF where
 ab:List bN
 Next:Int
structure cI where
 K:Int
 S:ByteArray
 V:aS
structure cr where
 Kind:ByteArray
 az:List cI
 Not:Bool
structure bZ where
 Name:ByteArray
 V:aS
structure dy where
 Op:Int
 L:cI
 R:cI
structure ct where
 Op:ByteArray
 L:cI
 R:cI
structure ew where
 Kind:Int
 Name:ByteArray
 az:List ct
 N:Int
 aR:ByteArray
structure bf where
 Name:ByteArray
 je:Int
 aH:List cr
 aU:List dy
 bI:List ew
structure br where
 Name:ByteArray
 aA:List bf
structure aw where
 cG:Int
 ee:List Int
 bz:List bZ
structure de where
 Kind:Int
 F:aK
 Id:Int
 N:Int
 aR:ByteArray
structure aN where
 At:Int
 F:aK
structure aj where
 F:aK
 aR:ByteArray
 State:Int
 bi:Int
 ie:Int
 V:aS
structure qj where
 Key:ByteArray
 F:aK
 Try:Int
structure bq where
 Key:ByteArray
 F:aK
structure aq where
 S:aF
 ay:List aw
 ag:List aj
 ap:List aN
 av:List bq
 State:Int
 bR:Int
structure sB where
 Name:ByteArray
 Def:ByteArray
 X:aq
structure k_ where
 oN:List br
 jB:List sB
 bR:Int
 AH:Int
inductive Cd where
 |int|byte|str|bc|dc|aJ|cT|gB|du|cv|ca|bJ|dx|bE|hH|aE|eo|aI|ax|k8|aL|cf|kZ|oz
 deriving DecidableEq
noncomputable def Cd.T:Cd->Type
 | .int=>Int
 | .byte=>Int
 | .str=>ByteArray
 | .bc=>aS
 | .dc=>aK
 | .aJ=>bN
 | .cT=>aF
 | .gB=>cI
 | .du=>cr
 | .cv=>bZ
 | .ca=>dy
 | .bJ=>ct
 | .dx=>ew
 | .bE=>bf
 | .hH=>br
 | .aE=>aw
 | .eo=>de
 | .aI=>aN
 | .ax=>aj
 | .k8=>qj
 | .aL=>bq
 | .cf=>aq
 | .kZ=>sB
 | .oz=>k_
abbrev CC:=Cell Cd Cd.T
noncomputable def ao:ByteArray:=ByteArray.empty
noncomputable def Cd.wd:Cd->Nat
 | .int=>1
 | .byte=>1
 | .str=>1
 | .bc=>3
 | .dc=>2
 | .aJ=>3
 | .cT=>2
 | .gB=>5
 | .du=>3
 | .cv=>4
 | .ca=>11
 | .bJ=>11
 | .dx=>5
 | .bE=>5
 | .hH=>2
 | .aE=>3
 | .eo=>6
 | .aI=>3
 | .ax=>9
 | .k8=>4
 | .aL=>3
 | .cf=>8
 | .kZ=>10
 | .oz=>4
noncomputable def B4(x:Int):List CC:=[.lit (.int .i64 x)]
noncomputable def B6(cs:List CC):Option (Int):=match cs with
 |[.lit (.int .i64 a0)]=>some a0
 |_=>none
theorem ok_int(cs:List CC)(x:Int)(h:B6 cs=some x):B4 x=cs:=by
 unfold B6 at h;split at h<;>cases h;rfl
noncomputable def yB(x:Int):List CC:=[.lit (.int .u8 x)]
noncomputable def yK(cs:List CC):Option (Int):=match cs with
 |[.lit (.int .u8 a0)]=>some a0
 |_=>none
theorem Vw(cs:List CC)(x:Int)(h:yK cs=some x):yB x=cs:=by
 unfold yK at h;split at h<;>cases h;rfl
noncomputable def B3(x:ByteArray):List CC:=[.lit (.string x)]
noncomputable def B5(cs:List CC):Option (ByteArray):=match cs with
 |[.lit (.string a0)]=>some a0
 |_=>none
theorem aaq(cs:List CC)(x:ByteArray)(h:B5 cs=some x):B3 x=cs:=by
 unfold B5 at h;split at h<;>cases h;rfl
noncomputable def yz(x:aS):List CC:=[.lit (.int .i64 x.K),.lit (.int .i64 x.N),.lit (.string x.S)]
noncomputable def yE(cs:List CC):Option (aS):=match cs with
 |[.lit (.int .i64 a0),.lit (.int .i64 a1),.lit (.string a2)]=>some ⟨a0,a1,a2⟩
 |_=>none
theorem Vr(cs:List CC)(x:aS)(h:yE cs=some x):yz x=cs:=by
 unfold yE at h;split at h<;>cases h;rfl
noncomputable def Hd(x:aK):List CC:=[.lit (.string x.Kind),.sl .bc x.ah]
noncomputable def vN(cs:List CC):Option (aK):=match cs with
 |[.lit (.string a0),.sl .bc a1]=>some ⟨a0,a1⟩
 |_=>none
theorem RF(cs:List CC)(x:aK)(h:vN cs=some x):Hd x=cs:=by
 unfold vN at h;split at h<;>cases h;rfl
noncomputable def Hc(x:bN):List CC:=[.lit (.int .i64 x.Id),.lit (.string x.F.Kind),.sl .bc x.F.ah]
noncomputable def vL(cs:List CC):Option (bN):=match cs with
 |[.lit (.int .i64 a0),.lit (.string a1),.sl .bc a2]=>some ⟨a0,⟨a1,a2⟩⟩
 |_=>none
theorem RC(cs:List CC)(x:bN)(h:vL cs=some x):Hc x=cs:=by
 unfold vL at h;split at h<;>cases h;rfl
noncomputable def E3(x:aF):List CC:=[.sl .aJ x.ab,.lit (.int .i64 x.Next)]
noncomputable def tp(cs:List CC):Option (aF):=match cs with
 |[.sl .aJ a0,.lit (.int .i64 a1)]=>some ⟨a0,a1⟩
 |_=>none
theorem Pv(cs:List CC)(x:aF)(h:tp cs=some x):E3 x=cs:=by
 unfold tp at h;split at h<;>cases h;rfl
noncomputable def yA(x:cI):List CC:=[.lit (.int .i64 x.K),.lit (.string x.S),.lit (.int .i64 x.V.K),.lit (.int .i64 x.V.N),.lit (.string x.V.S)]
noncomputable def yI(cs:List CC):Option (cI):=match cs with
 |[.lit (.int .i64 a0),.lit (.string a1),.lit (.int .i64 a2),.lit (.int .i64 a3),.lit (.string a4)]=>some ⟨a0,a1,⟨a2,a3,a4⟩⟩
 |_=>none
theorem Vu(cs:List CC)(x:cI)(h:yI cs=some x):yA x=cs:=by
 unfold yI at h;split at h<;>cases h;rfl
noncomputable def Ls(x:cr):List CC:=[.lit (.string x.Kind),.sl .gB x.az,.lit (.bool x.Not)]
noncomputable def yG(cs:List CC):Option (cr):=match cs with
 |[.lit (.string a0),.sl .gB a1,.lit (.bool a2)]=>some ⟨a0,a1,a2⟩
 |_=>none
theorem Vs(cs:List CC)(x:cr)(h:yG cs=some x):Ls x=cs:=by
 unfold yG at h;split at h<;>cases h;rfl
noncomputable def vF(x:bZ):List CC:=[.lit (.string x.Name),.lit (.int .i64 x.V.K),.lit (.int .i64 x.V.N),.lit (.string x.V.S)]
noncomputable def vS(cs:List CC):Option (bZ):=match cs with
 |[.lit (.string a0),.lit (.int .i64 a1),.lit (.int .i64 a2),.lit (.string a3)]=>some ⟨a0,⟨a1,a2,a3⟩⟩
 |_=>none
theorem RK(cs:List CC)(x:bZ)(h:vS cs=some x):vF x=cs:=by
 unfold vS at h;split at h<;>cases h;rfl
noncomputable def vD(x:dy):List CC:=[.lit (.int .i64 x.Op),.lit (.int .i64 x.L.K),.lit (.string x.L.S),.lit (.int .i64 x.L.V.K),.lit (.int .i64 x.L.V.N),.lit (.string x.L.V.S),.lit (.int .i64 x.R.K),.lit (.string x.R.S),.lit (.int .i64 x.R.V.K),.lit (.int .i64 x.R.V.N),.lit (.string x.R.V.S)]
noncomputable def vP(cs:List CC):Option (dy):=match cs with
 |[.lit (.int .i64 a0),.lit (.int .i64 a1),.lit (.string a2),.lit (.int .i64 a3),.lit (.int .i64 a4),.lit (.string a5),.lit (.int .i64 a6),.lit (.string a7),.lit (.int .i64 a8),.lit (.int .i64 a9),.lit (.string a10)]=>some ⟨a0,⟨a1,a2,⟨a3,a4,a5⟩⟩,⟨a6,a7,⟨a8,a9,a10⟩⟩⟩
 |_=>none
theorem RH(cs:List CC)(x:dy)(h:vP cs=some x):vD x=cs:=by
 unfold vP at h;split at h<;>cases h;rfl
noncomputable def vC(x:ct):List CC:=[.lit (.string x.Op),.lit (.int .i64 x.L.K),.lit (.string x.L.S),.lit (.int .i64 x.L.V.K),.lit (.int .i64 x.L.V.N),.lit (.string x.L.V.S),.lit (.int .i64 x.R.K),.lit (.string x.R.S),.lit (.int .i64 x.R.V.K),.lit (.int .i64 x.R.V.N),.lit (.string x.R.V.S)]
noncomputable def vO(cs:List CC):Option (ct):=match cs with
 |[.lit (.string a0),.lit (.int .i64 a1),.lit (.string a2),.lit (.int .i64 a3),.lit (.int .i64 a4),.lit (.string a5),.lit (.int .i64 a6),.lit (.string a7),.lit (.int .i64 a8),.lit (.int .i64 a9),.lit (.string a10)]=>some ⟨a0,⟨a1,a2,⟨a3,a4,a5⟩⟩,⟨a6,a7,⟨a8,a9,a10⟩⟩⟩
 |_=>none
theorem RG(cs:List CC)(x:ct)(h:vO cs=some x):vC x=cs:=by
 unfold vO at h;split at h<;>cases h;rfl
noncomputable def Lu(x:ew):List CC:=[.lit (.int .i64 x.Kind),.lit (.string x.Name),.sl .bJ x.az,.lit (.int .i64 x.N),.lit (.string x.aR)]
noncomputable def yJ(cs:List CC):Option (ew):=match cs with
 |[.lit (.int .i64 a0),.lit (.string a1),.sl .bJ a2,.lit (.int .i64 a3),.lit (.string a4)]=>some ⟨a0,a1,a2,a3,a4⟩
 |_=>none
theorem Vv(cs:List CC)(x:ew)(h:yJ cs=some x):Lu x=cs:=by
 unfold yJ at h;split at h<;>cases h;rfl
noncomputable def Hb(x:bf):List CC:=[.lit (.string x.Name),.lit (.int .i64 x.je),.sl .du x.aH,.sl .ca x.aU,.sl .dx x.bI]
noncomputable def vK(cs:List CC):Option (bf):=match cs with
 |[.lit (.string a0),.lit (.int .i64 a1),.sl .du a2,.sl .ca a3,.sl .dx a4]=>some ⟨a0,a1,a2,a3,a4⟩
 |_=>none
theorem RB(cs:List CC)(x:bf)(h:vK cs=some x):Hb x=cs:=by
 unfold vK at h;split at h<;>cases h;rfl
noncomputable def Lt(x:br):List CC:=[.lit (.string x.Name),.sl .bE x.aA]
noncomputable def yH(cs:List CC):Option (br):=match cs with
 |[.lit (.string a0),.sl .bE a1]=>some ⟨a0,a1⟩
 |_=>none
theorem Vt(cs:List CC)(x:br)(h:yH cs=some x):Lt x=cs:=by
 unfold yH at h;split at h<;>cases h;rfl
noncomputable def E4(x:aw):List CC:=[.lit (.int .i64 x.cG),.sl .int x.ee,.sl .cv x.bz]
noncomputable def tq(cs:List CC):Option (aw):=match cs with
 |[.lit (.int .i64 a0),.sl .int a1,.sl .cv a2]=>some ⟨a0,a1,a2⟩
 |_=>none
theorem Pw(cs:List CC)(x:aw)(h:tq cs=some x):E4 x=cs:=by
 unfold tq at h;split at h<;>cases h;rfl
noncomputable def Bm(x:de):List CC:=[.lit (.int .i64 x.Kind),.lit (.string x.F.Kind),.sl .bc x.F.ah,.lit (.int .i64 x.Id),.lit (.int .i64 x.N),.lit (.string x.aR)]
noncomputable def qZ(cs:List CC):Option (de):=match cs with
 |[.lit (.int .i64 a0),.lit (.string a1),.sl .bc a2,.lit (.int .i64 a3),.lit (.int .i64 a4),.lit (.string a5)]=>some ⟨a0,⟨a1,a2⟩,a3,a4,a5⟩
 |_=>none
theorem MW(cs:List CC)(x:de)(h:qZ cs=some x):Bm x=cs:=by
 unfold qZ at h;split at h<;>cases h;rfl
noncomputable def E2(x:aN):List CC:=[.lit (.int .i64 x.At),.lit (.string x.F.Kind),.sl .bc x.F.ah]
noncomputable def tn(cs:List CC):Option (aN):=match cs with
 |[.lit (.int .i64 a0),.lit (.string a1),.sl .bc a2]=>some ⟨a0,⟨a1,a2⟩⟩
 |_=>none
theorem Pu(cs:List CC)(x:aN)(h:tn cs=some x):E2 x=cs:=by
 unfold tn at h;split at h<;>cases h;rfl
noncomputable def Ha(x:aj):List CC:=[.lit (.string x.F.Kind),.sl .bc x.F.ah,.lit (.string x.aR),.lit (.int .i64 x.State),.lit (.int .i64 x.bi),.lit (.int .i64 x.ie),.lit (.int .i64 x.V.K),.lit (.int .i64 x.V.N),.lit (.string x.V.S)]
noncomputable def vJ(cs:List CC):Option (aj):=match cs with
 |[.lit (.string a0),.sl .bc a1,.lit (.string a2),.lit (.int .i64 a3),.lit (.int .i64 a4),.lit (.int .i64 a5),.lit (.int .i64 a6),.lit (.int .i64 a7),.lit (.string a8)]=>some ⟨⟨a0,a1⟩,a2,a3,a4,a5,⟨a6,a7,a8⟩⟩
 |_=>none
theorem Rz(cs:List CC)(x:aj)(h:vJ cs=some x):Ha x=cs:=by
 unfold vJ at h;split at h<;>cases h;rfl
noncomputable def He(x:qj):List CC:=[.lit (.string x.Key),.lit (.string x.F.Kind),.sl .bc x.F.ah,.lit (.int .i64 x.Try)]
noncomputable def vQ(cs:List CC):Option (qj):=match cs with
 |[.lit (.string a0),.lit (.string a1),.sl .bc a2,.lit (.int .i64 a3)]=>some ⟨a0,⟨a1,a2⟩,a3⟩
 |_=>none
theorem RI(cs:List CC)(x:qj)(h:vQ cs=some x):He x=cs:=by
 unfold vQ at h;split at h<;>cases h;rfl
noncomputable def G_(x:bq):List CC:=[.lit (.string x.Key),.lit (.string x.F.Kind),.sl .bc x.F.ah]
noncomputable def vI(cs:List CC):Option (bq):=match cs with
 |[.lit (.string a0),.lit (.string a1),.sl .bc a2]=>some ⟨a0,⟨a1,a2⟩⟩
 |_=>none
theorem Ry(cs:List CC)(x:bq)(h:vI cs=some x):G_ x=cs:=by
 unfold vI at h;split at h<;>cases h;rfl
noncomputable def aG(x:aq):List CC:=[.sl .aJ x.S.ab,.lit (.int .i64 x.S.Next),.sl .aE x.ay,.sl .ax x.ag,.sl .aI x.ap,.sl .aL x.av,.lit (.int .i64 x.State),.lit (.int .i64 x.bR)]
noncomputable def vM(cs:List CC):Option (aq):=match cs with
 |[.sl .aJ a0,.lit (.int .i64 a1),.sl .aE a2,.sl .ax a3,.sl .aI a4,.sl .aL a5,.lit (.int .i64 a6),.lit (.int .i64 a7)]=>some ⟨⟨a0,a1⟩,a2,a3,a4,a5,a6,a7⟩
 |_=>none
theorem RE(cs:List CC)(x:aq)(h:vM cs=some x):aG x=cs:=by
 unfold vM at h;split at h<;>cases h;rfl
noncomputable def G'(x:sB):List CC:=[.lit (.string x.Name),.lit (.string x.Def),.sl .aJ x.X.S.ab,.lit (.int .i64 x.X.S.Next),.sl .aE x.X.ay,.sl .ax x.X.ag,.sl .aI x.X.ap,.sl .aL x.X.av,.lit (.int .i64 x.X.State),.lit (.int .i64 x.X.bR)]
noncomputable def vH(cs:List CC):Option (sB):=match cs with
 |[.lit (.string a0),.lit (.string a1),.sl .aJ a2,.lit (.int .i64 a3),.sl .aE a4,.sl .ax a5,.sl .aI a6,.sl .aL a7,.lit (.int .i64 a8),.lit (.int .i64 a9)]=>some ⟨a0,a1,⟨⟨a2,a3⟩,a4,a5,a6,a7,a8,a9⟩⟩
 |_=>none
theorem Rx(cs:List CC)(x:sB)(h:vH cs=some x):G' x=cs:=by
 unfold vH at h;split at h<;>cases h;rfl
noncomputable def Hf(x:k_):List CC:=[.sl .hH x.oN,.sl .kZ x.jB,.lit (.int .i64 x.bR),.lit (.int .i64 x.AH)]
noncomputable def vR(cs:List CC):Option (k_):=match cs with
 |[.sl .hH a0,.sl .kZ a1,.lit (.int .i64 a2),.lit (.int .i64 a3)]=>some ⟨a0,a1,a2,a3⟩
 |_=>none
theorem RJ(cs:List CC)(x:k_)(h:vR cs=some x):Hf x=cs:=by
 unfold vR at h;split at h<;>cases h;rfl
noncomputable def Cd.enc:(τ:Cd)->τ.T->List CC
 | .int,x=>B4 x
 | .byte,x=>yB x
 | .str,x=>B3 x
 | .bc,x=>yz x
 | .dc,x=>Hd x
 | .aJ,x=>Hc x
 | .cT,x=>E3 x
 | .gB,x=>yA x
 | .du,x=>Ls x
 | .cv,x=>vF x
 | .ca,x=>vD x
 | .bJ,x=>vC x
 | .dx,x=>Lu x
 | .bE,x=>Hb x
 | .hH,x=>Lt x
 | .aE,x=>E4 x
 | .eo,x=>Bm x
 | .aI,x=>E2 x
 | .ax,x=>Ha x
 | .k8,x=>He x
 | .aL,x=>G_ x
 | .cf,x=>aG x
 | .kZ,x=>G' x
 | .oz,x=>Hf x
noncomputable def Cd.dec:(τ:Cd)->List CC->Option τ.T
 | .int,cs=>B6 cs
 | .byte,cs=>yK cs
 | .str,cs=>B5 cs
 | .bc,cs=>yE cs
 | .dc,cs=>vN cs
 | .aJ,cs=>vL cs
 | .cT,cs=>tp cs
 | .gB,cs=>yI cs
 | .du,cs=>yG cs
 | .cv,cs=>vS cs
 | .ca,cs=>vP cs
 | .bJ,cs=>vO cs
 | .dx,cs=>yJ cs
 | .bE,cs=>vK cs
 | .hH,cs=>yH cs
 | .aE,cs=>tq cs
 | .eo,cs=>qZ cs
 | .aI,cs=>tn cs
 | .ax,cs=>vJ cs
 | .k8,cs=>vQ cs
 | .aL,cs=>vI cs
 | .cf,cs=>vM cs
 | .kZ,cs=>vH cs
 | .oz,cs=>vR cs
noncomputable def dE:aS:=⟨0,0,ao⟩
noncomputable def ur:aK:=⟨ao,[]⟩
noncomputable def a_:bN:=⟨0,⟨ao,[]⟩⟩
noncomputable def Zg:aF:=⟨[],0⟩
noncomputable def mJ:cI:=⟨0,ao,⟨0,0,ao⟩⟩
noncomputable def cC:cr:=⟨ao,[],false⟩
noncomputable def tQ:bZ:=⟨ao,⟨0,0,ao⟩⟩
noncomputable def qB:dy:=⟨0,⟨0,ao,⟨0,0,ao⟩⟩,⟨0,ao,⟨0,0,ao⟩⟩⟩
noncomputable def eY:ct:=⟨ao,⟨0,ao,⟨0,0,ao⟩⟩,⟨0,ao,⟨0,0,ao⟩⟩⟩
noncomputable def dh:ew:=⟨0,ao,[],0,ao⟩
noncomputable def cq:bf:=⟨ao,0,[],[],[]⟩
noncomputable def Mu:br:=⟨ao,[]⟩
noncomputable def aZ:aw:=⟨0,[],[]⟩
noncomputable def vo:de:=⟨0,⟨ao,[]⟩,0,0,ao⟩
noncomputable def cO:aN:=⟨0,⟨ao,[]⟩⟩
noncomputable def aD:aj:=⟨⟨ao,[]⟩,ao,0,0,0,⟨0,0,ao⟩⟩
noncomputable def ab7:qj:=⟨ao,⟨ao,[]⟩,0⟩
noncomputable def bS:bq:=⟨ao,⟨ao,[]⟩⟩
noncomputable def WS:aq:=⟨⟨[],0⟩,[],[],[],[],0,0⟩
noncomputable def DK:sB:=⟨ao,ao,⟨⟨[],0⟩,[],[],[],[],0,0⟩⟩
noncomputable def ab8:k_:=⟨[],[],0,0⟩
noncomputable def Cd.e6:(τ:Cd)->τ.T
 | .int=>(0:Int)
 | .byte=>(0:Int)
 | .str=>(ao:ByteArray)
 | .bc=>dE
 | .dc=>ur
 | .aJ=>a_
 | .cT=>Zg
 | .gB=>mJ
 | .du=>cC
 | .cv=>tQ
 | .ca=>qB
 | .bJ=>eY
 | .dx=>dh
 | .bE=>cq
 | .hH=>Mu
 | .aE=>aZ
 | .eo=>vo
 | .aI=>cO
 | .ax=>aD
 | .k8=>ab7
 | .aL=>bS
 | .cf=>WS
 | .kZ=>DK
 | .oz=>ab8
noncomputable def Cd.flat:Cd->Bool
 | .int=>true
 | .byte=>true
 | .str=>true
 | .bc=>true
 | .dc=>false
 | .aJ=>false
 | .cT=>false
 | .gB=>true
 | .du=>false
 | .cv=>true
 | .ca=>true
 | .bJ=>true
 | .dx=>false
 | .bE=>false
 | .hH=>false
 | .aE=>false
 | .eo=>false
 | .aI=>false
 | .ax=>false
 | .k8=>false
 | .aL=>false
 | .cf=>false
 | .kZ=>false
 | .oz=>false
theorem abw(x:Int)(c:CC)(h:c∈B4 x):∃v,c=.lit v:=by
 simp only[B4,jZ,NG,or_false] at h
 rcases h with rfl<;>exact⟨_,rfl⟩
theorem Wf(x:Int)(c:CC)(h:c∈yB x):∃v,c=.lit v:=by
 simp only[yB,jZ,NG,or_false] at h
 rcases h with rfl<;>exact⟨_,rfl⟩
theorem abv(x:ByteArray)(c:CC)(h:c∈B3 x):∃v,c=.lit v:=by
 simp only[B3,jZ,NG,or_false] at h
 rcases h with rfl<;>exact⟨_,rfl⟩
theorem Wd(x:aS)(c:CC)(h:c∈yz x):∃v,c=.lit v:=by
 simp only[yz,jZ,NG,or_false] at h
 rcases h with rfl|rfl|rfl<;>exact⟨_,rfl⟩
theorem We(x:cI)(c:CC)(h:c∈yA x):∃v,c=.lit v:=by
 simp only[yA,jZ,NG,or_false] at h
 rcases h with rfl|rfl|rfl|rfl|rfl<;>exact⟨_,rfl⟩
theorem SS(x:bZ)(c:CC)(h:c∈vF x):∃v,c=.lit v:=by
 simp only[vF,jZ,NG,or_false] at h
 rcases h with rfl|rfl|rfl|rfl<;>exact⟨_,rfl⟩
theorem SR(x:dy)(c:CC)(h:c∈vD x):∃v,c=.lit v:=by
 simp only[vD,jZ,NG,or_false] at h
 rcases h with rfl|rfl|rfl|rfl|rfl|rfl|rfl|rfl|rfl|rfl|rfl<;>exact⟨_,rfl⟩
theorem SQ(x:ct)(c:CC)(h:c∈vC x):∃v,c=.lit v:=by
 simp only[vC,jZ,NG,or_false] at h
 rcases h with rfl|rfl|rfl|rfl|rfl|rfl|rfl|rfl|rfl|rfl|rfl<;>exact⟨_,rfl⟩
noncomputable abbrev UU:lz where
 Ty:=Cd
 T:=Cd.T
 deq:=inferInstance
 wd:=Cd.wd
 enc:=Cd.enc
 dec:=Cd.dec
 e6:=Cd.e6
 flat:=Cd.flat
 Oj:=by
  intro τ h x c hc
  cases τ
  case int=>exact abw x c hc
  case byte=>exact Wf x c hc
  case str=>exact abv x c hc
  case bc=>exact Wd x c hc
  case dc=>cases h
  case aJ=>cases h
  case cT=>cases h
  case gB=>exact We x c hc
  case du=>cases h
  case cv=>exact SS x c hc
  case ca=>exact SR x c hc
  case bJ=>exact SQ x c hc
  case dx=>cases h
  case bE=>cases h
  case hH=>cases h
  case aE=>cases h
  case eo=>cases h
  case aI=>cases h
  case ax=>cases h
  case k8=>cases h
  case aL=>cases h
  case cf=>cases h
  case kZ=>cases h
  case oz=>cases h
 pk:=.byte
 WV:=fun x=>x
 ofB:=fun x=>x
 NK:=fun _=>rfl
 Hg:=fun _=>rfl
 la:=by intro τ;cases τ<;>decide
 dz:=by intro τ x;cases τ<;>rfl
 mT:=by
  intro τ cs x h
  cases τ
  case int=>exact ok_int cs x h
  case byte=>exact Vw cs x h
  case str=>exact aaq cs x h
  case bc=>exact Vr cs x h
  case dc=>exact RF cs x h
  case aJ=>exact RC cs x h
  case cT=>exact Pv cs x h
  case gB=>exact Vu cs x h
  case du=>exact Vs cs x h
  case cv=>exact RK cs x h
  case ca=>exact RH cs x h
  case bJ=>exact RG cs x h
  case dx=>exact Vv cs x h
  case bE=>exact RB cs x h
  case hH=>exact Vt cs x h
  case aE=>exact Pw cs x h
  case eo=>exact MW cs x h
  case aI=>exact Pu cs x h
  case ax=>exact Rz cs x h
  case k8=>exact RI cs x h
  case aL=>exact Ry cs x h
  case cf=>exact RE cs x h
  case kZ=>exact Rx cs x h
  case oz=>exact RJ cs x h
abbrev dJ(l:List (DV UU)):List (DV UU):=l
def Lf(a b:List (DV UU)):Prop:=a=b/\dJ []=dJ []
end
end AM
