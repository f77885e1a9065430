/- THE DATA TYPES OF THE PROGRAM: written by gen/types.py. A code with an l ahead is the mirror type of the package laws. -/
import Derived.Test.YtjlajhgabffmpaaGreatQAmCore
namespace AM
open Go
noncomputable section
structure a_ where
 K:Int
 N:Int
 S:ByteArray
structure aJ where
 Kind:ByteArray
 ah:List a_
structure bL where
 Id:Int
 F:aJ
structure aF where
 ab:List bL
 Next:Int
structure cN where
 K:Int
 S:ByteArray
 V:a_
structure cr where
 Kind:ByteArray
 av:List cN
 Not:Bool
structure bV where
 Name:ByteArray
 V:a_
structure dB where
 Op:Int
 L:cN
 R:cN
structure cn where
 Op:ByteArray
 L:cN
 R:cN
structure eK where
 Kind:Int
 Name:ByteArray
 av:List cn
 N:Int
 aR:ByteArray
structure aY where
 Name:ByteArray
 jq:Int
 aD:List cr
 aO:List dB
 bH:List eK
structure bp where
 Name:ByteArray
 aw:List aY
structure au where
 cL:Int
 eH:List Int
 bu:List bV
structure cX where
 Kind:Int
 F:aJ
 Id:Int
 N:Int
 aR:ByteArray
structure aK where
 At:Int
 F:aJ
structure ak where
 F:aJ
 aR:ByteArray
 State:Int
 bt:Int
 jF:Int
 V:a_
structure p9 where
 Key:ByteArray
 F:aJ
 Try:Int
structure bj where
 Key:ByteArray
 F:aJ
structure aq where
 S:aF
 aC:List au
 ap:List ak
 ax:List aK
 ay:List bj
 State:Int
 cJ:Int
structure sg where
 Name:ByteArray
 Def:ByteArray
 X:aq
structure k_ where
 ov:List bp
 jN:List sg
 cJ:Int
 AF:Int
inductive Cd where
 |int|byte|str|bc|dk|aH|c_|gH|dE|cv|bT|bG|dG|bz|h_|aB|eD|aI|az|k8|aW|ct|kZ|oi
 deriving DecidableEq
noncomputable def Cd.T:Cd->Type
 | .int=>Int
 | .byte=>Int
 | .str=>ByteArray
 | .bc=>a_
 | .dk=>aJ
 | .aH=>bL
 | .c_=>aF
 | .gH=>cN
 | .dE=>cr
 | .cv=>bV
 | .bT=>dB
 | .bG=>cn
 | .dG=>eK
 | .bz=>aY
 | .h_=>bp
 | .aB=>au
 | .eD=>cX
 | .aI=>aK
 | .az=>ak
 | .k8=>p9
 | .aW=>bj
 | .ct=>aq
 | .kZ=>sg
 | .oi=>k_
abbrev CC:=Cell Cd Cd.T
noncomputable def aj:ByteArray:=ByteArray.empty
noncomputable def Cd.wd:Cd->Nat
 | .int=>1
 | .byte=>1
 | .str=>1
 | .bc=>3
 | .dk=>2
 | .aH=>3
 | .c_=>2
 | .gH=>5
 | .dE=>3
 | .cv=>4
 | .bT=>11
 | .bG=>11
 | .dG=>5
 | .bz=>5
 | .h_=>2
 | .aB=>3
 | .eD=>6
 | .aI=>3
 | .az=>9
 | .k8=>4
 | .aW=>3
 | .ct=>8
 | .kZ=>10
 | .oi=>4
noncomputable def BW(x:Int):List CC:=[.lit (.int .i64 x)]
noncomputable def BY(cs:List CC):Option (Int):=match cs with
 |[.lit (.int .i64 a0)]=>some a0
 |_=>none
theorem ok_int(cs:List CC)(x:Int)(h:BY cs=some x):BW x=cs:=by
 unfold BY at h;split at h<;>cases h;rfl
noncomputable def yt(x:Int):List CC:=[.lit (.int .u8 x)]
noncomputable def yE(cs:List CC):Option (Int):=match cs with
 |[.lit (.int .u8 a0)]=>some a0
 |_=>none
theorem Vt(cs:List CC)(x:Int)(h:yE cs=some x):yt x=cs:=by
 unfold yE at h;split at h<;>cases h;rfl
noncomputable def BV(x:ByteArray):List CC:=[.lit (.string x)]
noncomputable def BX(cs:List CC):Option (ByteArray):=match cs with
 |[.lit (.string a0)]=>some a0
 |_=>none
theorem Z9(cs:List CC)(x:ByteArray)(h:BX cs=some x):BV x=cs:=by
 unfold BX at h;split at h<;>cases h;rfl
noncomputable def yp(x:a_):List CC:=[.lit (.int .i64 x.K),.lit (.int .i64 x.N),.lit (.string x.S)]
noncomputable def yz(cs:List CC):Option (a_):=match cs with
 |[.lit (.int .i64 a0),.lit (.int .i64 a1),.lit (.string a2)]=>some ⟨a0,a1,a2⟩
 |_=>none
theorem Vo(cs:List CC)(x:a_)(h:yz cs=some x):yp x=cs:=by
 unfold yz at h;split at h<;>cases h;rfl
noncomputable def G9(x:aJ):List CC:=[.lit (.string x.Kind),.sl .bc x.ah]
noncomputable def vM(cs:List CC):Option (aJ):=match cs with
 |[.lit (.string a0),.sl .bc a1]=>some ⟨a0,a1⟩
 |_=>none
theorem RM(cs:List CC)(x:aJ)(h:vM cs=some x):G9 x=cs:=by
 unfold vM at h;split at h<;>cases h;rfl
noncomputable def G8(x:bL):List CC:=[.lit (.int .i64 x.Id),.lit (.string x.F.Kind),.sl .bc x.F.ah]
noncomputable def vK(cs:List CC):Option (bL):=match cs with
 |[.lit (.int .i64 a0),.lit (.string a1),.sl .bc a2]=>some ⟨a0,⟨a1,a2⟩⟩
 |_=>none
theorem RK(cs:List CC)(x:bL)(h:vK cs=some x):G8 x=cs:=by
 unfold vK at h;split at h<;>cases h;rfl
noncomputable def E2(x:aF):List CC:=[.sl .aH x.ab,.lit (.int .i64 x.Next)]
noncomputable def s_(cs:List CC):Option (aF):=match cs with
 |[.sl .aH a0,.lit (.int .i64 a1)]=>some ⟨a0,a1⟩
 |_=>none
theorem Pz(cs:List CC)(x:aF)(h:s_ cs=some x):E2 x=cs:=by
 unfold s_ at h;split at h<;>cases h;rfl
noncomputable def yr(x:cN):List CC:=[.lit (.int .i64 x.K),.lit (.string x.S),.lit (.int .i64 x.V.K),.lit (.int .i64 x.V.N),.lit (.string x.V.S)]
noncomputable def yC(cs:List CC):Option (cN):=match cs with
 |[.lit (.int .i64 a0),.lit (.string a1),.lit (.int .i64 a2),.lit (.int .i64 a3),.lit (.string a4)]=>some ⟨a0,a1,⟨a2,a3,a4⟩⟩
 |_=>none
theorem Vr(cs:List CC)(x:cN)(h:yC cs=some x):yr x=cs:=by
 unfold yC at h;split at h<;>cases h;rfl
noncomputable def Lu(x:cr):List CC:=[.lit (.string x.Kind),.sl .gH x.av,.lit (.bool x.Not)]
noncomputable def yA(cs:List CC):Option (cr):=match cs with
 |[.lit (.string a0),.sl .gH a1,.lit (.bool a2)]=>some ⟨a0,a1,a2⟩
 |_=>none
theorem Vp(cs:List CC)(x:cr)(h:yA cs=some x):Lu x=cs:=by
 unfold yA at h;split at h<;>cases h;rfl
noncomputable def vD(x:bV):List CC:=[.lit (.string x.Name),.lit (.int .i64 x.V.K),.lit (.int .i64 x.V.N),.lit (.string x.V.S)]
noncomputable def vR(cs:List CC):Option (bV):=match cs with
 |[.lit (.string a0),.lit (.int .i64 a1),.lit (.int .i64 a2),.lit (.string a3)]=>some ⟨a0,⟨a1,a2,a3⟩⟩
 |_=>none
theorem RR(cs:List CC)(x:bV)(h:vR cs=some x):vD x=cs:=by
 unfold vR at h;split at h<;>cases h;rfl
noncomputable def vC(x:dB):List CC:=[.lit (.int .i64 x.Op),.lit (.int .i64 x.L.K),.lit (.string x.L.S),.lit (.int .i64 x.L.V.K),.lit (.int .i64 x.L.V.N),.lit (.string x.L.V.S),.lit (.int .i64 x.R.K),.lit (.string x.R.S),.lit (.int .i64 x.R.V.K),.lit (.int .i64 x.R.V.N),.lit (.string x.R.V.S)]
noncomputable def vO(cs:List CC):Option (dB):=match cs with
 |[.lit (.int .i64 a0),.lit (.int .i64 a1),.lit (.string a2),.lit (.int .i64 a3),.lit (.int .i64 a4),.lit (.string a5),.lit (.int .i64 a6),.lit (.string a7),.lit (.int .i64 a8),.lit (.int .i64 a9),.lit (.string a10)]=>some ⟨a0,⟨a1,a2,⟨a3,a4,a5⟩⟩,⟨a6,a7,⟨a8,a9,a10⟩⟩⟩
 |_=>none
theorem RO(cs:List CC)(x:dB)(h:vO cs=some x):vC x=cs:=by
 unfold vO at h;split at h<;>cases h;rfl
noncomputable def vB(x:cn):List CC:=[.lit (.string x.Op),.lit (.int .i64 x.L.K),.lit (.string x.L.S),.lit (.int .i64 x.L.V.K),.lit (.int .i64 x.L.V.N),.lit (.string x.L.V.S),.lit (.int .i64 x.R.K),.lit (.string x.R.S),.lit (.int .i64 x.R.V.K),.lit (.int .i64 x.R.V.N),.lit (.string x.R.V.S)]
noncomputable def vN(cs:List CC):Option (cn):=match cs with
 |[.lit (.string a0),.lit (.int .i64 a1),.lit (.string a2),.lit (.int .i64 a3),.lit (.int .i64 a4),.lit (.string a5),.lit (.int .i64 a6),.lit (.string a7),.lit (.int .i64 a8),.lit (.int .i64 a9),.lit (.string a10)]=>some ⟨a0,⟨a1,a2,⟨a3,a4,a5⟩⟩,⟨a6,a7,⟨a8,a9,a10⟩⟩⟩
 |_=>none
theorem RN(cs:List CC)(x:cn)(h:vN cs=some x):vB x=cs:=by
 unfold vN at h;split at h<;>cases h;rfl
noncomputable def Lw(x:eK):List CC:=[.lit (.int .i64 x.Kind),.lit (.string x.Name),.sl .bG x.av,.lit (.int .i64 x.N),.lit (.string x.aR)]
noncomputable def yD(cs:List CC):Option (eK):=match cs with
 |[.lit (.int .i64 a0),.lit (.string a1),.sl .bG a2,.lit (.int .i64 a3),.lit (.string a4)]=>some ⟨a0,a1,a2,a3,a4⟩
 |_=>none
theorem Vs(cs:List CC)(x:eK)(h:yD cs=some x):Lw x=cs:=by
 unfold yD at h;split at h<;>cases h;rfl
noncomputable def G7(x:aY):List CC:=[.lit (.string x.Name),.lit (.int .i64 x.jq),.sl .dE x.aD,.sl .bT x.aO,.sl .dG x.bH]
noncomputable def vJ(cs:List CC):Option (aY):=match cs with
 |[.lit (.string a0),.lit (.int .i64 a1),.sl .dE a2,.sl .bT a3,.sl .dG a4]=>some ⟨a0,a1,a2,a3,a4⟩
 |_=>none
theorem RJ(cs:List CC)(x:aY)(h:vJ cs=some x):G7 x=cs:=by
 unfold vJ at h;split at h<;>cases h;rfl
noncomputable def Lv(x:bp):List CC:=[.lit (.string x.Name),.sl .bz x.aw]
noncomputable def yB(cs:List CC):Option (bp):=match cs with
 |[.lit (.string a0),.sl .bz a1]=>some ⟨a0,a1⟩
 |_=>none
theorem Vq(cs:List CC)(x:bp)(h:yB cs=some x):Lv x=cs:=by
 unfold yB at h;split at h<;>cases h;rfl
noncomputable def E3(x:au):List CC:=[.lit (.int .i64 x.cL),.sl .int x.eH,.sl .cv x.bu]
noncomputable def ta(cs:List CC):Option (au):=match cs with
 |[.lit (.int .i64 a0),.sl .int a1,.sl .cv a2]=>some ⟨a0,a1,a2⟩
 |_=>none
theorem PA(cs:List CC)(x:au)(h:ta cs=some x):E3 x=cs:=by
 unfold ta at h;split at h<;>cases h;rfl
noncomputable def Be(x:cX):List CC:=[.lit (.int .i64 x.Kind),.lit (.string x.F.Kind),.sl .bc x.F.ah,.lit (.int .i64 x.Id),.lit (.int .i64 x.N),.lit (.string x.aR)]
noncomputable def qJ(cs:List CC):Option (cX):=match cs with
 |[.lit (.int .i64 a0),.lit (.string a1),.sl .bc a2,.lit (.int .i64 a3),.lit (.int .i64 a4),.lit (.string a5)]=>some ⟨a0,⟨a1,a2⟩,a3,a4,a5⟩
 |_=>none
theorem MX(cs:List CC)(x:cX)(h:qJ cs=some x):Be x=cs:=by
 unfold qJ at h;split at h<;>cases h;rfl
noncomputable def E1(x:aK):List CC:=[.lit (.int .i64 x.At),.lit (.string x.F.Kind),.sl .bc x.F.ah]
noncomputable def s9(cs:List CC):Option (aK):=match cs with
 |[.lit (.int .i64 a0),.lit (.string a1),.sl .bc a2]=>some ⟨a0,⟨a1,a2⟩⟩
 |_=>none
theorem Py(cs:List CC)(x:aK)(h:s9 cs=some x):E1 x=cs:=by
 unfold s9 at h;split at h<;>cases h;rfl
noncomputable def G6(x:ak):List CC:=[.lit (.string x.F.Kind),.sl .bc x.F.ah,.lit (.string x.aR),.lit (.int .i64 x.State),.lit (.int .i64 x.bt),.lit (.int .i64 x.jF),.lit (.int .i64 x.V.K),.lit (.int .i64 x.V.N),.lit (.string x.V.S)]
noncomputable def vI(cs:List CC):Option (ak):=match cs with
 |[.lit (.string a0),.sl .bc a1,.lit (.string a2),.lit (.int .i64 a3),.lit (.int .i64 a4),.lit (.int .i64 a5),.lit (.int .i64 a6),.lit (.int .i64 a7),.lit (.string a8)]=>some ⟨⟨a0,a1⟩,a2,a3,a4,a5,⟨a6,a7,a8⟩⟩
 |_=>none
theorem RI(cs:List CC)(x:ak)(h:vI cs=some x):G6 x=cs:=by
 unfold vI at h;split at h<;>cases h;rfl
noncomputable def G'(x:p9):List CC:=[.lit (.string x.Key),.lit (.string x.F.Kind),.sl .bc x.F.ah,.lit (.int .i64 x.Try)]
noncomputable def vP(cs:List CC):Option (p9):=match cs with
 |[.lit (.string a0),.lit (.string a1),.sl .bc a2,.lit (.int .i64 a3)]=>some ⟨a0,⟨a1,a2⟩,a3⟩
 |_=>none
theorem RP(cs:List CC)(x:p9)(h:vP cs=some x):G' x=cs:=by
 unfold vP at h;split at h<;>cases h;rfl
noncomputable def G5(x:bj):List CC:=[.lit (.string x.Key),.lit (.string x.F.Kind),.sl .bc x.F.ah]
noncomputable def vH(cs:List CC):Option (bj):=match cs with
 |[.lit (.string a0),.lit (.string a1),.sl .bc a2]=>some ⟨a0,⟨a1,a2⟩⟩
 |_=>none
theorem RH(cs:List CC)(x:bj)(h:vH cs=some x):G5 x=cs:=by
 unfold vH at h;split at h<;>cases h;rfl
noncomputable def aA(x:aq):List CC:=[.sl .aH x.S.ab,.lit (.int .i64 x.S.Next),.sl .aB x.aC,.sl .az x.ap,.sl .aI x.ax,.sl .aW x.ay,.lit (.int .i64 x.State),.lit (.int .i64 x.cJ)]
noncomputable def vL(cs:List CC):Option (aq):=match cs with
 |[.sl .aH a0,.lit (.int .i64 a1),.sl .aB a2,.sl .az a3,.sl .aI a4,.sl .aW a5,.lit (.int .i64 a6),.lit (.int .i64 a7)]=>some ⟨⟨a0,a1⟩,a2,a3,a4,a5,a6,a7⟩
 |_=>none
theorem RL(cs:List CC)(x:aq)(h:vL cs=some x):aA x=cs:=by
 unfold vL at h;split at h<;>cases h;rfl
noncomputable def G4(x:sg):List CC:=[.lit (.string x.Name),.lit (.string x.Def),.sl .aH x.X.S.ab,.lit (.int .i64 x.X.S.Next),.sl .aB x.X.aC,.sl .az x.X.ap,.sl .aI x.X.ax,.sl .aW x.X.ay,.lit (.int .i64 x.X.State),.lit (.int .i64 x.X.cJ)]
noncomputable def vG(cs:List CC):Option (sg):=match cs with
 |[.lit (.string a0),.lit (.string a1),.sl .aH a2,.lit (.int .i64 a3),.sl .aB a4,.sl .az a5,.sl .aI a6,.sl .aW a7,.lit (.int .i64 a8),.lit (.int .i64 a9)]=>some ⟨a0,a1,⟨⟨a2,a3⟩,a4,a5,a6,a7,a8,a9⟩⟩
 |_=>none
theorem RG(cs:List CC)(x:sg)(h:vG cs=some x):G4 x=cs:=by
 unfold vG at h;split at h<;>cases h;rfl
noncomputable def G_(x:k_):List CC:=[.sl .h_ x.ov,.sl .kZ x.jN,.lit (.int .i64 x.cJ),.lit (.int .i64 x.AF)]
noncomputable def vQ(cs:List CC):Option (k_):=match cs with
 |[.sl .h_ a0,.sl .kZ a1,.lit (.int .i64 a2),.lit (.int .i64 a3)]=>some ⟨a0,a1,a2,a3⟩
 |_=>none
theorem RQ(cs:List CC)(x:k_)(h:vQ cs=some x):G_ x=cs:=by
 unfold vQ at h;split at h<;>cases h;rfl
noncomputable def Cd.enc:(τ:Cd)->τ.T->List CC
 | .int,x=>BW x
 | .byte,x=>yt x
 | .str,x=>BV x
 | .bc,x=>yp x
 | .dk,x=>G9 x
 | .aH,x=>G8 x
 | .c_,x=>E2 x
 | .gH,x=>yr x
 | .dE,x=>Lu x
 | .cv,x=>vD x
 | .bT,x=>vC x
 | .bG,x=>vB x
 | .dG,x=>Lw x
 | .bz,x=>G7 x
 | .h_,x=>Lv x
 | .aB,x=>E3 x
 | .eD,x=>Be x
 | .aI,x=>E1 x
 | .az,x=>G6 x
 | .k8,x=>G' x
 | .aW,x=>G5 x
 | .ct,x=>aA x
 | .kZ,x=>G4 x
 | .oi,x=>G_ x
noncomputable def Cd.dec:(τ:Cd)->List CC->Option τ.T
 | .int,cs=>BY cs
 | .byte,cs=>yE cs
 | .str,cs=>BX cs
 | .bc,cs=>yz cs
 | .dk,cs=>vM cs
 | .aH,cs=>vK cs
 | .c_,cs=>s_ cs
 | .gH,cs=>yC cs
 | .dE,cs=>yA cs
 | .cv,cs=>vR cs
 | .bT,cs=>vO cs
 | .bG,cs=>vN cs
 | .dG,cs=>yD cs
 | .bz,cs=>vJ cs
 | .h_,cs=>yB cs
 | .aB,cs=>ta cs
 | .eD,cs=>qJ cs
 | .aI,cs=>s9 cs
 | .az,cs=>vI cs
 | .k8,cs=>vP cs
 | .aW,cs=>vH cs
 | .ct,cs=>vL cs
 | .kZ,cs=>vG cs
 | .oi,cs=>vQ cs
noncomputable def ee:a_:=⟨0,0,aj⟩
noncomputable def ui:aJ:=⟨aj,[]⟩
noncomputable def aX:bL:=⟨0,⟨aj,[]⟩⟩
noncomputable def Y1:aF:=⟨[],0⟩
noncomputable def mG:cN:=⟨0,aj,⟨0,0,aj⟩⟩
noncomputable def cD:cr:=⟨aj,[],false⟩
noncomputable def tJ:bV:=⟨aj,⟨0,0,aj⟩⟩
noncomputable def ql:dB:=⟨0,⟨0,aj,⟨0,0,aj⟩⟩,⟨0,aj,⟨0,0,aj⟩⟩⟩
noncomputable def ff:cn:=⟨aj,⟨0,aj,⟨0,0,aj⟩⟩,⟨0,aj,⟨0,0,aj⟩⟩⟩
noncomputable def dq:eK:=⟨0,aj,[],0,aj⟩
noncomputable def cq:aY:=⟨aj,0,[],[],[]⟩
noncomputable def Mu:bp:=⟨aj,[]⟩
noncomputable def aV:au:=⟨0,[],[]⟩
noncomputable def vi:cX:=⟨0,⟨aj,[]⟩,0,0,aj⟩
noncomputable def cS:aK:=⟨0,⟨aj,[]⟩⟩
noncomputable def aE:ak:=⟨⟨aj,[]⟩,aj,0,0,0,⟨0,0,aj⟩⟩
noncomputable def abH:p9:=⟨aj,⟨aj,[]⟩,0⟩
noncomputable def bP:bj:=⟨aj,⟨aj,[]⟩⟩
noncomputable def WK:aq:=⟨⟨[],0⟩,[],[],[],[],0,0⟩
noncomputable def DC:sg:=⟨aj,aj,⟨⟨[],0⟩,[],[],[],[],0,0⟩⟩
noncomputable def abI:k_:=⟨[],[],0,0⟩
noncomputable def Cd.fq:(τ:Cd)->τ.T
 | .int=>(0:Int)
 | .byte=>(0:Int)
 | .str=>(aj:ByteArray)
 | .bc=>ee
 | .dk=>ui
 | .aH=>aX
 | .c_=>Y1
 | .gH=>mG
 | .dE=>cD
 | .cv=>tJ
 | .bT=>ql
 | .bG=>ff
 | .dG=>dq
 | .bz=>cq
 | .h_=>Mu
 | .aB=>aV
 | .eD=>vi
 | .aI=>cS
 | .az=>aE
 | .k8=>abH
 | .aW=>bP
 | .ct=>WK
 | .kZ=>DC
 | .oi=>abI
noncomputable def Cd.flat:Cd->Bool
 | .int=>true
 | .byte=>true
 | .str=>true
 | .bc=>true
 | .dk=>false
 | .aH=>false
 | .c_=>false
 | .gH=>true
 | .dE=>false
 | .cv=>true
 | .bT=>true
 | .bG=>true
 | .dG=>false
 | .bz=>false
 | .h_=>false
 | .aB=>false
 | .eD=>false
 | .aI=>false
 | .az=>false
 | .k8=>false
 | .aW=>false
 | .ct=>false
 | .kZ=>false
 | .oi=>false
theorem aa8(x:Int)(c:CC)(h:c∈BW x):∃v,c=.lit v:=by
 simp only[BW,kf,NO,or_false] at h
 rcases h with rfl<;>exact⟨_,rfl⟩
theorem Wb(x:Int)(c:CC)(h:c∈yt x):∃v,c=.lit v:=by
 simp only[yt,kf,NO,or_false] at h
 rcases h with rfl<;>exact⟨_,rfl⟩
theorem aa7(x:ByteArray)(c:CC)(h:c∈BV x):∃v,c=.lit v:=by
 simp only[BV,kf,NO,or_false] at h
 rcases h with rfl<;>exact⟨_,rfl⟩
theorem V_(x:a_)(c:CC)(h:c∈yp x):∃v,c=.lit v:=by
 simp only[yp,kf,NO,or_false] at h
 rcases h with rfl|rfl|rfl<;>exact⟨_,rfl⟩
theorem Wa(x:cN)(c:CC)(h:c∈yr x):∃v,c=.lit v:=by
 simp only[yr,kf,NO,or_false] at h
 rcases h with rfl|rfl|rfl|rfl|rfl<;>exact⟨_,rfl⟩
theorem SW(x:bV)(c:CC)(h:c∈vD x):∃v,c=.lit v:=by
 simp only[vD,kf,NO,or_false] at h
 rcases h with rfl|rfl|rfl|rfl<;>exact⟨_,rfl⟩
theorem SU(x:dB)(c:CC)(h:c∈vC x):∃v,c=.lit v:=by
 simp only[vC,kf,NO,or_false] at h
 rcases h with rfl|rfl|rfl|rfl|rfl|rfl|rfl|rfl|rfl|rfl|rfl<;>exact⟨_,rfl⟩
theorem SS(x:cn)(c:CC)(h:c∈vB x):∃v,c=.lit v:=by
 simp only[vB,kf,NO,or_false] at h
 rcases h with rfl|rfl|rfl|rfl|rfl|rfl|rfl|rfl|rfl|rfl|rfl<;>exact⟨_,rfl⟩
noncomputable abbrev UU:lu where
 Ty:=Cd
 T:=Cd.T
 deq:=inferInstance
 wd:=Cd.wd
 enc:=Cd.enc
 dec:=Cd.dec
 fq:=Cd.fq
 flat:=Cd.flat
 Oq:=by
  intro τ h x c hc
  cases τ
  case int=>exact aa8 x c hc
  case byte=>exact Wb x c hc
  case str=>exact aa7 x c hc
  case bc=>exact V_ x c hc
  case dk=>cases h
  case aH=>cases h
  case c_=>cases h
  case gH=>exact Wa x c hc
  case dE=>cases h
  case cv=>exact SW x c hc
  case bT=>exact SU x c hc
  case bG=>exact SS x c hc
  case dG=>cases h
  case bz=>cases h
  case h_=>cases h
  case aB=>cases h
  case eD=>cases h
  case aI=>cases h
  case az=>cases h
  case k8=>cases h
  case aW=>cases h
  case ct=>cases h
  case kZ=>cases h
  case oi=>cases h
 o9:=.byte
 WN:=fun x=>x
 ofB:=fun x=>x
 NT:=fun _=>rfl
 Ha:=fun _=>rfl
 la:=by intro τ;cases τ<;>decide
 dK:=by intro τ x;cases τ<;>rfl
 mQ:=by
  intro τ cs x h
  cases τ
  case int=>exact ok_int cs x h
  case byte=>exact Vt cs x h
  case str=>exact Z9 cs x h
  case bc=>exact Vo cs x h
  case dk=>exact RM cs x h
  case aH=>exact RK cs x h
  case c_=>exact Pz cs x h
  case gH=>exact Vr cs x h
  case dE=>exact Vp cs x h
  case cv=>exact RR cs x h
  case bT=>exact RO cs x h
  case bG=>exact RN cs x h
  case dG=>exact Vs cs x h
  case bz=>exact RJ cs x h
  case h_=>exact Vq cs x h
  case aB=>exact PA cs x h
  case eD=>exact MX cs x h
  case aI=>exact Py cs x h
  case az=>exact RI cs x h
  case k8=>exact RP cs x h
  case aW=>exact RH cs x h
  case ct=>exact RL cs x h
  case kZ=>exact RG cs x h
  case oi=>exact RQ cs x h
abbrev dZ(l:List (DV UU)):List (DV UU):=l
def Lf(a b:List (DV UU)):Prop:=a=b/\dZ []=dZ []
end
end AM
