import Derived.Test.YtmcepppejchhkaaGreatDoorQAmCore
namespace AM
open Go
noncomputable section
structure a_ where
 K:Int
 N:Int
 S:ByteArray
structure aL where
 Kind:ByteArray
 ag:List a_
structure bO where
 Id:Int
 F:aL
structure aD where
 ab:List bO
 Next:Int
structure cM where
 K:Int
 S:ByteArray
 V:a_
structure cr where
 Kind:ByteArray
 ay:List cM
 Not:Bool
structure bT where
 Name:ByteArray
 V:a_
structure dy where
 Op:Int
 L:cM
 R:cM
structure cv where
 Op:ByteArray
 L:cM
 R:cM
structure ez where
 Kind:Int
 Name:ByteArray
 ay:List cv
 N:Int
 aW:ByteArray
structure bc where
 Name:ByteArray
 jp:Int
 aH:List cr
 aV:List dy
 bH:List ez
structure br where
 Name:ByteArray
 aw:List bc
structure av where
 cL:Int
 eo:List Int
 bw:List bT
structure di where
 Kind:Int
 F:aL
 Id:Int
 N:Int
 aW:ByteArray
structure aI where
 At:Int
 F:aL
structure ao where
 F:aL
 aW:ByteArray
 State:Int
 bh:Int
 iz:Int
 V:a_
structure gg where
 Key:ByteArray
 F:aL
 Try:Int
structure bp where
 Key:ByteArray
 F:aL
structure aq where
 S:aD
 aA:List av
 aj:List ao
 ap:List aI
 ax:List bp
 State:Int
 cd:Int
structure sO where
 Name:ByteArray
 Def:ByteArray
 X:aq
structure lp where
 o7:List br
 jH:List sO
 cd:Int
 A_:Int
inductive Cd where
 |int|byte|str|bf|db|aJ|cQ|gM|dB|cw|ca|bI|dE|bB|h_|aB|eD|aE|az|dw|aQ|cp|lm|oN
 deriving DecidableEq
noncomputable def Cd.T:Cd->Type
 | .int=>Int
 | .byte=>Int
 | .str=>ByteArray
 | .bf=>a_
 | .db=>aL
 | .aJ=>bO
 | .cQ=>aD
 | .gM=>cM
 | .dB=>cr
 | .cw=>bT
 | .ca=>dy
 | .bI=>cv
 | .dE=>ez
 | .bB=>bc
 | .h_=>br
 | .aB=>av
 | .eD=>di
 | .aE=>aI
 | .az=>ao
 | .dw=>gg
 | .aQ=>bp
 | .cp=>aq
 | .lm=>sO
 | .oN=>lp
abbrev CC:=Cell Cd Cd.T
noncomputable def ai:ByteArray:=ByteArray.empty
noncomputable def Cd.wd:Cd->Nat
 | .int=>1
 | .byte=>1
 | .str=>1
 | .bf=>3
 | .db=>2
 | .aJ=>3
 | .cQ=>2
 | .gM=>5
 | .dB=>3
 | .cw=>4
 | .ca=>11
 | .bI=>11
 | .dE=>5
 | .bB=>5
 | .h_=>2
 | .aB=>3
 | .eD=>6
 | .aE=>3
 | .az=>9
 | .dw=>4
 | .aQ=>3
 | .cp=>8
 | .lm=>10
 | .oN=>4
noncomputable def Cn(x:Int):List CC:=[.lit (.int .i64 x)]
noncomputable def Cp(cs:List CC):Option (Int):=match cs with
 |[.lit (.int .i64 a0)]=>some a0
 |_=>none
theorem ok_int(cs:List CC)(x:Int)(h:Cp cs=some x):Cn x=cs:=by
 unfold Cp at h;split at h<;>cases h;rfl
noncomputable def y5(x:Int):List CC:=[.lit (.int .u8 x)]
noncomputable def zc(cs:List CC):Option (Int):=match cs with
 |[.lit (.int .u8 a0)]=>some a0
 |_=>none
theorem VH(cs:List CC)(x:Int)(h:zc cs=some x):y5 x=cs:=by
 unfold zc at h;split at h<;>cases h;rfl
noncomputable def Cm(x:ByteArray):List CC:=[.lit (.string x)]
noncomputable def Co(cs:List CC):Option (ByteArray):=match cs with
 |[.lit (.string a0)]=>some a0
 |_=>none
theorem aaK(cs:List CC)(x:ByteArray)(h:Co cs=some x):Cm x=cs:=by
 unfold Co at h;split at h<;>cases h;rfl
noncomputable def y3(x:a_):List CC:=[.lit (.int .i64 x.K),.lit (.int .i64 x.N),.lit (.string x.S)]
noncomputable def y8(cs:List CC):Option (a_):=match cs with
 |[.lit (.int .i64 a0),.lit (.int .i64 a1),.lit (.string a2)]=>some ⟨a0,a1,a2⟩
 |_=>none
theorem VC(cs:List CC)(x:a_)(h:y8 cs=some x):y3 x=cs:=by
 unfold y8 at h;split at h<;>cases h;rfl
noncomputable def Hr(x:aL):List CC:=[.lit (.string x.Kind),.sl .bf x.ag]
noncomputable def wj(cs:List CC):Option (aL):=match cs with
 |[.lit (.string a0),.sl .bf a1]=>some ⟨a0,a1⟩
 |_=>none
theorem RP(cs:List CC)(x:aL)(h:wj cs=some x):Hr x=cs:=by
 unfold wj at h;split at h<;>cases h;rfl
noncomputable def Hq(x:bO):List CC:=[.lit (.int .i64 x.Id),.lit (.string x.F.Kind),.sl .bf x.F.ag]
noncomputable def wg(cs:List CC):Option (bO):=match cs with
 |[.lit (.int .i64 a0),.lit (.string a1),.sl .bf a2]=>some ⟨a0,⟨a1,a2⟩⟩
 |_=>none
theorem RN(cs:List CC)(x:bO)(h:wg cs=some x):Hq x=cs:=by
 unfold wg at h;split at h<;>cases h;rfl
noncomputable def Fu(x:aD):List CC:=[.sl .aJ x.ab,.lit (.int .i64 x.Next)]
noncomputable def tL(cs:List CC):Option (aD):=match cs with
 |[.sl .aJ a0,.lit (.int .i64 a1)]=>some ⟨a0,a1⟩
 |_=>none
theorem PF(cs:List CC)(x:aD)(h:tL cs=some x):Fu x=cs:=by
 unfold tL at h;split at h<;>cases h;rfl
noncomputable def y4(x:cM):List CC:=[.lit (.int .i64 x.K),.lit (.string x.S),.lit (.int .i64 x.V.K),.lit (.int .i64 x.V.N),.lit (.string x.V.S)]
noncomputable def za(cs:List CC):Option (cM):=match cs with
 |[.lit (.int .i64 a0),.lit (.string a1),.lit (.int .i64 a2),.lit (.int .i64 a3),.lit (.string a4)]=>some ⟨a0,a1,⟨a2,a3,a4⟩⟩
 |_=>none
theorem VF(cs:List CC)(x:cM)(h:za cs=some x):y4 x=cs:=by
 unfold za at h;split at h<;>cases h;rfl
noncomputable def LP(x:cr):List CC:=[.lit (.string x.Kind),.sl .gM x.ay,.lit (.bool x.Not)]
noncomputable def y9(cs:List CC):Option (cr):=match cs with
 |[.lit (.string a0),.sl .gM a1,.lit (.bool a2)]=>some ⟨a0,a1,a2⟩
 |_=>none
theorem VD(cs:List CC)(x:cr)(h:y9 cs=some x):LP x=cs:=by
 unfold y9 at h;split at h<;>cases h;rfl
noncomputable def v8(x:bT):List CC:=[.lit (.string x.Name),.lit (.int .i64 x.V.K),.lit (.int .i64 x.V.N),.lit (.string x.V.S)]
noncomputable def wq(cs:List CC):Option (bT):=match cs with
 |[.lit (.string a0),.lit (.int .i64 a1),.lit (.int .i64 a2),.lit (.string a3)]=>some ⟨a0,⟨a1,a2,a3⟩⟩
 |_=>none
theorem RW(cs:List CC)(x:bT)(h:wq cs=some x):v8 x=cs:=by
 unfold wq at h;split at h<;>cases h;rfl
noncomputable def v7(x:dy):List CC:=[.lit (.int .i64 x.Op),.lit (.int .i64 x.L.K),.lit (.string x.L.S),.lit (.int .i64 x.L.V.K),.lit (.int .i64 x.L.V.N),.lit (.string x.L.V.S),.lit (.int .i64 x.R.K),.lit (.string x.R.S),.lit (.int .i64 x.R.V.K),.lit (.int .i64 x.R.V.N),.lit (.string x.R.V.S)]
noncomputable def wl(cs:List CC):Option (dy):=match cs with
 |[.lit (.int .i64 a0),.lit (.int .i64 a1),.lit (.string a2),.lit (.int .i64 a3),.lit (.int .i64 a4),.lit (.string a5),.lit (.int .i64 a6),.lit (.string a7),.lit (.int .i64 a8),.lit (.int .i64 a9),.lit (.string a10)]=>some ⟨a0,⟨a1,a2,⟨a3,a4,a5⟩⟩,⟨a6,a7,⟨a8,a9,a10⟩⟩⟩
 |_=>none
theorem RR(cs:List CC)(x:dy)(h:wl cs=some x):v7 x=cs:=by
 unfold wl at h;split at h<;>cases h;rfl
noncomputable def vZ(x:cv):List CC:=[.lit (.string x.Op),.lit (.int .i64 x.L.K),.lit (.string x.L.S),.lit (.int .i64 x.L.V.K),.lit (.int .i64 x.L.V.N),.lit (.string x.L.V.S),.lit (.int .i64 x.R.K),.lit (.string x.R.S),.lit (.int .i64 x.R.V.K),.lit (.int .i64 x.R.V.N),.lit (.string x.R.V.S)]
noncomputable def wk(cs:List CC):Option (cv):=match cs with
 |[.lit (.string a0),.lit (.int .i64 a1),.lit (.string a2),.lit (.int .i64 a3),.lit (.int .i64 a4),.lit (.string a5),.lit (.int .i64 a6),.lit (.string a7),.lit (.int .i64 a8),.lit (.int .i64 a9),.lit (.string a10)]=>some ⟨a0,⟨a1,a2,⟨a3,a4,a5⟩⟩,⟨a6,a7,⟨a8,a9,a10⟩⟩⟩
 |_=>none
theorem RQ(cs:List CC)(x:cv)(h:wk cs=some x):vZ x=cs:=by
 unfold wk at h;split at h<;>cases h;rfl
noncomputable def LR(x:ez):List CC:=[.lit (.int .i64 x.Kind),.lit (.string x.Name),.sl .bI x.ay,.lit (.int .i64 x.N),.lit (.string x.aW)]
noncomputable def zb(cs:List CC):Option (ez):=match cs with
 |[.lit (.int .i64 a0),.lit (.string a1),.sl .bI a2,.lit (.int .i64 a3),.lit (.string a4)]=>some ⟨a0,a1,a2,a3,a4⟩
 |_=>none
theorem VG(cs:List CC)(x:ez)(h:zb cs=some x):LR x=cs:=by
 unfold zb at h;split at h<;>cases h;rfl
noncomputable def Hp(x:bc):List CC:=[.lit (.string x.Name),.lit (.int .i64 x.jp),.sl .dB x.aH,.sl .ca x.aV,.sl .dE x.bH]
noncomputable def we(cs:List CC):Option (bc):=match cs with
 |[.lit (.string a0),.lit (.int .i64 a1),.sl .dB a2,.sl .ca a3,.sl .dE a4]=>some ⟨a0,a1,a2,a3,a4⟩
 |_=>none
theorem RM(cs:List CC)(x:bc)(h:we cs=some x):Hp x=cs:=by
 unfold we at h;split at h<;>cases h;rfl
noncomputable def LQ(x:br):List CC:=[.lit (.string x.Name),.sl .bB x.aw]
noncomputable def y_(cs:List CC):Option (br):=match cs with
 |[.lit (.string a0),.sl .bB a1]=>some ⟨a0,a1⟩
 |_=>none
theorem VE(cs:List CC)(x:br)(h:y_ cs=some x):LQ x=cs:=by
 unfold y_ at h;split at h<;>cases h;rfl
noncomputable def Fv(x:av):List CC:=[.lit (.int .i64 x.cL),.sl .int x.eo,.sl .cw x.bw]
noncomputable def tM(cs:List CC):Option (av):=match cs with
 |[.lit (.int .i64 a0),.sl .int a1,.sl .cw a2]=>some ⟨a0,a1,a2⟩
 |_=>none
theorem PG(cs:List CC)(x:av)(h:tM cs=some x):Fv x=cs:=by
 unfold tM at h;split at h<;>cases h;rfl
noncomputable def BF(x:di):List CC:=[.lit (.int .i64 x.Kind),.lit (.string x.F.Kind),.sl .bf x.F.ag,.lit (.int .i64 x.Id),.lit (.int .i64 x.N),.lit (.string x.aW)]
noncomputable def rm(cs:List CC):Option (di):=match cs with
 |[.lit (.int .i64 a0),.lit (.string a1),.sl .bf a2,.lit (.int .i64 a3),.lit (.int .i64 a4),.lit (.string a5)]=>some ⟨a0,⟨a1,a2⟩,a3,a4,a5⟩
 |_=>none
theorem Na(cs:List CC)(x:di)(h:rm cs=some x):BF x=cs:=by
 unfold rm at h;split at h<;>cases h;rfl
noncomputable def Ft(x:aI):List CC:=[.lit (.int .i64 x.At),.lit (.string x.F.Kind),.sl .bf x.F.ag]
noncomputable def tK(cs:List CC):Option (aI):=match cs with
 |[.lit (.int .i64 a0),.lit (.string a1),.sl .bf a2]=>some ⟨a0,⟨a1,a2⟩⟩
 |_=>none
theorem PE(cs:List CC)(x:aI)(h:tK cs=some x):Ft x=cs:=by
 unfold tK at h;split at h<;>cases h;rfl
noncomputable def Ho(x:ao):List CC:=[.lit (.string x.F.Kind),.sl .bf x.F.ag,.lit (.string x.aW),.lit (.int .i64 x.State),.lit (.int .i64 x.bh),.lit (.int .i64 x.iz),.lit (.int .i64 x.V.K),.lit (.int .i64 x.V.N),.lit (.string x.V.S)]
noncomputable def wc(cs:List CC):Option (ao):=match cs with
 |[.lit (.string a0),.sl .bf a1,.lit (.string a2),.lit (.int .i64 a3),.lit (.int .i64 a4),.lit (.int .i64 a5),.lit (.int .i64 a6),.lit (.int .i64 a7),.lit (.string a8)]=>some ⟨⟨a0,a1⟩,a2,a3,a4,a5,⟨a6,a7,a8⟩⟩
 |_=>none
theorem RL(cs:List CC)(x:ao)(h:wc cs=some x):Ho x=cs:=by
 unfold wc at h;split at h<;>cases h;rfl
noncomputable def Hs(x:gg):List CC:=[.lit (.string x.Key),.lit (.string x.F.Kind),.sl .bf x.F.ag,.lit (.int .i64 x.Try)]
noncomputable def wm(cs:List CC):Option (gg):=match cs with
 |[.lit (.string a0),.lit (.string a1),.sl .bf a2,.lit (.int .i64 a3)]=>some ⟨a0,⟨a1,a2⟩,a3⟩
 |_=>none
theorem RT(cs:List CC)(x:gg)(h:wm cs=some x):Hs x=cs:=by
 unfold wm at h;split at h<;>cases h;rfl
noncomputable def Hn(x:bp):List CC:=[.lit (.string x.Key),.lit (.string x.F.Kind),.sl .bf x.F.ag]
noncomputable def wb(cs:List CC):Option (bp):=match cs with
 |[.lit (.string a0),.lit (.string a1),.sl .bf a2]=>some ⟨a0,⟨a1,a2⟩⟩
 |_=>none
theorem RK(cs:List CC)(x:bp)(h:wb cs=some x):Hn x=cs:=by
 unfold wb at h;split at h<;>cases h;rfl
noncomputable def aG(x:aq):List CC:=[.sl .aJ x.S.ab,.lit (.int .i64 x.S.Next),.sl .aB x.aA,.sl .az x.aj,.sl .aE x.ap,.sl .aQ x.ax,.lit (.int .i64 x.State),.lit (.int .i64 x.cd)]
noncomputable def wh(cs:List CC):Option (aq):=match cs with
 |[.sl .aJ a0,.lit (.int .i64 a1),.sl .aB a2,.sl .az a3,.sl .aE a4,.sl .aQ a5,.lit (.int .i64 a6),.lit (.int .i64 a7)]=>some ⟨⟨a0,a1⟩,a2,a3,a4,a5,a6,a7⟩
 |_=>none
theorem RO(cs:List CC)(x:aq)(h:wh cs=some x):aG x=cs:=by
 unfold wh at h;split at h<;>cases h;rfl
noncomputable def Hm(x:sO):List CC:=[.lit (.string x.Name),.lit (.string x.Def),.sl .aJ x.X.S.ab,.lit (.int .i64 x.X.S.Next),.sl .aB x.X.aA,.sl .az x.X.aj,.sl .aE x.X.ap,.sl .aQ x.X.ax,.lit (.int .i64 x.X.State),.lit (.int .i64 x.X.cd)]
noncomputable def wa(cs:List CC):Option (sO):=match cs with
 |[.lit (.string a0),.lit (.string a1),.sl .aJ a2,.lit (.int .i64 a3),.sl .aB a4,.sl .az a5,.sl .aE a6,.sl .aQ a7,.lit (.int .i64 a8),.lit (.int .i64 a9)]=>some ⟨a0,a1,⟨⟨a2,a3⟩,a4,a5,a6,a7,a8,a9⟩⟩
 |_=>none
theorem RJ(cs:List CC)(x:sO)(h:wa cs=some x):Hm x=cs:=by
 unfold wa at h;split at h<;>cases h;rfl
noncomputable def Ht(x:lp):List CC:=[.sl .h_ x.o7,.sl .lm x.jH,.lit (.int .i64 x.cd),.lit (.int .i64 x.A_)]
noncomputable def wo(cs:List CC):Option (lp):=match cs with
 |[.sl .h_ a0,.sl .lm a1,.lit (.int .i64 a2),.lit (.int .i64 a3)]=>some ⟨a0,a1,a2,a3⟩
 |_=>none
theorem RU(cs:List CC)(x:lp)(h:wo cs=some x):Ht x=cs:=by
 unfold wo at h;split at h<;>cases h;rfl
noncomputable def Cd.enc:(τ:Cd)->τ.T->List CC
 | .int,x=>Cn x
 | .byte,x=>y5 x
 | .str,x=>Cm x
 | .bf,x=>y3 x
 | .db,x=>Hr x
 | .aJ,x=>Hq x
 | .cQ,x=>Fu x
 | .gM,x=>y4 x
 | .dB,x=>LP x
 | .cw,x=>v8 x
 | .ca,x=>v7 x
 | .bI,x=>vZ x
 | .dE,x=>LR x
 | .bB,x=>Hp x
 | .h_,x=>LQ x
 | .aB,x=>Fv x
 | .eD,x=>BF x
 | .aE,x=>Ft x
 | .az,x=>Ho x
 | .dw,x=>Hs x
 | .aQ,x=>Hn x
 | .cp,x=>aG x
 | .lm,x=>Hm x
 | .oN,x=>Ht x
noncomputable def Cd.dec:(τ:Cd)->List CC->Option τ.T
 | .int,cs=>Cp cs
 | .byte,cs=>zc cs
 | .str,cs=>Co cs
 | .bf,cs=>y8 cs
 | .db,cs=>wj cs
 | .aJ,cs=>wg cs
 | .cQ,cs=>tL cs
 | .gM,cs=>za cs
 | .dB,cs=>y9 cs
 | .cw,cs=>wq cs
 | .ca,cs=>wl cs
 | .bI,cs=>wk cs
 | .dE,cs=>zb cs
 | .bB,cs=>we cs
 | .h_,cs=>y_ cs
 | .aB,cs=>tM cs
 | .eD,cs=>rm cs
 | .aE,cs=>tK cs
 | .az,cs=>wc cs
 | .dw,cs=>wm cs
 | .aQ,cs=>wb cs
 | .cp,cs=>wh cs
 | .lm,cs=>wa cs
 | .oN,cs=>wo cs
noncomputable def dK:a_:=⟨0,0,ai⟩
noncomputable def uO:aL:=⟨ai,[]⟩
noncomputable def aZ:bO:=⟨0,⟨ai,[]⟩⟩
noncomputable def ZD:aD:=⟨[],0⟩
noncomputable def mX:cM:=⟨0,ai,⟨0,0,ai⟩⟩
noncomputable def cF:cr:=⟨ai,[],false⟩
noncomputable def ui:bT:=⟨ai,⟨0,0,ai⟩⟩
noncomputable def qN:dy:=⟨0,⟨0,ai,⟨0,0,ai⟩⟩,⟨0,ai,⟨0,0,ai⟩⟩⟩
noncomputable def fj:cv:=⟨ai,⟨0,ai,⟨0,0,ai⟩⟩,⟨0,ai,⟨0,0,ai⟩⟩⟩
noncomputable def dj:ez:=⟨0,ai,[],0,ai⟩
noncomputable def ct:bc:=⟨ai,0,[],[],[]⟩
noncomputable def ML:br:=⟨ai,[]⟩
noncomputable def aX:av:=⟨0,[],[]⟩
noncomputable def vG:di:=⟨0,⟨ai,[]⟩,0,0,ai⟩
noncomputable def cC:aI:=⟨0,⟨ai,[]⟩⟩
noncomputable def aC:ao:=⟨⟨ai,[]⟩,ai,0,0,0,⟨0,0,ai⟩⟩
noncomputable def D7:gg:=⟨ai,⟨ai,[]⟩,0⟩
noncomputable def bZ:bp:=⟨ai,⟨ai,[]⟩⟩
noncomputable def Xb:aq:=⟨⟨[],0⟩,[],[],[],[],0,0⟩
noncomputable def D6:sO:=⟨ai,ai,⟨⟨[],0⟩,[],[],[],[],0,0⟩⟩
noncomputable def acp:lp:=⟨[],[],0,0⟩
noncomputable def Cd.ff:(τ:Cd)->τ.T
 | .int=>(0:Int)
 | .byte=>(0:Int)
 | .str=>(ai:ByteArray)
 | .bf=>dK
 | .db=>uO
 | .aJ=>aZ
 | .cQ=>ZD
 | .gM=>mX
 | .dB=>cF
 | .cw=>ui
 | .ca=>qN
 | .bI=>fj
 | .dE=>dj
 | .bB=>ct
 | .h_=>ML
 | .aB=>aX
 | .eD=>vG
 | .aE=>cC
 | .az=>aC
 | .dw=>D7
 | .aQ=>bZ
 | .cp=>Xb
 | .lm=>D6
 | .oN=>acp
noncomputable def Cd.flat:Cd->Bool
 | .int=>true
 | .byte=>true
 | .str=>true
 | .bf=>true
 | .db=>false
 | .aJ=>false
 | .cQ=>false
 | .gM=>true
 | .dB=>false
 | .cw=>true
 | .ca=>true
 | .bI=>true
 | .dE=>false
 | .bB=>false
 | .h_=>false
 | .aB=>false
 | .eD=>false
 | .aE=>false
 | .az=>false
 | .dw=>false
 | .aQ=>false
 | .cp=>false
 | .lm=>false
 | .oN=>false
theorem abP(x:Int)(c:CC)(h:c∈Cn x):∃v,c=.lit v:=by
 simp only[Cn,kc,NV,or_false] at h
 rcases h with rfl<;>exact⟨_,rfl⟩
theorem Ws(x:Int)(c:CC)(h:c∈y5 x):∃v,c=.lit v:=by
 simp only[y5,kc,NV,or_false] at h
 rcases h with rfl<;>exact⟨_,rfl⟩
theorem abO(x:ByteArray)(c:CC)(h:c∈Cm x):∃v,c=.lit v:=by
 simp only[Cm,kc,NV,or_false] at h
 rcases h with rfl<;>exact⟨_,rfl⟩
theorem Wq(x:a_)(c:CC)(h:c∈y3 x):∃v,c=.lit v:=by
 simp only[y3,kc,NV,or_false] at h
 rcases h with rfl|rfl|rfl<;>exact⟨_,rfl⟩
theorem Wr(x:cM)(c:CC)(h:c∈y4 x):∃v,c=.lit v:=by
 simp only[y4,kc,NV,or_false] at h
 rcases h with rfl|rfl|rfl|rfl|rfl<;>exact⟨_,rfl⟩
theorem S3(x:bT)(c:CC)(h:c∈v8 x):∃v,c=.lit v:=by
 simp only[v8,kc,NV,or_false] at h
 rcases h with rfl|rfl|rfl|rfl<;>exact⟨_,rfl⟩
theorem S1(x:dy)(c:CC)(h:c∈v7 x):∃v,c=.lit v:=by
 simp only[v7,kc,NV,or_false] at h
 rcases h with rfl|rfl|rfl|rfl|rfl|rfl|rfl|rfl|rfl|rfl|rfl<;>exact⟨_,rfl⟩
theorem S0(x:cv)(c:CC)(h:c∈vZ x):∃v,c=.lit v:=by
 simp only[vZ,kc,NV,or_false] at h
 rcases h with rfl|rfl|rfl|rfl|rfl|rfl|rfl|rfl|rfl|rfl|rfl<;>exact⟨_,rfl⟩
noncomputable abbrev UU:lQ where
 Ty:=Cd
 T:=Cd.T
 deq:=inferInstance
 wd:=Cd.wd
 enc:=Cd.enc
 dec:=Cd.dec
 ff:=Cd.ff
 flat:=Cd.flat
 Ox:=by
  intro τ h x c hc
  cases τ
  case int=>exact abP x c hc
  case byte=>exact Ws x c hc
  case str=>exact abO x c hc
  case bf=>exact Wq x c hc
  case db=>cases h
  case aJ=>cases h
  case cQ=>cases h
  case gM=>exact Wr x c hc
  case dB=>cases h
  case cw=>exact S3 x c hc
  case ca=>exact S1 x c hc
  case bI=>exact S0 x c hc
  case dE=>cases h
  case bB=>cases h
  case h_=>cases h
  case aB=>cases h
  case eD=>cases h
  case aE=>cases h
  case az=>cases h
  case dw=>cases h
  case aQ=>cases h
  case cp=>cases h
  case lm=>cases h
  case oN=>cases h
 pB:=.byte
 Xe:=fun x=>x
 ofB:=fun x=>x
 N0:=fun _=>rfl
 Hu:=fun _=>rfl
 lq:=by intro τ;cases τ<;>decide
 dG:=by intro τ x;cases τ<;>rfl
 ni:=by
  intro τ cs x h
  cases τ
  case int=>exact ok_int cs x h
  case byte=>exact VH cs x h
  case str=>exact aaK cs x h
  case bf=>exact VC cs x h
  case db=>exact RP cs x h
  case aJ=>exact RN cs x h
  case cQ=>exact PF cs x h
  case gM=>exact VF cs x h
  case dB=>exact VD cs x h
  case cw=>exact RW cs x h
  case ca=>exact RR cs x h
  case bI=>exact RQ cs x h
  case dE=>exact VG cs x h
  case bB=>exact RM cs x h
  case h_=>exact VE cs x h
  case aB=>exact PG cs x h
  case eD=>exact Na cs x h
  case aE=>exact PE cs x h
  case az=>exact RL cs x h
  case dw=>exact RT cs x h
  case aQ=>exact RK cs x h
  case cp=>exact RO cs x h
  case lm=>exact RJ cs x h
  case oN=>exact RU cs x h
abbrev fG(l:List (DV UU)):List (DV UU):=l
def Lf(a b:List (DV UU)):Prop:=a=b/\fG []=fG []
end
end AM
