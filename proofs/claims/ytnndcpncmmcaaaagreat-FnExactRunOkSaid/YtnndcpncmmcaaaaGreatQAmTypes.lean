import Derived.Test.YtnndcpncmmcaaaaGreatQAmCore
namespace AM
open Go
noncomputable section
structure cV where
 K:Int
 N:Int
 S:ByteArray
structure bf where
 Kind:ByteArray
 ak:List cV
structure bW where
 Id:Int
 F:bf
structure ap where
 aa:List bW
 Next:Int
structure dn where
 K:Int
 S:ByteArray
 V:cV
structure bc where
 Kind:ByteArray
 aA:List dn
 Not:Bool
structure aW where
 Name:ByteArray
 V:cV
structure dj where
 Op:Int
 L:dn
 R:dn
structure dM where
 Op:ByteArray
 L:dn
 R:dn
structure en where
 Kind:Int
 Name:ByteArray
 aA:List dM
 N:Int
 jt:ByteArray
structure aw where
 Name:ByteArray
 mM:Int
 ai:List bc
 bA:List dj
 cp:List en
structure bY where
 Name:ByteArray
 af:List aw
structure cW where
 jW:Int
 b9:List Int
 lJ:List aW
structure bj where
 Kind:ByteArray
 N:Int
 fg:List cV
 At:List Int
structure bm where
 Pos:List Int
 Neg:List Int
structure dE where
 ab:List bj
 aC:List bm
structure b7 where
 L:List Int
structure au where
 b9:List Int
 db:List Int
structure aq where
 bi:List au
structure dR where
 ao:List aq
structure df where
 ab:List b7
 af:List dR
structure cn where
 At:Int
 F:bf
structure ck where
 F:bf
 jt:ByteArray
 State:Int
 kE:Int
 Lk:Int
 V:cV
structure de where
 Key:ByteArray
 F:bf
structure eQ where
 S:ap
 dc:List cW
 fW:List ck
 fy:List cn
 gZ:List de
 State:Int
 JV:Int
structure pG where
 X:eQ
 M:df
structure bh where
 bH:List bc
 ey:List bc
 chain:bm
 mem:List b7
 s:ap
 id:Int
inductive Cd where
 |int|byte|str|bool|bC|hU|eP|nS|cg|fO|dW|jF|ig|oT|cq|k8|b8|jJ|cQ|jI|ga|jH|eT|oU|cw|jG|jc|qg|dB|fG|bI|mj|ci|mi|mK|Ev|cD|k9|bO|oR|cf|gG|di|nb|jU|tu|dq|fF|dJ|iy|eO|ix|jb|nR|ra|qf|gM|nB
 deriving DecidableEq
noncomputable def Cd.T:Cd->Type
 | .int=>Int
 | .byte=>Int
 | .str=>ByteArray
 | .bool=>Bool
 | .bC=>cV
 | .hU=>cV
 | .eP=>bf
 | .nS=>bf
 | .cg=>bW
 | .fO=>bW
 | .dW=>ap
 | .jF=>ap
 | .ig=>dn
 | .oT=>dn
 | .cq=>bc
 | .k8=>bc
 | .b8=>aW
 | .jJ=>aW
 | .cQ=>dj
 | .jI=>dj
 | .ga=>dM
 | .jH=>dM
 | .eT=>en
 | .oU=>en
 | .cw=>aw
 | .jG=>aw
 | .jc=>bY
 | .qg=>bY
 | .dB=>cW
 | .fG=>cW
 | .bI=>bj
 | .mj=>bj
 | .ci=>bm
 | .mi=>bm
 | .mK=>dE
 | .Ev=>dE
 | .cD=>b7
 | .k9=>b7
 | .bO=>au
 | .oR=>au
 | .cf=>aq
 | .gG=>aq
 | .di=>dR
 | .nb=>dR
 | .jU=>df
 | .tu=>df
 | .dq=>cn
 | .fF=>cn
 | .dJ=>ck
 | .iy=>ck
 | .eO=>de
 | .ix=>de
 | .jb=>eQ
 | .nR=>eQ
 | .ra=>pG
 | .qf=>pG
 | .gM=>bh
 | .nB=>bh
abbrev CC:=Cell Cd Cd.T
noncomputable def a_:ByteArray:=ByteArray.empty
noncomputable def Cd.wd:Cd->Nat
 | .int=>1
 | .byte=>1
 | .str=>1
 | .bool=>1
 | .bC=>3
 | .hU=>3
 | .eP=>2
 | .nS=>2
 | .cg=>3
 | .fO=>3
 | .dW=>2
 | .jF=>2
 | .ig=>5
 | .oT=>5
 | .cq=>3
 | .k8=>3
 | .b8=>4
 | .jJ=>4
 | .cQ=>11
 | .jI=>11
 | .ga=>11
 | .jH=>11
 | .eT=>5
 | .oU=>5
 | .cw=>5
 | .jG=>5
 | .jc=>2
 | .qg=>2
 | .dB=>3
 | .fG=>3
 | .bI=>4
 | .mj=>4
 | .ci=>2
 | .mi=>2
 | .mK=>2
 | .Ev=>2
 | .cD=>1
 | .k9=>1
 | .bO=>2
 | .oR=>2
 | .cf=>1
 | .gG=>1
 | .di=>1
 | .nb=>1
 | .jU=>2
 | .tu=>2
 | .dq=>3
 | .fF=>3
 | .dJ=>9
 | .iy=>9
 | .eO=>3
 | .ix=>3
 | .jb=>8
 | .nR=>8
 | .ra=>10
 | .qf=>10
 | .gM=>8
 | .nB=>8
noncomputable def AI(x:Int):List CC:=[.lit (.int .i64 x)]
noncomputable def AK(cs:List CC):Option (Int):=match cs with
 |[.lit (.int .i64 a0)]=>some a0
 |_=>none
theorem ok_int(cs:List CC)(x:Int)(h:AK cs=some x):AI x=cs:=by
 unfold AK at h;split at h<;>cases h;rfl
noncomputable def w8(x:Int):List CC:=[.lit (.int .u8 x)]
noncomputable def xx(cs:List CC):Option (Int):=match cs with
 |[.lit (.int .u8 a0)]=>some a0
 |_=>none
theorem SR(cs:List CC)(x:Int)(h:xx cs=some x):w8 x=cs:=by
 unfold xx at h;split at h<;>cases h;rfl
noncomputable def AH(x:ByteArray):List CC:=[.lit (.string x)]
noncomputable def AJ(cs:List CC):Option (ByteArray):=match cs with
 |[.lit (.string a0)]=>some a0
 |_=>none
theorem aaf(cs:List CC)(x:ByteArray)(h:AJ cs=some x):AH x=cs:=by
 unfold AJ at h;split at h<;>cases h;rfl
noncomputable def w9(x:Bool):List CC:=[.lit (.bool x)]
noncomputable def xy(cs:List CC):Option (Bool):=match cs with
 |[.lit (.bool a0)]=>some a0
 |_=>none
theorem SS(cs:List CC)(x:Bool)(h:xy cs=some x):w9 x=cs:=by
 unfold xy at h;split at h<;>cases h;rfl
noncomputable def w5(x:cV):List CC:=[.lit (.int .i64 x.K),.lit (.int .i64 x.N),.lit (.string x.S)]
noncomputable def xk(cs:List CC):Option (cV):=match cs with
 |[.lit (.int .i64 a0),.lit (.int .i64 a1),.lit (.string a2)]=>some ⟨a0,a1,a2⟩
 |_=>none
theorem SG(cs:List CC)(x:cV)(h:xk cs=some x):w5 x=cs:=by
 unfold xk at h;split at h<;>cases h;rfl
noncomputable def wZ(x:cV):List CC:=[.lit (.int .i64 x.K),.lit (.int .i64 x.N),.lit (.string x.S)]
noncomputable def w_(cs:List CC):Option (cV):=match cs with
 |[.lit (.int .i64 a0),.lit (.int .i64 a1),.lit (.string a2)]=>some ⟨a0,a1,a2⟩
 |_=>none
theorem Sv(cs:List CC)(x:cV)(h:w_ cs=some x):wZ x=cs:=by
 unfold w_ at h;split at h<;>cases h;rfl
noncomputable def Fy(x:bf):List CC:=[.lit (.string x.Kind),.sl .bC x.ak]
noncomputable def uF(cs:List CC):Option (bf):=match cs with
 |[.lit (.string a0),.sl .bC a1]=>some ⟨a0,a1⟩
 |_=>none
theorem Pd(cs:List CC)(x:bf)(h:uF cs=some x):Fy x=cs:=by
 unfold uF at h;split at h<;>cases h;rfl
noncomputable def Ft(x:bf):List CC:=[.lit (.string x.Kind),.sl .hU x.ak]
noncomputable def uw(cs:List CC):Option (bf):=match cs with
 |[.lit (.string a0),.sl .hU a1]=>some ⟨a0,a1⟩
 |_=>none
theorem O6(cs:List CC)(x:bf)(h:uw cs=some x):Ft x=cs:=by
 unfold uw at h;split at h<;>cases h;rfl
noncomputable def Fx(x:bW):List CC:=[.lit (.int .i64 x.Id),.lit (.string x.F.Kind),.sl .bC x.F.ak]
noncomputable def uD(cs:List CC):Option (bW):=match cs with
 |[.lit (.int .i64 a0),.lit (.string a1),.sl .bC a2]=>some ⟨a0,⟨a1,a2⟩⟩
 |_=>none
theorem Pb(cs:List CC)(x:bW)(h:uD cs=some x):Fx x=cs:=by
 unfold uD at h;split at h<;>cases h;rfl
noncomputable def Fq(x:bW):List CC:=[.lit (.int .i64 x.Id),.lit (.string x.F.Kind),.sl .hU x.F.ak]
noncomputable def uu(cs:List CC):Option (bW):=match cs with
 |[.lit (.int .i64 a0),.lit (.string a1),.sl .hU a2]=>some ⟨a0,⟨a1,a2⟩⟩
 |_=>none
theorem O4(cs:List CC)(x:bW)(h:uu cs=some x):Fq x=cs:=by
 unfold uu at h;split at h<;>cases h;rfl
noncomputable def DL(x:ap):List CC:=[.sl .cg x.aa,.lit (.int .i64 x.Next)]
noncomputable def rV(cs:List CC):Option (ap):=match cs with
 |[.sl .cg a0,.lit (.int .i64 a1)]=>some ⟨a0,a1⟩
 |_=>none
theorem M8(cs:List CC)(x:ap)(h:rV cs=some x):DL x=cs:=by
 unfold rV at h;split at h<;>cases h;rfl
noncomputable def DF(x:ap):List CC:=[.sl .fO x.aa,.lit (.int .i64 x.Next)]
noncomputable def rP(cs:List CC):Option (ap):=match cs with
 |[.sl .fO a0,.lit (.int .i64 a1)]=>some ⟨a0,a1⟩
 |_=>none
theorem M2(cs:List CC)(x:ap)(h:rP cs=some x):DF x=cs:=by
 unfold rP at h;split at h<;>cases h;rfl
noncomputable def w7(x:dn):List CC:=[.lit (.int .i64 x.K),.lit (.string x.S),.lit (.int .i64 x.V.K),.lit (.int .i64 x.V.N),.lit (.string x.V.S)]
noncomputable def xv(cs:List CC):Option (dn):=match cs with
 |[.lit (.int .i64 a0),.lit (.string a1),.lit (.int .i64 a2),.lit (.int .i64 a3),.lit (.string a4)]=>some ⟨a0,a1,⟨a2,a3,a4⟩⟩
 |_=>none
theorem SP(cs:List CC)(x:dn)(h:xv cs=some x):w7 x=cs:=by
 unfold xv at h;split at h<;>cases h;rfl
noncomputable def w4(x:dn):List CC:=[.lit (.int .i64 x.K),.lit (.string x.S),.lit (.int .i64 x.V.K),.lit (.int .i64 x.V.N),.lit (.string x.V.S)]
noncomputable def xi(cs:List CC):Option (dn):=match cs with
 |[.lit (.int .i64 a0),.lit (.string a1),.lit (.int .i64 a2),.lit (.int .i64 a3),.lit (.string a4)]=>some ⟨a0,a1,⟨a2,a3,a4⟩⟩
 |_=>none
theorem SE(cs:List CC)(x:dn)(h:xi cs=some x):w4 x=cs:=by
 unfold xi at h;split at h<;>cases h;rfl
noncomputable def Je(x:bc):List CC:=[.lit (.string x.Kind),.sl .ig x.aA,.lit (.bool x.Not)]
noncomputable def xo(cs:List CC):Option (bc):=match cs with
 |[.lit (.string a0),.sl .ig a1,.lit (.bool a2)]=>some ⟨a0,a1,a2⟩
 |_=>none
theorem SK(cs:List CC)(x:bc)(h:xo cs=some x):Je x=cs:=by
 unfold xo at h;split at h<;>cases h;rfl
noncomputable def I8(x:bc):List CC:=[.lit (.string x.Kind),.sl .oT x.aA,.lit (.bool x.Not)]
noncomputable def xd(cs:List CC):Option (bc):=match cs with
 |[.lit (.string a0),.sl .oT a1,.lit (.bool a2)]=>some ⟨a0,a1,a2⟩
 |_=>none
theorem Sz(cs:List CC)(x:bc)(h:xd cs=some x):I8 x=cs:=by
 unfold xd at h;split at h<;>cases h;rfl
noncomputable def um(x:aW):List CC:=[.lit (.string x.Name),.lit (.int .i64 x.V.K),.lit (.int .i64 x.V.N),.lit (.string x.V.S)]
noncomputable def uI(cs:List CC):Option (aW):=match cs with
 |[.lit (.string a0),.lit (.int .i64 a1),.lit (.int .i64 a2),.lit (.string a3)]=>some ⟨a0,⟨a1,a2,a3⟩⟩
 |_=>none
theorem Pg(cs:List CC)(x:aW)(h:uI cs=some x):um x=cs:=by
 unfold uI at h;split at h<;>cases h;rfl
noncomputable def ui(x:aW):List CC:=[.lit (.string x.Name),.lit (.int .i64 x.V.K),.lit (.int .i64 x.V.N),.lit (.string x.V.S)]
noncomputable def uz(cs:List CC):Option (aW):=match cs with
 |[.lit (.string a0),.lit (.int .i64 a1),.lit (.int .i64 a2),.lit (.string a3)]=>some ⟨a0,⟨a1,a2,a3⟩⟩
 |_=>none
theorem O9(cs:List CC)(x:aW)(h:uz cs=some x):ui x=cs:=by
 unfold uz at h;split at h<;>cases h;rfl
noncomputable def ul(x:dj):List CC:=[.lit (.int .i64 x.Op),.lit (.int .i64 x.L.K),.lit (.string x.L.S),.lit (.int .i64 x.L.V.K),.lit (.int .i64 x.L.V.N),.lit (.string x.L.V.S),.lit (.int .i64 x.R.K),.lit (.string x.R.S),.lit (.int .i64 x.R.V.K),.lit (.int .i64 x.R.V.N),.lit (.string x.R.V.S)]
noncomputable def uH(cs:List CC):Option (dj):=match cs with
 |[.lit (.int .i64 a0),.lit (.int .i64 a1),.lit (.string a2),.lit (.int .i64 a3),.lit (.int .i64 a4),.lit (.string a5),.lit (.int .i64 a6),.lit (.string a7),.lit (.int .i64 a8),.lit (.int .i64 a9),.lit (.string QU)]=>some ⟨a0,⟨a1,a2,⟨a3,a4,a5⟩⟩,⟨a6,a7,⟨a8,a9,QU⟩⟩⟩
 |_=>none
theorem Pf(cs:List CC)(x:dj)(h:uH cs=some x):ul x=cs:=by
 unfold uH at h;split at h<;>cases h;rfl
noncomputable def uh(x:dj):List CC:=[.lit (.int .i64 x.Op),.lit (.int .i64 x.L.K),.lit (.string x.L.S),.lit (.int .i64 x.L.V.K),.lit (.int .i64 x.L.V.N),.lit (.string x.L.V.S),.lit (.int .i64 x.R.K),.lit (.string x.R.S),.lit (.int .i64 x.R.V.K),.lit (.int .i64 x.R.V.N),.lit (.string x.R.V.S)]
noncomputable def uy(cs:List CC):Option (dj):=match cs with
 |[.lit (.int .i64 a0),.lit (.int .i64 a1),.lit (.string a2),.lit (.int .i64 a3),.lit (.int .i64 a4),.lit (.string a5),.lit (.int .i64 a6),.lit (.string a7),.lit (.int .i64 a8),.lit (.int .i64 a9),.lit (.string QU)]=>some ⟨a0,⟨a1,a2,⟨a3,a4,a5⟩⟩,⟨a6,a7,⟨a8,a9,QU⟩⟩⟩
 |_=>none
theorem O8(cs:List CC)(x:dj)(h:uy cs=some x):uh x=cs:=by
 unfold uy at h;split at h<;>cases h;rfl
noncomputable def uk(x:dM):List CC:=[.lit (.string x.Op),.lit (.int .i64 x.L.K),.lit (.string x.L.S),.lit (.int .i64 x.L.V.K),.lit (.int .i64 x.L.V.N),.lit (.string x.L.V.S),.lit (.int .i64 x.R.K),.lit (.string x.R.S),.lit (.int .i64 x.R.V.K),.lit (.int .i64 x.R.V.N),.lit (.string x.R.V.S)]
noncomputable def uG(cs:List CC):Option (dM):=match cs with
 |[.lit (.string a0),.lit (.int .i64 a1),.lit (.string a2),.lit (.int .i64 a3),.lit (.int .i64 a4),.lit (.string a5),.lit (.int .i64 a6),.lit (.string a7),.lit (.int .i64 a8),.lit (.int .i64 a9),.lit (.string QU)]=>some ⟨a0,⟨a1,a2,⟨a3,a4,a5⟩⟩,⟨a6,a7,⟨a8,a9,QU⟩⟩⟩
 |_=>none
theorem Pe(cs:List CC)(x:dM)(h:uG cs=some x):uk x=cs:=by
 unfold uG at h;split at h<;>cases h;rfl
noncomputable def ug(x:dM):List CC:=[.lit (.string x.Op),.lit (.int .i64 x.L.K),.lit (.string x.L.S),.lit (.int .i64 x.L.V.K),.lit (.int .i64 x.L.V.N),.lit (.string x.L.V.S),.lit (.int .i64 x.R.K),.lit (.string x.R.S),.lit (.int .i64 x.R.V.K),.lit (.int .i64 x.R.V.N),.lit (.string x.R.V.S)]
noncomputable def ux(cs:List CC):Option (dM):=match cs with
 |[.lit (.string a0),.lit (.int .i64 a1),.lit (.string a2),.lit (.int .i64 a3),.lit (.int .i64 a4),.lit (.string a5),.lit (.int .i64 a6),.lit (.string a7),.lit (.int .i64 a8),.lit (.int .i64 a9),.lit (.string QU)]=>some ⟨a0,⟨a1,a2,⟨a3,a4,a5⟩⟩,⟨a6,a7,⟨a8,a9,QU⟩⟩⟩
 |_=>none
theorem O7(cs:List CC)(x:dM)(h:ux cs=some x):ug x=cs:=by
 unfold ux at h;split at h<;>cases h;rfl
noncomputable def Jj(x:en):List CC:=[.lit (.int .i64 x.Kind),.lit (.string x.Name),.sl .ga x.aA,.lit (.int .i64 x.N),.lit (.string x.jt)]
noncomputable def xw(cs:List CC):Option (en):=match cs with
 |[.lit (.int .i64 a0),.lit (.string a1),.sl .ga a2,.lit (.int .i64 a3),.lit (.string a4)]=>some ⟨a0,a1,a2,a3,a4⟩
 |_=>none
theorem SQ(cs:List CC)(x:en)(h:xw cs=some x):Jj x=cs:=by
 unfold xw at h;split at h<;>cases h;rfl
noncomputable def Jb(x:en):List CC:=[.lit (.int .i64 x.Kind),.lit (.string x.Name),.sl .jH x.aA,.lit (.int .i64 x.N),.lit (.string x.jt)]
noncomputable def xj(cs:List CC):Option (en):=match cs with
 |[.lit (.int .i64 a0),.lit (.string a1),.sl .jH a2,.lit (.int .i64 a3),.lit (.string a4)]=>some ⟨a0,a1,a2,a3,a4⟩
 |_=>none
theorem SF(cs:List CC)(x:en)(h:xj cs=some x):Jb x=cs:=by
 unfold xj at h;split at h<;>cases h;rfl
noncomputable def Fw(x:aw):List CC:=[.lit (.string x.Name),.lit (.int .i64 x.mM),.sl .cq x.ai,.sl .cQ x.bA,.sl .eT x.cp]
noncomputable def uC(cs:List CC):Option (aw):=match cs with
 |[.lit (.string a0),.lit (.int .i64 a1),.sl .cq a2,.sl .cQ a3,.sl .eT a4]=>some ⟨a0,a1,a2,a3,a4⟩
 |_=>none
theorem Pa(cs:List CC)(x:aw)(h:uC cs=some x):Fw x=cs:=by
 unfold uC at h;split at h<;>cases h;rfl
noncomputable def Fp(x:aw):List CC:=[.lit (.string x.Name),.lit (.int .i64 x.mM),.sl .k8 x.ai,.sl .jI x.bA,.sl .oU x.cp]
noncomputable def ur(cs:List CC):Option (aw):=match cs with
 |[.lit (.string a0),.lit (.int .i64 a1),.sl .k8 a2,.sl .jI a3,.sl .oU a4]=>some ⟨a0,a1,a2,a3,a4⟩
 |_=>none
theorem O3(cs:List CC)(x:aw)(h:ur cs=some x):Fp x=cs:=by
 unfold ur at h;split at h<;>cases h;rfl
noncomputable def Ji(x:bY):List CC:=[.lit (.string x.Name),.sl .cw x.af]
noncomputable def xu(cs:List CC):Option (bY):=match cs with
 |[.lit (.string a0),.sl .cw a1]=>some ⟨a0,a1⟩
 |_=>none
theorem SO(cs:List CC)(x:bY)(h:xu cs=some x):Ji x=cs:=by
 unfold xu at h;split at h<;>cases h;rfl
noncomputable def Ja(x:bY):List CC:=[.lit (.string x.Name),.sl .jG x.af]
noncomputable def xh(cs:List CC):Option (bY):=match cs with
 |[.lit (.string a0),.sl .jG a1]=>some ⟨a0,a1⟩
 |_=>none
theorem SD(cs:List CC)(x:bY)(h:xh cs=some x):Ja x=cs:=by
 unfold xh at h;split at h<;>cases h;rfl
noncomputable def DM(x:cW):List CC:=[.lit (.int .i64 x.jW),.sl .int x.b9,.sl .b8 x.lJ]
noncomputable def rW(cs:List CC):Option (cW):=match cs with
 |[.lit (.int .i64 a0),.sl .int a1,.sl .b8 a2]=>some ⟨a0,a1,a2⟩
 |_=>none
theorem M9(cs:List CC)(x:cW)(h:rW cs=some x):DM x=cs:=by
 unfold rW at h;split at h<;>cases h;rfl
noncomputable def DG(x:cW):List CC:=[.lit (.int .i64 x.jW),.sl .int x.b9,.sl .jJ x.lJ]
noncomputable def rQ(cs:List CC):Option (cW):=match cs with
 |[.lit (.int .i64 a0),.sl .int a1,.sl .jJ a2]=>some ⟨a0,a1,a2⟩
 |_=>none
theorem M3(cs:List CC)(x:cW)(h:rQ cs=some x):DG x=cs:=by
 unfold rQ at h;split at h<;>cases h;rfl
noncomputable def DP(x:bj):List CC:=[.lit (.string x.Kind),.lit (.int .i64 x.N),.sl .bC x.fg,.sl .int x.At]
noncomputable def rZ(cs:List CC):Option (bj):=match cs with
 |[.lit (.string a0),.lit (.int .i64 a1),.sl .bC a2,.sl .int a3]=>some ⟨a0,a1,a2,a3⟩
 |_=>none
theorem Na(cs:List CC)(x:bj)(h:rZ cs=some x):DP x=cs:=by
 unfold rZ at h;split at h<;>cases h;rfl
noncomputable def DJ(x:bj):List CC:=[.lit (.string x.Kind),.lit (.int .i64 x.N),.sl .hU x.fg,.sl .int x.At]
noncomputable def rT(cs:List CC):Option (bj):=match cs with
 |[.lit (.string a0),.lit (.int .i64 a1),.sl .hU a2,.sl .int a3]=>some ⟨a0,a1,a2,a3⟩
 |_=>none
theorem M6(cs:List CC)(x:bj)(h:rT cs=some x):DJ x=cs:=by
 unfold rT at h;split at h<;>cases h;rfl
noncomputable def DO(x:bm):List CC:=[.sl .int x.Pos,.sl .int x.Neg]
noncomputable def rY(cs:List CC):Option (bm):=match cs with
 |[.sl .int a0,.sl .int a1]=>some ⟨a0,a1⟩
 |_=>none
theorem M_(cs:List CC)(x:bm)(h:rY cs=some x):DO x=cs:=by
 unfold rY at h;split at h<;>cases h;rfl
noncomputable def DI(x:bm):List CC:=[.sl .int x.Pos,.sl .int x.Neg]
noncomputable def rS(cs:List CC):Option (bm):=match cs with
 |[.sl .int a0,.sl .int a1]=>some ⟨a0,a1⟩
 |_=>none
theorem M5(cs:List CC)(x:bm)(h:rS cs=some x):DI x=cs:=by
 unfold rS at h;split at h<;>cases h;rfl
noncomputable def Jf(x:dE):List CC:=[.sl .bI x.ab,.sl .ci x.aC]
noncomputable def xp(cs:List CC):Option (dE):=match cs with
 |[.sl .bI a0,.sl .ci a1]=>some ⟨a0,a1⟩
 |_=>none
theorem SL(cs:List CC)(x:dE)(h:xp cs=some x):Jf x=cs:=by
 unfold xp at h;split at h<;>cases h;rfl
noncomputable def I9(x:dE):List CC:=[.sl .mj x.ab,.sl .mi x.aC]
noncomputable def xe(cs:List CC):Option (dE):=match cs with
 |[.sl .mj a0,.sl .mi a1]=>some ⟨a0,a1⟩
 |_=>none
theorem SA(cs:List CC)(x:dE)(h:xe cs=some x):I9 x=cs:=by
 unfold xe at h;split at h<;>cases h;rfl
noncomputable def Jh(x:b7):List CC:=[.sl .int x.L]
noncomputable def xt(cs:List CC):Option (b7):=match cs with
 |[.sl .int a0]=>some ⟨a0⟩
 |_=>none
theorem SN(cs:List CC)(x:b7)(h:xt cs=some x):Jh x=cs:=by
 unfold xt at h;split at h<;>cases h;rfl
noncomputable def I_(x:b7):List CC:=[.sl .int x.L]
noncomputable def xg(cs:List CC):Option (b7):=match cs with
 |[.sl .int a0]=>some ⟨a0⟩
 |_=>none
theorem SC(cs:List CC)(x:b7)(h:xg cs=some x):I_ x=cs:=by
 unfold xg at h;split at h<;>cases h;rfl
noncomputable def Jc(x:au):List CC:=[.sl .int x.b9,.sl .int x.db]
noncomputable def xl(cs:List CC):Option (au):=match cs with
 |[.sl .int a0,.sl .int a1]=>some ⟨a0,a1⟩
 |_=>none
theorem SH(cs:List CC)(x:au)(h:xl cs=some x):Jc x=cs:=by
 unfold xl at h;split at h<;>cases h;rfl
noncomputable def I5(x:au):List CC:=[.sl .int x.b9,.sl .int x.db]
noncomputable def xa(cs:List CC):Option (au):=match cs with
 |[.sl .int a0,.sl .int a1]=>some ⟨a0,a1⟩
 |_=>none
theorem Sw(cs:List CC)(x:au)(h:xa cs=some x):I5 x=cs:=by
 unfold xa at h;split at h<;>cases h;rfl
noncomputable def DN(x:aq):List CC:=[.sl .bO x.bi]
noncomputable def rX(cs:List CC):Option (aq):=match cs with
 |[.sl .bO a0]=>some ⟨a0⟩
 |_=>none
theorem M'(cs:List CC)(x:aq)(h:rX cs=some x):DN x=cs:=by
 unfold rX at h;split at h<;>cases h;rfl
noncomputable def DH(x:aq):List CC:=[.sl .oR x.bi]
noncomputable def rR(cs:List CC):Option (aq):=match cs with
 |[.sl .oR a0]=>some ⟨a0⟩
 |_=>none
theorem M4(cs:List CC)(x:aq)(h:rR cs=some x):DH x=cs:=by
 unfold rR at h;split at h<;>cases h;rfl
noncomputable def Jd(x:dR):List CC:=[.sl .cf x.ao]
noncomputable def xn(cs:List CC):Option (dR):=match cs with
 |[.sl .cf a0]=>some ⟨a0⟩
 |_=>none
theorem SJ(cs:List CC)(x:dR)(h:xn cs=some x):Jd x=cs:=by
 unfold xn at h;split at h<;>cases h;rfl
noncomputable def I7(x:dR):List CC:=[.sl .gG x.ao]
noncomputable def xc(cs:List CC):Option (dR):=match cs with
 |[.sl .gG a0]=>some ⟨a0⟩
 |_=>none
theorem Sy(cs:List CC)(x:dR)(h:xc cs=some x):I7 x=cs:=by
 unfold xc at h;split at h<;>cases h;rfl
noncomputable def Jg(x:df):List CC:=[.sl .cD x.ab,.sl .di x.af]
noncomputable def xr(cs:List CC):Option (df):=match cs with
 |[.sl .cD a0,.sl .di a1]=>some ⟨a0,a1⟩
 |_=>none
theorem SM(cs:List CC)(x:df)(h:xr cs=some x):Jg x=cs:=by
 unfold xr at h;split at h<;>cases h;rfl
noncomputable def I'(x:df):List CC:=[.sl .k9 x.ab,.sl .nb x.af]
noncomputable def xf(cs:List CC):Option (df):=match cs with
 |[.sl .k9 a0,.sl .nb a1]=>some ⟨a0,a1⟩
 |_=>none
theorem SB(cs:List CC)(x:df)(h:xf cs=some x):I' x=cs:=by
 unfold xf at h;split at h<;>cases h;rfl
noncomputable def DK(x:cn):List CC:=[.lit (.int .i64 x.At),.lit (.string x.F.Kind),.sl .bC x.F.ak]
noncomputable def rU(cs:List CC):Option (cn):=match cs with
 |[.lit (.int .i64 a0),.lit (.string a1),.sl .bC a2]=>some ⟨a0,⟨a1,a2⟩⟩
 |_=>none
theorem M7(cs:List CC)(x:cn)(h:rU cs=some x):DK x=cs:=by
 unfold rU at h;split at h<;>cases h;rfl
noncomputable def DE(x:cn):List CC:=[.lit (.int .i64 x.At),.lit (.string x.F.Kind),.sl .hU x.F.ak]
noncomputable def rO(cs:List CC):Option (cn):=match cs with
 |[.lit (.int .i64 a0),.lit (.string a1),.sl .hU a2]=>some ⟨a0,⟨a1,a2⟩⟩
 |_=>none
theorem M1(cs:List CC)(x:cn)(h:rO cs=some x):DE x=cs:=by
 unfold rO at h;split at h<;>cases h;rfl
noncomputable def Fv(x:ck):List CC:=[.lit (.string x.F.Kind),.sl .bC x.F.ak,.lit (.string x.jt),.lit (.int .i64 x.State),.lit (.int .i64 x.kE),.lit (.int .i64 x.Lk),.lit (.int .i64 x.V.K),.lit (.int .i64 x.V.N),.lit (.string x.V.S)]
noncomputable def uB(cs:List CC):Option (ck):=match cs with
 |[.lit (.string a0),.sl .bC a1,.lit (.string a2),.lit (.int .i64 a3),.lit (.int .i64 a4),.lit (.int .i64 a5),.lit (.int .i64 a6),.lit (.int .i64 a7),.lit (.string a8)]=>some ⟨⟨a0,a1⟩,a2,a3,a4,a5,⟨a6,a7,a8⟩⟩
 |_=>none
theorem O_(cs:List CC)(x:ck)(h:uB cs=some x):Fv x=cs:=by
 unfold uB at h;split at h<;>cases h;rfl
noncomputable def Fo(x:ck):List CC:=[.lit (.string x.F.Kind),.sl .hU x.F.ak,.lit (.string x.jt),.lit (.int .i64 x.State),.lit (.int .i64 x.kE),.lit (.int .i64 x.Lk),.lit (.int .i64 x.V.K),.lit (.int .i64 x.V.N),.lit (.string x.V.S)]
noncomputable def uq(cs:List CC):Option (ck):=match cs with
 |[.lit (.string a0),.sl .hU a1,.lit (.string a2),.lit (.int .i64 a3),.lit (.int .i64 a4),.lit (.int .i64 a5),.lit (.int .i64 a6),.lit (.int .i64 a7),.lit (.string a8)]=>some ⟨⟨a0,a1⟩,a2,a3,a4,a5,⟨a6,a7,a8⟩⟩
 |_=>none
theorem O2(cs:List CC)(x:ck)(h:uq cs=some x):Fo x=cs:=by
 unfold uq at h;split at h<;>cases h;rfl
noncomputable def Fu(x:de):List CC:=[.lit (.string x.Key),.lit (.string x.F.Kind),.sl .bC x.F.ak]
noncomputable def uA(cs:List CC):Option (de):=match cs with
 |[.lit (.string a0),.lit (.string a1),.sl .bC a2]=>some ⟨a0,⟨a1,a2⟩⟩
 |_=>none
theorem O'(cs:List CC)(x:de)(h:uA cs=some x):Fu x=cs:=by
 unfold uA at h;split at h<;>cases h;rfl
noncomputable def Fm(x:de):List CC:=[.lit (.string x.Key),.lit (.string x.F.Kind),.sl .hU x.F.ak]
noncomputable def uo(cs:List CC):Option (de):=match cs with
 |[.lit (.string a0),.lit (.string a1),.sl .hU a2]=>some ⟨a0,⟨a1,a2⟩⟩
 |_=>none
theorem O1(cs:List CC)(x:de)(h:uo cs=some x):Fm x=cs:=by
 unfold uo at h;split at h<;>cases h;rfl
noncomputable def uj(x:eQ):List CC:=[.sl .cg x.S.aa,.lit (.int .i64 x.S.Next),.sl .dB x.dc,.sl .dJ x.fW,.sl .dq x.fy,.sl .eO x.gZ,.lit (.int .i64 x.State),.lit (.int .i64 x.JV)]
noncomputable def uE(cs:List CC):Option (eQ):=match cs with
 |[.sl .cg a0,.lit (.int .i64 a1),.sl .dB a2,.sl .dJ a3,.sl .dq a4,.sl .eO a5,.lit (.int .i64 a6),.lit (.int .i64 a7)]=>some ⟨⟨a0,a1⟩,a2,a3,a4,a5,a6,a7⟩
 |_=>none
theorem Pc(cs:List CC)(x:eQ)(h:uE cs=some x):uj x=cs:=by
 unfold uE at h;split at h<;>cases h;rfl
noncomputable def Fs(x:eQ):List CC:=[.sl .fO x.S.aa,.lit (.int .i64 x.S.Next),.sl .fG x.dc,.sl .iy x.fW,.sl .fF x.fy,.sl .ix x.gZ,.lit (.int .i64 x.State),.lit (.int .i64 x.JV)]
noncomputable def uv(cs:List CC):Option (eQ):=match cs with
 |[.sl .fO a0,.lit (.int .i64 a1),.sl .fG a2,.sl .iy a3,.sl .fF a4,.sl .ix a5,.lit (.int .i64 a6),.lit (.int .i64 a7)]=>some ⟨⟨a0,a1⟩,a2,a3,a4,a5,a6,a7⟩
 |_=>none
theorem O5(cs:List CC)(x:eQ)(h:uv cs=some x):Fs x=cs:=by
 unfold uv at h;split at h<;>cases h;rfl
noncomputable def w6(x:pG):List CC:=[.sl .cg x.X.S.aa,.lit (.int .i64 x.X.S.Next),.sl .dB x.X.dc,.sl .dJ x.X.fW,.sl .dq x.X.fy,.sl .eO x.X.gZ,.lit (.int .i64 x.X.State),.lit (.int .i64 x.X.JV),.sl .cD x.M.ab,.sl .di x.M.af]
noncomputable def xm(cs:List CC):Option (pG):=match cs with
 |[.sl .cg a0,.lit (.int .i64 a1),.sl .dB a2,.sl .dJ a3,.sl .dq a4,.sl .eO a5,.lit (.int .i64 a6),.lit (.int .i64 a7),.sl .cD a8,.sl .di a9]=>some ⟨⟨⟨a0,a1⟩,a2,a3,a4,a5,a6,a7⟩,⟨a8,a9⟩⟩
 |_=>none
theorem SI(cs:List CC)(x:pG)(h:xm cs=some x):w6 x=cs:=by
 unfold xm at h;split at h<;>cases h;rfl
noncomputable def I6(x:pG):List CC:=[.sl .fO x.X.S.aa,.lit (.int .i64 x.X.S.Next),.sl .fG x.X.dc,.sl .iy x.X.fW,.sl .fF x.X.fy,.sl .ix x.X.gZ,.lit (.int .i64 x.X.State),.lit (.int .i64 x.X.JV),.sl .k9 x.M.ab,.sl .nb x.M.af]
noncomputable def xb(cs:List CC):Option (pG):=match cs with
 |[.sl .fO a0,.lit (.int .i64 a1),.sl .fG a2,.sl .iy a3,.sl .fF a4,.sl .ix a5,.lit (.int .i64 a6),.lit (.int .i64 a7),.sl .k9 a8,.sl .nb a9]=>some ⟨⟨⟨a0,a1⟩,a2,a3,a4,a5,a6,a7⟩,⟨a8,a9⟩⟩
 |_=>none
theorem Sx(cs:List CC)(x:pG)(h:xb cs=some x):I6 x=cs:=by
 unfold xb at h;split at h<;>cases h;rfl
noncomputable def zX(x:bh):List CC:=[.sl .cq x.bH,.sl .cq x.ey,.sl .int x.chain.Pos,.sl .int x.chain.Neg,.sl .cD x.mem,.sl .cg x.s.aa,.lit (.int .i64 x.s.Next),.lit (.int .i64 x.id)]
noncomputable def pZ(cs:List CC):Option (bh):=match cs with
 |[.sl .cq a0,.sl .cq a1,.sl .int a2,.sl .int a3,.sl .cD a4,.sl .cg a5,.lit (.int .i64 a6),.lit (.int .i64 a7)]=>some ⟨a0,a1,⟨a2,a3⟩,a4,⟨a5,a6⟩,a7⟩
 |_=>none
theorem Kx(cs:List CC)(x:bh)(h:pZ cs=some x):zX x=cs:=by
 unfold pZ at h;split at h<;>cases h;rfl
noncomputable def zW(x:bh):List CC:=[.sl .k8 x.bH,.sl .k8 x.ey,.sl .int x.chain.Pos,.sl .int x.chain.Neg,.sl .k9 x.mem,.sl .fO x.s.aa,.lit (.int .i64 x.s.Next),.lit (.int .i64 x.id)]
noncomputable def pY(cs:List CC):Option (bh):=match cs with
 |[.sl .k8 a0,.sl .k8 a1,.sl .int a2,.sl .int a3,.sl .k9 a4,.sl .fO a5,.lit (.int .i64 a6),.lit (.int .i64 a7)]=>some ⟨a0,a1,⟨a2,a3⟩,a4,⟨a5,a6⟩,a7⟩
 |_=>none
theorem Kw(cs:List CC)(x:bh)(h:pY cs=some x):zW x=cs:=by
 unfold pY at h;split at h<;>cases h;rfl
noncomputable def Cd.enc:(τ:Cd)->τ.T->List CC
 | .int,x=>AI x
 | .byte,x=>w8 x
 | .str,x=>AH x
 | .bool,x=>w9 x
 | .bC,x=>w5 x
 | .hU,x=>wZ x
 | .eP,x=>Fy x
 | .nS,x=>Ft x
 | .cg,x=>Fx x
 | .fO,x=>Fq x
 | .dW,x=>DL x
 | .jF,x=>DF x
 | .ig,x=>w7 x
 | .oT,x=>w4 x
 | .cq,x=>Je x
 | .k8,x=>I8 x
 | .b8,x=>um x
 | .jJ,x=>ui x
 | .cQ,x=>ul x
 | .jI,x=>uh x
 | .ga,x=>uk x
 | .jH,x=>ug x
 | .eT,x=>Jj x
 | .oU,x=>Jb x
 | .cw,x=>Fw x
 | .jG,x=>Fp x
 | .jc,x=>Ji x
 | .qg,x=>Ja x
 | .dB,x=>DM x
 | .fG,x=>DG x
 | .bI,x=>DP x
 | .mj,x=>DJ x
 | .ci,x=>DO x
 | .mi,x=>DI x
 | .mK,x=>Jf x
 | .Ev,x=>I9 x
 | .cD,x=>Jh x
 | .k9,x=>I_ x
 | .bO,x=>Jc x
 | .oR,x=>I5 x
 | .cf,x=>DN x
 | .gG,x=>DH x
 | .di,x=>Jd x
 | .nb,x=>I7 x
 | .jU,x=>Jg x
 | .tu,x=>I' x
 | .dq,x=>DK x
 | .fF,x=>DE x
 | .dJ,x=>Fv x
 | .iy,x=>Fo x
 | .eO,x=>Fu x
 | .ix,x=>Fm x
 | .jb,x=>uj x
 | .nR,x=>Fs x
 | .ra,x=>w6 x
 | .qf,x=>I6 x
 | .gM,x=>zX x
 | .nB,x=>zW x
noncomputable def Cd.dec:(τ:Cd)->List CC->Option τ.T
 | .int,cs=>AK cs
 | .byte,cs=>xx cs
 | .str,cs=>AJ cs
 | .bool,cs=>xy cs
 | .bC,cs=>xk cs
 | .hU,cs=>w_ cs
 | .eP,cs=>uF cs
 | .nS,cs=>uw cs
 | .cg,cs=>uD cs
 | .fO,cs=>uu cs
 | .dW,cs=>rV cs
 | .jF,cs=>rP cs
 | .ig,cs=>xv cs
 | .oT,cs=>xi cs
 | .cq,cs=>xo cs
 | .k8,cs=>xd cs
 | .b8,cs=>uI cs
 | .jJ,cs=>uz cs
 | .cQ,cs=>uH cs
 | .jI,cs=>uy cs
 | .ga,cs=>uG cs
 | .jH,cs=>ux cs
 | .eT,cs=>xw cs
 | .oU,cs=>xj cs
 | .cw,cs=>uC cs
 | .jG,cs=>ur cs
 | .jc,cs=>xu cs
 | .qg,cs=>xh cs
 | .dB,cs=>rW cs
 | .fG,cs=>rQ cs
 | .bI,cs=>rZ cs
 | .mj,cs=>rT cs
 | .ci,cs=>rY cs
 | .mi,cs=>rS cs
 | .mK,cs=>xp cs
 | .Ev,cs=>xe cs
 | .cD,cs=>xt cs
 | .k9,cs=>xg cs
 | .bO,cs=>xl cs
 | .oR,cs=>xa cs
 | .cf,cs=>rX cs
 | .gG,cs=>rR cs
 | .di,cs=>xn cs
 | .nb,cs=>xc cs
 | .jU,cs=>xr cs
 | .tu,cs=>xf cs
 | .dq,cs=>rU cs
 | .fF,cs=>rO cs
 | .dJ,cs=>uB cs
 | .iy,cs=>uq cs
 | .eO,cs=>uA cs
 | .ix,cs=>uo cs
 | .jb,cs=>uE cs
 | .nR,cs=>uv cs
 | .ra,cs=>xm cs
 | .qf,cs=>xb cs
 | .gM,cs=>pZ cs
 | .nB,cs=>pY cs
noncomputable def fL:cV:=⟨0,0,a_⟩
noncomputable def H7:bf:=⟨a_,[]⟩
noncomputable def br:bW:=⟨0,⟨a_,[]⟩⟩
noncomputable def Oz:ap:=⟨[],0⟩
noncomputable def gi:dn:=⟨0,a_,⟨0,0,a_⟩⟩
noncomputable def dl:bc:=⟨a_,[],false⟩
noncomputable def qw:aW:=⟨a_,⟨0,0,a_⟩⟩
noncomputable def qv:dj:=⟨0,⟨0,a_,⟨0,0,a_⟩⟩,⟨0,a_,⟨0,0,a_⟩⟩⟩
noncomputable def mQ:dM:=⟨a_,⟨0,a_,⟨0,0,a_⟩⟩,⟨0,a_,⟨0,0,a_⟩⟩⟩
noncomputable def gB:en:=⟨0,a_,[],0,a_⟩
noncomputable def aP:aw:=⟨a_,0,[],[],[]⟩
noncomputable def acw:bY:=⟨a_,[]⟩
noncomputable def dU:cW:=⟨0,[],[]⟩
noncomputable def hJ:bj:=⟨a_,0,[],[]⟩
noncomputable def b_:bm:=⟨[],[]⟩
noncomputable def acu:dE:=⟨[],[]⟩
noncomputable def cS:b7:=⟨[]⟩
noncomputable def aT:au:=⟨[],[]⟩
noncomputable def aB:aq:=⟨[]⟩
noncomputable def bt:dR:=⟨[]⟩
noncomputable def acv:df:=⟨[],[]⟩
noncomputable def kT:cn:=⟨0,⟨a_,[]⟩⟩
noncomputable def cK:ck:=⟨⟨a_,[]⟩,a_,0,0,0,⟨0,0,a_⟩⟩
noncomputable def dw:de:=⟨a_,⟨a_,[]⟩⟩
noncomputable def Vq:eQ:=⟨⟨[],0⟩,[],[],[],[],0,0⟩
noncomputable def acr:pG:=⟨⟨⟨[],0⟩,[],[],[],[],0,0⟩,⟨[],[]⟩⟩
noncomputable def Ln:bh:=⟨[],[],⟨[],[]⟩,[],⟨[],0⟩,0⟩
noncomputable def Cd.dt:(τ:Cd)->τ.T
 | .int=>(0:Int)
 | .byte=>(0:Int)
 | .str=>(a_:ByteArray)
 | .bool=>(false:Bool)
 | .bC=>fL
 | .hU=>fL
 | .eP=>H7
 | .nS=>H7
 | .cg=>br
 | .fO=>br
 | .dW=>Oz
 | .jF=>Oz
 | .ig=>gi
 | .oT=>gi
 | .cq=>dl
 | .k8=>dl
 | .b8=>qw
 | .jJ=>qw
 | .cQ=>qv
 | .jI=>qv
 | .ga=>mQ
 | .jH=>mQ
 | .eT=>gB
 | .oU=>gB
 | .cw=>aP
 | .jG=>aP
 | .jc=>acw
 | .qg=>acw
 | .dB=>dU
 | .fG=>dU
 | .bI=>hJ
 | .mj=>hJ
 | .ci=>b_
 | .mi=>b_
 | .mK=>acu
 | .Ev=>acu
 | .cD=>cS
 | .k9=>cS
 | .bO=>aT
 | .oR=>aT
 | .cf=>aB
 | .gG=>aB
 | .di=>bt
 | .nb=>bt
 | .jU=>acv
 | .tu=>acv
 | .dq=>kT
 | .fF=>kT
 | .dJ=>cK
 | .iy=>cK
 | .eO=>dw
 | .ix=>dw
 | .jb=>Vq
 | .nR=>Vq
 | .ra=>acr
 | .qf=>acr
 | .gM=>Ln
 | .nB=>Ln
noncomputable def Cd.flat:Cd->Bool
 | .int=>true
 | .byte=>true
 | .str=>true
 | .bool=>true
 | .bC=>true
 | .hU=>true
 | .eP=>false
 | .nS=>false
 | .cg=>false
 | .fO=>false
 | .dW=>false
 | .jF=>false
 | .ig=>true
 | .oT=>true
 | .cq=>false
 | .k8=>false
 | .b8=>true
 | .jJ=>true
 | .cQ=>true
 | .jI=>true
 | .ga=>true
 | .jH=>true
 | .eT=>false
 | .oU=>false
 | .cw=>false
 | .jG=>false
 | .jc=>false
 | .qg=>false
 | .dB=>false
 | .fG=>false
 | .bI=>false
 | .mj=>false
 | .ci=>false
 | .mi=>false
 | .mK=>false
 | .Ev=>false
 | .cD=>false
 | .k9=>false
 | .bO=>false
 | .oR=>false
 | .cf=>false
 | .gG=>false
 | .di=>false
 | .nb=>false
 | .jU=>false
 | .tu=>false
 | .dq=>false
 | .fF=>false
 | .dJ=>false
 | .iy=>false
 | .eO=>false
 | .ix=>false
 | .jb=>false
 | .nR=>false
 | .ra=>false
 | .qf=>false
 | .gM=>false
 | .nB=>false
theorem abi(x:Int)(c:CC)(h:c∈AI x):∃v,c=.lit v:=by
 simp only[AI,h_,rh,or_false] at h
 rcases h with rfl<;>exact⟨_,rfl⟩
theorem Ul(x:Int)(c:CC)(h:c∈w8 x):∃v,c=.lit v:=by
 simp only[w8,h_,rh,or_false] at h
 rcases h with rfl<;>exact⟨_,rfl⟩
theorem abh(x:ByteArray)(c:CC)(h:c∈AH x):∃v,c=.lit v:=by
 simp only[AH,h_,rh,or_false] at h
 rcases h with rfl<;>exact⟨_,rfl⟩
theorem Um(x:Bool)(c:CC)(h:c∈w9 x):∃v,c=.lit v:=by
 simp only[w9,h_,rh,or_false] at h
 rcases h with rfl<;>exact⟨_,rfl⟩
theorem Uj(x:cV)(c:CC)(h:c∈w5 x):∃v,c=.lit v:=by
 simp only[w5,h_,rh,or_false] at h
 rcases h with rfl|rfl|rfl<;>exact⟨_,rfl⟩
theorem Uh(x:cV)(c:CC)(h:c∈wZ x):∃v,c=.lit v:=by
 simp only[wZ,h_,rh,or_false] at h
 rcases h with rfl|rfl|rfl<;>exact⟨_,rfl⟩
theorem Uk(x:dn)(c:CC)(h:c∈w7 x):∃v,c=.lit v:=by
 simp only[w7,h_,rh,or_false] at h
 rcases h with rfl|rfl|rfl|rfl|rfl<;>exact⟨_,rfl⟩
theorem Ui(x:dn)(c:CC)(h:c∈w4 x):∃v,c=.lit v:=by
 simp only[w4,h_,rh,or_false] at h
 rcases h with rfl|rfl|rfl|rfl|rfl<;>exact⟨_,rfl⟩
theorem QA(x:aW)(c:CC)(h:c∈um x):∃v,c=.lit v:=by
 simp only[um,h_,rh,or_false] at h
 rcases h with rfl|rfl|rfl|rfl<;>exact⟨_,rfl⟩
theorem Qx(x:aW)(c:CC)(h:c∈ui x):∃v,c=.lit v:=by
 simp only[ui,h_,rh,or_false] at h
 rcases h with rfl|rfl|rfl|rfl<;>exact⟨_,rfl⟩
theorem Qz(x:dj)(c:CC)(h:c∈ul x):∃v,c=.lit v:=by
 simp only[ul,h_,rh,or_false] at h
 rcases h with rfl|rfl|rfl|rfl|rfl|rfl|rfl|rfl|rfl|rfl|rfl<;>exact⟨_,rfl⟩
theorem Qw(x:dj)(c:CC)(h:c∈uh x):∃v,c=.lit v:=by
 simp only[uh,h_,rh,or_false] at h
 rcases h with rfl|rfl|rfl|rfl|rfl|rfl|rfl|rfl|rfl|rfl|rfl<;>exact⟨_,rfl⟩
theorem Qy(x:dM)(c:CC)(h:c∈uk x):∃v,c=.lit v:=by
 simp only[uk,h_,rh,or_false] at h
 rcases h with rfl|rfl|rfl|rfl|rfl|rfl|rfl|rfl|rfl|rfl|rfl<;>exact⟨_,rfl⟩
theorem Qv(x:dM)(c:CC)(h:c∈ug x):∃v,c=.lit v:=by
 simp only[ug,h_,rh,or_false] at h
 rcases h with rfl|rfl|rfl|rfl|rfl|rfl|rfl|rfl|rfl|rfl|rfl<;>exact⟨_,rfl⟩
noncomputable abbrev UU:jO where
 Ty:=Cd
 T:=Cd.T
 deq:=inferInstance
 wd:=Cd.wd
 enc:=Cd.enc
 dec:=Cd.dec
 dt:=Cd.dt
 flat:=Cd.flat
 L_:=by
  intro τ h x c hc
  cases τ
  case int=>exact abi x c hc
  case byte=>exact Ul x c hc
  case str=>exact abh x c hc
  case bool=>exact Um x c hc
  case bC=>exact Uj x c hc
  case hU=>exact Uh x c hc
  case eP=>cases h
  case nS=>cases h
  case cg=>cases h
  case fO=>cases h
  case dW=>cases h
  case jF=>cases h
  case ig=>exact Uk x c hc
  case oT=>exact Ui x c hc
  case cq=>cases h
  case k8=>cases h
  case b8=>exact QA x c hc
  case jJ=>exact Qx x c hc
  case cQ=>exact Qz x c hc
  case jI=>exact Qw x c hc
  case ga=>exact Qy x c hc
  case jH=>exact Qv x c hc
  case eT=>cases h
  case oU=>cases h
  case cw=>cases h
  case jG=>cases h
  case jc=>cases h
  case qg=>cases h
  case dB=>cases h
  case fG=>cases h
  case bI=>cases h
  case mj=>cases h
  case ci=>cases h
  case mi=>cases h
  case mK=>cases h
  case Ev=>cases h
  case cD=>cases h
  case k9=>cases h
  case bO=>cases h
  case oR=>cases h
  case cf=>cases h
  case gG=>cases h
  case di=>cases h
  case nb=>cases h
  case jU=>cases h
  case tu=>cases h
  case dq=>cases h
  case fF=>cases h
  case dJ=>cases h
  case iy=>cases h
  case eO=>cases h
  case ix=>cases h
  case jb=>cases h
  case nR=>cases h
  case ra=>cases h
  case qf=>cases h
  case gM=>cases h
  case nB=>cases h
 om:=.byte
 Vs:=fun x=>x
 ofB:=fun x=>x
 Ls:=fun _=>rfl
 Fz:=fun _=>rfl
 ka:=by intro τ;cases τ<;>decide
 cP:=by intro τ x;cases τ<;>rfl
 jn:=by
  intro τ cs x h
  cases τ
  case int=>exact ok_int cs x h
  case byte=>exact SR cs x h
  case str=>exact aaf cs x h
  case bool=>exact SS cs x h
  case bC=>exact SG cs x h
  case hU=>exact Sv cs x h
  case eP=>exact Pd cs x h
  case nS=>exact O6 cs x h
  case cg=>exact Pb cs x h
  case fO=>exact O4 cs x h
  case dW=>exact M8 cs x h
  case jF=>exact M2 cs x h
  case ig=>exact SP cs x h
  case oT=>exact SE cs x h
  case cq=>exact SK cs x h
  case k8=>exact Sz cs x h
  case b8=>exact Pg cs x h
  case jJ=>exact O9 cs x h
  case cQ=>exact Pf cs x h
  case jI=>exact O8 cs x h
  case ga=>exact Pe cs x h
  case jH=>exact O7 cs x h
  case eT=>exact SQ cs x h
  case oU=>exact SF cs x h
  case cw=>exact Pa cs x h
  case jG=>exact O3 cs x h
  case jc=>exact SO cs x h
  case qg=>exact SD cs x h
  case dB=>exact M9 cs x h
  case fG=>exact M3 cs x h
  case bI=>exact Na cs x h
  case mj=>exact M6 cs x h
  case ci=>exact M_ cs x h
  case mi=>exact M5 cs x h
  case mK=>exact SL cs x h
  case Ev=>exact SA cs x h
  case cD=>exact SN cs x h
  case k9=>exact SC cs x h
  case bO=>exact SH cs x h
  case oR=>exact Sw cs x h
  case cf=>exact M' cs x h
  case gG=>exact M4 cs x h
  case di=>exact SJ cs x h
  case nb=>exact Sy cs x h
  case jU=>exact SM cs x h
  case tu=>exact SB cs x h
  case dq=>exact M7 cs x h
  case fF=>exact M1 cs x h
  case dJ=>exact O_ cs x h
  case iy=>exact O2 cs x h
  case eO=>exact O' cs x h
  case ix=>exact O1 cs x h
  case jb=>exact Pc cs x h
  case nR=>exact O5 cs x h
  case ra=>exact SI cs x h
  case qf=>exact Sx cs x h
  case gM=>exact Kx cs x h
  case nB=>exact Kw cs x h
abbrev AQ(l:List (DV UU)):List (DV UU):=l
def Lf(a b:List (DV UU)):Prop:=a=b/\AQ []=AQ []
end
end AM
