import Derived.Test.YthciaocifglggaaGreatDoorQAmCore
namespace AM
open Go
noncomputable section
structure aZ where
 K:Int
 N:Int
 S:ByteArray
structure aA where
 Kind:ByteArray
 ae:List aZ
structure bf where
 Id:Int
 F:aA
structure az where
 ab:List bf
 Next:Int
structure bU where
 K:Int
 S:ByteArray
 V:aZ
structure b8 where
 Kind:ByteArray
 aU:List bU
 Not:Bool
structure bM where
 Name:ByteArray
 V:aZ
structure bo where
 Op:Int
 L:bU
 R:bU
structure bC where
 Op:ByteArray
 L:bU
 R:bU
structure cC where
 Kind:Int
 Name:ByteArray
 aU:List bC
 N:Int
 cq:ByteArray
structure aM where
 Name:ByteArray
 pt:Int
 aG:List b8
 bO:List bo
 cA:List cC
structure cr where
 Name:ByteArray
 aT:List aM
structure aE where
 gF:Int
 li:List Int
 dV:List bM
structure mA where
 Kind:Int
 F:aA
 Id:Int
 N:Int
 cq:ByteArray
structure ap where
 At:Int
 F:aA
structure ag where
 F:aA
 cq:ByteArray
 State:Int
 bg:Int
 jv:Int
 V:aZ
structure ci where
 Key:ByteArray
 F:aA
 Try:Int
structure aQ where
 Key:ByteArray
 F:aA
structure aj where
 S:az
 av:List aE
 ai:List ag
 ah:List ap
 ao:List aQ
 State:Int
 ez:Int
inductive Cd where
 |int|byte|str|bm|gJ|cP|mL|aP|iQ|di|jO|iy|nQ|fU|nP|dG|jS|de|jR|fc|jQ|fV|nR|cy|jP|kN|pd|aI|gL|mw|mn|ax|gK|aw|jN|cu|tQ|aW|jM|cz|kG
 deriving DecidableEq
noncomputable def Cd.T:Cd->Type
 | .int=>Int
 | .byte=>Int
 | .str=>ByteArray
 | .bm=>aZ
 | .gJ=>aZ
 | .cP=>aA
 | .mL=>aA
 | .aP=>bf
 | .iQ=>bf
 | .di=>az
 | .jO=>az
 | .iy=>bU
 | .nQ=>bU
 | .fU=>b8
 | .nP=>b8
 | .dG=>bM
 | .jS=>bM
 | .de=>bo
 | .jR=>bo
 | .fc=>bC
 | .jQ=>bC
 | .fV=>cC
 | .nR=>cC
 | .cy=>aM
 | .jP=>aM
 | .kN=>cr
 | .pd=>cr
 | .aI=>aE
 | .gL=>aE
 | .mw=>mA
 | .mn=>mA
 | .ax=>ap
 | .gK=>ap
 | .aw=>ag
 | .jN=>ag
 | .cu=>ci
 | .tQ=>ci
 | .aW=>aQ
 | .jM=>aQ
 | .cz=>aj
 | .kG=>aj
abbrev CC:=Cell Cd Cd.T
noncomputable def ak:ByteArray:=ByteArray.empty
noncomputable def Cd.wd:Cd->Nat
 | .int=>1
 | .byte=>1
 | .str=>1
 | .bm=>3
 | .gJ=>3
 | .cP=>2
 | .mL=>2
 | .aP=>3
 | .iQ=>3
 | .di=>2
 | .jO=>2
 | .iy=>5
 | .nQ=>5
 | .fU=>3
 | .nP=>3
 | .dG=>4
 | .jS=>4
 | .de=>11
 | .jR=>11
 | .fc=>11
 | .jQ=>11
 | .fV=>5
 | .nR=>5
 | .cy=>5
 | .jP=>5
 | .kN=>2
 | .pd=>2
 | .aI=>3
 | .gL=>3
 | .mw=>6
 | .mn=>6
 | .ax=>3
 | .gK=>3
 | .aw=>9
 | .jN=>9
 | .cu=>4
 | .tQ=>4
 | .aW=>3
 | .jM=>3
 | .cz=>8
 | .kG=>8
noncomputable def yG(x:Int):List CC:=[.lit (.int .i64 x)]
noncomputable def yI(cs:List CC):Option (Int):=match cs with
 |[.lit (.int .i64 a0)]=>some a0
 |_=>none
theorem ok_int(cs:List CC)(x:Int)(h:yI cs=some x):yG x=cs:=by
 unfold yI at h;split at h<;>cases h;rfl
noncomputable def vA(x:Int):List CC:=[.lit (.int .u8 x)]
noncomputable def vM(cs:List CC):Option (Int):=match cs with
 |[.lit (.int .u8 a0)]=>some a0
 |_=>none
theorem P4(cs:List CC)(x:Int)(h:vM cs=some x):vA x=cs:=by
 unfold vM at h;split at h<;>cases h;rfl
noncomputable def yE(x:ByteArray):List CC:=[.lit (.string x)]
noncomputable def yH(cs:List CC):Option (ByteArray):=match cs with
 |[.lit (.string a0)]=>some a0
 |_=>none
theorem WM(cs:List CC)(x:ByteArray)(h:yH cs=some x):yE x=cs:=by
 unfold yH at h;split at h<;>cases h;rfl
noncomputable def vy(x:aZ):List CC:=[.lit (.int .i64 x.K),.lit (.int .i64 x.N),.lit (.string x.S)]
noncomputable def vH(cs:List CC):Option (aZ):=match cs with
 |[.lit (.int .i64 a0),.lit (.int .i64 a1),.lit (.string a2)]=>some ⟨a0,a1,a2⟩
 |_=>none
theorem PW(cs:List CC)(x:aZ)(h:vH cs=some x):vy x=cs:=by
 unfold vH at h;split at h<;>cases h;rfl
noncomputable def vw(x:aZ):List CC:=[.lit (.int .i64 x.K),.lit (.int .i64 x.N),.lit (.string x.S)]
noncomputable def vB(cs:List CC):Option (aZ):=match cs with
 |[.lit (.int .i64 a0),.lit (.int .i64 a1),.lit (.string a2)]=>some ⟨a0,a1,a2⟩
 |_=>none
theorem PR(cs:List CC)(x:aZ)(h:vB cs=some x):vw x=cs:=by
 unfold vB at h;split at h<;>cases h;rfl
noncomputable def C9(x:aA):List CC:=[.lit (.string x.Kind),.sl .bm x.ae]
noncomputable def tm(cs:List CC):Option (aA):=match cs with
 |[.lit (.string a0),.sl .bm a1]=>some ⟨a0,a1⟩
 |_=>none
theorem Mm(cs:List CC)(x:aA)(h:tm cs=some x):C9 x=cs:=by
 unfold tm at h;split at h<;>cases h;rfl
noncomputable def C3(x:aA):List CC:=[.lit (.string x.Kind),.sl .gJ x.ae]
noncomputable def s8(cs:List CC):Option (aA):=match cs with
 |[.lit (.string a0),.sl .gJ a1]=>some ⟨a0,a1⟩
 |_=>none
theorem Mc(cs:List CC)(x:aA)(h:s8 cs=some x):C3 x=cs:=by
 unfold s8 at h;split at h<;>cases h;rfl
noncomputable def C8(x:bf):List CC:=[.lit (.int .i64 x.Id),.lit (.string x.F.Kind),.sl .bm x.F.ae]
noncomputable def th(cs:List CC):Option (bf):=match cs with
 |[.lit (.int .i64 a0),.lit (.string a1),.sl .bm a2]=>some ⟨a0,⟨a1,a2⟩⟩
 |_=>none
theorem Mk(cs:List CC)(x:bf)(h:th cs=some x):C8 x=cs:=by
 unfold th at h;split at h<;>cases h;rfl
noncomputable def C1(x:bf):List CC:=[.lit (.int .i64 x.Id),.lit (.string x.F.Kind),.sl .gJ x.F.ae]
noncomputable def s6(cs:List CC):Option (bf):=match cs with
 |[.lit (.int .i64 a0),.lit (.string a1),.sl .gJ a2]=>some ⟨a0,⟨a1,a2⟩⟩
 |_=>none
theorem Ma(cs:List CC)(x:bf)(h:s6 cs=some x):C1 x=cs:=by
 unfold s6 at h;split at h<;>cases h;rfl
noncomputable def BB(x:az):List CC:=[.sl .aP x.ab,.lit (.int .i64 x.Next)]
noncomputable def qG(cs:List CC):Option (az):=match cs with
 |[.sl .aP a0,.lit (.int .i64 a1)]=>some ⟨a0,a1⟩
 |_=>none
theorem Kj(cs:List CC)(x:az)(h:qG cs=some x):BB x=cs:=by
 unfold qG at h;split at h<;>cases h;rfl
noncomputable def Bx(x:az):List CC:=[.sl .iQ x.ab,.lit (.int .i64 x.Next)]
noncomputable def qB(cs:List CC):Option (az):=match cs with
 |[.sl .iQ a0,.lit (.int .i64 a1)]=>some ⟨a0,a1⟩
 |_=>none
theorem Kg(cs:List CC)(x:az)(h:qB cs=some x):Bx x=cs:=by
 unfold qB at h;split at h<;>cases h;rfl
noncomputable def vz(x:bU):List CC:=[.lit (.int .i64 x.K),.lit (.string x.S),.lit (.int .i64 x.V.K),.lit (.int .i64 x.V.N),.lit (.string x.V.S)]
noncomputable def vK(cs:List CC):Option (bU):=match cs with
 |[.lit (.int .i64 a0),.lit (.string a1),.lit (.int .i64 a2),.lit (.int .i64 a3),.lit (.string a4)]=>some ⟨a0,a1,⟨a2,a3,a4⟩⟩
 |_=>none
theorem PZ(cs:List CC)(x:bU)(h:vK cs=some x):vz x=cs:=by
 unfold vK at h;split at h<;>cases h;rfl
noncomputable def vx(x:bU):List CC:=[.lit (.int .i64 x.K),.lit (.string x.S),.lit (.int .i64 x.V.K),.lit (.int .i64 x.V.N),.lit (.string x.V.S)]
noncomputable def vF(cs:List CC):Option (bU):=match cs with
 |[.lit (.int .i64 a0),.lit (.string a1),.lit (.int .i64 a2),.lit (.int .i64 a3),.lit (.string a4)]=>some ⟨a0,a1,⟨a2,a3,a4⟩⟩
 |_=>none
theorem PU(cs:List CC)(x:bU)(h:vF cs=some x):vx x=cs:=by
 unfold vF at h;split at h<;>cases h;rfl
noncomputable def GJ(x:b8):List CC:=[.lit (.string x.Kind),.sl .iy x.aU,.lit (.bool x.Not)]
noncomputable def vI(cs:List CC):Option (b8):=match cs with
 |[.lit (.string a0),.sl .iy a1,.lit (.bool a2)]=>some ⟨a0,a1,a2⟩
 |_=>none
theorem PX(cs:List CC)(x:b8)(h:vI cs=some x):GJ x=cs:=by
 unfold vI at h;split at h<;>cases h;rfl
noncomputable def GG(x:b8):List CC:=[.lit (.string x.Kind),.sl .nQ x.aU,.lit (.bool x.Not)]
noncomputable def vC(cs:List CC):Option (b8):=match cs with
 |[.lit (.string a0),.sl .nQ a1,.lit (.bool a2)]=>some ⟨a0,a1,a2⟩
 |_=>none
theorem PS(cs:List CC)(x:b8)(h:vC cs=some x):GG x=cs:=by
 unfold vC at h;split at h<;>cases h;rfl
noncomputable def sX(x:bM):List CC:=[.lit (.string x.Name),.lit (.int .i64 x.V.K),.lit (.int .i64 x.V.N),.lit (.string x.V.S)]
noncomputable def tr(cs:List CC):Option (bM):=match cs with
 |[.lit (.string a0),.lit (.int .i64 a1),.lit (.int .i64 a2),.lit (.string a3)]=>some ⟨a0,⟨a1,a2,a3⟩⟩
 |_=>none
theorem Mq(cs:List CC)(x:bM)(h:tr cs=some x):sX x=cs:=by
 unfold tr at h;split at h<;>cases h;rfl
noncomputable def sU(x:bM):List CC:=[.lit (.string x.Name),.lit (.int .i64 x.V.K),.lit (.int .i64 x.V.N),.lit (.string x.V.S)]
noncomputable def tc(cs:List CC):Option (bM):=match cs with
 |[.lit (.string a0),.lit (.int .i64 a1),.lit (.int .i64 a2),.lit (.string a3)]=>some ⟨a0,⟨a1,a2,a3⟩⟩
 |_=>none
theorem Mg(cs:List CC)(x:bM)(h:tc cs=some x):sU x=cs:=by
 unfold tc at h;split at h<;>cases h;rfl
noncomputable def sW(x:bo):List CC:=[.lit (.int .i64 x.Op),.lit (.int .i64 x.L.K),.lit (.string x.L.S),.lit (.int .i64 x.L.V.K),.lit (.int .i64 x.L.V.N),.lit (.string x.L.V.S),.lit (.int .i64 x.R.K),.lit (.string x.R.S),.lit (.int .i64 x.R.V.K),.lit (.int .i64 x.R.V.N),.lit (.string x.R.V.S)]
noncomputable def tp(cs:List CC):Option (bo):=match cs with
 |[.lit (.int .i64 a0),.lit (.int .i64 a1),.lit (.string a2),.lit (.int .i64 a3),.lit (.int .i64 a4),.lit (.string a5),.lit (.int .i64 a6),.lit (.string a7),.lit (.int .i64 a8),.lit (.int .i64 a9),.lit (.string Oe)]=>some ⟨a0,⟨a1,a2,⟨a3,a4,a5⟩⟩,⟨a6,a7,⟨a8,a9,Oe⟩⟩⟩
 |_=>none
theorem Mo(cs:List CC)(x:bo)(h:tp cs=some x):sW x=cs:=by
 unfold tp at h;split at h<;>cases h;rfl
noncomputable def sT(x:bo):List CC:=[.lit (.int .i64 x.Op),.lit (.int .i64 x.L.K),.lit (.string x.L.S),.lit (.int .i64 x.L.V.K),.lit (.int .i64 x.L.V.N),.lit (.string x.L.V.S),.lit (.int .i64 x.R.K),.lit (.string x.R.S),.lit (.int .i64 x.R.V.K),.lit (.int .i64 x.R.V.N),.lit (.string x.R.V.S)]
noncomputable def s_(cs:List CC):Option (bo):=match cs with
 |[.lit (.int .i64 a0),.lit (.int .i64 a1),.lit (.string a2),.lit (.int .i64 a3),.lit (.int .i64 a4),.lit (.string a5),.lit (.int .i64 a6),.lit (.string a7),.lit (.int .i64 a8),.lit (.int .i64 a9),.lit (.string Oe)]=>some ⟨a0,⟨a1,a2,⟨a3,a4,a5⟩⟩,⟨a6,a7,⟨a8,a9,Oe⟩⟩⟩
 |_=>none
theorem Me(cs:List CC)(x:bo)(h:s_ cs=some x):sT x=cs:=by
 unfold s_ at h;split at h<;>cases h;rfl
noncomputable def sV(x:bC):List CC:=[.lit (.string x.Op),.lit (.int .i64 x.L.K),.lit (.string x.L.S),.lit (.int .i64 x.L.V.K),.lit (.int .i64 x.L.V.N),.lit (.string x.L.V.S),.lit (.int .i64 x.R.K),.lit (.string x.R.S),.lit (.int .i64 x.R.V.K),.lit (.int .i64 x.R.V.N),.lit (.string x.R.V.S)]
noncomputable def tn(cs:List CC):Option (bC):=match cs with
 |[.lit (.string a0),.lit (.int .i64 a1),.lit (.string a2),.lit (.int .i64 a3),.lit (.int .i64 a4),.lit (.string a5),.lit (.int .i64 a6),.lit (.string a7),.lit (.int .i64 a8),.lit (.int .i64 a9),.lit (.string Oe)]=>some ⟨a0,⟨a1,a2,⟨a3,a4,a5⟩⟩,⟨a6,a7,⟨a8,a9,Oe⟩⟩⟩
 |_=>none
theorem Mn(cs:List CC)(x:bC)(h:tn cs=some x):sV x=cs:=by
 unfold tn at h;split at h<;>cases h;rfl
noncomputable def sS(x:bC):List CC:=[.lit (.string x.Op),.lit (.int .i64 x.L.K),.lit (.string x.L.S),.lit (.int .i64 x.L.V.K),.lit (.int .i64 x.L.V.N),.lit (.string x.L.V.S),.lit (.int .i64 x.R.K),.lit (.string x.R.S),.lit (.int .i64 x.R.V.K),.lit (.int .i64 x.R.V.N),.lit (.string x.R.V.S)]
noncomputable def s9(cs:List CC):Option (bC):=match cs with
 |[.lit (.string a0),.lit (.int .i64 a1),.lit (.string a2),.lit (.int .i64 a3),.lit (.int .i64 a4),.lit (.string a5),.lit (.int .i64 a6),.lit (.string a7),.lit (.int .i64 a8),.lit (.int .i64 a9),.lit (.string Oe)]=>some ⟨a0,⟨a1,a2,⟨a3,a4,a5⟩⟩,⟨a6,a7,⟨a8,a9,Oe⟩⟩⟩
 |_=>none
theorem Md(cs:List CC)(x:bC)(h:s9 cs=some x):sS x=cs:=by
 unfold s9 at h;split at h<;>cases h;rfl
noncomputable def GL(x:cC):List CC:=[.lit (.int .i64 x.Kind),.lit (.string x.Name),.sl .fc x.aU,.lit (.int .i64 x.N),.lit (.string x.cq)]
noncomputable def vL(cs:List CC):Option (cC):=match cs with
 |[.lit (.int .i64 a0),.lit (.string a1),.sl .fc a2,.lit (.int .i64 a3),.lit (.string a4)]=>some ⟨a0,a1,a2,a3,a4⟩
 |_=>none
theorem P0(cs:List CC)(x:cC)(h:vL cs=some x):GL x=cs:=by
 unfold vL at h;split at h<;>cases h;rfl
noncomputable def GI(x:cC):List CC:=[.lit (.int .i64 x.Kind),.lit (.string x.Name),.sl .jQ x.aU,.lit (.int .i64 x.N),.lit (.string x.cq)]
noncomputable def vG(cs:List CC):Option (cC):=match cs with
 |[.lit (.int .i64 a0),.lit (.string a1),.sl .jQ a2,.lit (.int .i64 a3),.lit (.string a4)]=>some ⟨a0,a1,a2,a3,a4⟩
 |_=>none
theorem PV(cs:List CC)(x:cC)(h:vG cs=some x):GI x=cs:=by
 unfold vG at h;split at h<;>cases h;rfl
noncomputable def C7(x:aM):List CC:=[.lit (.string x.Name),.lit (.int .i64 x.pt),.sl .fU x.aG,.sl .de x.bO,.sl .fV x.cA]
noncomputable def tg(cs:List CC):Option (aM):=match cs with
 |[.lit (.string a0),.lit (.int .i64 a1),.sl .fU a2,.sl .de a3,.sl .fV a4]=>some ⟨a0,a1,a2,a3,a4⟩
 |_=>none
theorem Mj(cs:List CC)(x:aM)(h:tg cs=some x):C7 x=cs:=by
 unfold tg at h;split at h<;>cases h;rfl
noncomputable def C0(x:aM):List CC:=[.lit (.string x.Name),.lit (.int .i64 x.pt),.sl .nP x.aG,.sl .jR x.bO,.sl .nR x.cA]
noncomputable def s0(cs:List CC):Option (aM):=match cs with
 |[.lit (.string a0),.lit (.int .i64 a1),.sl .nP a2,.sl .jR a3,.sl .nR a4]=>some ⟨a0,a1,a2,a3,a4⟩
 |_=>none
theorem L_(cs:List CC)(x:aM)(h:s0 cs=some x):C0 x=cs:=by
 unfold s0 at h;split at h<;>cases h;rfl
noncomputable def GK(x:cr):List CC:=[.lit (.string x.Name),.sl .cy x.aT]
noncomputable def vJ(cs:List CC):Option (cr):=match cs with
 |[.lit (.string a0),.sl .cy a1]=>some ⟨a0,a1⟩
 |_=>none
theorem PY(cs:List CC)(x:cr)(h:vJ cs=some x):GK x=cs:=by
 unfold vJ at h;split at h<;>cases h;rfl
noncomputable def GH(x:cr):List CC:=[.lit (.string x.Name),.sl .jP x.aT]
noncomputable def vD(cs:List CC):Option (cr):=match cs with
 |[.lit (.string a0),.sl .jP a1]=>some ⟨a0,a1⟩
 |_=>none
theorem PT(cs:List CC)(x:cr)(h:vD cs=some x):GH x=cs:=by
 unfold vD at h;split at h<;>cases h;rfl
noncomputable def BC(x:aE):List CC:=[.lit (.int .i64 x.gF),.sl .int x.li,.sl .dG x.dV]
noncomputable def qH(cs:List CC):Option (aE):=match cs with
 |[.lit (.int .i64 a0),.sl .int a1,.sl .dG a2]=>some ⟨a0,a1,a2⟩
 |_=>none
theorem Kk(cs:List CC)(x:aE)(h:qH cs=some x):BC x=cs:=by
 unfold qH at h;split at h<;>cases h;rfl
noncomputable def By(x:aE):List CC:=[.lit (.int .i64 x.gF),.sl .int x.li,.sl .jS x.dV]
noncomputable def qD(cs:List CC):Option (aE):=match cs with
 |[.lit (.int .i64 a0),.sl .int a1,.sl .jS a2]=>some ⟨a0,a1,a2⟩
 |_=>none
theorem Kh(cs:List CC)(x:aE)(h:qD cs=some x):By x=cs:=by
 unfold qD at h;split at h<;>cases h;rfl
noncomputable def xR(x:mA):List CC:=[.lit (.int .i64 x.Kind),.lit (.string x.F.Kind),.sl .bm x.F.ae,.lit (.int .i64 x.Id),.lit (.int .i64 x.N),.lit (.string x.cq)]
noncomputable def oU(cs:List CC):Option (mA):=match cs with
 |[.lit (.int .i64 a0),.lit (.string a1),.sl .bm a2,.lit (.int .i64 a3),.lit (.int .i64 a4),.lit (.string a5)]=>some ⟨a0,⟨a1,a2⟩,a3,a4,a5⟩
 |_=>none
theorem H6(cs:List CC)(x:mA)(h:oU cs=some x):xR x=cs:=by
 unfold oU at h;split at h<;>cases h;rfl
noncomputable def xQ(x:mA):List CC:=[.lit (.int .i64 x.Kind),.lit (.string x.F.Kind),.sl .gJ x.F.ae,.lit (.int .i64 x.Id),.lit (.int .i64 x.N),.lit (.string x.cq)]
noncomputable def oT(cs:List CC):Option (mA):=match cs with
 |[.lit (.int .i64 a0),.lit (.string a1),.sl .gJ a2,.lit (.int .i64 a3),.lit (.int .i64 a4),.lit (.string a5)]=>some ⟨a0,⟨a1,a2⟩,a3,a4,a5⟩
 |_=>none
theorem H5(cs:List CC)(x:mA)(h:oT cs=some x):xQ x=cs:=by
 unfold oT at h;split at h<;>cases h;rfl
noncomputable def Bz(x:ap):List CC:=[.lit (.int .i64 x.At),.lit (.string x.F.Kind),.sl .bm x.F.ae]
noncomputable def qE(cs:List CC):Option (ap):=match cs with
 |[.lit (.int .i64 a0),.lit (.string a1),.sl .bm a2]=>some ⟨a0,⟨a1,a2⟩⟩
 |_=>none
theorem Ki(cs:List CC)(x:ap)(h:qE cs=some x):Bz x=cs:=by
 unfold qE at h;split at h<;>cases h;rfl
noncomputable def Bw(x:ap):List CC:=[.lit (.int .i64 x.At),.lit (.string x.F.Kind),.sl .gJ x.F.ae]
noncomputable def qz(cs:List CC):Option (ap):=match cs with
 |[.lit (.int .i64 a0),.lit (.string a1),.sl .gJ a2]=>some ⟨a0,⟨a1,a2⟩⟩
 |_=>none
theorem Kf(cs:List CC)(x:ap)(h:qz cs=some x):Bw x=cs:=by
 unfold qz at h;split at h<;>cases h;rfl
noncomputable def C6(x:ag):List CC:=[.lit (.string x.F.Kind),.sl .bm x.F.ae,.lit (.string x.cq),.lit (.int .i64 x.State),.lit (.int .i64 x.bg),.lit (.int .i64 x.jv),.lit (.int .i64 x.V.K),.lit (.int .i64 x.V.N),.lit (.string x.V.S)]
noncomputable def tf(cs:List CC):Option (ag):=match cs with
 |[.lit (.string a0),.sl .bm a1,.lit (.string a2),.lit (.int .i64 a3),.lit (.int .i64 a4),.lit (.int .i64 a5),.lit (.int .i64 a6),.lit (.int .i64 a7),.lit (.string a8)]=>some ⟨⟨a0,a1⟩,a2,a3,a4,a5,⟨a6,a7,a8⟩⟩
 |_=>none
theorem Mi(cs:List CC)(x:ag)(h:tf cs=some x):C6 x=cs:=by
 unfold tf at h;split at h<;>cases h;rfl
noncomputable def CZ(x:ag):List CC:=[.lit (.string x.F.Kind),.sl .gJ x.F.ae,.lit (.string x.cq),.lit (.int .i64 x.State),.lit (.int .i64 x.bg),.lit (.int .i64 x.jv),.lit (.int .i64 x.V.K),.lit (.int .i64 x.V.N),.lit (.string x.V.S)]
noncomputable def sZ(cs:List CC):Option (ag):=match cs with
 |[.lit (.string a0),.sl .gJ a1,.lit (.string a2),.lit (.int .i64 a3),.lit (.int .i64 a4),.lit (.int .i64 a5),.lit (.int .i64 a6),.lit (.int .i64 a7),.lit (.string a8)]=>some ⟨⟨a0,a1⟩,a2,a3,a4,a5,⟨a6,a7,a8⟩⟩
 |_=>none
theorem L8(cs:List CC)(x:ag)(h:sZ cs=some x):CZ x=cs:=by
 unfold sZ at h;split at h<;>cases h;rfl
noncomputable def C'(x:ci):List CC:=[.lit (.string x.Key),.lit (.string x.F.Kind),.sl .bm x.F.ae,.lit (.int .i64 x.Try)]
noncomputable def tq(cs:List CC):Option (ci):=match cs with
 |[.lit (.string a0),.lit (.string a1),.sl .bm a2,.lit (.int .i64 a3)]=>some ⟨a0,⟨a1,a2⟩,a3⟩
 |_=>none
theorem Mp(cs:List CC)(x:ci)(h:tq cs=some x):C' x=cs:=by
 unfold tq at h;split at h<;>cases h;rfl
noncomputable def C4(x:ci):List CC:=[.lit (.string x.Key),.lit (.string x.F.Kind),.sl .gJ x.F.ae,.lit (.int .i64 x.Try)]
noncomputable def ta(cs:List CC):Option (ci):=match cs with
 |[.lit (.string a0),.lit (.string a1),.sl .gJ a2,.lit (.int .i64 a3)]=>some ⟨a0,⟨a1,a2⟩,a3⟩
 |_=>none
theorem Mf(cs:List CC)(x:ci)(h:ta cs=some x):C4 x=cs:=by
 unfold ta at h;split at h<;>cases h;rfl
noncomputable def C5(x:aQ):List CC:=[.lit (.string x.Key),.lit (.string x.F.Kind),.sl .bm x.F.ae]
noncomputable def te(cs:List CC):Option (aQ):=match cs with
 |[.lit (.string a0),.lit (.string a1),.sl .bm a2]=>some ⟨a0,⟨a1,a2⟩⟩
 |_=>none
theorem Mh(cs:List CC)(x:aQ)(h:te cs=some x):C5 x=cs:=by
 unfold te at h;split at h<;>cases h;rfl
noncomputable def CY(x:aQ):List CC:=[.lit (.string x.Key),.lit (.string x.F.Kind),.sl .gJ x.F.ae]
noncomputable def sY(cs:List CC):Option (aQ):=match cs with
 |[.lit (.string a0),.lit (.string a1),.sl .gJ a2]=>some ⟨a0,⟨a1,a2⟩⟩
 |_=>none
theorem L7(cs:List CC)(x:aQ)(h:sY cs=some x):CY x=cs:=by
 unfold sY at h;split at h<;>cases h;rfl
noncomputable def br(x:aj):List CC:=[.sl .aP x.S.ab,.lit (.int .i64 x.S.Next),.sl .aI x.av,.sl .aw x.ai,.sl .ax x.ah,.sl .aW x.ao,.lit (.int .i64 x.State),.lit (.int .i64 x.ez)]
noncomputable def tj(cs:List CC):Option (aj):=match cs with
 |[.sl .aP a0,.lit (.int .i64 a1),.sl .aI a2,.sl .aw a3,.sl .ax a4,.sl .aW a5,.lit (.int .i64 a6),.lit (.int .i64 a7)]=>some ⟨⟨a0,a1⟩,a2,a3,a4,a5,a6,a7⟩
 |_=>none
theorem Ml(cs:List CC)(x:aj)(h:tj cs=some x):br x=cs:=by
 unfold tj at h;split at h<;>cases h;rfl
noncomputable def C2(x:aj):List CC:=[.sl .iQ x.S.ab,.lit (.int .i64 x.S.Next),.sl .gL x.av,.sl .jN x.ai,.sl .gK x.ah,.sl .jM x.ao,.lit (.int .i64 x.State),.lit (.int .i64 x.ez)]
noncomputable def s7(cs:List CC):Option (aj):=match cs with
 |[.sl .iQ a0,.lit (.int .i64 a1),.sl .gL a2,.sl .jN a3,.sl .gK a4,.sl .jM a5,.lit (.int .i64 a6),.lit (.int .i64 a7)]=>some ⟨⟨a0,a1⟩,a2,a3,a4,a5,a6,a7⟩
 |_=>none
theorem Mb(cs:List CC)(x:aj)(h:s7 cs=some x):C2 x=cs:=by
 unfold s7 at h;split at h<;>cases h;rfl
noncomputable def Cd.enc:(τ:Cd)->τ.T->List CC
 | .int,x=>yG x
 | .byte,x=>vA x
 | .str,x=>yE x
 | .bm,x=>vy x
 | .gJ,x=>vw x
 | .cP,x=>C9 x
 | .mL,x=>C3 x
 | .aP,x=>C8 x
 | .iQ,x=>C1 x
 | .di,x=>BB x
 | .jO,x=>Bx x
 | .iy,x=>vz x
 | .nQ,x=>vx x
 | .fU,x=>GJ x
 | .nP,x=>GG x
 | .dG,x=>sX x
 | .jS,x=>sU x
 | .de,x=>sW x
 | .jR,x=>sT x
 | .fc,x=>sV x
 | .jQ,x=>sS x
 | .fV,x=>GL x
 | .nR,x=>GI x
 | .cy,x=>C7 x
 | .jP,x=>C0 x
 | .kN,x=>GK x
 | .pd,x=>GH x
 | .aI,x=>BC x
 | .gL,x=>By x
 | .mw,x=>xR x
 | .mn,x=>xQ x
 | .ax,x=>Bz x
 | .gK,x=>Bw x
 | .aw,x=>C6 x
 | .jN,x=>CZ x
 | .cu,x=>C' x
 | .tQ,x=>C4 x
 | .aW,x=>C5 x
 | .jM,x=>CY x
 | .cz,x=>br x
 | .kG,x=>C2 x
noncomputable def Cd.dec:(τ:Cd)->List CC->Option τ.T
 | .int,cs=>yI cs
 | .byte,cs=>vM cs
 | .str,cs=>yH cs
 | .bm,cs=>vH cs
 | .gJ,cs=>vB cs
 | .cP,cs=>tm cs
 | .mL,cs=>s8 cs
 | .aP,cs=>th cs
 | .iQ,cs=>s6 cs
 | .di,cs=>qG cs
 | .jO,cs=>qB cs
 | .iy,cs=>vK cs
 | .nQ,cs=>vF cs
 | .fU,cs=>vI cs
 | .nP,cs=>vC cs
 | .dG,cs=>tr cs
 | .jS,cs=>tc cs
 | .de,cs=>tp cs
 | .jR,cs=>s_ cs
 | .fc,cs=>tn cs
 | .jQ,cs=>s9 cs
 | .fV,cs=>vL cs
 | .nR,cs=>vG cs
 | .cy,cs=>tg cs
 | .jP,cs=>s0 cs
 | .kN,cs=>vJ cs
 | .pd,cs=>vD cs
 | .aI,cs=>qH cs
 | .gL,cs=>qD cs
 | .mw,cs=>oU cs
 | .mn,cs=>oT cs
 | .ax,cs=>qE cs
 | .gK,cs=>qz cs
 | .aw,cs=>tf cs
 | .jN,cs=>sZ cs
 | .cu,cs=>tq cs
 | .tQ,cs=>ta cs
 | .aW,cs=>te cs
 | .jM,cs=>sY cs
 | .cz,cs=>tj cs
 | .kG,cs=>s7 cs
noncomputable def gh:aZ:=⟨0,0,ak⟩
noncomputable def uL:aA:=⟨ak,[]⟩
noncomputable def a_:bf:=⟨0,⟨ak,[]⟩⟩
noncomputable def Ls:az:=⟨[],0⟩
noncomputable def np:bU:=⟨0,ak,⟨0,0,ak⟩⟩
noncomputable def e8:b8:=⟨ak,[],false⟩
noncomputable def ot:bM:=⟨ak,⟨0,0,ak⟩⟩
noncomputable def mB:bo:=⟨0,⟨0,ak,⟨0,0,ak⟩⟩,⟨0,ak,⟨0,0,ak⟩⟩⟩
noncomputable def ke:bC:=⟨ak,⟨0,ak,⟨0,0,ak⟩⟩,⟨0,ak,⟨0,0,ak⟩⟩⟩
noncomputable def fK:cC:=⟨0,ak,[],0,ak⟩
noncomputable def cO:aM:=⟨ak,0,[],[],[]⟩
noncomputable def ZD:cr:=⟨ak,[]⟩
noncomputable def cj:aE:=⟨0,[],[]⟩
noncomputable def IY:mA:=⟨0,⟨ak,[]⟩,0,0,ak⟩
noncomputable def cD:ap:=⟨0,⟨ak,[]⟩⟩
noncomputable def aq:ag:=⟨⟨ak,[]⟩,ak,0,0,0,⟨0,0,ak⟩⟩
noncomputable def pz:ci:=⟨ak,⟨ak,[]⟩,0⟩
noncomputable def bX:aQ:=⟨ak,⟨ak,[]⟩⟩
noncomputable def RW:aj:=⟨⟨[],0⟩,[],[],[],[],0,0⟩
noncomputable def Cd.eP:(τ:Cd)->τ.T
 | .int=>(0:Int)
 | .byte=>(0:Int)
 | .str=>(ak:ByteArray)
 | .bm=>gh
 | .gJ=>gh
 | .cP=>uL
 | .mL=>uL
 | .aP=>a_
 | .iQ=>a_
 | .di=>Ls
 | .jO=>Ls
 | .iy=>np
 | .nQ=>np
 | .fU=>e8
 | .nP=>e8
 | .dG=>ot
 | .jS=>ot
 | .de=>mB
 | .jR=>mB
 | .fc=>ke
 | .jQ=>ke
 | .fV=>fK
 | .nR=>fK
 | .cy=>cO
 | .jP=>cO
 | .kN=>ZD
 | .pd=>ZD
 | .aI=>cj
 | .gL=>cj
 | .mw=>IY
 | .mn=>IY
 | .ax=>cD
 | .gK=>cD
 | .aw=>aq
 | .jN=>aq
 | .cu=>pz
 | .tQ=>pz
 | .aW=>bX
 | .jM=>bX
 | .cz=>RW
 | .kG=>RW
noncomputable def Cd.flat:Cd->Bool
 | .int=>true
 | .byte=>true
 | .str=>true
 | .bm=>true
 | .gJ=>true
 | .cP=>false
 | .mL=>false
 | .aP=>false
 | .iQ=>false
 | .di=>false
 | .jO=>false
 | .iy=>true
 | .nQ=>true
 | .fU=>false
 | .nP=>false
 | .dG=>true
 | .jS=>true
 | .de=>true
 | .jR=>true
 | .fc=>true
 | .jQ=>true
 | .fV=>false
 | .nR=>false
 | .cy=>false
 | .jP=>false
 | .kN=>false
 | .pd=>false
 | .aI=>false
 | .gL=>false
 | .mw=>false
 | .mn=>false
 | .ax=>false
 | .gK=>false
 | .aw=>false
 | .jN=>false
 | .cu=>false
 | .tQ=>false
 | .aW=>false
 | .jM=>false
 | .cz=>false
 | .kG=>false
theorem X'(x:Int)(c:CC)(h:c∈yG x):∃v,c=.lit v:=by
 simp only[yG,jw,FE,or_false] at h
 rcases h with rfl<;>exact⟨_,rfl⟩
theorem QO(x:Int)(c:CC)(h:c∈vA x):∃v,c=.lit v:=by
 simp only[vA,jw,FE,or_false] at h
 rcases h with rfl<;>exact⟨_,rfl⟩
theorem X9(x:ByteArray)(c:CC)(h:c∈yE x):∃v,c=.lit v:=by
 simp only[yE,jw,FE,or_false] at h
 rcases h with rfl<;>exact⟨_,rfl⟩
theorem QM(x:aZ)(c:CC)(h:c∈vy x):∃v,c=.lit v:=by
 simp only[vy,jw,FE,or_false] at h
 rcases h with rfl|rfl|rfl<;>exact⟨_,rfl⟩
theorem QK(x:aZ)(c:CC)(h:c∈vw x):∃v,c=.lit v:=by
 simp only[vw,jw,FE,or_false] at h
 rcases h with rfl|rfl|rfl<;>exact⟨_,rfl⟩
theorem QN(x:bU)(c:CC)(h:c∈vz x):∃v,c=.lit v:=by
 simp only[vz,jw,FE,or_false] at h
 rcases h with rfl|rfl|rfl|rfl|rfl<;>exact⟨_,rfl⟩
theorem QL(x:bU)(c:CC)(h:c∈vx x):∃v,c=.lit v:=by
 simp only[vx,jw,FE,or_false] at h
 rcases h with rfl|rfl|rfl|rfl|rfl<;>exact⟨_,rfl⟩
theorem NI(x:bM)(c:CC)(h:c∈sX x):∃v,c=.lit v:=by
 simp only[sX,jw,FE,or_false] at h
 rcases h with rfl|rfl|rfl|rfl<;>exact⟨_,rfl⟩
theorem NF(x:bM)(c:CC)(h:c∈sU x):∃v,c=.lit v:=by
 simp only[sU,jw,FE,or_false] at h
 rcases h with rfl|rfl|rfl|rfl<;>exact⟨_,rfl⟩
theorem NH(x:bo)(c:CC)(h:c∈sW x):∃v,c=.lit v:=by
 simp only[sW,jw,FE,or_false] at h
 rcases h with rfl|rfl|rfl|rfl|rfl|rfl|rfl|rfl|rfl|rfl|rfl<;>exact⟨_,rfl⟩
theorem NE(x:bo)(c:CC)(h:c∈sT x):∃v,c=.lit v:=by
 simp only[sT,jw,FE,or_false] at h
 rcases h with rfl|rfl|rfl|rfl|rfl|rfl|rfl|rfl|rfl|rfl|rfl<;>exact⟨_,rfl⟩
theorem NG(x:bC)(c:CC)(h:c∈sV x):∃v,c=.lit v:=by
 simp only[sV,jw,FE,or_false] at h
 rcases h with rfl|rfl|rfl|rfl|rfl|rfl|rfl|rfl|rfl|rfl|rfl<;>exact⟨_,rfl⟩
theorem ND(x:bC)(c:CC)(h:c∈sS x):∃v,c=.lit v:=by
 simp only[sS,jw,FE,or_false] at h
 rcases h with rfl|rfl|rfl|rfl|rfl|rfl|rfl|rfl|rfl|rfl|rfl<;>exact⟨_,rfl⟩
noncomputable abbrev UU:kz where
 Ty:=Cd
 T:=Cd.T
 deq:=inferInstance
 wd:=Cd.wd
 enc:=Cd.enc
 dec:=Cd.dec
 eP:=Cd.eP
 flat:=Cd.flat
 Jv:=by
  intro τ h x c hc
  cases τ
  case int=>exact X' x c hc
  case byte=>exact QO x c hc
  case str=>exact X9 x c hc
  case bm=>exact QM x c hc
  case gJ=>exact QK x c hc
  case cP=>cases h
  case mL=>cases h
  case aP=>cases h
  case iQ=>cases h
  case di=>cases h
  case jO=>cases h
  case iy=>exact QN x c hc
  case nQ=>exact QL x c hc
  case fU=>cases h
  case nP=>cases h
  case dG=>exact NI x c hc
  case jS=>exact NF x c hc
  case de=>exact NH x c hc
  case jR=>exact NE x c hc
  case fc=>exact NG x c hc
  case jQ=>exact ND x c hc
  case fV=>cases h
  case nR=>cases h
  case cy=>cases h
  case jP=>cases h
  case kN=>cases h
  case pd=>cases h
  case aI=>cases h
  case gL=>cases h
  case mw=>cases h
  case mn=>cases h
  case ax=>cases h
  case gK=>cases h
  case aw=>cases h
  case jN=>cases h
  case cu=>cases h
  case tQ=>cases h
  case aW=>cases h
  case jM=>cases h
  case cz=>cases h
  case kG=>cases h
 nk:=.byte
 R1:=fun x=>x
 ofB:=fun x=>x
 I6:=fun _=>rfl
 C_:=fun _=>rfl
 kq:=by intro τ;cases τ<;>decide
 cZ:=by intro τ x;cases τ<;>rfl
 kV:=by
  intro τ cs x h
  cases τ
  case int=>exact ok_int cs x h
  case byte=>exact P4 cs x h
  case str=>exact WM cs x h
  case bm=>exact PW cs x h
  case gJ=>exact PR cs x h
  case cP=>exact Mm cs x h
  case mL=>exact Mc cs x h
  case aP=>exact Mk cs x h
  case iQ=>exact Ma cs x h
  case di=>exact Kj cs x h
  case jO=>exact Kg cs x h
  case iy=>exact PZ cs x h
  case nQ=>exact PU cs x h
  case fU=>exact PX cs x h
  case nP=>exact PS cs x h
  case dG=>exact Mq cs x h
  case jS=>exact Mg cs x h
  case de=>exact Mo cs x h
  case jR=>exact Me cs x h
  case fc=>exact Mn cs x h
  case jQ=>exact Md cs x h
  case fV=>exact P0 cs x h
  case nR=>exact PV cs x h
  case cy=>exact Mj cs x h
  case jP=>exact L_ cs x h
  case kN=>exact PY cs x h
  case pd=>exact PT cs x h
  case aI=>exact Kk cs x h
  case gL=>exact Kh cs x h
  case mw=>exact H6 cs x h
  case mn=>exact H5 cs x h
  case ax=>exact Ki cs x h
  case gK=>exact Kf cs x h
  case aw=>exact Mi cs x h
  case jN=>exact L8 cs x h
  case cu=>exact Mp cs x h
  case tQ=>exact Mf cs x h
  case aW=>exact Mh cs x h
  case jM=>exact L7 cs x h
  case cz=>exact Ml cs x h
  case kG=>exact Mb cs x h
abbrev fz(l:List (DV UU)):List (DV UU):=l
def Lf(a b:List (DV UU)):Prop:=a=b/\fz []=fz []
end
end AM
