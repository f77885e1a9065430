import Derived.Test.YtnndcpncmmcaaaaGreatQAmAnn
import Derived.Test.YtnndcpncmmcaaaaGreatQAmTypes
import Derived.Test.YtnndcpncmmcaaaaGreatProg
import Derived.Lib.LaidTab
import Derived.Lib.ItoaNum
import Derived.KernelRfl
namespace AM
open Go
noncomputable section
def tyl:List (TypeId×Cd):=[(3,.int),(5,.byte),(9,.str),(4,.bool),(134,.bC),(159,.hU),(132,.eP),(158,.nS),(178,.cg),(254,.fO),(49,.dW),(27,.jF),(272,.ig),(245,.oT),(198,.cq),(242,.k8),(338,.b8),(320,.jJ),(278,.cQ),(247,.jI),(330,.ga),(363,.jH),(282,.eT),(251,.oU),(119,.cw),(82,.jG),(45,.jc),(24,.qg),(189,.dB),(154,.fG),(202,.bI),(195,.ci),(100,.mK),(107,.cD),(169,.k9),(210,.bO),(391,.oR),(114,.cf),(325,.gG),(110,.di),(173,.nb),(59,.jU),(37,.tu),(184,.dq),(164,.fF),(136,.dJ),(161,.iy),(186,.eO),(167,.ix),(55,.jb),(33,.nR),(61,.ra),(39,.qf),(304,.gM)]
def alV:Cd->TypeId
  | .int=>3
  | .byte=>5
  | .str=>9
  | .bool=>4
  | .bC=>134
  | .hU=>159
  | .eP=>132
  | .nS=>158
  | .cg=>178
  | .fO=>254
  | .dW=>49
  | .jF=>27
  | .ig=>272
  | .oT=>245
  | .cq=>198
  | .k8=>242
  | .b8=>338
  | .jJ=>320
  | .cQ=>278
  | .jI=>247
  | .ga=>330
  | .jH=>363
  | .eT=>282
  | .oU=>251
  | .cw=>119
  | .jG=>82
  | .jc=>45
  | .qg=>24
  | .dB=>189
  | .fG=>154
  | .bI=>202
  | .ci=>195
  | .mK=>100
  | .cD=>107
  | .k9=>169
  | .bO=>210
  | .oR=>391
  | .cf=>114
  | .gG=>325
  | .di=>110
  | .nb=>173
  | .jU=>59
  | .tu=>37
  | .dq=>184
  | .fF=>164
  | .dJ=>136
  | .iy=>161
  | .eO=>186
  | .ix=>167
  | .jb=>55
  | .nR=>33
  | .ra=>61
  | .qf=>39
  | .gM=>304
  |_=>0
/-- Loads that take an element out of its row: impl.grow, spec.l13Rule, impl.addItem, spec.l13Add. -/
def ao7(t:TypeId)(d:Nat):Bool:=(Nat.beq t 112&&(Nat.beq d 77||Nat.beq d 177))||(Nat.beq t 108&&Nat.beq d 34)||(Nat.beq t 105&&(Nat.beq d 42||Nat.beq d 54))||(Nat.beq t 110&&Nat.beq d 56)
def abn(f:FuncId):Option Cd:=bif Nat.beq f 196 then some .bO else none
/-- What impl.growerOf makes of what it is lent. -/
def abe:List (SV UU)->Option (List Prop×List (AC UU))
  |[.v ⟨true,[.c (.lit (.string nm)),.c (.sl τr rs)]⟩,.v ⟨true,[.c (.sl τa al),.c (.sl τc cs)]⟩,.v ⟨true,[x,y]⟩,.v ⟨true,[.c s0,.c s1]⟩,.v ⟨false,[.c (.lit (.int .i64 id))]⟩,.v ⟨false,[.c (.lit (.int .i64 i))]⟩]=>
    match dC (U:=UU) Cd.cw ⟨τr,rs⟩,dC (U:=UU) Cd.bI ⟨τa,al⟩,dC (U:=UU) Cd.ci ⟨τc,cs⟩ with
    |some rs,some _,some cs=>some ([0<=i,i<List.length (α:=aw) rs,i<List.length (α:=bm) cs,(List.getD (α:=aw) rs i.toNat aP).ai.length<=4294967295],
        [.c (.sl Cd.cq (List.filter (fun p:bc=>p.Not==false) (List.getD (α:=aw) rs i.toNat aP).ai)),.c (.sl Cd.cq (List.filter (fun p:bc=>p.Not==true) (List.getD (α:=aw) rs i.toNat aP).ai)),
         .c (.sl Cd.int (List.getD (α:=bm) cs i.toNat b_).Pos),.c (.sl Cd.int (List.getD (α:=bm) cs i.toNat b_).Neg),x,.c s0,.c s1,.c (.lit (.int .i64 id))])
    |_,_,_=>none
  |_=>none
def Zt(f:FuncId)(xs:List (SV UU)):Option (List Prop×List (AC UU)):=bif Nat.beq f 203 then abe xs else none
def EE0:Env UU:={P:=Go.Proofs.Tryz.prog,tid:=alV,code:=vS tyl,NU:=fun _=>none}
theorem Rm:EE0.Ok:=abk (by kernel_rfl) (by kernel_rfl)
def CA:Env UU:={EE0 with opn:=ao7}
theorem nz:CA.Ok:=⟨Rm.code,Rm.mixed,(fun _ _ h=>nomatch (show none=some _ from h)),(fun _ _ _ _ h=>nomatch (show none=some _ from h)),(fun _ _ h=>nomatch (show none=some _ from h))⟩
def pu(a b:Int):Int:=if a<b then-1 else if b<a then 1 else 0
def gb:List Int->List Int->Int
  |[],[]=>0
  |[],_::_=> -1
  |_::_,[]=>1
  |x::a,y::b=>if pu x y=0 then gb a b else pu x y
def eU(a b:au):Int:=if gb a.b9 b.b9=0 then gb a.db b.db else gb a.b9 b.b9
def cC(l:List au):List au:=l.mergeSort fun x y=> !decide (eU y x<0)
def Zn(f:FuncId):Option (Rh UU):=bif Nat.beq f 197 then some ⟨.bO,198,cC⟩ else none
def EE:Env UU:={CA with Wa:=abn,raw:=Zt,Vt:=Zn}
end
end AM
