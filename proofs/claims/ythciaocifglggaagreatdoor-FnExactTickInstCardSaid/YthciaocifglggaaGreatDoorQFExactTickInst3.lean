import Derived.Test.YthciaocifglggaaGreatDoorQAmLib
import Derived.Test.YthciaocifglggaaGreatDoorQFExactTickInst2
import Derived.Lib.ItoaLen
import Derived.Lib.Join
import Derived.Test.YthciaocifglggaaGreatDoorQShelf
namespace AM
open Go Go.Proofs.Tryz Go.IntKind
set_option linter.unusedVariables false
set_option linter.unusedSimpArgs false
set_option maxRecDepth 100000
noncomputable section
def Tf:=bB (α:=(List ag)×(List (DA UU)->Option Value)) (qC (qL .aw) (q1 qF)) [.mv,.ro] (fun(l,p)=>[∀j:Nat,j<l.length->p [cb (l.getD j aq)]=some (.bool (bw (p [cb (l.getD j aq)])))]) (fun(l,p)=>⟨[dL .aw (l.filter (lR p))],[],[]⟩)
def we(l:List ag)(p:(List (DA UU)->Option Value)):(List ag×(Nat->Bool))×Int×Int×Unit->Prop:=fun((xs,dd),i,j,_)=>Iy l (lR p) xs dd i j
def qR(l:List ag)(p:(List (DA UU)->Option Value)):(List ag×(Nat->Bool))×Int×Int×Unit->Nat:=fun((xs,dd),i,j,_)=>l.length-j.toNat
def ah':AX Tf:=fun(l,p)=>bh [(5,aB [.slot 0 (0,1024) (.part .aw),iI 5,iI 6] (fun _=>we l p) (qR l p))]
def af7:HH:=hF Tf func242 [JO] ah' fun x hp hb=>by
 obtain⟨l,p⟩:=x
 have la:L9 l.length:=eY (hb _ m0)
 have bD:∀j:Nat,j<l.length->p [cb (l.getD j aq)]=some (.bool (bw (p [cb (l.getD j aq)]))):=hp _ m0
 clear hp hb
 apply vE (let x0:=ji (l.length) fun(j:Nat)=>bw (p [cb (l.getD j aq)]);(∀(j:Nat),j<l.length->p [cb (l.getD j aq)]=some (Value.bool (bw (p [cb (l.getD j aq)]))))/\bif x0==(-1) then Lf [VL .aw l] [VL .aw (l.filter (lR p))] else we l p ((l,fun(x:Nat)=>false),x0,wrap i64 (x0+1),())/\∀(y:(List ag×(Nat->Bool))×Int×Int×PUnit),let x4:=y.2.2.1.toNat;let x5:=y.fst.1.length;let x6:=Option.getD (some y.2.1) 0;let x9:=y.2.1.toNat;let x2:=y.fst.1.getD x4 aq;let x3:=(↑x5:Int);let x8:=Option.getD (some y.2.1) x3;let x1:=bw (p [{agg:=true,cs:=[CS x2.F.Kind,CL .bm x2.F.ae,CS x2.cq,CI x2.State,CI x2.bg,CI x2.jv,CI x2.V.K,CI x2.V.N,CS x2.V.S]:DA UU}]);let x7:=x8.toNat;let q0:=y.2.2.1+1;we l p y->bif decide (y.2.2.1<x3) then 0<=y.2.2.1/\x4<x5/\x4<x5/\y.fst.2 x4=false/\p [{agg:=true,cs:=[CS x2.F.Kind,CL .bm x2.F.ae,CS x2.cq,CI x2.State,CI x2.bg,CI x2.jv,CI x2.V.K,CI x2.V.N,CS x2.V.S]:DA UU}]=some (Value.bool x1)/\bif !x1 then 0<=y.2.1/\x9<x5/\x9<x5/\we l p ((y.fst.1.set x9 x2,fun(j:Nat)=> !Nat.beq j x9&&(Nat.beq j x4||y.fst.2 j)),wrap i64 (y.2.1+1),wrap i64 q0,())/\qR l p ((y.fst.1.set x9 x2,fun(j:Nat)=> !Nat.beq j x9&&(Nat.beq j x4||y.fst.2 j)),wrap i64 (y.2.1+1),wrap i64 q0,())<qR l p y else we l p ((y.fst.1,fun(j:Nat)=>Nat.beq j x4||y.fst.2 j),y.2.1,wrap i64 q0,())/\qR l p ((y.fst.1,fun(j:Nat)=>Nat.beq j x4||y.fst.2 j),y.2.1,wrap i64 q0,())<qR l p y else 0<=x6/\x6<=Option.getD none x3/\Option.getD none x3<=x3/\x6.toNat<=Int.toNat (Option.getD none x3)/\Int.toNat (Option.getD none x3)=x5/\0<=Option.getD none (0:Int)/\Option.getD none (0:Int)<=x8/\x8<=x3/\Nat.le x7 x5/\(∀(i:Nat),i<x7->(y.fst.2 i||Nat.ble x6.toNat i)=false)/\Lf [VL .aw (y.fst.1.take x7)] [VL .aw (l.filter (lR p))])
 dsimp only
 refine⟨bD,ix (fun h=> ?_) (fun h=> ?_)⟩
 ·exact ajb (NR h).symm
 have hI:=NT h
 have hI2:=hI
 obtain⟨h1,_,h2,_⟩:=hI2
 rw[wi]
 refine⟨hI,?_⟩
 clear hI h1 h2 h
 rintro⟨⟨xs,dd⟩,i,j,⟨⟩⟩ hI
 have hI:Iy l (lR p) xs dd i j:=hI
 have hI2:=hI
 obtain⟨g1,g2,g3,g4,g5,g6,g7,g8⟩:=hI2
 simp only[Ds,Ln]
 refine bT ?_ ?_<;>intro hc
 ·have ej:xs.getD j.toNat aq=l.getD j.toNat aq:=g6 _ (tB _) (by omega)
  rw[ej,wi (n:=i+1),wi (n:=j+1)]
  refine⟨by omega,by omega,by omega,g8 _ (tB _),bD j.toNat (by omega),cB (fun g=> ?_) (fun g=> ?_)⟩
  ·have hq:lR p (l.getD j.toNat aq)=true:=by
    show(!bw (p [cb (l.getD j.toNat aq)]))=true
    rw[show bw (p [cb (l.getD j.toNat aq)])=false from g];rfl
   exact⟨g1,by omega,by omega,NS hI (by omega) hq,by simp only[qR];omega⟩
  ·have hq:lR p (l.getD j.toNat aq)=false:=by
    show(!bw (p [cb (l.getD j.toNat aq)]))=false
    rw[show bw (p [cb (l.getD j.toNat aq)])=true from g];rfl
   exact⟨NQ hI (by omega) hq,by simp only[qR];omega⟩
 ·have e:l.take j.toNat=l:=O5 (by omega)
  rw[e] at g5
  refine⟨by omega,by omega,by omega,by omega,by omega,by omega,by omega,by omega,(show i.toNat<=xs.length by omega),fun k hk=> ?_,ajb g5⟩
  rw[g7 k hk,Hv,<-uK,OL];omega
def ad4:=bB (α:=aj×Int) (qC (qX .cz) (q1 qI)) [.box true,.ro] (fun(x,state)=>[aO x.ai=true]) (fun(x,state)=>⟨[],[],[dX .cz (ux x state)]⟩)
def Uv:HH:=hF ad4 func241 [afG] a0 fun x hp hb=>by
 obtain⟨x,state⟩:=x
 have bD:aO x.ai=true:=hp _ m0
 clear hp hb
 apply vE (bz x.ai<=4294967296/\LM [] [] [DV.box [CL .aP x.S.ab,CI x.S.Next,CL .aI x.av,CL .aw (giveUp x.ai),CL .ax [],CL .aW x.ao,CI state,CI x.ez]] [DV.box (br (ux x state))])
 have:=(p9 bD).2
 exact⟨by omega,rfl,rfl,rfl⟩
def BO:jH UU where
 α:=ag×aA
 md:=[.ro,.ro]
 of:=oC (oA .aw) (o1 (oP .cP))
 ds:=fun x=>[dA .aw x.1,dP .cP x.2]
 pre:=fun _=>[]
 mE:=fun(t,f)=>⟨[dO (decide (t.F=f))],[],[]⟩
 law:=lC (lA .aw) (l1 (lP .cP))
def af6:HH:=hF BO func243 [JP] a0 fun x hp hb=>by
 obtain⟨t,f⟩:=x
 clear hp hb
 apply vE (Lb (decide (t.F=f)) (decide (t.F=f)))
 exact aH _
def aew:=bB (α:=aj) (q1 (qX .cz)) [.box true] (fun x=>[ey x,x.State=3\/x.State=5]) (fun x=>⟨[],[],[dX .cz (gX x)]⟩)
def UB:HH:=hF aew func184 [af8,Uv,af7,af6,af5] a0 fun(x:aj) hp hb=>by
 have bD:ey x:=hp _ m0
 clear hp hb
 apply vE (let x0:=x.ai.filter (lR (eQ BO [DV.ptr [CS ((bc x.ao).Kind),CL .bm (bc x.ao).ae]]));let q0:=bc x.ao;let q1:=br (gX x);L4 (bx x.ao)/\bif !decide ¬x.ao=[] then bif x.State==5 then aO x.ai=true/\LM [] [] [DV.box (br (ux x 6))] [DV.box q1] else aO x.ai=true/\LM [] [] [DV.box (br (ux x 4))] [DV.box q1] else(∀(j:Nat),j<x.ai.length->eQ BO [DV.ptr [CS (q0.Kind),CL .bm q0.ae]] [cb (x.ai.getD j aq)]=some (Value.bool (bw (eQ BO [DV.ptr [CS (q0.Kind),CL .bm q0.ae]] [cb (x.ai.getD j aq)]))))/\bif decide ((x0.length:Int)≥30) then bz []<=4294967296/\L4 q0.ae.length/\LM [] [] [DV.box [CL .aP x.S.ab,CI x.S.Next,CL .aI x.av,CL .aw (fq [] {Kind:=q0.Kind,ae:=q0.ae:aA} {data:= #[]:BA} x.ez).1,CL .ax x.ah,CL .aW x.ao,CI x.State,CI x.ez]] [DV.box q1] else L4 (bz x0)/\L4 q0.ae.length/\LM [] [] [DV.box [CL .aP x.S.ab,CI x.S.Next,CL .aI x.av,CL .aw (fq {τ:=Cd.aw,xs:=x0:eK UU}.xs {Kind:=q0.Kind,ae:=q0.ae:aA} {data:= #[]:BA} x.ez).1,CL .ax x.ah,CL .aW x.ao,CI x.State,CI x.ez]] [DV.box q1])
 dsimp only
 have hgx:=bD
 obtain⟨q1,q2,q3,q4⟩:=bD
 have k3:=(wL q2).2.2
 have hc:∀t:ag,eQ BO [.ptr [.lit (.string (bc x.ao).Kind),.sl .bm (bc x.ao).ae]] [cb t]=some (.bool (decide (t.F=bc x.ao))):=fun t=>pT (x:=(t,bc x.ao)) rfl rfl rfl rfl (by simp[BO])
 have hx:x.ai.filter (lR (eQ BO [.ptr [.lit (.string (bc x.ao).Kind),.sl .bm (bc x.ao).ae]]))=rU x.ai (bc x.ao):=by
  unfold rU;congr 1;funext t;unfold lR;rw[hc];rfl
 simp only[hx]
 have hs:=(p9 (rN (fun t=> !decide (t.F=bc x.ao)) q1)).2
 have hs:bz (rU x.ai (bc x.ao))<=6000:=hs
 refine⟨by omega,cB (fun h=> ?_) (fun h=> ?_)⟩
 ·have hu:x.ao=[]:=by simpa using h
  refine ix (fun g=>⟨q1,by trivial,by trivial,uf ?_⟩) (fun g=>⟨q1,by trivial,by trivial,uf ?_⟩)
  ·rw[gX,if_pos hu,if_pos g]
  ·rw[gX,if_pos hu,if_neg g]
 ·have hu:¬x.ao=[]:=by simpa using h
  have hf:=(tU (ow q2 hu)).1
  have e:=J5 hgx hu
  have eb:gX x=⟨x.S,x.av,rQ x,x.ah,x.ao,x.State,x.ez⟩:=if_neg hu
  refine⟨fun j hj=>by rw[hc];rfl,bT (fun g=> ?_) (fun g=> ?_)⟩
  ·rw[show vt x.ai (bc x.ao)=[] from if_pos (by omega)] at e
   exact⟨by simp[bz],by omega,by trivial,by trivial,uf (a:=⟨x.S,x.av,(fq [] (bc x.ao) ak x.ez).1,x.ah,x.ao,x.State,x.ez⟩) (by rw[e,eb])⟩
  ·rw[show vt x.ai (bc x.ao)=rU x.ai (bc x.ao) from if_neg (by omega)] at e
   exact⟨by omega,by omega,by trivial,by trivial,uf (a:=⟨x.S,x.av,(fq (rU x.ai (bc x.ao)) (bc x.ao) ak x.ez).1,x.ah,x.ao,x.State,x.ez⟩) (by rw[e,eb])⟩
def ad6:=bB (α:=aj×Int) (qC (qX .cz) (q1 qI)) [.box true,.ro] (fun(x,state)=>[ey x,state=3\/state=5]) (fun(x,state)=>⟨[],[],[dX .cz (nf x state)]⟩)
def af':HH:=hF ad6 func238 [Uv,UB] a0 fun x hp hb=>by
 obtain⟨x,state⟩:=x
 have bD:ey x:=hp _ m0
 have gb:state=3\/state=5:=hp _ m1
 clear hp hb
 apply vE (let q0:=ux x state;aO x.ai=true/\ey q0/\(q0.State=3\/q0.State=5)/\LM [] [] [DV.box (br (gX q0))] [DV.box (br (nf x state))])
 dsimp only
 exact⟨bD.1,CW bD _,gb,rfl,rfl,rfl⟩
def aeA:=bB (α:=aj) (q1 (qX .cz)) [.box true] (fun x=>[ey x]) (fun x=>⟨[],[],[dX .cz (nf x 3)]⟩)
def UD:HH:=hF aeA func179 [af'] a0 fun(x:aj) hp hb=>by
 have bD:ey x:=hp _ m0
 clear hp hb
 apply vE (ey x/\((3:Int)=(3:Int)\/(3:Int)=(5:Int))/\LM [] [] [DV.box (br (nf x 3))] [DV.box (br (nf x 3))])
 exact⟨bD,.inl rfl,rfl,rfl,rfl⟩
def adT:=bB (α:=aj×Int) (qC (qX .cz) (q1 qI)) [.box true,.ro] (fun(x,state)=>[aO x.ai=true]) (fun(x,state)=>⟨[],[],[dX .cz (ux x state)]⟩)
def afR:HH:=hF adT func260 [UA] a0 fun x hp hb=>by
 obtain⟨x,state⟩:=x
 have bD:aO x.ai=true:=hp _ m0
 clear hp hb
 apply vE (bz x.ai<=4294967296/\LM [] [] [DV.box [CL .aP x.S.ab,CI x.S.Next,CL .aI x.av,CL .aw (giveUp x.ai),CL .ax [],CL .aW x.ao,CI state,CI x.ez]] [DV.box (br (ux x state))])
 have:=(p9 bD).2
 exact⟨by omega,rfl,rfl,rfl⟩
def Tp:=bB (α:=aj) (q1 (qX .cz)) [.box true] (fun x=>[ey x,x.State=3\/x.State=5]) (fun x=>⟨[],[],[dX .cz (gX x)]⟩)
def wk(x:aj):List ag×Int×T4×(List bf×Int×List aE×(List ag×(Nat->Bool))×List ap×List aQ×Int×Int×Unit)×Unit->Prop:=fun(l,i,f,(gi,gn,gf,(gt,dd),gm,gu,gs,gw,_),_)=>f=((bc x.ao).Kind,(bc x.ao).ae,())/\(gi,gn,gf,gt,gm,gu,gs,gw)=(x.S.ab,x.S.Next,x.av,x.ai,x.ah,x.ao,x.State,x.ez)/\¬x.ao=[]/\0<=i/\i<=x.ai.length/\l=rU (x.ai.take i.toNat) (bc x.ao)/\∀k,i.toNat<=k->dd k=false
def qU(x:aj):List ag×Int×T4×(List bf×Int×List aE×(List ag×(Nat->Bool))×List ap×List aQ×Int×Int×Unit)×Unit->Nat:=fun(l,i,f,(gi,gn,gf,(gt,dd),gm,gu,gs,gw,_),_)=>x.ai.length-i.toNat
def aij:AX Tp:=fun x=>bh [(7,aB [iO 4 .aw,iI 5,.box 2 (2,1024) [.lit .str,.own .bm true],.box 0 (2000000,0) [.own .aP true,.lit (.int .i64),.own .aI true,.part .aw,.own .ax true,.own .aW true,.lit (.int .i64),.lit (.int .i64)]] (fun _=>wk x) (qU x))]
def Uz:HH:=hF Tp func210 [afT,afR,JS,afQ] aij fun(x:aj) hp hb=>by
 have bj:=nD (x:=x) (hb _ m0)
 have e9:=bj.1
 have gO:=bj.2.1
 have gN:=bj.2.2.1
 have fS:=bj.2.2.2.1
 have gM:=bj.2.2.2.2
 have bD:ey x:=hp _ m0
 have gb:x.State=3\/x.State=5:=hp _ m1
 clear hp hb
 apply vE (bx x.ao<=4294967296/\bif !decide ¬x.ao=[] then bif x.State==3 then aO x.ai=true/\LM [] [] [DV.box (br (ux x 4))] [DV.box (br (gX x))] else aO x.ai=true/\LM [] [] [DV.box (br (ux x 6))] [DV.box (br (gX x))] else wk x ([],0,((bc x.ao).Kind,(bc x.ao).ae,()),(x.S.ab,x.S.Next,x.av,(x.ai,fun(x:Nat)=>false),x.ah,x.ao,x.State,x.ez,()),())/\∀(y:List ag×Int×T7×(List bf×Int×List aE×(List ag×(Nat->Bool))×List ap×List aQ×Int×Int×PUnit)×PUnit),let x0:={Kind:=y.2.2.1.1,ae:={τ:=Cd.bm,xs:=y.2.2.1.2.1:eK UU}.xs:aA};let x3:=y.2.1.toNat;let x5:=y.2.2.2.1.2.2.2.1.1.length;let x6:=wrap i64 (y.2.1+1);let x2:=y.2.2.2.1.2.2.2.1.1.getD x3 aq;let x4:=(↑x5:Int);let x1:=[x2];let q0:=(y.1,x6,(y.2.2.1.1,y.2.2.1.2.1,()),(y.2.2.2.1.1,y.2.2.2.1.2.1,y.2.2.2.1.2.2.1,(y.2.2.2.1.2.2.2.1.1,y.2.2.2.1.2.2.2.1.2),y.2.2.2.1.2.2.2.2.1,y.2.2.2.1.2.2.2.2.2.1,y.2.2.2.1.2.2.2.2.2.2.1,y.2.2.2.1.2.2.2.2.2.2.2.1,()),());wk x y->bif decide (y.2.1<x4) then 0<=y.2.1/\x3<x5/\x3<x5/\y.2.2.2.1.2.2.2.1.2 x3=false/\y.2.2.2.1.2.2.2.1.2 x3=false/\x3<x5/\bif !decide (x2.F={Kind:=y.2.2.1.1,ae:=y.2.2.1.2.1:aA}) then 0<=y.2.1/\x3<x5/\x3<x5/\y.2.2.2.1.2.2.2.1.2 x3=false/\L4 (y.1.length+x1.length)/\wk x (y.1++x1,x6,(y.2.2.1.1,y.2.2.1.2.1,()),(y.2.2.2.1.1,y.2.2.2.1.2.1,y.2.2.2.1.2.2.1,(y.2.2.2.1.2.2.2.1.1,fun(j:Nat)=>Nat.beq j x3||y.2.2.2.1.2.2.2.1.2 j),y.2.2.2.1.2.2.2.2.1,y.2.2.2.1.2.2.2.2.2.1,y.2.2.2.1.2.2.2.2.2.2.1,y.2.2.2.1.2.2.2.2.2.2.2.1,()),())/\qU x (y.1++x1,x6,(y.2.2.1.1,y.2.2.1.2.1,()),(y.2.2.2.1.1,y.2.2.2.1.2.1,y.2.2.2.1.2.2.1,(y.2.2.2.1.2.2.2.1.1,fun(j:Nat)=>Nat.beq j x3||y.2.2.2.1.2.2.2.1.2 j),y.2.2.2.1.2.2.2.2.1,y.2.2.2.1.2.2.2.2.2.1,y.2.2.2.1.2.2.2.2.2.2.1,y.2.2.2.1.2.2.2.2.2.2.2.1,()),())<qU x y else wk x q0/\qU x q0<qU x y else bif decide ((y.1.length:Int)≥30) then L4 y.2.2.1.2.1.length/\LM [] [] [DV.box [CL .aP y.2.2.2.1.1,CI y.2.2.2.1.2.1,CL .aI y.2.2.2.1.2.2.1,CL .aw (kZ {τ:=Cd.aw,xs:=[]:eK UU}.xs x0 {data:= #[]:BA} y.2.2.2.1.2.2.2.2.2.2.2.1).1,CL .ax y.2.2.2.1.2.2.2.2.1,CL .aW y.2.2.2.1.2.2.2.2.2.1,CI y.2.2.2.1.2.2.2.2.2.2.1,CI y.2.2.2.1.2.2.2.2.2.2.2.1]] [DV.box (br (gX x))] else L4 y.2.2.1.2.1.length/\LM [] [] [DV.box [CL .aP y.2.2.2.1.1,CI y.2.2.2.1.2.1,CL .aI y.2.2.2.1.2.2.1,CL .aw (kZ {τ:=Cd.aw,xs:=y.1:eK UU}.xs x0 {data:= #[]:BA} y.2.2.2.1.2.2.2.2.2.2.2.1).1,CL .ax y.2.2.2.1.2.2.2.2.1,CL .aW y.2.2.2.1.2.2.2.2.2.1,CI y.2.2.2.1.2.2.2.2.2.2.1,CI y.2.2.2.1.2.2.2.2.2.2.2.1]] [DV.box (br (gX x))])
 dsimp only
 have hgx:=bD
 obtain⟨q1,q2,q3,q4⟩:=bD
 have k3:=(wL q2).2.2
 have k4:=(p9 q1).1
 refine⟨by omega,cB (fun h=> ?_) (fun h=> ?_)⟩
 ·have hu:x.ao=[]:=by simpa using h
  refine ix (fun g=>⟨q1,by trivial,by trivial,uf ?_⟩) (fun g=>⟨q1,by trivial,by trivial,uf ?_⟩)
  ·rw[gX,if_pos hu,if_neg (by omega)]
  ·rw[gX,if_pos hu,if_pos (by omega)]
 have hu:¬x.ao=[]:=by simpa using h
 have hf:=(tU (ow q2 hu)).1
 have eb:gX x=⟨x.S,x.av,rQ x,x.ah,x.ao,x.State,x.ez⟩:=if_neg hu
 refine⟨⟨rfl,rfl,hu,by omega,by omega,rfl,fun _ _=>rfl⟩,?_⟩
 rintro⟨l,i,⟨f1,f2,⟨⟩⟩,⟨gi,gn,gf,⟨gt,dd⟩,gm,gu,gs,gw,⟨⟩⟩,⟨⟩⟩ ⟨hF,hG,-,h1,h2,hl,hd⟩
 cases hF
 cases hG
 subst hl
 simp only
 refine bT ?_ ?_<;>intro hc
 ·have hn:i.toNat<x.ai.length:=by omega
  have ei:(i+1).toNat=i.toNat+1:=by omega
  have pZ:=qy (fun t:ag=> !decide (t.F=bc x.ao)) aq hn
  have hlen:(rU (x.ai.take i.toNat) (bc x.ao)).length<=i.toNat:=BU (O1 _ _) (by simp;omega)
  rw[wi (n:=i+1)]
  refine⟨h1,hn,hn,hd _ (tB _),hd _ (tB _),hn,cB (fun g=> ?_) (fun g=> ?_)⟩
  ·refine⟨h1,hn,hn,hd _ (tB _),by simp only[n_,om];omega,⟨rfl,rfl,hu,by omega,by omega,?_,fun k hk=> ?_⟩,by simp only[qU];omega⟩
   ·rw[ei];refine Eq.trans ?_ pZ.symm
    rw[if_pos (by rw[show decide ((x.ai.getD i.toNat aq).F=bc x.ao)=false from g];rfl)];rfl
   ·show(Nat.beq k i.toNat||dd k)=false
    rw[hd k (by omega),O0,<-uK,FF];omega
  ·refine⟨⟨rfl,rfl,hu,by omega,by omega,?_,fun k hk=>hd k (by omega)⟩,by simp only[qU];omega⟩
   rw[ei];refine Eq.trans ?_ pZ.symm
   rw[if_neg (by rw[show decide ((x.ai.getD i.toNat aq).F=bc x.ao)=true from g];decide),tV];rfl
 ·rw[cT x.ai (by omega)]
  refine bT (fun g=>⟨by omega,by trivial,by trivial,?_⟩) (fun g=>⟨by omega,by trivial,by trivial,?_⟩)
  ·refine uf (a:=⟨x.S,x.av,(kZ [] (bc x.ao) ak x.ez).1,x.ah,x.ao,x.State,x.ez⟩) ?_
   rw[eb,rQ,show vt x.ai (bc x.ao)=[] from if_pos (by omega)]
  ·refine uf (a:=⟨x.S,x.av,(kZ (rU x.ai (bc x.ao)) (bc x.ao) ak x.ez).1,x.ah,x.ao,x.State,x.ez⟩) ?_
   rw[eb,rQ,show vt x.ai (bc x.ao)=rU x.ai (bc x.ao) from if_neg (by omega)]
def aeV:=bB (α:=aj×Int) (qC (qX .cz) (q1 qI)) [.box true,.ro] (fun(x,state)=>[ey x,state=3\/state=5]) (fun(x,state)=>⟨[],[],[dX .cz (nf x state)]⟩)
def ahb:HH:=hF aeV func148 [UA,Uz] a0 fun x hp hb=>by
 obtain⟨x,state⟩:=x
 have bD:ey x:=hp _ m0
 have gb:state=3\/state=5:=hp _ m1
 clear hp hb
 apply vE (let x1:={S:=x.S,av:=x.av,ai:=giveUp x.ai,ah:=[],ao:=x.ao,State:=state,ez:=x.ez:aj};let x0:=gX x1;L4 (bz x.ai)/\ey x1/\(state=3\/state=5)/\LM [] [] [DV.box (br x0)] [DV.box (br (nf x state))])
 dsimp only
 have:=(p9 bD.1).2
 exact⟨by omega,CW bD state,gb,rfl,rfl,rfl⟩
def rcs(l:List Value):List (AC UU):=l.map fun v=> .c (.lit v)
def bE(s:az)(f:aA):az×Int:=if¬lK s.ab f=0 then(s,lK s.ab f) else if 40<=s.ab.length\/s.Next=1000000 then(s,0) else(⟨s.ab++[⟨s.Next,f⟩],s.Next+1⟩,s.Next)
theorem mD{s:az}(h:bP s=true):1<=s.Next/\s.Next<=1000000/\s.ab.length<=40/\(∀x∈s.ab,cg x.F=true/\1<=x.Id):=by
 simp only[bP,eE,decide_eq_true_eq] at h
 refine⟨h.1.1.1,h.1.1.2,h.1.2,vS (z:=a_) h.2 fun i hi=> ?_⟩
 simp only[na,jo,eE,decide_eq_true_eq] at hi
 exact⟨hi.1.1.1.1,hi.1.1.1.2⟩
theorem Qi{s:az}(h:bP s=true)(f:aA):0<=lK s.ab f:=by
 unfold lK;split
 ·omega
 ·rename_i hn
  rcases jh s.ab.length (fun k=>decide ((s.ab.getD k a_).F=f)) with⟨h1,_⟩|⟨i,h2,h1,_,_⟩
  ·exact absurd h1 hn
  ·have e:Cg s.ab f=(i:Int):=h1
   rw[e,UM,fY,gg h2]
   have:=((mD h).2.2.2 _ (Hu h2)).2
   show 0<=(s.ab[i]).Id
   omega
theorem xU{s:az}(h:bP s=true){f:aA}(h0:(bE s f).2=0):(bE s f).1=s:=by
 unfold bE at h0⊢
 split
 ·rfl
 ·rename_i h1
  rw[if_neg h1] at h0
  split
  ·rfl
  ·rename_i h2
   rw[if_neg h2] at h0
   have:=(mD h).1
   simp only at h0;omega
def Ct(x:aj)(s:az):aj:=⟨s,x.av,x.ai,x.ah,x.ao,x.State,x.ez⟩
def fx(x:aj)(f:aA):aj:=if(bE x.S f).2=0 then nf x 3 else Ct x (bE x.S f).1
def Th:=bB (α:=az×aA) (qC (qA .di) (q1 (qA .cP))) [.ro,.ro] (fun _=>[]) (fun(s,f)=>⟨[dI (lK s.ab f)],[],[]⟩)
def zL(s:az)(f:aA):Int×T2×T4×Unit->Prop:=fun(i,b,g,_)=>b=(s.ab,s.Next,())/\g=(f.Kind,f.ae,())/\0<=i/\i<=s.ab.length/\∀j:Nat,(j:Int)<i->decide ((s.ab.getD j a_).F=f)=false
def yX(s:az)(f:aA):Int×T2×T4×Unit->Nat:=fun(i,b,g,_)=>s.ab.length-i.toNat
def aia:AX Th:=fun(s,f)=>bh [(2,aB [iI 10,.box 2 (2,1024) [.shr .aP,.lit (.int .i64)],.box 3 (3,1024) [.lit .str,.shr .bm]] (fun _=>zL s f) (yX s f))]
def af_:HH:=hF Th func237 [JP] aia fun x hp hb=>by
 obtain⟨s,f⟩:=x
 have l9:=jt (x:=s) (hb _ m0)
 have er:=mS (x:=f) (hb _ m1)
 have pJ:=er.1
 have mO:=er.2
 clear hp hb
 apply vE (zL s f (0,(s.ab,s.Next,()),(f.Kind,f.ae,()),())/\∀(y:Int×T12×T7×PUnit),let q0:=(wrap i64 (y.1+1),(y.2.1.1,y.2.1.2.1,()),(y.2.2.1.1,y.2.2.1.2.1,()),());zL s f y->bif decide (y.1<(s.ab.length:Int)) then 0<=y.1/\y.1.toNat<s.ab.length/\bif decide ((s.ab.getD y.1.toNat a_).F={Kind:=y.2.2.1.1,ae:=y.2.2.1.2.1:aA}) then Li ((s.ab.getD y.1.toNat a_).Id) (lK s.ab f) else zL s f q0/\yX s f q0<yX s f y else Li 0 (lK s.ab f))
 dsimp only
 refine⟨⟨rfl,rfl,by omega,by omega,by intro j hj;omega⟩,?_⟩
 rintro⟨i,⟨b1,b2,⟨⟩⟩,⟨g1,g2,⟨⟩⟩,⟨⟩⟩ ⟨pO,hg,h1,h2,hR⟩
 cases pO
 cases hg
 simp only
 refine bT ?_ ?_<;>intro hc
 ·rw[wi]
  refine⟨by omega,by omega,bT (fun h=>cR ?_) (fun h=>⟨⟨rfl,rfl,by omega,by omega,ja (p:=fun j=>decide ((s.ab.getD j a_).F=f)) h1 hR (decide_eq_false h)⟩,by simp only[yX];omega⟩)⟩
  have e:Cg s.ab f=(i.toNat:Int):=gp (i:=i.toNat) (by omega) (decide_eq_true h) (fun j hj=>hR j (by omega))
  rw[lK,e,if_neg (by omega),UM]
 ·refine cR ?_
  have e:Cg s.ab f= -1:=iT (fun j hj=>hR j (by omega))
  rw[lK,if_pos e]
def Oi:=WQ 6 0 (α:=az×aA) (qC (qX .di) (q1 (qA .cP))) [.box true,.ro] (fun(s,f)=>[bP s=true,L4 f.ae.length]) (fun(s,f)=>⟨[dI ((bE s f).2),dO (decide (¬(bE s f).2=0))],[],[dX .di ((bE s f).1)]⟩)
def aiB:AX Oi:=fun(s,f)=>bh []
def acD:=us [af_,wA]
theorem acL:Holds EE (178,Oi):=by
 refine w2 sw func178 Oi (by kernel_rfl) rfl acD (Av _) aiB (fun x hp hb rest kI=> ?_)
 obtain⟨s,f⟩:=x
 have bD:bP s=true:=hp _ m0
 have gb:f.ae.length<=4294967296:=hp _ m1
 clear hp hb
 have kI:rest.length=6:=kI
 match rest,kI with
 |[r0,r1,r2,r3,r4,r5],_=>
 apply vE (let q0:=fz [DV.box [CL .aP s.ab,CI s.Next]]=fz [DV.box [CL .aP (bE s f).1.ab,CI ((bE s f).1.Next)]];let q1:=rcs [r0,r1,r2,r3,r4,r5];let q2:=decide ¬(bE s f).2=0;let q3:=fz [VI 0,VB false]=fz [VI ((bE s f).2),VB q2]/\q0;let q4:=bE s f;bif lK s.ab f !=0 then List.length (α:=AC UU) q1=List.length [r0,r1,r2,r3,r4,r5]/\q1=List.map (fun(v:Value)=>(AC.c (Cell.lit v):AC UU)) [r0,r1,r2,r3,r4,r5]/\fz [VI (lK s.ab f),VB true]=fz [VI (q4.2),VB q2]/\q0 else bif decide ((s.ab.length:Int)≥40) then List.length (α:=AC UU) q1=List.length [r0,r1,r2,r3,r4,r5]/\q1=List.map (fun(v:Value)=>(AC.c (Cell.lit v):AC UU)) [r0,r1,r2,r3,r4,r5]/\q3 else bif s.Next==1000000 then List.length (α:=AC UU) q1=List.length [r0,r1,r2,r3,r4,r5]/\q1=List.map (fun(v:Value)=>(AC.c (Cell.lit v):AC UU)) [r0,r1,r2,r3,r4,r5]/\q3 else L4 f.ae.length/\s.ab.length+List.length [{Id:=s.Next,F:=f:bf}]<=4294967296/\List.length (α:=AC UU) q1=List.length [r0,r1,r2,r3,r4,r5]/\q1=List.map (fun(v:Value)=>(AC.c (Cell.lit v):AC UU)) [r0,r1,r2,r3,r4,r5]/\fz [VI (wrap i64 (wrap i64 (s.Next+1)-1)),VB true]=fz [VI (q4.2),VB q2]/\fz [DV.box [CL .aP (s.ab++[{Id:=s.Next,F:=f:bf}]),CI (wrap i64 (s.Next+1))]]=fz [DV.box [CL .aP q4.1.ab,CI (q4.1.Next)]])
 dsimp only
 obtain⟨s1,s2,s3,s4⟩:=mD bD
 refine Ib (fun h=>⟨rfl,rfl,?_⟩) (fun h=>bT (fun h2=>⟨rfl,rfl,?_⟩) (fun h2=>ix (fun h3=>⟨rfl,rfl,?_⟩) (fun h3=> ?_)))
 ·have e:bE s f=(s,lK s.ab f):=if_pos h
  rw[e,decide_eq_true h];exact⟨rfl,rfl⟩
 ·have e:bE s f=(s,0):=(if_neg (by omega)).trans (if_pos (.inl (by omega)))
  rw[e];exact⟨rfl,rfl⟩
 ·have e:bE s f=(s,0):=(if_neg (by omega)).trans (if_pos (.inr h3))
  rw[e];exact⟨rfl,rfl⟩
 ·have e:bE s f=(⟨s.ab++[⟨s.Next,f⟩],s.Next+1⟩,s.Next):=(if_neg (by omega)).trans (if_neg (by omega))
  rw[e,wi (n:=s.Next+1),wi,show s.Next+1-1=s.Next by omega,decide_eq_true (show¬(s.Next=0) by omega)]
  exact⟨gb,by simp only[n_,om];omega,rfl,rfl,rfl,rfl⟩
def UE:HH:=⟨_,acL⟩
def Oj:=WQ 6 0 (α:=az×aA) (qC (qX .di) (q1 (qA .cP))) [.box true,.ro] (fun(s,f)=>[bP s=true,L4 f.ae.length]) (fun(s,f)=>⟨[dI ((bE s f).2)],[],[dX .di ((bE s f).1)]⟩)
def aiN:AX Oj:=fun(s,f)=>bh []
def acE:=us [UI,Cq]
theorem acM:Holds EE (147,Oj):=by
 refine w2 sw func147 Oj (by kernel_rfl) rfl acE (Av _) aiN (fun x hp hb rest kI=> ?_)
 obtain⟨s,f⟩:=x
 have bD:bP s=true:=hp _ m0
 have gb:f.ae.length<=4294967296:=hp _ m1
 clear hp hb
 have kI:rest.length=6:=kI
 match rest,kI with
 |[r0,r1,r2,r3,r4,r5],_=>
 apply vE (let q0:=fz [DV.box [CL .aP s.ab,CI s.Next]]=fz [DV.box [CL .aP (bE s f).1.ab,CI ((bE s f).1.Next)]];let q1:=rcs [r0,r1,r2,r3,r4,r5];let q2:=bE s f;let q3:=fz [VI 0]=fz [VI (q2.2)]/\q0;bif decide (lK s.ab f>0) then List.length (α:=AC UU) q1=List.length [r0,r1,r2,r3,r4,r5]/\q1=List.map (fun(v:Value)=>(AC.c (Cell.lit v):AC UU)) [r0,r1,r2,r3,r4,r5]/\fz [VI (lK s.ab f)]=fz [VI (q2.2)]/\q0 else bif decide ((s.ab.length:Int)≥40) then List.length (α:=AC UU) q1=List.length [r0,r1,r2,r3,r4,r5]/\q1=List.map (fun(v:Value)=>(AC.c (Cell.lit v):AC UU)) [r0,r1,r2,r3,r4,r5]/\q3 else bif decide (s.Next≥1000000) then List.length (α:=AC UU) q1=List.length [r0,r1,r2,r3,r4,r5]/\q1=List.map (fun(v:Value)=>(AC.c (Cell.lit v):AC UU)) [r0,r1,r2,r3,r4,r5]/\q3 else L4 f.ae.length/\s.ab.length+List.length [{Id:=s.Next,F:=f:bf}]<=4294967296/\List.length (α:=AC UU) q1=List.length [r0,r1,r2,r3,r4,r5]/\q1=List.map (fun(v:Value)=>(AC.c (Cell.lit v):AC UU)) [r0,r1,r2,r3,r4,r5]/\fz [VI (wrap i64 (wrap i64 (s.Next+1)-1))]=fz [VI (q2.2)]/\fz [DV.box [CL .aP (s.ab++[{Id:=s.Next,F:=f:bf}]),CI (wrap i64 (s.Next+1))]]=fz [DV.box [CL .aP q2.1.ab,CI (q2.1.Next)]])
 dsimp only
 obtain⟨s1,s2,s3,s4⟩:=mD bD
 have h0:=Qi bD f
 refine bT (fun h=>⟨rfl,rfl,?_⟩) (fun h=>bT (fun h2=>⟨rfl,rfl,?_⟩) (fun h2=>bT (fun h3=>⟨rfl,rfl,?_⟩) (fun h3=> ?_)))
 ·have e:bE s f=(s,lK s.ab f):=if_pos (by omega)
  rw[e];exact⟨rfl,rfl⟩
 ·have e:bE s f=(s,0):=(if_neg (by omega)).trans (if_pos (.inl (by omega)))
  rw[e];exact⟨rfl,rfl⟩
 ·have e:bE s f=(s,0):=(if_neg (by omega)).trans (if_pos (.inr (by omega)))
  rw[e];exact⟨rfl,rfl⟩
 ·have e:bE s f=(⟨s.ab++[⟨s.Next,f⟩],s.Next+1⟩,s.Next):=(if_neg (by omega)).trans (if_neg (by omega))
  rw[e,wi (n:=s.Next+1),wi,show s.Next+1-1=s.Next by omega]
  exact⟨gb,by simp only[n_,om];omega,rfl,rfl,rfl,rfl⟩
def ahc:HH:=⟨_,acM⟩
def afe:=bB (α:=aj×aA) (qC (qX .cz) (q1 (qA .cP))) [.box true,.ro] (fun(x,f)=>[ey x,bP x.S=true,L4 f.ae.length]) (fun(x,f)=>⟨[],[],[dX .cz (fx x f)]⟩)
def ahI:HH:=hF afe func107 [UE,UD] a0 fun x hp hb=>by
 obtain⟨x,f⟩:=x
 have bD:ey x:=hp _ m0
 have gb:bP x.S=true:=hp _ m1
 have Xh:f.ae.length<=4294967296:=hp _ m2
 clear hp hb
 apply vE (let x1:={S:=(bE {ab:={τ:=Cd.aP,xs:=x.S.ab:eK UU}.xs,Next:=x.S.Next:az} {Kind:=f.Kind,ae:=f.ae:aA}).1,av:=x.av,ai:=x.ai,ah:=x.ah,ao:=x.ao,State:=x.State,ez:=x.ez:aj};let x0:=nf x1 3;let q0:=bE {ab:={τ:=Cd.aP,xs:=x.S.ab:eK UU}.xs,Next:=x.S.Next:az} {Kind:=f.Kind,ae:=f.ae:aA};bP x.S=true/\L4 f.ae.length/\bif !decide ¬q0.2=0 then ey x1/\LM [] [] [DV.box (br x0)] [DV.box (br (fx x f))] else LM [] [] [DV.box [CL .aP q0.1.ab,CI (q0.1.Next),CL .aI x.av,CL .aw x.ai,CL .ax x.ah,CL .aW x.ao,CI x.State,CI x.ez]] [DV.box (br (fx x f))])
 dsimp only
 have hS:(⟨x.S.ab,x.S.Next⟩:az)=x.S:=rfl
 have hF:(⟨f.Kind,f.ae⟩:aA)=f:=rfl
 simp only[hS,hF]
 refine⟨gb,Xh,cB (fun h=> ?_) (fun h=> ?_)⟩
 ·have h:(bE x.S f).2=0:=by simpa using h
  have hz:=xU gb h
  have e:fx x f=nf x 3:=if_pos h
  rw[e,hz]
  exact⟨bD,by trivial,by trivial,rfl⟩
 ·have h:¬(bE x.S f).2=0:=by simpa using h
  have e:fx x f=Ct x (bE x.S f).1:=if_neg h
  rw[e]
  exact⟨by trivial,by trivial,rfl⟩
def ane:=bB (α:=aj×aA) (qC (qX .cz) (q1 (qA .cP))) [.box true,.ro] (fun(x,f)=>[ey x,bP x.S=true,L4 f.ae.length]) (fun(x,f)=>⟨[],[],[dX .cz (fx x f)]⟩)
def afj:HH:=hF ane func81 [ahc,ahb] a0 fun x hp hb=>by
 obtain⟨x,f⟩:=x
 have bD:ey x:=hp _ m0
 have gb:bP x.S=true:=hp _ m1
 have Xh:f.ae.length<=4294967296:=hp _ m2
 clear hp hb
 apply vE (let x1:={S:=(bE {ab:={τ:=Cd.aP,xs:=x.S.ab:eK UU}.xs,Next:=x.S.Next:az} {Kind:=f.Kind,ae:=f.ae:aA}).1,av:=x.av,ai:=x.ai,ah:=x.ah,ao:=x.ao,State:=x.State,ez:=x.ez:aj};let x0:=nf x1 3;let q0:=bE {ab:={τ:=Cd.aP,xs:=x.S.ab:eK UU}.xs,Next:=x.S.Next:az} {Kind:=f.Kind,ae:=f.ae:aA};bP x.S=true/\L4 f.ae.length/\bif q0.2==0 then ey x1/\((3:Int)=(3:Int)\/(3:Int)=(5:Int))/\LM [] [] [DV.box (br x0)] [DV.box (br (fx x f))] else LM [] [] [DV.box [CL .aP q0.1.ab,CI (q0.1.Next),CL .aI x.av,CL .aw x.ai,CL .ax x.ah,CL .aW x.ao,CI x.State,CI x.ez]] [DV.box (br (fx x f))])
 dsimp only
 have hS:(⟨x.S.ab,x.S.Next⟩:az)=x.S:=rfl
 have hF:(⟨f.Kind,f.ae⟩:aA)=f:=rfl
 simp only[hS,hF]
 refine⟨gb,Xh,ix (fun h=> ?_) (fun h=> ?_)⟩
 ·have hz:=xU gb h
  have e:fx x f=nf x 3:=if_pos h
  rw[e,hz]
  exact⟨bD,.inl trivial,by trivial,by trivial,rfl⟩
 ·have e:fx x f=Ct x (bE x.S f).1:=if_neg h
  rw[e]
  exact⟨by trivial,by trivial,rfl⟩
open Go.RowKit
def pI(n:Int):BA:=⟨(Go.Lib.itoa n).toArray⟩
def A'(l:List BA)(sep:BA):BA:=⟨(Go.Lib.join (l.map (fun s=>s.data.toList)) sep.data.toList).toArray⟩
theorem KV{w:World}{k:Nat}{os:Array Obj}:gy (fun _=>False) w (Go.Sort.grow (w.drewN k) os):=by
 refine⟨rfl,rfl,rfl,?_,fun i hi _=> ?_⟩
 ·show w.heap.size<=(w.heap++os).size
  simp
 ·show(w.heap++os)[i]? =_
  rw[Array.getElem?_append_left hi]
def adE:jH UU where
 α:=Int
 md:=[.ro]
 of:=o1 oI
 ds:=fun x=>[dI x]
 pre:=fun _=>[]
 mE:=fun n=>⟨[dS (pI n)],[],[]⟩
 law:=l1 lI
theorem acG:Holds EE (288,adE):=by
 refine⟨⟨_,func288,by kernel_rfl,by kernel_rfl⟩,?_⟩
 refine Cy rfl fun(n:Int) _ w F vs ls hF yj mo=> ?_
 obtain⟨v,rfl,hv⟩:=V6 mo
 obtain⟨_,rfl,hl⟩:=hv.jC
 have hb: -9223372036854775808<=n/\n<=9223372036854775807:=hl.2
 refine⟨_,rfl,rfl,rfl,⟨rfl,?_⟩,(strconv_Itoa n hb.1 hb.2 w (VQ yj)).mono ?_⟩
 ·have:=Go.Lib.itoa_length_le n hb.1 hb.2
  show(ByteArray.mk _).size<=_
  simp only[pI,ByteArray.size,O3]
  omega
 ·rintro e w' ⟨rfl,k,os,rfl⟩
  exact⟨rfl,KV⟩
def afw:HH:=⟨_,acG⟩
def adO:jH UU where
 α:=(List BA)×BA
 md:=[.ro,.ro]
 of:=oC (oL .str) (o1 oS)
 ds:=fun x=>[dL .str x.1,dS x.2]
 pre:=fun(l,sep)=>[(A' l sep).size<=140737488355328,l.length<=140737488355328]
 mE:=fun(l,sep)=>⟨[dS (A' l sep)],[],[]⟩
 law:=lC (lL .str) (l1 lS)
theorem acH:Holds EE (274,adO):=by
 refine⟨⟨_,func274,by kernel_rfl,by kernel_rfl⟩,?_⟩
 refine Cy rfl fun(x:List BA×BA) hp w F vs ls hF yj mo=> ?_
 obtain⟨l,sep⟩:=x
 have bD:(A' l sep).size<=140737488355328:=hp _ dw
 have gb:l.length<=140737488355328:=hp _ (bi _ dw)
 obtain⟨u,v,rfl,hu,hv⟩:=V5 mo
 obtain⟨_,rfl,hl⟩:=hv.jC
 refine⟨_,rfl,rfl,rfl,⟨rfl,by omega⟩,?_⟩
 rcases hu.inv with⟨h0,a,c,rfl⟩|⟨b,off,cap,vs,rfl,hb,hc,nj,hr⟩
 ·subst h0
  refine(strings_Join_none a c sep w).mono ?_
  rintro e w' ⟨rfl,rfl⟩
  exact⟨rfl,gy.refl _ _⟩
 ·refine(strings_Join b off cap l sep w (fun j x hj=> ?_) (hF b hb) gb hc (by simpa[A',ByteArray.size] using bD)).mono ?_
  ·have h1:=hr j x 0 (.lit (.string x)) hj rfl
   have tH:j<l.length:=by
    rcases mX j l.length with h|h
    ·exact h
    ·rw[mi h] at hj;cases hj
   have h2:=nj j (by show j<l.length*1;omega)
   have e:j*UU.wd .str+0=j:=by show j*1+0=j;omega
   rw[e] at h1
   rw[h2,(h1.jC).2.1]
  ·rintro e w' ⟨rfl,hbe⟩
   exact⟨rfl,gy.below hbe⟩
def afH:HH:=⟨_,acH⟩
def rB(l:List UInt8):BA:=⟨l.toArray⟩
theorem j9(a b:List UInt8):rB a++rB b=rB (a++b):=by
 apply ByteArray.ext
 simp[rB]
theorem H9(s:BA):rB (bs s)=s:=by
 apply ByteArray.ext
 simp[rB,bs]
theorem Yj(l:List UInt8):bs (rB l)=l:=by simp[rB,bs]
theorem fM(l:List UInt8):(rB l).size=l.length:=by simp[rB,ByteArray.size]
theorem JJ(s:BA)(l:List UInt8):s++rB l=rB (bs s++l):=by rw[<-j9,H9]
def mY(v:aZ):List UInt8:=if v.K=1 then Go.Lib.itoa v.N else 39::(bs v.S++[39])
def xw(l:List aZ):List UInt8:=40::(Go.Lib.join (l.map mY) [44]++[41])
def kS(v:aZ):BA:=if df v=true then rB (mY v) else ak
def bY(f:aA):BA:=if cg f=true then rB (bs f.Kind++xw f.ae) else ak
theorem MX(l:List BA)(s:BA):A' l s=rB (Go.Lib.join (l.map bs) (bs s)):=rfl
theorem nS(n:Int):pI n=rB (Go.Lib.itoa n):=rfl
theorem CG(l:List (List UInt8))(x sep:List UInt8):Go.Lib.join (l++[x]) sep=if l=[] then x else Go.Lib.join l sep++(sep++x):=by
 cases l with
 |nil=>simp[Go.Lib.join_one]
 |cons y r=>
  rw[Zu,Go.Lib.join_cons,Go.Lib.join_cons,if_neg (by simp)]
  simp[Go.Lib.joinTail]
theorem rM{v:aZ}(h:df v=true):(v.K=1/\-1000000000<=v.N/\v.N<=1000000000)\/(v.K=2/\v.S.size<=20):=by
 simp only[df] at h
 by_cases h1:v.K=1
 ·simp[h1] at h;exact .inl ⟨h1,h.1.1,h.1.2⟩
 ·by_cases h2:v.K=2
  ·simp[h2] at h;exact .inr ⟨h2,h.1.2⟩
  ·simp[h1,h2] at h
theorem Au{v:aZ}(h:df v=true):(mY v).length<=22:=by
 rcases rM h with⟨h1,h2,h3⟩|⟨h1,h2⟩
 ·have:=Go.Lib.itoa_length_le v.N (by omega) (by omega)
  simp only[mY,if_pos h1];omega
 ·simp only[mY,if_neg (show¬v.K=1 by omega),n_,wG,nd,om];omega
theorem vi:∀(l:List aZ),l.all df=true->(Go.Lib.join (l.map mY) [44]).length<=23*l.length
 |[],_=>by simp[Go.Lib.join_nil]
 |x::r,h=>by
  rw[tI,Go.Lib.join_cons]
  simp only[O2,eE] at h
  have h1:=Au h.1
  have h2:∀r:List aZ,r.all df=true->(Go.Lib.joinTail [44] (r.map mY)).length<=23*r.length:=by
   intro r
   induction r with
   |nil=>intro _;simp[Go.Lib.joinTail]
   |cons y r ih=>
    intro h
    simp only[O2,eE] at h
    have h3:=Au h.1
    have h4:=ih h.2
    simp only[Go.Lib.joinTail,tI,HI,wG,n_,om] at h4⊢
    omega
  have h3:=h2 r h.2
  simp only[wG,n_]
  omega
theorem pj{f:aA}(h:cg f=true):f.ae.length<=5/\f.ae.all df=true/\b7 f.Kind=true/\f.Kind.size<=12:=by
 simp only[cg,eE,decide_eq_true_eq] at h
 have h2:=h.1.1
 simp only[b7,eE,decide_eq_true_eq] at h2
 exact⟨h.1.2,h.2,h.1.1,h2.1.1.2⟩
theorem Oa{α:Type}{p:α->Bool}{l:List α}(h:l.all p=true)(z:α){i:Int}(h0:0<=i)(hi:i<l.length):p (l.getD i.toNat z)=true:=
 As.1 h _ (NB l z h0 hi)
theorem N_{α:Type}{p:α->Bool}{l:List α}(h:l.all p=true)(n:Nat):(l.take n).all p=true:=by
 rw[As] at h⊢
 exact fun x hx=>h x (List.mem_of_mem_take hx)
theorem NU{n:Int}(h:10<=n):Go.Lib.itoa n=Go.Lib.itoa (n/10)++[UInt8.ofNat (48+n.toNat%10)]:=by
 simp only[Go.Lib.itoa]
 rw[if_neg (by omega),if_neg (by omega)]
 have e:(n/10).toNat=n.toNat/10:=by omega
 rw[e,Go.Lib.decDigits,dif_neg (by omega)]
theorem QS{n:Int}(h0:0<=n)(h:n<10):Go.Lib.itoa n=[UInt8.ofNat (48+n.toNat)]:=by
 simp only[Go.Lib.itoa]
 rw[if_neg (by omega),Go.Lib.decDigits_one (by omega)]
theorem QT{n:Int}(h:n<0):Go.Lib.itoa n=45::Go.Lib.itoa (-n):=by
 simp only[Go.Lib.itoa]
 rw[if_pos h,if_neg (by omega)]
 have e:(-n).toNat=n.natAbs:=by omega
 rw[e]
theorem NX{n:Int}(h0:0<=n)(h:n<=255):strOfNums (List.map (fun(x:Int)=>x) [n])=rB [UInt8.ofNat n.toNat]:=by
 simp[strOfNums,rB]
theorem wrap_u8'{n:Int}(h:0<=n)(h':n<=255):IntKind.wrap .u8 n=n:=by
 simp only[IntKind.wrap]
 simp[IntKind.bits,IntKind.signed]
 omega
def cN(l:List ag)(key:BA):Int:=ji l.length fun k=>decide (bY (l.getD k aq).F=key)
def Ho:=bB (α:=Int) (q1 qI) [.ro] (fun n=>[-1000000000<=n/\n<=1000000000]) (fun n=>⟨[dS (pI n)],[],[]⟩)
def ahP:AX Ho:=fun n=>bh []
def vU:Int->Nat:=fun n=>if n<0 then n.natAbs+1 else n.natAbs
def acC(rn:Nat):List (FuncId×jH UU):=[(295,Ho.below vU rn)]
theorem acF:Holds EE (295,Ho):=by
 refine KD (k:=Ho) func295 (by kernel_rfl) vU (fun rn ih=> ?_)
 refine holds_of sw func295 (Ho.below vU (rn+1)) (by kernel_rfl) (acC rn) (all_cons ih all_nil) ahP (fun(n:Int) hp hb=> ?_)
 have Xd:vU n<rn+1:=hp _ m0
 have apZ:=iK (n:=n) (hb _ m0)
 have bD: -1000000000<=n/\n<=1000000000:=hp _ m1
 clear hp hb
 apply vE (let x0:=wrap i64 (0-n);let x1:=strOfNums (List.map (fun(x:Cd.T Cd.byte)=>x) [IntKind.wrap IntKind.u8 (wrap i64 (48+Int.tmod n 10))]);let x2:=wrap i64 (Int.tdiv n 10);bif decide (n<0) then vU x0<rn/\((-1000000000)<=x0/\x0<=1000000000)/\ByteArray.size {data:= #[45]:BA}+(pI x0).size<=4611686018427387904/\Lf [VS ({data:= #[45]:BA}++pI x0)] [VS (pI n)] else bif decide (n<10) then Lf [VS (strOfNums (List.map (fun(x:Cd.T Cd.byte)=>x) [IntKind.wrap IntKind.u8 (wrap i64 (48+n))]))] [VS (pI n)] else(10:Int)≠(0:Int)/\vU x2<rn/\((-1000000000)<=x2/\x2<=1000000000)/\(10:Int)≠(0:Int)/\(pI x2).size+x1.size<=4611686018427387904/\Lf [VS (pI x2++x1)] [VS (pI n)])
 dsimp only
 simp only[vU] at Xd
 refine aa (fun h=> ?_) (fun h=>aa (fun h'=>uJ ?_) (fun h'=> ?_))
 ·have h:=yT h
  rw[if_pos h] at Xd
  rw[wi]
  have e:(0:Int)-n= -n:=by omega
  rw[e]
  have hl:=Go.Lib.itoa_length_le (-n) (by omega) (by omega)
  refine⟨?_,⟨by omega,by omega⟩,?_,uJ ?_⟩
  ·simp only[vU];rw[if_neg (by omega)];omega
  ·rw[nS,fM];show 1+_<=_;omega
  ·rw[nS,nS,QT h];exact j9 [45] _
 ·have h:=yF h
  have h':=yT h'
  rw[wi,wrap_u8' (by omega) (by omega),nS,QS (by omega) h']
  refine(NX (n:=48+n) (by omega) (by omega)).trans ?_
  have e:(48+n).toNat=48+n.toNat:=by omega
  rw[e]
 ·have h:=yF h
  have h':=yF h'
  rw[if_neg h] at Xd
  have t1:Int.tdiv n 10=n/10:=Int.tdiv_eq_ediv_of_nonneg (by omega)
  have t2:Int.tmod n 10=n%10:=Hx (by omega)
  rw[t1,t2,wi,wi,wrap_u8' (by omega) (by omega)]
  have hl:=Go.Lib.itoa_length_le (n/10) (by omega) (by omega)
  have hc:strOfNums (List.map (fun(x:Cd.T Cd.byte)=>x) [(48:Int)+n%10])=rB [UInt8.ofNat (48+n%10).toNat]:=NX (n:=48+n%10) (by omega) (by omega)
  rw[hc]
  refine⟨by omega,?_,⟨by omega,by omega⟩,by omega,?_,uJ ?_⟩
  ·simp only[vU];rw[if_neg (by omega)];omega
  ·rw[nS,fM,fM];simp only[n_,om];omega
  ·rw[nS,nS,NU (n:=n) (by omega),j9]
   have e:(48+n%10).toNat=48+n.toNat%10:=by omega
   rw[e]
def afs:HH:=⟨_,acF⟩
def adK:=bB (α:=aZ) (q1 (qA .bm)) [.ro] (fun v=>[df v=true]) (fun v=>⟨[dS (rB (mY v))],[],[]⟩)
def afB:HH:=hF adK func282 [afs] a0 fun(v:aZ) hp hb=>by
 have bD:df v=true:=hp _ m0
 clear hp hb
 apply vE (let x0:={data:= #[39]:BA};bif v.K==1 then((-1000000000)<=v.N/\v.N<=1000000000)/\Lf [VS (pI v.N)] [VS (rB (mY v))] else x0.size+v.S.size<=4611686018427387904/\(x0++v.S).size+x0.size<=4611686018427387904/\Lf [VS (x0++v.S++x0)] [VS (rB (mY v))])
 dsimp only
 rcases rM bD with⟨h1,h2,h3⟩|⟨h1,h2⟩
 ·refine aa (fun h=>⟨⟨h2,h3⟩,uJ ?_⟩) (fun h=>absurd h (by simp[h1]))
  simp only[mY,if_pos h1];rfl
 ·refine aa (fun h=>absurd h (by simp[h1])) (fun h=> ?_)
  have e:({data:= #[39]:BA}++v.S)=rB (39::bs v.S):=by
   conv=>lhs;rw[<-H9 v.S]
   exact j9 [39] _
  rw[e]
  refine⟨?_,?_,uJ ?_⟩
  ·show 1+_<=_;omega
  ·rw[fM];show _+1<=_;simp only[n_,nd];omega
  ·simp only[mY,if_neg (show¬v.K=1 by omega)];exact j9 (39::bs v.S) [39]
def S8:=bB (α:=List aZ) (q1 (qL .bm)) [.ro] (fun l=>[l.length<=5,l.all df=true]) (fun l=>⟨[dS (rB (xw l))],[],[]⟩)
def wb(l:List aZ):BA×Int×Unit->Prop:=fun(s,i,_)=>0<=i/\i<=l.length/\s=rB (40::Go.Lib.join ((l.take i.toNat).map mY) [44])
def qQ(l:List aZ):BA×Int×Unit->Nat:=fun(s,i,_)=>l.length-i.toNat
def ah2:AX S8:=fun l=>bh [(3,aB [.slot 3 (3,1024) (.lit .str),iI 4] (fun _=>wb l) (qQ l))]
def afP:HH:=hF S8 func262 [afB] ah2 fun(l:List aZ) hp hb=>by
 have la:L9 l.length:=eY (hb _ m0)
 have bD:l.length<=5:=hp _ m0
 have gb:l.all df=true:=hp _ m1
 clear hp hb
 apply vE (wb l ({data:= #[40]:BA},0,())/\∀(y:BA×Int×PUnit),let x2:=y.2.1.toNat;let x3:=y.1++{data:= #[44]:BA};let x1:=l.getD x2 gh;let x0:=rB (mY x1);let q0:=(y.1++x0,wrap i64 (y.2.1+1),());let q1:=(x3++x0,wrap i64 (y.2.1+1),());wb l y->bif decide (y.2.1<(l.length:Int)) then bif decide (y.2.1>0) then y.1.size+ByteArray.size {data:= #[44]:BA}<=4611686018427387904/\0<=y.2.1/\x2<l.length/\df x1=true/\x3.size+x0.size<=4611686018427387904/\wb l q1/\qQ l q1<qQ l y else 0<=y.2.1/\x2<l.length/\df x1=true/\y.1.size+x0.size<=4611686018427387904/\wb l q0/\qQ l q0<qQ l y else y.1.size+ByteArray.size {data:= #[41]:BA}<=4611686018427387904/\Lf [VS (y.1++{data:= #[41]:BA})] [VS (rB (xw l))])
 dsimp only
 refine⟨⟨by omega,by omega,rfl⟩,?_⟩
 rintro⟨s,i,⟨⟩⟩ ⟨h1,h2,rfl⟩
 simp only
 have hj:=vi (l.take i.toNat) (N_ gb _)
 rw[od] at hj
 refine aa ?_ ?_<;>intro hc
 ·have hc:i<l.length:=yT hc
  have hv:=Oa gb gh h1 hc
  have Ci:=Au hv
  rw[wi]
  have ht:(l.take (i+1).toNat).map mY=(l.take i.toNat).map mY++[mY (l.getD i.toNat gh)]:=by rw[<-dW l gh h1 hc,La];rfl
  refine aa ?_ ?_<;>intro h
  ·have h:=yT h
   have e:(rB (40::Go.Lib.join ((l.take i.toNat).map mY) [44])++{data:= #[44]:BA})=rB (40::(Go.Lib.join ((l.take i.toNat).map mY) [44]++[44])):=j9 _ [44]
   rw[e,j9]
   have hn:¬(l.take i.toNat).map mY=[]:=by
    intro h0
    have:=congrArg List.length h0
    rw[BV,od,om] at this
    omega
   refine⟨?_,h1,by omega,hv,?_,⟨by omega,by omega,?_⟩,by simp only[qQ];omega⟩
   ·rw[fM];show _+1<=_;simp only[n_];omega
   ·rw[fM,fM];simp only[n_,wG,om];omega
   ·rw[ht,CG,if_neg hn];simp
  ·have h:=yF h
   have h0:i=0:=by omega
   subst h0
   rw[j9]
   refine⟨by omega,by omega,hv,?_,⟨by omega,by omega,?_⟩,by simp only[qQ];omega⟩
   ·rw[fM,fM];simp only[n_];omega
   ·rw[ht,CG];simp[Go.Lib.join_nil]
 ·have hc:¬i<l.length:=yF hc
  rw[cT l (by omega)]
  refine⟨?_,uJ ?_⟩
  ·rw[fM];show _+1<=_;simp only[n_];rw[cT l (by omega)] at hj;omega
  ·exact j9 _ [41]
def aek:=bB (α:=aA) (q1 (qA .cP)) [.ro] (fun _=>[]) (fun f=>⟨[dS (bY f)],[],[]⟩)
def agv:HH:=hF aek func211 [Hs,afP] a0 fun(f:aA) hp hb=>by
 clear hp hb
 apply vE (bif !cg f then Lf [VS ({data:= #[]:BA})] [VS (bY f)] else f.ae.length<=5/\f.ae.all df=true/\f.Kind.size+(rB (xw f.ae)).size<=4611686018427387904/\Lf [VS (f.Kind++rB (xw f.ae))] [VS (bY f)])
 refine aa (fun h=>uJ ?_) (fun h=> ?_)
 ·have h:cg f=false:=by simpa using h
  simp only[bY,h];rfl
 ·have h:cg f=true:=by simpa using h
  obtain⟨h1,h2,h3,h4⟩:=pj h
  have hj:=vi f.ae h2
  refine⟨h1,h2,?_,uJ ?_⟩
  ·rw[fM];simp only[xw,n_,wG,om];omega
  ·simp only[bY,h,if_true];exact JJ _ _
def aeS:=bB (α:=aA) (q1 (qA .cP)) [.ro] (fun _=>[]) (fun f=>⟨[dS (bY f)],[],[]⟩)
def UG:HH:=hF aeS func150 [agv] a0 fun(f:aA) hp hb=>by
 clear hp hb
 apply vE (Lf [VS (bY f)] [VS (bY f)])
 exact aH _
def adP:=bB (α:=aZ) (q1 (qA .bm)) [.ro] (fun _=>[]) (fun v=>⟨[dS (kS v)],[],[]⟩)
def afI:HH:=hF adP func273 [JM,afw] a0 fun(v:aZ) hp hb=>by
 clear hp hb
 apply vE (let x0:={data:= #[39]:BA};bif !df v then Lf [VS ({data:= #[]:BA})] [VS (kS v)] else bif v.K==1 then Lf [VS (pI v.N)] [VS (kS v)] else x0.size+v.S.size<=4611686018427387904/\(x0++v.S).size+x0.size<=4611686018427387904/\Lf [VS (x0++v.S++x0)] [VS (kS v)])
 dsimp only
 refine aa (fun h=>uJ ?_) (fun h=> ?_)
 ·have h:df v=false:=by simpa using h
  simp only[kS,h];rfl
 ·have h:df v=true:=by simpa using h
  have ev:kS v=rB (mY v):=by simp only[kS,h,if_true]
  rw[ev]
  rcases rM h with⟨h1,h2,h3⟩|⟨h1,h2⟩
  ·refine aa (fun h=>uJ ?_) (fun h=>absurd h (by simp[h1]))
   simp only[mY,if_pos h1];rfl
  ·refine aa (fun h=>absurd h (by simp[h1])) (fun h=> ?_)
   have e:({data:= #[39]:BA}++v.S)=rB (39::bs v.S):=by
    conv=>lhs;rw[<-H9 v.S]
    exact j9 [39] _
   rw[e]
   refine⟨?_,?_,uJ ?_⟩
   ·show 1+_<=_;omega
   ·rw[fM];show _+1<=_;simp only[n_,nd];omega
   ·simp only[mY,if_neg (show¬v.K=1 by omega)];exact j9 (39::bs v.S) [39]
def Tg:=bB (α:=aA) (q1 (qA .cP)) [.ro] (fun _=>[]) (fun f=>⟨[dS (bY f)],[],[]⟩)
def zK(f:aA):List BA×Int×T4×Unit->Prop:=fun(out,i,fb,_)=>fb=(f.Kind,f.ae,())/\cg f=true/\0<=i/\i<=f.ae.length/\out=(f.ae.take i.toNat).map kS
def yW(f:aA):List BA×Int×T4×Unit->Nat:=fun(out,i,fb,_)=>f.ae.length-i.toNat
def ah_:AX Tg:=fun f=>bh [(5,aB [iO 3 .str,iI 12,.box 1 (1,1024) [.lit .str,.shr .bm]] (fun _=>zK f) (yW f))]
def af9:HH:=hF Tg func239 [Dn,afI,afH] ah_ fun(f:aA) hp hb=>by
 clear hp hb
 apply vE (bif !cg f then Lf [VS ({data:= #[]:BA})] [VS (bY f)] else zK f ([],0,(f.Kind,f.ae,()),())/\∀(y:List BA×Int×T7×PUnit),let x1:=y.2.2.1.1++{data:= #[40]:BA};let x3:=y.2.1.toNat;let x5:=A' y.1 {data:= #[44]:BA};let x0:=x1++x5;let x2:=[kS (f.ae.getD x3 gh)];let x4:=x5.size;let q0:=(y.1++x2,wrap i64 (y.2.1+1),(y.2.2.1.1,y.2.2.1.2.1,()),());zK f y->bif decide (y.2.1<(f.ae.length:Int)) then 0<=y.2.1/\x3<f.ae.length/\L4 (y.1.length+x2.length)/\zK f q0/\yW f q0<yW f y else y.2.2.1.1.size+ByteArray.size {data:= #[40]:BA}<=4611686018427387904/\x4<=140737488355328/\y.1.length<=140737488355328/\x1.size+x4<=4611686018427387904/\x0.size+ByteArray.size {data:= #[41]:BA}<=4611686018427387904/\Lf [VS (x0++{data:= #[41]:BA})] [VS (bY f)])
 dsimp only
 refine aa (fun h=>uJ ?_) (fun h=> ?_)
 ·have h:cg f=false:=by simpa using h
  simp only[bY,h];rfl
 have h:cg f=true:=by simpa using h
 refine⟨⟨rfl,h,by omega,by omega,rfl⟩,?_⟩
 rintro⟨out,i,fb,⟨⟩⟩ ⟨rfl,_,h1,h2,rfl⟩
 obtain⟨g1,g2,g3,g4⟩:=pj h
 simp only
 refine aa ?_ ?_<;>intro hc
 ·have hc:i<f.ae.length:=yT hc
  rw[wi]
  refine⟨h1,by omega,by simp;omega,⟨rfl,h,by omega,by omega,?_⟩,by simp only[yW];omega⟩
  rw[<-dW f.ae gh h1 hc,La];rfl
 ·have hc:¬i<f.ae.length:=yF hc
  rw[cT f.ae (by omega)]
  have em:f.ae.map kS=(f.ae.map mY).map rB:=by
   rw[List.map_map]
   exact J1 fun v hv=>by
    have:=As.1 g2 v hv
    simp only[kS,this,if_true,Function.comp]
  have ej:A' (f.ae.map kS) {data:= #[44]:BA}=rB (Go.Lib.join (f.ae.map mY) [44]):=by
   rw[em,MX,List.map_map]
   have:(bs∘rB)=id:=funext fun l=>Yj l
   rw[this,List.map_id]
   rfl
  rw[ej]
  have hj:=vi f.ae g2
  have e1:(f.Kind++{data:= #[40]:BA})=rB (bs f.Kind++[40]):=JJ _ [40]
  rw[e1,j9]
  refine⟨?_,?_,by simp;omega,?_,?_,uJ ?_⟩
  ·show _+1<=_;omega
  ·rw[fM];omega
  ·rw[fM,fM];simp only[wG,nd,n_,om];omega
  ·rw[fM];show _+1<=_;simp only[wG,nd,n_,om];omega
  ·simp only[bY,h,if_true]
   refine(j9 _ [41]).trans ?_
   simp[xw]
def aey:=bB (α:=aA) (q1 (qA .cP)) [.ro] (fun _=>[]) (fun f=>⟨[dS (bY f)],[],[]⟩)
def UC:HH:=hF aey func180 [af9] a0 fun(f:aA) hp hb=>by
 clear hp hb
 apply vE (Lf [VS (bY f)] [VS (bY f)])
 exact aH _
def acX:=bB (α:=(List ag)×BA) (qC (qL .aw) (q1 qS)) [.ro,.ro] (fun _=>[]) (fun(l,key)=>⟨[dI (cN l key)],[],[]⟩)
def E3(l:List ag)(key:BA):Int×Unit->Prop:=fun(i,_)=>0<=i/\i<=l.length/\∀j:Nat,(j:Int)<i->decide (bY (l.getD j aq).F=key)=false
def Eu(l:List ag)(key:BA):Int×Unit->Nat:=fun(i,_)=>l.length-i.toNat
def ao0:AX acX:=fun(l,key)=>bh [(2,aB [iI 5] (fun _=>E3 l key) (Eu l key))]
def anR:HH:=hF acX func84 [UG] ao0 fun x hp hb=>by
 obtain⟨l,key⟩:=x
 have la:L9 l.length:=eY (hb _ m0)
 have amg:=N3 (s:=key) (hb _ m1)
 clear hp hb
 apply vE (E3 l key (0,())/\∀(y:Int×PUnit),let q0:=(wrap i64 (y.1+1),());E3 l key y->bif decide (y.1<(l.length:Int)) then 0<=y.1/\y.1.toNat<l.length/\bif (bY (l.getD y.1.toNat aq).F).toList==key.toList then Li y.1 (cN l key) else E3 l key q0/\Eu l key q0<Eu l key y else Li (-1) (cN l key))
 dsimp only
 refine⟨⟨by omega,by omega,by intro j hj;omega⟩,?_⟩
 rintro⟨i,⟨⟩⟩ ⟨h1,h2,hR⟩
 simp only
 refine aa ?_ ?_<;>intro hc
 ·have hc:i<l.length:=yT hc
  simp(disch:=omega) only[wrap_i64,bt]
  refine⟨by omega,by omega,aa (fun h=>cR ?_) (fun h=>⟨⟨by omega,by omega,ja (p:=fun j=>decide (bY (l.getD j aq).F=key)) h1 hR h⟩,by simp only[Eu];omega⟩)⟩
  rw[cN,gp (i:=i.toNat) (by omega) h (fun j hj=>hR j (by omega))]
  omega
 ·have hc:¬i<l.length:=yF hc
  exact cR (iT (fun j hj=>hR j (by omega))).symm
def x_:jH UU where
 α:=ag×BA
 md:=[.ro,.ro]
 of:=fun|[.agg [.lit (.string a0),.sl .bm a1,.lit (.string a2),.lit (.int .i64 a3),.lit (.int .i64 a4),.lit (.int .i64 a5),.lit (.int .i64 a6),.lit (.int .i64 a7),.lit (.string a8)],.ptr [.lit (.string a9)]]=>some (⟨⟨a0,a1⟩,a2,a3,a4,a5,⟨a6,a7,a8⟩⟩,a9)|_=>none
 ds:=fun(t,key)=>[.agg [.lit (.string t.F.Kind),.sl .bm t.F.ae,.lit (.string t.cq),.lit (.int .i64 t.State),.lit (.int .i64 t.bg),.lit (.int .i64 t.jv),.lit (.int .i64 t.V.K),.lit (.int .i64 t.V.N),.lit (.string t.V.S)],.ptr [.lit (.string key)]]
 pre:=fun(t,key)=>[]
 mE:=fun(t,key)=>⟨[.one (.lit (.bool (decide (bY t.F=key))))],[],[]⟩
 law:=by intro l x h;(try simp only at h);split at h<;>cases h;rfl
def agS:HH:=hF x_ func182 [UC] a0 fun x hp hb=>by
 obtain⟨t,key⟩:=x
 have QB:eJ (U:=UU) (.agg [.lit (.string t.F.Kind),.sl .bm t.F.ae,.lit (.string t.cq),.lit (.int .i64 t.State),.lit (.int .i64 t.bg),.lit (.int .i64 t.jv),.lit (.int .i64 t.V.K),.lit (.int .i64 t.V.N),.lit (.string t.V.S)]):=hb _ (dw)
 have Sq:L9 t.F.Kind.size:=Bd.str (QB _ (by simp))
 have OT:L9 t.F.ae.length:=Bd.len (U:=UU) (τ:=.bm) (xs:=t.F.ae) (QB _ (by simp))
 have Zg:L9 t.cq.size:=Bd.str (QB _ (by simp))
 have abQ:L9 t.V.S.size:=Bd.str (QB _ (by simp))
 have amv:eJ (U:=UU) (.ptr [.lit (.string key)]):=hb _ (bi _ (dw))
 clear hp hb
 apply vE (Lb ((bY t.F).toList==key.toList) (decide (bY t.F=key)))
 rw[bt]
 exact aH _
def afb:=bB (α:=(List ag)×BA) (qC (qL .aw) (q1 qS)) [.ro,.ro] (fun _=>[]) (fun(l,key)=>⟨[dI (cN l key)],[],[]⟩)
def ahF:HH:=hF afb func110 [JO,agS] a0 fun x hp hb=>by
 obtain⟨l,key⟩:=x
 clear hp hb
 apply vE ((∀(j:Nat),j<l.length->eQ x_ [DV.ptr [CS key]] [cb (l.getD j aq)]=some (Value.bool (bw (eQ x_ [DV.ptr [CS key]] [cb (l.getD j aq)]))))/\Li (ji (l.length) fun(j:Nat)=>bw (eQ x_ [DV.ptr [CS key]] [cb (l.getD j aq)])) (cN l key))
 have hc:∀x:ag,eQ x_ [.ptr [.lit (.string key)]] [cb x]=some (.bool (decide (bY x.F=key))):=fun x=>pT (x:=(x,key)) rfl rfl rfl rfl (by simp[x_])
 refine⟨fun j hj=> ?_,cR ?_⟩
 ·show eQ x_ [.ptr [.lit (.string key)]] [cb (l.getD j aq)]=_
  rw[hc];rfl
 ·exact uh fun j hj=>by
   show bw (eQ x_ [.ptr [.lit (.string key)]] [cb (l.getD j aq)])=_
   rw[hc];rfl
def lD(cf:Int):Nat->Int->Int
 |0,n=>n
 |k+1,n=>if n<cf then lD cf k (2*n) else n
def gS(base k cf:Int):Int:=if 1<=base/\base<=100000/\1<=cf/\cf<=100000/\0<=k then(if lD cf k.toNat base<cf then lD cf k.toNat base else cf) else 0
theorem N4{cf n:Int}(h:¬n<cf):∀k:Nat,lD cf k n=n
 |0=>rfl
 |k+1=>by rw[lD,if_neg h]
theorem BI{cf n k i:Int}(h0:0<=i)(h:i<k)(hn:n<cf):lD cf (k-i).toNat n=lD cf (k-(i+1)).toNat (2*n):=by
 obtain⟨m,hm⟩:∃m:Nat,(k-i).toNat=m+1:=⟨(k-i).toNat-1,by omega⟩
 have h2:(k-(i+1)).toNat=m:=by omega
 rw[hm,h2,lD,if_pos hn]
theorem Dl{cf n k i:Int}(h:¬(i<k/\n<cf)):lD cf (k-i).toNat n=n:=by
 by_cases hk:i<k
 ·exact N4 (fun hn=>h ⟨hk,hn⟩) _
 ·rw[show(k-i).toNat=0 by omega];rfl
def TT:=bB (α:=Int×Int×Int) (qC qI (qC qI (q1 qI))) [.ro,.ro,.ro] (fun _=>[]) (fun(base,k,cf)=>⟨[dI (gS base k cf)],[],[]⟩)
def Aa(base:Int)(k:Int)(cf:Int):Int×Int×Unit->Prop:=fun(n,i,_)=>0<=i/\i<=k/\1<=n/\n<=200000/\lD cf (k-i).toNat n=lD cf k.toNat base
def zi(base:Int)(k:Int)(cf:Int):Int×Int×Unit->Nat:=fun(n,i,_)=>(k-i).toNat
def aiM:AX TT:=fun(base,k,cf)=>bh [(5,aB [iI 7,iI 8] (fun _=>Aa base k cf) (zi base k cf))]
def ag_:HH:=hF TT func151 [rG] aiM fun x hp hb=>by
 obtain⟨base,k,cf⟩:=x
 have Qt:=iK (n:=base) (hb _ m0)
 have lc:=iK (n:=k) (hb _ m1)
 have Jo:=iK (n:=cf) (hb _ m2)
 clear hp hb
 apply vE (let q0:=gS base k cf;bif !decide (1<=base/\base<=100000) then Li 0 q0 else bif !decide (1<=cf/\cf<=100000) then Li 0 q0 else bif decide (k<0) then Li 0 q0 else Aa base k cf (base,0,())/\∀(y:Int×Int×PUnit),let q1:=(wrap i64 (2*y.1),wrap i64 (y.2.1+1),());let q2:=bif decide (y.1>cf) then Li cf q0 else Li y.1 q0;Aa base k cf y->bif decide (y.2.1<k) then bif decide (y.1<cf) then Aa base k cf q1/\zi base k cf q1<zi base k cf y else q2 else q2)
 dsimp only
 have hN:¬(1<=base/\base<=100000/\1<=cf/\cf<=100000/\0<=k)->Lf [.one (.lit (.int .i64 0))] [.one (.lit (.int .i64 (gS base k cf)))]:=fun h=>cR (by rw[gS,if_neg h])
 refine aa (fun h=>hN ?_) (fun h=>aa (fun h2=>hN ?_) (fun h2=>aa (fun h3=>hN ?_) (fun h3=> ?_)))
 ·simp at h;omega
 ·simp at h2;omega
 ·simp at h3;omega
 have hg:1<=base/\base<=100000/\1<=cf/\cf<=100000/\0<=k:=by simp at h h2 h3;omega
 have hE:∀{n i:Int},lD cf (k-i).toNat n=lD cf k.toNat base->¬(i<k/\n<cf)->(if n<cf then n else cf)=gS base k cf:=fun hR hn=>by rw[gS,if_pos hg,<-hR,Dl hn]
 refine⟨⟨by omega,by omega,by omega,by omega,by rw[Int.sub_zero]⟩,?_⟩
 rintro⟨n,i,⟨⟩⟩ ⟨h4,h5,h6,h7,hR⟩
 simp only
 refine aa (fun hc=>aa (fun hd=> ?_) (fun hd=> ?_)) (fun hc=> ?_)
 ·have hc:=yT hc;have hd:=yT hd
  rw[wi,wi]
  refine⟨⟨by omega,by omega,by omega,by omega,?_⟩,by simp only[zi];omega⟩
  rw[<-BI h4 hc hd];exact hR
 ·have hd:=yF hd
  have e:=hE hR (fun hh=>hd hh.2)
  refine aa (fun hm=>cR ?_) (fun hm=>cR ?_)
  ·have hm:=yT hm;rw[<-e];split<;>omega
  ·have hm:=yF hm;rw[<-e];split<;>omega
 ·have hc:=yF hc
  have e:=hE hR (fun hh=>hc hh.1)
  refine aa (fun hm=>cR ?_) (fun hm=>cR ?_)
  ·have hm:=yT hm;rw[<-e];split<;>omega
  ·have hm:=yF hm;rw[<-e];split<;>omega
def TH:=bB (α:=Int×Int×Int) (qC qI (qC qI (q1 qI))) [.ro,.ro,.ro] (fun _=>[]) (fun(base,k,cf)=>⟨[dI (gS base k cf)],[],[]⟩)
def zW(base:Int)(k:Int)(cf:Int):Int×Int×Unit->Prop:=fun(n,i,_)=>0<=i/\i<=k/\1<=n/\n<=200000/\lD cf (k-i).toNat n=lD cf k.toNat base
def zc(base:Int)(k:Int)(cf:Int):Int×Int×Unit->Nat:=fun(n,i,_)=>(k-i).toNat
def aiA:AX TH:=fun(base,k,cf)=>bh [(4,aB [iI 0,iI 7] (fun _=>zW base k cf) (zc base k cf))]
def agT:HH:=hF TH func181 [xo] aiA fun x hp hb=>by
 obtain⟨base,k,cf⟩:=x
 have Qt:=iK (n:=base) (hb _ m0)
 have lc:=iK (n:=k) (hb _ m1)
 have Jo:=iK (n:=cf) (hb _ m2)
 clear hp hb
 apply vE (let q0:=gS base k cf;bif !decide (1<=base/\base<=100000) then Li 0 q0 else bif !decide (1<=cf/\cf<=100000) then Li 0 q0 else bif decide (k<0) then Li 0 q0 else zW base k cf (base,0,())/\∀(y:Int×Int×PUnit),let q1:=(wrap i64 (y.1*2),wrap i64 (y.2.1+1),());let q2:=Li (if cf<y.1 then cf else y.1) q0;zW base k cf y->bif decide (y.2.1<k) then bif decide (y.1<cf) then zW base k cf q1/\zc base k cf q1<zc base k cf y else q2 else q2)
 dsimp only
 have hN:¬(1<=base/\base<=100000/\1<=cf/\cf<=100000/\0<=k)->Lf [.one (.lit (.int .i64 0))] [.one (.lit (.int .i64 (gS base k cf)))]:=fun h=>cR (by rw[gS,if_neg h])
 refine aa (fun h=>hN ?_) (fun h=>aa (fun h2=>hN ?_) (fun h2=>aa (fun h3=>hN ?_) (fun h3=> ?_)))
 ·simp at h;omega
 ·simp at h2;omega
 ·simp at h3;omega
 have hg:1<=base/\base<=100000/\1<=cf/\cf<=100000/\0<=k:=by simp at h h2 h3;omega
 have hE:∀{n i:Int},lD cf (k-i).toNat n=lD cf k.toNat base->¬(i<k/\n<cf)->(if n<cf then n else cf)=gS base k cf:=fun hR hn=>by rw[gS,if_pos hg,<-hR,Dl hn]
 refine⟨⟨by omega,by omega,by omega,by omega,by rw[Int.sub_zero]⟩,?_⟩
 rintro⟨n,i,⟨⟩⟩ ⟨h4,h5,h6,h7,hR⟩
 simp only
 refine aa (fun hc=>aa (fun hd=> ?_) (fun hd=> ?_)) (fun hc=> ?_)
 ·have hc:=yT hc;have hd:=yT hd
  rw[wi,wi]
  refine⟨⟨by omega,by omega,by omega,by omega,?_⟩,by simp only[zc];omega⟩
  rw[Int.mul_comm,<-BI h4 hc hd];exact hR
 ·have hd:=yF hd
  have e:=hE hR (fun hh=>hd hh.2)
  refine cR ?_
  rw[<-e];split<;>(try split)<;>omega
 ·have hc:=yF hc
  have e:=hE hR (fun hh=>hc hh.1)
  refine cR ?_
  rw[<-e];split<;>(try split)<;>omega
def due(now:Int)(t:ag):Bool:=iR t&&decide (t.jv<=now)
def dE(now:Int)(t:ag):ag:=if due now t=true then(if t.bg=4 then⟨t.F,t.cq,4,t.bg,t.jv,t.V⟩ else⟨t.F,t.cq,2,t.bg+1,now+gS 2 (t.bg+1) 60,t.V⟩) else t
def fm(now:Int)(t:ag):List ci:=if due now t=true/\t.bg≠4 then[⟨bY t.F,t.F,t.bg+1⟩] else[]
def fT(now:Int)(t:ag):List BA:=if due now t=true/\t.bg=4 then[bY t.F] else[]
theorem uU{l:List ag}(h:aO l=true):l.length<=30:=by
 simp only[aO,eE,decide_eq_true_eq] at h;exact h.1
theorem t_{l:List ag}(h:aO l=true){k:Nat}(hk:k<l.length):gj (l.getD k aq)=true:=by
 simp only[aO,eE] at h
 have:=Hl.1 h.2 k hk
 simp only[jd,eE] at this
 exact this.1
theorem Cw{t:ag}(h:gj t=true):(1<=t.State/\t.State<=4)/\(0<=t.bg/\t.bg<=4)/\(0<=t.jv/\t.jv<=1000001000)/\((t.State=1->t.bg=0)/\(t.State=2->t.bg≠0))/\t.F.ae.length<=5:=by
 simp only[gj,eE,decide_eq_true_eq] at h
 obtain⟨⟨⟨⟨⟨⟨h1,h2⟩,h3⟩,h4⟩,h5⟩,h6⟩,h7⟩:=h
 refine⟨h3,h4,h5,h7,?_⟩
 simp only[cg,eE,decide_eq_true_eq] at h1
 first|exact h1.1.2|exact h1.2.1|omega
theorem Lf3{a a':List ag}{b b':List ci}{c c':List BA}(h1:a=a')(h2:b=b')(h3:c=c'):Lf [.one (.sl .aw a),.one (.sl .cu b),.one (.sl .str c)] [.one (.sl .aw a'),.one (.sl .cu b'),.one (.sl .str c')]:=by
 subst h1 h2 h3;exact aH _
theorem QW{a a':List ag}(h:a=a'):fz ([DV.one (Cell.sl Cd.aw a)]:List (DV UU))=fz ([DV.one (Cell.sl Cd.aw a')]:List (DV UU)):=by rw[h]
theorem sP{α β:Type}(f:α->List β)(l:List α)(z:α){i:Int}(h0:0<=i)(h:i<l.length):(l.take i.toNat).flatMap f++f (l.getD i.toNat z)=(l.take (i+1).toNat).flatMap f:=by
 rw[<-dW l z h0 h,UN];simp
theorem nW{α β:Type}(f:α->List β)(hf:∀x,(f x).length<=1):∀l:List α,(l.flatMap f).length<=l.length
 |[]=>by simp
 |x::l=>by
  rw[xv,wG]
  have h1:=nW f hf l
  have h2:=hf x
  simp only[n_];omega
theorem Dc(now:Int)(t:ag):(fm now t).length<=1:=by unfold fm;split<;>simp
theorem sR(now:Int)(t:ag):(fT now t).length<=1:=by unfold fT;split<;>simp
theorem Dk(cf:Int):∀(k:Nat)(n:Int),0<=n->0<=lD cf k n
 |0,n,h=>h
 |k+1,n,h=>by rw[lD];split;exact Dk cf k (2*n) (by omega);exact h
theorem uz(k:Int):0<=gS 2 k 60/\gS 2 k 60<=60:=by
 have:=Dk 60 k.toNat 2 (by omega)
 unfold gS
 split
 ·split<;>omega
 ·omega
def aeU:=bB (α:=ag×Int) (qC (qA .aw) (q1 qI)) [.ro,.ro] (fun _=>[]) (fun(t,now)=>⟨[dO (due now t)],[],[]⟩)
def aha:HH:=hF aeU func149 [] a0 fun x hp hb=>by
 obtain⟨t,now⟩:=x
 clear hp hb
 apply vE (let q0:=Lb (decide (t.jv<=now)) (due now t);bif t.State==1 then q0 else bif t.State==2 then q0 else Lb false (due now t))
 dsimp only
 repeat' (refine aa (fun h=> ?_) (fun h=> ?_))
 all_goals (refine cK ?_;simp only[due,iR];grind)
def acY:=bB (α:=(List ag)×Int) (qC (qL .aw) (q1 qI)) [.wr,.ro] (fun(l,now)=>[aO l=true,0<=now/\now<=1000000000]) (fun(l,now)=>⟨[dL .cu (l.flatMap (fm now)),dL .str (l.flatMap (fT now))],[],[dL .aw (l.map (dE now))]⟩)
def xn(l:List ag)(now:Int):List ag×List ci×List BA×Int×Unit->Prop:=fun(out,calls,failed,i,_)=>0<=i/\i<=l.length/\out=(l.map (dE now)).take i.toNat++l.drop i.toNat/\calls=(l.take i.toNat).flatMap (fm now)/\failed=(l.take i.toNat).flatMap (fT now)
def pq(l:List ag)(now:Int):List ag×List ci×List BA×Int×Unit->Nat:=fun(out,calls,failed,i,_)=>l.length-i.toNat
def ao1:AX acY:=fun(l,now)=>bh [(4,aB [.slot 0 (2000000,0) (.own .aw true),iO 6 .cu,iO 7 .str,iI 8] (fun _=>xn l now) (pq l now))]
def anS:HH:=hF acY func82 [aha,UG,ag_,Cq] ao1 fun x hp hb=>by
 obtain⟨l,now⟩:=x
 have la:L9 l.length:=eY (hb _ m0)
 have pf:=iK (n:=now) (hb _ m1)
 have bD:aO l=true:=hp _ m0
 have gb:0<=now/\now<=1000000000:=hp _ m1
 clear hp hb
 apply vE (xn l now (l,[],[],0,())/\∀(y:List ag×List ci×List BA×Int×PUnit),let x3:=y.2.2.2.1.toNat;let x5:=y.1.modify x3 fun(x:ag)=>{F:=x.F,cq:=x.cq,State:=(4:Int),bg:=x.bg,jv:=x.jv,V:=x.V:ag};let x6:=y.1.modify x3 fun(x:ag)=>{F:=x.F,cq:=x.cq,State:=x.State,bg:=wrap i64 ((y.1.getD x3 aq).bg+1),jv:=x.jv,V:=x.V:ag};let x4:=x6.modify x3 fun(x:ag)=>{F:=x.F,cq:=x.cq,State:=(2:Int),bg:=x.bg,jv:=x.jv,V:=x.V:ag};let x2:=x4.modify x3 fun(x:ag)=>{F:=x.F,cq:=x.cq,State:=x.State,bg:=x.bg,jv:=wrap i64 (now+gS 2 (x4.getD x3 aq).bg 60),V:=x.V:ag};let x1:=(x2.getD x3 aq).F;let x0:=[{Key:=bY x1,F:=x1,Try:=(x2.getD x3 aq).bg:ci}];let q0:=(x5,y.2.1,y.2.2.1++[bY (x5.getD x3 aq).F],wrap i64 (y.2.2.2.1+1),());let q1:=(x2,y.2.1++x0,y.2.2.1,wrap i64 (y.2.2.2.1+1),());let q2:=(y.1,y.2.1,y.2.2.1,wrap i64 (y.2.2.2.1+1),());xn l now y->bif decide (y.2.2.2.1<(y.1.length:Int)) then 0<=y.2.2.2.1/\x3<y.1.length/\x3<y.1.length/\x3<y.1.length/\bif !due now (y.1.getD x3 aq) then xn l now q2/\pq l now q2<pq l now y else x3<y.1.length/\bif (y.1.getD x3 aq).bg==4 then x3<y.1.length/\x3<x5.length/\x3<x5.length/\y.2.2.1.length+List.length [bY (x5.getD x3 aq).F]<=4294967296/\xn l now q0/\pq l now q0<pq l now y else x3<y.1.length/\x3<y.1.length/\x3<x6.length/\x3<x4.length/\x3<x4.length/\x3<x2.length/\x3<x2.length/\x3<x2.length/\x3<x2.length/\L4 x1.ae.length/\x3<x2.length/\L4 (y.2.1.length+x0.length)/\xn l now q1/\pq l now q1<pq l now y else fz [VL .cu y.2.1,VL .str y.2.2.1]=fz [VL .cu (List.flatMap (fm now) l),VL .str (List.flatMap (fT now) l)]/\fz [VL .aw y.1]=fz [VL .aw (l.map (dE now))])
 dsimp only
 refine⟨⟨by omega,by omega,by simp,by simp,by simp⟩,?_⟩
 rintro⟨out,calls,failed,i,⟨⟩⟩ ⟨h1,h2,rfl,rfl,rfl⟩
 have hl:=yu (dE now) l h1 h2
 have hlen:=uU bD
 have gU:=nW (fm now) (Dc now) (l.take i.toNat)
 have yD:=nW (fT now) (sR now) (l.take i.toNat)
 rw[od] at gU yD
 simp only
 refine aa ?_ ?_<;>intro hc
 ·have hc:=yT hc
  have hc:i<l.length:=by omega
  have hi:i.toNat<l.length:=by omega
  have hg:=fC _ l aq (DU (dE now) l h1 h2) h1 hc
  obtain⟨s1,s2,s3,s4,s5⟩:=Cw (t_ bD hi)
  have ky:=sP (fm now) l aq h1 hc
  have KQ:=sP (fT now) l aq h1 hc
  have hM:=fun F hF=>vf (dE now) l aq F h1 hc hF
  have hS:=fun hF=>ve (dE now) l aq h1 hc hF
  have hb:=uz ((l.getD i.toNat aq).bg+1)
  generalize hRR:(l.map (dE now)).take i.toNat++l.drop i.toNat=R at*
  rw[wi (n:=i+1)]
  simp(disch:=first|omega|(simp only[sz];omega)) only[getD_modify,cw,sz,hl,hg]
  generalize hT:l.getD i.toNat aq=t at*
  simp(disch:=omega) only[wrap_i64,n_,om]
  repeat' (first|refine And.intro (by omega) ?_|refine aa (fun h=> ?_) (fun h=> ?_)|fail)
  all_goals simp only[rj,Bool.not_eq_false',decide_eq_true_eq,decide_eq_false_iff_not,beq_iff_eq,beq_eq_false_iff_ne] at*
  all_goals first
   |(have hd:due now t=true:=by first|assumption|(simp only[due];grind)
     have e1:fm now t=[]:=by simp only[fm];exact if_neg (by simp_all)
     have e2:fT now t=[bY t.F]:=by simp only[fT];exact if_pos ⟨hd,by assumption⟩
     rw[e1,tV] at ky
     rw[e2] at KQ
     rw[hM _ (by simp only[dE,hd,if_true];rw[if_pos (by assumption)])]
     exact⟨⟨by omega,by omega,rfl,ky,KQ⟩,by simp only[pq];omega⟩)
   |(have hd:due now t=true:=by first|assumption|(simp only[due];grind)
     have e1:fm now t=[⟨bY t.F,t.F,t.bg+1⟩]:=by simp only[fm];exact if_pos ⟨hd,by assumption⟩
     have e2:fT now t=[]:=by simp only[fT];exact if_neg (by simp_all)
     rw[e2,tV] at KQ
     rw[e1] at ky
     rw[hM _ (by simp only[dE,hd,if_true];rw[if_neg (by assumption)])]
     exact⟨⟨by omega,by omega,rfl,ky,KQ⟩,by simp only[pq];omega⟩)
   |(have hd:due now t=false:=by first|assumption|(simp only[due];grind)
     have e1:fm now t=[]:=by simp only[fm];exact if_neg (by simp_all)
     have e2:fT now t=[]:=by simp only[fT];exact if_neg (by simp_all)
     rw[e1,tV] at ky
     rw[e2,tV] at KQ
     have hs:=hS (by simp only[dE,hd];rfl)
     exact⟨⟨by omega,by omega,hs,ky,KQ⟩,by simp only[pq];omega⟩)
 ·have hc:=yF hc
  exact⟨by rw[cT l (by omega)];rfl,QW (vg (i:=i) (dE now) l (by omega))⟩
def Ul:=bB (α:=(List ag)×Int) (qC (qL .aw) (q1 qI)) [.ro,.ro] (fun(l,now)=>[L4 (bz l)]) (fun(l,now)=>⟨[dL .aw (if aO l=true/\0<=now/\now<=1000000000 then l.map (dE now) else l),dL .cu (if aO l=true/\0<=now/\now<=1000000000 then l.flatMap (fm now) else[]),dL .str (if aO l=true/\0<=now/\now<=1000000000 then l.flatMap (fT now) else[])],[],[]⟩)
def tA(l:List ag)(now:Int):List ag×List ci×List BA×Int×Unit->Prop:=fun(out,calls,failed,i,_)=>0<=i/\i<=l.length/\out=(l.map (dE now)).take i.toNat++l.drop i.toNat/\calls=(l.take i.toNat).flatMap (fm now)/\failed=(l.take i.toNat).flatMap (fT now)
def mz(l:List ag)(now:Int):List ag×List ci×List BA×Int×Unit->Nat:=fun(out,calls,failed,i,_)=>l.length-i.toNat
def ai7:AX Ul:=fun(l,now)=>bh [(7,aB [iO 7 .aw,iO 8 .cu,iO 9 .str,iI 25] (fun _=>tA l now) (mz l now))]
def ahH:HH:=hF Ul func108 [RL,Y2,JV,Oz,UC,agT,wA] ai7 fun x hp hb=>by
 obtain⟨l,now⟩:=x
 have la:L9 l.length:=eY (hb _ m0)
 have pf:=iK (n:=now) (hb _ m1)
 have bD:bz l<=4294967296:=hp _ m0
 clear hp hb
 apply vE (let q0:=Lf [VL .aw l,VL .cu [],VL .str []] [VL .aw (if aO l=true/\0<=now/\now<=1000000000 then l.map (dE now) else l),VL .cu (if aO l=true/\0<=now/\now<=1000000000 then List.flatMap (fm now) l else[]),VL .str (if aO l=true/\0<=now/\now<=1000000000 then List.flatMap (fT now) l else[])];let q1:=(0:Int)<=now/\now<=1000000000;L4 (bz l)/\bif !aO l then q0 else bif !decide (0<=now/\now<=1000000000) then q0 else tA l now (l,[],[],0,())/\∀(y:List ag×List ci×List BA×Int×PUnit),let x3:=y.2.2.2.1.toNat;let x5:=y.1.modify x3 fun(x:ag)=>{F:=x.F,cq:=x.cq,State:=(2:Int),bg:=x.bg,jv:=x.jv,V:=x.V:ag};let x6:=y.1.modify x3 fun(x:ag)=>{F:=x.F,cq:=x.cq,State:=(4:Int),bg:=x.bg,jv:=x.jv,V:=x.V:ag};let x4:=x5.modify x3 fun(x:ag)=>{F:=x.F,cq:=x.cq,State:=x.State,bg:=wrap i64 ((x5.getD x3 aq).bg+1),jv:=x.jv,V:=x.V:ag};let x2:=x4.modify x3 fun(x:ag)=>{F:=x.F,cq:=x.cq,State:=x.State,bg:=x.bg,jv:=wrap i64 (now+gS 2 (x4.getD x3 aq).bg 60),V:=x.V:ag};let x1:=(x2.getD x3 aq).F;let x0:=[{Key:=bY x1,F:=x1,Try:=(x2.getD x3 aq).bg:ci}];let q2:=(y.1,y.2.1,y.2.2.1,wrap i64 (y.2.2.2.1+1),());let q3:=(x6,y.2.1,y.2.2.1++[bY (x6.getD x3 aq).F],wrap i64 (y.2.2.2.1+1),());let q4:=(x2,y.2.1++x0,y.2.2.1,wrap i64 (y.2.2.2.1+1),());let q5:=tA l now q2/\mz l now q2<mz l now y;let q6:=y.1.getD x3 aq;tA l now y->bif decide (y.2.2.2.1<(l.length:Int)) then 0<=y.2.2.2.1/\x3<y.1.length/\x3<y.1.length/\x3<y.1.length/\bif !iR q6 then q5 else x3<y.1.length/\bif decide (q6.jv>now) then q5 else x3<y.1.length/\bif q6.bg==4 then x3<y.1.length/\x3<x6.length/\x3<x6.length/\y.2.2.1.length+List.length [bY (x6.getD x3 aq).F]<=4294967296/\tA l now q3/\mz l now q3<mz l now y else x3<y.1.length/\x3<x5.length/\x3<x5.length/\x3<x4.length/\x3<x4.length/\x3<x2.length/\x3<x2.length/\x3<x2.length/\x3<x2.length/\L4 x1.ae.length/\x3<x2.length/\L4 (y.2.1.length+x0.length)/\tA l now q4/\mz l now q4<mz l now y else Lf [VL .aw y.1,VL .cu y.2.1,VL .str y.2.2.1] [VL .aw (if aO l=true/\q1 then l.map (dE now) else l),VL .cu (if aO l=true/\q1 then List.flatMap (fm now) l else[]),VL .str (if aO l=true/\q1 then List.flatMap (fT now) l else[])])
 dsimp only
 refine⟨bD,aa (fun h=> ?_) (fun h=>aa (fun h2=> ?_) (fun h2=> ?_))⟩
 ·have Ng:¬(aO l=true/\0<=now/\now<=1000000000):=fun hh=>by rw[hh.1] at h;simp at h
  exact Lf3 (if_neg Ng).symm (if_neg Ng).symm (if_neg Ng).symm
 ·have Ng:¬(aO l=true/\0<=now/\now<=1000000000):=fun hh=>by simp[hh.2] at h2
  exact Lf3 (if_neg Ng).symm (if_neg Ng).symm (if_neg Ng).symm
 have ht:aO l=true:=by simpa using h
 have hw:0<=now/\now<=1000000000:=by simpa using h2
 have Ng:aO l=true/\0<=now/\now<=1000000000:=⟨ht,hw⟩
 clear h h2
 refine⟨⟨by omega,by omega,by simp,by simp,by simp⟩,?_⟩
 rintro⟨out,calls,failed,i,⟨⟩⟩ ⟨h1,h2,rfl,rfl,rfl⟩
 have hl:=yu (dE now) l h1 h2
 have hlen:=uU ht
 have gU:=nW (fm now) (Dc now) (l.take i.toNat)
 have yD:=nW (fT now) (sR now) (l.take i.toNat)
 rw[od] at gU yD
 simp only
 refine aa ?_ ?_<;>intro hc
 ·have hc:=yT hc
  have hc:i<l.length:=by omega
  have hi:i.toNat<l.length:=by omega
  have hg:=fC _ l aq (DU (dE now) l h1 h2) h1 hc
  obtain⟨s1,s2,s3,s4,s5⟩:=Cw (t_ ht hi)
  have ky:=sP (fm now) l aq h1 hc
  have KQ:=sP (fT now) l aq h1 hc
  have hM:=fun F hF=>vf (dE now) l aq F h1 hc hF
  have hS:=fun hF=>ve (dE now) l aq h1 hc hF
  have hb:=uz ((l.getD i.toNat aq).bg+1)
  generalize hRR:(l.map (dE now)).take i.toNat++l.drop i.toNat=R at*
  rw[wi (n:=i+1)]
  simp(disch:=first|omega|(simp only[sz];omega)) only[getD_modify,cw,sz,hl,hg]
  generalize hT:l.getD i.toNat aq=t at*
  simp(disch:=omega) only[wrap_i64,n_,om]
  repeat' (first|refine And.intro (by omega) ?_|refine aa (fun h=> ?_) (fun h=> ?_)|fail)
  all_goals simp only[rj,Bool.not_eq_false',decide_eq_true_eq,decide_eq_false_iff_not,beq_iff_eq,beq_eq_false_iff_ne] at*
  all_goals first
   |(have hd:due now t=true:=by first|assumption|(simp only[due];grind)
     have e1:fm now t=[]:=by simp only[fm];exact if_neg (by simp_all)
     have e2:fT now t=[bY t.F]:=by simp only[fT];exact if_pos ⟨hd,by assumption⟩
     rw[e1,tV] at ky
     rw[e2] at KQ
     rw[hM _ (by simp only[dE,hd,if_true];rw[if_pos (by assumption)])]
     exact⟨⟨by omega,by omega,rfl,ky,KQ⟩,by simp only[mz];omega⟩)
   |(have hd:due now t=true:=by first|assumption|(simp only[due];grind)
     have e1:fm now t=[⟨bY t.F,t.F,t.bg+1⟩]:=by simp only[fm];exact if_pos ⟨hd,by assumption⟩
     have e2:fT now t=[]:=by simp only[fT];exact if_neg (by simp_all)
     rw[e2,tV] at KQ
     rw[e1] at ky
     rw[hM _ (by simp only[dE,hd,if_true];rw[if_neg (by assumption)])]
     exact⟨⟨by omega,by omega,rfl,ky,KQ⟩,by simp only[mz];omega⟩)
   |(have hd:due now t=false:=by first|assumption|(simp only[due];grind)
     have e1:fm now t=[]:=by simp only[fm];exact if_neg (by simp_all)
     have e2:fT now t=[]:=by simp only[fT];exact if_neg (by simp_all)
     rw[e1,tV] at ky
     rw[e2,tV] at KQ
     have hs:=hS (by simp only[dE,hd];rfl)
     exact⟨⟨by omega,by omega,hs,ky,KQ⟩,by simp only[mz];omega⟩)
 ·have hc:=yF hc
  rw[cT l (by omega)]
  exact Lf3 ((vg (i:=i) (dE now) l (by omega)).trans (if_pos Ng).symm) (if_pos Ng).symm (if_pos Ng).symm
theorem Cp(f:aA):(bY f).size<=200:=by
 unfold bY;split
 ·rename_i h
  obtain⟨h1,h2,h3,h4⟩:=pj h
  have:=vi f.ae h2
  rw[fM];simp only[wG,nd,xw,n_,om];omega
 ·simp[ak]
theorem uP{l:List aQ}(n:Nat)(h:eV l=true):eV (l.take n)=true:=by
 simp only[eV,eE,decide_eq_true_eq] at h⊢
 have hg:∀k,k<(l.take n).length->(l.take n).getD k bX=l.getD k bX:=fun k hk=>by
  rw[fY,fY,nF,if_pos (by simp at hk;omega)]
 refine⟨by have:=h.1;simp only[od];omega,j6.2 fun i hi=> ?_⟩
 have h2:=j6.1 h.2 i (by simp at hi;omega)
 simp only[jI] at h2⊢
 rw[hg i hi,qJ (q:=fun k=>decide ((l.getD k bX).Key=(l.getD i bX).Key)) fun k hk=>by rw[hg k (by omega)]]
 exact h2
def ru(x:aj):aj:=gX ⟨x.S,x.av,x.ai,x.ah,x.ao.take (x.ao.length-1),x.State,x.ez⟩
theorem CV{x:aj}(h:ey x):ey ⟨x.S,x.av,x.ai,x.ah,x.ao.take (x.ao.length-1),x.State,x.ez⟩:=⟨h.1,uP _ h.2.1,h.2.2⟩
def pn(f:aA)(word:BA)(v:aZ):aA:=⟨f.Kind,[⟨2,0,word⟩,v]⟩
def OZ:BA:=⟨#[110,111]⟩
def RZ(x:aj)(l:List ag):aj:=⟨x.S,x.av,l,x.ah,x.ao,x.State,x.ez⟩
def afd:=bB (α:=aA×BA×aZ) (qC (qA .cP) (qC qS (q1 (qA .bm)))) [.ro,.ro,.ro] (fun _=>[]) (fun(f,word,v)=>⟨[dA .cP (pn f word v)],[],[]⟩)
def ahG:HH:=hF afd func109 [] a0 fun x hp hb=>by
 obtain⟨f,word,v⟩:=x
 clear hp hb
 apply vE (Lf [DV.agg [CS f.Kind,CL .bm [{K:=(2:Int),N:=(0:Int),S:=word:aZ},v]]] [DV.agg [CS ((pn f word v).Kind),CL .bm (pn f word v).ae]])
 exact aH _
def aeR:=bB (α:=aA×BA×aZ) (qC (qA .cP) (qC qS (q1 (qA .bm)))) [.ro,.ro,.ro] (fun _=>[]) (fun(f,word,v)=>⟨[dA .cP (pn f word v)],[],[]⟩)
def ag':HH:=hF aeR func152 [] a0 fun x hp hb=>by
 obtain⟨f,word,v⟩:=x
 clear hp hb
 apply vE (Lf [DV.agg [CS f.Kind,CL .bm [{K:=(2:Int),N:=(0:Int),S:=word:aZ},v]]] [DV.agg [CS ((pn f word v).Kind),CL .bm (pn f word v).ae]])
 exact aH _
def afa:=bB (α:=aj) (q1 (qX .cz)) [.box true] (fun x=>[ey x,x.State=3\/x.State=5]) (fun x=>⟨[],[],[dX .cz (ru x)]⟩)
def ahE:HH:=hF afa func111 [agR,UB] a0 fun(x:aj) hp hb=>by
 have bD:ey x:=hp _ m0
 have gb:x.State=3\/x.State=5:=hp _ m1
 clear hp hb
 apply vE (let x1:={S:=x.S,av:=x.av,ai:=x.ai,ah:=x.ah,ao:=x.ao.take (x.ao.length-1),State:=x.State,ez:=x.ez:aj};let x0:=gX x1;L4 (bx x.ao)/\ey x1/\(x.State=3\/x.State=5)/\LM [] [] [DV.box (br x0)] [DV.box (br (ru x))])
 dsimp only
 have:=(wL bD.2.1).2.2
 exact⟨by omega,CV bD,gb,rfl,rfl,rfl⟩
def aeQ:=bB (α:=aj) (q1 (qX .cz)) [.box true] (fun x=>[ey x,x.State=3\/x.State=5]) (fun x=>⟨[],[],[dX .cz (ru x)]⟩)
def ag9:HH:=hF aeQ func153 [agu,Uz] a0 fun(x:aj) hp hb=>by
 have bD:ey x:=hp _ m0
 have gb:x.State=3\/x.State=5:=hp _ m1
 clear hp hb
 apply vE (let x1:={S:=x.S,av:=x.av,ai:=x.ai,ah:=x.ah,ao:=x.ao.take (x.ao.length-1),State:=x.State,ez:=x.ez:aj};let x0:=gX x1;L4 (bx x.ao)/\ey x1/\(x.State=3\/x.State=5)/\LM [] [] [DV.box (br x0)] [DV.box (br (ru x))])
 dsimp only
 have:=(wL bD.2.1).2.2
 exact⟨by omega,CV bD,gb,rfl,rfl,rfl⟩
def Ej:List bM->BA->aZ×Bool
 |[],_=>(gh,false)
 |b::l,n=>if b.Name=n then(b.V,true) else Ej l n
def sj(a:bU)(l:List bM):aZ×Bool:=if a.K=2 then(a.V,true) else if a.K=1 then Ej l a.S else(gh,false)
def P8(a b:aZ):Bool:=if a.K=b.K then(if a.N=b.N then Op.bytesLess a.S.toList b.S.toList else decide (a.N<b.N)) else decide (a.K<b.K)
def Xj(l:List bM)(c:bo):Bool:=(sj c.L l).2&&(sj c.R l).2&&(if c.Op=1 then decide ((sj c.L l).1=(sj c.R l).1) else if c.Op=2 then !decide ((sj c.L l).1=(sj c.R l).1) else if c.Op=3 then P8 (sj c.L l).1 (sj c.R l).1 else false)
def Qm(cs:List bo)(l:List bM):Bool:=cs.all (Xj l)
def Kp(out:List bM)(a:bU)(v:aZ):Option (List bM):=
 if a.K=2 then(if a.V=v then some out else none) else if a.K=1 then(if(Ej out a.S).2=true then(if(Ej out a.S).1=v then some out else none) else some (out++[⟨a.S,v⟩])) else some out
def CE:List bU->List aZ->List bM->Option (List bM)
 |[],_,out=>some out
 |a::al,v::vs,out=>match Kp out a v with|some o=>CE al vs o|none=>none
 |_::_,[],_=>none
def Mz(p:b8)(f:aA)(l:List bM):Option (List bM):=if f.Kind=p.Kind/\f.ae.length=p.aU.length then CE p.aU f.ae l else none
def ami(p:b8)(l:List bM)(x:bf):Bool:=(Mz p x.F l).isSome
def Yl(s:List bf)(l:List bM)(p:b8):Bool:=p.Not&&s.any (ami p l)
def N0(r:aM)(s:List bf)(l:List bM):Bool:=r.aG.any (Yl s l)
def abv(r:aM):List b8:=r.aG.filter fun p=> !p.Not
def R4(r:aM)(s:List bf):List b8->List Int->List bM->List aE
 |[],ids,l=>if(!N0 r s l&&Qm r.bO l)=true then[⟨0,ids,l⟩] else[]
 |p::ps,ids,l=>s.flatMap fun x=>match Mz p x.F l with|some more=>R4 r s ps (ids++[x.Id]) more|none=>[]
def LN(r:aM)(s:List bf)(ids:List Int)(l:List bM):List aE:=R4 r s ((abv r).drop ids.length) ids l
structure ajs(r:aM)(s:List bf)(n:Nat)(ids:List Int)(l:List bM):Prop where
 le:ids.length<=eg r.aG
 three:eg r.aG<=3
 L3:r.aG.length<=6
 args:∀p,p∈r.aG->p.aU.length<=5
 items:s.length<=40
 binds:l.length<=5*ids.length
 room:n+(LN r s ids l).length<=4294967295
def My(r:aM)(s:List bf):List aE:=LN r s [] []
def Z8(i:Int)(m:aE):aE:=⟨i,m.li,m.dV⟩
def amS(rs:List aM)(s:List bf)(n:Nat):List aE:=(List.range n).flatMap fun i=>(My (rs.getD i cO) s).map (Z8 i)
def allM(rs:List aM)(s:List bf):List aE:=amS rs s rs.length
structure VT(r:aM):Prop where
 three:eg r.aG<=3
 L3:r.aG.length<=6
 args:∀p,p∈r.aG->p.aU.length<=5
def X_(r:aM):Prop:=∀k,k<eg r.aG->r.aG.getD k e8=(abv r).getD k e8
theorem oM{α:Type}{l:List α}{z:α}{i:Nat}(h:i<l.length):l.getD i z∈l:=by
 rw[fY,gg h];exact Hu _
theorem xP:∀(ps:List b8),(∀i,i<ps.length->jA ps i=decide (eg ps<=i))->∀k,k<eg ps->ps.getD k e8=(ps.filter fun p=> !p.Not).getD k e8
 |[],_,k,hk=>by simp[eg] at hk
 |p::ps,h,k,hk=>by
  have h0:=h 0 (by simp)
  have e0:jA (p::ps) 0=p.Not:=rfl
  rw[e0,pE] at h0
  cases hp:p.Not with
  |true=>
   rw[hp] at h0
   have h0:=yT h0.symm
   rw[pE,hp] at hk
   simp only[if_true] at h0 hk;omega
  |false=>
   have ef:(p::ps).filter (fun p=> !p.Not)=p::ps.filter fun p=> !p.Not:=by rw[List.filter_cons,hp];rfl
   rw[ef]
   cases k with
   |zero=>rfl
   |succ k=>
    rw[pE,hp] at hk
    refine xP ps (fun i hi=> ?_) k (by simp only[wE,if_false] at hk;omega)
    have:=h (i+1) (by simpa using hi)
    rw[pE,hp] at this
    show jA ps i=_
    refine(show jA ps i=jA (p::ps) (i+1) from rfl).trans (this.trans ?_)
    rw[decide_eq_decide];simp only[wE,if_false];omega
theorem HP{r:aM}(h:jK r=true):VT r/\X_ r:=by
 simp only[jK,eE] at h
 have hp:j8 r.aG=true:=by rw[ue];exact h.1.1.2
 simp only[j8,eE,decide_eq_true_eq,j6,m_,kg,beq_iff_eq] at hp
 obtain⟨⟨h1,h2⟩,h3⟩:=hp
 refine⟨⟨h2.2,h1.2,fun p hp=> ?_⟩,fun k hk=>xP r.aG (fun i hi=>(h3 i hi).2) k hk⟩
 obtain⟨j,hj,rfl⟩:=tX hp
 have:=(h3 j hj).1.1.2
 rwa[fY,gg hj] at this
theorem Pe{d:cr}{m:aE}(h:kO d=true)(h2:pQ d m=true):jK (d.aT.getD m.gF.toNat cO)=true:=by
 obtain⟨r1,r2⟩:=vp h2
 simp only[kO,eE,j6] at h
 have:=h.2 m.gF.toNat (by omega)
 simp only[kw,eE] at this
 exact this.1
def ij(now:Int)(l:List ap):List ap:=l.filter fun x=>decide (x.At<=now)
def AJ(now:Int)(l:List ap):List ap:=l.filter fun x=> !decide (x.At<=now)
theorem oO{α:Type}(p:α->Bool)(l:List α)(z:α){i:Int}(h1:0<=i)(h2:i<l.length):
  (l.take (i+1).toNat).filter p=(l.take i.toNat).filter p++(if p (l.getD i.toNat z) then[l.getD i.toNat z] else[]):=by
 rw[<-dW l z h1 h2,List.filter_append]
 congr 1
 simp only[List.filter_cons,List.filter_nil]
theorem mr{α:Type}(p:α->Bool)(l:List α)(n:Nat):((l.take n).filter p).length<=n:=
 BU (O1 _ _) (by simp;omega)
def acZ:=bB (α:=(List ap)×Int) (qC (qL .ax) (q1 qI)) [.ro,.ro] (fun(l,now)=>[L4 (ca l)]) (fun(l,now)=>⟨[dL .ax (ij now l),dL .ax (AJ now l)],[],[]⟩)
def BQ(l:List ap)(now:Int):(List ap×(Nat->Bool))×Int×List ap×List ap×Unit->Prop:=fun((xs,dd),i,due,WK,_)=>0<=i/\i<=l.length/\l=xs/\(∀j,i.toNat<=j->dd j=false)/\due=ij now (l.take i.toNat)/\WK=AJ now (l.take i.toNat)
def uF(l:List ap)(now:Int):(List ap×(Nat->Bool))×Int×List ap×List ap×Unit->Nat:=fun((xs,dd),i,due,WK,_)=>l.length-i.toNat
def ao2:AX acZ:=fun(l,now)=>bh [(5,aB [.slot 8 (8,1024) (.part .ax),iI 9,iO 6 .ax,iO 7 .ax] (fun _=>BQ l now) (uF l now))]
def anT:HH:=hF acZ func80 [afl] ao2 fun x hp hb=>by
 obtain⟨l,now⟩:=x
 have bD:ca l<=4294967296:=hp _ m0
 clear hp hb
 apply vE (ca l<=4294967296/\BQ l now ((l,fun(x:Nat)=>false),0,[],[],())/\∀(y:(List ap×(Nat->Bool))×Int×List ap×List ap×PUnit),let x1:=y.2.1.toNat;let x2:=wrap i64 (y.2.1+1);let x5:=y.fst.1.getD x1 cD;let x6:=y.fst.1.length;let x0:=[x5];let x3:=x5.At;let x4:=(↑x6:Int);BQ l now y->bif decide (y.2.1<x4) then 0<=y.2.1/\x1<x6/\x1<x6/\y.fst.2 x1=false/\bif decide (x3<=now) then 0<=y.2.1/\x1<x6/\x1<x6/\y.fst.2 x1=false/\L4 (y.2.2.1.length+x0.length)/\BQ l now ((y.fst.1,fun(j:Nat)=>Nat.beq j x1||y.fst.2 j),x2,y.2.2.1++x0,y.2.2.2.1,())/\uF l now ((y.fst.1,fun(j:Nat)=>Nat.beq j x1||y.fst.2 j),x2,y.2.2.1++x0,y.2.2.2.1,())<uF l now y else 0<=y.2.1/\x1<x6/\x1<x6/\y.fst.2 x1=false/\L4 (y.2.2.2.1.length+x0.length)/\BQ l now ((y.fst.1,fun(j:Nat)=>Nat.beq j x1||y.fst.2 j),x2,y.2.2.1,y.2.2.2.1++x0,())/\uF l now ((y.fst.1,fun(j:Nat)=>Nat.beq j x1||y.fst.2 j),x2,y.2.2.1,y.2.2.2.1++x0,())<uF l now y else Lf [VL .ax y.2.2.1,VL .ax y.2.2.2.1] [VL .ax (ij now l),VL .ax (AJ now l)])
 dsimp only
 refine⟨bD,⟨by omega,by omega,rfl,fun _ _=>rfl,rfl,rfl⟩,?_⟩
 rintro⟨⟨xs,dd⟩,i,due,WK,⟨⟩⟩ ⟨h1,h2,rfl,hd,rfl,rfl⟩
 simp only
 refine aa ?_ ?_<;>intro hc
 ·have hc:=yT hc
  have fX:i.toNat<l.length:=by omega
  have D8:=hd i.toNat (tB _)
  have hl:l.length<=4294967296:=by simp only[ca] at bD;omega
  have hw:IntKind.i64.wrap (i+1)=i+1:=wi
  have g1:=oO (fun x:ap=>decide (x.At<=now)) l cD h1 hc
  have g2:=oO (fun x:ap=> !decide (x.At<=now)) l cD h1 hc
  have e1:(ij now (l.take i.toNat)).length<=i.toNat:=mr _ _ _
  have e2:(AJ now (l.take i.toNat)).length<=i.toNat:=mr _ _ _
  have jU:∀j,(i+1).toNat<=j->(Nat.beq j i.toNat||dd j)=false:=fun j hj=>by
   rw[hd j (by omega),O0,<-uK,FF];omega
  rw[hw]
  refine⟨h1,fX,fX,D8,aa (fun ha=> ?_) (fun ha=> ?_)⟩
  ·refine⟨h1,fX,fX,D8,by simp;omega,⟨by omega,by omega,rfl,jU,?_,?_⟩,by simp only[uF];omega⟩
   ·show _=List.filter _ _
    rw[g1,if_pos ha];rfl
   ·show _=List.filter _ _
    rw[g2,if_neg (by rw[ha];decide),tV];rfl
  ·refine⟨h1,fX,fX,D8,by simp;omega,⟨by omega,by omega,rfl,jU,?_,?_⟩,by simp only[uF];omega⟩
   ·show _=List.filter _ _
    rw[g1,if_neg (by rw[ha];decide),tV];rfl
   ·show _=List.filter _ _
    rw[g2,if_pos (by rw[ha];decide)];rfl
 ·have hc:=yF hc
  rw[cT l (by omega)]
  exact aH _
def Um:=bB (α:=(List ap)×Int) (qC (qL .ax) (q1 qI)) [.ro,.ro] (fun(l,now)=>[L4 (ca l)]) (fun(l,now)=>⟨[dL .ax (ij now l),dL .ax (AJ now l)],[],[]⟩)
def wz(l:List ap)(now:Int):(List ap×(Nat->Bool))×Int×List ap×List ap×Unit->Prop:=fun((xs,dd),i,due,WK,_)=>0<=i/\i<=l.length/\l=xs/\(∀j,i.toNat<=j->dd j=false)/\due=ij now (l.take i.toNat)/\WK=AJ now (l.take i.toNat)
def rb(l:List ap)(now:Int):(List ap×(Nat->Bool))×Int×List ap×List ap×Unit->Nat:=fun((xs,dd),i,due,WK,_)=>l.length-i.toNat
def ai8:AX Um:=fun(l,now)=>bh [(3,aB [.slot 11 (11,1024) (.part .ax),iI 13,iO 6 .ax,iO 7 .ax] (fun _=>wz l now) (rb l now))]
def ahJ:HH:=hF Um func106 [afi] ai8 fun x hp hb=>by
 obtain⟨l,now⟩:=x
 have la:L9 l.length:=eY (hb _ m0)
 have pf:=iK (n:=now) (hb _ m1)
 have bD:ca l<=4294967296:=hp _ m0
 clear hp hb
 apply vE (ca l<=4294967296/\wz l now ((l,fun(x:Nat)=>false),0,[],[],())/\∀(y:(List ap×(Nat->Bool))×Int×List ap×List ap×PUnit),let x1:=y.2.1.toNat;let x2:=wrap i64 (y.2.1+1);let x4:=y.fst.1.getD x1 cD;let x0:=[x4];let x3:=x4.At;wz l now y->bif decide (y.2.1<(l.length:Int)) then 0<=y.2.1/\x1<y.fst.1.length/\x1<y.fst.1.length/\y.fst.2 x1=false/\bif decide (x3<=now) then L4 (y.2.2.1.length+x0.length)/\wz l now ((y.fst.1,fun(j:Nat)=>Nat.beq j x1||y.fst.2 j),x2,y.2.2.1++x0,y.2.2.2.1,())/\rb l now ((y.fst.1,fun(j:Nat)=>Nat.beq j x1||y.fst.2 j),x2,y.2.2.1++x0,y.2.2.2.1,())<rb l now y else L4 (y.2.2.2.1.length+x0.length)/\wz l now ((y.fst.1,fun(j:Nat)=>Nat.beq j x1||y.fst.2 j),x2,y.2.2.1,y.2.2.2.1++x0,())/\rb l now ((y.fst.1,fun(j:Nat)=>Nat.beq j x1||y.fst.2 j),x2,y.2.2.1,y.2.2.2.1++x0,())<rb l now y else Lf [VL .ax y.2.2.1,VL .ax y.2.2.2.1] [VL .ax (ij now l),VL .ax (AJ now l)])
 dsimp only
 refine⟨bD,⟨by omega,by omega,rfl,fun _ _=>rfl,rfl,rfl⟩,?_⟩
 rintro⟨⟨xs,dd⟩,i,due,WK,⟨⟩⟩ ⟨h1,h2,rfl,hd,rfl,rfl⟩
 simp only
 refine aa ?_ ?_<;>intro hc
 ·have hc:=yT hc
  have fX:i.toNat<l.length:=by omega
  have D8:=hd i.toNat (tB _)
  have hl:l.length<=4294967296:=by simp only[ca] at bD;omega
  have hw:IntKind.i64.wrap (i+1)=i+1:=wi
  have g1:=oO (fun x:ap=>decide (x.At<=now)) l cD h1 hc
  have g2:=oO (fun x:ap=> !decide (x.At<=now)) l cD h1 hc
  have e1:(ij now (l.take i.toNat)).length<=i.toNat:=mr _ _ _
  have e2:(AJ now (l.take i.toNat)).length<=i.toNat:=mr _ _ _
  have jU:∀j,(i+1).toNat<=j->(Nat.beq j i.toNat||dd j)=false:=fun j hj=>by
   rw[hd j (by omega),O0,<-uK,FF];omega
  rw[hw]
  refine⟨h1,fX,fX,D8,aa (fun ha=> ?_) (fun ha=> ?_)⟩
  ·refine⟨by simp;omega,⟨by omega,by omega,rfl,jU,?_,?_⟩,by simp only[rb];omega⟩
   ·show _=List.filter _ _
    rw[g1,if_pos ha];rfl
   ·show _=List.filter _ _
    rw[g2,if_neg (by rw[ha];decide),tV];rfl
  ·refine⟨by simp;omega,⟨by omega,by omega,rfl,jU,?_,?_⟩,by simp only[rb];omega⟩
   ·show _=List.filter _ _
    rw[g1,if_neg (by rw[ha];decide),tV];rfl
   ·show _=List.filter _ _
    rw[g2,if_pos (by rw[ha];decide)];rfl
 ·have hc:=yF hc
  rw[cT l (by omega)]
  exact aH _
structure cd where
 b:List Int
 i:Int
 h:Int
def al1(h:Int)(x:Int):Int:=IntKind.wrap .i64 (((BitVec.ofInt (IntKind.bits .i64) (IntKind.wrap .i64 (IntKind.wrap .i64 (IntKind.wrap .i64 (h*137)+IntKind.wrap .i64 x)+11))&&&BitVec.ofInt (IntKind.bits .i64) 1073741823).toNat:Nat):Int)
def Z6(code:List Int):Int:=(code.take 4000).foldl al1 (354354+code.length)
def Mu(code:List Int):cd:=⟨code,0,Z6 code⟩
def Mt(h:Int):Int:=IntKind.wrap .i64 (IntKind.wrap .i64 (h*6364136223846793005)+1442695040888963407)
def N9(x:Int):Int:=IntKind.wrap .i64 (((BitVec.ofInt (IntKind.bits .i64) x&&&BitVec.ofInt (IntKind.bits .i64) 255).toNat:Nat):Int)
def abB(h:Int):Int:=N9 (IntKind.wrap .i64 (((BitVec.ofInt (IntKind.bits .i64) (Int.fdiv h ((2:Int)^min (Int.toNat 33) (IntKind.bits .i64)))^^^BitVec.ofInt (IntKind.bits .i64) (Int.fdiv h ((2:Int)^min (Int.toNat 47) (IntKind.bits .i64)))).toNat:Nat):Int))
def Jz(c:cd):Int:=if c.i<c.b.length then N9 (IntKind.wrap .i64 (abB (Mt c.h)+IntKind.wrap .i64 (c.b.getD c.i.toNat 0))) else abB (Mt c.h)
def BG(c:cd):cd:=⟨c.b,if c.i<c.b.length then c.i+1 else c.i,Mt c.h⟩
def iX(c:cd)(n:Int):Int:=if n<=0 then 0 else if n<=256 then Int.tmod (Jz c) n else Int.tmod (Jz c*65536+Jz (BG c)*256+Jz (BG (BG c))) n
def ck(c:cd)(n:Int):cd:=if n<=0 then c else if n<=256 then BG c else BG (BG (BG c))
def mG(c:cd)(n:Int):Bool:=decide (iX c n=0)
def Ay(c:cd)(l:List BA):BA:=l.getD (iX c l.length).toNat ak
def tC(c:cd)(l:List BA):cd:=ck c l.length
def WV(c:cd)(l:List Int):Int:=l.getD (iX c l.length).toNat 0
def Ia(c:cd)(l:List Int):cd:=ck c l.length
def Jd:List BA:=[⟨#[97]⟩,⟨#[98]⟩]
def HO(c:cd):aZ:=if mG c 2 then⟨1,1+iX (ck c 2) 3,ak⟩ else⟨2,0,Ay (ck c 2) Jd⟩
def Dx(c:cd):cd:=if mG c 2 then ck (ck c 2) 3 else tC (ck c 2) Jd
def nH:List BA:=[⟨#[111,114,100,101,114]⟩,⟨#[112,97,105,100]⟩,⟨#[105,116,101,109]⟩,⟨#[111,114,100,101,114]⟩]
def N7:BA:=⟨#[105,116,101,109]⟩
def I':Nat->List aZ->cd->List aZ
 |0,l,_=>l
 |k+1,l,c=>I' k (l++[HO c]) (Dx c)
def I_:Nat->cd->cd
 |0,c=>c
 |k+1,c=>I_ k (Dx c)
def SI(c:cd):Int:=if mG (tC c nH) 12 then iX (ck (tC c nH) 12) 6 else if Ay c nH=N7 then 2 else 1
def SJ(c:cd):cd:=if mG (tC c nH) 12 then ck (ck (tC c nH) 12) 6 else ck (tC c nH) 12
def SH(c:cd):aA:=⟨Ay c nH,I' (SI c).toNat [] (SJ c)⟩
def SK(c:cd):cd:=I_ (SI c).toNat (SJ c)
theorem Jb(now:Int)(t:ag):(dE now t).F=t.F:=by unfold dE;split;split<;>rfl;rfl
theorem LG{now:Int}(h0:0<=now)(h1:now<=1000000000)(t:ag)(h:gj t=true):gj (dE now t)=true:=by
 obtain⟨a1,a2,a3,a4,a5,a6,a7⟩:=jc.1 h
 unfold dE;split
 ·split
  ·exact jc.2 ⟨a1,a2,by simp,a4,a5,a6,by simp⟩
  ·have hb:=uz (t.bg+1)
   exact jc.2 ⟨a1,a2,by simp,by simp only;omega,by simp only;omega,a6,by simp only;omega⟩
 ·exact h
theorem uT{l:List ag}{now:Int}(h0:0<=now)(h1:now<=1000000000)(h:aO l=true):aO (l.map (dE now))=true:=xx (Jb now) (LG h0 h1) h
theorem rP{s:az}:bP s=true↔(1<=s.Next/\s.Next<=1000000)/\s.ab.length<=40/\(∀x∈s.ab,cg x.F=true/\1<=x.Id/\x.Id<s.Next)/\s.ab.Pairwise (fun a b=>a.Id<b.Id/\a.F≠b.F):=by
 have hg:∀{i:Nat}(h:i<s.ab.length),s.ab.getD i a_=s.ab[i]:=fun{i} h=>by rw[fY,gg h];rfl
 simp only[bP,eE,decide_eq_true_eq,<-Az,and_assoc]
 refine and_congr_right fun _=>and_congr_right fun _=>and_congr_right fun _=> ?_
 rw[j6]
 constructor
 ·intro h
  have hb:∀i,i<s.ab.length->jo s i=true:=fun i hi=>by
   have:=h i hi
   simp only[iH,eE] at this
   exact this.1
  refine⟨fun t ht=> ?_,?_⟩
  ·obtain⟨i,hi,rfl⟩:=tX ht
   have:=hb i hi
   simp only[jo,eE,decide_eq_true_eq] at this
   rw[<-hg hi];exact⟨this.1.1.1,this.1.1.2,this.1.2⟩
  ·rw[RT]
   intro i j hi hj BZ
   refine⟨by have:=Hg hb i j BZ hj;rw[hg hi,hg hj] at this;exact this,fun e=> ?_⟩
   have:=h j hj
   simp only[iH,eE,rj] at this
   have:=yF (mT.1 this.2 i BZ)
   rw[hg hi,hg hj] at this
   exact this e.symm
 ·rintro⟨h1,h2⟩ j hj
  rw[RT] at h2
  obtain⟨q1,q2,q3⟩:=h1 _ (Hu hj)
  simp only[iH,jo,eE,rj,decide_eq_true_eq,Bool.and_eq_false_iff,decide_eq_false_iff_not]
  refine⟨⟨⟨⟨by rw[hg hj];exact q1,by rw[hg hj];exact q2⟩,by rw[hg hj];exact q3⟩,?_⟩,mT.2 fun i BZ=>decide_eq_false fun e=> ?_⟩
  ·by_cases h0:0<j
   ·right
    have:=(h2 (j-1) j (by omega) hj (by omega)).1
    rw[hg hj,hg (show j-1<s.ab.length by omega)];omega
   ·exact .inl h0
  ·have hi:i<s.ab.length:=by omega
   rw[hg hi,hg hj] at e
   exact(h2 i j hi hj BZ).2 e.symm
theorem Kz{s:az}(h:bP s=true){f:aA}(h0:lK s.ab f=0):∀x∈s.ab,x.F≠f:=by
 intro x hx e
 obtain⟨i,hi,rfl⟩:=tX hx
 rcases jh s.ab.length (fun k=>decide ((s.ab.getD k a_).F=f)) with⟨_,h2⟩|⟨m,g1,g2,_,_⟩
 ·have:=yF (h2 i hi)
  rw[fY,gg hi] at this
  exact this e
 ·have e2:Cg s.ab f=m:=g2
  rw[lK,e2,if_neg (by omega)] at h0
  have:=(mD h).2.2.2 (s.ab.getD m a_) (oM g1)
  rw[UM] at h0
  omega
theorem AA{s:az}(h:bP s=true){f:aA}(hf:cg f=true):bP (bE s f).1=true:=by
 unfold bE
 split
 ·exact h
 ·rename_i h0
  split
  ·exact h
  ·rename_i h1
   have hn:=Kz h (f:=f) (Decidable.not_not.1 h0)
   obtain⟨g1,g2,g3,g4⟩:=rP.1 h
   refine rP.2 ⟨⟨by show 1<=s.Next+1;omega,by show s.Next+1<=1000000;omega⟩,by simp only[wG,n_,om];omega,fun x hx=> ?_,?_⟩
   ·show _/\_/\_<s.Next+1
    rcases kA.1 hx with hx|hx
    ·obtain⟨a,b,c⟩:=g3 x hx;exact⟨a,b,by omega⟩
    ·rw[oa.1 hx];exact⟨hf,g1.1,by show s.Next<s.Next+1;omega⟩
   ·rw[List.pairwise_append]
    refine⟨g4,List.pairwise_singleton _ _,fun a ha b hb=> ?_⟩
    rw[oa.1 hb]
    exact⟨(g3 a ha).2.2,hn a ha⟩
theorem CT{l:List bf}{id:Int}:ko l id=true↔∃x∈l,x.Id=id:=by
 simp only[ko,vR,decide_eq_true_eq]
 constructor
 ·rintro⟨j,hj,h⟩;exact⟨_,oM hj,h⟩
 ·rintro⟨x,hx,h⟩
  obtain⟨i,hi,rfl⟩:=tX hx
  exact⟨i,hi,by rw[fY,gg hi];exact h⟩
theorem Ea{s:az}{f:aA}{id:Int}(h:ko s.ab id=true):ko (bE s f).1.ab id=true:=by
 unfold bE
 split
 ·exact h
 ·split
  ·exact h
  ·obtain⟨x,hx,e⟩:=CT.1 h
   exact CT.2 ⟨x,pw _ hx,e⟩
structure coreX(d:cr)(x:aj):Prop where
 BD:kO d=true
 store:bP x.S=true
 kB:aO x.ai=true
 timers:dx x.ah=true
 rl:eV x.ao=true
 now:0<=x.ez/\x.ez<=1000000000
 NL:x.av.length<=1000
 sg:∀m∈x.av,jj d x.S.ab m=true
structure iv(d:cr)(x:aj):Prop extends coreX d x where
 state:1<=x.State/\x.State<=6
 ended:x.State=2\/x.State=4\/x.State=6->nO x.ai=false/\x.ah=[]
 I4:x.State=3\/x.State=5->x.ao≠[]
theorem wQ{d:cr}{x:aj}:instOk d x=true↔iv d x:=by
 have e1:(!(Bv x&&(nO x.ai||decide (0<x.ah.length))))=true↔(x.State=2\/x.State=4\/x.State=6->nO x.ai=false/\x.ah=[]):=by
  simp only[Bv]
  by_cases h:x.State=2\/x.State=4\/x.State=6
  ·rw[decide_eq_true h,B4,rj,Ld,decide_eq_false_iff_not]
   exact⟨fun g _=>⟨g.1,Du (by omega)⟩,fun g=>⟨(g h).1,by rw[(g h).2];simp⟩⟩
  ·rw[decide_eq_false h];exact⟨fun _ g=>absurd g h,fun _=>rfl⟩
 have e2:(!lq x||decide (0<x.ao.length))=true↔(x.State=3\/x.State=5->x.ao≠[]):=by
  simp only[lq,B3,rj,Ld,decide_eq_false_iff_not,decide_eq_true_eq]
  constructor
  ·rintro(g|g) h e
   ·rcases h with h|h
    ·exact g.1 h
    ·exact g.2 h
   ·rw[e] at g;simp at g
  ·intro g
   by_cases h:x.State=3\/x.State=5
   ·exact .inr (List.length_pos_iff.2 (g h))
   ·exact .inl ⟨fun e=>h (.inl e),fun e=>h (.inr e)⟩
 rw[instOk,eE,eE,e1,e2]
 simp only[ii,eE,decide_eq_true_eq,As]
 constructor
 ·rintro⟨⟨⟨⟨⟨⟨⟨⟨⟨h1,h2⟩,h3⟩,h4⟩,h5⟩,h6⟩,h7⟩,h8,h9⟩,ph⟩,h11⟩
  exact⟨⟨h1,h2,h3,h4,h5,h7,h8,h9⟩,h6,ph,h11⟩
 ·rintro⟨⟨h1,h2,h3,h4,h5,h7,h8,h9⟩,h6,ph,h11⟩
  exact⟨⟨⟨⟨⟨⟨⟨⟨⟨h1,h2⟩,h3⟩,h4⟩,h5⟩,h6⟩,h7⟩,h8,h9⟩,ph⟩,h11⟩
theorem coreX.good{d:cr}{x:aj}(h:coreX d x):ey x:=⟨h.kB,h.rl,h.now⟩
theorem Gk(l:List ag):nO (giveUp l)=false:=by
 refine gr fun j hj=> ?_
 have hm:=oM (z:=aq) hj
 obtain⟨t,_,e⟩:=lH.1 hm
 rw[<-e]
 simp only[iR,fF]
 split
 ·simp
 ·rename_i h;exact decide_eq_false h
theorem J8{d:cr}{x:aj}(h:coreX d x){st:Int}(hs:st=2\/st=4\/st=6):iv d (ux x st):=
 ⟨⟨h.BD,h.store,nG h.kB,rfl,h.rl,h.now,h.NL,h.sg⟩,by show 1<=st/\st<=6;omega,fun _=>⟨Gk _,rfl⟩,fun g=>by have g:st=3\/st=5:=g;omega⟩
theorem xy{d:cr}{x:aj}(h:coreX d x)(hs:x.State=3\/x.State=5):iv d (gX x):=by
 unfold gX
 split
 ·exact J8 h (by split<;>omega)
 ·rename_i hu
  exact⟨⟨h.BD,h.store,Aw h.good hu,h.timers,h.rl,h.now,h.NL,h.sg⟩,by show 1<=x.State/\x.State<=6;omega,fun g=>by have g:x.State=2\/x.State=4\/x.State=6:=g;omega,fun _=>hu⟩
theorem NW{d:cr}{x:aj}(h:coreX d x)(st:Int):coreX d (ux x st):=⟨h.BD,h.store,nG h.kB,rfl,h.rl,h.now,h.NL,h.sg⟩
theorem HQ{d:cr}{x:aj}(h:coreX d x){st:Int}(hs:st=3\/st=5):iv d (nf x st):=xy (NW h st) hs
theorem qb{d:cr}{x:aj}(h:coreX d x)(hs:x.State=3\/x.State=5):iv d (ru x):=
 xy ⟨h.BD,h.store,h.kB,h.timers,uP _ h.rl,h.now,h.NL,h.sg⟩ hs
theorem sF{d:cr}{x:aj}(h:coreX d x)(hs:x.State=1):iv d x:=⟨h,by omega,fun g=>by omega,fun g=>by omega⟩
theorem GN{d:cr}{x:aj}(h:coreX d x){f:aA}(hf:cg f=true):coreX d (Ct x (bE x.S f).1):=
 ⟨h.BD,AA h.store hf,h.kB,h.timers,h.rl,h.now,h.NL,fun m hm=>by
  have:=h.sg m hm
  simp only[jj,eE,As] at this⊢
  exact⟨this.1,fun i hi=>Ea (this.2 i hi)⟩⟩
theorem jL{d:cr}{x:aj}(h:coreX d x)(hs:x.State=1){f:aA}(hf:cg f=true):iv d (fx x f):=by
 unfold fx
 split
 ·exact HQ h (.inl rfl)
 ·exact sF (GN h hf) hs
theorem p8{l:List ap}:dx l=true↔l.length<=30/\(∀t∈l,iD t=true)/\l.Pairwise (fun a b=>a.At<=b.At):=by
 have hg:∀{i:Nat}(h:i<l.length),l.getD i cD=l[i]:=fun{i} h=>by rw[fY,gg h];rfl
 simp only[dx,eE,decide_eq_true_eq]
 refine and_congr_right fun _=> ?_
 rw[j6]
 constructor
 ·intro h
  refine⟨fun t ht=> ?_,?_⟩
  ·obtain⟨i,hi,rfl⟩:=tX ht
   have:=h i hi
   simp only[jb,eE] at this
   rw[<-hg hi];exact this.1
  ·have step:∀i (hi:i+1<l.length),l[i].At<=l[i+1].At:=fun i hi=>by
    have:=h (i+1) hi
    simp only[jb,eE,B3,decide_eq_true_eq,Nat.add_sub_cancel] at this
    rw[hg hi,hg (by omega)] at this
    rcases this.2 with h0|h0
    ·omega
    ·exact h0
   rw[RT]
   intro i j hi hj BZ
   obtain⟨k,rfl⟩:∃k,j=i+1+k:=⟨j-i-1,by omega⟩
   clear BZ
   induction k with
   |zero=>exact step i hj
   |succ k ih=>exact Int.le_trans (ih (by omega)) (step (i+1+k) hj)
 ·rintro⟨h1,h2⟩ j hj
  simp only[jb,eE,B3,decide_eq_true_eq]
  refine⟨by rw[hg hj];exact h1 _ (Hu hj),?_⟩
  by_cases h0:j=0
  ·exact .inl h0
  ·right
   rw[RT] at h2
   rw[hg hj,hg (show j-1<l.length by omega)]
   exact h2 (j-1) j (by omega) hj (by omega)
theorem pa{l:List ap}(p:ap->Bool)(h:dx l=true):dx (l.filter p)=true:=by
 rw[p8] at h⊢
 exact⟨BU (O1 _ _) h.1,fun t ht=>h.2.1 t (BW.1 ht).1,h.2.2.filter p⟩
def I2(x:aj)(n:Int):aj:=⟨x.S,x.av,x.ai,x.ah,x.ao,x.State,n⟩
def R3:List BA:=[⟨#[88]⟩,⟨#[89]⟩,⟨#[90]⟩,⟨#[88]⟩]
def Z7:List BA:=[⟨#[88]⟩,⟨#[89]⟩]
def amP(c:cd):bU:=if iX c 6=0 then⟨3,ak,gh⟩ else if iX c 6=1 then⟨2,ak,HO (ck c 6)⟩ else⟨1,Ay (ck c 6) R3,gh⟩
def SP(c:cd):cd:=if iX c 6=0 then ck c 6 else if iX c 6=1 then Dx (ck c 6) else tC (ck c 6) R3
def FR(c:cd):bU:=if mG c 3=true then⟨2,ak,HO (ck c 3)⟩ else⟨1,Ay (ck c 3) Z7,gh⟩
def pb(c:cd):cd:=if mG c 3=true then Dx (ck c 3) else tC (ck c 3) Z7
def Gp{α:Type}(f:cd->α)(g:cd->cd):Nat->List α->cd->List α
 |0,l,_=>l
 |k+1,l,c=>Gp f g k (l++[f c]) (g c)
def CH(g:cd->cd):Nat->cd->cd
 |0,c=>c
 |k+1,c=>CH g k (g c)
def abw(c:cd):Int:=if Ay c nH=N7 then 2 else 1
def abx(not:Bool)(c:cd):b8:=⟨Ay c nH,Gp amP SP (abw c).toNat [] (tC c nH),not⟩
def L5(c:cd):cd:=CH SP (abw c).toNat (tC c nH)
def aci(c:cd):bo:=⟨1+iX c 3,FR (ck c 3),FR (pb (ck c 3))⟩
def Yi(c:cd):cd:=pb (pb (ck c 3))
def VX:List BA:=[⟨#[43]⟩,⟨#[45]⟩]
def aca(c:cd):bC:=if mG (pb c) 4=true then⟨Ay (ck (pb c) 4) VX,FR c,FR (tC (ck (pb c) 4) VX)⟩ else⟨ak,FR c,np⟩
def NN(c:cd):cd:=if mG (pb c) 4=true then pb (tC (ck (pb c) 4) VX) else ck (pb c) 4
def CJ:List Int:=[1,1,2,3,3,4,5,6]
def LH:List BA:=[⟨#[111,114,100,101,114]⟩,⟨#[112,97,105,100]⟩,⟨#[105,116,101,109]⟩,⟨#[115,104,105,112]⟩,⟨#[99,104,97,114,103,101]⟩]
def MY:List Int:=[0,1,5,100000]
def Jc:List BA:=[⟨#[114,101,102,117,110,100]⟩,⟨#[99,97,110,99,101,108]⟩]
def xh(c:cd):Int:=WV c CJ
def JL(c:cd):BA:=Ay (Ia c CJ) LH
def SQ(c:cd):cd:=tC (Ia c CJ) LH
def aco(c:cd):Int:=if JL c=N7 then 2 else 1
def acr(c:cd):List bC:=Gp aca NN (aco c).toNat [] (SQ c)
def Oc(c:cd):cd:=CH NN (aco c).toNat (SQ c)
def Dm(c:cd):cd:=if xh c=4 then Ia (Oc c) MY else Oc c
def amU(c:cd):Int:=if xh c=4 then WV (Oc c) MY else 0
def amT(c:cd):BA:=if xh c=3/\mG (Dm c) 2=true then Ay (ck (Dm c) 2) Jc else ak
def acq(c:cd):cd:=if xh c=3 then(if mG (Dm c) 2=true then tC (ck (Dm c) 2) Jc else ck (Dm c) 2) else Dm c
def amV(L3:Int)(c:cd):cC:=if xh c=2 then⟨xh c,ak,[],iX (Ia c CJ) L3,ak⟩ else if xh c=5\/xh c=6 then⟨xh c,ak,[],0,ak⟩ else⟨xh c,JL c,acr c,amU c,amT c⟩
def acp(L3:Int)(c:cd):cd:=if xh c=2 then ck (Ia c CJ) L3 else if xh c=5\/xh c=6 then Ia c CJ else acq c
def QP(vars:List BA)(a:bU):bU:=if fD vars a=true then a else if vars.length=0 then⟨2,ak,⟨1,1,ak⟩⟩ else⟨1,vars.getD 0 ak,gh⟩
def amA(vars:List BA)(x:bo):bo:=⟨x.Op,QP vars x.L,QP vars x.R⟩
def amz(vars:List BA)(e:bC):bC:=⟨e.Op,QP vars e.L,if e.Op=ak then e.R else QP vars e.R⟩
def amB(vars:List BA)(a:cC):cC:=⟨a.Kind,a.Name,a.aU.map (amz vars),a.N,a.cq⟩
def R_:List Int:=[0,0,5,-5,100]
def aad(c:cd):cd:=Ia c R_
def ruN(c:cd):Int:=1+iX (aad c) 3
def aac(c:cd):cd:=ck (aad c) 3
def Z'(c:cd):List b8:=Gp (abx false) L5 (ruN c).toNat [] (aac c)
def V2(c:cd):cd:=CH L5 (ruN c).toNat (aac c)
def V1(c:cd):cd:=ck (V2 c) 3
def Dy(c:cd):List b8:=if mG (V2 c) 3=true then Z' c++[abx true (V1 c)] else Z' c
def V0(c:cd):cd:=if mG (V2 c) 3=true then L5 (V1 c) else V1 c
def LJ(c:cd):List BA:=dM (Dy c)
def VZ(c:cd):cd:=ck (V0 c) 3
def Pf(c:cd):List bo:=if mG (V0 c) 3=true then[amA (LJ c) (aci (VZ c))] else[]
def aab(c:cd):cd:=if mG (V0 c) 3=true then Yi (VZ c) else VZ c
def ruM(c:cd):Int:=1+iX (aab c) 3
def aaa(c:cd):cd:=ck (aab c) 3
def aae(c:cd)(d:cd):cC:=amB (LJ c) (amV (eg (Dy c)) d)
def LL(c:cd)(d:cd):cd:=acp (eg (Dy c)) d
def V3(c:cd):List cC:=Gp (aae c) (LL c) (ruM c).toNat [] (aaa c)
def Z_(c:cd):cd:=CH (LL c) (ruM c).toNat (aaa c)
def Z9(name:BA)(c:cd):aM:=⟨name,WV c R_,Dy c,Pf c,V3 c⟩
def VW:List BA:=[⟨#[114,49]⟩,⟨#[114,50]⟩,⟨#[114,51]⟩,⟨#[114,52]⟩]
def LI:List BA:=[⟨#[102,108,111,119]⟩,⟨#[115,104,105,112]⟩,⟨#[120]⟩]
def ace:Nat->Nat->List aM->cd->List aM
 |0,_,l,_=>l
 |k+1,i,l,c=>if(i:Int)<1+iX c 4 then ace k (i+1) (l++[Z9 (VW.getD i ak) (ck c 4)]) (Z_ (ck c 4)) else l
def acg:Nat->Nat->cd->cd
 |0,_,c=>ck c 4
 |k+1,i,c=>if(i:Int)<1+iX c 4 then acg k (i+1) (Z_ (ck c 4)) else ck c 4
def amE(c:cd):cr:=⟨Ay c LI,ace 4 0 [] (tC c LI)⟩
def acf(c:cd):cd:=acg 4 0 (tC c LI)
def JI(s:az)(f:aA):az:=if 0<lK s.ab f then s else⟨s.ab++[⟨s.Next,f⟩],s.Next+1⟩
def abz(id:Int)(x:bf):Bool:= !decide (x.Id=id)
def SL(s:az)(id:Int):az:=⟨s.ab.filter (abz id),s.Next⟩
def HN:Nat->az->cd->az
 |0,s,_=>s
 |k+1,s,c=>if mG c 5=true/\0<s.ab.length then HN k (SL s (s.ab.getD (iX (ck c 5) s.ab.length).toNat a_).Id) (ck (ck c 5) s.ab.length) else HN k (JI s (SH (ck c 5))) (SK (ck c 5))
def Dw:Nat->az->cd->cd
 |0,_,c=>c
 |k+1,s,c=>if mG c 5=true/\0<s.ab.length then Dw k (SL s (s.ab.getD (iX (ck c 5) s.ab.length).toNat a_).Id) (ck (ck c 5) s.ab.length) else Dw k (JI s (SH (ck c 5))) (SK (ck c 5))
def VR(c:cd):az:=HN (iX c 9).toNat ⟨[],1⟩ (ck c 9)
def Pc(c:cd):cd:=Dw (iX c 9).toNat ⟨[],1⟩ (ck c 9)
theorem uv{f:aA}{w:BA}{v:aZ}(hf:b7 f.Kind=true)(hw:df ⟨2,0,w⟩=true)(hv:df v=true):cg (pn f w v)=true:=by
 simp only[cg,pn,O2,RQ,hf,hw,hv];rfl
theorem wV{f:aA}(h:cg f=true):b7 f.Kind=true:=by
 simp only[cg,eE] at h;exact h.1.1
theorem IP:df ⟨2,0,OZ⟩=true:=by rfl
def tN:aZ:=⟨1,0,ak⟩
theorem AR:df tN=true:=by rfl
theorem IA{d:cr}{x:aj}(h:coreX d x){l:List ag}(hl:aO l=true):coreX d (RZ x l):=⟨h.BD,h.store,hl,h.timers,h.rl,h.now,h.NL,h.sg⟩
def jD:List ap->aj->aj
 |[],x=>x
 |t::l,x=>if x.State=1 then jD l (fx x t.F) else x
theorem uY{d:cr}:∀{l:List ap}{x:aj},iv d x->(∀t∈l,cg t.F=true)->iv d (jD l x)
 |[],_,h,_=>h
 |t::l,x,h,hl=>by
  rw[jD];split
  ·rename_i hs
   exact uY (jL h.tocoreX hs (hl t dw)) fun y hy=>hl y (bi _ hy)
  ·exact h
def Ye(x:aj)(now:Int):aj:=⟨x.S,x.av,x.ai,AJ now x.ah,x.ao,x.State,now⟩
def ay(x:aj)(now:Int):aj:=if x.State=1 then jD (ij now x.ah) (Ye x now) else I2 x now
def ek(x:aj)(now:Int):aj:=RZ x (x.ai.map (dE now))
def dZ(st:Int):List aA->aj->aj
 |[],x=>x
 |f::l,x=>if x.State=st then dZ st l (if st=1 then fx x (pn f OZ tN) else ru x) else x
def b9(x:aj)(now:Int):List BA:=x.ai.flatMap (fT now)
def kL(l:List ag)(k:BA):aA:=(l.getD (cN l k).toNat aq).F
def lQ(x:aj)(now:Int):aj:=dZ (ay x now).State ((b9 (ay x now) now).map (kL (ek (ay x now) now).ai)) (ek (ay x now) now)
def iz(x:aj)(now:Int):List ci:=(ay x now).ai.flatMap (fm now)
theorem KZ{d:cr}{x:aj}(h:coreX d x){now:Int}(h0:0<=now)(h1:now<=1000000000):coreX d (I2 x now):=⟨h.BD,h.store,h.kB,h.timers,h.rl,⟨h0,h1⟩,h.NL,h.sg⟩
theorem oy{d:cr}{x:aj}(h:iv d x){now:Int}(h0:0<=now)(h1:now<=1000000000):iv d (ay x now):=by
 unfold ay
 split
 ·rename_i hs
  refine uY (sF ⟨h.BD,h.store,h.kB,pa _ h.timers,h.rl,⟨h0,h1⟩,h.NL,h.sg⟩ hs) fun t ht=> ?_
  have:=(p8.1 h.timers).2.1 t (BW.1 ht).1
  simp only[iD,eE] at this
  exact this.2
 ·exact⟨KZ h.tocoreX h0 h1,h.state,h.ended,h.I4⟩
theorem J6{l:List ag}(h:nO l=false)(now:Int):l.map (dE now)=l:=by
 have:∀t∈l,dE now t=t:=fun t ht=>by
  obtain⟨i,hi,rfl⟩:=tX ht
  have:=mT.1 h i hi
  rw[fY,gg hi] at this
  have hd:due now l[i]=false:=by simp only[due];rw[show iR l[i]=false from this];rfl
  rw[dE,hd];rfl
 exact(J1 this).trans (List.map_id' l)
theorem KX{l:List ag}(h:nO l=false)(now:Int):l.flatMap (fT now)=[]:=by
 rw[List.flatMap_eq_nil_iff]
 intro t ht
 obtain⟨i,hi,rfl⟩:=tX ht
 have:=mT.1 h i hi
 rw[fY,gg hi] at this
 have hd:due now l[i]=false:=by simp only[due];rw[show iR l[i]=false from this];rfl
 rw[fT,hd];rfl
theorem VV(now:Int)(t:ag):(dE now t).F=t.F:=Jb now t
theorem uu{l:List ag}{now:Int}{k:BA}(h:k∈l.flatMap (fT now)):0<=cN (l.map (dE now)) k/\cN (l.map (dE now)) k<((l.map (dE now)).length:Int):=by
 obtain⟨t,ht,hk⟩:=nl.1 h
 unfold fT at hk
 split at hk
 ·rw[oa] at hk
  obtain⟨i,hi,rfl⟩:=tX ht
  rcases jh (l.map (dE now)).length (fun k'=>decide (bY ((l.map (dE now)).getD k' aq).F=k)) with⟨_,h2⟩|⟨m,g1,g2,_,_⟩
  ·have:=yF (h2 i (by rw[BV];exact hi))
   rw[fY,lZ,gg hi] at this
   exact absurd (by rw[hk];exact congrArg bY (VV now l[i])) this
  ·have g2:cN (l.map (dE now)) k=m:=g2
   rw[g2];omega
 ·simp at hk
theorem ua{d:cr}{x:aj}(h:iv d x){now:Int}(h0:0<=now)(h1:now<=1000000000):iv d (ek x now):=by
 refine⟨IA h.tocoreX (uT h0 h1 h.kB),h.state,fun g=> ?_,h.I4⟩
 obtain⟨g1,g2⟩:=h.ended g
 exact⟨by show nO (x.ai.map (dE now))=false;rw[J6 g1];exact g1,g2⟩
theorem uZ{d:cr}{st:Int}:∀{l:List aA}{x:aj},iv d x->(∀f∈l,b7 f.Kind=true)->(l≠[]->st=1\/st=3\/st=5)->iv d (dZ st l x)
 |[],_,h,_,_=>h
 |f::l,x,h,hl,hs=>by
  rw[dZ];split
  ·rename_i he
   have hs:=hs (by simp)
   refine uZ ?_ (fun y hy=>hl y (bi _ hy)) fun _=>hs
   split
   ·rename_i h1
    exact jL h.tocoreX (he.trans h1) (uv (hl f dw) IP AR)
   ·exact qb h.tocoreX (by omega)
  ·exact h
theorem sQ{l:List ag}{now:Int}(h:aO l=true)(h0:0<=now)(h1:now<=1000000000){k:BA}(hk:k∈l.flatMap (fT now)):cg (kL (l.map (dE now)) k)=true:=by
 obtain⟨a,b⟩:=uu hk
 exact(jc.1 (t_ (uT h0 h1 h) (k:=(cN (l.map (dE now)) k).toNat) (by omega))).1
theorem wW{d:cr}{x:aj}(h:iv d x){now:Int}(hk:b9 x now≠[]):x.State=1\/x.State=3\/x.State=5:=by
 by_cases hc:x.State=2\/x.State=4\/x.State=6
 ·exact absurd (KX (h.ended hc).1 now) hk
 ·have:=h.state;omega
theorem HR{d:cr}{x:aj}(h:iv d x){now:Int}(h0:0<=now)(h1:now<=1000000000):iv d (lQ x now):=by
 have hT:=oy h h0 h1
 refine uZ (ua hT h0 h1) (fun f hf=> ?_) fun hn=>wW hT (now:=now) (by intro e;rw[e] at hn;exact hn rfl)
 obtain⟨k,hk,rfl⟩:=lH.1 hf
 exact wV (sQ hT.kB h0 h1 hk)
theorem Ky{d:cr}{s:List bf}{m:aE}(hd:kO d=true)(h:jj d s m=true):m.li.length<=3/\m.dV=[]:=by
 simp only[jj,eE,decide_eq_true_eq] at h
 obtain⟨⟨⟨h1,h2⟩,h3⟩,_⟩:=h
 have:=(HP (Pe hd h1)).1.three
 exact⟨by omega,Du h2⟩
theorem Is{d:cr}{x:aj}(h:coreX d x):cQ x.av<=7000:=by
 have hm:∀m∈x.av,dt m<=6:=fun m hm=>by
  obtain⟨h1,h2⟩:=Ky h.BD (h.sg m hm)
  simp only[dt,h2]
  have e:g_ []=0:=rfl
  have e2:eM m.li=m.li.length:=by simp[eM]
  omega
 have:=J4 dt 6 x.av hm
 have:=h.NL
 simp only[cQ];omega
theorem HM{s:az}(h:bP s=true):dr s<=6000:=by
 obtain⟨_,h2,h3,_⟩:=rP.1 h
 have:=J4 dh 145 s.ab (fun x hx=>(tU (h3 x hx).1).2)
 simp only[dr,bq];omega
theorem HS{d:cr}{x:aj}(h:coreX d x):bQ x<=50000:=by
 have h1:=HM h.store
 have h2:=Is h
 have h3:=(p9 h.kB).2
 have h4:=(uR h.timers).2
 have h5:=(wL h.rl).2.2
 simp only[bQ];omega
def al2(c:cd):cd:=ck c 3
def P7(c:cd):cd:=CH al2 (iX (ck c 3) 4).toNat (ck (ck c 3) 4)
def efD(code:List Int):cr:=amE (Mu code)
def acd(code:List Int):cd:=acf (Mu code)
def acb(code:List Int):List aE:=allM (efD code).aT (VR (acd code)).ab
def amD(code:List Int):cd:=Pc (acd code)
def amC(code:List Int):cd:=P7 (amD code)
def Yd(code:List Int):Prop:=0<(acb code).length/\mG (amC code) 5=false
instance (code:List Int):Decidable (Yd code):=instDecidableAnd
abbrev TI:=List bf×Int×List aE×List ag×List ap×List aQ×Int×Int×Unit
def instT(p:TI):aj:=⟨⟨p.1,p.2.1⟩,p.2.2.1,p.2.2.2.1,p.2.2.2.2.1,p.2.2.2.2.2.1,p.2.2.2.2.2.2.1,p.2.2.2.2.2.2.2.1⟩
def uQ(x:aj):TI:=(x.S.ab,x.S.Next,x.av,x.ai,x.ah,x.ao,x.State,x.ez,())
def u2(x:aj):Prop:=∃d,iv d x
theorem nI{d:cr}{x:aj}(h:iv d x):u2 x:=⟨d,h⟩
theorem xG{l:List ap}{x:aj}{i:Int}(h0:0<=i)(h:i<l.length):jD (l.drop i.toNat) x=if x.State=1 then jD (l.drop (i+1).toNat) (fx x (l.getD i.toNat cD).F) else x:=by
 have e:(i+1).toNat=i.toNat+1:=by omega
 rw[Zx (by omega),jD,e,fY,gg (by omega)];rfl
theorem oQ{st:Int}{l:List aA}{x:aj}{i:Int}(h0:0<=i)(h:i<l.length):dZ st (l.drop i.toNat) x=if x.State=st then dZ st (l.drop (i+1).toNat) (if st=1 then fx x (pn (l.getD i.toNat uL) OZ tN) else ru x) else x:=by
 have e:(i+1).toNat=i.toNat+1:=by omega
 rw[Zx (by omega),dZ,e,fY,gg (by omega)];rfl
theorem ug{x:aj}{l:List ap}(h:¬x.State=1):jD l x=x:=by
 cases l with
 |nil=>rfl
 |cons t l=>rw[jD,if_neg h]
theorem ur{st:Int}{x:aj}{l:List aA}(h:¬x.State=st):dZ st l x=x:=by
 cases l with
 |nil=>rfl
 |cons t l=>rw[dZ,if_neg h]
def acW:=bB (α:=aj×(List BA)×(List aA)) (qC (qX .cz) (qC (qL .str) (q1 (qL .cP)))) [.box true,.ro,.ro] (fun(x,failed,facts)=>[u2 x,failed.length=facts.length,∀f∈facts,b7 f.Kind=true,facts≠[]->x.State=1\/x.State=3\/x.State=5]) (fun(x,failed,facts)=>⟨[],[],[dX .cz (dZ x.State facts x)]⟩)
def xm(x:aj)(failed:List BA)(facts:List aA):Int×Int×T0×Unit->Prop:=fun(st,i,p,_)=>st=x.State/\0<=i/\i<=facts.length/\u2 (instT p)/\dZ x.State (facts.drop i.toNat) (instT p)=dZ x.State facts x
def uE(x:aj)(failed:List BA)(facts:List aA):Int×Int×T0×Unit->Nat:=fun(st,i,p,_)=>facts.length-i.toNat
def aoZ:AX acW:=fun(x,failed,facts)=>bh [(2,aB [iI 6,iI 7,.box 0 (2000000,0) [.own .aP true,.lit (.int .i64),.own .aI true,.own .aw true,.own .ax true,.own .aW true,.lit (.int .i64),.lit (.int .i64)]] (fun _=>xm x failed facts) (uE x failed facts))]
def anQ:HH:=hF acW func85 [ag',afj,ag9] aoZ fun x hp hb=>by
 obtain⟨x,failed,facts⟩:=x
 have bj:=nD (x:=x) (hb _ m0)
 have e9:=bj.1
 have gO:=bj.2.1
 have gN:=bj.2.2.1
 have fS:=bj.2.2.2.1
 have gM:=bj.2.2.2.2
 have Zh:L9 failed.length:=eY (hb _ m1)
 have abS:L9 facts.length:=eY (hb _ m2)
 have bD:u2 x:=hp _ m0
 have gb:failed.length=facts.length:=hp _ m1
 have Xh:∀f∈facts,b7 f.Kind=true:=hp _ m2
 have hp3:facts≠[]->x.State=1\/x.State=3\/x.State=5:=hp _ m3
 clear hp hb
 apply vE (let q0:=br (dZ x.State facts x);xm x failed facts (x.State,0,(x.S.ab,x.S.Next,x.av,x.ai,x.ah,x.ao,x.State,x.ez,()),())/\∀(y:Int×Int×T5×PUnit),let x3:={ab:=y.2.2.1.1,Next:=y.2.2.1.2.1:az};let x5:=wrap i64 (y.2.1+1);let x6:=y.2.1.toNat;let x2:={S:=x3,av:=y.2.2.1.2.2.1,ai:=y.2.2.1.2.2.2.1,ah:=y.2.2.1.2.2.2.2.1,ao:=y.2.2.1.2.2.2.2.2.1,State:=y.2.2.1.2.2.2.2.2.2.1,ez:=y.2.2.1.2.2.2.2.2.2.2.1:aj};let x4:=pn (facts.getD x6 uL) {data:= #[110,111]:BA} {K:=(1:Int),N:=(0:Int),S:={data:= #[]:BA}:aZ};let x0:=fx x2 x4;let x1:=ru x2;let q1:=LM [] [] [DV.box [CL .aP y.2.2.1.1,CI y.2.2.1.2.1,CL .aI y.2.2.1.2.2.1,CL .aw y.2.2.1.2.2.2.1,CL .ax y.2.2.1.2.2.2.2.1,CL .aW y.2.2.1.2.2.2.2.2.1,CI y.2.2.1.2.2.2.2.2.2.1,CI y.2.2.1.2.2.2.2.2.2.2.1]] [DV.box q0];let q2:=(y.1,x5,(x0.S.ab,x0.S.Next,x0.av,x0.ai,x0.ah,x0.ao,x0.State,x0.ez,()),());let q3:=(y.1,x5,(x1.S.ab,x1.S.Next,x1.av,x1.ai,x1.ah,x1.ao,x1.State,x1.ez,()),());xm x failed facts y->bif decide (y.2.1<(failed.length:Int)) then bif y.2.2.1.2.2.2.2.2.2.1==y.1 then bif y.1==1 then 0<=y.2.1/\x6<facts.length/\ey x2/\bP x3=true/\L4 x4.ae.length/\xm x failed facts q2/\uE x failed facts q2<uE x failed facts y else ey x2/\(y.2.2.1.2.2.2.2.2.2.1=3\/y.2.2.1.2.2.2.2.2.2.1=5)/\xm x failed facts q3/\uE x failed facts q3<uE x failed facts y else q1 else q1)
 dsimp only
 obtain⟨d0,hX0⟩:=bD
 refine⟨⟨rfl,by omega,by omega,nI hX0,rfl⟩,?_⟩
 rintro⟨st,i,p,⟨⟩⟩ ⟨rfl,h1,h2,hX,hE⟩
 obtain⟨d,hX⟩:u2 (instT p):=hX
 have h1:0<=i:=h1
 have h2:i<=facts.length:=h2
 have hE:dZ x.State (facts.drop i.toNat) (instT p)=dZ x.State facts x:=hE
 have nx:∀(z:aj)(j:Int),j=i+1->i<facts.length->u2 z->dZ x.State (facts.drop (i+1).toNat) z=dZ x.State facts x->xm x failed facts (x.State,j,uQ z,())/\uE x failed facts (x.State,j,uQ z,())<uE x failed facts (x.State,i,p,()):=by
  rintro z j rfl hi hz vl
  exact⟨⟨rfl,by omega,by omega,hz,vl⟩,by show facts.length-(i+1).toNat<facts.length-i.toNat;omega⟩
 refine bT (fun hc=>ix (fun hs=>ix (fun g=> ?_) (fun g=> ?_)) (fun hs=> ?_)) (fun hc=> ?_)
 ·have hc:i<(failed.length:Int):=hc
  have hn:i.toNat<facts.length:=by omega
  have hs:(instT p).State=x.State:=hs
  have g:x.State=1:=g
  rw[oQ h1 (by omega),if_pos hs,if_pos g] at hE
  have hm:=uv (w:=OZ) (v:=tN) (Xh _ (oM (z:=uL) hn)) IP AR
  exact⟨h1,hn,hX.good,hX.store,by simp[pn],nx _ _ (wi (n:=i+1)) (by omega) ⟨d,jL hX.tocoreX (hs.trans g) hm⟩ hE⟩
 ·have hc:i<(failed.length:Int):=hc
  have hs:(instT p).State=x.State:=hs
  have g:¬x.State=1:=g
  rw[oQ h1 (by omega),if_pos hs,if_neg g] at hE
  have h3:=hp3 (by intro e;rw[e] at gb;simp only[om] at gb;omega)
  have SE:(instT p).State=3\/(instT p).State=5:=by omega
  exact⟨hX.good,SE,nx _ _ (wi (n:=i+1)) (by omega) ⟨d,qb hX.tocoreX SE⟩ hE⟩
 ·have hc:i<(failed.length:Int):=hc
  have hs:¬(instT p).State=x.State:=hs
  rw[ur hs] at hE
  exact⟨rfl,rfl,uf hE⟩
 ·have hc:¬i<(failed.length:Int):=hc
  rw[List.drop_eq_nil_of_le (by omega)] at hE
  exact⟨rfl,rfl,uf (a:=instT p) hE⟩
def BN:=bB (α:=aj×Int) (qC (qX .cz) (q1 qI)) [.box true,.ro] (fun(x,now)=>[u2 x,0<=now/\now<=1000000000]) (fun(x,now)=>⟨[dL .cu (iz x now)],[],[dX .cz (lQ x now)]⟩)
def BS(x:aj)(now:Int):Int×List ap×T0×Unit->Prop:=fun(i,l,p,_)=>l=ij now x.ah/\0<=i/\i<=l.length/\u2 (instT p)/\jD ((ij now x.ah).drop i.toNat) (instT p)=ay x now
def BL(x:aj)(now:Int):Int×List ap×T0×Unit->Nat:=fun(i,l,p,_)=>l.length-i.toNat
def v8(x:aj)(now:Int):Int×List ci×List BA×List aA×T0×Unit->Prop:=fun(i,calls,failed,facts,p,_)=>calls=iz x now/\failed=b9 (ay x now) now/\0<=i/\i<=failed.length/\facts=((b9 (ay x now) now).take i.toNat).map (kL (ek (ay x now) now).ai)/\instT p=ek (ay x now) now
def vV(x:aj)(now:Int):Int×List ci×List BA×List aA×T0×Unit->Nat:=fun(i,calls,failed,facts,p,_)=>failed.length-i.toNat
def RN:AX BN:=fun(x,now)=>bh [(6,aB [iI 7,iO 5 .ax,.box 0 (2000000,0) [.own .aP true,.lit (.int .i64),.own .aI true,.own .aw true,.own .ax true,.own .aW true,.lit (.int .i64),.lit (.int .i64)]] (fun _=>BS x now) (BL x now)),(12,aB [iI 11,iO 8 .cu,iO 9 .str,iO 10 .cP,.box 0 (2000000,0) [.own .aP true,.lit (.int .i64),.own .aI true,.own .aw true,.own .ax true,.own .aW true,.lit (.int .i64),.lit (.int .i64)]] (fun _=>v8 x now) (vV x now))]
def QZ:=us [anT,afj,anS,anR,Cq,anQ]
def fy(x:aj)(now:Int):Int×T0×Unit->Prop:=fun(nw,p,_)=>nw=now/\instT p=ay x now
def ka:BN.α->rJ UU:=fun(x,now)=>aB [iI 1,.box 0 (2000000,0) [.own .aP true,.lit (.int .i64),.own .aI true,.own .aw true,.own .ax true,.own .aW true,.lit (.int .i64),.lit (.int .i64)]] (fun _=>fy x now) (fun _=>0)
theorem am6(x:aj)(now:Int)(y:Int×T0×Unit):sf EE QZ f28 BN RN (x,now) 9 (ka (x,now)) y=(let q0:=lQ x now;aO y.2.1.2.2.2.1=true/\(0<=y.1/\y.1<=1000000000)/\v8 x now (0,List.flatMap (fm y.1) y.2.1.2.2.2.1,List.flatMap (fT y.1) y.2.1.2.2.2.1,[],(y.2.1.1,y.2.1.2.1,y.2.1.2.2.1,y.2.1.2.2.2.1.map (dE y.1),y.2.1.2.2.2.2.1,y.2.1.2.2.2.2.2.1,y.2.1.2.2.2.2.2.2.1,y.2.1.2.2.2.2.2.2.2.1,()),())/\∀(y:Int×List ci×List BA×List aA×T5×PUnit),let x1:={S:={ab:=y.2.2.2.2.1.1,Next:=y.2.2.2.2.1.2.1:az},av:=y.2.2.2.2.1.2.2.1,ai:=y.2.2.2.2.1.2.2.2.1,ah:=y.2.2.2.2.1.2.2.2.2.1,ao:=y.2.2.2.2.1.2.2.2.2.2.1,State:=y.2.2.2.2.1.2.2.2.2.2.2.1,ez:=y.2.2.2.2.1.2.2.2.2.2.2.2.1:aj};let x5:=cN y.2.2.2.2.1.2.2.2.1 (y.2.2.1.getD (Int.toNat y.1) ak);let x6:=y.2.2.1.length;let x7:=y.2.2.2.1.length;let x0:=dZ y.2.2.2.2.1.2.2.2.2.2.2.1 y.2.2.2.1 x1;let x4:=Int.toNat x5;let x3:=(y.2.2.2.2.1.2.2.2.1.getD x4 aq).F;let x2:=[x3];let q1:=(wrap i64 (y.1+1),y.2.1,y.2.2.1,y.2.2.2.1++x2,(y.2.2.2.2.1.1,y.2.2.2.2.1.2.1,y.2.2.2.2.1.2.2.1,y.2.2.2.2.1.2.2.2.1,y.2.2.2.2.1.2.2.2.2.1,y.2.2.2.2.1.2.2.2.2.2.1,y.2.2.2.2.1.2.2.2.2.2.2.1,y.2.2.2.2.1.2.2.2.2.2.2.2.1,()),());v8 x now y->bif decide (y.1<(↑x6:Int)) then 0<=y.1/\Int.toNat y.1<x6/\Int.toNat y.1<x6/\0<=x5/\x4<y.2.2.2.2.1.2.2.2.1.length/\x4<y.2.2.2.2.1.2.2.2.1.length/\x4<y.2.2.2.2.1.2.2.2.1.length/\x3.ae.length<=4294967296/\x7+x2.length<=4294967296/\v8 x now q1/\vV x now q1<vV x now y else u2 x1/\x6=x7/\(∀(f:aA),f∈y.2.2.2.1->b7 f.Kind=true)/\(y.2.2.2.1≠[]->y.2.2.2.2.1.2.2.2.2.2.2.1=1\/y.2.2.2.2.1.2.2.2.2.2.2.1=3\/y.2.2.2.2.1.2.2.2.2.2.2.1=5)/\LM [VL .cu y.2.1] [VL .cu (iz x now)] [DV.box [CL .aP x0.S.ab,CI x0.S.Next,CL .aI x0.av,CL .aw x0.ai,CL .ax x0.ah,CL .aW x0.ao,CI x0.State,CI x0.ez]] [DV.box [CL .aP q0.S.ab,CI (q0.S.Next),CL .aI q0.av,CL .aw q0.ai,CL .ax q0.ah,CL .aW q0.ao,CI (q0.State),CI (q0.ez)]]):=by kernel_rfl
theorem yc(x:aj)(now:Int)(y:Int×T0×Unit)(hp:∀p∈BN.pre (x,now),p)(hb:∀d∈BN.ds (x,now),eJ d)(hy:fy x now y):sf EE QZ f28 BN RN (x,now) 9 (ka (x,now)) y:=by
 have bj:=nD (x:=x) (hb _ m0)
 have e9:=bj.1
 have gO:=bj.2.1
 have gN:=bj.2.2.1
 have fS:=bj.2.2.2.1
 have gM:=bj.2.2.2.2
 have pf:=iK (n:=now) (hb _ m1)
 have bD:u2 x:=hp _ m0
 have gb:0<=now/\now<=1000000000:=hp _ m1
 clear hp hb
 rw[am6 x now y]
 dsimp only
 obtain⟨d,hX⟩:=bD
 have hT:=oy hX gb.1 gb.2
 have hS:=ua hT gb.1 gb.2
 obtain⟨nw,p,⟨⟩⟩:=y
 obtain⟨rfl,hp⟩:=hy
 have hp:instT p=ay x nw:=hp
 have e1:p.2.2.2.1=(ay x nw).ai:=congrArg aj.ai hp
 have eC:p.2.2.2.1.flatMap (fm nw)=iz x nw:=by rw[e1];rfl
 have eF:p.2.2.2.1.flatMap (fT nw)=b9 (ay x nw) nw:=by rw[e1];rfl
 have eS:instT (p.1,p.2.1,p.2.2.1,p.2.2.2.1.map (dE nw),p.2.2.2.2.1,p.2.2.2.2.2.1,p.2.2.2.2.2.2.1,p.2.2.2.2.2.2.2.1,())=ek (ay x nw) nw:=congrArg (fun z=>ek z nw) hp
 have yD:(b9 (ay x nw) nw).length<=30:=BU (nW _ (sR nw) _) (p9 hT.kB).1
 refine⟨by show aO p.2.2.2.1=true;rw[e1];exact hT.kB,gb,⟨eC,eF,by omega,by omega,rfl,eS⟩,?_⟩
 clear eS eF eC e1
 clear hp
 rintro⟨i,calls,failed,facts,q,⟨⟩⟩ ⟨hc,hf,h1,h2,Qz,hq⟩
 have hc:calls=iz x nw:=hc
 have hf:failed=b9 (ay x nw) nw:=hf
 have h1:0<=i:=h1
 have h2:i<=(failed.length:Int):=h2
 have Qz:facts=((b9 (ay x nw) nw).take i.toNat).map (kL (ek (ay x nw) nw).ai):=Qz
 have hq:instT q=ek (ay x nw) nw:=hq
 subst hc hf
 have e2:q.2.2.2.1=(ek (ay x nw) nw).ai:=congrArg aj.ai hq
 have e3:q.2.2.2.2.2.2.1=(ay x nw).State:=congrArg aj.State hq
 refine bT ?_ ?_<;>intro g
 ·have g:i<((b9 (ay x nw) nw).length:Int):=g
  have hn:i.toNat<(b9 (ay x nw) nw).length:=by omega
  have hk:=oM (z:=ak) hn
  obtain⟨k1,k2⟩:=uu hk
  have Gx:=sQ hT.kB gb.1 gb.2 hk
  have hl:=(tU Gx).1
  have key:∀l:List ag,l=(ek (ay x nw) nw).ai->0<=cN l ((b9 (ay x nw) nw).getD i.toNat ak)/\(cN l ((b9 (ay x nw) nw).getD i.toNat ak)).toNat<l.length/\(l.getD (cN l ((b9 (ay x nw) nw).getD i.toNat ak)).toNat aq).F.ae.length<=4294967296/\(l.getD (cN l ((b9 (ay x nw) nw).getD i.toNat ak)).toNat aq).F=kL (ek (ay x nw) nw).ai ((b9 (ay x nw) nw).getD i.toNat ak):=by
   rintro l rfl
   refine⟨k1,?_,?_,rfl⟩
   ·have:cN (ek (ay x nw) nw).ai ((b9 (ay x nw) nw).getD i.toNat ak)<((ek (ay x nw) nw).ai.length:Int):=k2
    have h0:0<=cN (ek (ay x nw) nw).ai ((b9 (ay x nw) nw).getD i.toNat ak):=k1
    omega
   ·exact BU hl (by omega)
  obtain⟨a1,a2,a3,a4⟩:=key _ e2
  have aml:facts.length<=30:=by rw[Qz,BV,od];omega
  have pZ:=Ax (l:=b9 (ay x nw) nw) ak hn
  have e:(i+1).toNat=i.toNat+1:=by omega
  have nx:∀(j:Int)(fs:List aA),j=i+1->fs=((b9 (ay x nw) nw).take (i+1).toNat).map (kL (ek (ay x nw) nw).ai)->v8 x nw (j,iz x nw,b9 (ay x nw) nw,fs,q,())/\vV x nw (j,iz x nw,b9 (ay x nw) nw,fs,q,())<vV x nw (i,iz x nw,b9 (ay x nw) nw,facts,q,()):=by
   rintro j fs rfl rfl
   exact⟨⟨rfl,rfl,by omega,by omega,rfl,hq⟩,by show(b9 (ay x nw) nw).length-(i+1).toNat<(b9 (ay x nw) nw).length-i.toNat;omega⟩
  exact⟨h1,hn,hn,a1,a2,a2,a2,a3,by simp only[n_,om];omega,nx _ _ (wi (n:=i+1)) (by rw[a4,Qz,e,pZ,La];rfl)⟩
 ·have g:¬i<((b9 (ay x nw) nw).length:Int):=g
  have ht:(b9 (ay x nw) nw).take i.toNat=b9 (ay x nw) nw:=O5 (by omega)
  rw[ht] at Qz
  have pN:dZ q.2.2.2.2.2.2.1 facts (instT q)=lQ x nw:=by rw[e3,Qz,hq];rfl
  refine⟨by show u2 (instT q);rw[hq];exact nI hS,by rw[Qz,BV],fun f hm=> ?_,fun et=> ?_,rfl,rfl,uf pN⟩
  ·rw[Qz] at hm
   obtain⟨k,hk,rfl⟩:=lH.1 hm
   exact wV (sQ hT.kB gb.1 gb.2 hk)
  ·show q.2.2.2.2.2.2.1=1\/q.2.2.2.2.2.2.1=3\/q.2.2.2.2.2.2.1=5
   rw[e3]
   exact wW hT (now:=nw) (fun e=>et (by rw[Qz,e];rfl))
theorem yb(x:aj)(now:Int)(hp:∀p∈BN.pre (x,now),p)(hb:∀d∈BN.ds (x,now),eJ d):xa EE QZ f28 BN RN (x,now) 9 (ka (x,now)):=by
 have bj:=nD (x:=x) (hb _ m0)
 have e9:=bj.1
 have gO:=bj.2.1
 have gN:=bj.2.2.1
 have fS:=bj.2.2.2.1
 have gM:=bj.2.2.2.2
 have pf:=iK (n:=now) (hb _ m1)
 have bD:u2 x:=hp _ m0
 have gb:0<=now/\now<=1000000000:=hp _ m1
 clear hp hb
 apply vE (bif x.State==1 then L4 (ca x.ah)/\BS x now (0,ij now x.ah,(x.S.ab,x.S.Next,x.av,x.ai,AJ now x.ah,x.ao,x.State,now,()),())/\∀(y:Int×List ap×T5×PUnit),let x2:={ab:=y.2.2.1.1,Next:=y.2.2.1.2.1:az};let x3:=(y.2.1.getD y.1.toNat cD).F;let x5:=y.2.1.length;let x1:={S:=x2,av:=y.2.2.1.2.2.1,ai:=y.2.2.1.2.2.2.1,ah:=y.2.2.1.2.2.2.2.1,ao:=y.2.2.1.2.2.2.2.2.1,State:=y.2.2.1.2.2.2.2.2.2.1,ez:=y.2.2.1.2.2.2.2.2.2.2.1:aj};let x4:=(↑x5:Int);let x0:=fx x1 x3;let q0:=fy x now (now,(y.2.2.1.1,y.2.2.1.2.1,y.2.2.1.2.2.1,y.2.2.1.2.2.2.1,y.2.2.1.2.2.2.2.1,y.2.2.1.2.2.2.2.2.1,y.2.2.1.2.2.2.2.2.2.1,y.2.2.1.2.2.2.2.2.2.2.1,()),());let q1:=(wrap i64 (y.1+1),y.2.1,(x0.S.ab,x0.S.Next,x0.av,x0.ai,x0.ah,x0.ao,x0.State,x0.ez,()),());BS x now y->bif decide (y.1<x4) then bif y.2.2.1.2.2.2.2.2.2.1==1 then 0<=y.1/\y.1.toNat<x5/\y.1.toNat<x5/\y.1.toNat<x5/\ey x1/\bP x2=true/\L4 x3.ae.length/\BS x now q1/\BL x now q1<BL x now y else q0 else q0 else fy x now (now,(x.S.ab,x.S.Next,x.av,x.ai,x.ah,x.ao,x.State,now,()),()))
 dsimp only
 have hX:=bD
 obtain⟨d,hX⟩:=hX
 have hts:=(uR hX.timers).2
 have fin:∀z:aj,z=ay x now->fy x now (now,uQ z,()):=fun z hz=>⟨rfl,hz⟩
 refine ix (fun hs=>⟨by omega,⟨rfl,by omega,by omega,?_,?_⟩,?_⟩) (fun hs=> ?_)
 ·exact nI (sF (d:=d) (x:=Ye x now) ⟨hX.BD,hX.store,hX.kB,pa _ hX.timers,hX.rl,gb,hX.NL,hX.sg⟩ hs)
 ·exact(if_pos hs).symm
 ·have h30:(ij now x.ah).length<=30:=BU (O1 _ _) (uR hX.timers).1
  have Gx:∀t∈ij now x.ah,cg t.F=true:=fun t ht=>by
   have:=(p8.1 hX.timers).2.1 t (BW.1 ht).1
   simp only[iD,eE] at this
   exact this.2
  rintro⟨i,l,p,⟨⟩⟩ ⟨rfl,h1,h2,hY,hE⟩
  obtain⟨d',hY⟩:u2 (instT p):=hY
  have h1:0<=i:=h1
  have h2:i<=(ij now x.ah).length:=h2
  have hE:jD ((ij now x.ah).drop i.toNat) (instT p)=ay x now:=hE
  refine bT (fun hc=>ix (fun g=> ?_) (fun g=> ?_)) (fun hc=> ?_)
  ·have hc:i<((ij now x.ah).length:Int):=hc
   have hn:i.toNat<(ij now x.ah).length:=by omega
   have g:(instT p).State=1:=g
   have hf:=Gx _ (oM (z:=cD) hn)
   rw[xG h1 hc,if_pos g] at hE
   have nx:∀j,j=i+1->BS x now (j,ij now x.ah,uQ (fx (instT p) ((ij now x.ah).getD i.toNat cD).F),())/\BL x now (j,ij now x.ah,uQ (fx (instT p) ((ij now x.ah).getD i.toNat cD).F),())<BL x now (i,ij now x.ah,p,()):=by
    rintro j rfl
    exact⟨⟨rfl,by omega,by omega,⟨d',jL hY.tocoreX g hf⟩,hE⟩,by show(ij now x.ah).length-(i+1).toNat<(ij now x.ah).length-i.toNat;omega⟩
   exact⟨h1,hn,hn,hn,hY.good,hY.store,BU (tU hf).1 (by omega),nx _ (wi (n:=i+1))⟩
  ·have g:¬(instT p).State=1:=g
   rw[ug g] at hE
   exact fin _ hE
  ·have hc:¬i<((ij now x.ah).length:Int):=hc
   rw[List.drop_eq_nil_of_le (by omega)] at hE
   exact fin (instT p) hE
 ·exact fin (I2 x now) (if_neg hs).symm
attribute [local irreducible] xa sf in
theorem am8:Holds EE (28,BN):=by
 refine CM sw func28 BN (by kernel_rfl) QZ (Av _) RN 9 ka (by kernel_rfl) (fun x hp hb=> ?_)
 obtain⟨x,now⟩:=x
 refine⟨yb x now hp hb,fun(y:Int×T0×Unit) hy=> ?_⟩
 have hy:fy x now y:=hy
 exact yc x now y hp hb hy
def aoz:HH:=⟨_,am8⟩
theorem LA(x:aj):(nf x 3).State≠1:=by
 unfold nf gX
 split
 ·show(if(ux x 3).State=5 then(6:Int) else 4)≠1
  split<;>decide
 ·show(3:Int)≠1;decide
theorem al3{α β:Type}(f:α->β){l:List α}{i:Nat}(z:α)(z':β)(h:i<l.length):(l.map f).getD i z'=f (l.getD i z):=by
 rw[fY,fY,lZ,gg h];rfl
def IT:=WQ 6 2 (α:=az×aA) (qC (qX .di) (q1 (qA .cP))) [.box true,.ro] (fun(s,f)=>[bP s=true,¬(bE s f).2=0,L4 f.ae.length]) (fun(s,f)=>⟨[],[],[dX .di ((bE s f).1)]⟩)
def Y4:AX IT:=fun(s,f)=>bh []
def Yq:=us [UE,UD]
theorem Yr:Holds EE (107,IT):=by
 refine w2 sw func107 IT (by kernel_rfl) rfl Yq (Av _) Y4 (fun x hp hb rest kI=> ?_)
 obtain⟨s,f⟩:=x
 have l9:=IN (x:=s) (hb _ m0)
 have er:=mS (x:=f) (hb _ m1)
 have pJ:=er.1
 have mO:=er.2
 have bD:bP s=true:=hp _ m0
 have gb:¬(bE s f).2=0:=hp _ m1
 have Xh:f.ae.length<=4294967296:=hp _ m2
 clear hp hb
 have kI:rest.length=6:=kI
 match rest,kI with
 |[r0,r1,r2,r3,r4,r5],_=>
 apply vE (let q0:=bE {ab:={τ:=Cd.aP,xs:=s.ab:eK UU}.xs,Next:=s.Next:az} {Kind:=f.Kind,ae:=f.ae:aA};bP s=true/\L4 f.ae.length/\bif !decide ¬q0.2=0 then False else List.length (α:=AC UU) (rcs [r0,r1,r2,r3,r4,r5])=List.length [r0,r1,r2,r3,r4,r5]/\(rcs [r0,r1,r2,r3,r4,r5])=List.map (fun(v:Value)=>(AC.c (Cell.lit v):AC UU)) [r0,r1,r2,r3,r4,r5]/\fz []=fz []/\fz [DV.box [CL .aP q0.1.ab,CI (q0.1.Next)]]=fz [DV.box [CL .aP (bE s f).1.ab,CI ((bE s f).1.Next)]])
 dsimp only
 have hS:(⟨s.ab,s.Next⟩:az)=s:=rfl
 have hF:(⟨f.Kind,f.ae⟩:aA)=f:=rfl
 simp only[hS,hF]
 refine⟨bD,Xh,cB (fun h=>absurd h (by rw[decide_eq_true gb];decide)) (fun h=> ?_)⟩
 repeat' (first|exact rfl|trivial|refine And.intro ?_ ?_)
def Y3:HH:=⟨_,Yr⟩
def BM:=bB (α:=aj×Int) (qC (qX .cz) (q1 qI)) [.box true,.ro] (fun(x,now)=>[u2 x,0<=now/\now<=1000000000]) (fun(x,now)=>⟨[dL .cu (iz x now)],[],[dX .cz (lQ x now)]⟩)
def uH(x:aj)(now:Int):Int×List ap×T0×Unit->Prop:=fun(i,l,p,_)=>l=ij now x.ah/\0<=i/\i<=l.length/\u2 (instT p)/\jD ((ij now x.ah).drop i.toNat) (instT p)=ay x now
def qN(x:aj)(now:Int):Int×List ap×T0×Unit->Nat:=fun(i,l,p,_)=>l.length-i.toNat
def rc(x:aj)(now:Int):Int×List ci×List BA×T0×Unit×Unit->Prop:=fun(i,calls,failed,p,z,_)=>calls=iz x now/\failed=b9 (ay x now) now/\0<=i/\i<=failed.length/\u2 (instT p)/\p.2.2.2.1=(ek (ay x now) now).ai/\dZ (ay x now).State (((b9 (ay x now) now).map (kL (ek (ay x now) now).ai)).drop i.toNat) (instT p)=lQ x now
def jF(x:aj)(now:Int):Int×List ci×List BA×T0×Unit×Unit->Nat:=fun(i,calls,failed,p,z,_)=>failed.length-i.toNat
def bJ(x:aj)(now:Int):Int×List ci×List BA×T0×Unit->Prop:=fun(i,calls,failed,p,_)=>calls=iz x now/\failed=b9 (ay x now) now/\0<=i/\i<=failed.length/\u2 (instT p)/\((ay x now).State=1->¬(instT p).State=1)/\dZ (ay x now).State (((b9 (ay x now) now).map (kL (ek (ay x now) now).ai)).drop i.toNat) (instT p)=lQ x now
def bA(x:aj)(now:Int):Int×List ci×List BA×T0×Unit->Nat:=fun(i,calls,failed,p,_)=>failed.length-i.toNat
def RM:AX BM:=fun(x,now)=>bh [(6,aB [iI 39,iO 37 .ax,.box 0 (2000000,0) [.own .aP true,.lit (.int .i64),.own .aI true,.own .aw true,.own .ax true,.own .aW true,.lit (.int .i64),.lit (.int .i64)]] (fun _=>uH x now) (qN x now)),(15,Yo (aB [iI 73,iO 10 .cu,iO 71 .str,.box 0 (2000000,0) [.own .aP true,.lit (.int .i64),.own .aI true,.own .aw true,.own .ax true,.own .aW true,.lit (.int .i64),.lit (.int .i64)],.slot 9 (2000000,4099) .al] (fun _=>rc x now) (jF x now)) (aB [iI 73,iO 10 .cu,iO 71 .str,.box 0 (2000000,0) [.own .aP true,.lit (.int .i64),.own .aI true,.own .aw true,.own .ax true,.own .aW true,.lit (.int .i64),.lit (.int .i64)]] (fun _=>bJ x now) (bA x now)))]
def QY:=us [ahJ,ahI,Y3,ahH,ahF,ahG,ahE]
def eU(x:aj)(now:Int):Int×T0×Unit->Prop:=fun(nw,p,_)=>nw=now/\instT p=ay x now
def jm:BM.α->rJ UU:=fun(x,now)=>aB [iI 1,.box 0 (2000000,0) [.own .aP true,.lit (.int .i64),.own .aI true,.own .aw true,.own .ax true,.own .aW true,.lit (.int .i64),.lit (.int .i64)]] (fun _=>eU x now) (fun _=>0)
theorem am5(x:aj)(now:Int)(y:Int×T0×Unit):sf EE QY f39 BM RM (x,now) 11 (jm (x,now)) y=(let x0:=if aO y.2.1.2.2.2.1=true/\0<=y.1/\y.1<=1000000000 then List.flatMap (fT y.1) y.2.1.2.2.2.1 else[];let x1:=if aO y.2.1.2.2.2.1=true/\0<=y.1/\y.1<=1000000000 then List.flatMap (fm y.1) y.2.1.2.2.2.1 else[];let x2:=y.2.1.2.2.2.2.2.2.1==1;let q0:=lQ x now;let q1:=List bf×Int×List aE×List ag×List ap×List aQ×Int×Int×PUnit;let q2:=(y.2.1.1,y.2.1.2.1,y.2.1.2.2.1,if aO y.2.1.2.2.2.1=true/\0<=y.1/\y.1<=1000000000 then y.2.1.2.2.2.1.map (dE y.1) else y.2.1.2.2.2.1,y.2.1.2.2.2.2.1,y.2.1.2.2.2.2.2.1,y.2.1.2.2.2.2.2.2.1,y.2.1.2.2.2.2.2.2.2.1,());let q3:=iz x now;let q4:=q0.S.Next;let q5:=(↑(x0.length):Int);bz y.2.1.2.2.2.1<=4294967296/\((rc x now (0,x1,x0,q2,(),())/\(∀(aJ:Int×List ci×List BA×q1×PUnit×PUnit),let x7:={ab:=aJ.2.2.2.1.1,Next:=aJ.2.2.2.1.2.1:az};let x9:=cN aJ.2.2.2.1.2.2.2.1 (aJ.2.2.1.getD (Int.toNat aJ.1) ak);let rz:=wrap i64 (aJ.1+1);let x5:={S:=x7,av:=aJ.2.2.2.1.2.2.1,ai:=aJ.2.2.2.1.2.2.2.1,ah:=aJ.2.2.2.1.2.2.2.2.1,ao:=aJ.2.2.2.1.2.2.2.2.2.1,State:=aJ.2.2.2.1.2.2.2.2.2.2.1,ez:=aJ.2.2.2.1.2.2.2.2.2.2.2.1:aj};let x8:=Int.toNat x9;let x4:=ru x5;let x6:=pn (aJ.2.2.2.1.2.2.2.1.getD x8 aq).F {data:= #[110,111]:BA} {K:=(1:Int),N:=(0:Int),S:={data:= #[]:BA}:aZ};let x3:=fx x5 x6;let q6:=((bE {ab:=aJ.2.2.2.1.1,Next:=aJ.2.2.2.1.2.1:az} {Kind:=x6.Kind,ae:=x6.ae:aA}).1.ab,(bE {ab:=aJ.2.2.2.1.1,Next:=aJ.2.2.2.1.2.1:az} {Kind:=x6.Kind,ae:=x6.ae:aA}).1.Next,aJ.2.2.2.1.2.2.1,aJ.2.2.2.1.2.2.2.1,aJ.2.2.2.1.2.2.2.2.1,aJ.2.2.2.1.2.2.2.2.2.1,aJ.2.2.2.1.2.2.2.2.2.2.1,aJ.2.2.2.1.2.2.2.2.2.2.2.1,());let q7:=LM [VL .cu aJ.2.1] [VL .cu q3] [DV.box [CL .aP aJ.2.2.2.1.1,CI aJ.2.2.2.1.2.1,CL .aI aJ.2.2.2.1.2.2.1,CL .aw aJ.2.2.2.1.2.2.2.1,CL .ax aJ.2.2.2.1.2.2.2.2.1,CL .aW aJ.2.2.2.1.2.2.2.2.2.1,CI aJ.2.2.2.1.2.2.2.2.2.2.1,CI aJ.2.2.2.1.2.2.2.2.2.2.2.1]] [DV.box [CL .aP q0.S.ab,CI q4,CL .aI q0.av,CL .aw q0.ai,CL .ax q0.ah,CL .aW q0.ao,CI (q0.State),CI (q0.ez)]];let q8:=(rz,aJ.2.1,aJ.2.2.1,(x3.S.ab,x3.S.Next,x3.av,x3.ai,x3.ah,x3.ao,x3.State,x3.ez,()),());let q9:=(rz,aJ.2.1,aJ.2.2.1,(x4.S.ab,x4.S.Next,x4.av,x4.ai,x4.ah,x4.ao,x4.State,x4.ez,()),());rc x now aJ->bif decide (aJ.1<q5) then 0<=aJ.1/\Int.toNat aJ.1<aJ.2.2.1.length/\Int.toNat aJ.1<aJ.2.2.1.length/\bif aJ.2.2.2.1.2.2.2.2.2.2.1 !=y.2.1.2.2.2.2.2.2.1 then q7 else bif x2 then 0<=x9/\x8<aJ.2.2.2.1.2.2.2.1.length/\x8<aJ.2.2.2.1.2.2.2.1.length/\x8<aJ.2.2.2.1.2.2.2.1.length/\(ey x5/\bP x7=true/\x6.ae.length<=4294967296/\(False\/bJ x now q8/\bA x now q8<jF x now aJ)\/bP x7=true/\¬(bE {ab:=aJ.2.2.2.1.1,Next:=aJ.2.2.2.1.2.1:az} {Kind:=x6.Kind,ae:=x6.ae:aA}).2=0/\x6.ae.length<=4294967296/\(rc x now (rz,aJ.2.1,aJ.2.2.1,q6,(),())/\jF x now (rz,aJ.2.1,aJ.2.2.1,q6,(),())<jF x now aJ\/bJ x now (rz,aJ.2.1,aJ.2.2.1,q6,())/\bA x now (rz,aJ.2.1,aJ.2.2.1,q6,())<jF x now aJ)) else ey x5/\(aJ.2.2.2.1.2.2.2.2.2.2.1=3\/aJ.2.2.2.1.2.2.2.2.2.2.1=5)/\(False\/bJ x now q9/\bA x now q9<jF x now aJ) else q7)/\∀(aJ:Int×List ci×List BA×q1×PUnit),let x4:={S:={ab:=aJ.2.2.2.1.1,Next:=aJ.2.2.2.1.2.1:az},av:=aJ.2.2.2.1.2.2.1,ai:=aJ.2.2.2.1.2.2.2.1,ah:=aJ.2.2.2.1.2.2.2.2.1,ao:=aJ.2.2.2.1.2.2.2.2.2.1,State:=aJ.2.2.2.1.2.2.2.2.2.2.1,ez:=aJ.2.2.2.1.2.2.2.2.2.2.2.1:aj};let x3:=ru x4;let q10:=LM [VL .cu aJ.2.1] [VL .cu q3] [DV.box [CL .aP aJ.2.2.2.1.1,CI aJ.2.2.2.1.2.1,CL .aI aJ.2.2.2.1.2.2.1,CL .aw aJ.2.2.2.1.2.2.2.1,CL .ax aJ.2.2.2.1.2.2.2.2.1,CL .aW aJ.2.2.2.1.2.2.2.2.2.1,CI aJ.2.2.2.1.2.2.2.2.2.2.1,CI aJ.2.2.2.1.2.2.2.2.2.2.2.1]] [DV.box [CL .aP q0.S.ab,CI q4,CL .aI q0.av,CL .aw q0.ai,CL .ax q0.ah,CL .aW q0.ao,CI (q0.State),CI (q0.ez)]];let q11:=(wrap i64 (aJ.1+1),aJ.2.1,aJ.2.2.1,(x3.S.ab,x3.S.Next,x3.av,x3.ai,x3.ah,x3.ao,x3.State,x3.ez,()),());bJ x now aJ->bif decide (aJ.1<q5) then 0<=aJ.1/\Int.toNat aJ.1<aJ.2.2.1.length/\Int.toNat aJ.1<aJ.2.2.1.length/\bif aJ.2.2.2.1.2.2.2.2.2.2.1 !=y.2.1.2.2.2.2.2.2.1 then q10 else bif x2 then False else ey x4/\(aJ.2.2.2.1.2.2.2.2.2.2.1=3\/aJ.2.2.2.1.2.2.2.2.2.2.1=5)/\(False\/bJ x now q11/\bA x now q11<bA x now aJ) else q10)\/bJ x now (0,x1,x0,q2,())/\(∀(aJ:Int×List ci×List BA×q1×PUnit×PUnit),let x7:={ab:=aJ.2.2.2.1.1,Next:=aJ.2.2.2.1.2.1:az};let x9:=cN aJ.2.2.2.1.2.2.2.1 (aJ.2.2.1.getD (Int.toNat aJ.1) ak);let rz:=wrap i64 (aJ.1+1);let x5:={S:=x7,av:=aJ.2.2.2.1.2.2.1,ai:=aJ.2.2.2.1.2.2.2.1,ah:=aJ.2.2.2.1.2.2.2.2.1,ao:=aJ.2.2.2.1.2.2.2.2.2.1,State:=aJ.2.2.2.1.2.2.2.2.2.2.1,ez:=aJ.2.2.2.1.2.2.2.2.2.2.2.1:aj};let x8:=Int.toNat x9;let x4:=ru x5;let x6:=pn (aJ.2.2.2.1.2.2.2.1.getD x8 aq).F {data:= #[110,111]:BA} {K:=(1:Int),N:=(0:Int),S:={data:= #[]:BA}:aZ};let x3:=fx x5 x6;let q12:=((bE {ab:=aJ.2.2.2.1.1,Next:=aJ.2.2.2.1.2.1:az} {Kind:=x6.Kind,ae:=x6.ae:aA}).1.ab,(bE {ab:=aJ.2.2.2.1.1,Next:=aJ.2.2.2.1.2.1:az} {Kind:=x6.Kind,ae:=x6.ae:aA}).1.Next,aJ.2.2.2.1.2.2.1,aJ.2.2.2.1.2.2.2.1,aJ.2.2.2.1.2.2.2.2.1,aJ.2.2.2.1.2.2.2.2.2.1,aJ.2.2.2.1.2.2.2.2.2.2.1,aJ.2.2.2.1.2.2.2.2.2.2.2.1,());let q13:=LM [VL .cu aJ.2.1] [VL .cu q3] [DV.box [CL .aP aJ.2.2.2.1.1,CI aJ.2.2.2.1.2.1,CL .aI aJ.2.2.2.1.2.2.1,CL .aw aJ.2.2.2.1.2.2.2.1,CL .ax aJ.2.2.2.1.2.2.2.2.1,CL .aW aJ.2.2.2.1.2.2.2.2.2.1,CI aJ.2.2.2.1.2.2.2.2.2.2.1,CI aJ.2.2.2.1.2.2.2.2.2.2.2.1]] [DV.box [CL .aP q0.S.ab,CI q4,CL .aI q0.av,CL .aw q0.ai,CL .ax q0.ah,CL .aW q0.ao,CI (q0.State),CI (q0.ez)]];let q14:=(rz,aJ.2.1,aJ.2.2.1,(x3.S.ab,x3.S.Next,x3.av,x3.ai,x3.ah,x3.ao,x3.State,x3.ez,()),());let q15:=(rz,aJ.2.1,aJ.2.2.1,(x4.S.ab,x4.S.Next,x4.av,x4.ai,x4.ah,x4.ao,x4.State,x4.ez,()),());rc x now aJ->bif decide (aJ.1<q5) then 0<=aJ.1/\Int.toNat aJ.1<aJ.2.2.1.length/\Int.toNat aJ.1<aJ.2.2.1.length/\bif aJ.2.2.2.1.2.2.2.2.2.2.1 !=y.2.1.2.2.2.2.2.2.1 then q13 else bif x2 then 0<=x9/\x8<aJ.2.2.2.1.2.2.2.1.length/\x8<aJ.2.2.2.1.2.2.2.1.length/\x8<aJ.2.2.2.1.2.2.2.1.length/\(ey x5/\bP x7=true/\x6.ae.length<=4294967296/\(False\/bJ x now q14/\bA x now q14<jF x now aJ)\/bP x7=true/\¬(bE {ab:=aJ.2.2.2.1.1,Next:=aJ.2.2.2.1.2.1:az} {Kind:=x6.Kind,ae:=x6.ae:aA}).2=0/\x6.ae.length<=4294967296/\(rc x now (rz,aJ.2.1,aJ.2.2.1,q12,(),())/\jF x now (rz,aJ.2.1,aJ.2.2.1,q12,(),())<jF x now aJ\/bJ x now (rz,aJ.2.1,aJ.2.2.1,q12,())/\bA x now (rz,aJ.2.1,aJ.2.2.1,q12,())<jF x now aJ)) else ey x5/\(aJ.2.2.2.1.2.2.2.2.2.2.1=3\/aJ.2.2.2.1.2.2.2.2.2.2.1=5)/\(False\/bJ x now q15/\bA x now q15<jF x now aJ) else q13)/\∀(aJ:Int×List ci×List BA×q1×PUnit),let x4:={S:={ab:=aJ.2.2.2.1.1,Next:=aJ.2.2.2.1.2.1:az},av:=aJ.2.2.2.1.2.2.1,ai:=aJ.2.2.2.1.2.2.2.1,ah:=aJ.2.2.2.1.2.2.2.2.1,ao:=aJ.2.2.2.1.2.2.2.2.2.1,State:=aJ.2.2.2.1.2.2.2.2.2.2.1,ez:=aJ.2.2.2.1.2.2.2.2.2.2.2.1:aj};let x3:=ru x4;let q16:=LM [VL .cu aJ.2.1] [VL .cu q3] [DV.box [CL .aP aJ.2.2.2.1.1,CI aJ.2.2.2.1.2.1,CL .aI aJ.2.2.2.1.2.2.1,CL .aw aJ.2.2.2.1.2.2.2.1,CL .ax aJ.2.2.2.1.2.2.2.2.1,CL .aW aJ.2.2.2.1.2.2.2.2.2.1,CI aJ.2.2.2.1.2.2.2.2.2.2.1,CI aJ.2.2.2.1.2.2.2.2.2.2.2.1]] [DV.box [CL .aP q0.S.ab,CI q4,CL .aI q0.av,CL .aw q0.ai,CL .ax q0.ah,CL .aW q0.ao,CI (q0.State),CI (q0.ez)]];let q17:=(wrap i64 (aJ.1+1),aJ.2.1,aJ.2.2.1,(x3.S.ab,x3.S.Next,x3.av,x3.ai,x3.ah,x3.ao,x3.State,x3.ez,()),());bJ x now aJ->bif decide (aJ.1<q5) then 0<=aJ.1/\Int.toNat aJ.1<aJ.2.2.1.length/\Int.toNat aJ.1<aJ.2.2.1.length/\bif aJ.2.2.2.1.2.2.2.2.2.2.1 !=y.2.1.2.2.2.2.2.2.1 then q16 else bif x2 then False else ey x4/\(aJ.2.2.2.1.2.2.2.2.2.2.1=3\/aJ.2.2.2.1.2.2.2.2.2.2.1=5)/\(False\/bJ x now q17/\bA x now q17<bA x now aJ) else q16)):=by kernel_rfl
theorem uO(x:aj)(now:Int)(y:Int×T0×Unit)(hp:∀p∈BM.pre (x,now),p)(hb:∀d∈BM.ds (x,now),eJ d)(hy:eU x now y):sf EE QY f39 BM RM (x,now) 11 (jm (x,now)) y:=by
 have bj:=nD (x:=x) (hb _ m0)
 have e9:=bj.1
 have gO:=bj.2.1
 have gN:=bj.2.2.1
 have fS:=bj.2.2.2.1
 have gM:=bj.2.2.2.2
 have pf:=iK (n:=now) (hb _ m1)
 have bD:u2 x:=hp _ m0
 have gb:0<=now/\now<=1000000000:=hp _ m1
 clear hp hb
 rw[am5 x now y]
 dsimp only
 obtain⟨d,hX⟩:=bD
 have hT:=oy hX gb.1 gb.2
 have hS:=ua hT gb.1 gb.2
 obtain⟨nw,p,⟨⟩⟩:=y
 obtain⟨rfl,hp⟩:=hy
 have hp:instT p=ay x nw:=hp
 have e1:p.2.2.2.1=(ay x nw).ai:=congrArg aj.ai hp
 have e3:p.2.2.2.2.2.2.1=(ay x nw).State:=congrArg aj.State hp
 have OQ:aO p.2.2.2.1=true/\(0:Int)<=nw/\nw<=(1000000000:Int):=⟨by rw[e1];exact hT.kB,gb⟩
 have sL:bz p.2.2.2.1<=4294967296:=by rw[e1];have:=(p9 hT.kB).2;omega
 simp only[if_pos OQ]
 have eC:p.2.2.2.1.flatMap (fm nw)=iz x nw:=by rw[e1];rfl
 have eF:p.2.2.2.1.flatMap (fT nw)=b9 (ay x nw) nw:=by rw[e1];rfl
 have eT:p.2.2.2.1.map (dE nw)=(ek (ay x nw) nw).ai:=by rw[e1];rfl
 have eS:instT (p.1,p.2.1,p.2.2.1,(ek (ay x nw) nw).ai,p.2.2.2.2.1,p.2.2.2.2.2.1,(ay x nw).State,p.2.2.2.2.2.2.2.1,())=ek (ay x nw) nw:=by
  rw[<-eT,<-e3];exact congrArg (fun z=>ek z nw) hp
 have yD:(b9 (ay x nw) nw).length<=30:=BU (nW _ (sR nw) _) (p9 hT.kB).1
 have Z5:b9 (ay x nw) nw≠[]->(ay x nw).State=1\/(ay x nw).State=3\/(ay x nw).State=5:=wW hT (now:=nw)
 rw[eC,eF,eT,e3]
 refine⟨sL,.inl ⟨⟨rfl,rfl,by omega,by omega,?_,rfl,?_⟩,?_,?_⟩⟩
 ·show u2 (instT (p.1,p.2.1,p.2.2.1,(ek (ay x nw) nw).ai,p.2.2.2.2.1,p.2.2.2.2.2.1,(ay x nw).State,p.2.2.2.2.2.2.2.1,()))
  rw[eS];exact nI hS
 ·show dZ _ _ (instT (p.1,p.2.1,p.2.2.1,(ek (ay x nw) nw).ai,p.2.2.2.2.1,p.2.2.2.2.2.1,(ay x nw).State,p.2.2.2.2.2.2.2.1,()))=_
  rw[eS];rfl
 ·clear eC eF eT eS e1 OQ sL
  rintro⟨i,calls,failed,q,z,⟨⟩⟩ ⟨hc,hf,h1,h2,hY,hq,hE⟩
  obtain⟨d',hY⟩:u2 (instT q):=hY
  have h1:0<=i:=h1
  have hc:calls=iz x nw:=hc
  have hf:failed=b9 (ay x nw) nw:=hf
  have h2:i<=(failed.length:Int):=h2
  subst hc hf
  have hq:q.2.2.2.1=(ek (ay x nw) nw).ai:=hq
  have hE:dZ (ay x nw).State (((b9 (ay x nw) nw).map (kL (ek (ay x nw) nw).ai)).drop i.toNat) (instT q)=lQ x nw:=hE
  have ml:((b9 (ay x nw) nw).map (kL (ek (ay x nw) nw).ai)).length=(b9 (ay x nw) nw).length:=BV _
  have w1:=wi (n:=i+1)
  have nx2:∀(z:aj)(j:Int),j=i+1->i<(b9 (ay x nw) nw).length->u2 z->((ay x nw).State=1->¬z.State=1)->dZ (ay x nw).State (((b9 (ay x nw) nw).map (kL (ek (ay x nw) nw).ai)).drop (i+1).toNat) z=lQ x nw->bJ x nw (j,iz x nw,b9 (ay x nw) nw,uQ z,())/\bA x nw (j,iz x nw,b9 (ay x nw) nw,uQ z,())<jF x nw (i,iz x nw,b9 (ay x nw) nw,q,(),()):=by
   rintro z j rfl hi hz vl hz3
   exact⟨⟨rfl,rfl,by omega,by omega,hz,vl,hz3⟩,by show(b9 (ay x nw) nw).length-(i+1).toNat<(b9 (ay x nw) nw).length-i.toNat;omega⟩
  have nx1:∀(z:aj)(j:Int),j=i+1->i<(b9 (ay x nw) nw).length->u2 z->z.ai=(ek (ay x nw) nw).ai->dZ (ay x nw).State (((b9 (ay x nw) nw).map (kL (ek (ay x nw) nw).ai)).drop (i+1).toNat) z=lQ x nw->rc x nw (j,iz x nw,b9 (ay x nw) nw,uQ z,(),())/\jF x nw (j,iz x nw,b9 (ay x nw) nw,uQ z,(),())<jF x nw (i,iz x nw,b9 (ay x nw) nw,q,(),()):=by
   rintro z j rfl hi hz vl hz3
   exact⟨⟨rfl,rfl,by omega,by omega,hz,vl,hz3⟩,by show(b9 (ay x nw) nw).length-(i+1).toNat<(b9 (ay x nw) nw).length-i.toNat;omega⟩
  refine bT (fun g=>⟨h1,?_⟩) (fun g=> ?_)
  ·have g:i<((b9 (ay x nw) nw).length:Int):=g
   have hn:i.toNat<(b9 (ay x nw) nw).length:=by omega
   have hk:=oM (z:=ak) hn
   obtain⟨k1,k2⟩:=uu hk
   have Gx:=sQ hT.kB gb.1 gb.2 hk
   refine⟨hn,hn,Ib (fun hs=> ?_) (fun hs=> ?_)⟩
   ·have hs:¬(instT q).State=(ay x nw).State:=hs
    rw[ur hs] at hE
    exact⟨by trivial,rfl,uf hE⟩
   ·have hs:(instT q).State=(ay x nw).State:=hs
    rw[oQ h1 (by omega),if_pos hs,al3 _ ak _ hn] at hE
    refine ix ?_ ?_<;>intro s1
    ·have s1:(ay x nw).State=1:=s1
     rw[if_pos s1] at hE
     have key:∀l:List ag,l=(ek (ay x nw) nw).ai->0<=cN l ((b9 (ay x nw) nw).getD i.toNat ak)/\(cN l ((b9 (ay x nw) nw).getD i.toNat ak)).toNat<l.length/\(l.getD (cN l ((b9 (ay x nw) nw).getD i.toNat ak)).toNat aq).F=kL (ek (ay x nw) nw).ai ((b9 (ay x nw) nw).getD i.toNat ak):=by
      rintro l rfl
      refine⟨k1,?_,rfl⟩
      have:cN (ek (ay x nw) nw).ai ((b9 (ay x nw) nw).getD i.toNat ak)<((ek (ay x nw) nw).ai.length:Int):=k2
      have h0:0<=cN (ek (ay x nw) nw).ai ((b9 (ay x nw) nw).getD i.toNat ak):=k1
      omega
     obtain⟨a1,a2,a3⟩:=key _ hq
     have hm:=uv (w:=OZ) (v:=tN) (wV Gx) IP AR
     refine⟨a1,a2,a2,a2,?_⟩
     dsimp only
     rw[a3]
     by_cases hz:(bE (instT q).S (pn (kL (ek (ay x nw) nw).ai ((b9 (ay x nw) nw).getD i.toNat ak)) OZ tN)).2=0
     ·refine .inl ⟨hY.good,hY.store,by simp[pn],.inr (nx2 (fx (instT q) _) _ w1 g ⟨d',jL hY.tocoreX (hs.trans s1) hm⟩ (fun _=> ?_) hE)⟩
      have e:fx (instT q) (pn (kL (ek (ay x nw) nw).ai ((b9 (ay x nw) nw).getD i.toNat ak)) OZ tN)=nf (instT q) 3:=if_pos hz
      have h9:=LA (instT q)
      rw[<-e] at h9;exact h9
     ·have e:fx (instT q) (pn (kL (ek (ay x nw) nw).ai ((b9 (ay x nw) nw).getD i.toNat ak)) OZ tN)=Ct (instT q) (bE (instT q).S (pn (kL (ek (ay x nw) nw).ai ((b9 (ay x nw) nw).getD i.toNat ak)) OZ tN)).1:=if_neg hz
      rw[e] at hE
      refine .inr ⟨hY.store,hz,by simp[pn],.inl (nx1 (Ct (instT q) _) _ w1 g ⟨d',?_⟩ hq hE)⟩
      have h9:iv d' (fx (instT q) (pn (kL (ek (ay x nw) nw).ai ((b9 (ay x nw) nw).getD i.toNat ak)) OZ tN)):=jL hY.tocoreX (hs.trans s1) hm
      rw[e] at h9;exact h9
    ·have s1:¬(ay x nw).State=1:=s1
     rw[if_neg s1] at hE
     have h3:=Z5 (by intro e;rw[e] at hn;simp at hn)
     have SE:(instT q).State=3\/(instT q).State=5:=by omega
     exact⟨hY.good,SE,.inr (nx2 _ _ w1 g ⟨d',qb hY.tocoreX SE⟩ (fun e=>absurd e s1) hE)⟩
  ·have g:¬i<((b9 (ay x nw) nw).length:Int):=g
   rw[List.drop_eq_nil_of_le (by omega)] at hE
   exact⟨by trivial,rfl,uf (a:=instT q) hE⟩
 ·clear eC eF eT eS e1 OQ sL
  rintro⟨i,calls,failed,q,⟨⟩⟩ ⟨hc,hf,h1,h2,hY,hN,hE⟩
  obtain⟨d',hY⟩:u2 (instT q):=hY
  have h1:0<=i:=h1
  have hc:calls=iz x nw:=hc
  have hf:failed=b9 (ay x nw) nw:=hf
  have h2:i<=(failed.length:Int):=h2
  subst hc hf
  have hN:(ay x nw).State=1->¬(instT q).State=1:=hN
  have hE:dZ (ay x nw).State (((b9 (ay x nw) nw).map (kL (ek (ay x nw) nw).ai)).drop i.toNat) (instT q)=lQ x nw:=hE
  have ml:((b9 (ay x nw) nw).map (kL (ek (ay x nw) nw).ai)).length=(b9 (ay x nw) nw).length:=BV _
  have w1:=wi (n:=i+1)
  have nx2:∀(z:aj)(j:Int),j=i+1->i<(b9 (ay x nw) nw).length->u2 z->((ay x nw).State=1->¬z.State=1)->dZ (ay x nw).State (((b9 (ay x nw) nw).map (kL (ek (ay x nw) nw).ai)).drop (i+1).toNat) z=lQ x nw->bJ x nw (j,iz x nw,b9 (ay x nw) nw,uQ z,())/\bA x nw (j,iz x nw,b9 (ay x nw) nw,uQ z,())<bA x nw (i,iz x nw,b9 (ay x nw) nw,q,()):=by
   rintro z j rfl hi hz vl hz3
   exact⟨⟨rfl,rfl,by omega,by omega,hz,vl,hz3⟩,by show(b9 (ay x nw) nw).length-(i+1).toNat<(b9 (ay x nw) nw).length-i.toNat;omega⟩
  refine bT (fun g=>⟨h1,?_⟩) (fun g=> ?_)
  ·have g:i<((b9 (ay x nw) nw).length:Int):=g
   have hn:i.toNat<(b9 (ay x nw) nw).length:=by omega
   refine⟨hn,hn,Ib (fun hs=> ?_) (fun hs=> ?_)⟩
   ·have hs:¬(instT q).State=(ay x nw).State:=hs
    rw[ur hs] at hE
    exact⟨by trivial,rfl,uf hE⟩
   ·have hs:(instT q).State=(ay x nw).State:=hs
    rw[oQ h1 (by omega),if_pos hs] at hE
    refine ix (fun s1=>absurd (hs.trans s1) (hN s1)) (fun s1=> ?_)
    have s1:¬(ay x nw).State=1:=s1
    rw[if_neg s1] at hE
    have h3:=Z5 (by intro e;rw[e] at hn;simp at hn)
    have SE:(instT q).State=3\/(instT q).State=5:=by omega
    exact⟨hY.good,SE,.inr (nx2 _ _ w1 g ⟨d',qb hY.tocoreX SE⟩ (fun e=>absurd e s1) hE)⟩
  ·have g:¬i<((b9 (ay x nw) nw).length:Int):=g
   rw[List.drop_eq_nil_of_le (by omega)] at hE
   exact⟨by trivial,rfl,uf (a:=instT q) hE⟩
theorem uN(x:aj)(now:Int)(hp:∀p∈BM.pre (x,now),p)(hb:∀d∈BM.ds (x,now),eJ d):xa EE QY f39 BM RM (x,now) 11 (jm (x,now)):=by
 have bj:=nD (x:=x) (hb _ m0)
 have e9:=bj.1
 have gO:=bj.2.1
 have gN:=bj.2.2.1
 have fS:=bj.2.2.2.1
 have gM:=bj.2.2.2.2
 have pf:=iK (n:=now) (hb _ m1)
 have bD:u2 x:=hp _ m0
 have gb:0<=now/\now<=1000000000:=hp _ m1
 clear hp hb
 apply vE (bif x.State==1 then L4 (ca x.ah)/\uH x now (0,ij now x.ah,(x.S.ab,x.S.Next,x.av,x.ai,AJ now x.ah,x.ao,x.State,now,()),())/\∀(y:Int×List ap×T5×PUnit),let x2:={ab:=y.2.2.1.1,Next:=y.2.2.1.2.1:az};let x3:=(y.2.1.getD y.1.toNat cD).F;let x4:=wrap i64 (y.1+1);let x1:={S:=x2,av:=y.2.2.1.2.2.1,ai:=y.2.2.1.2.2.2.1,ah:=y.2.2.1.2.2.2.2.1,ao:=y.2.2.1.2.2.2.2.2.1,State:=y.2.2.1.2.2.2.2.2.2.1,ez:=y.2.2.1.2.2.2.2.2.2.2.1:aj};let x0:=fx x1 x3;let q0:=bE {ab:={τ:=Cd.aP,xs:=y.2.2.1.1:eK UU}.xs,Next:=y.2.2.1.2.1:az} {Kind:=x3.Kind,ae:={τ:=Cd.bm,xs:=(List.getD {τ:=Cd.ax,xs:=y.2.1:eK UU}.xs y.1.toNat (UU.eP {τ:=Cd.ax,xs:=y.2.1:eK UU}.τ)).F.ae:eK UU}.xs:aA};let q1:=(y.2.2.1.1,y.2.2.1.2.1,y.2.2.1.2.2.1,y.2.2.1.2.2.2.1,y.2.2.1.2.2.2.2.1,y.2.2.1.2.2.2.2.2.1,y.2.2.1.2.2.2.2.2.2.1,y.2.2.1.2.2.2.2.2.2.2.1,());let q2:=(x4,y.2.1,(q0.1.ab,q0.1.Next,y.2.2.1.2.2.1,y.2.2.1.2.2.2.1,y.2.2.1.2.2.2.2.1,y.2.2.1.2.2.2.2.2.1,y.2.2.1.2.2.2.2.2.2.1,y.2.2.1.2.2.2.2.2.2.2.1,()),());let q3:=(x4,y.2.1,(x0.S.ab,x0.S.Next,x0.av,x0.ai,x0.ah,x0.ao,x0.State,x0.ez,()),());uH x now y->bif decide (y.1<(↑((ij now x.ah).length):Int)) then 0<=y.1/\y.1.toNat<y.2.1.length/\y.1.toNat<y.2.1.length/\bif y.2.2.1.2.2.2.2.2.2.1==1 then y.1.toNat<y.2.1.length/\ey x1/\bP x2=true/\L4 x3.ae.length/\uH x now q3/\qN x now q3<qN x now y\/y.1.toNat<y.2.1.length/\bP x2=true/\¬q0.2=0/\L4 x3.ae.length/\uH x now q2/\qN x now q2<qN x now y else uH x now (x4,y.2.1,q1,())/\qN x now (x4,y.2.1,q1,())<qN x now y else eU x now (now,q1,()) else eU x now (now,(x.S.ab,x.S.Next,x.av,x.ai,x.ah,x.ao,x.State,now,()),()))
 dsimp only
 obtain⟨d,hX⟩:=bD
 have hts:=(uR hX.timers).2
 have fin:∀z:aj,z=ay x now->eU x now (now,uQ z,()):=fun z hz=>⟨rfl,hz⟩
 refine ix (fun hs=>⟨by omega,⟨rfl,by omega,by omega,?_,?_⟩,?_⟩) (fun hs=> ?_)
 ·exact nI (sF (d:=d) (x:=Ye x now) ⟨hX.BD,hX.store,hX.kB,pa _ hX.timers,hX.rl,gb,hX.NL,hX.sg⟩ hs)
 ·exact(if_pos hs).symm
 ·have h30:(ij now x.ah).length<=30:=BU (O1 _ _) (uR hX.timers).1
  have Gx:∀t∈ij now x.ah,cg t.F=true:=fun t ht=>by
   have:=(p8.1 hX.timers).2.1 t (BW.1 ht).1
   simp only[iD,eE] at this
   exact this.2
  rintro⟨i,l,p,⟨⟩⟩ ⟨rfl,h1,h2,hY,hE⟩
  obtain⟨d',hY⟩:u2 (instT p):=hY
  have h1:0<=i:=h1
  have h2:i<=(ij now x.ah).length:=h2
  have hE:jD ((ij now x.ah).drop i.toNat) (instT p)=ay x now:=hE
  have nx:∀(z:aj)(j:Int),j=i+1->i<(ij now x.ah).length->u2 z->jD ((ij now x.ah).drop (i+1).toNat) z=ay x now->uH x now (j,ij now x.ah,uQ z,())/\qN x now (j,ij now x.ah,uQ z,())<qN x now (i,ij now x.ah,p,()):=by
   rintro z j rfl hi hz vl
   exact⟨⟨rfl,by omega,by omega,hz,vl⟩,by show(ij now x.ah).length-(i+1).toNat<(ij now x.ah).length-i.toNat;omega⟩
  refine bT (fun hc=>⟨h1,?_⟩) (fun hc=> ?_)
  ·have hc:i<((ij now x.ah).length:Int):=hc
   have hn:i.toNat<(ij now x.ah).length:=by omega
   refine⟨hn,hn,ix (fun g=> .inl ?_) (fun g=> ?_)⟩
   ·have g:(instT p).State=1:=g
    have hf:=Gx _ (oM (z:=cD) hn)
    rw[xG h1 hc,if_pos g] at hE
    exact⟨hn,hY.good,hY.store,BU (tU hf).1 (by omega),nx _ _ (wi (n:=i+1)) hc ⟨d',jL hY.tocoreX g hf⟩ hE⟩
   ·have g:¬(instT p).State=1:=g
    rw[ug g] at hE
    exact nx (instT p) _ (wi (n:=i+1)) hc ⟨d',hY⟩ (by rw[ug g];exact hE)
  ·have hc:¬i<((ij now x.ah).length:Int):=hc
   rw[List.drop_eq_nil_of_le (by omega)] at hE
   exact fin (instT p) hE
 ·exact fin (I2 x now) (if_neg hs).symm
attribute [local irreducible] xa sf in
theorem am7:Holds EE (39,BM):=by
 refine CM sw func39 BM (by kernel_rfl) QY (Av _) RM 11 jm (by kernel_rfl) (fun x hp hb=> ?_)
 obtain⟨x,now⟩:=x
 refine⟨uN x now hp hb,fun(y:Int×T0×Unit) hy=> ?_⟩
 have hy:eU x now y:=hy
 exact uO x now y hp hb hy
def aoq:HH:=⟨_,am7⟩
def mZ(d:cr)(x:aj)(now:Int):Bool:=instOk d x&&(!decide (x.State=2\/x.State=4\/x.State=6)&&decide (x.ez<=now/\now<=1000000000))
def cH(d:cr)(x:aj)(now:Int):aj×List ci:=if mZ d x now=true then(lQ x now,iz x now) else(x,[])
theorem I7{d:cr}{x:aj}{now:Int}(h:mZ d x now=false):cH d x now=(x,[]):=if_neg (fun e=>absurd (h.symm.trans e) (by decide))
theorem FQ{d:cr}{x:aj}{now:Int}(h1:instOk d x=true)(h2:¬(x.State=2\/x.State=4\/x.State=6))(h3:x.ez<=now/\now<=1000000000):cH d x now=(lQ x now,iz x now):=if_pos (by rw[mZ,h1,decide_eq_false h2,decide_eq_true h3];rfl)
def Zk9:=bB (α:=cr×aj×Int) (qC (qA .kN) (qC (qA .cz) (q1 qI))) [.ro,.ro,.ro] (fun(d,x,now)=>[ct d<=4294967295,bQ x<=4294967295]) (fun(d,x,now)=>⟨[dA .cz ((cH d x now).1),dL .cu ((cH d x now).2)],[],[]⟩)
def Zh9:HH:=hF Zk9 func9 [aos,afn,xo,aor,aoq] a0 fun x hp hb=>by
 obtain⟨d,x,now⟩:=x
 have bj:=lB (x:=d) (hb _ m0)
 have ma:=bj.1
 have ld:=bj.2
 have er:=kQ (x:=x) (hb _ m1)
 have e9:=er.1
 have gO:=er.2.1
 have gN:=er.2.2.1
 have fS:=er.2.2.2.1
 have gM:=er.2.2.2.2
 have pf:=iK (n:=now) (hb _ m2)
 have bD:ct d<=4294967295:=hp _ m0
 have gb:bQ x<=4294967295:=hp _ m1
 clear hp hb
 apply vE (let q0:=Lf [DV.agg (br x),VL .cu []] [DV.agg [CL .aP (cH d x now).1.S.ab,CI ((cH d x now).1.S.Next),CL .aI (cH d x now).1.av,CL .aw (cH d x now).1.ai,CL .ax (cH d x now).1.ah,CL .aW (cH d x now).1.ao,CI ((cH d x now).1.State),CI ((cH d x now).1.ez)],VL .cu ((cH d x now).2)];let q1:=cH d x now;L4 (bQ x)/\bif decide (x.State=2\/x.State=4\/x.State=6) then q0 else bif !decide (x.ez<=now/\now<=1000000000) then q0 else ct d<=4294967295/\L4 (bq x.S.ab)/\bif !instOk d x then q0 else u2 x/\(0<=now/\now<=1000000000)/\Lf [DV.agg (br (lQ x now)),VL .cu (iz x now)] [DV.agg [CL .aP q1.1.S.ab,CI (q1.1.S.Next),CL .aI q1.1.av,CL .aw q1.1.ai,CL .ax q1.1.ah,CL .aW q1.1.ao,CI (q1.1.State),CI (q1.1.ez)],VL .cu (q1.2)])
 dsimp only
 have hi:=nt x
 have no:mZ d x now=false->Lf [.agg [.sl .aP x.S.ab,.lit (.int .i64 x.S.Next),.sl .aI x.av,.sl .aw x.ai,.sl .ax x.ah,.sl .aW x.ao,.lit (.int .i64 x.State),.lit (.int .i64 x.ez)],.one (.sl .cu [])] [.agg [.sl .aP (cH d x now).1.S.ab,.lit (.int .i64 (cH d x now).1.S.Next),.sl .aI (cH d x now).1.av,.sl .aw (cH d x now).1.ai,.sl .ax (cH d x now).1.ah,.sl .aW (cH d x now).1.ao,.lit (.int .i64 (cH d x now).1.State),.lit (.int .i64 (cH d x now).1.ez)],.one (.sl .cu (cH d x now).2)]:=fun h=>by
  rw[I7 h];exact aH _
 refine⟨by omega,bT (fun h=>no ?_) (fun h=>cB (fun h2=>no ?_) (fun h2=>⟨bD,by omega,cB (fun h3=>no ?_) (fun h3=> ?_)⟩))⟩
 ·rw[mZ,decide_eq_true h];simp
 ·rw[mZ,show decide (x.ez<=now/\now<=1000000000)=false from h2];simp
 ·rw[mZ,show instOk d x=false from h3];rfl
 ·have h2:=yT h2
  have hX:=wQ.1 h3
  have hN:=hX.now.1
  rw[FQ h3 h h2]
  exact⟨nI hX,⟨by omega,h2.2⟩,aH _⟩
def Zk6:=bB (α:=cr×aj×Int) (qC (qA .kN) (qC (qA .cz) (q1 qI))) [.ro,.ro,.ro] (fun(d,x,now)=>[ct d<=4294967295,bQ x<=4294967295]) (fun(d,x,now)=>⟨[dA .cz ((cH d x now).1),dL .cu ((cH d x now).2)],[],[]⟩)
def Zh6:HH:=hF Zk6 func6 [aoB,aoA,afS,rG,aoz] a0 fun x hp hb=>by
 obtain⟨d,x,now⟩:=x
 have bj:=lB (x:=d) (hb _ m0)
 have ma:=bj.1
 have ld:=bj.2
 have er:=kQ (x:=x) (hb _ m1)
 have e9:=er.1
 have gO:=er.2.1
 have gN:=er.2.2.1
 have fS:=er.2.2.2.1
 have gM:=er.2.2.2.2
 have pf:=iK (n:=now) (hb _ m2)
 have bD:ct d<=4294967295:=hp _ m0
 have gb:bQ x<=4294967295:=hp _ m1
 clear hp hb
 apply vE (let q0:=Lf [DV.agg (br x),VL .cu []] [DV.agg [CL .aP (cH d x now).1.S.ab,CI ((cH d x now).1.S.Next),CL .aI (cH d x now).1.av,CL .aw (cH d x now).1.ai,CL .ax (cH d x now).1.ah,CL .aW (cH d x now).1.ao,CI ((cH d x now).1.State),CI ((cH d x now).1.ez)],VL .cu ((cH d x now).2)];let q1:=cH d x now;L4 (bQ x)/\ct d<=4294967295/\L4 (bq x.S.ab)/\bif !instOk d x then q0 else bif decide (x.State=2\/x.State=4\/x.State=6) then q0 else bif !decide (x.ez<=now/\now<=1000000000) then q0 else u2 x/\(0<=now/\now<=1000000000)/\Lf [DV.agg (br (lQ x now)),VL .cu (iz x now)] [DV.agg [CL .aP q1.1.S.ab,CI (q1.1.S.Next),CL .aI q1.1.av,CL .aw q1.1.ai,CL .ax q1.1.ah,CL .aW q1.1.ao,CI (q1.1.State),CI (q1.1.ez)],VL .cu (q1.2)])
 dsimp only
 have hi:=nt x
 have no:mZ d x now=false->Lf [.agg [.sl .aP x.S.ab,.lit (.int .i64 x.S.Next),.sl .aI x.av,.sl .aw x.ai,.sl .ax x.ah,.sl .aW x.ao,.lit (.int .i64 x.State),.lit (.int .i64 x.ez)],.one (.sl .cu [])] [.agg [.sl .aP (cH d x now).1.S.ab,.lit (.int .i64 (cH d x now).1.S.Next),.sl .aI (cH d x now).1.av,.sl .aw (cH d x now).1.ai,.sl .ax (cH d x now).1.ah,.sl .aW (cH d x now).1.ao,.lit (.int .i64 (cH d x now).1.State),.lit (.int .i64 (cH d x now).1.ez)],.one (.sl .cu (cH d x now).2)]:=fun h=>by
  rw[I7 h];exact aH _
 refine⟨by omega,bD,by omega,cB (fun h3=>no ?_) (fun h3=>bT (fun h=>no ?_) (fun h=>cB (fun h2=>no ?_) (fun h2=> ?_)))⟩
 ·rw[mZ,show instOk d x=false from h3];rfl
 ·rw[mZ,decide_eq_true h];simp
 ·rw[mZ,show decide (x.ez<=now/\now<=1000000000)=false from h2];simp
 ·have h2:=yT h2
  have hX:=wQ.1 h3
  have hN:=hX.now.1
  rw[FQ h3 h h2]
  exact⟨nI hX,⟨by omega,h2.2⟩,aH _⟩
theorem G2(now:Int):∀l:List ag,(l.flatMap (fm now)).length<=l.length
 |[]=>by simp
 |t::l=>by
  have h:=G2 now l
  have h1:(fm now t).length<=1:=by unfold fm;split<;>simp
  rw[xv,wG,n_];omega
theorem K8{now:Int}{l:List ag}(h:aO l=true):pC (l.flatMap (fm now))<=15000:=by
 have hl:=(lm.1 h).1
 have h1:=G2 now l
 have h2:=Pb rR 345 (l.flatMap (fm now)) fun c hc=>by
  obtain⟨t,ht,ky⟩:=nl.1 hc
  have hf:=tU (jc.1 ((lm.1 h).2.1 t ht)).1
  have hs:=Cp t.F
  unfold fm at ky
  split at ky
  ·rw[oa.1 ky]
   simp only[rR];omega
  ·cases ky
 simp only[pC]
 have h3:(l.flatMap (fm now)).length*345<=30*345:=wH _ (by omega)
 omega
theorem J3{d:cr}(x:aj)(now:Int):bQ (cH d x now).1<=bQ x+50000/\pC (cH d x now).2<=15000:=by
 unfold cH
 split
 ·rename_i h
  simp only[mZ,eE,decide_eq_true_eq] at h
  have hX:=wQ.1 h.1
  have hn:0<=now/\now<=1000000000:=⟨by have:=hX.now.1;omega,h.2.2.2⟩
  have hR:=HR hX hn.1 hn.2
  have hz:=HS hR.tocoreX
  exact⟨by show bQ (lQ x now)<=_;omega,K8 (oy hX hn.1 hn.2).kB⟩
 ·exact⟨Nat.le_add_right _ _,by simp[pC]⟩
theorem Gj(y:aj)(k:Int):(⟨⟨(jg y k).S.ab,y.S.Next⟩,(jg y k).av,(jg y k).ai,(jg y k).ah,(jg y k).ao,y.State,y.ez⟩:aj)=jg y k:=rfl
def fH:jH UU where
 α:=cr×aj×Int
 md:=[.ro,.ro,.ro]
 of:=oC (oA .pd) (oC (oA .kG) (o1 oI))
 ds:=fun x=>[dA .pd x.1,dA .kG x.2.1,dI x.2.2]
 pre:=fun _=>[]
 mE:=fun(aD,aX,qM)=>⟨[dO true],[],[]⟩
 law:=lC (lA .pd) (lC (lA .kG) (l1 lI))
def po:fH.α->Nat->Option (rJ UU):=fun(aD,aX,qM)=>bh []
def o_:=us [Zh4,Zh5,Zh7,Zh8,Zh6,Zh9,aoP,aoO,aoN,aoM,aoL,aoK,aoJ,aoI]
theorem pF:Holds EE (3,fH):=by
 refine holds_of sw func3 fH (by kernel_rfl) o_ (Av _) po (fun x hp hb=> ?_)
 obtain⟨aD,aX,qM⟩:=x
 have bj:=Ek (x:=aD) (hb _ m0)
 have XD:=bj.1
 have Sw:=bj.2
 have er:=BH (x:=aX) (hb _ m1)
 have OU:=er.1
 have Sv:=er.2.1
 have Su:=er.2.2.1
 have Qv:=er.2.2.2.1
 have St:=er.2.2.2.2
 have aje:=iK (n:=qM) (hb _ m2)
 clear hp hb
 apply vE (let x5:=jg (cH {Name:=aD.Name,aT:={τ:=Cd.cy,xs:=aD.aT:eK UU}.xs:cr} {S:={ab:={τ:=Cd.aP,xs:=aX.S.ab:eK UU}.xs,Next:=aX.S.Next:az},av:={τ:=Cd.aI,xs:=aX.av:eK UU}.xs,ai:={τ:=Cd.aw,xs:=aX.ai:eK UU}.xs,ah:={τ:=Cd.ax,xs:=aX.ah:eK UU}.xs,ao:={τ:=Cd.aW,xs:=aX.ao:eK UU}.xs,State:=aX.State,ez:=aX.ez:aj} qM).1 1;let x6:= !decide ((cH {Name:=aD.Name,aT:={τ:=Cd.cy,xs:=aD.aT:eK UU}.xs:cr} {S:={ab:={τ:=Cd.aP,xs:=aX.S.ab:eK UU}.xs,Next:=aX.S.Next:az},av:={τ:=Cd.aI,xs:=aX.av:eK UU}.xs,ai:={τ:=Cd.aw,xs:=aX.ai:eK UU}.xs,ah:={τ:=Cd.ax,xs:=aX.ah:eK UU}.xs,ao:={τ:=Cd.aW,xs:=aX.ao:eK UU}.xs,State:=aX.State,ez:=aX.ez:aj} qM).2=(cH {Name:=aD.Name,aT:={τ:=Cd.cy,xs:=aD.aT:eK UU}.xs:cr} {S:={ab:={τ:=Cd.aP,xs:=aX.S.ab:eK UU}.xs,Next:=aX.S.Next:az},av:={τ:=Cd.aI,xs:=aX.av:eK UU}.xs,ai:={τ:=Cd.aw,xs:=aX.ai:eK UU}.xs,ah:={τ:=Cd.ax,xs:=aX.ah:eK UU}.xs,ao:={τ:=Cd.aW,xs:=aX.ao:eK UU}.xs,State:=aX.State,ez:=aX.ez:aj} qM).2);let x7:= !decide ((cH {Name:=aD.Name,aT:={τ:=Cd.cy,xs:=aD.aT:eK UU}.xs:cr} {S:={ab:={τ:=Cd.aP,xs:=aX.S.ab:eK UU}.xs,Next:=aX.S.Next:az},av:={τ:=Cd.aI,xs:=aX.av:eK UU}.xs,ai:={τ:=Cd.aw,xs:=aX.ai:eK UU}.xs,ah:={τ:=Cd.ax,xs:=aX.ah:eK UU}.xs,ao:={τ:=Cd.aW,xs:=aX.ao:eK UU}.xs,State:=aX.State,ez:=aX.ez:aj} qM).1=(cH {Name:=aD.Name,aT:={τ:=Cd.cy,xs:=aD.aT:eK UU}.xs:cr} {S:={ab:={τ:=Cd.aP,xs:=aX.S.ab:eK UU}.xs,Next:=aX.S.Next:az},av:={τ:=Cd.aI,xs:=aX.av:eK UU}.xs,ai:={τ:=Cd.aw,xs:=aX.ai:eK UU}.xs,ah:={τ:=Cd.ax,xs:=aX.ah:eK UU}.xs,ao:={τ:=Cd.aW,xs:=aX.ao:eK UU}.xs,State:=aX.State,ez:=aX.ez:aj} qM).1);let x8:=(1:Int)+(↑(gW (cH {Name:=aD.Name,aT:={τ:=Cd.cy,xs:=aD.aT:eK UU}.xs:cr} {S:={ab:={τ:=Cd.aP,xs:=aX.S.ab:eK UU}.xs,Next:=aX.S.Next:az},av:={τ:=Cd.aI,xs:=aX.av:eK UU}.xs,ai:={τ:=Cd.aw,xs:=aX.ai:eK UU}.xs,ah:={τ:=Cd.ax,xs:=aX.ah:eK UU}.xs,ao:={τ:=Cd.aW,xs:=aX.ao:eK UU}.xs,State:=aX.State,ez:=aX.ez:aj} qM).1):Int);let rz:=x8+(↑(fW (cH {Name:=aD.Name,aT:={τ:=Cd.cy,xs:=aD.aT:eK UU}.xs:cr} {S:={ab:={τ:=Cd.aP,xs:=aX.S.ab:eK UU}.xs,Next:=aX.S.Next:az},av:={τ:=Cd.aI,xs:=aX.av:eK UU}.xs,ai:={τ:=Cd.aw,xs:=aX.ai:eK UU}.xs,ah:={τ:=Cd.ax,xs:=aX.ah:eK UU}.xs,ao:={τ:=Cd.aW,xs:=aX.ao:eK UU}.xs,State:=aX.State,ez:=aX.ez:aj} qM).2):Int);let ya:=(1:Int)+(↑(vN aD):Int);let BX:=dR 1048576 (ct aD);let x3:={S:={ab:=x5.S.ab,Next:=(cH {Name:=aD.Name,aT:={τ:=Cd.cy,xs:=aD.aT:eK UU}.xs:cr} {S:={ab:={τ:=Cd.aP,xs:=aX.S.ab:eK UU}.xs,Next:=aX.S.Next:az},av:={τ:=Cd.aI,xs:=aX.av:eK UU}.xs,ai:={τ:=Cd.aw,xs:=aX.ai:eK UU}.xs,ah:={τ:=Cd.ax,xs:=aX.ah:eK UU}.xs,ao:={τ:=Cd.aW,xs:=aX.ao:eK UU}.xs,State:=aX.State,ez:=aX.ez:aj} qM).1.S.Next:az},av:=x5.av,ai:=x5.ai,ah:=x5.ah,ao:=x5.ao,State:=(cH {Name:=aD.Name,aT:={τ:=Cd.cy,xs:=aD.aT:eK UU}.xs:cr} {S:={ab:={τ:=Cd.aP,xs:=aX.S.ab:eK UU}.xs,Next:=aX.S.Next:az},av:={τ:=Cd.aI,xs:=aX.av:eK UU}.xs,ai:={τ:=Cd.aw,xs:=aX.ai:eK UU}.xs,ah:={τ:=Cd.ax,xs:=aX.ah:eK UU}.xs,ao:={τ:=Cd.aW,xs:=aX.ao:eK UU}.xs,State:=aX.State,ez:=aX.ez:aj} qM).1.State,ez:=(cH {Name:=aD.Name,aT:={τ:=Cd.cy,xs:=aD.aT:eK UU}.xs:cr} {S:={ab:={τ:=Cd.aP,xs:=aX.S.ab:eK UU}.xs,Next:=aX.S.Next:az},av:={τ:=Cd.aI,xs:=aX.av:eK UU}.xs,ai:={τ:=Cd.aw,xs:=aX.ai:eK UU}.xs,ah:={τ:=Cd.ax,xs:=aX.ah:eK UU}.xs,ao:={τ:=Cd.aW,xs:=aX.ao:eK UU}.xs,State:=aX.State,ez:=aX.ez:aj} qM).1.ez:aj};let x4:=iP (cH {Name:=aD.Name,aT:={τ:=Cd.cy,xs:=aD.aT:eK UU}.xs:cr} {S:={ab:={τ:=Cd.aP,xs:=aX.S.ab:eK UU}.xs,Next:=aX.S.Next:az},av:={τ:=Cd.aI,xs:=aX.av:eK UU}.xs,ai:={τ:=Cd.aw,xs:=aX.ai:eK UU}.xs,ah:={τ:=Cd.ax,xs:=aX.ah:eK UU}.xs,ao:={τ:=Cd.aW,xs:=aX.ao:eK UU}.xs,State:=aX.State,ez:=aX.ez:aj} qM).2 x8;let x2:=if jg x3 1=x3 then 1+(↑(gW x3):Int) else(-1);let x1:=if iP x4 x2=x4 then x2+(↑(fW x4):Int) else(-1);let x9:=x1 !=rz;let x0:=decide (x1<0);let q0:=Lb false true;(0:Int)<=(1048576:Int)/\bif decide (BX<0) then Lb true true else 0<=BX/\bif decide (dR BX (bQ aX)<0) then Lb true true else L4 (ct aD)/\L4 (bQ aX)/\ct aD<=4294967295/\bQ aX<=4294967295/\L4 (ct aD)/\L4 (bQ aX)/\ct aD<=4294967295/\bQ aX<=4294967295/\bif x7 then q0 else bif x6 then q0 else L4 (ct aD)/\bif !decide (aD=aD) then q0 else L4 (bQ aX)/\bif !decide (aX=aX) then q0 else(0:Int)<=(1:Int)/\ya<=4611686018427387904/\0<=ya/\ya+(↑(gW aX):Int)<=4611686018427387904/\bif x7 then q0 else bif x6 then q0 else(0:Int)<=(1:Int)/\x8<=4611686018427387904/\0<=x8/\rz<=4611686018427387904/\(0:Int)<=(1:Int)/\1+(↑(gW x3):Int)<=4611686018427387904/\bif decide (x2<0) then q0 else 0<=x2/\x2+(↑(fW x4):Int)<=4611686018427387904/\bif x0 then q0 else bif x9 then q0 else L4 (ct aD)/\L4 (bQ aX)/\ct aD<=4294967295/\bQ aX<=4294967295/\bif x7 then q0 else bif x6 then q0 else(0:Int)<=(1:Int)/\1+(↑(gW x3):Int)<=4611686018427387904/\bif decide (x2<0) then q0 else 0<=x2/\x2+(↑(fW x4):Int)<=4611686018427387904/\bif x0 then q0 else bif x9 then q0 else Lb true true)
 dsimp only
 refine⟨by omega,aa (fun h=>aH _) (fun h=> ?_)⟩
 obtain⟨e0,h0⟩:=dH h
 refine⟨by omega,aa (fun h=>aH _) (fun h=> ?_)⟩
 obtain⟨e1,h1⟩:=dH h
 have hc:=NV aD
 have B0:=Da aX
 have hi:=nt aX
 have Jr:=nt (cH aD aX qM).1
 have Jt:=Da (cH aD aX qM).1
 obtain⟨hc3,hc4⟩:=J3 (d:=aD) aX qM
 have hc5:=GZ (cH aD aX qM).2
 have eD:(⟨aD.Name,aD.aT⟩:cr)=aD:=rfl
 have eX:(⟨⟨aX.S.ab,aX.S.Next⟩,aX.av,aX.ai,aX.ah,aX.ao,aX.State,aX.ez⟩:aj)=aX:=rfl
 simp only[eD,eX,Gj,Gi,Ko,A3,DT,if_true]
 repeat' (first|exact aH _|refine And.intro (by omega) ?_|refine aa (fun h=>absurd h (by first|(simp;done)|(simp;omega))) (fun h=> ?_)|fail)
end
end AM
