import Derived.Test.YtmcepppejchhkaaGreatDoorQAmLib
import Derived.Test.YtmcepppejchhkaaGreatDoorQFTicked3
import Derived.Lib.ItoaLen
import Derived.Lib.Join
import Derived.Test.YtmcepppejchhkaaGreatDoorQShelf
namespace AM
open Go Go.Proofs.Tryz Go.IntKind
set_option linter.unusedVariables false
set_option linter.unusedSimpArgs false
set_option maxRecDepth 100000
noncomputable section
theorem LS{e:di}(h:eg e=true)(hk:e.Kind=1\/e.Kind=3\/e.Kind=4):bE e.F=true:=by
 simp only[eg] at h
 rcases hk with hk|hk|hk
 ·simp only[hk,decide_true,cond_true,cN] at h;exact h.1.1.1
 ·simp only[hk,show decide ((3:Int)=1)=false from rfl,show decide ((3:Int)=2)=false from rfl,decide_true,cond_true,cond_false,cN] at h;exact h.1.1.1
 ·simp only[hk,show decide ((4:Int)=1)=false from rfl,show decide ((4:Int)=2)=false from rfl,show decide ((4:Int)=3)=false from rfl,decide_true,cond_true,cond_false,cN] at h;exact h.1.1.1
theorem Td{e:di}(h:eg e=true):0<=e.N/\e.N<=100000:=by
 simp only[eg] at h
 by_cases h1:e.Kind=1
 ·simp only[h1,decide_true,cond_true,cN,decide_eq_true_eq] at h;omega
 by_cases h2:e.Kind=2
 ·simp only[h2,show decide ((2:Int)=1)=false from rfl,decide_true,cond_true,cond_false,cN,decide_eq_true_eq] at h;omega
 by_cases h3:e.Kind=3
 ·simp only[h3,show decide ((3:Int)=1)=false from rfl,show decide ((3:Int)=2)=false from rfl,decide_true,cond_true,cond_false,cN,decide_eq_true_eq] at h;omega
 by_cases h4:e.Kind=4
 ·simp only[h4,show decide ((4:Int)=1)=false from rfl,show decide ((4:Int)=2)=false from rfl,show decide ((4:Int)=3)=false from rfl,decide_true,cond_true,cond_false,cN,decide_eq_true_eq] at h;omega
 ·simp only[h1,h2,h3,h4,decide_false,cond_false] at h
  cases hc:(decide (e.Kind=5)||decide (e.Kind=6))<;>rw[hc] at h
  ·cases h
  ·simp only[cond_true,cN,decide_eq_true_eq] at h;omega
theorem y6{l:List di}{x:aq}{i:Int}(h0:0<=i)(h:i<l.length):j6 (l.drop i.toNat) x=if x.State=1 then j6 (l.drop (i+1).toNat) (hZ x (l.getD i.toNat vG)) else x:=by
 have e:(i+1).toNat=i.toNat+1:=by omega
 rw[Us (by omega),j6,e,eV,fE (by omega)];rfl
def agK:=bW (α:=aq×di) (qC (qX .cp) (q1 (qA .eD))) [.box true,.ro] (fun(x,e)=>[wK x,eg e=true]) (fun(x,e)=>⟨[],[],[dX .cp (hZ x e)]⟩)
def aim:HH:=hF agK func209 [TW,aiT,ah5,Uc,ah4,Y3,Mu] a0 fun x hp hb=>by
 obtain⟨x,e⟩:=x
 have bo:wK x:=hp _ m0
 have eJ:eg e=true:=hp _ m1
 clear hp hb
 apply vE (let x3:={S:=x.S,aA:=x.aA,aj:=(fH {τ:=Cd.az,xs:=x.aj:iE UU}.xs {Kind:=e.F.Kind,ag:=e.F.ag:aL} e.aW x.cd).1,ap:=x.ap,ax:=x.ax,State:=x.State,cd:=x.cd:aq};let x6:=wrap i64 (x.cd+e.N);let x7:={S:=x.S,aA:=x.aA,aj:=x.aj,ap:=rS x.ap {At:=(1000000000:Int),F:=e.F:aI},ax:=x.ax,State:=x.State,cd:=x.cd:aq};let x8:={ab:={τ:=Cd.aJ,xs:=x.S.ab:iE UU}.xs,Next:=x.S.Next:aD};let x0:=fX x3 3;let x2:=fX x7 3;let x5:={At:=x6,F:=e.F:aI};let x4:={S:=x.S,aA:=x.aA,aj:=x.aj,ap:=rS x.ap x5,ax:=x.ax,State:=x.State,cd:=x.cd:aq};let x1:=fX x4 3;let q0:=aG (hZ x e);let q1:=fH {τ:=Cd.az,xs:=x.aj:iE UU}.xs {Kind:=e.F.Kind,ag:=e.F.ag:aL} e.aW x.cd;let q2:=(3:Int)=(3:Int)\/(3:Int)=(5:Int);let q3:=ve x.S e.Id;bif e.Kind==1 then cH x/\bq x.S=true/\L4 e.F.ag.length/\LM [] [] [DV.box (aG (cJ x e.F))] [DV.box q0] else bif e.Kind==2 then x.S.ab.length<=1000/\bif decide (q3.ab.length<x.S.ab.length) then x.aA.length<=4294967295/\(∀(m:av),m∈x.aA->m.eo.length<=4294967295/\m.bw.length<=4294967295)/\LM [] [] [DV.box [CL .aJ q3.ab,CI (q3.Next),CL .aB (yS x.aA e.Id),CL .az x.aj,CL .aE x.ap,CL .aQ x.ax,CI x.State,CI x.cd]] [DV.box q0] else LM [] [] [DV.box [CL .aJ q3.ab,CI (q3.Next),CL .aB x.aA,CL .az x.aj,CL .aE x.ap,CL .aQ x.ax,CI x.State,CI x.cd]] [DV.box q0] else bif e.Kind==3 then L4 e.F.ag.length/\bif !q1.2 then cH x3/\q2/\LM [] [] [DV.box (aG x0)] [DV.box q0] else LM [] [] [DV.box [CL .aJ x.S.ab,CI x.S.Next,CL .aB x.aA,CL .az q1.1,CL .aE x.ap,CL .aQ x.ax,CI x.State,CI x.cd]] [DV.box q0] else bif e.Kind==4 then bif decide (x6>1000000000) then L4 (cy x.ap)/\ig {At:=(1000000000:Int),F:=e.F:aI}<=4294967296/\bif !nu x.ap {At:=(1000000000:Int),F:=e.F:aI} then cH x7/\q2/\LM [] [] [DV.box (aG x2)] [DV.box q0] else LM [] [] [DV.box [CL .aJ x.S.ab,CI x.S.Next,CL .aB x.aA,CL .az x.aj,CL .aE (rS x.ap {At:=(1000000000:Int),F:=e.F:aI}),CL .aQ x.ax,CI x.State,CI x.cd]] [DV.box q0] else L4 (cy x.ap)/\L4 (ig x5)/\bif !nu x.ap x5 then cH x4/\q2/\LM [] [] [DV.box (aG x1)] [DV.box q0] else LM [] [] [DV.box [CL .aJ x.S.ab,CI x.S.Next,CL .aB x.aA,CL .az x.aj,CL .aE (rS x.ap x5),CL .aQ x.ax,CI x.State,CI x.cd]] [DV.box q0] else bif e.Kind==5 then aN x.aj=true/\LM [] [] [DV.box (aG (uE x 2))] [DV.box q0] else cH x/\q2/\LM [] [] [DV.box (aG (fX x 3))] [DV.box q0])
 dsimp only
 obtain⟨d,hX⟩:=bo
 have hg:=hX.good
 have hf:=LS eJ
 have hN:=Td eJ
 have Qe:=Qn hX.tocoreX
 have h40:=(kI hX.store).2.2.1
 have aeu:=hX.now
 have hS:(⟨x.S.ab,x.S.Next⟩:aD)=x.S:=rfl
 have hF:(⟨e.F.Kind,e.F.ag⟩:aL)=e.F:=rfl
 simp only[hS,hF]
 refine bg (fun k=> ?_) (fun k1=>bg (fun k=> ?_) (fun k2=>bg (fun k=> ?_) (fun k3=>bg (fun k=> ?_) (fun k4=>bg (fun k=> ?_) (fun k5=> ?_)))))
 ·have e1:hZ x e=cJ x e.F:=if_pos k
  exact⟨hg,hX.store,by have:=(qi (hf (.inl k))).1;omega,by trivial,by trivial,mE e1.symm⟩
 ·have e1:hZ x e=Hv x e.Id:=(if_neg k1).trans (if_pos k)
  refine⟨by omega,aR (fun g=>⟨Qe.1,Qe.2,by trivial,by trivial,mE (a:=D_ (qT x (ve x.S e.Id)) (yS x.aA e.Id)) (e1.trans (if_pos g)).symm⟩) (fun g=>⟨by trivial,by trivial,mE (a:=qT x (ve x.S e.Id)) (e1.trans (if_neg g)).symm⟩)⟩
 ·have e1:hZ x e=N3 x e:=(if_neg k1).trans ((if_neg k2).trans (if_pos k))
  have hu:fA e.aW=true:=by
   simp only[eg,k,show decide ((3:Int)=1)=false from rfl,show decide ((3:Int)=2)=false from rfl,decide_true,cond_true,cond_false,cN] at eJ;exact eJ.2
  have hT:aN (fH x.aj e.F e.aW x.cd).1=true:=oc hX.ij (hf (.inr (.inl k))) hu aeu.1 (by omega)
  refine⟨by have:=(qi (hf (.inr (.inl k)))).1;omega,bx (fun g=>⟨⟨hT,hg.2⟩,.inl trivial,by trivial,by trivial,mE (e1.trans (if_neg (by rw[show(fH x.aj e.F e.aW x.cd).2=false from g];decide))).symm⟩) (fun g=>⟨by trivial,by trivial,mE (a:=qR x (fH x.aj e.F e.aW x.cd).1) (e1.trans (if_pos g)).symm⟩)⟩
 ·have e1:hZ x e=HU x e:=(if_neg k1).trans ((if_neg k2).trans ((if_neg k3).trans (if_pos k)))
  have hfx:=(qi (hf (.inr (.inr k)))).2
  have hts:=(sW hX.timers).2
  rw[wi (n:=x.cd+e.N)]
  have key:∀t:aI,uR x e=t->t.F=e.F->cy x.ap<=4294967296/\ig t<=4294967296/\bif !nu x.ap t then cH ⟨x.S,x.aA,x.aj,rS x.ap t,x.ax,x.State,x.cd⟩/\(True\/(3:Int)=5)/\LM [] [] [DV.box (aG (fX ⟨x.S,x.aA,x.aj,rS x.ap t,x.ax,x.State,x.cd⟩ 3))] [DV.box (aG (hZ x e))] else LM [] [] [DV.box (aG (NX x (rS x.ap t)))] [DV.box (aG (hZ x e))]:=by
   rintro t rfl wO
   refine⟨by omega,by simp only[ig,wO];omega,bx (fun g=>⟨hg,.inl trivial,by trivial,by trivial,mE (e1.trans (if_neg (by rw[show nu x.ap (uR x e)=false from g];decide))).symm⟩) (fun g=>⟨by trivial,by trivial,mE (e1.trans (if_pos g)).symm⟩)⟩
  refine aR ?_ ?_<;>intro g
  ·exact key ⟨1000000000,e.F⟩ (by unfold uR;rw[if_pos (by omega)]) rfl
  ·exact key ⟨x.cd+e.N,e.F⟩ (by unfold uR;rw[if_neg (by omega)]) rfl
 ·have e1:hZ x e=uE x 2:=(if_neg k1).trans ((if_neg k2).trans ((if_neg k3).trans ((if_neg k4).trans (if_pos k))))
  rw[e1]
  repeat' (first|exact hX.ij|exact rfl|trivial|refine And.intro (by first|exact hX.ij|rfl|trivial) ?_)
 ·have e1:hZ x e=fX x 3:=(if_neg k1).trans ((if_neg k2).trans ((if_neg k3).trans ((if_neg k4).trans (if_neg k5))))
  rw[e1]
  exact⟨hg,.inl trivial,by trivial,by trivial,rfl⟩
def YA:=bW (α:=br×aq×av) (qC (qA .h_) (qC (qX .cp) (q1 (qA .aB)))) [.ro,.box true,.ro] (fun(d,x,m)=>[cO d x,x.State=1,yQ x.S.ab m,m.eo.length<=4294967295]) (fun(d,x,m)=>⟨[],[],[dX .cp (qg d x m)]⟩)
def zN(d:br)(x:aq)(m:av):Int×List di×T0×Unit->Prop:=fun(i,l,p,_)=>l=nD d m/\0<=i/\i<=l.length/\cO d (instT p)/\j6 ((nD d m).drop i.toNat) (instT p)=qg d x m
def zz(d:br)(x:aq)(m:av):Int×List di×T0×Unit->Nat:=fun(i,l,p,_)=>l.length-i.toNat
def akb:AX YA:=fun(d,x,m)=>bS [(6,aT [iI 8,iO 6 .eD,.box 1 (2000001,0) [.own .aJ true,.lit (.int .i64),.own .aB true,.own .az true,.own .aE true,.own .aQ true,.lit (.int .i64),.lit (.int .i64)]] (fun _=>zN d x m) (zz d x m))]
def aiV:HH:=hF YA func159 [ain,Mu,aim] akb fun x hp hb=>by
 obtain⟨d,x,m⟩:=x
 have ey:=lc (x:=d) (hb _ m0)
 have j_:=ey.1
 have ja:=ey.2
 have hH:=ld (x:=x) (hb _ m1)
 have ee:=hH.1
 have fL:=hH.2.1
 have fK:=hH.2.2.1
 have e6:=hH.2.2.2.1
 have fJ:=hH.2.2.2.2
 have uo:=sE (x:=m) (hb _ m2)
 have Lx:=uo.1
 have E9:=uo.2
 have bo:cO d x:=hp _ m0
 have eJ:x.State=1:=hp _ m1
 have G':yQ x.S.ab m:=hp _ m2
 have hp3:m.eo.length<=4294967295:=hp _ m3
 clear hp hb
 apply vE (let x0:=[{cL:=m.cL,eo:=[]++m.eo,bw:=[]:av}];let q0:=cH x/\((3:Int)=(3:Int)\/(3:Int)=(5:Int))/\LM [] [] [DV.box (aG (fX x 3))] [DV.box (aG (qg d x m))];cE d<=4294967295/\bif !l8 d m then q0 else bif decide ((x.aA.length:Int)≥1000) then q0 else 0+m.eo.length<=4294967296/\L4 (x.aA.length+x0.length)/\zN d x m (0,nD d m,(x.S.ab,x.S.Next,x.aA++x0,x.aj,x.ap,x.ax,x.State,x.cd,()),())/\∀(y:Int×List di×T10×PUnit),let x2:={S:={ab:=y.2.2.1.1,Next:=y.2.2.1.2.1:aD},aA:=y.2.2.1.2.2.1,aj:=y.2.2.1.2.2.2.1,ap:=y.2.2.1.2.2.2.2.1,ax:=y.2.2.1.2.2.2.2.2.1,State:=y.2.2.1.2.2.2.2.2.2.1,cd:=y.2.2.1.2.2.2.2.2.2.2.1:aq};let x3:=y.2.1.getD y.1.toNat vG;let x5:=y.2.1.length;let x1:=hZ x2 x3;let x4:=(↑x5:Int);let q1:=LM [] [] [DV.box [CL .aJ y.2.2.1.1,CI y.2.2.1.2.1,CL .aB y.2.2.1.2.2.1,CL .az y.2.2.1.2.2.2.1,CL .aE y.2.2.1.2.2.2.2.1,CL .aQ y.2.2.1.2.2.2.2.2.1,CI y.2.2.1.2.2.2.2.2.2.1,CI y.2.2.1.2.2.2.2.2.2.2.1]] [DV.box (aG (qg d x m))];let q2:=(wrap i64 (y.1+1),y.2.1,(x1.S.ab,x1.S.Next,x1.aA,x1.aj,x1.ap,x1.ax,x1.State,x1.cd,()),());zN d x m y->bif decide (y.1<x4) then bif y.2.2.1.2.2.2.2.2.2.1==1 then 0<=y.1/\y.1.toNat<x5/\y.1.toNat<x5/\y.1.toNat<x5/\wK x2/\eg x3=true/\zN d x m q2/\zz d x m q2<zz d x m y else q1 else q1)
 dsimp only
 have hz:=ae1 bo.pK
 have hg:=bo.good
 refine⟨by omega,bx (fun h=> ?_) (fun h=>aR (fun g=> ?_) (fun g=> ?_))⟩
 ·have e1:qg d x m=fX x 3:=if_neg (fun c=>by rw[show l8 d m=false from h] at c;exact absurd c.1 (by decide))
  rw[e1];exact⟨hg,.inl rfl,rfl,rfl,rfl⟩
 ·have e1:qg d x m=fX x 3:=if_neg (fun c=>by have:=c.2;omega)
  rw[e1];exact⟨hg,.inl rfl,rfl,rfl,rfl⟩
 ·have hf:l8 d m=true:=h
  have e1:qg d x m=j6 (nD d m) (IH x m):=if_pos ⟨hf,by omega⟩
  have hR:=j8 (Fz bo.tocoreX (by omega) hf G') eJ
  have h6:(nD d m).length<=6:=by
   have hm:ES d m=true:=by simp only[l8,cN] at hf;exact hf.1.2
   rw[nD,if_pos hf,wP];exact(OX bo.pK hm).1
  refine⟨by omega,by simp only[fP,fz];omega,⟨rfl,by omega,by omega,hR,e1.symm⟩,?_⟩
  clear e1 hR
  rintro⟨i,l,p,⟨⟩⟩ ⟨rfl,h1,h2,hX,hE⟩
  have h1:0<=i:=h1
  have h2:i<=(nD d m).length:=h2
  have hX:cO d (instT p):=hX
  have hE:j6 ((nD d m).drop i.toNat) (instT p)=qg d x m:=hE
  refine aR (fun hc=>bg (fun hs=> ?_) (fun hs=> ?_)) (fun hc=> ?_)
  ·have hc:i<(nD d m).length:=hc
   have hs:(instT p).State=1:=hs
   have hn:i.toNat<(nD d m).length:=by omega
   have he:=OA (d:=d) (m:=m) _ (gH (z:=vG) hn)
   rw[y6 h1 hc,if_pos hs] at hE
   have fin:∀j,j=i+1->zN d x m (j,nD d m,uu (hZ (instT p) ((nD d m).getD i.toNat vG)),())/\zz d x m (j,nD d m,uu (hZ (instT p) ((nD d m).getD i.toNat vG)),())<zz d x m (i,nD d m,p,()):=by
    rintro j rfl
    exact⟨⟨rfl,by omega,by omega,yj hX.tocoreX hs he,hE⟩,by show(nD d m).length-(i+1).toNat<(nD d m).length-i.toNat;omega⟩
   exact⟨h1,hn,hn,hn,m_ hX,he,fin _ (wi)⟩
  ·have hc:i<(nD d m).length:=hc
   have hs:¬(instT p).State=1:=hs
   rw[y6 h1 hc,if_neg hs] at hE
   exact⟨rfl,rfl,mE hE⟩
  ·have hc:¬i<(nD d m).length:=hc
   rw[List.drop_eq_nil_of_le (by omega)] at hE
   exact⟨rfl,rfl,mE (a:=instT p) hE⟩
theorem Bt{l:List aI}{x:aq}{i:Int}(h0:0<=i)(h:i<l.length):hU (l.drop i.toNat) x=if x.State=1 then hU (l.drop (i+1).toNat) (cJ x (l.getD i.toNat cC).F) else x:=by
 have e:(i+1).toNat=i.toNat+1:=by omega
 rw[Us (by omega),hU,e,eV,fE (by omega)];rfl
theorem rk{st:Int}{l:List aL}{x:aq}{i:Int}(h0:0<=i)(h:i<l.length):dq st (l.drop i.toNat) x=if x.State=st then dq st (l.drop (i+1).toNat) (if st=1 then cJ x (mV (l.getD i.toNat uO) TB wX) else oJ x) else x:=by
 have e:(i+1).toNat=i.toNat+1:=by omega
 rw[Us (by omega),dq,e,eV,fE (by omega)];rfl
theorem tn{x:aq}{l:List aI}(h:¬x.State=1):hU l x=x:=by
 cases l with
 |nil=>rfl
 |cons t l=>rw[hU,if_neg h]
theorem xv{st:Int}{x:aq}{l:List aL}(h:¬x.State=st):dq st l x=x:=by
 cases l with
 |nil=>rfl
 |cons t l=>rw[dq,if_neg h]
def afH:=bW (α:=aq×(List BA)×(List aL)) (qC (qX .cp) (qC (qL .str) (q1 (qL .db)))) [.box true,.ro,.ro] (fun(x,failed,facts)=>[wK x,failed.length=facts.length,∀f∈facts,bu f.Kind=true,facts≠[]->x.State=1\/x.State=3\/x.State=5]) (fun(x,failed,facts)=>⟨[],[],[dX .cp (dq x.State facts x)]⟩)
def A6(x:aq)(failed:List BA)(facts:List aL):Int×Int×T0×Unit->Prop:=fun(st,i,p,_)=>st=x.State/\0<=i/\i<=facts.length/\wK (instT p)/\dq x.State (facts.drop i.toNat) (instT p)=dq x.State facts x
def xJ(x:aq)(failed:List BA)(facts:List aL):Int×Int×T0×Unit->Nat:=fun(st,i,p,_)=>facts.length-i.toNat
def apX:AX afH:=fun(x,failed,facts)=>bS [(2,aT [iI 6,iI 7,.box 0 (2000000,0) [.own .aJ true,.lit (.int .i64),.own .aB true,.own .az true,.own .aE true,.own .aQ true,.lit (.int .i64),.lit (.int .i64)]] (fun _=>A6 x failed facts) (xJ x failed facts))]
def ao_:HH:=hF afH func71 [Zk,TW,Zj] apX fun x hp hb=>by
 obtain⟨x,failed,facts⟩:=x
 have ey:=ld (x:=x) (hb _ m0)
 have ee:=ey.1
 have fL:=ey.2.1
 have fK:=ey.2.2.1
 have e6:=ey.2.2.2.1
 have fJ:=ey.2.2.2.2
 have acg:L9 failed.length:=kG (hb _ m1)
 have aeB:L9 facts.length:=kG (hb _ m2)
 have bo:wK x:=hp _ m0
 have eJ:failed.length=facts.length:=hp _ m1
 have G':∀f∈facts,bu f.Kind=true:=hp _ m2
 have hp3:facts≠[]->x.State=1\/x.State=3\/x.State=5:=hp _ m3
 clear hp hb
 apply vE (let q0:=aG (dq x.State facts x);A6 x failed facts (x.State,0,(x.S.ab,x.S.Next,x.aA,x.aj,x.ap,x.ax,x.State,x.cd,()),())/\∀(y:Int×Int×T10×PUnit),let x3:={ab:=y.2.2.1.1,Next:=y.2.2.1.2.1:aD};let x5:=wrap i64 (y.2.1+1);let x6:=y.2.1.toNat;let x2:={S:=x3,aA:=y.2.2.1.2.2.1,aj:=y.2.2.1.2.2.2.1,ap:=y.2.2.1.2.2.2.2.1,ax:=y.2.2.1.2.2.2.2.2.1,State:=y.2.2.1.2.2.2.2.2.2.1,cd:=y.2.2.1.2.2.2.2.2.2.2.1:aq};let x4:=mV (facts.getD x6 uO) {data:= #[110,111]:BA} {K:=(1:Int),N:=(0:Int),S:={data:= #[]:BA}:a_};let x0:=cJ x2 x4;let x1:=oJ x2;let q1:=LM [] [] [DV.box [CL .aJ y.2.2.1.1,CI y.2.2.1.2.1,CL .aB y.2.2.1.2.2.1,CL .az y.2.2.1.2.2.2.1,CL .aE y.2.2.1.2.2.2.2.1,CL .aQ y.2.2.1.2.2.2.2.2.1,CI y.2.2.1.2.2.2.2.2.2.1,CI y.2.2.1.2.2.2.2.2.2.2.1]] [DV.box q0];let q2:=(y.1,x5,(x0.S.ab,x0.S.Next,x0.aA,x0.aj,x0.ap,x0.ax,x0.State,x0.cd,()),());let q3:=(y.1,x5,(x1.S.ab,x1.S.Next,x1.aA,x1.aj,x1.ap,x1.ax,x1.State,x1.cd,()),());A6 x failed facts y->bif decide (y.2.1<(failed.length:Int)) then bif y.2.2.1.2.2.2.2.2.2.1==y.1 then bif y.1==1 then 0<=y.2.1/\x6<facts.length/\cH x2/\bq x3=true/\L4 x4.ag.length/\A6 x failed facts q2/\xJ x failed facts q2<xJ x failed facts y else cH x2/\(y.2.2.1.2.2.2.2.2.2.1=3\/y.2.2.1.2.2.2.2.2.2.1=5)/\A6 x failed facts q3/\xJ x failed facts q3<xJ x failed facts y else q1 else q1)
 dsimp only
 obtain⟨d0,hX0⟩:=bo
 refine⟨⟨rfl,by omega,by omega,m_ hX0,rfl⟩,?_⟩
 rintro⟨st,i,p,⟨⟩⟩ ⟨rfl,h1,h2,hX,hE⟩
 obtain⟨d,hX⟩:wK (instT p):=hX
 have h1:0<=i:=h1
 have h2:i<=facts.length:=h2
 have hE:dq x.State (facts.drop i.toNat) (instT p)=dq x.State facts x:=hE
 have nx:∀(z:aq)(j:Int),j=i+1->i<facts.length->wK z->dq x.State (facts.drop (i+1).toNat) z=dq x.State facts x->A6 x failed facts (x.State,j,uu z,())/\xJ x failed facts (x.State,j,uu z,())<xJ x failed facts (x.State,i,p,()):=by
  rintro z j rfl hi hz uo
  exact⟨⟨rfl,by omega,by omega,hz,uo⟩,by show facts.length-(i+1).toNat<facts.length-i.toNat;omega⟩
 refine aR (fun hc=>bg (fun hs=>bg (fun g=> ?_) (fun g=> ?_)) (fun hs=> ?_)) (fun hc=> ?_)
 ·have hc:i<(failed.length:Int):=hc
  have hn:i.toNat<facts.length:=by omega
  have hs:(instT p).State=x.State:=hs
  have g:x.State=1:=g
  rw[rk h1 (by omega),if_pos hs,if_pos g] at hE
  have hm:=tI (w:=TB) (v:=wX) (G' _ (gH (z:=uO) hn)) NK EQ
  exact⟨h1,hn,hX.good,hX.store,by simp[mV],nx _ _ (wi (n:=i+1)) (by omega) ⟨d,gK hX.tocoreX (hs.trans g) hm⟩ hE⟩
 ·have hc:i<(failed.length:Int):=hc
  have hs:(instT p).State=x.State:=hs
  have g:¬x.State=1:=g
  rw[rk h1 (by omega),if_pos hs,if_neg g] at hE
  have h3:=hp3 (by intro e;rw[e] at eJ;simp only[fz] at eJ;omega)
  have XP:(instT p).State=3\/(instT p).State=5:=by omega
  exact⟨hX.good,XP,nx _ _ (wi (n:=i+1)) (by omega) ⟨d,pV hX.tocoreX XP⟩ hE⟩
 ·have hc:i<(failed.length:Int):=hc
  have hs:¬(instT p).State=x.State:=hs
  rw[xv hs] at hE
  exact⟨rfl,rfl,mE hE⟩
 ·have hc:¬i<(failed.length:Int):=hc
  rw[List.drop_eq_nil_of_le (by omega)] at hE
  exact⟨rfl,rfl,mE (a:=instT p) hE⟩
def FW:=bW (α:=aq×Int) (qC (qX .cp) (q1 qI)) [.box true,.ro] (fun(x,now)=>[wK x,0<=now/\now<=1000000000]) (fun(x,now)=>⟨[dL .dw (je x now)],[],[dX .cp (gJ x now)]⟩)
def Gb(x:aq)(now:Int):Int×List aI×T0×Unit->Prop:=fun(i,l,p,_)=>l=iQ now x.ap/\0<=i/\i<=l.length/\wK (instT p)/\hU ((iQ now x.ap).drop i.toNat) (instT p)=aM x now
def FU(x:aq)(now:Int):Int×List aI×T0×Unit->Nat:=fun(i,l,p,_)=>l.length-i.toNat
def zD(x:aq)(now:Int):Int×List gg×List BA×List aL×T0×Unit->Prop:=fun(i,calls,failed,facts,p,_)=>calls=je x now/\failed=cj (aM x now) now/\0<=i/\i<=failed.length/\facts=((cj (aM x now) now).take i.toNat).map (l6 (eX (aM x now) now).aj)/\instT p=eX (aM x now) now
def zx(x:aq)(now:Int):Int×List gg×List BA×List aL×T0×Unit->Nat:=fun(i,calls,failed,facts,p,_)=>failed.length-i.toNat
def W3:AX FW:=fun(x,now)=>bS [(6,aT [iI 7,iO 5 .aE,.box 0 (2000000,0) [.own .aJ true,.lit (.int .i64),.own .aB true,.own .az true,.own .aE true,.own .aQ true,.lit (.int .i64),.lit (.int .i64)]] (fun _=>Gb x now) (FU x now)),(12,aT [iI 11,iO 8 .dw,iO 9 .str,iO 10 .db,.box 0 (2000000,0) [.own .aJ true,.lit (.int .i64),.own .aB true,.own .az true,.own .aE true,.own .aQ true,.lit (.int .i64),.lit (.int .i64)]] (fun _=>zD x now) (zx x now))]
def WR:=us [apa,TW,ahB,ab6,A9,ao_]
def gA(x:aq)(now:Int):Int×T0×Unit->Prop:=fun(nw,p,_)=>nw=now/\instT p=aM x now
def k8:FW.α->sS UU:=fun(x,now)=>aT [iI 1,.box 0 (2000000,0) [.own .aJ true,.lit (.int .i64),.own .aB true,.own .az true,.own .aE true,.own .aQ true,.lit (.int .i64),.lit (.int .i64)]] (fun _=>gA x now) (fun _=>0)
theorem aof(x:aq)(now:Int)(y:Int×T0×Unit):kO EE WR f23 FW W3 (x,now) 9 (k8 (x,now)) y=(let q0:=gJ x now;aN y.2.1.2.2.2.1=true/\(0<=y.1/\y.1<=1000000000)/\zD x now (0,List.flatMap (iy y.1) y.2.1.2.2.2.1,List.flatMap (gL y.1) y.2.1.2.2.2.1,[],(y.2.1.1,y.2.1.2.1,y.2.1.2.2.1,y.2.1.2.2.2.1.map (dR y.1),y.2.1.2.2.2.2.1,y.2.1.2.2.2.2.2.1,y.2.1.2.2.2.2.2.2.1,y.2.1.2.2.2.2.2.2.2.1,()),())/\∀(y:Int×List gg×List BA×List aL×T10×PUnit),let x1:={S:={ab:=y.2.2.2.2.1.1,Next:=y.2.2.2.2.1.2.1:aD},aA:=y.2.2.2.2.1.2.2.1,aj:=y.2.2.2.2.1.2.2.2.1,ap:=y.2.2.2.2.1.2.2.2.2.1,ax:=y.2.2.2.2.1.2.2.2.2.2.1,State:=y.2.2.2.2.1.2.2.2.2.2.2.1,cd:=y.2.2.2.2.1.2.2.2.2.2.2.2.1:aq};let x5:=aU y.2.2.2.2.1.2.2.2.1 (y.2.2.1.getD (Int.toNat y.1) ai);let x6:=y.2.2.1.length;let x7:=y.2.2.2.1.length;let x0:=dq y.2.2.2.2.1.2.2.2.2.2.2.1 y.2.2.2.1 x1;let x4:=Int.toNat x5;let x3:=(y.2.2.2.2.1.2.2.2.1.getD x4 aC).F;let x2:=[x3];let q1:=(wrap i64 (y.1+1),y.2.1,y.2.2.1,y.2.2.2.1++x2,(y.2.2.2.2.1.1,y.2.2.2.2.1.2.1,y.2.2.2.2.1.2.2.1,y.2.2.2.2.1.2.2.2.1,y.2.2.2.2.1.2.2.2.2.1,y.2.2.2.2.1.2.2.2.2.2.1,y.2.2.2.2.1.2.2.2.2.2.2.1,y.2.2.2.2.1.2.2.2.2.2.2.2.1,()),());zD x now y->bif decide (y.1<(↑x6:Int)) then 0<=y.1/\Int.toNat y.1<x6/\Int.toNat y.1<x6/\0<=x5/\x4<y.2.2.2.2.1.2.2.2.1.length/\x4<y.2.2.2.2.1.2.2.2.1.length/\x4<y.2.2.2.2.1.2.2.2.1.length/\x3.ag.length<=4294967296/\x7+x2.length<=4294967296/\zD x now q1/\zx x now q1<zx x now y else wK x1/\x6=x7/\(∀(f:aL),f∈y.2.2.2.1->bu f.Kind=true)/\(y.2.2.2.1≠[]->y.2.2.2.2.1.2.2.2.2.2.2.1=1\/y.2.2.2.2.1.2.2.2.2.2.2.1=3\/y.2.2.2.2.1.2.2.2.2.2.2.1=5)/\LM [VL .dw y.2.1] [VL .dw (je x now)] [DV.box [CL .aJ x0.S.ab,CI x0.S.Next,CL .aB x0.aA,CL .az x0.aj,CL .aE x0.ap,CL .aQ x0.ax,CI x0.State,CI x0.cd]] [DV.box [CL .aJ q0.S.ab,CI (q0.S.Next),CL .aB q0.aA,CL .az q0.aj,CL .aE q0.ap,CL .aQ q0.ax,CI (q0.State),CI (q0.cd)]]):=by kernel_rfl
theorem BS(x:aq)(now:Int)(y:Int×T0×Unit)(hp:∀p∈FW.pre (x,now),p)(hb:∀d∈FW.ds (x,now),gN d)(hy:gA x now y):kO EE WR f23 FW W3 (x,now) 9 (k8 (x,now)) y:=by
 have ey:=ld (x:=x) (hb _ m0)
 have ee:=ey.1
 have fL:=ey.2.1
 have fK:=ey.2.2.1
 have e6:=ey.2.2.2.1
 have fJ:=ey.2.2.2.2
 have rN:=zk (n:=now) (hb _ m1)
 have bo:wK x:=hp _ m0
 have eJ:0<=now/\now<=1000000000:=hp _ m1
 clear hp hb
 rw[aof x now y]
 dsimp only
 obtain⟨d,hX⟩:=bo
 have hT:=u6 hX eJ.1 eJ.2
 have hS:=xh hT eJ.1 eJ.2
 obtain⟨nw,p,⟨⟩⟩:=y
 obtain⟨rfl,hp⟩:=hy
 have hp:instT p=aM x nw:=hp
 have e1:p.2.2.2.1=(aM x nw).aj:=congrArg aq.aj hp
 have eC:p.2.2.2.1.flatMap (iy nw)=je x nw:=by rw[e1];rfl
 have eF:p.2.2.2.1.flatMap (gL nw)=cj (aM x nw) nw:=by rw[e1];rfl
 have eS:instT (p.1,p.2.1,p.2.2.1,p.2.2.2.1.map (dR nw),p.2.2.2.2.1,p.2.2.2.2.2.1,p.2.2.2.2.2.2.1,p.2.2.2.2.2.2.2.1,())=eX (aM x nw) nw:=congrArg (fun z=>eX z nw) hp
 have Cj:(cj (aM x nw) nw).length<=30:=uN (qe _ (vY nw) _) (sY hT.ij).1
 refine⟨by show aN p.2.2.2.1=true;rw[e1];exact hT.ij,eJ,⟨eC,eF,by omega,by omega,rfl,eS⟩,?_⟩
 clear eS eF eC e1
 clear hp
 rintro⟨i,calls,failed,facts,q,⟨⟩⟩ ⟨hc,hf,h1,h2,Qe,hq⟩
 have hc:calls=je x nw:=hc
 have hf:failed=cj (aM x nw) nw:=hf
 have h1:0<=i:=h1
 have h2:i<=(failed.length:Int):=h2
 have Qe:facts=((cj (aM x nw) nw).take i.toNat).map (l6 (eX (aM x nw) nw).aj):=Qe
 have hq:instT q=eX (aM x nw) nw:=hq
 subst hc hf
 have e2:q.2.2.2.1=(eX (aM x nw) nw).aj:=congrArg aq.aj hq
 have e3:q.2.2.2.2.2.2.1=(aM x nw).State:=congrArg aq.State hq
 refine aR ?_ ?_<;>intro g
 ·have g:i<((cj (aM x nw) nw).length:Int):=g
  have hn:i.toNat<(cj (aM x nw) nw).length:=by omega
  have hk:=gH (z:=ai) hn
  obtain⟨k1,k2⟩:=xw hk
  have Ly:=vX hT.ij eJ.1 eJ.2 hk
  have hl:=(qi Ly).1
  have key:∀l:List ao,l=(eX (aM x nw) nw).aj->0<=aU l ((cj (aM x nw) nw).getD i.toNat ai)/\(aU l ((cj (aM x nw) nw).getD i.toNat ai)).toNat<l.length/\(l.getD (aU l ((cj (aM x nw) nw).getD i.toNat ai)).toNat aC).F.ag.length<=4294967296/\(l.getD (aU l ((cj (aM x nw) nw).getD i.toNat ai)).toNat aC).F=l6 (eX (aM x nw) nw).aj ((cj (aM x nw) nw).getD i.toNat ai):=by
   rintro l rfl
   refine⟨k1,?_,?_,rfl⟩
   ·have:aU (eX (aM x nw) nw).aj ((cj (aM x nw) nw).getD i.toNat ai)<((eX (aM x nw) nw).aj.length:Int):=k2
    have h0:0<=aU (eX (aM x nw) nw).aj ((cj (aM x nw) nw).getD i.toNat ai):=k1
    omega
   ·exact uN hl (by omega)
  obtain⟨a1,a2,a3,a4⟩:=key _ e2
  have anR:facts.length<=30:=by rw[Qe,wP,oq];omega
  have rh:=yd (l:=cj (aM x nw) nw) ai hn
  have e:(i+1).toNat=i.toNat+1:=by omega
  have nx:∀(j:Int)(fs:List aL),j=i+1->fs=((cj (aM x nw) nw).take (i+1).toNat).map (l6 (eX (aM x nw) nw).aj)->zD x nw (j,je x nw,cj (aM x nw) nw,fs,q,())/\zx x nw (j,je x nw,cj (aM x nw) nw,fs,q,())<zx x nw (i,je x nw,cj (aM x nw) nw,facts,q,()):=by
   rintro j fs rfl rfl
   exact⟨⟨rfl,rfl,by omega,by omega,rfl,hq⟩,by show(cj (aM x nw) nw).length-(i+1).toNat<(cj (aM x nw) nw).length-i.toNat;omega⟩
  exact⟨h1,hn,hn,a1,a2,a2,a2,a3,by simp only[fP,fz];omega,nx _ _ (wi (n:=i+1)) (by rw[a4,Qe,e,rh,Ko];rfl)⟩
 ·have g:¬i<((cj (aM x nw) nw).length:Int):=g
  have ht:(cj (aM x nw) nw).take i.toNat=cj (aM x nw) nw:=Ut (by omega)
  rw[ht] at Qe
  have sn:dq q.2.2.2.2.2.2.1 facts (instT q)=gJ x nw:=by rw[e3,Qe,hq];rfl
  refine⟨by show wK (instT q);rw[hq];exact m_ hS,by rw[Qe,wP],fun f hm=> ?_,fun fc=> ?_,rfl,rfl,mE sn⟩
  ·rw[Qe] at hm
   obtain⟨k,hk,rfl⟩:=mz.1 hm
   exact vN (vX hT.ij eJ.1 eJ.2 hk)
  ·show q.2.2.2.2.2.2.1=1\/q.2.2.2.2.2.2.1=3\/q.2.2.2.2.2.2.1=5
   rw[e3]
   exact As hT (now:=nw) (fun e=>fc (by rw[Qe,e];rfl))
theorem BR(x:aq)(now:Int)(hp:∀p∈FW.pre (x,now),p)(hb:∀d∈FW.ds (x,now),gN d):ph EE WR f23 FW W3 (x,now) 9 (k8 (x,now)):=by
 have ey:=ld (x:=x) (hb _ m0)
 have ee:=ey.1
 have fL:=ey.2.1
 have fK:=ey.2.2.1
 have e6:=ey.2.2.2.1
 have fJ:=ey.2.2.2.2
 have rN:=zk (n:=now) (hb _ m1)
 have bo:wK x:=hp _ m0
 have eJ:0<=now/\now<=1000000000:=hp _ m1
 clear hp hb
 apply vE (bif x.State==1 then L4 (cy x.ap)/\Gb x now (0,iQ now x.ap,(x.S.ab,x.S.Next,x.aA,x.aj,BU now x.ap,x.ax,x.State,now,()),())/\∀(y:Int×List aI×T10×PUnit),let x2:={ab:=y.2.2.1.1,Next:=y.2.2.1.2.1:aD};let x3:=(y.2.1.getD y.1.toNat cC).F;let x5:=y.2.1.length;let x1:={S:=x2,aA:=y.2.2.1.2.2.1,aj:=y.2.2.1.2.2.2.1,ap:=y.2.2.1.2.2.2.2.1,ax:=y.2.2.1.2.2.2.2.2.1,State:=y.2.2.1.2.2.2.2.2.2.1,cd:=y.2.2.1.2.2.2.2.2.2.2.1:aq};let x4:=(↑x5:Int);let x0:=cJ x1 x3;let q0:=gA x now (now,(y.2.2.1.1,y.2.2.1.2.1,y.2.2.1.2.2.1,y.2.2.1.2.2.2.1,y.2.2.1.2.2.2.2.1,y.2.2.1.2.2.2.2.2.1,y.2.2.1.2.2.2.2.2.2.1,y.2.2.1.2.2.2.2.2.2.2.1,()),());let q1:=(wrap i64 (y.1+1),y.2.1,(x0.S.ab,x0.S.Next,x0.aA,x0.aj,x0.ap,x0.ax,x0.State,x0.cd,()),());Gb x now y->bif decide (y.1<x4) then bif y.2.2.1.2.2.2.2.2.2.1==1 then 0<=y.1/\y.1.toNat<x5/\y.1.toNat<x5/\y.1.toNat<x5/\cH x1/\bq x2=true/\L4 x3.ag.length/\Gb x now q1/\FU x now q1<FU x now y else q0 else q0 else gA x now (now,(x.S.ab,x.S.Next,x.aA,x.aj,x.ap,x.ax,x.State,now,()),()))
 dsimp only
 have hX:=bo
 obtain⟨d,hX⟩:=hX
 have hts:=(sW hX.timers).2
 have fin:∀z:aq,z=aM x now->gA x now (now,uu z,()):=fun z hz=>⟨rfl,hz⟩
 refine bg (fun hs=>⟨by omega,⟨rfl,by omega,by omega,?_,?_⟩,?_⟩) (fun hs=> ?_)
 ·exact m_ (j8 (d:=d) (x:=abW x now) ⟨hX.pK,hX.store,hX.ij,rI _ hX.timers,hX.ov,eJ,hX.Km,hX.b_⟩ hs)
 ·exact(if_pos hs).symm
 ·have h30:(iQ now x.ap).length<=30:=uN (Mw _ _) (sW hX.timers).1
  have Ly:∀t∈iQ now x.ap,bE t.F=true:=fun t ht=>by
   have:=(nU.1 hX.timers).2.1 t (xR.1 ht).1
   simp only[iq,cN] at this
   exact this.2
  rintro⟨i,l,p,⟨⟩⟩ ⟨rfl,h1,h2,hY,hE⟩
  obtain⟨d',hY⟩:wK (instT p):=hY
  have h1:0<=i:=h1
  have h2:i<=(iQ now x.ap).length:=h2
  have hE:hU ((iQ now x.ap).drop i.toNat) (instT p)=aM x now:=hE
  refine aR (fun hc=>bg (fun g=> ?_) (fun g=> ?_)) (fun hc=> ?_)
  ·have hc:i<((iQ now x.ap).length:Int):=hc
   have hn:i.toNat<(iQ now x.ap).length:=by omega
   have g:(instT p).State=1:=g
   have hf:=Ly _ (gH (z:=cC) hn)
   rw[Bt h1 hc,if_pos g] at hE
   have nx:∀j,j=i+1->Gb x now (j,iQ now x.ap,uu (cJ (instT p) ((iQ now x.ap).getD i.toNat cC).F),())/\FU x now (j,iQ now x.ap,uu (cJ (instT p) ((iQ now x.ap).getD i.toNat cC).F),())<FU x now (i,iQ now x.ap,p,()):=by
    rintro j rfl
    exact⟨⟨rfl,by omega,by omega,⟨d',gK hY.tocoreX g hf⟩,hE⟩,by show(iQ now x.ap).length-(i+1).toNat<(iQ now x.ap).length-i.toNat;omega⟩
   exact⟨h1,hn,hn,hn,hY.good,hY.store,uN (qi hf).1 (by omega),nx _ (wi (n:=i+1))⟩
  ·have g:¬(instT p).State=1:=g
   rw[tn g] at hE
   exact fin _ hE
  ·have hc:¬i<((iQ now x.ap).length:Int):=hc
   rw[List.drop_eq_nil_of_le (by omega)] at hE
   exact fin (instT p) hE
 ·exact fin (D9 x now) (if_neg hs).symm
attribute [local irreducible] ph kO in
theorem aoi:Holds EE (23,FW):=by
 refine sk pD func23 FW (by kernel_rfl) WR (uQ _) W3 9 k8 (by kernel_rfl) (fun x hp hb=> ?_)
 obtain⟨x,now⟩:=x
 refine⟨BR x now hp hb,fun(y:Int×T0×Unit) hy=> ?_⟩
 have hy:gA x now y:=hy
 exact BS x now y hp hb hy
def ah9:HH:=⟨_,aoi⟩
def kr(code:List Int)(aK:Int):Int:=if 3+(code.length:Int)/12>aK then aK else 3+(code.length:Int)/12
theorem KJ(code:List Int)(aK:Int):kr code aK<=aK:=by unfold kr;split<;>omega
theorem yr{c c':ah}{a b:aq}(h1:c=c')(h2:a=b):fG [DV.box [.sl .byte c.b,CI c.i,CI c.h],DV.box [.sl .aJ a.S.ab,CI a.S.Next,.sl .aB a.aA,.sl .az a.aj,.sl .aE a.ap,.sl .aQ a.ax,CI a.State,CI a.cd]]=fG [DV.box [.sl .byte c'.b,CI c'.i,CI c'.h],DV.box [.sl .aJ b.S.ab,CI b.S.Next,.sl .aB b.aA,.sl .az b.aj,.sl .aE b.ap,.sl .aQ b.ax,CI b.State,CI b.cd]]:=by rw[h1,h2]
theorem Ki{a a':br}{x x':aq}{c c':ah}(h1:a=a')(h2:x=x')(h3:c=c'):fG [DV.agg [.lit (.string a.Name),.sl .bB a.aw],DV.agg [.sl .aJ x.S.ab,CI x.S.Next,.sl .aB x.aA,.sl .az x.aj,.sl .aE x.ap,.sl .aQ x.ax,CI x.State,CI x.cd]]=fG [DV.agg [.lit (.string a'.Name),.sl .bB a'.aw],DV.agg [.sl .aJ x'.S.ab,CI x'.S.Next,.sl .aB x'.aA,.sl .az x'.aj,.sl .aE x'.ap,.sl .aQ x'.ax,CI x'.State,CI x'.cd]]/\fG [DV.box [.sl .byte c.b,CI c.i,CI c.h]]=fG [DV.box [.sl .byte c'.b,CI c'.i,CI c'.h]]:=by subst h1 h2 h3;exact⟨rfl,rfl⟩
abbrev TC:=List Int×Int×Int×Unit
def lM(p:TC):ah:=⟨p.1,p.2.1,p.2.2.1⟩
def UR(c:ah):TC:=(c.b,c.i,c.h,())
theorem Ar{d:br}{x:aq}(hd:f_ d=true)(h:(jY d (allM d.aw x.S.ab) x.aA).isSome=true):wY d x=qg d x (Bo (jY d (allM d.aw x.S.ab) x.aA))/\yQ x.S.ab (Bo (jY d (allM d.aw x.S.ab) x.aA))/\(Bo (jY d (allM d.aw x.S.ab) x.aA)).eo.length<=4294967295:=by
 unfold wY
 cases hp:jY d (allM d.aw x.S.ab) x.aA with
 |none=>rw[hp] at h;cases h
 |some m=>
  have:=HM (fun r hr=>((v_ hd).1 r hr).1) (G2 hp)
  exact⟨rfl,G1 hp,by show m.eo.length<=_;omega⟩
theorem PM{d:br}{x:aq}(h:(jY d (allM d.aw x.S.ab) x.aA).isSome=false):wY d x=x:=by
 unfold wY
 cases hp:jY d (allM d.aw x.S.ab) x.aA with
 |none=>rfl
 |some m=>rw[hp] at h;cases h
theorem LO{d:br}{x:aq}{c:ah}{i:Int}(h:0<i):ol d i.toNat x c=ol d (i-1).toNat (gU d x c) (gV x c)/\tJ d i.toNat x c=tJ d (i-1).toNat (gU d x c) (gV x c):=by
 have e:i.toNat=(i-1).toNat+1:=by omega
 rw[e];exact⟨rfl,rfl⟩
def aoR:=bW (α:=(List Int)×Int) (qC (qL .byte) (q1 qI)) [.ro,.ro] (fun(code,aK)=>[L4 code.length]) (fun(code,aK)=>⟨[dI (kr code aK)],[],[]⟩)
def apG:HH:=hF aoR func15 [] a0 fun x hp hb=>by
 obtain⟨code,aK⟩:=x
 have Iv:L9 code.length:=kG (hb _ m0)
 have Ch:=zk (n:=aK) (hb _ m1)
 have bo:code.length<=4294967296:=hp _ m0
 clear hp hb
 apply vE (let x0:=wrap i64 (3+wrap i64 (Int.tdiv (code.length:Int) 12));(12:Int)≠(0:Int)/\bif decide (x0>aK) then Li aK (kr code aK) else Li x0 (kr code aK))
 dsimp only
 have e:Int.tdiv (code.length:Int) 12=(code.length:Int)/12:=Int.tdiv_eq_ediv_of_nonneg (by omega)
 rw[e,wi (n:=(code.length:Int)/12),wi]
 refine⟨by decide,aR (fun h=>nz ?_) (fun h=>nz ?_)⟩
 ·rw[kr,if_pos h]
 ·rw[kr,if_neg h]
def ahw:=bW (α:=ah×br×aq) (qC qU (qC (qA .h_) (q1 (qX .cp)))) [.box false,.ro,.box true] (fun(c,d,x)=>[bm c,cO d x,x.cd+30<=1000000000]) (fun(c,d,x)=>⟨[],[],[dU (gV x c),dX .cp (gU d x c)]⟩)
def ajs:HH:=hF ahw func101 [nE,Ms,TW,aiW,aiV,W0,B4,ah9,Mt,sL,Mr,aiU] a0 fun x hp hb=>by
 obtain⟨c,d,x⟩:=x
 have qb:=QP (x:=c) (hb _ m0)
 have hH:=lc (x:=d) (hb _ m1)
 have j_:=hH.1
 have ja:=hH.2
 have uo:=ld (x:=x) (hb _ m2)
 have ee:=uo.1
 have fL:=uo.2.1
 have fK:=uo.2.2.1
 have e6:=uo.2.2.2.1
 have fJ:=uo.2.2.2.2
 have bo:bm c:=hp _ m0
 have eJ:cO d x:=hp _ m1
 have G':x.cd+30<=1000000000:=hp _ m2
 clear hp hb
 apply vE (let x7:={S:={ab:={τ:=Cd.aJ,xs:=x.S.ab:iE UU}.xs,Next:=x.S.Next:aD},aA:={τ:=Cd.aB,xs:=x.aA:iE UU}.xs,aj:={τ:=Cd.az,xs:=x.aj:iE UU}.xs,ap:={τ:=Cd.aE,xs:=x.ap:iE UU}.xs,ax:={τ:=Cd.aQ,xs:=x.ax:iE UU}.xs,State:=x.State,cd:=x.cd:aq};let x8:=cJ x (cZ (aa c 8));let Aa:=[0,1,5,30];let NW:=Bo (jY d (allM d.aw x.S.ab) x.aA);let MA:=(x.aj.length:Int);let x3:=qg d x NW;let w_:=Aa.length;let jd:=aa (aa c 8) MA;let vH:=bi (x.aj.getD (Int.toNat (af (aa c 8) MA)) aC).F;let mf:=aa jd 3;let qP:=(↑w_:Int);let x2:=wrap i64 (x.cd+Aa.getD (Int.toNat (af (aa c 8) qP)) 0);let x4:=aa (aa c 8) qP;let x6:=en mf;let x9:=gQ mf;let x0:=gJ x x2;let x5:={K:=x6.K,N:=x6.N,S:=x6.S:a_};let x1:=(ke x7 vH (!cm jd 3) x5).1.S;let q0:=(0:Nat)=(0:Nat)/\LM [] [] [bU x9,DV.box [CL .aJ x1.ab,CI x1.Next,CL .aB (ke x7 vH (!cm jd 3) x5).1.aA,CL .az (ke x7 vH (!cm jd 3) x5).1.aj,CL .aE (ke x7 vH (!cm jd 3) x5).1.ap,CL .aQ (ke x7 vH (!cm jd 3) x5).1.ax,CI ((ke x7 vH (!cm jd 3) x5).1.State),CI ((ke x7 vH (!cm jd 3) x5).1.cd)]] [bU (gV x c),DV.box (aG (gU d x c))];let q1:=bif !decide (x.State=2\/x.State=4\/x.State=6) then 0<=(aa c 8).i/\(aa c 8).b.length<=4294967296/\1<=w_/\wK x/\(0<=x2/\x2<=1000000000)/\(0:Nat)=(0:Nat)/\LM [] [] [bU x4,DV.box (aG x0)] [bU (gV x c),DV.box (aG (gU d x c))] else(0:Nat)=(0:Nat)/\LM [] [] [bU (aa c 8),DV.box (aG x)] [bU (gV x c),DV.box (aG (gU d x c))];let q2:=bif x.State==1 then f_ d=true/\x.S.ab.length<=40/\bif Option.isSome (jY d (allM d.aw x.S.ab) x.aA) then cO d x/\x.State=1/\yQ x.S.ab NW/\NW.eo.length<=4294967295/\(0:Nat)=(0:Nat)/\LM [] [] [bU (aa c 8),DV.box (aG x3)] [bU (gV x c),DV.box (aG (gU d x c))] else(0:Nat)=(0:Nat)/\LM [] [] [bU (aa c 8),DV.box (aG x)] [bU (gV x c),DV.box (aG (gU d x c))] else(0:Nat)=(0:Nat)/\LM [] [] [bU (aa c 8),DV.box (aG x)] [bU (gV x c),DV.box (aG (gU d x c))];let q3:=(0:Nat)=(0:Nat)/\LM [] [] [bU (aa c 8),DV.box (aG x)] [bU (gV x c),DV.box (aG (gU d x c))];let q4:=(bC x7.aj vH (!cm jd 3) x5).2=1->x.State=1\/x.State=3\/x.State=5;let q5:=bif af c (8:Int)==(5:Int) then bif af c (8:Int)==(5:Int) then q1 else bif decide (MA>0) then 0<=(aa c 8).i/\(aa c 8).b.length<=4294967296/\0<=af (aa c 8) MA/\Int.toNat (af (aa c 8) MA)<x.aj.length/\Int.toNat (af (aa c 8) MA)<x.aj.length/\Int.toNat (af (aa c 8) MA)<x.aj.length/\bm jd/\bm mf/\cH x/\bq x.S=true/\bR x6=true/\q4/\q0 else q3 else bif af c (8:Int)==(6:Int) then q1 else bif decide (MA>0) then 0<=(aa c 8).i/\(aa c 8).b.length<=4294967296/\0<=af (aa c 8) MA/\Int.toNat (af (aa c 8) MA)<x.aj.length/\Int.toNat (af (aa c 8) MA)<x.aj.length/\Int.toNat (af (aa c 8) MA)<x.aj.length/\bm jd/\bm mf/\cH x/\bq x.S=true/\bR x6=true/\q4/\q0 else q3;let q6:=bif x.State==1 then bm (aa c 8)/\cH x/\bq x.S=true/\(cZ (aa c 8)).ag.length<=4294967296/\(0:Nat)=(0:Nat)/\LM [] [] [bU (c_ (aa c 8)),DV.box (aG x8)] [bU (gV x c),DV.box (aG (gU d x c))] else q3;let q7:=bif af c (8:Int)==(2:Int) then bif af c (8:Int)==(2:Int) then q2 else q5 else bif af c (8:Int)==(3:Int) then bif af c (8:Int)==(3:Int) then q2 else q5 else bif af c (8:Int)==(4:Int) then q2 else q5;0<=c.i/\L4 c.b.length/\bif af c (8:Int)==(0:Int) then bif af c (8:Int)==(0:Int) then q6 else q7 else bif af c (8:Int)==(1:Int) then q6 else q7)
 dsimp only
 have hb:=bz (c:=c) (n:=8) (by omega)
 have h8:=au bo 8
 have hg:=eJ.good
 have hf:=(qi (oM (aa c 8))).1
 have h40:=(kI eJ.store).2.2.1
 have ht:=N1 (aa c 8)
 have aeu:=eJ.now
 have hw:∀n:Int,n=gS (aa c 8) tq->IntKind.wrap .i64 (x.cd+n)=x.cd+gS (aa c 8) tq:=by
  rintro n rfl;exact wi
 have hk:0<x.aj.length->0<=af (aa c 8) x.aj.length/\(af (aa c 8) x.aj.length).toNat<x.aj.length:=fun h=>by
  have:=bz (c:=aa c 8) (n:=x.aj.length) (by omega);omega
 have hd1:=au h8 x.aj.length
 have hd2:=au hd1 3
 have hv:=pN (aa (aa (aa c 8) x.aj.length) 3)
 have jA:∀key ok v,(bC x.aj key ok v).2=1->x.State=1\/x.State=3\/x.State=5:=fun key ok v h=>EX (pO.2 eJ) h
 refine⟨bo.1,bo.2,?_⟩
 by_cases k1:af c 8=0\/af c 8=1
 ·have e1:gU d x c=if x.State=1 then cJ x (cZ (aa c 8)) else x:=if_pos k1
  have e2:gV x c=if x.State=1 then c_ (aa c 8) else aa c 8:=if_pos k1
  repeat' (refine bg (fun _=> ?_) (fun _=> ?_))
  all_goals first
   |(exfalso;omega)
   |(rename_i hs;rw[if_pos hs] at e1 e2;exact⟨h8,hg,eJ.store,by omega,rfl,rfl,rfl,yr e2.symm e1.symm⟩)
   |(rename_i hs;rw[if_neg hs] at e1 e2;exact⟨rfl,rfl,rfl,yr e2.symm e1.symm⟩)
 by_cases k2:af c 8=2\/af c 8=3\/af c 8=4
 ·have e1:gU d x c=if x.State=1 then wY d x else x:=(if_neg k1).trans (if_pos k2)
  have e2:gV x c=aa c 8:=(if_neg k1).trans (if_pos k2)
  repeat' (refine bg (fun _=> ?_) (fun _=> ?_))
  all_goals first
   |(exfalso;omega)
   |(rename_i hs;rw[if_pos hs] at e1
     exact⟨eJ.pK,by omega,ae (fun h=>⟨eJ,hs,(Ar eJ.pK h).2.1,(Ar eJ.pK h).2.2,rfl,rfl,rfl,yr e2.symm ((Ar eJ.pK h).1.symm.trans e1.symm)⟩) (fun h=>⟨rfl,rfl,rfl,yr e2.symm ((PM h).symm.trans e1.symm)⟩)⟩)
   |(rename_i hs;rw[if_neg hs] at e1;exact⟨rfl,rfl,rfl,yr e2.symm e1.symm⟩)
 by_cases k3:af c 8=5\/af c 8=6
 ·have e1:gU d x c=if ng x=true then x else gJ x (x.cd+gS (aa c 8) tq):=(if_neg k1).trans ((if_neg k2).trans (if_pos k3))
  have e2:gV x c=if ng x=true then aa c 8 else kL (aa c 8) tq:=(if_neg k1).trans ((if_neg k2).trans (if_pos k3))
  repeat' (refine bg (fun _=> ?_) (fun _=> ?_))
  all_goals first
   |(exfalso;omega)
   |(refine bx ?_ ?_<;>intro h
     ·rw[if_neg (by rw[show ng x=false from h];decide)] at e1 e2
      exact⟨h8.1,h8.2,by decide,m_ eJ,(by rw[hw (List.getD [0,1,5,30] (af (aa c 8) (([0,1,5,30]:List Int).length:Int)).toNat 0) rfl];omega),rfl,rfl,rfl,yr e2.symm ((congrArg (gJ x) (hw _ rfl)).trans e1.symm)⟩
     ·rw[if_pos (show ng x=true from h)] at e1 e2
      exact⟨rfl,rfl,rfl,yr e2.symm e1.symm⟩)
 ·have e1:gU d x c=if 0<x.aj.length then(ke x (XS x (aa c 8)) (!cm (Qp x (aa c 8)) 3) (en (aa (Qp x (aa c 8)) 3))).1 else x:=(if_neg k1).trans ((if_neg k2).trans (if_neg k3))
  have e2:gV x c=if 0<x.aj.length then gQ (aa (Qp x (aa c 8)) 3) else aa c 8:=(if_neg k1).trans ((if_neg k2).trans (if_neg k3))
  repeat' (refine bg (fun _=> ?_) (fun _=> ?_))
  all_goals first
   |(exfalso;omega)
   |(refine aR ?_ ?_<;>intro h
     ·have h:0<x.aj.length:=by omega
      rw[if_pos h] at e1 e2
      obtain⟨j1,j2⟩:=hk h
      exact⟨h8.1,h8.2,j1,j2,j2,j2,hd1,hd2,hg,eJ.store,hv,jA _ _ _,rfl,rfl,rfl,yr e2.symm e1.symm⟩
     ·rw[if_neg (by omega)] at e1 e2
      exact⟨rfl,rfl,rfl,yr e2.symm e1.symm⟩)
def afZ:=bW (α:=ah×Int) (qC qU (q1 qI)) [.box false,.ro] (fun(c,aK)=>[bm c,aK<=1000]) (fun(c,aK)=>⟨[dA .h_ (cG c),dA .cp (instD c aK)],[false,true],[dU (instDC c aK)]⟩)
def F9(c:ah)(aK:Int):Int×T2×T0×T2×T0×T4×Unit->Prop:=fun(i,r,q,d,p,cu,_)=>d=((cG c).Name,(cG c).aw,())/\0<=i/\i<=1000/\bm ⟨cu.1,cu.2.1,cu.2.2.1⟩/\cO (cG c) (instT p)/\(instT p).cd+30*i<=1000000000/\ol (cG c) i.toNat (instT p) ⟨cu.1,cu.2.1,cu.2.2.1⟩=AP c aK/\tJ (cG c) i.toNat (instT p) ⟨cu.1,cu.2.1,cu.2.2.1⟩=IM c aK
def FT(c:ah)(aK:Int):Int×T2×T0×T2×T0×T4×Unit->Nat:=fun(i,r,q,d,p,cu,_)=>i.toNat
def aqd:AX afZ:=fun(c,aK)=>bS [(4,aT [iI 8,.box 4 (4,1024) [.lit .str,.own .bB true],.box 5 (5,1024) [.own .aJ true,.lit (.int .i64),.own .aB true,.own .az true,.own .aE true,.own .aQ true,.lit (.int .i64),.lit (.int .i64)],.box 6 (6,1024) [.lit .str,.shr .bB],.box 7 (7,1024) [.own .aJ true,.lit (.int .i64),.own .aB true,.own .az true,.own .aE true,.own .aQ true,.lit (.int .i64),.lit (.int .i64)],.box 0 (2000000,0) [.shr .byte,.lit (.int .i64),.lit (.int .i64)]] (fun _=>F9 c aK) (FT c aK))]
def apq:HH:=hF afZ func43 [ahy,ajt,B4,nE,ajs,sL,Mu] aqd fun x hp hb=>by
 obtain⟨c,aK⟩:=x
 have qb:=QP (x:=c) (hb _ m0)
 have Ch:=zk (n:=aK) (hb _ m1)
 have bo:bm c:=hp _ m0
 have eJ:aK<=1000:=hp _ m1
 clear hp hb
 apply vE (let x1:=List.length [0,0,7];let x0:=aa (jB c) (↑x1:Int);let q0:=instNew (List.getD [0,0,7] (Int.toNat (af (jB c) (↑x1:Int))) 0);let q1:=List bO×Int×List av×List ao×List aI×List bp×Int×Int×PUnit;let q2:=aG (instD c aK);bm c/\0<=(jB c).i/\(jB c).b.length<=4294967296/\1<=x1/\0<=x0.i/\L4 x0.b.length/\F9 c aK (af x0 aK,({data:= #[]:BA},[],()),([],0,[],[],[],[],0,0,()),((cG c).Name,(cG c).aw,()),(q0.S.ab,q0.S.Next,q0.aA,q0.aj,q0.ap,q0.ax,q0.State,q0.cd,()),((aa x0 aK).b,(aa x0 aK).i,(aa x0 aK).h,()),())/\∀(y:Int×T9×q1×T9×q1×O9×PUnit),let x4:={S:={ab:=y.2.2.2.2.1.1,Next:=y.2.2.2.2.1.2.1:aD},aA:=y.2.2.2.2.1.2.2.1,aj:=y.2.2.2.2.1.2.2.2.1,ap:=y.2.2.2.2.1.2.2.2.2.1,ax:=y.2.2.2.2.1.2.2.2.2.2.1,State:=y.2.2.2.2.1.2.2.2.2.2.2.1,cd:=y.2.2.2.2.1.2.2.2.2.2.2.2.1:aq};let x5:={b:=y.2.2.2.2.2.1.1,i:=y.2.2.2.2.2.1.2.1,h:=y.2.2.2.2.2.1.2.2.1:ah};let x6:={Name:=y.2.2.2.1.1,aw:=y.2.2.2.1.2.1:br};let x2:=gU x6 x4 x5;let x3:=fX x4 5;let q3:=(wrap i64 (y.1-1),(y.2.1.1,y.2.1.2.1,()),(y.2.2.1.1,y.2.2.1.2.1,y.2.2.1.2.2.1,y.2.2.1.2.2.2.1,y.2.2.1.2.2.2.2.1,y.2.2.1.2.2.2.2.2.1,y.2.2.1.2.2.2.2.2.2.1,y.2.2.1.2.2.2.2.2.2.2.1,()),(y.2.2.2.1.1,y.2.2.2.1.2.1,()),(x2.S.ab,x2.S.Next,x2.aA,x2.aj,x2.ap,x2.ax,x2.State,x2.cd,()),((gV x4 x5).b,(gV x4 x5).i,(gV x4 x5).h,()),());F9 c aK y->bif decide (y.1>0) then bm x5/\cO x6 x4/\y.2.2.2.2.1.2.2.2.2.2.2.2.1+(30:Int)<=(1000000000:Int)/\F9 c aK q3/\FT c aK q3<FT c aK y else bif y.2.2.2.2.1.2.2.2.2.2.2.1==1 then bm x5/\bif cm x5 10 then cH x4/\((5:Int)=(3:Int)\/(5:Int)=(5:Int))/\LM [DV.agg [CS y.2.2.2.1.1,CL .bB y.2.2.2.1.2.1],DV.agg (aG x3)] [DV.agg [CS ((cG c).Name),CL .bB (cG c).aw],DV.agg q2] [bU (aa x5 10)] [bU (instDC c aK)] else LM [DV.agg [CS y.2.2.2.1.1,CL .bB y.2.2.2.1.2.1],DV.agg [CL .aJ y.2.2.2.2.1.1,CI y.2.2.2.2.1.2.1,CL .aB y.2.2.2.2.1.2.2.1,CL .az y.2.2.2.2.1.2.2.2.1,CL .aE y.2.2.2.2.1.2.2.2.2.1,CL .aQ y.2.2.2.2.1.2.2.2.2.2.1,CI y.2.2.2.2.1.2.2.2.2.2.2.1,CI y.2.2.2.2.1.2.2.2.2.2.2.2.1]] [DV.agg [CS ((cG c).Name),CL .bB (cG c).aw],DV.agg q2] [bU (aa x5 10)] [bU (instDC c aK)] else LM [DV.agg [CS y.2.2.2.1.1,CL .bB y.2.2.2.1.2.1],DV.agg [CL .aJ y.2.2.2.2.1.1,CI y.2.2.2.2.1.2.1,CL .aB y.2.2.2.2.1.2.2.1,CL .az y.2.2.2.2.1.2.2.2.1,CL .aE y.2.2.2.2.1.2.2.2.2.1,CL .aQ y.2.2.2.2.1.2.2.2.2.2.1,CI y.2.2.2.2.1.2.2.2.2.2.2.1,CI y.2.2.2.2.1.2.2.2.2.2.2.2.1]] [DV.agg [CS ((cG c).Name),CL .bB (cG c).aw],DV.agg q2] [DV.box [CL .byte y.2.2.2.2.2.1.1,CI y.2.2.2.2.2.1.2.1,CI y.2.2.2.2.2.1.2.2.1]] [bU (instDC c aK)])
 dsimp only
 have hk:=zg bo
 have h1:=OK bo
 have h2:=au h1 aK
 have hn:=Q0 c
 have hb:0<=af (AQ c) aK/\af (AQ c) aK<=1000:=by
  by_cases h:0<aK
  ·have:=bz (c:=AQ c) h;omega
  ·unfold af;rw[if_pos (by omega)];omega
 refine⟨bo,hk.1,hk.2,by decide,h1.1,h1.2,⟨rfl,hb.1,hb.2,h2,KS c,?_,rfl,rfl⟩,?_⟩
 ·show(LX c).cd+30*af (AQ c) aK<=1000000000
  omega
 clear hk h1 h2 hn hb
 rintro⟨i,r,q,d,p,cu,⟨⟩⟩ ⟨hd,g1,g2,gc,gX,gn,gE,gC⟩
 have hd:d=((cG c).Name,(cG c).aw,()):=hd
 subst hd
 have g1:0<=i:=g1
 have g2:i<=1000:=g2
 have gc:bm (lM cu):=gc
 have gX:cO (cG c) (instT p):=gX
 have gn:(instT p).cd+30*i<=1000000000:=gn
 have gE:ol (cG c) i.toNat (instT p) (lM cu)=AP c aK:=gE
 have gC:tJ (cG c) i.toNat (instT p) (lM cu)=IM c aK:=gC
 refine aR ?_ ?_<;>intro hc
 ·have hc:0<i:=hc
  obtain⟨e1,e2,e3⟩:=Bm (c:=lM cu) gX (by omega)
  have es:=LO (d:=cG c) (x:=instT p) (c:=lM cu) hc
  rw[es.1] at gE
  rw[es.2] at gC
  have nx:∀j,j=i-1->F9 c aK (j,r,q,((cG c).Name,(cG c).aw,()),uu (gU (cG c) (instT p) (lM cu)),UR (gV (instT p) (lM cu)),())/\FT c aK (j,r,q,((cG c).Name,(cG c).aw,()),uu (gU (cG c) (instT p) (lM cu)),UR (gV (instT p) (lM cu)),())<FT c aK (i,r,q,((cG c).Name,(cG c).aw,()),p,cu,()):=by
   rintro j rfl
   exact⟨⟨rfl,by omega,by omega,HD gc,e1,by show(gU (cG c) (instT p) (lM cu)).cd+30*(i-1)<=1000000000;omega,gE,gC⟩,by show(i-1).toNat<i.toNat;omega⟩
  exact⟨gc,gX,by show(instT p).cd+30<=1000000000;omega,nx _ (wi (n:=i-1))⟩
 ·have hc:¬0<i:=hc
  have e:i.toNat=0:=by omega
  rw[e] at gE gC
  have gE:instT p=AP c aK:=gE
  have gC:lM cu=IM c aK:=gC
  have fin:∀(x':aq)(c':ah),x'=instD c aK->c'=instDC c aK->fG [DV.agg [.lit (.string (cG c).Name),.sl .bB (cG c).aw],DV.agg [.sl .aJ x'.S.ab,.lit (.int .i64 x'.S.Next),.sl .aB x'.aA,.sl .az x'.aj,.sl .aE x'.ap,.sl .aQ x'.ax,.lit (.int .i64 x'.State),.lit (.int .i64 x'.cd)]]=fG [DV.agg [.lit (.string (cG c).Name),.sl .bB (cG c).aw],DV.agg [.sl .aJ (instD c aK).S.ab,.lit (.int .i64 (instD c aK).S.Next),.sl .aB (instD c aK).aA,.sl .az (instD c aK).aj,.sl .aE (instD c aK).ap,.sl .aQ (instD c aK).ax,.lit (.int .i64 (instD c aK).State),.lit (.int .i64 (instD c aK).cd)]]/\fG [DV.box [.sl .byte c'.b,.lit (.int .i64 c'.i),.lit (.int .i64 c'.h)]]=fG [DV.box [.sl .byte (instDC c aK).b,.lit (.int .i64 (instDC c aK).i),.lit (.int .i64 (instDC c aK).h)]]:=fun _ _ h1 h2=>Ki rfl h1 h2
  refine bg (fun hs=>⟨gc,ae (fun ho=>⟨gX.good,.inr rfl,rfl,?_⟩) (fun ho=>⟨rfl,?_⟩)⟩) (fun hs=>⟨rfl,?_⟩)
  ·have hs:(AP c aK).State=1:=by rw[<-gE];exact hs
   have ho:cm (IM c aK) 10=true:=by rw[<-gC];exact ho
   exact fin (fX (instT p) 5) (aa (lM cu) 10) (by rw[instD,if_pos ⟨hs,ho⟩,gE]) (by rw[instDC,if_pos hs,gC])
  ·have hs:(AP c aK).State=1:=by rw[<-gE];exact hs
   have ho:¬cm (IM c aK) 10=true:=by rw[<-gC];exact fun c=>absurd (ho.symm.trans c) (by decide)
   exact fin (instT p) (aa (lM cu) 10) (by rw[instD,if_neg (fun c=>ho c.2),gE]) (by rw[instDC,if_pos hs,gC])
  ·have hs:¬(AP c aK).State=1:=by rw[<-gE];exact hs
   exact fin (instT p) (lM cu) (by rw[instD,if_neg (fun c=>hs c.1),gE]) (by rw[instDC,if_neg hs,gC])
def Yv:=bW (α:=ah) (q1 qU) [.box false] (fun c=>[bm c]) (fun c=>⟨[dA .dB (tg c)],[],[dU (rc c)]⟩)
def DK(c:ah):O'×O'×T4×Unit->Prop:=fun(r,p,cu,_)=>p.1=(uK c).Kind/\p.2.2.1=(uK c).Not/\bm ⟨cu.1,cu.2.1,cu.2.2.1⟩/\p.2.1.length<=6/\mR p.2.1 ⟨cu.1,cu.2.1,cu.2.2.1⟩=mR (uK c).ay (Ge c)
def Jw(c:ah):O'×O'×T4×Unit->Nat:=fun(r,p,cu,_)=>6-p.2.1.length
def aj7:AX Yv:=fun c=>bS [(8,aT [.box 2 (2,1024) [.lit .str,.own .gM true,.lit .bool],.box 3 (3,1024) [.lit .str,.own .gM true,.lit .bool],.box 0 (2000000,0) [.shr .byte,.lit (.int .i64),.lit (.int .i64)]] (fun _=>DK c) (Jw c))]
def aiS:HH:=hF Yv func169 [sL,Y5,nE,mS,O3] aj7 fun(c:ah) hp hb=>by
 have bo:bm c:=hp _ m0
 clear hp hb
 apply vE (let x7:=pH (cm c 3) (aa c 3);let x9:={data:= #[]:BA};let mf:=jE (aa c 3);let x3:=[x9,{data:= #[120]:BA},{data:= #[88]:BA}];let x4:=[x9,{data:= #[65]:BA},{data:= #[120]:BA}];let x5:=aa mf 10;let x6:=x7.ay;let x8:=af mf 10;let x0:=ck (aa x5 5) x3;let x1:=ck x5 x4;let x2:=[{K:=af x5 5,S:=cD (aa x5 5) x3,V:={K:=(0:Int),N:=(0:Int),S:=x9:a_}:cM}];let q0:=(tg c).Kind;let q1:=(tg c).Not;let q2:=BA×List cM×Bool×PUnit;bm c/\bm (aa c 3)/\0<=mf.i/\L4 mf.b.length/\bif x8==0 then bm x5/\1<=x4.length/\LM [DV.agg [CS (cD x5 x4),CL .gM x6,CO x7.Not]] [DV.agg [CS q0,CL .gM (tg c).ay,CO q1]] [bU x1] [bU (rc c)] else bif x8==1 then 0<=x5.i/\L4 x5.b.length/\bm (aa x5 5)/\1<=x3.length/\L4 (x6.length+x2.length)/\LM [DV.agg [CS x7.Kind,CL .gM (x6++x2),CO x7.Not]] [DV.agg [CS q0,CL .gM (tg c).ay,CO q1]] [bU x0] [bU (rc c)] else bif x8==2 then DK c ((x9,[],false,()),(x7.Kind,x6,x7.Not,()),(x5.b,x5.i,x5.h,()),())/\∀(y:q2×q2×O9×PUnit),let jd:={b:=y.2.2.1.1,i:=y.2.2.1.2.1,h:=y.2.2.1.2.2.1:ah};let vH:=y.2.1.2.1.length;let qP:=aa jd 2;let w_:=wrap i64 (5+af jd 2);let Aa:=(↑vH:Int);let q3:=((y.1.1,y.1.2.1,y.1.2.2.1,()),(y.2.1.1,y.2.1.2.1++[io qP],y.2.1.2.2.1,()),((im qP).b,(im qP).i,(im qP).h,()),());DK c y->0<=y.2.2.1.2.1/\L4 y.2.2.1.1.length/\bif decide (Aa<w_) then bm qP/\vH+List.length [io qP]<=4294967296/\DK c q3/\Jw c q3<Jw c y else LM [DV.agg [CS y.2.1.1,CL .gM y.2.1.2.1,CO y.2.1.2.2.1]] [DV.agg [CS q0,CL .gM (tg c).ay,CO q1]] [bU qP] [bU (rc c)] else LM [DV.agg [CS x7.Kind,CL .gM x6,CO x7.Not]] [DV.agg [CS q0,CL .gM (tg c).ay,CO q1]] [bU x5] [bU (rc c)])
 dsimp only
 have h3:=au bo 3
 have hk:=qn h3
 have he:=IR bo
 have hpo:=(xl (yp (cm c 3) (aa c 3))).1
 have By:(uK c).ay.length<=5:=hpo
 refine⟨bo,h3,hk.1,hk.2,bg (fun k=> ?_) (fun k0=>bg (fun k=> ?_) (fun k1=>bg (fun k=> ?_) (fun k2=> ?_)))⟩
 ·have e1:tg c=⟨cD (Ge c) uv,(uK c).ay,(uK c).Not⟩:=if_pos k
  have e2:rc c=ck (Ge c) uv:=if_pos k
  exact⟨he,by decide,rfl,LdP e1.symm e2.symm⟩
 ·have e1:tg c=⟨(uK c).Kind,(uK c).ay++[paA c],(uK c).Not⟩:=(if_neg k0).trans (if_pos k)
  have e2:rc c=ck (aa (Ge c) 5) Rg:=(if_neg k0).trans (if_pos k)
  exact⟨he.1,he.2,au he 5,by decide,by simp only[fP,fz];omega,rfl,LdP e1.symm e2.symm⟩
 ·have e1:tg c=⟨(uK c).Kind,(mR (uK c).ay (Ge c)).1,(uK c).Not⟩:=(if_neg k0).trans ((if_neg k1).trans (if_pos k))
  have e2:rc c=(mR (uK c).ay (Ge c)).2:=(if_neg k0).trans ((if_neg k1).trans (if_pos k))
  refine⟨⟨rfl,rfl,he,by show(uK c).ay.length<=6;omega,rfl⟩,?_⟩
  rintro⟨r,p,cu,⟨⟩⟩ ⟨hK,hN,GB,hlen,hF⟩
  have hK:p.1=(uK c).Kind:=hK
  have hN:p.2.2.1=(uK c).Not:=hN
  have GB:bm (lM cu):=GB
  have hlen:p.2.1.length<=6:=hlen
  have hF:mR p.2.1 (lM cu)=mR (uK c).ay (Ge c):=hF
  have hb:=bz (c:=lM cu) (n:=2) (by omega)
  have hw:IntKind.wrap .i64 (5+af (lM cu) 2)=5+af (lM cu) 2:=wi
  refine⟨GB.1,GB.2,aR (fun g=> ?_) (fun g=> ?_)⟩
  ·have g:(p.2.1.length:Int)<5+af (lM cu) 2:=hw▸g
   rw[Hj g] at hF
   exact⟨au GB 2,by show p.2.1.length+1<=4294967296;omega,⟨hK,hN,rr (au GB 2),by show(p.2.1++[io (aa (lM cu) 2)]).length<=6;simp only[kF,fP,fz];omega,hF⟩,by show 6-(p.2.1++[io (aa (lM cu) 2)]).length<6-p.2.1.length;simp only[kF,fP,fz];omega⟩
  ·have g:¬(p.2.1.length:Int)<5+af (lM cu) 2:=hw▸g
   rw[LJ g] at hF
   exact⟨rfl,LdP (a:=⟨p.1,p.2.1,p.2.2.1⟩) (d:=aa (lM cu) 2) (by rw[e1,<-hF,hK,hN]) (by rw[e2,<-hF])⟩
 ·have e1:tg c=uK c:=(if_neg k0).trans ((if_neg k1).trans (if_neg k2))
  have e2:rc c=Ge c:=(if_neg k0).trans ((if_neg k1).trans (if_neg k2))
  exact⟨rfl,LdP e1.symm e2.symm⟩
def pd(c:ah):dy:=ze c
def Bv(c:ah):ah:=rQ c
def aaP(p:Int×Int×BA×Int×Int×BA×Int×BA×Int×Int×BA×Unit):dy:=⟨p.1,⟨p.2.1,p.2.2.1,⟨p.2.2.2.1,p.2.2.2.2.1,p.2.2.2.2.2.1⟩⟩,⟨p.2.2.2.2.2.2.1,p.2.2.2.2.2.2.2.1,⟨p.2.2.2.2.2.2.2.2.1,p.2.2.2.2.2.2.2.2.2.1,p.2.2.2.2.2.2.2.2.2.2.1⟩⟩⟩
def akL(x:dy):Int×Int×BA×Int×Int×BA×Int×BA×Int×Int×BA×Unit:=(x.Op,x.L.K,x.L.S,x.L.V.K,x.L.V.N,x.L.V.S,x.R.K,x.R.S,x.R.V.K,x.R.V.N,x.R.V.S,())
theorem W7{a a':dy}{d d':ah}(h1:a=a')(h2:d=d'):fG [DV.agg [CI a.Op,CI a.L.K,.lit (.string a.L.S),CI a.L.V.K,CI a.L.V.N,.lit (.string a.L.V.S),CI a.R.K,.lit (.string a.R.S),CI a.R.V.K,CI a.R.V.N,.lit (.string a.R.V.S)]]=fG [DV.agg [CI a'.Op,CI a'.L.K,.lit (.string a'.L.S),CI a'.L.V.K,CI a'.L.V.N,.lit (.string a'.L.V.S),CI a'.R.K,.lit (.string a'.R.S),CI a'.R.V.K,CI a'.R.V.N,.lit (.string a'.R.V.S)]]/\fG [DV.box [.sl .byte d.b,CI d.i,CI d.h]]=fG [DV.box [.sl .byte d'.b,CI d'.i,CI d'.h]]:=by subst h1 h2;exact⟨rfl,rfl⟩
def agM:=bW (α:=ah) (q1 qU) [.box false] (fun c=>[bm c]) (fun c=>⟨[dA .ca (pd c)],[],[dU (Bv c)]⟩)
def air:HH:=hF agM func203 [nE,T'] a0 fun(c:ah) hp hb=>by
 have bo:bm c:=hp _ m0
 clear hp hb
 apply vE (let x1:=(eu (aa c 3)).V;let x2:=eu (dc (aa c 3));let x3:=dc (dc (aa c 3));let x0:=x2.V;let q0:=aa c 3;0<=c.i/\L4 c.b.length/\bm q0/\bm (dc q0)/\LM [DV.agg [CI (wrap i64 (1+af c 3)),CI ((eu q0).K),CS ((eu q0).S),CI x1.K,CI x1.N,CS x1.S,CI x2.K,CS x2.S,CI x0.K,CI x0.N,CS x0.S]] [DV.agg [CI ((pd c).Op),CI ((pd c).L.K),CS ((pd c).L.S),CI ((pd c).L.V.K),CI ((pd c).L.V.N),CS ((pd c).L.V.S),CI ((pd c).R.K),CS ((pd c).R.S),CI ((pd c).R.V.K),CI ((pd c).R.V.N),CS ((pd c).R.V.S)]] [bU x3] [bU (Bv c)])
 dsimp only
 have hb:=bz (c:=c) (n:=3) (by omega)
 have h3:=au bo 3
 rw[wi]
 exact⟨bo.1,bo.2,h3,qm h3,by trivial,rfl,rfl⟩
def vy:=bW (α:=ah) (q1 qU) [.box false] (fun c=>[bm c]) (fun c=>⟨[dA .ca (ku c)],[],[dU (nb c)]⟩)
def O6:AX vy:=fun c=>bS []
def OZ:=us [air,nE,O3]
def lh(c:ah):T6×T6×T4×Unit->Prop:=fun(r,p,cu,_)=>aaP p=pd c/\lM cu=Bv c
def nk:vy.α->sS UU:=fun c=>aT [.box 2 (2,1024) [.lit (.int .i64),.lit (.int .i64),.lit .str,.lit (.int .i64),.lit (.int .i64),.lit .str,.lit (.int .i64),.lit .str,.lit (.int .i64),.lit (.int .i64),.lit .str],.box 3 (3,1024) [.lit (.int .i64),.lit (.int .i64),.lit .str,.lit (.int .i64),.lit (.int .i64),.lit .str,.lit (.int .i64),.lit .str,.lit (.int .i64),.lit (.int .i64),.lit .str],.box 0 (2000000,0) [.shr .byte,.lit (.int .i64),.lit (.int .i64)]] (fun _=>lh c) (fun _=>0)
theorem afa(c:ah)(y:T6×T6×T4×Unit):kO EE OZ f170 vy O6 c 2 (nk c) y=(let x2:={b:=y.2.2.1.1,i:=y.2.2.1.2.1,h:=y.2.2.1.2.2.1:ah};let x0:=aa x2 8;let x1:=af x2 8;let q0:=(ku c).L.V.K;let q1:=(ku c).L.V.N;let q2:=(ku c).L.V.S;let q3:=(ku c).R.V.K;let q4:=(ku c).R.V.N;let q5:=(ku c).R.V.S;let q6:=(ku c).L.K;let q7:=(ku c).L.S;let q8:=(ku c).R.K;let q9:=(ku c).R.S;let RC:=(ku c).Op;0<=y.2.2.1.2.1/\y.2.2.1.1.length<=4294967296/\bif x1==0 then 0<=x0.i/\x0.b.length<=4294967296/\LM [DV.agg [CI (af x0 6),CI y.2.1.2.1,CS y.2.1.2.2.1,CI y.2.1.2.2.2.1,CI y.2.1.2.2.2.2.1,CS y.2.1.2.2.2.2.2.1,CI y.2.1.2.2.2.2.2.2.1,CS y.2.1.2.2.2.2.2.2.2.1,CI y.2.1.2.2.2.2.2.2.2.2.1,CI y.2.1.2.2.2.2.2.2.2.2.2.1,CS y.2.1.2.2.2.2.2.2.2.2.2.2.1]] [DV.agg [CI RC,CI q6,CS q7,CI q0,CI q1,CS q2,CI q8,CS q9,CI q3,CI q4,CS q5]] [bU (aa x0 6)] [bU (nb c)] else bif x1==1 then bm x0/\LM [DV.agg [CI y.2.1.1,CI ((io x0).K),CS ((io x0).S),CI ((io x0).V.K),CI ((io x0).V.N),CS ((io x0).V.S),CI y.2.1.2.2.2.2.2.2.1,CS y.2.1.2.2.2.2.2.2.2.1,CI y.2.1.2.2.2.2.2.2.2.2.1,CI y.2.1.2.2.2.2.2.2.2.2.2.1,CS y.2.1.2.2.2.2.2.2.2.2.2.2.1]] [DV.agg [CI RC,CI q6,CS q7,CI q0,CI q1,CS q2,CI q8,CS q9,CI q3,CI q4,CS q5]] [bU (im x0)] [bU (nb c)] else bif x1==2 then 0<=x0.i/\x0.b.length<=4294967296/\LM [DV.agg [CI y.2.1.1,CI y.2.1.2.1,CS y.2.1.2.2.1,CI y.2.1.2.2.2.1,CI y.2.1.2.2.2.2.1,CS y.2.1.2.2.2.2.2.1,CI (af x0 5),CS ({data:= #[]:BA}),CI 0,CI 0,CS ({data:= #[]:BA})]] [DV.agg [CI RC,CI q6,CS q7,CI q0,CI q1,CS q2,CI q8,CS q9,CI q3,CI q4,CS q5]] [bU (aa x0 5)] [bU (nb c)] else LM [DV.agg [CI y.2.1.1,CI y.2.1.2.1,CS y.2.1.2.2.1,CI y.2.1.2.2.2.1,CI y.2.1.2.2.2.2.1,CS y.2.1.2.2.2.2.2.1,CI y.2.1.2.2.2.2.2.2.1,CS y.2.1.2.2.2.2.2.2.2.1,CI y.2.1.2.2.2.2.2.2.2.2.1,CI y.2.1.2.2.2.2.2.2.2.2.2.1,CS y.2.1.2.2.2.2.2.2.2.2.2.2.1]] [DV.agg [CI RC,CI q6,CS q7,CI q0,CI q1,CS q2,CI q8,CS q9,CI q3,CI q4,CS q5]] [bU x0] [bU (nb c)]):=by kernel_rfl
theorem Gn(c:ah)(y:T6×T6×T4×Unit)(hp:∀p∈vy.pre c,p)(hb:∀d∈vy.ds c,gN d)(hy:lh c y):kO EE OZ f170 vy O6 c 2 (nk c) y:=by
 have qb:=QP (x:=c) (hb _ m0)
 have bo:bm c:=hp _ m0
 clear hp hb
 rw[afa c y]
 dsimp only
 obtain⟨r,p,cu,⟨⟩⟩:=y
 obtain⟨hp,GB⟩:=hy
 have hp:aaP p=pd c:=hp
 have GB:lM cu=Bv c:=GB
 have ep:p=akL (aaP p):=rfl
 have ec:cu=UR (lM cu):=rfl
 rw[hp] at ep
 rw[GB] at ec
 subst ep ec
 have hk:bm (Bv c):=AU bo
 have he:bm (Kn c):=OL bo
 refine⟨hk.1,hk.2,bg (fun k=> ?_) (fun k0=>bg (fun k=> ?_) (fun k1=>bg (fun k=> ?_) (fun k2=> ?_)))⟩
 ·have e1:ku c=⟨af (Kn c) 6,(MH c).L,(MH c).R⟩:=if_pos k
  have e2:nb c=aa (Kn c) 6:=if_pos k
  exact⟨he.1,he.2,rfl,W7 e1.symm e2.symm⟩
 ·have e1:ku c=⟨(MH c).Op,io (Kn c),(MH c).R⟩:=(if_neg k0).trans (if_pos k)
  have e2:nb c=im (Kn c):=(if_neg k0).trans (if_pos k)
  exact⟨he,rfl,W7 e1.symm e2.symm⟩
 ·have e1:ku c=⟨(MH c).Op,(MH c).L,⟨af (Kn c) 5,ai,dK⟩⟩:=(if_neg k0).trans ((if_neg k1).trans (if_pos k))
  have e2:nb c=aa (Kn c) 5:=(if_neg k0).trans ((if_neg k1).trans (if_pos k))
  exact⟨he.1,he.2,rfl,W7 e1.symm e2.symm⟩
 ·have e1:ku c=MH c:=(if_neg k0).trans ((if_neg k1).trans (if_neg k2))
  have e2:nb c=Kn c:=(if_neg k0).trans ((if_neg k1).trans (if_neg k2))
  exact⟨rfl,W7 e1.symm e2.symm⟩
theorem Gm(c:ah)(hp:∀p∈vy.pre c,p)(hb:∀d∈vy.ds c,gN d):ph EE OZ f170 vy O6 c 2 (nk c):=by
 have qb:=QP (x:=c) (hb _ m0)
 have bo:bm c:=hp _ m0
 clear hp hb
 apply vE (let x0:={data:= #[]:BA};bm c/\lh c ((0,0,x0,0,0,x0,0,x0,0,0,x0,()),((pd c).Op,(pd c).L.K,(pd c).L.S,(pd c).L.V.K,(pd c).L.V.N,(pd c).L.V.S,(pd c).R.K,(pd c).R.S,(pd c).R.V.K,(pd c).R.V.N,(pd c).R.V.S,()),((Bv c).b,(Bv c).i,(Bv c).h,()),()))
 dsimp only
 exact⟨bo,rfl,rfl⟩
attribute [local irreducible] ph kO in
theorem afp:Holds EE (170,vy):=by
 refine sk pD func170 vy (by kernel_rfl) OZ (uQ _) O6 2 nk (by kernel_rfl) (fun(c:ah) hp hb=> ?_)
 refine⟨Gm c hp hb,fun(y:T6×T6×T4×Unit) hy=> ?_⟩
 have hy:lh c y:=hy
 exact Gn c y hp hb hy
def aiR:HH:=⟨_,afp⟩
def agZ:=bW (α:=ah) (q1 qU) [.box false] (fun c=>[bm c]) (fun c=>⟨[dA .dE (po c)],[],[dU (nP c)]⟩)
def aiQ:HH:=hF agZ func171 [Y4,nE,mS,B4,O3] a0 fun(c:ah) hp hb=>by
 have bo:bm c:=hp _ m0
 clear hp hb
 apply vE (let x2:=aa (qt 2 c) 10;let x3:=[{data:= #[]:BA},{data:= #[65]:BA},{data:= #[120]:BA}];let x8:=[{data:= #[]:BA},{data:= #[42]:BA}];let x9:=af (qt 2 c) 10;let w_:=[(-1),7,8,100001];let x1:=ck x2 x3;let x7:=ck x2 x8;let qP:=w_.length;let x6:=im x7;let mf:=(↑qP:Int);let x0:=[{Op:=cD x2 x8,L:=io x7,R:=io x6:cv}];let x4:=aa x2 mf;let x5:=im x6;let q0:=xG 2 c;let q1:=(po c).Kind;let q2:=(po c).Name;let q3:=(po c).aW;let q4:=(po c).N;bm c/\0<=(qt 2 c).i/\(qt 2 c).b.length<=4294967296/\bif x9==0 then 0<=x2.i/\L4 x2.b.length/\LM [DV.agg [CI (af x2 8),CS (q0.Name),CL .bI q0.ay,CI (q0.N),CS (q0.aW)]] [DV.agg [CI q1,CS q2,CL .bI (po c).ay,CI q4,CS q3]] [bU (aa x2 8)] [bU (nP c)] else bif x9==1 then bm x2/\1<=x3.length/\LM [DV.agg [CI (q0.Kind),CS (cD x2 x3),CL .bI q0.ay,CI (q0.N),CS (q0.aW)]] [DV.agg [CI q1,CS q2,CL .bI (po c).ay,CI q4,CS q3]] [bU x1] [bU (nP c)] else bif x9==2 then 0<=x2.i/\L4 x2.b.length/\1<=qP/\LM [DV.agg [CI (q0.Kind),CS (q0.Name),CL .bI q0.ay,CI (w_.getD (Int.toNat (af x2 mf)) 0),CS (q0.aW)]] [DV.agg [CI q1,CS q2,CL .bI (po c).ay,CI q4,CS q3]] [bU x4] [bU (nP c)] else bif x9==3 then bm x2/\1<=x3.length/\LM [DV.agg [CI (q0.Kind),CS (q0.Name),CL .bI q0.ay,CI (q0.N),CS (cD x2 x3)]] [DV.agg [CI q1,CS q2,CL .bI (po c).ay,CI q4,CS q3]] [bU x1] [bU (nP c)] else bif x9==4 then bm x2/\1<=x8.length/\bm x7/\bm x6/\L4 (q0.ay.length+x0.length)/\LM [DV.agg [CI (q0.Kind),CS (q0.Name),CL .bI (q0.ay++x0),CI (q0.N),CS (q0.aW)]] [DV.agg [CI q1,CS q2,CL .bI (po c).ay,CI q4,CS q3]] [bU x5] [bU (nP c)] else LM [DV.agg [CI (q0.Kind),CS (q0.Name),CL .bI q0.ay,CI (q0.N),CS (q0.aW)]] [DV.agg [CI q1,CS q2,CL .bI (po c).ay,CI q4,CS q3]] [bU x2] [bU (nP c)])
 dsimp only
 have hk:=zh 2 bo
 have he:=OM bo
 have hl:=(Mj c).2.2.2.2
 have hl:(xG 2 c).ay.length<=2:=hl
 refine⟨bo,hk.1,hk.2,bg (fun k=> ?_) (fun k0=>bg (fun k=> ?_) (fun k1=>bg (fun k=> ?_) (fun k2=>bg (fun k=> ?_) (fun k3=>bg (fun k=> ?_) (fun k4=> ?_)))))⟩
 ·have e1:po c=⟨af (FQ c) 8,(pq c).Name,(pq c).ay,(pq c).N,(pq c).aW⟩:=if_pos k
  have e2:nP c=aa (FQ c) 8:=if_pos k
  exact⟨he.1,he.2,rfl,sN e1.symm e2.symm⟩
 ·have e1:po c=⟨(pq c).Kind,cD (FQ c) uv,(pq c).ay,(pq c).N,(pq c).aW⟩:=(if_neg k0).trans (if_pos k)
  have e2:nP c=ck (FQ c) uv:=(if_neg k0).trans (if_pos k)
  exact⟨he,by decide,rfl,sN e1.symm e2.symm⟩
 ·have e1:po c=⟨(pq c).Kind,(pq c).Name,(pq c).ay,gS (FQ c) V0,(pq c).aW⟩:=(if_neg k0).trans ((if_neg k1).trans (if_pos k))
  have e2:nP c=kL (FQ c) V0:=(if_neg k0).trans ((if_neg k1).trans (if_pos k))
  exact⟨he.1,he.2,by decide,rfl,sN e1.symm e2.symm⟩
 ·have e1:po c=⟨(pq c).Kind,(pq c).Name,(pq c).ay,(pq c).N,cD (FQ c) uv⟩:=(if_neg k0).trans ((if_neg k1).trans ((if_neg k2).trans (if_pos k)))
  have e2:nP c=ck (FQ c) uv:=(if_neg k0).trans ((if_neg k1).trans ((if_neg k2).trans (if_pos k)))
  exact⟨he,by decide,rfl,sN e1.symm e2.symm⟩
 ·have e1:po c=⟨(pq c).Kind,(pq c).Name,(pq c).ay++[acX c],(pq c).N,(pq c).aW⟩:=(if_neg k0).trans ((if_neg k1).trans ((if_neg k2).trans ((if_neg k3).trans (if_pos k))))
  have e2:nP c=im (im (QG c)):=(if_neg k0).trans ((if_neg k1).trans ((if_neg k2).trans ((if_neg k3).trans (if_pos k))))
  exact⟨he,by decide,dQ he _,rr (dQ he _),by simp only[fP,fz];omega,rfl,sN e1.symm e2.symm⟩
 ·have e1:po c=pq c:=(if_neg k0).trans ((if_neg k1).trans ((if_neg k2).trans ((if_neg k3).trans (if_neg k4))))
  have e2:nP c=FQ c:=(if_neg k0).trans ((if_neg k1).trans ((if_neg k2).trans ((if_neg k3).trans (if_neg k4))))
  exact⟨rfl,sN e1.symm e2.symm⟩
def aho:=bW (α:=ah×bc) (qC qU (q1 (qA .bB))) [.box false,.ro] (fun(c,r)=>[bm c,1<=r.aH.length/\r.aH.length<=4294967200,r.aV.length<=4294967200,r.bH.length<=4294967200]) (fun(c,r)=>⟨[dA .bB (nq r c)],[false],[dU (gY c)]⟩)
def Zp:HH:=hF aho func113 [nE,mS,B4,aiS,aiR,aiQ] a0 fun x hp hb=>by
 obtain⟨c,r⟩:=x
 have qb:=QP (x:=c) (hb _ m0)
 have hH:=ma (x:=r) (hb _ m1)
 have kY:=hH.1
 have kX:=hH.2.1
 have jP:=hH.2.2.1
 have kZ:=hH.2.2.2
 have bo:bm c:=hp _ m0
 have eJ:1<=r.aH.length/\r.aH.length<=4294967200:=hp _ m1
 have G':r.aV.length<=4294967200:=hp _ m2
 have hp3:r.bH.length<=4294967200:=hp _ m3
 clear hp hb
 apply vE (let x1:=[{data:= #[]:BA},{data:= #[65]:BA},{data:= #[120]:BA}];let x3:List cr:=[]++r.aH;let x6:=[(-101),101,100];let x7:=Option.getD (some 0) (r.bH.length:Int);let x8:List dy:=[]++r.aV;let x9:List ez:=[]++r.bH;let x0:=ck (aa c 10) x1;let x5:=x6.length;let x4:=(↑x5:Int);let x2:=aa (aa c 10) x4;let q0:=nq r c;let q1:=aa c 10;0+r.aH.length<=4294967296/\0<=c.i/\L4 c.b.length/\bif af c (10:Int)==(0:Int) then bm q1/\1<=x1.length/\LM [DV.agg [CS (cD q1 x1),CI r.jp,CL .dB x3,CL .ca r.aV,CL .dE r.bH]] [DV.agg [CS (q0.Name),CI (q0.jp),CL .dB q0.aH,CL .ca q0.aV,CL .dE q0.bH]] [bU x0] [bU (gY c)] else bif af c (10:Int)==(1:Int) then 0<=q1.i/\L4 q1.b.length/\1<=x5/\LM [DV.agg [CS r.Name,CI (x6.getD (Int.toNat (af q1 x4)) 0),CL .dB x3,CL .ca r.aV,CL .dE r.bH]] [DV.agg [CS (q0.Name),CI (q0.jp),CL .dB q0.aH,CL .ca q0.aV,CL .dE q0.bH]] [bU x2] [bU (gY c)] else bif af c (10:Int)==(2:Int) then bm q1/\x3.length+List.length [tg q1]<=4294967296/\LM [DV.agg [CS r.Name,CI r.jp,CL .dB (x3++[tg q1]),CL .ca r.aV,CL .dE r.bH]] [DV.agg [CS (q0.Name),CI (q0.jp),CL .dB q0.aH,CL .ca q0.aV,CL .dE q0.bH]] [bU (rc q1)] [bU (gY c)] else bif af c (10:Int)==(3:Int) then 0+r.aV.length<=4294967296/\bm q1/\x8.length+List.length [ku q1]<=4294967296/\LM [DV.agg [CS r.Name,CI r.jp,CL .dB x3,CL .ca (x8++[ku q1]),CL .dE r.bH]] [DV.agg [CS (q0.Name),CI (q0.jp),CL .dB q0.aH,CL .ca q0.aV,CL .dE q0.bH]] [bU (nb q1)] [bU (gY c)] else bif af c (10:Int)==(4:Int) then 0+r.bH.length<=4294967296/\bm q1/\x9.length+List.length [po q1]<=4294967296/\LM [DV.agg [CS r.Name,CI r.jp,CL .dB x3,CL .ca r.aV,CL .dE (x9++[po q1])]] [DV.agg [CS (q0.Name),CI (q0.jp),CL .dB q0.aH,CL .ca q0.aV,CL .dE q0.bH]] [bU (nP q1)] [bU (gY c)] else bif af c (10:Int)==(5:Int) then(0:Int)<=(0:Int)/\Int.toNat 0<x3.length/\nat_lit 0<x3.length/\LM [DV.agg [CS r.Name,CI r.jp,CL .dB (x3.modify (nat_lit 0) fun(x:cr)=>{Kind:=x.Kind,ay:=x.ay,Not:=true:cr}),CL .ca r.aV,CL .dE r.bH]] [DV.agg [CS (q0.Name),CI (q0.jp),CL .dB q0.aH,CL .ca q0.aV,CL .dE q0.bH]] [bU q1] [bU (gY c)] else bif af c (10:Int)==(6:Int) then 0<=Option.getD none (0:Int)/\Option.getD none (0:Int)<=x7/\x7<=(r.bH.length:Int)/\LM [DV.agg [CS r.Name,CI r.jp,CL .dB x3,CL .ca r.aV,CL .dE []]] [DV.agg [CS (q0.Name),CI (q0.jp),CL .dB q0.aH,CL .ca q0.aV,CL .dE q0.bH]] [bU q1] [bU (gY c)] else LM [DV.agg [CS r.Name,CI r.jp,CL .dB x3,CL .ca r.aV,CL .dE r.bH]] [DV.agg [CS (q0.Name),CI (q0.jp),CL .dB q0.aH,CL .ca q0.aV,CL .dE q0.bH]] [bU q1] [bU (gY c)])
 dsimp only
 have he:=au bo 10
 refine⟨by show 0+r.aH.length<=4294967296;omega,bo.1,bo.2,bg (fun k=> ?_) (fun k0=>bg (fun k=> ?_) (fun k1=>bg (fun k=> ?_) (fun k2=>bg (fun k=> ?_) (fun k3=>bg (fun k=> ?_) (fun k4=>bg (fun k=> ?_) (fun k5=>bg (fun k=> ?_) (fun k6=> ?_)))))))⟩
 ·have e1:nq r c=⟨cD (aa c 10) uv,r.jp,r.aH,r.aV,r.bH⟩:=if_pos k
  have e2:gY c=ck (aa c 10) uv:=if_pos k
  exact⟨he,by decide,rfl,Uo e1.symm e2.symm⟩
 ·have e1:nq r c=⟨r.Name,gS (aa c 10) VZ,r.aH,r.aV,r.bH⟩:=(if_neg k0).trans (if_pos k)
  have e2:gY c=kL (aa c 10) VZ:=(if_neg k0).trans (if_pos k)
  exact⟨he.1,he.2,by decide,rfl,Uo e1.symm e2.symm⟩
 ·have e1:nq r c=⟨r.Name,r.jp,r.aH++[tg (aa c 10)],r.aV,r.bH⟩:=(if_neg k0).trans ((if_neg k1).trans (if_pos k))
  have e2:gY c=rc (aa c 10):=(if_neg k0).trans ((if_neg k1).trans (if_pos k))
  exact⟨he,by show r.aH.length+1<=4294967296;omega,rfl,Uo e1.symm e2.symm⟩
 ·have e1:nq r c=⟨r.Name,r.jp,r.aH,r.aV++[ku (aa c 10)],r.bH⟩:=(if_neg k0).trans ((if_neg k1).trans ((if_neg k2).trans (if_pos k)))
  have e2:gY c=nb (aa c 10):=(if_neg k0).trans ((if_neg k1).trans ((if_neg k2).trans (if_pos k)))
  exact⟨by show 0+r.aV.length<=4294967296;omega,he,by show r.aV.length+1<=4294967296;omega,rfl,Uo e1.symm e2.symm⟩
 ·have e1:nq r c=⟨r.Name,r.jp,r.aH,r.aV,r.bH++[po (aa c 10)]⟩:=(if_neg k0).trans ((if_neg k1).trans ((if_neg k2).trans ((if_neg k3).trans (if_pos k))))
  have e2:gY c=nP (aa c 10):=(if_neg k0).trans ((if_neg k1).trans ((if_neg k2).trans ((if_neg k3).trans (if_pos k))))
  exact⟨by show 0+r.bH.length<=4294967296;omega,he,by show r.bH.length+1<=4294967296;omega,rfl,Uo e1.symm e2.symm⟩
 ·have e1:nq r c=⟨r.Name,r.jp,r.aH.modify 0 (fun p=>⟨p.Kind,p.ay,true⟩),r.aV,r.bH⟩:=(if_neg k0).trans ((if_neg k1).trans ((if_neg k2).trans ((if_neg k3).trans ((if_neg k4).trans (if_pos k)))))
  have e2:gY c=aa c 10:=(if_neg k0).trans ((if_neg k1).trans ((if_neg k2).trans ((if_neg k3).trans (if_neg k4))))
  exact⟨by decide,eJ.1,eJ.1,rfl,Uo e1.symm e2.symm⟩
 ·have e1:nq r c=⟨r.Name,r.jp,r.aH,r.aV,[]⟩:=(if_neg k0).trans ((if_neg k1).trans ((if_neg k2).trans ((if_neg k3).trans ((if_neg k4).trans ((if_neg k5).trans (if_pos k))))))
  have e2:gY c=aa c 10:=(if_neg k0).trans ((if_neg k1).trans ((if_neg k2).trans ((if_neg k3).trans (if_neg k4))))
  exact⟨by decide,by show(0:Int)<=(0:Int);decide,by show(0:Int)<=(r.bH.length:Int);omega,rfl,Uo e1.symm e2.symm⟩
 ·have e1:nq r c=r:=(if_neg k0).trans ((if_neg k1).trans ((if_neg k2).trans ((if_neg k3).trans ((if_neg k4).trans ((if_neg k5).trans (if_neg k6))))))
  have e2:gY c=aa c 10:=(if_neg k0).trans ((if_neg k1).trans ((if_neg k2).trans ((if_neg k3).trans (if_neg k4))))
  exact⟨rfl,Uo e1.symm e2.symm⟩
theorem GU{r:bc}(h:fR r=true):1<=r.aH.length/\r.aH.length<=6/\r.aV.length<=6/\r.bH.length<=6:=by
 simp only[fR,mC,kV,lN,cN,decide_eq_true_eq] at h
 exact⟨h.1.1.2.1.1,h.1.1.2.1.2,h.1.2.1,h.2.1.2⟩
def ahp:=bW (α:=ah) (q1 qU) [.box false] (fun c=>[bm c]) (fun c=>⟨[dA .bB (lV c)],[false],[dU (rK c)]⟩)
def ajm:HH:=hF ahp func112 [mS,Ze,sL,Zp] a0 fun(c:ah) hp hb=>by
 have bo:bm c:=hp _ m0
 clear hp hb
 apply vE (let x5:=[{data:= #[114,49]:BA},{data:= #[114,50]:BA},{data:= #[115,104,105,112]:BA}];let x4:=ck c x5;let x1:=pu (cD c x5) x4;let x3:=pb x4;let x2:=aa x3 3;let x0:=nq x1 x2;bm c/\1<=x5.length/\bm x4/\bm x3/\bif cm x3 3 then bm x2/\(1<=x1.aH.length/\x1.aH.length<=4294967200)/\x1.aV.length<=4294967200/\x1.bH.length<=4294967200/\LM [DV.agg [CS x0.Name,CI x0.jp,CL .dB x0.aH,CL .ca x0.aV,CL .dE x0.bH]] [DV.agg [CS ((lV c).Name),CI ((lV c).jp),CL .dB (lV c).aH,CL .ca (lV c).aV,CL .dE (lV c).bH]] [bU (gY x2)] [bU (rK c)] else LM [DV.agg [CS x1.Name,CI x1.jp,CL .dB x1.aH,CL .ca x1.aV,CL .dE x1.bH]] [DV.agg [CS ((lV c).Name),CI ((lV c).jp),CL .dB (lV c).aH,CL .ca (lV c).aV,CL .dE (lV c).bH]] [bU x2] [bU (rK c)])
 dsimp only
 have h1:=dQ bo pa
 have h2:=zf h1
 have h3:=au h2 3
 obtain⟨q1,q2,q3,q4⟩:=GU (KP c)
 refine⟨bo,by decide,h1,h2,ae (fun k=> ?_) (fun k=> ?_)⟩
 ·have e1:lV c=nq (pu (cD c pa) (ck c pa)) (aa (pb (ck c pa)) 3):=if_pos k
  have e2:rK c=gY (aa (pb (ck c pa)) 3):=if_pos k
  exact⟨h3,⟨q1,uN q2 (by omega)⟩,uN q3 (by omega),uN q4 (by omega),rfl,Uo e1.symm e2.symm⟩
 ·have k:¬cm (pb (ck c pa)) 3=true:=fun e=>absurd (k.symm.trans e) (by decide)
  have e1:lV c=pu (cD c pa) (ck c pa):=if_neg k
  have e2:rK c=aa (pb (ck c pa)) 3:=if_neg k
  exact⟨rfl,Uo e1.symm e2.symm⟩
def FV:=bW (α:=ah) (q1 qU) [.box false] (fun c=>[bm c]) (fun c=>⟨[dA .h_ (uF c)],[false],[dU (pA c)]⟩)
def W2:AX FV:=fun c=>bS []
def WQ:=us [ahy,nE,mS,ajm,Zp]
def kD(c:ah):T2×T2×T4×Unit->Prop:=fun(r,p,cu,_)=>p.1=(cG c).Name/\p.2.1=(cG c).aw/\lM cu=jB c
def mn:FV.α->sS UU:=fun c=>aT [.box 2 (2,1024) [.lit .str,.own .bB true],.box 3 (3,1024) [.lit .str,.own .bB false],.box 0 (2000000,0) [.shr .byte,.lit (.int .i64),.lit (.int .i64)]] (fun _=>kD c) (fun _=>0)
theorem aoe(c:ah)(y:T2×T2×T4×Unit):kO EE WQ f49 FV W2 c 2 (mn c) y=(let x2:={b:=y.2.2.1.1,i:=y.2.2.1.2.1,h:=y.2.2.1.2.2.1:ah};let x3:=y.2.1.2.1.length;let x4:=y.2.1.2.1.getD (nat_lit 0) ct;let x6:=[{data:= #[]:BA},{data:= #[65]:BA}];let x0:=aa x2 10;let x1:=af x2 10;let x5:=ck x0 x6;let q0:=(uF c).Name;0<=y.2.2.1.2.1/\y.2.2.1.1.length<=4294967296/\bif x1==0 then bm x0/\1<=x6.length/\LM [DV.agg [CS (cD x0 x6),CL .bB y.2.1.2.1]] [DV.agg [CS q0,CL .bB (uF c).aw]] [bU x5] [bU (pA c)] else bif x1==1 then bm x0/\x3+List.length [lV x0]<=4294967296/\LM [DV.agg [CS y.2.1.1,CL .bB (y.2.1.2.1++[lV x0])]] [DV.agg [CS q0,CL .bB (uF c).aw]] [bU (rK x0)] [bU (pA c)] else bif x1==2 then(0:Int)<=(0:Int)/\Int.toNat 0<x3/\nat_lit 0<x3/\bm x0/\(1<=x4.aH.length/\x4.aH.length<=4294967200)/\x4.aV.length<=4294967200/\x4.bH.length<=4294967200/\(0:Int)<=(0:Int)/\Int.toNat 0<x3/\nat_lit 0<x3/\LM [DV.agg [CS y.2.1.1,CL .bB (y.2.1.2.1.set (nat_lit 0) (nq x4 x0))]] [DV.agg [CS q0,CL .bB (uF c).aw]] [bU (gY x0)] [bU (pA c)] else bif x1==3 then 0<=Option.getD none (0:Int)/\Option.getD none (0:Int)<=Option.getD (some 0) (↑x3:Int)/\Option.getD (some 0) (↑x3:Int)<=(↑x3:Int)/\Nat.le (nat_lit 0) x3/\LM [DV.agg [CS y.2.1.1,CL .bB []]] [DV.agg [CS q0,CL .bB (uF c).aw]] [bU x0] [bU (pA c)] else LM [DV.agg [CS y.2.1.1,CL .bB y.2.1.2.1]] [DV.agg [CS q0,CL .bB (uF c).aw]] [bU x0] [bU (pA c)]):=by kernel_rfl
theorem Ed(c:ah)(y:T2×T2×T4×Unit)(hp:∀p∈FV.pre c,p)(hb:∀d∈FV.ds c,gN d)(hy:kD c y):kO EE WQ f49 FV W2 c 2 (mn c) y:=by
 have qb:=QP (x:=c) (hb _ m0)
 have bo:bm c:=hp _ m0
 clear hp hb
 rw[aoe c y]
 dsimp only
 obtain⟨r,⟨dn,dr,⟨⟩⟩,cu,⟨⟩⟩:=y
 obtain⟨h1,h2,h3⟩:=hy
 have h1:dn=(cG c).Name:=h1
 have h2:dr=(cG c).aw:=h2
 have h3:lM cu=jB c:=h3
 have ec:cu=UR (lM cu):=rfl
 rw[h3] at ec
 subst h1 h2 ec
 have hk:bm (jB c):=zg bo
 have he:=IS bo
 have hd:=Fw c
 have hr:fR ((cG c).aw.getD 0 ct)=true:=hd.2.2 _ (gH (z:=ct) (show 0<(cG c).aw.length by omega))
 obtain⟨q1,q2,q3,q4⟩:=GU hr
 refine⟨hk.1,hk.2,bg (fun k=> ?_) (fun k0=>bg (fun k=> ?_) (fun k1=>bg (fun k=> ?_) (fun k2=>bg (fun k=> ?_) (fun k3=> ?_))))⟩
 ·have e1:uF c=⟨cD (Hx c) Pn,(cG c).aw⟩:=if_pos k
  have e2:pA c=ck (Hx c) Pn:=if_pos k
  exact⟨he,by decide,rfl,LdD e1.symm e2.symm⟩
 ·have e1:uF c=⟨(cG c).Name,(cG c).aw++[lV (Hx c)]⟩:=(if_neg k0).trans (if_pos k)
  have e2:pA c=rK (Hx c):=(if_neg k0).trans (if_pos k)
  exact⟨he,by show(cG c).aw.length+1<=4294967296;omega,rfl,LdD e1.symm e2.symm⟩
 ·have e1:uF c=⟨(cG c).Name,(cG c).aw.set 0 (nq ((cG c).aw.getD 0 ct) (Hx c))⟩:=(if_neg k0).trans ((if_neg k1).trans (if_pos k))
  have e2:pA c=gY (Hx c):=(if_neg k0).trans ((if_neg k1).trans (if_pos k))
  exact⟨by decide,hd.1,hd.1,he,⟨q1,uN q2 (by omega)⟩,uN q3 (by omega),uN q4 (by omega),by decide,hd.1,hd.1,rfl,LdD e1.symm e2.symm⟩
 ·have e1:uF c=⟨(cG c).Name,[]⟩:=(if_neg k0).trans ((if_neg k1).trans ((if_neg k2).trans (if_pos k)))
  have e2:pA c=Hx c:=(if_neg k0).trans ((if_neg k1).trans (if_neg k2))
  exact⟨by decide,by show(0:Int)<=(0:Int);decide,by show(0:Int)<=((cG c).aw.length:Int);omega,Nat.zero_le _,rfl,LdD e1.symm e2.symm⟩
 ·have e1:uF c=cG c:=(if_neg k0).trans ((if_neg k1).trans ((if_neg k2).trans (if_neg k3)))
  have e2:pA c=Hx c:=(if_neg k0).trans ((if_neg k1).trans (if_neg k2))
  exact⟨rfl,LdD e1.symm e2.symm⟩
theorem Eb(c:ah)(hp:∀p∈FV.pre c,p)(hb:∀d∈FV.ds c,gN d):ph EE WQ f49 FV W2 c 2 (mn c):=by
 have qb:=QP (x:=c) (hb _ m0)
 have bo:bm c:=hp _ m0
 clear hp hb
 apply vE (bm c/\kD c (({data:= #[]:BA},[],()),((cG c).Name,(cG c).aw,()),((jB c).b,(jB c).i,(jB c).h,()),()))
 exact⟨bo,rfl,rfl,rfl⟩
attribute [local irreducible] ph kO in
theorem aoh:Holds EE (49,FV):=by
 refine sk pD func49 FV (by kernel_rfl) WQ (uQ _) W2 2 mn (by kernel_rfl) (fun(c:ah) hp hb=> ?_)
 refine⟨Eb c hp hb,fun(y:T2×T2×T4×Unit) hy=> ?_⟩
 have hy:kD c y:=hy
 exact Ed c y hp hb hy
def apl:HH:=⟨_,aoh⟩
theorem Bd.u8{n:Int}(h:Bd (U:=UU) (.lit (.int .u8 n))):0<=n/\n<=255:=by
 cases h with
 |lit _ h=>exact h.2
theorem uV:∀(k:Nat)(s:aD)(c:ah),0<=s.Next->0<=(lx k s c).Next/\(lx k s c).Next<=s.Next+k
 |0,s,_,h=>⟨h,by simp only[lx];omega⟩
 |k+1,s,c,h=>by
  rw[lx];split
  ·have:=uV k (qk s (s.ab.getD (af (aa c 5) s.ab.length).toNat aZ).Id) (aa (aa c 5) s.ab.length) h
   simp only[qk] at this⊢
   omega
  ·have h2:=(vq s (cZ (aa c 5))).2
   have:=uV k (cK s (cZ (aa c 5))) (c_ (aa c 5)) (by omega)
   omega
theorem KG(c:ah):0<=(df c).Next/\(df c).Next<=10:=by
 have hb:=bz (c:=c) (n:=9) (by omega)
 have:=uV (af c 9).toNat ⟨[],1⟩ (aa c 9) (by decide)
 simp only[df] at this⊢
 omega
theorem Lh{s:aD}(h:th s):(cK s (nK s.ab.length)).ab.length=s.ab.length+1/\(cK s (nK s.ab.length)).Next=s.Next+1:=by
 rw[vl h];exact⟨by simp,rfl⟩
def ab4:=bW (α:=aD×aL) (qC (qX .cQ) (q1 (qA .db))) [.box true,.ro] (fun(s,f)=>[0<=s.Next/\s.Next<=1000/\s.ab.length<=39,L4 f.ag.length]) (fun(s,f)=>⟨[dI (mo s f)],[],[dX .cQ (cK s f)]⟩)
def acb:HH:=hF ab4 func107 [WX,A9] a0 fun x hp hb=>by
 obtain⟨s,f⟩:=x
 have bo:0<=s.Next/\s.Next<=1000/\s.ab.length<=39:=hp _ m0
 have eJ:f.ag.length<=4294967296:=hp _ m1
 clear hp hb
 apply vE (let q0:=LM [VI 0] [VI (mo s f)] [DV.box [CL .aJ s.ab,CI s.Next]] [DV.box [CL .aJ (cK s f).ab,CI ((cK s f).Next)]];let q1:=cK s f;bif decide (kg s.ab f>0) then LM [VI (kg s.ab f)] [VI (mo s f)] [DV.box [CL .aJ s.ab,CI s.Next]] [DV.box [CL .aJ q1.ab,CI (q1.Next)]] else bif decide ((s.ab.length:Int)≥40) then q0 else bif decide (s.Next≥1000000) then q0 else L4 f.ag.length/\s.ab.length+List.length [{Id:=s.Next,F:=f:bO}]<=4294967296/\LM [VI (wrap i64 (wrap i64 (s.Next+1)-1))] [VI (mo s f)] [DV.box [CL .aJ (s.ab++[{Id:=s.Next,F:=f:bO}]),CI (wrap i64 (s.Next+1))]] [DV.box [CL .aJ q1.ab,CI (q1.Next)]])
 dsimp only
 obtain⟨s1,s2,s3⟩:=bo
 refine aR (fun h=>⟨by trivial,?_⟩) (fun h=>aR (fun h2=>absurd h2 (by omega)) (fun h2=>aR (fun h3=>absurd h3 (by omega)) (fun h3=> ?_)))
 ·have e1:cK s f=s:=if_pos h
  have e2:mo s f=kg s.ab f:=if_pos h
  rw[e1,e2];exact⟨rfl,rfl⟩
 ·have e1:cK s f=⟨s.ab++[⟨s.Next,f⟩],s.Next+1⟩:=if_neg h
  have e2:mo s f=s.Next:=if_neg h
  rw[e1,e2,wi (n:=s.Next+1),wi,show s.Next+1-1=s.Next by omega]
  exact⟨eJ,by simp only[fP,fz];omega,by trivial,rfl,rfl⟩
def afY:=bW (α:=ah) (q1 qU) [.box false] (fun c=>[bm c]) (fun c=>⟨[dA .cQ (ly c)],[],[dU (kp c)]⟩)
def JY(c:ah):T3×T3×T4×Unit->Prop:=fun(r,p,cu,_)=>lM cu=KI c/\th ⟨p.1,p.2.1⟩/\p.1.length<=40/\0<=p.2.1/\p.2.1+(40-p.1.length)<=1000/\uq (40-p.1.length) ⟨p.1,p.2.1⟩=uq (40-(df c).ab.length) (df c)
def NO(c:ah):T3×T3×T4×Unit->Nat:=fun(r,p,cu,_)=>40-p.1.length
def aqc:AX afY:=fun c=>bS [(8,aT [.box 2 (2,1024) [.own .aJ true,.lit (.int .i64)],.box 3 (3,1024) [.own .aJ true,.lit (.int .i64)],.box 0 (2000000,0) [.shr .byte,.lit (.int .i64),.lit (.int .i64)]] (fun _=>JY c) (NO c))]
def app:HH:=hF afY func45 [ajq,nE,B4,Uf,acb] aqc fun(c:ah) hp hb=>by
 have bo:bm c:=hp _ m0
 clear hp hb
 apply vE (let x1:=aa (pG c) 12;let x4:=[0,1,1000000,1000001];let x5:=[{Id:=af x1 9,F:=pk (aa x1 9):bO}];let x3:=x4.length;let x2:=(↑x3:Int);let x0:=aa x1 x2;let q0:=(ly c).Next;let q1:=pG c;bm c/\0<=q1.i/\L4 q1.b.length/\bif af q1 (12:Int)==(0:Int) then 0<=x1.i/\L4 x1.b.length/\1<=x3/\LM [DV.agg [CL .aJ (df c).ab,CI (x4.getD (Int.toNat (af x1 x2)) 0)]] [DV.agg [CL .aJ (ly c).ab,CI q0]] [bU x0] [bU (kp c)] else bif af q1 (12:Int)==(1:Int) then 0<=x1.i/\L4 x1.b.length/\bm (aa x1 9)/\(df c).ab.length+x5.length<=4294967296/\LM [DV.agg [CL .aJ ((df c).ab++x5),CI ((df c).Next)]] [DV.agg [CL .aJ (ly c).ab,CI q0]] [bU (kz (aa x1 9))] [bU (kp c)] else bif af q1 (12:Int)==(2:Int) then JY c (([],0,()),((df c).ab,(df c).Next,()),(x1.b,x1.i,x1.h,()),())/\∀(y:NR×NR×O9×PUnit),let x8:=y.2.1.1.length;let x7:=(↑x8:Int);let x9:=[{K:=(1:Int),N:=x7,S:={data:= #[]:BA}:a_}];let x6:=cK {ab:=y.2.1.1,Next:=y.2.1.2.1:aD} {Kind:={data:= #[102,117,108,108]:BA},ag:=x9:aL};let q2:=((y.1.1,y.1.2.1,()),(x6.ab,x6.Next,()),(y.2.2.1.1,y.2.2.1.2.1,y.2.2.1.2.2.1,()),());JY c y->bif decide (x7<40) then(0<=y.2.1.2.1/\y.2.1.2.1<=1000/\x8<=39)/\L4 x9.length/\JY c q2/\NO c q2<NO c y else LM [DV.agg [CL .aJ y.2.1.1,CI y.2.1.2.1]] [DV.agg [CL .aJ (ly c).ab,CI q0]] [DV.box [CL .byte y.2.2.1.1,CI y.2.2.1.2.1,CI y.2.2.1.2.2.1]] [bU (kp c)] else LM [DV.agg [CL .aJ (df c).ab,CI ((df c).Next)]] [DV.agg [CL .aJ (ly c).ab,CI q0]] [bU x1] [bU (kp c)])
 dsimp only
 have hk:=FC bo
 have he:=OD bo
 have hl:=Eo c
 have hn:=KG c
 refine⟨bo,hk.1,hk.2,bg (fun k=> ?_) (fun k0=>bg (fun k=> ?_) (fun k1=>bg (fun k=> ?_) (fun k2=> ?_)))⟩
 ·have e1:ly c=⟨(df c).ab,gS (KI c) Sh⟩:=if_pos k
  have e2:kp c=kL (KI c) Sh:=if_pos k
  exact⟨he.1,he.2,by decide,rfl,LdS e1.symm e2.symm⟩
 ·have e1:ly c=⟨(df c).ab++[⟨af (KI c) 9,pk (aa (KI c) 9)⟩],(df c).Next⟩:=(if_neg k0).trans (if_pos k)
  have e2:kp c=kz (aa (KI c) 9):=(if_neg k0).trans (if_pos k)
  exact⟨he.1,he.2,au he 9,by simp only[fP,fz];omega,rfl,LdS e1.symm e2.symm⟩
 ·have e1:ly c=uq (40-(df c).ab.length) (df c):=(if_neg k0).trans ((if_neg k1).trans (if_pos k))
  have e2:kp c=KI c:=(if_neg k0).trans (if_neg k1)
  refine⟨⟨rfl,wS c,by show(df c).ab.length<=40;omega,hn.1,by show(df c).Next+(40-((df c).ab.length:Int))<=1000;omega,rfl⟩,?_⟩
  rintro⟨r,p,cu,⟨⟩⟩ ⟨GB,hF,h40,h0,h1,hE⟩
  have GB:lM cu=KI c:=GB
  have hF:th ⟨p.1,p.2.1⟩:=hF
  have h40:p.1.length<=40:=h40
  have h0:0<=p.2.1:=h0
  have h1:p.2.1+(40-(p.1.length:Int))<=1000:=h1
  have hE:uq (40-p.1.length) ⟨p.1,p.2.1⟩=uq (40-(df c).ab.length) (df c):=hE
  refine aR ?_ ?_<;>intro g
  ·have g:(p.1.length:Int)<40:=g
   have e:40-p.1.length=(40-(p.1.length+1))+1:=by omega
   obtain⟨s1,s2⟩:=Lh hF
   have s1:(cK ⟨p.1,p.2.1⟩ (nK p.1.length)).ab.length=p.1.length+1:=s1
   have s2:(cK ⟨p.1,p.2.1⟩ (nK p.1.length)).Next=p.2.1+1:=s2
   rw[e] at hE
   have hE:uq (40-(p.1.length+1)) (cK ⟨p.1,p.2.1⟩ (nK p.1.length))=uq (40-(df c).ab.length) (df c):=hE
   rw[<-s1] at hE
   refine⟨⟨h0,by show p.2.1<=1000;omega,by show p.1.length<=39;omega⟩,by simp,⟨GB,ER hF,?_,?_,?_,hE⟩,?_⟩
   ·show(cK ⟨p.1,p.2.1⟩ (nK p.1.length)).ab.length<=40
    omega
   ·show 0<=(cK ⟨p.1,p.2.1⟩ (nK p.1.length)).Next
    omega
   ·show(cK ⟨p.1,p.2.1⟩ (nK p.1.length)).Next+(40-((cK ⟨p.1,p.2.1⟩ (nK p.1.length)).ab.length:Int))<=1000
    omega
   ·show 40-(cK ⟨p.1,p.2.1⟩ (nK p.1.length)).ab.length<40-p.1.length
    omega
  ·have g:¬(p.1.length:Int)<40:=g
   have e:40-p.1.length=0:=by omega
   rw[e] at hE
   exact⟨rfl,LdS (a:=⟨p.1,p.2.1⟩) (d:=lM cu) (hE.trans e1.symm) (GB.trans e2.symm)⟩
 ·have e1:ly c=df c:=(if_neg k0).trans ((if_neg k1).trans (if_neg k2))
  have e2:kp c=KI c:=(if_neg k0).trans (if_neg k1)
  exact⟨rfl,LdS e1.symm e2.symm⟩
theorem Cs{c:ah}(h:bm c)(m:Int):bm (wx c m):=au (HB h m) 16
theorem Qz{c:ah}(h:bm c)(m:Int):bm (instAC c m):=by
 have he:=Cs h m
 unfold instAC
 split
 ·exact au he _
 ·split
  ·exact iR he _
  ·split
   ·exact NI he
   ·split
    ·exact(OT he).1
    ·split
     ·exact(OS he).1
     ·split
      ·exact NJ he
      ·split
       ·exact Tq he
       ·exact he
theorem Qq{c:ah}(h:bm c)(m:Int):cE (pL c m)<=70000:=by
 unfold pL;split
 ·exact Qr (Cs h m)
 ·have:=(Fx c).2.2;omega
theorem Lm(c:ah):js (lG c)<=3:=by
 have hb:=bz (c:=aa c 3) (n:=4) (by omega)
 have h2:(lG c).eo.length=(af (aa c 3) 4).toNat:=by
  show(mP aaO PN _ [] _).length=_
  rw[mO];simp
 have e:sa (lG c).bw=0:=rfl
 simp only[js,r_,e];omega
theorem instA_size{c:ah}{m:Int}(h:bm c)(hm:m<=1000):cU (instA c m)<=60000:=by
 have h0:=EB (EC (c:=c) hm).tocoreX
 have he:=Cs h m
 simp only[cU] at h0
 unfold instA
 split
 ·simp only[cU];omega
 ·split
  ·simp only[cU,D9];omega
  ·split
   ·have:=KH he
    simp only[cU,qT];omega
   ·split
    ·obtain⟨_,h2,h3⟩:=OT he
     have:=MO h2
     simp only[cU,qR];omega
    ·split
     ·obtain⟨_,h2,h3⟩:=OS he
      have:=Eg h2
      simp only[cU,D8];omega
     ·split
      ·have h2:fh ((instD c m).aA++[lG (wx c m)])=fh (instD c m).aA+(1+js (lG (wx c m))):=rZ js _ _
       have:=Lm (wx c m)
       simp only[cU,D_];omega
      ·simp only[cU];omega
def aoS:=bW (α:=ah×Int) (qC qU (q1 qI)) [.box false,.ro] (fun(c,aK)=>[bm c,aK<=1000]) (fun(c,aK)=>⟨[dA .h_ (pL c aK),dA .cp (instA c aK)],[false,false],[dU (instAC c aK)]⟩)
def apH:HH:=hF aoS func14 [apq,nE,B4,app,apo,apn,apm,apl] a0 fun x hp hb=>by
 obtain⟨c,aK⟩:=x
 have bo:bm c:=hp _ m0
 have eJ:aK<=1000:=hp _ m1
 clear hp hb
 apply vE (let x3:=[(-1),1000000000,1000000001];let x4:=aa (aa (instDC c aK) 16) 8;let x2:=x3.length;let x1:=(↑x2:Int);let x0:=aa (aa (instDC c aK) 16) x1;let q0:=aa (instDC c aK) 16;let q1:=instD c aK;let q2:=aG (instA c aK);let q3:=pL c aK;let q4:=instDC c aK;let q5:=instAC c aK;let q6:=(cG c).Name;let q7:=q1.S.Next;bm c/\aK<=1000/\0<=q4.i/\L4 q4.b.length/\bif af q4 (16:Int)==(0:Int) then 0<=q0.i/\L4 q0.b.length/\LM [DV.agg [CS q6,CL .bB (cG c).aw],DV.agg [CL .aJ q1.S.ab,CI q7,CL .aB q1.aA,CL .az q1.aj,CL .aE q1.ap,CL .aQ q1.ax,CI (af q0 8),CI (q1.cd)]] [DV.agg [CS (q3.Name),CL .bB q3.aw],DV.agg q2] [bU x4] [bU q5] else bif af q4 (16:Int)==(1:Int) then 0<=q0.i/\L4 q0.b.length/\1<=x2/\LM [DV.agg [CS q6,CL .bB (cG c).aw],DV.agg [CL .aJ q1.S.ab,CI q7,CL .aB q1.aA,CL .az q1.aj,CL .aE q1.ap,CL .aQ q1.ax,CI (q1.State),CI (x3.getD (Int.toNat (af q0 x1)) 0)]] [DV.agg [CS (q3.Name),CL .bB q3.aw],DV.agg q2] [bU x0] [bU q5] else bif af q4 (16:Int)==(2:Int) then bm q0/\LM [DV.agg [CS q6,CL .bB (cG c).aw],DV.agg [CL .aJ (ly q0).ab,CI ((ly q0).Next),CL .aB q1.aA,CL .az q1.aj,CL .aE q1.ap,CL .aQ q1.ax,CI (q1.State),CI (q1.cd)]] [DV.agg [CS (q3.Name),CL .bB q3.aw],DV.agg q2] [bU (kp q0)] [bU q5] else bif af q4 (16:Int)==(3:Int) then bm q0/\LM [DV.agg [CS q6,CL .bB (cG c).aw],DV.agg [CL .aJ q1.S.ab,CI q7,CL .aB q1.aA,CL .az (sG q0),CL .aE q1.ap,CL .aQ q1.ax,CI (q1.State),CI (q1.cd)]] [DV.agg [CS (q3.Name),CL .bB q3.aw],DV.agg q2] [bU (pC q0)] [bU q5] else bif af q4 (16:Int)==(4:Int) then bm q0/\LM [DV.agg [CS q6,CL .bB (cG c).aw],DV.agg [CL .aJ q1.S.ab,CI q7,CL .aB q1.aA,CL .az q1.aj,CL .aE q1.ap,CL .aQ (sF q0),CI (q1.State),CI (q1.cd)]] [DV.agg [CS (q3.Name),CL .bB q3.aw],DV.agg q2] [bU (nN q0)] [bU q5] else bif af q4 (16:Int)==(5:Int) then bm q0/\q1.aA.length+List.length [lG q0]<=4294967296/\LM [DV.agg [CS q6,CL .bB (cG c).aw],DV.agg [CL .aJ q1.S.ab,CI q7,CL .aB (q1.aA++[lG q0]),CL .az q1.aj,CL .aE q1.ap,CL .aQ q1.ax,CI (q1.State),CI (q1.cd)]] [DV.agg [CS (q3.Name),CL .bB q3.aw],DV.agg q2] [bU (oh q0)] [bU q5] else bif af q4 (16:Int)==(6:Int) then bm q0/\LM [DV.agg [CS ((uF q0).Name),CL .bB (uF q0).aw],DV.agg (aG q1)] [DV.agg [CS (q3.Name),CL .bB q3.aw],DV.agg q2] [bU (pA q0)] [bU q5] else LM [DV.agg [CS q6,CL .bB (cG c).aw],DV.agg (aG q1)] [DV.agg [CS (q3.Name),CL .bB q3.aw],DV.agg q2] [bU q0] [bU q5])
 dsimp only
 have hd:=HB bo aK
 have he:=Cs bo aK
 have hF:=(EC (c:=c) eJ).tocoreX.Km
 refine⟨bo,eJ,hd.1,hd.2,bg (fun k=> ?_) (fun k0=>bg (fun k=> ?_) (fun k1=>bg (fun k=> ?_) (fun k2=>bg (fun k=> ?_) (fun k3=>bg (fun k=> ?_) (fun k4=>bg (fun k=> ?_) (fun k5=>bg (fun k=> ?_) (fun k6=> ?_)))))))⟩
 ·have e1:instA c aK=⟨(instD c aK).S,(instD c aK).aA,(instD c aK).aj,(instD c aK).ap,(instD c aK).ax,af (wx c aK) 8,(instD c aK).cd⟩:=if_pos k
  have e2:instAC c aK=aa (wx c aK) 8:=if_pos k
  have e3:pL c aK=cG c:=if_neg (fun g=>absurd (k.symm.trans g) (by decide))
  exact⟨he.1,he.2,rfl,Ki e3.symm e1.symm e2.symm⟩
 ·have e1:instA c aK=D9 (instD c aK) (gS (wx c aK) Ip):=(if_neg k0).trans (if_pos k)
  have e2:instAC c aK=kL (wx c aK) Ip:=(if_neg k0).trans (if_pos k)
  have e3:pL c aK=cG c:=if_neg (fun g=>absurd (k.symm.trans g) (by decide))
  exact⟨he.1,he.2,by decide,rfl,Ki e3.symm e1.symm e2.symm⟩
 ·have e1:instA c aK=qT (instD c aK) (ly (wx c aK)):=(if_neg k0).trans ((if_neg k1).trans (if_pos k))
  have e2:instAC c aK=kp (wx c aK):=(if_neg k0).trans ((if_neg k1).trans (if_pos k))
  have e3:pL c aK=cG c:=if_neg (fun g=>absurd (k.symm.trans g) (by decide))
  exact⟨he,rfl,Ki e3.symm e1.symm e2.symm⟩
 ·have e1:instA c aK=qR (instD c aK) (sG (wx c aK)):=(if_neg k0).trans ((if_neg k1).trans ((if_neg k2).trans (if_pos k)))
  have e2:instAC c aK=pC (wx c aK):=(if_neg k0).trans ((if_neg k1).trans ((if_neg k2).trans (if_pos k)))
  have e3:pL c aK=cG c:=if_neg (fun g=>absurd (k.symm.trans g) (by decide))
  exact⟨he,rfl,Ki e3.symm e1.symm e2.symm⟩
 ·have e1:instA c aK=D8 (instD c aK) (sF (wx c aK)):=(if_neg k0).trans ((if_neg k1).trans ((if_neg k2).trans ((if_neg k3).trans (if_pos k))))
  have e2:instAC c aK=nN (wx c aK):=(if_neg k0).trans ((if_neg k1).trans ((if_neg k2).trans ((if_neg k3).trans (if_pos k))))
  have e3:pL c aK=cG c:=if_neg (fun g=>absurd (k.symm.trans g) (by decide))
  exact⟨he,rfl,Ki e3.symm e1.symm e2.symm⟩
 ·have e1:instA c aK=D_ (instD c aK) ((instD c aK).aA++[lG (wx c aK)]):=(if_neg k0).trans ((if_neg k1).trans ((if_neg k2).trans ((if_neg k3).trans ((if_neg k4).trans (if_pos k)))))
  have e2:instAC c aK=oh (wx c aK):=(if_neg k0).trans ((if_neg k1).trans ((if_neg k2).trans ((if_neg k3).trans ((if_neg k4).trans (if_pos k)))))
  have e3:pL c aK=cG c:=if_neg (fun g=>absurd (k.symm.trans g) (by decide))
  exact⟨he,by show(instD c aK).aA.length+1<=4294967296;omega,rfl,Ki e3.symm e1.symm e2.symm⟩
 ·have e1:instA c aK=instD c aK:=(if_neg k0).trans ((if_neg k1).trans ((if_neg k2).trans ((if_neg k3).trans ((if_neg k4).trans (if_neg k5)))))
  have e2:instAC c aK=pA (wx c aK):=(if_neg k0).trans ((if_neg k1).trans ((if_neg k2).trans ((if_neg k3).trans ((if_neg k4).trans ((if_neg k5).trans (if_pos k))))))
  have e3:pL c aK=uF (wx c aK):=if_pos k
  exact⟨he,rfl,Ki e3.symm e1.symm e2.symm⟩
 ·have e1:instA c aK=instD c aK:=(if_neg k0).trans ((if_neg k1).trans ((if_neg k2).trans ((if_neg k3).trans ((if_neg k4).trans (if_neg k5)))))
  have e2:instAC c aK=wx c aK:=(if_neg k0).trans ((if_neg k1).trans ((if_neg k2).trans ((if_neg k3).trans ((if_neg k4).trans ((if_neg k5).trans (if_neg k6))))))
  have e3:pL c aK=cG c:=if_neg k6
  exact⟨rfl,Ki e3.symm e1.symm e2.symm⟩
noncomputable def rX(code:List Int):aq:=instA (iA code) (kr code 20)
noncomputable def rkC(code:List Int):ah:=instAC (iA code) (kr code 20)
theorem Kw(x:aq):(fX x 3).State≠1:=by
 unfold fX gZ
 split
 ·show(if(uE x 3).State=5 then(6:Int) else 4)≠1
  split<;>decide
 ·show(3:Int)≠1;decide
theorem anp{α β:Type}(f:α->β){l:List α}{i:Nat}(z:α)(z':β)(h:i<l.length):(l.map f).getD i z'=f (l.getD i z):=by
 rw[eV,eV,nS,fE h];rfl
def TR:=VP 6 2 (α:=aD×aL) (qC (qX .cQ) (q1 (qA .db))) [.box true,.ro] (fun(s,f)=>[bq s=true,¬(bM s f).2=0,L4 f.ag.length]) (fun(s,f)=>⟨[],[],[dX .cQ ((bM s f).1)]⟩)
def ajv:AX TR:=fun(s,f)=>bS []
def afc:=us [Zo,Zn]
theorem afh:Holds EE (56,TR):=by
 refine vR pD func56 TR (by kernel_rfl) rfl afc (uQ _) ajv (fun x hp hb rest j0=> ?_)
 obtain⟨s,f⟩:=x
 have i_:=xA (x:=s) (hb _ m0)
 have hH:=qq (x:=f) (hb _ m1)
 have pP:=hH.1
 have mQ:=hH.2
 have bo:bq s=true:=hp _ m0
 have eJ:¬(bM s f).2=0:=hp _ m1
 have G':f.ag.length<=4294967296:=hp _ m2
 clear hp hb
 have j0:rest.length=6:=j0
 match rest,j0 with
 |[r0,r1,r2,r3,r4,r5],_=>
 apply vE (let q0:=bM {ab:={τ:=Cd.aJ,xs:=s.ab:iE UU}.xs,Next:=s.Next:aD} {Kind:=f.Kind,ag:=f.ag:aL};bq s=true/\L4 f.ag.length/\bif !decide ¬q0.2=0 then False else List.length (α:=AC UU) (rcs [r0,r1,r2,r3,r4,r5])=List.length [r0,r1,r2,r3,r4,r5]/\(rcs [r0,r1,r2,r3,r4,r5])=List.map (fun(v:Value)=>(AC.c (Cell.lit v):AC UU)) [r0,r1,r2,r3,r4,r5]/\fG []=fG []/\fG [DV.box [CL .aJ q0.1.ab,CI (q0.1.Next)]]=fG [DV.box [CL .aJ (bM s f).1.ab,CI ((bM s f).1.Next)]])
 dsimp only
 have hS:(⟨s.ab,s.Next⟩:aD)=s:=rfl
 have hF:(⟨f.Kind,f.ag⟩:aL)=f:=rfl
 simp only[hS,hF]
 refine⟨bo,G',bx (fun h=>absurd h (by rw[decide_eq_true eJ];decide)) (fun h=> ?_)⟩
 repeat' (first|exact rfl|trivial|refine And.intro ?_ ?_)
def ahD:HH:=⟨_,afh⟩
def FX:=bW (α:=aq×Int) (qC (qX .cp) (q1 qI)) [.box true,.ro] (fun(x,now)=>[wK x,0<=now/\now<=1000000000]) (fun(x,now)=>⟨[dL .dw (je x now)],[],[dX .cp (gJ x now)]⟩)
def xP(x:aq)(now:Int):Int×List aI×T0×Unit->Prop:=fun(i,l,p,_)=>l=iQ now x.ap/\0<=i/\i<=l.length/\wK (instT p)/\hU ((iQ now x.ap).drop i.toNat) (instT p)=aM x now
def tS(x:aq)(now:Int):Int×List aI×T0×Unit->Nat:=fun(i,l,p,_)=>l.length-i.toNat
def uc(x:aq)(now:Int):Int×List gg×List BA×T0×Unit×Unit->Prop:=fun(i,calls,failed,p,z,_)=>calls=je x now/\failed=cj (aM x now) now/\0<=i/\i<=failed.length/\wK (instT p)/\p.2.2.2.1=(eX (aM x now) now).aj/\dq (aM x now).State (((cj (aM x now) now).map (l6 (eX (aM x now) now).aj)).drop i.toNat) (instT p)=gJ x now
def kA(x:aq)(now:Int):Int×List gg×List BA×T0×Unit×Unit->Nat:=fun(i,calls,failed,p,z,_)=>failed.length-i.toNat
def bQ(x:aq)(now:Int):Int×List gg×List BA×T0×Unit->Prop:=fun(i,calls,failed,p,_)=>calls=je x now/\failed=cj (aM x now) now/\0<=i/\i<=failed.length/\wK (instT p)/\((aM x now).State=1->¬(instT p).State=1)/\dq (aM x now).State (((cj (aM x now) now).map (l6 (eX (aM x now) now).aj)).drop i.toNat) (instT p)=gJ x now
def bL(x:aq)(now:Int):Int×List gg×List BA×T0×Unit->Nat:=fun(i,calls,failed,p,_)=>failed.length-i.toNat
def W4:AX FX:=fun(x,now)=>bS [(6,aT [iI 39,iO 37 .aE,.box 0 (2000000,0) [.own .aJ true,.lit (.int .i64),.own .aB true,.own .az true,.own .aE true,.own .aQ true,.lit (.int .i64),.lit (.int .i64)]] (fun _=>xP x now) (tS x now)),(15,ab2 (aT [iI 73,iO 10 .dw,iO 71 .str,.box 0 (2000000,0) [.own .aJ true,.lit (.int .i64),.own .aB true,.own .az true,.own .aE true,.own .aQ true,.lit (.int .i64),.lit (.int .i64)],.slot 9 (2000000,4099) .al] (fun _=>uc x now) (kA x now)) (aT [iI 73,iO 10 .dw,iO 71 .str,.box 0 (2000000,0) [.own .aJ true,.lit (.int .i64),.own .aB true,.own .az true,.own .aE true,.own .aQ true,.lit (.int .i64),.lit (.int .i64)]] (fun _=>bQ x now) (bL x now)))]
def WS:=us [api,aph,ahD,apg,ape,apf,apd]
def fu(x:aq)(now:Int):Int×T0×Unit->Prop:=fun(nw,p,_)=>nw=now/\instT p=aM x now
def jS:FX.α->sS UU:=fun(x,now)=>aT [iI 1,.box 0 (2000000,0) [.own .aJ true,.lit (.int .i64),.own .aB true,.own .az true,.own .aE true,.own .aQ true,.lit (.int .i64),.lit (.int .i64)]] (fun _=>fu x now) (fun _=>0)
theorem aog(x:aq)(now:Int)(y:Int×T0×Unit):kO EE WS f20 FX W4 (x,now) 11 (jS (x,now)) y=(let x0:=if aN y.2.1.2.2.2.1=true/\0<=y.1/\y.1<=1000000000 then List.flatMap (gL y.1) y.2.1.2.2.2.1 else[];let x1:=if aN y.2.1.2.2.2.1=true/\0<=y.1/\y.1<=1000000000 then List.flatMap (iy y.1) y.2.1.2.2.2.1 else[];let x2:=y.2.1.2.2.2.2.2.2.1==1;let q0:=gJ x now;let q1:=List bO×Int×List av×List ao×List aI×List bp×Int×Int×PUnit;let q2:=(y.2.1.1,y.2.1.2.1,y.2.1.2.2.1,if aN y.2.1.2.2.2.1=true/\0<=y.1/\y.1<=1000000000 then y.2.1.2.2.2.1.map (dR y.1) else y.2.1.2.2.2.1,y.2.1.2.2.2.2.1,y.2.1.2.2.2.2.2.1,y.2.1.2.2.2.2.2.2.1,y.2.1.2.2.2.2.2.2.2.1,());let q3:=je x now;let q4:=q0.S.Next;let q5:=(↑(x0.length):Int);cf y.2.1.2.2.2.1<=4294967296/\((uc x now (0,x1,x0,q2,(),())/\(∀(aF:Int×List gg×List BA×q1×PUnit×PUnit),let x7:={ab:=aF.2.2.2.1.1,Next:=aF.2.2.2.1.2.1:aD};let x9:=aU aF.2.2.2.1.2.2.2.1 (aF.2.2.1.getD (Int.toNat aF.1) ai);let mf:=wrap i64 (aF.1+1);let x5:={S:=x7,aA:=aF.2.2.2.1.2.2.1,aj:=aF.2.2.2.1.2.2.2.1,ap:=aF.2.2.2.1.2.2.2.2.1,ax:=aF.2.2.2.1.2.2.2.2.2.1,State:=aF.2.2.2.1.2.2.2.2.2.2.1,cd:=aF.2.2.2.1.2.2.2.2.2.2.2.1:aq};let x8:=Int.toNat x9;let x4:=oJ x5;let x6:=mV (aF.2.2.2.1.2.2.2.1.getD x8 aC).F {data:= #[110,111]:BA} {K:=(1:Int),N:=(0:Int),S:={data:= #[]:BA}:a_};let x3:=cJ x5 x6;let q6:=((bM {ab:=aF.2.2.2.1.1,Next:=aF.2.2.2.1.2.1:aD} {Kind:=x6.Kind,ag:=x6.ag:aL}).1.ab,(bM {ab:=aF.2.2.2.1.1,Next:=aF.2.2.2.1.2.1:aD} {Kind:=x6.Kind,ag:=x6.ag:aL}).1.Next,aF.2.2.2.1.2.2.1,aF.2.2.2.1.2.2.2.1,aF.2.2.2.1.2.2.2.2.1,aF.2.2.2.1.2.2.2.2.2.1,aF.2.2.2.1.2.2.2.2.2.2.1,aF.2.2.2.1.2.2.2.2.2.2.2.1,());let q7:=LM [VL .dw aF.2.1] [VL .dw q3] [DV.box [CL .aJ aF.2.2.2.1.1,CI aF.2.2.2.1.2.1,CL .aB aF.2.2.2.1.2.2.1,CL .az aF.2.2.2.1.2.2.2.1,CL .aE aF.2.2.2.1.2.2.2.2.1,CL .aQ aF.2.2.2.1.2.2.2.2.2.1,CI aF.2.2.2.1.2.2.2.2.2.2.1,CI aF.2.2.2.1.2.2.2.2.2.2.2.1]] [DV.box [CL .aJ q0.S.ab,CI q4,CL .aB q0.aA,CL .az q0.aj,CL .aE q0.ap,CL .aQ q0.ax,CI (q0.State),CI (q0.cd)]];let q8:=(mf,aF.2.1,aF.2.2.1,(x3.S.ab,x3.S.Next,x3.aA,x3.aj,x3.ap,x3.ax,x3.State,x3.cd,()),());let q9:=(mf,aF.2.1,aF.2.2.1,(x4.S.ab,x4.S.Next,x4.aA,x4.aj,x4.ap,x4.ax,x4.State,x4.cd,()),());uc x now aF->bif decide (aF.1<q5) then 0<=aF.1/\Int.toNat aF.1<aF.2.2.1.length/\Int.toNat aF.1<aF.2.2.1.length/\bif aF.2.2.2.1.2.2.2.2.2.2.1 !=y.2.1.2.2.2.2.2.2.1 then q7 else bif x2 then 0<=x9/\x8<aF.2.2.2.1.2.2.2.1.length/\x8<aF.2.2.2.1.2.2.2.1.length/\x8<aF.2.2.2.1.2.2.2.1.length/\(cH x5/\bq x7=true/\x6.ag.length<=4294967296/\(False\/bQ x now q8/\bL x now q8<kA x now aF)\/bq x7=true/\¬(bM {ab:=aF.2.2.2.1.1,Next:=aF.2.2.2.1.2.1:aD} {Kind:=x6.Kind,ag:=x6.ag:aL}).2=0/\x6.ag.length<=4294967296/\(uc x now (mf,aF.2.1,aF.2.2.1,q6,(),())/\kA x now (mf,aF.2.1,aF.2.2.1,q6,(),())<kA x now aF\/bQ x now (mf,aF.2.1,aF.2.2.1,q6,())/\bL x now (mf,aF.2.1,aF.2.2.1,q6,())<kA x now aF)) else cH x5/\(aF.2.2.2.1.2.2.2.2.2.2.1=3\/aF.2.2.2.1.2.2.2.2.2.2.1=5)/\(False\/bQ x now q9/\bL x now q9<kA x now aF) else q7)/\∀(aF:Int×List gg×List BA×q1×PUnit),let x4:={S:={ab:=aF.2.2.2.1.1,Next:=aF.2.2.2.1.2.1:aD},aA:=aF.2.2.2.1.2.2.1,aj:=aF.2.2.2.1.2.2.2.1,ap:=aF.2.2.2.1.2.2.2.2.1,ax:=aF.2.2.2.1.2.2.2.2.2.1,State:=aF.2.2.2.1.2.2.2.2.2.2.1,cd:=aF.2.2.2.1.2.2.2.2.2.2.2.1:aq};let x3:=oJ x4;let RC:=LM [VL .dw aF.2.1] [VL .dw q3] [DV.box [CL .aJ aF.2.2.2.1.1,CI aF.2.2.2.1.2.1,CL .aB aF.2.2.2.1.2.2.1,CL .az aF.2.2.2.1.2.2.2.1,CL .aE aF.2.2.2.1.2.2.2.2.1,CL .aQ aF.2.2.2.1.2.2.2.2.2.1,CI aF.2.2.2.1.2.2.2.2.2.2.1,CI aF.2.2.2.1.2.2.2.2.2.2.2.1]] [DV.box [CL .aJ q0.S.ab,CI q4,CL .aB q0.aA,CL .az q0.aj,CL .aE q0.ap,CL .aQ q0.ax,CI (q0.State),CI (q0.cd)]];let q11:=(wrap i64 (aF.1+1),aF.2.1,aF.2.2.1,(x3.S.ab,x3.S.Next,x3.aA,x3.aj,x3.ap,x3.ax,x3.State,x3.cd,()),());bQ x now aF->bif decide (aF.1<q5) then 0<=aF.1/\Int.toNat aF.1<aF.2.2.1.length/\Int.toNat aF.1<aF.2.2.1.length/\bif aF.2.2.2.1.2.2.2.2.2.2.1 !=y.2.1.2.2.2.2.2.2.1 then RC else bif x2 then False else cH x4/\(aF.2.2.2.1.2.2.2.2.2.2.1=3\/aF.2.2.2.1.2.2.2.2.2.2.1=5)/\(False\/bQ x now q11/\bL x now q11<bL x now aF) else RC)\/bQ x now (0,x1,x0,q2,())/\(∀(aF:Int×List gg×List BA×q1×PUnit×PUnit),let x7:={ab:=aF.2.2.2.1.1,Next:=aF.2.2.2.1.2.1:aD};let x9:=aU aF.2.2.2.1.2.2.2.1 (aF.2.2.1.getD (Int.toNat aF.1) ai);let mf:=wrap i64 (aF.1+1);let x5:={S:=x7,aA:=aF.2.2.2.1.2.2.1,aj:=aF.2.2.2.1.2.2.2.1,ap:=aF.2.2.2.1.2.2.2.2.1,ax:=aF.2.2.2.1.2.2.2.2.2.1,State:=aF.2.2.2.1.2.2.2.2.2.2.1,cd:=aF.2.2.2.1.2.2.2.2.2.2.2.1:aq};let x8:=Int.toNat x9;let x4:=oJ x5;let x6:=mV (aF.2.2.2.1.2.2.2.1.getD x8 aC).F {data:= #[110,111]:BA} {K:=(1:Int),N:=(0:Int),S:={data:= #[]:BA}:a_};let x3:=cJ x5 x6;let q12:=((bM {ab:=aF.2.2.2.1.1,Next:=aF.2.2.2.1.2.1:aD} {Kind:=x6.Kind,ag:=x6.ag:aL}).1.ab,(bM {ab:=aF.2.2.2.1.1,Next:=aF.2.2.2.1.2.1:aD} {Kind:=x6.Kind,ag:=x6.ag:aL}).1.Next,aF.2.2.2.1.2.2.1,aF.2.2.2.1.2.2.2.1,aF.2.2.2.1.2.2.2.2.1,aF.2.2.2.1.2.2.2.2.2.1,aF.2.2.2.1.2.2.2.2.2.2.1,aF.2.2.2.1.2.2.2.2.2.2.2.1,());let q13:=LM [VL .dw aF.2.1] [VL .dw q3] [DV.box [CL .aJ aF.2.2.2.1.1,CI aF.2.2.2.1.2.1,CL .aB aF.2.2.2.1.2.2.1,CL .az aF.2.2.2.1.2.2.2.1,CL .aE aF.2.2.2.1.2.2.2.2.1,CL .aQ aF.2.2.2.1.2.2.2.2.2.1,CI aF.2.2.2.1.2.2.2.2.2.2.1,CI aF.2.2.2.1.2.2.2.2.2.2.2.1]] [DV.box [CL .aJ q0.S.ab,CI q4,CL .aB q0.aA,CL .az q0.aj,CL .aE q0.ap,CL .aQ q0.ax,CI (q0.State),CI (q0.cd)]];let q14:=(mf,aF.2.1,aF.2.2.1,(x3.S.ab,x3.S.Next,x3.aA,x3.aj,x3.ap,x3.ax,x3.State,x3.cd,()),());let q15:=(mf,aF.2.1,aF.2.2.1,(x4.S.ab,x4.S.Next,x4.aA,x4.aj,x4.ap,x4.ax,x4.State,x4.cd,()),());uc x now aF->bif decide (aF.1<q5) then 0<=aF.1/\Int.toNat aF.1<aF.2.2.1.length/\Int.toNat aF.1<aF.2.2.1.length/\bif aF.2.2.2.1.2.2.2.2.2.2.1 !=y.2.1.2.2.2.2.2.2.1 then q13 else bif x2 then 0<=x9/\x8<aF.2.2.2.1.2.2.2.1.length/\x8<aF.2.2.2.1.2.2.2.1.length/\x8<aF.2.2.2.1.2.2.2.1.length/\(cH x5/\bq x7=true/\x6.ag.length<=4294967296/\(False\/bQ x now q14/\bL x now q14<kA x now aF)\/bq x7=true/\¬(bM {ab:=aF.2.2.2.1.1,Next:=aF.2.2.2.1.2.1:aD} {Kind:=x6.Kind,ag:=x6.ag:aL}).2=0/\x6.ag.length<=4294967296/\(uc x now (mf,aF.2.1,aF.2.2.1,q12,(),())/\kA x now (mf,aF.2.1,aF.2.2.1,q12,(),())<kA x now aF\/bQ x now (mf,aF.2.1,aF.2.2.1,q12,())/\bL x now (mf,aF.2.1,aF.2.2.1,q12,())<kA x now aF)) else cH x5/\(aF.2.2.2.1.2.2.2.2.2.2.1=3\/aF.2.2.2.1.2.2.2.2.2.2.1=5)/\(False\/bQ x now q15/\bL x now q15<kA x now aF) else q13)/\∀(aF:Int×List gg×List BA×q1×PUnit),let x4:={S:={ab:=aF.2.2.2.1.1,Next:=aF.2.2.2.1.2.1:aD},aA:=aF.2.2.2.1.2.2.1,aj:=aF.2.2.2.1.2.2.2.1,ap:=aF.2.2.2.1.2.2.2.2.1,ax:=aF.2.2.2.1.2.2.2.2.2.1,State:=aF.2.2.2.1.2.2.2.2.2.2.1,cd:=aF.2.2.2.1.2.2.2.2.2.2.2.1:aq};let x3:=oJ x4;let q16:=LM [VL .dw aF.2.1] [VL .dw q3] [DV.box [CL .aJ aF.2.2.2.1.1,CI aF.2.2.2.1.2.1,CL .aB aF.2.2.2.1.2.2.1,CL .az aF.2.2.2.1.2.2.2.1,CL .aE aF.2.2.2.1.2.2.2.2.1,CL .aQ aF.2.2.2.1.2.2.2.2.2.1,CI aF.2.2.2.1.2.2.2.2.2.2.1,CI aF.2.2.2.1.2.2.2.2.2.2.2.1]] [DV.box [CL .aJ q0.S.ab,CI q4,CL .aB q0.aA,CL .az q0.aj,CL .aE q0.ap,CL .aQ q0.ax,CI (q0.State),CI (q0.cd)]];let q17:=(wrap i64 (aF.1+1),aF.2.1,aF.2.2.1,(x3.S.ab,x3.S.Next,x3.aA,x3.aj,x3.ap,x3.ax,x3.State,x3.cd,()),());bQ x now aF->bif decide (aF.1<q5) then 0<=aF.1/\Int.toNat aF.1<aF.2.2.1.length/\Int.toNat aF.1<aF.2.2.1.length/\bif aF.2.2.2.1.2.2.2.2.2.2.1 !=y.2.1.2.2.2.2.2.2.1 then q16 else bif x2 then False else cH x4/\(aF.2.2.2.1.2.2.2.2.2.2.1=3\/aF.2.2.2.1.2.2.2.2.2.2.1=5)/\(False\/bQ x now q17/\bL x now q17<bL x now aF) else q16)):=by kernel_rfl
theorem xX(x:aq)(now:Int)(y:Int×T0×Unit)(hp:∀p∈FX.pre (x,now),p)(hb:∀d∈FX.ds (x,now),gN d)(hy:fu x now y):kO EE WS f20 FX W4 (x,now) 11 (jS (x,now)) y:=by
 have ey:=ld (x:=x) (hb _ m0)
 have ee:=ey.1
 have fL:=ey.2.1
 have fK:=ey.2.2.1
 have e6:=ey.2.2.2.1
 have fJ:=ey.2.2.2.2
 have rN:=zk (n:=now) (hb _ m1)
 have bo:wK x:=hp _ m0
 have eJ:0<=now/\now<=1000000000:=hp _ m1
 clear hp hb
 rw[aog x now y]
 dsimp only
 obtain⟨d,hX⟩:=bo
 have hT:=u6 hX eJ.1 eJ.2
 have hS:=xh hT eJ.1 eJ.2
 obtain⟨nw,p,⟨⟩⟩:=y
 obtain⟨rfl,hp⟩:=hy
 have hp:instT p=aM x nw:=hp
 have e1:p.2.2.2.1=(aM x nw).aj:=congrArg aq.aj hp
 have e3:p.2.2.2.2.2.2.1=(aM x nw).State:=congrArg aq.State hp
 have Uz:aN p.2.2.2.1=true/\(0:Int)<=nw/\nw<=(1000000000:Int):=⟨by rw[e1];exact hT.ij,eJ⟩
 have vQ:cf p.2.2.2.1<=4294967296:=by rw[e1];have:=(sY hT.ij).2;omega
 simp only[if_pos Uz]
 have eC:p.2.2.2.1.flatMap (iy nw)=je x nw:=by rw[e1];rfl
 have eF:p.2.2.2.1.flatMap (gL nw)=cj (aM x nw) nw:=by rw[e1];rfl
 have eT:p.2.2.2.1.map (dR nw)=(eX (aM x nw) nw).aj:=by rw[e1];rfl
 have eS:instT (p.1,p.2.1,p.2.2.1,(eX (aM x nw) nw).aj,p.2.2.2.2.1,p.2.2.2.2.2.1,(aM x nw).State,p.2.2.2.2.2.2.2.1,())=eX (aM x nw) nw:=by
  rw[<-eT,<-e3];exact congrArg (fun z=>eX z nw) hp
 have Cj:(cj (aM x nw) nw).length<=30:=uN (qe _ (vY nw) _) (sY hT.ij).1
 have acU:cj (aM x nw) nw≠[]->(aM x nw).State=1\/(aM x nw).State=3\/(aM x nw).State=5:=As hT (now:=nw)
 rw[eC,eF,eT,e3]
 refine⟨vQ,.inl ⟨⟨rfl,rfl,by omega,by omega,?_,rfl,?_⟩,?_,?_⟩⟩
 ·show wK (instT (p.1,p.2.1,p.2.2.1,(eX (aM x nw) nw).aj,p.2.2.2.2.1,p.2.2.2.2.2.1,(aM x nw).State,p.2.2.2.2.2.2.2.1,()))
  rw[eS];exact m_ hS
 ·show dq _ _ (instT (p.1,p.2.1,p.2.2.1,(eX (aM x nw) nw).aj,p.2.2.2.2.1,p.2.2.2.2.2.1,(aM x nw).State,p.2.2.2.2.2.2.2.1,()))=_
  rw[eS];rfl
 ·clear eC eF eT eS e1 Uz vQ
  rintro⟨i,calls,failed,q,z,⟨⟩⟩ ⟨hc,hf,h1,h2,hY,hq,hE⟩
  obtain⟨d',hY⟩:wK (instT q):=hY
  have h1:0<=i:=h1
  have hc:calls=je x nw:=hc
  have hf:failed=cj (aM x nw) nw:=hf
  have h2:i<=(failed.length:Int):=h2
  subst hc hf
  have hq:q.2.2.2.1=(eX (aM x nw) nw).aj:=hq
  have hE:dq (aM x nw).State (((cj (aM x nw) nw).map (l6 (eX (aM x nw) nw).aj)).drop i.toNat) (instT q)=gJ x nw:=hE
  have ml:((cj (aM x nw) nw).map (l6 (eX (aM x nw) nw).aj)).length=(cj (aM x nw) nw).length:=wP _
  have w1:=wi (n:=i+1)
  have nx2:∀(z:aq)(j:Int),j=i+1->i<(cj (aM x nw) nw).length->wK z->((aM x nw).State=1->¬z.State=1)->dq (aM x nw).State (((cj (aM x nw) nw).map (l6 (eX (aM x nw) nw).aj)).drop (i+1).toNat) z=gJ x nw->bQ x nw (j,je x nw,cj (aM x nw) nw,uu z,())/\bL x nw (j,je x nw,cj (aM x nw) nw,uu z,())<kA x nw (i,je x nw,cj (aM x nw) nw,q,(),()):=by
   rintro z j rfl hi hz uo hz3
   exact⟨⟨rfl,rfl,by omega,by omega,hz,uo,hz3⟩,by show(cj (aM x nw) nw).length-(i+1).toNat<(cj (aM x nw) nw).length-i.toNat;omega⟩
  have nx1:∀(z:aq)(j:Int),j=i+1->i<(cj (aM x nw) nw).length->wK z->z.aj=(eX (aM x nw) nw).aj->dq (aM x nw).State (((cj (aM x nw) nw).map (l6 (eX (aM x nw) nw).aj)).drop (i+1).toNat) z=gJ x nw->uc x nw (j,je x nw,cj (aM x nw) nw,uu z,(),())/\kA x nw (j,je x nw,cj (aM x nw) nw,uu z,(),())<kA x nw (i,je x nw,cj (aM x nw) nw,q,(),()):=by
   rintro z j rfl hi hz uo hz3
   exact⟨⟨rfl,rfl,by omega,by omega,hz,uo,hz3⟩,by show(cj (aM x nw) nw).length-(i+1).toNat<(cj (aM x nw) nw).length-i.toNat;omega⟩
  refine aR (fun g=>⟨h1,?_⟩) (fun g=> ?_)
  ·have g:i<((cj (aM x nw) nw).length:Int):=g
   have hn:i.toNat<(cj (aM x nw) nw).length:=by omega
   have hk:=gH (z:=ai) hn
   obtain⟨k1,k2⟩:=xw hk
   have Ly:=vX hT.ij eJ.1 eJ.2 hk
   refine⟨hn,hn,mI (fun hs=> ?_) (fun hs=> ?_)⟩
   ·have hs:¬(instT q).State=(aM x nw).State:=hs
    rw[xv hs] at hE
    exact⟨by trivial,rfl,mE hE⟩
   ·have hs:(instT q).State=(aM x nw).State:=hs
    rw[rk h1 (by omega),if_pos hs,anp _ ai _ hn] at hE
    refine bg ?_ ?_<;>intro s1
    ·have s1:(aM x nw).State=1:=s1
     rw[if_pos s1] at hE
     have key:∀l:List ao,l=(eX (aM x nw) nw).aj->0<=aU l ((cj (aM x nw) nw).getD i.toNat ai)/\(aU l ((cj (aM x nw) nw).getD i.toNat ai)).toNat<l.length/\(l.getD (aU l ((cj (aM x nw) nw).getD i.toNat ai)).toNat aC).F=l6 (eX (aM x nw) nw).aj ((cj (aM x nw) nw).getD i.toNat ai):=by
      rintro l rfl
      refine⟨k1,?_,rfl⟩
      have:aU (eX (aM x nw) nw).aj ((cj (aM x nw) nw).getD i.toNat ai)<((eX (aM x nw) nw).aj.length:Int):=k2
      have h0:0<=aU (eX (aM x nw) nw).aj ((cj (aM x nw) nw).getD i.toNat ai):=k1
      omega
     obtain⟨a1,a2,a3⟩:=key _ hq
     have hm:=tI (w:=TB) (v:=wX) (vN Ly) NK EQ
     refine⟨a1,a2,a2,a2,?_⟩
     dsimp only
     rw[a3]
     by_cases hz:(bM (instT q).S (mV (l6 (eX (aM x nw) nw).aj ((cj (aM x nw) nw).getD i.toNat ai)) TB wX)).2=0
     ·refine .inl ⟨hY.good,hY.store,by simp[mV],.inr (nx2 (cJ (instT q) _) _ w1 g ⟨d',gK hY.tocoreX (hs.trans s1) hm⟩ (fun _=> ?_) hE)⟩
      have e:cJ (instT q) (mV (l6 (eX (aM x nw) nw).aj ((cj (aM x nw) nw).getD i.toNat ai)) TB wX)=fX (instT q) 3:=if_pos hz
      have h9:=Kw (instT q)
      rw[<-e] at h9;exact h9
     ·have e:cJ (instT q) (mV (l6 (eX (aM x nw) nw).aj ((cj (aM x nw) nw).getD i.toNat ai)) TB wX)=qT (instT q) (bM (instT q).S (mV (l6 (eX (aM x nw) nw).aj ((cj (aM x nw) nw).getD i.toNat ai)) TB wX)).1:=if_neg hz
      rw[e] at hE
      refine .inr ⟨hY.store,hz,by simp[mV],.inl (nx1 (qT (instT q) _) _ w1 g ⟨d',?_⟩ hq hE)⟩
      have h9:cO d' (cJ (instT q) (mV (l6 (eX (aM x nw) nw).aj ((cj (aM x nw) nw).getD i.toNat ai)) TB wX)):=gK hY.tocoreX (hs.trans s1) hm
      rw[e] at h9;exact h9
    ·have s1:¬(aM x nw).State=1:=s1
     rw[if_neg s1] at hE
     have h3:=acU (by intro e;rw[e] at hn;simp at hn)
     have XP:(instT q).State=3\/(instT q).State=5:=by omega
     exact⟨hY.good,XP,.inr (nx2 _ _ w1 g ⟨d',pV hY.tocoreX XP⟩ (fun e=>absurd e s1) hE)⟩
  ·have g:¬i<((cj (aM x nw) nw).length:Int):=g
   rw[List.drop_eq_nil_of_le (by omega)] at hE
   exact⟨by trivial,rfl,mE (a:=instT q) hE⟩
 ·clear eC eF eT eS e1 Uz vQ
  rintro⟨i,calls,failed,q,⟨⟩⟩ ⟨hc,hf,h1,h2,hY,hN,hE⟩
  obtain⟨d',hY⟩:wK (instT q):=hY
  have h1:0<=i:=h1
  have hc:calls=je x nw:=hc
  have hf:failed=cj (aM x nw) nw:=hf
  have h2:i<=(failed.length:Int):=h2
  subst hc hf
  have hN:(aM x nw).State=1->¬(instT q).State=1:=hN
  have hE:dq (aM x nw).State (((cj (aM x nw) nw).map (l6 (eX (aM x nw) nw).aj)).drop i.toNat) (instT q)=gJ x nw:=hE
  have ml:((cj (aM x nw) nw).map (l6 (eX (aM x nw) nw).aj)).length=(cj (aM x nw) nw).length:=wP _
  have w1:=wi (n:=i+1)
  have nx2:∀(z:aq)(j:Int),j=i+1->i<(cj (aM x nw) nw).length->wK z->((aM x nw).State=1->¬z.State=1)->dq (aM x nw).State (((cj (aM x nw) nw).map (l6 (eX (aM x nw) nw).aj)).drop (i+1).toNat) z=gJ x nw->bQ x nw (j,je x nw,cj (aM x nw) nw,uu z,())/\bL x nw (j,je x nw,cj (aM x nw) nw,uu z,())<bL x nw (i,je x nw,cj (aM x nw) nw,q,()):=by
   rintro z j rfl hi hz uo hz3
   exact⟨⟨rfl,rfl,by omega,by omega,hz,uo,hz3⟩,by show(cj (aM x nw) nw).length-(i+1).toNat<(cj (aM x nw) nw).length-i.toNat;omega⟩
  refine aR (fun g=>⟨h1,?_⟩) (fun g=> ?_)
  ·have g:i<((cj (aM x nw) nw).length:Int):=g
   have hn:i.toNat<(cj (aM x nw) nw).length:=by omega
   refine⟨hn,hn,mI (fun hs=> ?_) (fun hs=> ?_)⟩
   ·have hs:¬(instT q).State=(aM x nw).State:=hs
    rw[xv hs] at hE
    exact⟨by trivial,rfl,mE hE⟩
   ·have hs:(instT q).State=(aM x nw).State:=hs
    rw[rk h1 (by omega),if_pos hs] at hE
    refine bg (fun s1=>absurd (hs.trans s1) (hN s1)) (fun s1=> ?_)
    have s1:¬(aM x nw).State=1:=s1
    rw[if_neg s1] at hE
    have h3:=acU (by intro e;rw[e] at hn;simp at hn)
    have XP:(instT q).State=3\/(instT q).State=5:=by omega
    exact⟨hY.good,XP,.inr (nx2 _ _ w1 g ⟨d',pV hY.tocoreX XP⟩ (fun e=>absurd e s1) hE)⟩
  ·have g:¬i<((cj (aM x nw) nw).length:Int):=g
   rw[List.drop_eq_nil_of_le (by omega)] at hE
   exact⟨by trivial,rfl,mE (a:=instT q) hE⟩
theorem xW(x:aq)(now:Int)(hp:∀p∈FX.pre (x,now),p)(hb:∀d∈FX.ds (x,now),gN d):ph EE WS f20 FX W4 (x,now) 11 (jS (x,now)):=by
 have ey:=ld (x:=x) (hb _ m0)
 have ee:=ey.1
 have fL:=ey.2.1
 have fK:=ey.2.2.1
 have e6:=ey.2.2.2.1
 have fJ:=ey.2.2.2.2
 have rN:=zk (n:=now) (hb _ m1)
 have bo:wK x:=hp _ m0
 have eJ:0<=now/\now<=1000000000:=hp _ m1
 clear hp hb
 apply vE (bif x.State==1 then L4 (cy x.ap)/\xP x now (0,iQ now x.ap,(x.S.ab,x.S.Next,x.aA,x.aj,BU now x.ap,x.ax,x.State,now,()),())/\∀(y:Int×List aI×T10×PUnit),let x2:={ab:=y.2.2.1.1,Next:=y.2.2.1.2.1:aD};let x3:=(y.2.1.getD y.1.toNat cC).F;let x4:=wrap i64 (y.1+1);let x1:={S:=x2,aA:=y.2.2.1.2.2.1,aj:=y.2.2.1.2.2.2.1,ap:=y.2.2.1.2.2.2.2.1,ax:=y.2.2.1.2.2.2.2.2.1,State:=y.2.2.1.2.2.2.2.2.2.1,cd:=y.2.2.1.2.2.2.2.2.2.2.1:aq};let x0:=cJ x1 x3;let q0:=bM {ab:={τ:=Cd.aJ,xs:=y.2.2.1.1:iE UU}.xs,Next:=y.2.2.1.2.1:aD} {Kind:=x3.Kind,ag:={τ:=Cd.bf,xs:=(List.getD {τ:=Cd.aE,xs:=y.2.1:iE UU}.xs y.1.toNat (UU.ff {τ:=Cd.aE,xs:=y.2.1:iE UU}.τ)).F.ag:iE UU}.xs:aL};let q1:=(y.2.2.1.1,y.2.2.1.2.1,y.2.2.1.2.2.1,y.2.2.1.2.2.2.1,y.2.2.1.2.2.2.2.1,y.2.2.1.2.2.2.2.2.1,y.2.2.1.2.2.2.2.2.2.1,y.2.2.1.2.2.2.2.2.2.2.1,());let q2:=(x4,y.2.1,(q0.1.ab,q0.1.Next,y.2.2.1.2.2.1,y.2.2.1.2.2.2.1,y.2.2.1.2.2.2.2.1,y.2.2.1.2.2.2.2.2.1,y.2.2.1.2.2.2.2.2.2.1,y.2.2.1.2.2.2.2.2.2.2.1,()),());let q3:=(x4,y.2.1,(x0.S.ab,x0.S.Next,x0.aA,x0.aj,x0.ap,x0.ax,x0.State,x0.cd,()),());xP x now y->bif decide (y.1<(↑((iQ now x.ap).length):Int)) then 0<=y.1/\y.1.toNat<y.2.1.length/\y.1.toNat<y.2.1.length/\bif y.2.2.1.2.2.2.2.2.2.1==1 then y.1.toNat<y.2.1.length/\cH x1/\bq x2=true/\L4 x3.ag.length/\xP x now q3/\tS x now q3<tS x now y\/y.1.toNat<y.2.1.length/\bq x2=true/\¬q0.2=0/\L4 x3.ag.length/\xP x now q2/\tS x now q2<tS x now y else xP x now (x4,y.2.1,q1,())/\tS x now (x4,y.2.1,q1,())<tS x now y else fu x now (now,q1,()) else fu x now (now,(x.S.ab,x.S.Next,x.aA,x.aj,x.ap,x.ax,x.State,now,()),()))
 dsimp only
 obtain⟨d,hX⟩:=bo
 have hts:=(sW hX.timers).2
 have fin:∀z:aq,z=aM x now->fu x now (now,uu z,()):=fun z hz=>⟨rfl,hz⟩
 refine bg (fun hs=>⟨by omega,⟨rfl,by omega,by omega,?_,?_⟩,?_⟩) (fun hs=> ?_)
 ·exact m_ (j8 (d:=d) (x:=abW x now) ⟨hX.pK,hX.store,hX.ij,rI _ hX.timers,hX.ov,eJ,hX.Km,hX.b_⟩ hs)
 ·exact(if_pos hs).symm
 ·have h30:(iQ now x.ap).length<=30:=uN (Mw _ _) (sW hX.timers).1
  have Ly:∀t∈iQ now x.ap,bE t.F=true:=fun t ht=>by
   have:=(nU.1 hX.timers).2.1 t (xR.1 ht).1
   simp only[iq,cN] at this
   exact this.2
  rintro⟨i,l,p,⟨⟩⟩ ⟨rfl,h1,h2,hY,hE⟩
  obtain⟨d',hY⟩:wK (instT p):=hY
  have h1:0<=i:=h1
  have h2:i<=(iQ now x.ap).length:=h2
  have hE:hU ((iQ now x.ap).drop i.toNat) (instT p)=aM x now:=hE
  have nx:∀(z:aq)(j:Int),j=i+1->i<(iQ now x.ap).length->wK z->hU ((iQ now x.ap).drop (i+1).toNat) z=aM x now->xP x now (j,iQ now x.ap,uu z,())/\tS x now (j,iQ now x.ap,uu z,())<tS x now (i,iQ now x.ap,p,()):=by
   rintro z j rfl hi hz uo
   exact⟨⟨rfl,by omega,by omega,hz,uo⟩,by show(iQ now x.ap).length-(i+1).toNat<(iQ now x.ap).length-i.toNat;omega⟩
  refine aR (fun hc=>⟨h1,?_⟩) (fun hc=> ?_)
  ·have hc:i<((iQ now x.ap).length:Int):=hc
   have hn:i.toNat<(iQ now x.ap).length:=by omega
   refine⟨hn,hn,bg (fun g=> .inl ?_) (fun g=> ?_)⟩
   ·have g:(instT p).State=1:=g
    have hf:=Ly _ (gH (z:=cC) hn)
    rw[Bt h1 hc,if_pos g] at hE
    exact⟨hn,hY.good,hY.store,uN (qi hf).1 (by omega),nx _ _ (wi (n:=i+1)) hc ⟨d',gK hY.tocoreX g hf⟩ hE⟩
   ·have g:¬(instT p).State=1:=g
    rw[tn g] at hE
    exact nx (instT p) _ (wi (n:=i+1)) hc ⟨d',hY⟩ (by rw[tn g];exact hE)
  ·have hc:¬i<((iQ now x.ap).length:Int):=hc
   rw[List.drop_eq_nil_of_le (by omega)] at hE
   exact fin (instT p) hE
 ·exact fin (D9 x now) (if_neg hs).symm
attribute [local irreducible] ph kO in
theorem aoj:Holds EE (20,FX):=by
 refine sk pD func20 FX (by kernel_rfl) WS (uQ _) W4 11 jS (by kernel_rfl) (fun x hp hb=> ?_)
 obtain⟨x,now⟩:=x
 refine⟨xW x now hp hb,fun(y:Int×T0×Unit) hy=> ?_⟩
 have hy:fu x now y:=hy
 exact xX x now y hp hb hy
def apE:HH:=⟨_,aoj⟩
def lu(d:br)(x:aq)(now:Int):Bool:=instOk d x&&(!decide (x.State=2\/x.State=4\/x.State=6)&&decide (x.cd<=now/\now<=1000000000))
def er(d:br)(x:aq)(now:Int):aq×List gg:=if lu d x now=true then(gJ x now,je x now) else(x,[])
theorem HV{d:br}{x:aq}{now:Int}(h:lu d x now=false):er d x now=(x,[]):=if_neg (fun e=>absurd (h.symm.trans e) (by decide))
theorem Eh{d:br}{x:aq}{now:Int}(h1:instOk d x=true)(h2:¬(x.State=2\/x.State=4\/x.State=6))(h3:x.cd<=now/\now<=1000000000):er d x now=(gJ x now,je x now):=if_pos (by rw[lu,h1,decide_eq_false h2,decide_eq_true h3];rfl)
def Zk6:=bW (α:=br×aq×Int) (qC (qA .h_) (qC (qA .cp) (q1 qI))) [.ro,.ro,.ro] (fun(d,x,now)=>[cE d<=4294967295,cU x<=4294967295]) (fun(d,x,now)=>⟨[dA .cp ((er d x now).1),dL .dw ((er d x now).2)],[],[]⟩)
def Zh6:HH:=hF Zk6 func6 [apF,aiI,A',ajj,apE] a0 fun x hp hb=>by
 obtain⟨d,x,now⟩:=x
 have ey:=lc (x:=d) (hb _ m0)
 have j_:=ey.1
 have ja:=ey.2
 have hH:=oR (x:=x) (hb _ m1)
 have ee:=hH.1
 have fL:=hH.2.1
 have fK:=hH.2.2.1
 have e6:=hH.2.2.2.1
 have fJ:=hH.2.2.2.2
 have rN:=zk (n:=now) (hb _ m2)
 have bo:cE d<=4294967295:=hp _ m0
 have eJ:cU x<=4294967295:=hp _ m1
 clear hp hb
 apply vE (let q0:=Lf [DV.agg (aG x),VL .dw []] [DV.agg [CL .aJ (er d x now).1.S.ab,CI ((er d x now).1.S.Next),CL .aB (er d x now).1.aA,CL .az (er d x now).1.aj,CL .aE (er d x now).1.ap,CL .aQ (er d x now).1.ax,CI ((er d x now).1.State),CI ((er d x now).1.cd)],VL .dw ((er d x now).2)];let q1:=er d x now;L4 (cU x)/\bif decide (x.State=2\/x.State=4\/x.State=6) then q0 else bif !decide (x.cd<=now/\now<=1000000000) then q0 else cE d<=4294967295/\L4 (bV x.S.ab)/\bif !instOk d x then q0 else wK x/\(0<=now/\now<=1000000000)/\Lf [DV.agg (aG (gJ x now)),VL .dw (je x now)] [DV.agg [CL .aJ q1.1.S.ab,CI (q1.1.S.Next),CL .aB q1.1.aA,CL .az q1.1.aj,CL .aE q1.1.ap,CL .aQ q1.1.ax,CI (q1.1.State),CI (q1.1.cd)],VL .dw (q1.2)])
 dsimp only
 have hi:=zd x
 have no:lu d x now=false->Lf [.agg [.sl .aJ x.S.ab,.lit (.int .i64 x.S.Next),.sl .aB x.aA,.sl .az x.aj,.sl .aE x.ap,.sl .aQ x.ax,.lit (.int .i64 x.State),.lit (.int .i64 x.cd)],.one (.sl .dw [])] [.agg [.sl .aJ (er d x now).1.S.ab,.lit (.int .i64 (er d x now).1.S.Next),.sl .aB (er d x now).1.aA,.sl .az (er d x now).1.aj,.sl .aE (er d x now).1.ap,.sl .aQ (er d x now).1.ax,.lit (.int .i64 (er d x now).1.State),.lit (.int .i64 (er d x now).1.cd)],.one (.sl .dw (er d x now).2)]:=fun h=>by
  rw[HV h];exact aY _
 refine⟨by omega,aR (fun h=>no ?_) (fun h=>bx (fun h2=>no ?_) (fun h2=>⟨bo,by omega,bx (fun h3=>no ?_) (fun h3=> ?_)⟩))⟩
 ·rw[lu,decide_eq_true h];simp
 ·rw[lu,show decide (x.cd<=now/\now<=1000000000)=false from h2];simp
 ·rw[lu,show instOk d x=false from h3];rfl
 ·have h2:=yT h2
  have hX:=pO.1 h3
  have hN:=hX.now.1
  rw[Eh h3 h h2]
  exact⟨m_ hX,⟨by omega,h2.2⟩,aY _⟩
def Zk7:=bW (α:=br×aq×Int) (qC (qA .h_) (qC (qA .cp) (q1 qI))) [.ro,.ro,.ro] (fun(d,x,now)=>[cE d<=4294967295,cU x<=4294967295]) (fun(d,x,now)=>⟨[dA .cp ((er d x now).1),dL .dw ((er d x now).2)],[],[]⟩)
def Zh7:HH:=hF Zk7 func7 [apD,aju,W0,sK,ah9] a0 fun x hp hb=>by
 obtain⟨d,x,now⟩:=x
 have ey:=lc (x:=d) (hb _ m0)
 have j_:=ey.1
 have ja:=ey.2
 have hH:=oR (x:=x) (hb _ m1)
 have ee:=hH.1
 have fL:=hH.2.1
 have fK:=hH.2.2.1
 have e6:=hH.2.2.2.1
 have fJ:=hH.2.2.2.2
 have rN:=zk (n:=now) (hb _ m2)
 have bo:cE d<=4294967295:=hp _ m0
 have eJ:cU x<=4294967295:=hp _ m1
 clear hp hb
 apply vE (let q0:=Lf [DV.agg (aG x),VL .dw []] [DV.agg [CL .aJ (er d x now).1.S.ab,CI ((er d x now).1.S.Next),CL .aB (er d x now).1.aA,CL .az (er d x now).1.aj,CL .aE (er d x now).1.ap,CL .aQ (er d x now).1.ax,CI ((er d x now).1.State),CI ((er d x now).1.cd)],VL .dw ((er d x now).2)];let q1:=er d x now;L4 (cU x)/\cE d<=4294967295/\L4 (bV x.S.ab)/\bif !instOk d x then q0 else bif decide (x.State=2\/x.State=4\/x.State=6) then q0 else bif !decide (x.cd<=now/\now<=1000000000) then q0 else wK x/\(0<=now/\now<=1000000000)/\Lf [DV.agg (aG (gJ x now)),VL .dw (je x now)] [DV.agg [CL .aJ q1.1.S.ab,CI (q1.1.S.Next),CL .aB q1.1.aA,CL .az q1.1.aj,CL .aE q1.1.ap,CL .aQ q1.1.ax,CI (q1.1.State),CI (q1.1.cd)],VL .dw (q1.2)])
 dsimp only
 have hi:=zd x
 have no:lu d x now=false->Lf [.agg [.sl .aJ x.S.ab,.lit (.int .i64 x.S.Next),.sl .aB x.aA,.sl .az x.aj,.sl .aE x.ap,.sl .aQ x.ax,.lit (.int .i64 x.State),.lit (.int .i64 x.cd)],.one (.sl .dw [])] [.agg [.sl .aJ (er d x now).1.S.ab,.lit (.int .i64 (er d x now).1.S.Next),.sl .aB (er d x now).1.aA,.sl .az (er d x now).1.aj,.sl .aE (er d x now).1.ap,.sl .aQ (er d x now).1.ax,.lit (.int .i64 (er d x now).1.State),.lit (.int .i64 (er d x now).1.cd)],.one (.sl .dw (er d x now).2)]:=fun h=>by
  rw[HV h];exact aY _
 refine⟨by omega,bo,by omega,bx (fun h3=>no ?_) (fun h3=>aR (fun h=>no ?_) (fun h=>bx (fun h2=>no ?_) (fun h2=> ?_)))⟩
 ·rw[lu,show instOk d x=false from h3];rfl
 ·rw[lu,decide_eq_true h];simp
 ·rw[lu,show decide (x.cd<=now/\now<=1000000000)=false from h2];simp
 ·have h2:=yT h2
  have hX:=pO.1 h3
  have hN:=hX.now.1
  rw[Eh h3 h h2]
  exact⟨m_ hX,⟨by omega,h2.2⟩,aY _⟩
theorem WM(a b:cM):(a.K==b.K&&(a.S.toList==b.S.toList&&((a.V.K==b.V.K&&(a.V.N==b.V.N&&(a.V.S.toList==b.V.S.toList&&true)))&&true)))=decide (a=b):=by
 obtain⟨a1,a2,⟨a3,a4,a5⟩⟩:=a
 obtain⟨b6,b7,⟨b8,b9,b10⟩⟩:=b
 simp only[aO,B6]
 rw[Gd]
 simp only[cN,beq_iff_eq,decide_eq_true_eq,cM.mk.injEq,a_.mk.injEq]
theorem L0(a b:dy):(a.Op==b.Op&&((a.L.K==b.L.K&&(a.L.S.toList==b.L.S.toList&&((a.L.V.K==b.L.V.K&&(a.L.V.N==b.L.V.N&&(a.L.V.S.toList==b.L.V.S.toList&&true)))&&true)))&&((a.R.K==b.R.K&&(a.R.S.toList==b.R.S.toList&&((a.R.V.K==b.R.V.K&&(a.R.V.N==b.R.V.N&&(a.R.V.S.toList==b.R.V.S.toList&&true)))&&true)))&&true)))=decide (a=b):=by
 obtain⟨a11,⟨a12,a13,⟨a14,a15,a16⟩⟩,⟨a17,a18,⟨a19,a20,a21⟩⟩⟩:=a
 obtain⟨b22,⟨b23,b24,⟨b25,b26,b27⟩⟩,⟨b28,b29,⟨b30,b31,b32⟩⟩⟩:=b
 simp only[aO,B6]
 rw[Gd]
 simp only[cN,beq_iff_eq,decide_eq_true_eq,cM.mk.injEq,dy.mk.injEq,a_.mk.injEq]
theorem S7(a b:cv):(a.Op.toList==b.Op.toList&&((a.L.K==b.L.K&&(a.L.S.toList==b.L.S.toList&&((a.L.V.K==b.L.V.K&&(a.L.V.N==b.L.V.N&&(a.L.V.S.toList==b.L.V.S.toList&&true)))&&true)))&&((a.R.K==b.R.K&&(a.R.S.toList==b.R.S.toList&&((a.R.V.K==b.R.V.K&&(a.R.V.N==b.R.V.N&&(a.R.V.S.toList==b.R.V.S.toList&&true)))&&true)))&&true)))=decide (a=b):=by
 obtain⟨a33,⟨a34,a35,⟨a36,a37,a38⟩⟩,⟨a39,a40,⟨a41,a42,a43⟩⟩⟩:=a
 obtain⟨b44,⟨b45,b46,⟨b47,b48,b49⟩⟩,⟨b50,b51,⟨b52,b53,b54⟩⟩⟩:=b
 simp only[aO,B6]
 rw[Gd]
 simp only[cN,beq_iff_eq,decide_eq_true_eq,cM.mk.injEq,cv.mk.injEq,a_.mk.injEq]
theorem Tu(a b:bT):(a.Name.toList==b.Name.toList&&((a.V.K==b.V.K&&(a.V.N==b.V.N&&(a.V.S.toList==b.V.S.toList&&true)))&&true))=decide (a=b):=by
 obtain⟨a55,⟨a56,a57,a58⟩⟩:=a
 obtain⟨b59,⟨b60,b61,b62⟩⟩:=b
 simp only[aO,B6]
 rw[Gd]
 simp only[cN,beq_iff_eq,decide_eq_true_eq,bT.mk.injEq,a_.mk.injEq]
theorem abS(x y:cr):x=y↔x.Kind=y.Kind/\x.ay=y.ay/\x.Not=y.Not:=by cases x;cases y;simp[cr.mk.injEq]
theorem abT(x y:ez):x=y↔x.Kind=y.Kind/\x.Name=y.Name/\x.ay=y.ay/\x.N=y.N/\x.aW=y.aW:=by cases x;cases y;simp[ez.mk.injEq]
theorem Ta(x y:av):x=y↔x.cL=y.cL/\x.eo=y.eo/\x.bw=y.bw:=by cases x;cases y;simp[av.mk.injEq]
theorem Ww(x y:bO):x=y↔x.Id=y.Id/\x.F=y.F:=by cases x;cases y;simp[bO.mk.injEq]
theorem S9(x y:aI):x=y↔x.At=y.At/\x.F=y.F:=by cases x;cases y;simp[aI.mk.injEq]
theorem Wu(x y:bp):x=y↔x.Key=y.Key/\x.F=y.F:=by cases x;cases y;simp[bp.mk.injEq]
theorem Wv(x y:ao):x=y↔x.F=y.F/\x.aW=y.aW/\x.State=y.State/\x.bh=y.bh/\x.iz=y.iz/\x.V=y.V:=by cases x;cases y;simp[ao.mk.injEq]
theorem Oz(x y:bc):x=y↔x.Name=y.Name/\x.jp=y.jp/\x.aH=y.aH/\x.aV=y.aV/\x.bH=y.bH:=by cases x;cases y;simp[bc.mk.injEq]
theorem Tb(x y:br):x=y↔x.Name=y.Name/\x.aw=y.aw:=by cases x;cases y;simp[br.mk.injEq]
theorem Wt(x y:sO):x=y↔x.Name=y.Name/\x.Def=y.Def/\x.X=y.X:=by cases x;cases y;simp[sO.mk.injEq]
theorem S_(x y:aD):x=y↔x.ab=y.ab/\x.Next=y.Next:=by cases x;cases y;simp[aD.mk.injEq]
theorem Wx(x y:aq):x=y↔x.S=y.S/\x.aA=y.aA/\x.aj=y.aj/\x.ap=y.ap/\x.ax=y.ax/\x.State=y.State/\x.cd=y.cd:=by cases x;cases y;simp[aq.mk.injEq]
theorem Wz(x y:lp):x=y↔x.o7=y.o7/\x.jH=y.jH/\x.cd=y.cd/\x.A_=y.A_:=by cases x;cases y;simp[lp.mk.injEq]
def YO:=bW (α:=(List ao)×(List ao)) (qC (qL .az) (q1 (qL .az))) [.ro,.ro] (fun _=>[]) (fun(a,b)=>⟨[dO (decide (a=b))],[],[]⟩)
def DY(a:List ao)(b:List ao):Int×Unit->Prop:=fun(i,_)=>0<=i/\i<=a.length/\a.length=b.length/\(a.drop i.toNat=b.drop i.toNat↔a=b)
def C'(a:List ao)(b:List ao):Int×Unit->Nat:=fun(i,_)=>a.length-i.toNat
def akp:AX YO:=fun(a,b)=>bS [(4,aT [iI 5] (fun _=>DY a b) (C' a b))]
def ajc:HH:=hF YO func130 [NP] akp fun x hp hb=>by
 obtain⟨a,b⟩:=x
 have Ns:L9 a.length:=kG (hb _ m0)
 have Nr:L9 b.length:=kG (hb _ m1)
 clear hp hb
 apply vE (let q0:=Lb false (decide (a=b));bif (a.length:Int) !=(b.length:Int) then q0 else DY a b (0,())/\∀(y:Int×PUnit),let x0:=b.getD y.1.toNat aC;let x1:=a.getD y.1.toNat aC;let q1:=(wrap i64 (y.1+1),());DY a b y->bif decide (y.1<(a.length:Int)) then 0<=y.1/\y.1.toNat<a.length/\0<=y.1/\y.1.toNat<b.length/\bif !decide (x1.F=x0.F) then q0 else bif !x1.aW.toList==x0.aW.toList then q0 else bif x1.State !=x0.State then q0 else bif x1.bh !=x0.bh then q0 else bif x1.iz !=x0.iz then q0 else bif !(x1.V.K==x0.V.K&&(x1.V.N==x0.V.N&&(x1.V.S.toList==x0.V.S.toList&&true))) then q0 else DY a b q1/\C' a b q1<C' a b y else Lb true (decide (a=b)))
 dsimp only
 refine ae (fun h=>mL (p7 (by simpa using h))) (fun h=>⟨⟨by omega,by omega,(tm (a:=a) (b:=b) (by assumption)),by simp⟩,?_⟩)
 rintro⟨i,⟨⟩⟩ ⟨h1,h2,h3,hR⟩
 simp only
 refine ae ?_ ?_<;>intro hc
 ·have hc:i<a.length:=yT hc
  rw[wi]
  try simp only[gO]
  try simp only[aO]
  have hz:_:=Wv (a.getD i.toNat aC) (b.getD i.toNat aC)
  repeat' (first|refine And.intro (by omega) ?_|refine ae (fun h=> ?_) (fun h=> ?_))
  all_goals first|exact mL (nj aC h1 hc (by omega) hR (by first|grind|(rw[hz];grind)))|exact⟨⟨by omega,by omega,h3,pz aC h1 hc (by omega) hR (by first|grind|(rw[hz];grind))⟩,by simp only[C'];omega⟩
 ·have hc:a.length<=i:=by have:=yF hc;omega
  exact Mv (lJ hc (by omega) hR)
def Yr:=bW (α:=(List cr)×(List cr)) (qC (qL .dB) (q1 (qL .dB))) [.ro,.ro] (fun _=>[]) (fun(a,b)=>⟨[dO (decide (a=b))],[],[]⟩)
def DH(a:List cr)(b:List cr):Int×Unit->Prop:=fun(i,_)=>0<=i/\i<=a.length/\a.length=b.length/\(a.drop i.toNat=b.drop i.toNat↔a=b)
def wD(a:List cr)(b:List cr):Int×Unit->Nat:=fun(i,_)=>a.length-i.toNat
def DG(a:List cr)(b:List cr):Int×Int×Unit->Int×Int×Unit->Prop:=fun(i0,k0,_) (i,k,_)=>i=i0/\0<=k/\k<=(a.getD i.toNat cF).ay.length/\(a.getD i.toNat cF).ay.length=(b.getD i.toNat cF).ay.length/\((a.getD i.toNat cF).ay.drop k.toNat=(b.getD i.toNat cF).ay.drop k.toNat↔(a.getD i.toNat cF).ay=(b.getD i.toNat cF).ay)
def CV(a:List cr)(b:List cr):Int×Int×Unit->Nat:=fun(i,k,_)=>(a.getD i.toNat cF).ay.length-k.toNat
def aj3:AX Yr:=fun(a,b)=>bS [(4,aT [iI 5] (fun _=>DH a b) (wD a b)),(9,aT [iI 5,iI 6] (DG a b) (CV a b))]
def aiC:HH:=hF Yr func185 [] aj3 fun x hp hb=>by
 obtain⟨a,b⟩:=x
 have SP:gN (U:=UU) (.one (.sl .dB a)):=hb _ m0
 have Ns:L9 a.length:=kG (hb _ m0)
 have Nr:L9 b.length:=kG (hb _ m1)
 clear hp hb
 apply vE (let q0:=Lb false (decide (a=b));bif (a.length:Int) !=(b.length:Int) then q0 else DH a b (0,())/\∀(y:Int×PUnit),let x0:=b.getD y.1.toNat cF;let x1:=a.getD y.1.toNat cF;let q1:=(y.1,0,());DH a b y->bif decide (y.1<(a.length:Int)) then 0<=y.1/\y.1.toNat<a.length/\0<=y.1/\y.1.toNat<b.length/\bif !x1.Kind.toList==x0.Kind.toList then q0 else 0<=y.1/\y.1.toNat<a.length/\0<=y.1/\y.1.toNat<b.length/\bif !x1.Not==x0.Not then q0 else 0<=y.1/\y.1.toNat<a.length/\0<=y.1/\y.1.toNat<b.length/\bif (x1.ay.length:Int) !=(x0.ay.length:Int) then q0 else DG a b q1 q1/\∀(aF:Int×Int×PUnit),let x2:=aF.2.1.toNat;let x5:=(b.getD aF.1.toNat cF).ay.getD x2 mX;let x6:=(a.getD aF.1.toNat cF).ay.getD x2 mX;let x7:=(↑((a.getD aF.1.toNat cF).ay.length):Int);let x3:=x6.V;let x4:=x5.V;let q2:=(aF.1,wrap i64 (aF.2.1+1),());let q3:=(wrap i64 (aF.1+1),());DG a b q1 aF->0<=aF.1/\aF.1.toNat<a.length/\bif decide (aF.2.1<x7) then 0<=aF.1/\aF.1.toNat<a.length/\0<=aF.2.1/\x2<(a.getD aF.1.toNat cF).ay.length/\0<=aF.1/\aF.1.toNat<b.length/\0<=aF.2.1/\x2<(b.getD aF.1.toNat cF).ay.length/\bif !(x6.K==x5.K&&(x6.S.toList==x5.S.toList&&(x3.K==x4.K&&(x3.N==x4.N&&(x3.S.toList==x4.S.toList&&true))&&true))) then q0 else DG a b q1 q2/\CV a b q2<CV a b aF else DH a b q3/\wD a b q3<wD a b y else Lb true (decide (a=b)))
 dsimp only
 refine ae (fun h=>mL (p7 (by simpa using h))) (fun h=>⟨⟨by omega,by omega,(tm (a:=a) (b:=b) (by assumption)),by simp⟩,?_⟩)
 rintro⟨i,⟨⟩⟩ ⟨h1,h2,h3,hR⟩
 simp only
 refine ae ?_ ?_<;>intro hc
 ·have hc:i<a.length:=yT hc
  have hm:wD a b (i+1,PUnit.unit)<wD a b (i,()):=by simp only[wD];omega
  try simp only[WM]
  try simp only[aO]
  have hz:_:=abS (a.getD i.toNat cF) (b.getD i.toNat cF)
  have hlA:(a.getD i.toNat cF).ay.length<=9223372036854775807:=Bd.len (Bd.row SP (x:=a.getD i.toNat cF) (c:=.sl .gM (a.getD i.toNat cF).ay) (yP a _ h1 hc) (.tail _ (.head _)))
  repeat' (first|refine And.intro (by omega) ?_|refine ae (fun h=>mL (nj cF h1 hc (by omega) hR (by first|grind|(rw[hz];grind)))) (fun h=> ?_))
  refine⟨⟨rfl,by omega,by omega,(tm (a:=(a.getD i.toNat cF).ay) (b:=(b.getD i.toNat cF).ay) (by assumption)),by simp⟩,?_⟩
  rintro⟨i,k,⟨⟩⟩ ⟨rfl,g1,g2,g3,gR⟩
  try simp only
  repeat' (refine And.intro (by omega) ?_)
  refine ae ?_ ?_<;>intro hk
  ·have hk:=yT hk
   simp(disch:=omega) only[wrap_i64]
   repeat' (first|refine And.intro (by omega) ?_|refine ae (fun h=> ?_) (fun h=> ?_))
   all_goals first|exact mL (nj cF h1 hc (by omega) hR (fun e=>absurd (by rw[e]) (nj mX g1 hk (by omega) gR (by grind))))|exact⟨⟨rfl,by omega,by omega,g3,pz mX g1 hk (by omega) gR (by grind)⟩,by simp only[CV];omega⟩
  ·have hk:(a.getD i.toNat cF).ay.length<=k:=by have:=yF hk;omega
   have he:=lJ hk (by omega) gR
   simp(disch:=omega) only[wrap_i64]
   exact⟨⟨by omega,by omega,h3,pz cF h1 hc (by omega) hR (by first|grind|(rw[hz];grind))⟩,hm⟩
 ·have hc:a.length<=i:=by have:=yF hc;omega
  exact Mv (lJ hc (by omega) hR)
def YN:=bW (α:=(List av)×(List av)) (qC (qL .aB) (q1 (qL .aB))) [.ro,.ro] (fun _=>[]) (fun(a,b)=>⟨[dO (decide (a=b))],[],[]⟩)
def DX(a:List av)(b:List av):Int×Unit->Prop:=fun(i,_)=>0<=i/\i<=a.length/\a.length=b.length/\(a.drop i.toNat=b.drop i.toNat↔a=b)
def wE(a:List av)(b:List av):Int×Unit->Nat:=fun(i,_)=>a.length-i.toNat
def DW(a:List av)(b:List av):Int×Int×Unit->Int×Int×Unit->Prop:=fun(i0,k0,_) (i,k,_)=>i=i0/\0<=k/\k<=(a.getD i.toNat aX).bw.length/\(a.getD i.toNat aX).bw.length=(b.getD i.toNat aX).bw.length/\((a.getD i.toNat aX).bw.drop k.toNat=(b.getD i.toNat aX).bw.drop k.toNat↔(a.getD i.toNat aX).bw=(b.getD i.toNat aX).bw)
def C9(a:List av)(b:List av):Int×Int×Unit->Nat:=fun(i,k,_)=>(a.getD i.toNat aX).bw.length-k.toNat
def ako:AX YN:=fun(a,b)=>bS [(4,aT [iI 5] (fun _=>DX a b) (wE a b)),(9,aT [iI 5,iI 6] (DW a b) (C9 a b))]
def ajb:HH:=hF YN func131 [Y9] ako fun x hp hb=>by
 obtain⟨a,b⟩:=x
 have SP:gN (U:=UU) (.one (.sl .aB a)):=hb _ m0
 have Ns:L9 a.length:=kG (hb _ m0)
 have Nr:L9 b.length:=kG (hb _ m1)
 clear hp hb
 apply vE (let q0:=Lb false (decide (a=b));bif (a.length:Int) !=(b.length:Int) then q0 else DX a b (0,())/\∀(y:Int×PUnit),let x0:=a.getD y.1.toNat aX;let x1:=b.getD y.1.toNat aX;let q1:=(y.1,0,());DX a b y->bif decide (y.1<(a.length:Int)) then 0<=y.1/\y.1.toNat<a.length/\0<=y.1/\y.1.toNat<b.length/\bif !decide (x0.cL=x1.cL/\x0.eo=x1.eo) then q0 else 0<=y.1/\y.1.toNat<a.length/\0<=y.1/\y.1.toNat<b.length/\bif (x0.bw.length:Int) !=(x1.bw.length:Int) then q0 else DW a b q1 q1/\∀(aF:Int×Int×PUnit),let x2:=aF.2.1.toNat;let x3:=((b.getD aF.1.toNat aX).bw.getD x2 ui).V;let x4:=((a.getD aF.1.toNat aX).bw.getD x2 ui).V;let x5:=(↑((a.getD aF.1.toNat aX).bw.length):Int);let q2:=(aF.1,wrap i64 (aF.2.1+1),());let q3:=(wrap i64 (aF.1+1),());DW a b q1 aF->0<=aF.1/\aF.1.toNat<a.length/\bif decide (aF.2.1<x5) then 0<=aF.1/\aF.1.toNat<a.length/\0<=aF.2.1/\x2<(a.getD aF.1.toNat aX).bw.length/\0<=aF.1/\aF.1.toNat<b.length/\0<=aF.2.1/\x2<(b.getD aF.1.toNat aX).bw.length/\bif !(((a.getD aF.1.toNat aX).bw.getD x2 ui).Name.toList==((b.getD aF.1.toNat aX).bw.getD x2 ui).Name.toList&&(x4.K==x3.K&&(x4.N==x3.N&&(x4.S.toList==x3.S.toList&&true))&&true)) then q0 else DW a b q1 q2/\C9 a b q2<C9 a b aF else DX a b q3/\wE a b q3<wE a b y else Lb true (decide (a=b)))
 dsimp only
 refine ae (fun h=>mL (p7 (by simpa using h))) (fun h=>⟨⟨by omega,by omega,(tm (a:=a) (b:=b) (by assumption)),by simp⟩,?_⟩)
 rintro⟨i,⟨⟩⟩ ⟨h1,h2,h3,hR⟩
 simp only
 refine ae ?_ ?_<;>intro hc
 ·have hc:i<a.length:=yT hc
  have hm:wE a b (i+1,PUnit.unit)<wE a b (i,()):=by simp only[wE];omega
  try simp only[Tu]
  try simp only[aO]
  have hz:_:=Ta (a.getD i.toNat aX) (b.getD i.toNat aX)
  have hlA:(a.getD i.toNat aX).bw.length<=9223372036854775807:=Bd.len (Bd.row SP (x:=a.getD i.toNat aX) (c:=.sl .cw (a.getD i.toNat aX).bw) (yP a _ h1 hc) (.tail _ (.tail _ (.head _))))
  repeat' (first|refine And.intro (by omega) ?_|refine ae (fun h=>mL (nj aX h1 hc (by omega) hR (by first|grind|(rw[hz];grind)))) (fun h=> ?_))
  refine⟨⟨rfl,by omega,by omega,(tm (a:=(a.getD i.toNat aX).bw) (b:=(b.getD i.toNat aX).bw) (by assumption)),by simp⟩,?_⟩
  rintro⟨i,k,⟨⟩⟩ ⟨rfl,g1,g2,g3,gR⟩
  try simp only
  repeat' (refine And.intro (by omega) ?_)
  refine ae ?_ ?_<;>intro hk
  ·have hk:=yT hk
   simp(disch:=omega) only[wrap_i64]
   repeat' (first|refine And.intro (by omega) ?_|refine ae (fun h=> ?_) (fun h=> ?_))
   all_goals first|exact mL (nj aX h1 hc (by omega) hR (fun e=>absurd (by rw[e]) (nj ui g1 hk (by omega) gR (by grind))))|exact⟨⟨rfl,by omega,by omega,g3,pz ui g1 hk (by omega) gR (by grind)⟩,by simp only[C9];omega⟩
  ·have hk:(a.getD i.toNat aX).bw.length<=k:=by have:=yF hk;omega
   have he:=lJ hk (by omega) gR
   simp(disch:=omega) only[wrap_i64]
   exact⟨⟨by omega,by omega,h3,pz aX h1 hc (by omega) hR (by first|grind|(rw[hz];grind))⟩,hm⟩
 ·have hc:a.length<=i:=by have:=yF hc;omega
  exact Mv (lJ hc (by omega) hR)
def Yq:=bW (α:=(List ez)×(List ez)) (qC (qL .dE) (q1 (qL .dE))) [.ro,.ro] (fun _=>[]) (fun(a,b)=>⟨[dO (decide (a=b))],[],[]⟩)
def DF(a:List ez)(b:List ez):Int×Unit->Prop:=fun(i,_)=>0<=i/\i<=a.length/\a.length=b.length/\(a.drop i.toNat=b.drop i.toNat↔a=b)
def wC(a:List ez)(b:List ez):Int×Unit->Nat:=fun(i,_)=>a.length-i.toNat
def zJ(a:List ez)(b:List ez):Int×T7×T7×Int×Unit->Int×T7×T7×Int×Unit->Prop:=fun(i0,fx0,fy0,k0,_) (i,fx,fy,k,_)=>i=i0/\0<=k/\k<=(a.getD i.toNat dj).ay.length/\(a.getD i.toNat dj).ay.length=(b.getD i.toNat dj).ay.length/\((a.getD i.toNat dj).ay.drop k.toNat=(b.getD i.toNat dj).ay.drop k.toNat↔(a.getD i.toNat dj).ay=(b.getD i.toNat dj).ay)/\fx=((a.getD i.toNat dj).Kind,(a.getD i.toNat dj).Name,(a.getD i.toNat dj).ay,(a.getD i.toNat dj).N,(a.getD i.toNat dj).aW,())/\fy=((b.getD i.toNat dj).Kind,(b.getD i.toNat dj).Name,(b.getD i.toNat dj).ay,(b.getD i.toNat dj).N,(b.getD i.toNat dj).aW,())
def zy(a:List ez)(b:List ez):Int×T7×T7×Int×Unit->Nat:=fun(i,fx,fy,k,_)=>(a.getD i.toNat dj).ay.length-k.toNat
def aj2:AX Yq:=fun(a,b)=>bS [(4,aT [iI 5] (fun _=>DF a b) (wC a b)),(11,aT [iI 5,.box 6 (6,1024) [.lit (.int .i64),.lit .str,.shr .bI,.lit (.int .i64),.lit .str],.box 7 (7,1024) [.lit (.int .i64),.lit .str,.shr .bI,.lit (.int .i64),.lit .str],iI 8] (zJ a b) (zy a b))]
def aiB:HH:=hF Yq func186 [] aj2 fun x hp hb=>by
 obtain⟨a,b⟩:=x
 have SP:gN (U:=UU) (.one (.sl .dE a)):=hb _ m0
 have Ns:L9 a.length:=kG (hb _ m0)
 have Nr:L9 b.length:=kG (hb _ m1)
 clear hp hb
 apply vE (let q0:=Lb false (decide (a=b));let q1:=Int×BA×List cv×Int×BA×PUnit;bif (a.length:Int) !=(b.length:Int) then q0 else DF a b (0,())/\∀(y:Int×PUnit),let x0:=a.getD y.1.toNat dj;let x1:=b.getD y.1.toNat dj;let q2:=(y.1,(x0.Kind,x0.Name,x0.ay,x0.N,x0.aW,()),(x1.Kind,x1.Name,x1.ay,x1.N,x1.aW,()),0,());DF a b y->bif decide (y.1<(a.length:Int)) then 0<=y.1/\y.1.toNat<a.length/\0<=y.1/\y.1.toNat<b.length/\bif x0.Kind !=x1.Kind then q0 else bif !x0.Name.toList==x1.Name.toList then q0 else bif x0.N !=x1.N then q0 else bif !x0.aW.toList==x1.aW.toList then q0 else bif (x0.ay.length:Int) !=(x1.ay.length:Int) then q0 else zJ a b q2 q2/\∀(aF:Int×q1×q1×Int×PUnit),let x7:=aF.2.2.2.1.toNat;let w_:=aF.2.1.2.2.1.getD x7 fj;let Aa:=aF.2.1.2.2.1.length;let x6:=aF.2.2.1.2.2.1.getD x7 fj;let mf:=w_.L;let qP:=w_.R;let jd:=(↑Aa:Int);let x4:=x6.R;let x5:=x6.L;let x8:=qP.V;let x9:=mf.V;let x2:=x5.V;let x3:=x4.V;let q3:=(aF.1,(aF.2.1.1,aF.2.1.2.1,aF.2.1.2.2.1,aF.2.1.2.2.2.1,aF.2.1.2.2.2.2.1,()),(aF.2.2.1.1,aF.2.2.1.2.1,aF.2.2.1.2.2.1,aF.2.2.1.2.2.2.1,aF.2.2.1.2.2.2.2.1,()),wrap i64 (aF.2.2.2.1+1),());let q4:=(wrap i64 (aF.1+1),());zJ a b q2 aF->bif decide (aF.2.2.2.1<jd) then 0<=aF.2.2.2.1/\x7<Aa/\0<=aF.2.2.2.1/\x7<aF.2.2.1.2.2.1.length/\bif !(w_.Op.toList==x6.Op.toList&&(mf.K==x5.K&&(mf.S.toList==x5.S.toList&&(x9.K==x2.K&&(x9.N==x2.N&&(x9.S.toList==x2.S.toList&&true))&&true))&&(qP.K==x4.K&&(qP.S.toList==x4.S.toList&&(x8.K==x3.K&&(x8.N==x3.N&&(x8.S.toList==x3.S.toList&&true))&&true))&&true))) then q0 else zJ a b q2 q3/\zy a b q3<zy a b aF else DF a b q4/\wC a b q4<wC a b y else Lb true (decide (a=b)))
 dsimp only
 refine ae (fun h=>mL (p7 (by simpa using h))) (fun h=>⟨⟨by omega,by omega,(tm (a:=a) (b:=b) (by assumption)),by simp⟩,?_⟩)
 rintro⟨i,⟨⟩⟩ ⟨h1,h2,h3,hR⟩
 simp only
 refine ae ?_ ?_<;>intro hc
 ·have hc:i<a.length:=yT hc
  have hm:wC a b (i+1,PUnit.unit)<wC a b (i,()):=by simp only[wC];omega
  try simp only[S7]
  try simp only[aO]
  have hz:_:=abT (a.getD i.toNat dj) (b.getD i.toNat dj)
  have hlA:(a.getD i.toNat dj).ay.length<=9223372036854775807:=Bd.len (Bd.row SP (x:=a.getD i.toNat dj) (c:=.sl .bI (a.getD i.toNat dj).ay) (yP a _ h1 hc) (.tail _ (.tail _ (.head _))))
  repeat' (first|refine And.intro (by omega) ?_|refine ae (fun h=>mL (nj dj h1 hc (by omega) hR (by first|grind|(rw[hz];grind)))) (fun h=> ?_))
  refine⟨⟨rfl,by omega,by omega,(tm (a:=(a.getD i.toNat dj).ay) (b:=(b.getD i.toNat dj).ay) (by assumption)),by simp,rfl,rfl⟩,?_⟩
  rintro⟨i,fx,fy,k,⟨⟩⟩ ⟨rfl,g1,g2,g3,gR,rfl,rfl⟩
  try simp only
  repeat' (refine And.intro (by omega) ?_)
  refine ae ?_ ?_<;>intro hk
  ·have hk:=yT hk
   simp(disch:=omega) only[wrap_i64]
   repeat' (first|refine And.intro (by omega) ?_|refine ae (fun h=> ?_) (fun h=> ?_))
   all_goals first|exact mL (nj dj h1 hc (by omega) hR (fun e=>absurd (by rw[e]) (nj fj g1 hk (by omega) gR (by grind))))|exact⟨⟨rfl,by omega,by omega,g3,pz fj g1 hk (by omega) gR (by grind),rfl,rfl⟩,by simp only[zy];omega⟩
  ·have hk:(a.getD i.toNat dj).ay.length<=k:=by have:=yF hk;omega
   have he:=lJ hk (by omega) gR
   simp(disch:=omega) only[wrap_i64]
   exact⟨⟨by omega,by omega,h3,pz dj h1 hc (by omega) hR (by first|grind|(rw[hz];grind))⟩,hm⟩
 ·have hc:a.length<=i:=by have:=yF hc;omega
  exact Mv (lJ hc (by omega) hR)
def YP:=bW (α:=aD×aD) (qC (qA .cQ) (q1 (qA .cQ))) [.ro,.ro] (fun _=>[]) (fun(a,b)=>⟨[dO (decide (a=b))],[],[]⟩)
def DZ(a:aD)(b:aD):Int×T3×T3×Unit->Prop:=fun(i,fa,fb,_)=>fa=(a.ab,a.Next,())/\fb=(b.ab,b.Next,())/\0<=i/\i<=a.ab.length/\a.ab.length=b.ab.length/\(a.ab.drop i.toNat=b.ab.drop i.toNat↔a.ab=b.ab)
def C_(a:aD)(b:aD):Int×T3×T3×Unit->Nat:=fun(i,fa,fb,_)=>a.ab.length-i.toNat
def akq:AX YP:=fun(a,b)=>bS [(4,aT [iI 5,.box 2 (2,1024) [.shr .aJ,.lit (.int .i64)],.box 3 (3,1024) [.shr .aJ,.lit (.int .i64)]] (fun _=>DZ a b) (C_ a b))]
def ajd:HH:=hF YP func129 [NP] akq fun x hp hb=>by
 obtain⟨a,b⟩:=x
 have abm:=la (x:=a) (hb _ m0)
 have abe:=la (x:=b) (hb _ m1)
 clear hp hb
 apply vE (let q0:=Lb false (decide (a=b));bif a.Next !=b.Next then q0 else bif (a.ab.length:Int) !=(b.ab.length:Int) then q0 else DZ a b (0,(a.ab,a.Next,()),(b.ab,b.Next,()),())/\∀(y:Int×NR×NR×PUnit),let x0:=y.2.2.1.1.getD y.1.toNat aZ;let x1:=y.2.1.1.getD y.1.toNat aZ;let x3:=y.2.1.1.length;let x2:=(↑x3:Int);let q1:=(wrap i64 (y.1+1),(y.2.1.1,y.2.1.2.1,()),(y.2.2.1.1,y.2.2.1.2.1,()),());DZ a b y->bif decide (y.1<x2) then 0<=y.1/\y.1.toNat<x3/\0<=y.1/\y.1.toNat<y.2.2.1.1.length/\bif x1.Id !=x0.Id then q0 else 0<=y.1/\y.1.toNat<x3/\0<=y.1/\y.1.toNat<y.2.2.1.1.length/\bif !decide (x1.F=x0.F) then q0 else DZ a b q1/\C_ a b q1<C_ a b y else Lb true (decide (a=b)))
 dsimp only
 have hy:_:=S_ a b
 try simp only[gO]
 try simp only[aO]
 repeat' (refine ae (fun h=>mL (by first|grind|(have:=@p7;rw[hy];grind))) (fun h=> ?_))
 refine⟨⟨rfl,rfl,by omega,by omega,by grind,by simp⟩,?_⟩
 rintro⟨i,fa,fb,⟨⟩⟩ ⟨rfl,rfl,h1,h2,h3,hR⟩
 simp only
 refine ae ?_ ?_<;>intro hc
 ·have hc:i<a.ab.length:=yT hc
  rw[wi]
  try simp only[gO]
  try simp only[aO]
  have hz:_:=Ww (a.ab.getD i.toNat aZ) (b.ab.getD i.toNat aZ)
  repeat' (first|refine And.intro (by omega) ?_|refine ae (fun h=> ?_) (fun h=> ?_))
  all_goals first|exact mL (fun e=>absurd (by rw[e]) (nj aZ h1 hc (by omega) hR (by first|grind|(rw[hz];grind))))|exact⟨⟨rfl,rfl,by omega,by omega,h3,pz aZ h1 hc (by omega) hR (by first|grind|(rw[hz];grind))⟩,by simp only[C_];omega⟩
 ·have hc:a.ab.length<=i:=by have:=yF hc;omega
  have nX:=lJ hc (by omega) hR
  clear hR h1 h2 h3 hc
  repeat' (refine ae (fun h=> ?_) (fun h=> ?_))
  all_goals (refine cg ?_;grind)
def YQ:=bW (α:=bc×bc) (qC (qA .bB) (q1 (qA .bB))) [.ro,.ro] (fun _=>[]) (fun(a,b)=>⟨[dO (decide (a=b))],[],[]⟩)
def D0(a:bc)(b:bc):Int×T1×T1×Unit->Prop:=fun(i,fa,fb,_)=>fa=(a.Name,a.jp,a.aH,a.aV,a.bH,())/\fb=(b.Name,b.jp,b.aH,b.aV,b.bH,())/\0<=i/\i<=a.aV.length/\a.aV.length=b.aV.length/\(a.aV.drop i.toNat=b.aV.drop i.toNat↔a.aV=b.aV)
def Da(a:bc)(b:bc):Int×T1×T1×Unit->Nat:=fun(i,fa,fb,_)=>a.aV.length-i.toNat
def akr:AX YQ:=fun(a,b)=>bS [(4,aT [iI 5,.box 2 (2,1024) [.lit .str,.lit (.int .i64),.shr .dB,.shr .ca,.shr .dE],.box 3 (3,1024) [.lit .str,.lit (.int .i64),.shr .dB,.shr .ca,.shr .dE]] (fun _=>D0 a b) (Da a b))]
def aje:HH:=hF YQ func128 [aiC,aiB] akr fun x hp hb=>by
 obtain⟨a,b⟩:=x
 have ey:=ma (x:=a) (hb _ m0)
 have P7:=ey.1
 have ack:=ey.2.1
 have abo:=ey.2.2.1
 have acn:=ey.2.2.2
 have hH:=ma (x:=b) (hb _ m1)
 have P6:=hH.1
 have ach:=hH.2.1
 have abg:=hH.2.2.1
 have acj:=hH.2.2.2
 clear hp hb
 apply vE (let q0:=Lb false (decide (a=b));let q1:=BA×Int×List cr×List dy×List ez×PUnit;bif !a.Name.toList==b.Name.toList then q0 else bif a.jp !=b.jp then q0 else bif (a.aV.length:Int) !=(b.aV.length:Int) then q0 else D0 a b (0,(a.Name,a.jp,a.aH,a.aV,a.bH,()),(b.Name,b.jp,b.aH,b.aV,b.bH,()),())/\∀(y:Int×q1×q1×PUnit),let x4:=y.2.2.1.2.2.2.1.getD y.1.toNat qN;let x9:=y.2.1.2.2.2.1.getD y.1.toNat qN;let qP:=y.2.1.2.2.2.1.length;let x2:=x4.L;let x3:=x4.R;let x7:=x9.L;let x8:=x9.R;let mf:=(↑qP:Int);let x0:=x3.V;let x1:=x2.V;let x5:=x8.V;let x6:=x7.V;let q2:=(wrap i64 (y.1+1),(y.2.1.1,y.2.1.2.1,y.2.1.2.2.1,y.2.1.2.2.2.1,y.2.1.2.2.2.2.1,()),(y.2.2.1.1,y.2.2.1.2.1,y.2.2.1.2.2.1,y.2.2.1.2.2.2.1,y.2.2.1.2.2.2.2.1,()),());D0 a b y->bif decide (y.1<mf) then 0<=y.1/\y.1.toNat<qP/\0<=y.1/\y.1.toNat<y.2.2.1.2.2.2.1.length/\bif !(x9.Op==x4.Op&&(x7.K==x2.K&&(x7.S.toList==x2.S.toList&&(x6.K==x1.K&&(x6.N==x1.N&&(x6.S.toList==x1.S.toList&&true))&&true))&&(x8.K==x3.K&&(x8.S.toList==x3.S.toList&&(x5.K==x0.K&&(x5.N==x0.N&&(x5.S.toList==x0.S.toList&&true))&&true))&&true))) then q0 else D0 a b q2/\Da a b q2<Da a b y else bif decide (y.2.1.2.2.1=y.2.2.1.2.2.1) then Lb (decide (y.2.1.2.2.2.2.1=y.2.2.1.2.2.2.2.1)) (decide (a=b)) else q0)
 dsimp only
 have hy:_:=Oz a b
 try simp only[L0]
 try simp only[aO]
 repeat' (refine ae (fun h=>mL (by first|grind|(have:=@p7;rw[hy];grind))) (fun h=> ?_))
 refine⟨⟨rfl,rfl,by omega,by omega,by grind,by simp⟩,?_⟩
 rintro⟨i,fa,fb,⟨⟩⟩ ⟨rfl,rfl,h1,h2,h3,hR⟩
 simp only
 refine ae ?_ ?_<;>intro hc
 ·have hc:i<a.aV.length:=yT hc
  rw[wi]
  try simp only[L0]
  try simp only[aO]
  have hz:True:=trivial
  repeat' (first|refine And.intro (by omega) ?_|refine ae (fun h=> ?_) (fun h=> ?_))
  all_goals first|exact mL (fun e=>absurd (by rw[e]) (nj qN h1 hc (by omega) hR (by first|grind|(rw[hz];grind))))|exact⟨⟨rfl,rfl,by omega,by omega,h3,pz qN h1 hc (by omega) hR (by first|grind|(rw[hz];grind))⟩,by simp only[Da];omega⟩
 ·have hc:a.aV.length<=i:=by have:=yF hc;omega
  have nX:=lJ hc (by omega) hR
  clear hR h1 h2 h3 hc
  repeat' (refine ae (fun h=> ?_) (fun h=> ?_))
  all_goals (refine cg ?_;grind)
def afG:=bW (α:=br×br) (qC (qA .h_) (q1 (qA .h_))) [.ro,.ro] (fun _=>[]) (fun(a,b)=>⟨[dO (decide (a=b))],[],[]⟩)
def JL(a:br)(b:br):Int×T2×T2×Unit->Prop:=fun(i,fa,fb,_)=>fa=(a.Name,a.aw,())/\fb=(b.Name,b.aw,())/\0<=i/\i<=a.aw.length/\a.aw.length=b.aw.length/\(a.aw.drop i.toNat=b.aw.drop i.toNat↔a.aw=b.aw)
def I8(a:br)(b:br):Int×T2×T2×Unit->Nat:=fun(i,fa,fb,_)=>a.aw.length-i.toNat
def apW:AX afG:=fun(a,b)=>bS [(4,aT [iI 5,.box 2 (2,1024) [.lit .str,.shr .bB],.box 3 (3,1024) [.lit .str,.shr .bB]] (fun _=>JL a b) (I8 a b))]
def ao':HH:=hF afG func72 [aje] apW fun x hp hb=>by
 obtain⟨a,b⟩:=x
 have ey:=lc (x:=a) (hb _ m0)
 have P7:=ey.1
 have abl:=ey.2
 have hH:=lc (x:=b) (hb _ m1)
 have P6:=hH.1
 have abd:=hH.2
 clear hp hb
 apply vE (let q0:=Lb false (decide (a=b));bif !a.Name.toList==b.Name.toList then q0 else bif (a.aw.length:Int) !=(b.aw.length:Int) then q0 else JL a b (0,(a.Name,a.aw,()),(b.Name,b.aw,()),())/\∀(y:Int×T9×T9×PUnit),let x1:=y.2.1.2.1.length;let x0:=(↑x1:Int);let q1:=(wrap i64 (y.1+1),(y.2.1.1,y.2.1.2.1,()),(y.2.2.1.1,y.2.2.1.2.1,()),());JL a b y->bif decide (y.1<x0) then 0<=y.1/\y.1.toNat<x1/\0<=y.1/\y.1.toNat<y.2.2.1.2.1.length/\bif !decide (y.2.1.2.1.getD y.1.toNat ct=y.2.2.1.2.1.getD y.1.toNat ct) then q0 else JL a b q1/\I8 a b q1<I8 a b y else Lb true (decide (a=b)))
 dsimp only
 have hy:_:=Tb a b
 try simp only[gO]
 try simp only[aO]
 repeat' (refine ae (fun h=>mL (by first|grind|(have:=@p7;rw[hy];grind))) (fun h=> ?_))
 refine⟨⟨rfl,rfl,by omega,by omega,by grind,by simp⟩,?_⟩
 rintro⟨i,fa,fb,⟨⟩⟩ ⟨rfl,rfl,h1,h2,h3,hR⟩
 simp only
 refine ae ?_ ?_<;>intro hc
 ·have hc:i<a.aw.length:=yT hc
  rw[wi]
  try simp only[gO]
  try simp only[aO]
  have hz:_:=Oz (a.aw.getD i.toNat ct) (b.aw.getD i.toNat ct)
  repeat' (first|refine And.intro (by omega) ?_|refine ae (fun h=> ?_) (fun h=> ?_))
  all_goals first|exact mL (fun e=>absurd (by rw[e]) (nj ct h1 hc (by omega) hR (by first|grind|(rw[hz];grind))))|exact⟨⟨rfl,rfl,by omega,by omega,h3,pz ct h1 hc (by omega) hR (by first|grind|(rw[hz];grind))⟩,by simp only[I8];omega⟩
 ·have hc:a.aw.length<=i:=by have:=yF hc;omega
  have nX:=lJ hc (by omega) hR
  clear hR h1 h2 h3 hc
  repeat' (refine ae (fun h=> ?_) (fun h=> ?_))
  all_goals (refine cg ?_;grind)
def afF:=bW (α:=aq×aq) (qC (qA .cp) (q1 (qA .cp))) [.ro,.ro] (fun _=>[]) (fun(a,b)=>⟨[dO (decide (a=b))],[],[]⟩)
def JK(a:aq)(b:aq):Int×T0×T0×Unit->Prop:=fun(i,fa,fb,_)=>fa=(a.S.ab,a.S.Next,a.aA,a.aj,a.ap,a.ax,a.State,a.cd,())/\fb=(b.S.ab,b.S.Next,b.aA,b.aj,b.ap,b.ax,b.State,b.cd,())/\0<=i/\i<=a.ap.length/\a.ap.length=b.ap.length/\(a.ap.drop i.toNat=b.ap.drop i.toNat↔a.ap=b.ap)
def I7(a:aq)(b:aq):Int×T0×T0×Unit->Nat:=fun(i,fa,fb,_)=>a.ap.length-i.toNat
def JJ(a:aq)(b:aq):Int×T0×T0×Unit->Prop:=fun(i,fa,fb,_)=>fa=(a.S.ab,a.S.Next,a.aA,a.aj,a.ap,a.ax,a.State,a.cd,())/\fb=(b.S.ab,b.S.Next,b.aA,b.aj,b.ap,b.ax,b.State,b.cd,())/\0<=i/\i<=a.ax.length/\a.ax.length=b.ax.length/\(a.ax.drop i.toNat=b.ax.drop i.toNat↔a.ax=b.ax)
def I6(a:aq)(b:aq):Int×T0×T0×Unit->Nat:=fun(i,fa,fb,_)=>a.ax.length-i.toNat
def apV:AX afF:=fun(a,b)=>bS [(4,aT [iI 5,.box 2 (2,1024) [.shr .aJ,.lit (.int .i64),.shr .aB,.shr .az,.shr .aE,.shr .aQ,.lit (.int .i64),.lit (.int .i64)],.box 3 (3,1024) [.shr .aJ,.lit (.int .i64),.shr .aB,.shr .az,.shr .aE,.shr .aQ,.lit (.int .i64),.lit (.int .i64)]] (fun _=>JK a b) (I7 a b)),(9,aT [iI 6,.box 2 (2,1024) [.shr .aJ,.lit (.int .i64),.shr .aB,.shr .az,.shr .aE,.shr .aQ,.lit (.int .i64),.lit (.int .i64)],.box 3 (3,1024) [.shr .aJ,.lit (.int .i64),.shr .aB,.shr .az,.shr .aE,.shr .aQ,.lit (.int .i64),.lit (.int .i64)]] (fun _=>JJ a b) (I6 a b))]
def ao9:HH:=hF afF func73 [ajd,ajc,ajb,NP] apV fun x hp hb=>by
 obtain⟨a,b⟩:=x
 have ey:=oR (x:=a) (hb _ m0)
 have Wb:=ey.1
 have abn:=ey.2.1
 have abk:=ey.2.2.1
 have XF:=ey.2.2.2.1
 have abj:=ey.2.2.2.2
 have hH:=oR (x:=b) (hb _ m1)
 have Wa:=hH.1
 have abf:=hH.2.1
 have abc:=hH.2.2.1
 have XE:=hH.2.2.2.1
 have abb:=hH.2.2.2.2
 clear hp hb
 apply vE (let q0:=List bO×Int×List av×List ao×List aI×List bp×Int×Int×PUnit;let q1:=Lb false (decide (a=b));bif a.State !=b.State then q1 else bif a.cd !=b.cd then q1 else bif !decide (a.S=b.S) then q1 else bif !decide (a.aj=b.aj) then q1 else bif !decide (a.aA=b.aA) then q1 else bif (a.ap.length:Int) !=(b.ap.length:Int) then q1 else bif (a.ax.length:Int) !=(b.ax.length:Int) then q1 else JK a b (0,(a.S.ab,a.S.Next,a.aA,a.aj,a.ap,a.ax,a.State,a.cd,()),(b.S.ab,b.S.Next,b.aA,b.aj,b.ap,b.ax,b.State,b.cd,()),())/\∀(y:Int×q0×q0×PUnit),let x0:=y.2.2.1.2.2.2.2.1.getD y.1.toNat cC;let x1:=y.2.1.2.2.2.2.1.getD y.1.toNat cC;let x3:=y.2.1.2.2.2.2.1.length;let x2:=(↑x3:Int);JK a b y->bif decide (y.1<x2) then 0<=y.1/\y.1.toNat<x3/\0<=y.1/\y.1.toNat<y.2.2.1.2.2.2.2.1.length/\bif x1.At !=x0.At then q1 else 0<=y.1/\y.1.toNat<x3/\0<=y.1/\y.1.toNat<y.2.2.1.2.2.2.2.1.length/\bif !decide (x1.F=x0.F) then q1 else JK a b (wrap i64 (y.1+1),(y.2.1.1,y.2.1.2.1,y.2.1.2.2.1,y.2.1.2.2.2.1,y.2.1.2.2.2.2.1,y.2.1.2.2.2.2.2.1,y.2.1.2.2.2.2.2.2.1,y.2.1.2.2.2.2.2.2.2.1,()),(y.2.2.1.1,y.2.2.1.2.1,y.2.2.1.2.2.1,y.2.2.1.2.2.2.1,y.2.2.1.2.2.2.2.1,y.2.2.1.2.2.2.2.2.1,y.2.2.1.2.2.2.2.2.2.1,y.2.2.1.2.2.2.2.2.2.2.1,()),())/\I7 a b (wrap i64 (y.1+1),(y.2.1.1,y.2.1.2.1,y.2.1.2.2.1,y.2.1.2.2.2.1,y.2.1.2.2.2.2.1,y.2.1.2.2.2.2.2.1,y.2.1.2.2.2.2.2.2.1,y.2.1.2.2.2.2.2.2.2.1,()),(y.2.2.1.1,y.2.2.1.2.1,y.2.2.1.2.2.1,y.2.2.1.2.2.2.1,y.2.2.1.2.2.2.2.1,y.2.2.1.2.2.2.2.2.1,y.2.2.1.2.2.2.2.2.2.1,y.2.2.1.2.2.2.2.2.2.2.1,()),())<I7 a b y else JJ a b (0,(y.2.1.1,y.2.1.2.1,y.2.1.2.2.1,y.2.1.2.2.2.1,y.2.1.2.2.2.2.1,y.2.1.2.2.2.2.2.1,y.2.1.2.2.2.2.2.2.1,y.2.1.2.2.2.2.2.2.2.1,()),(y.2.2.1.1,y.2.2.1.2.1,y.2.2.1.2.2.1,y.2.2.1.2.2.2.1,y.2.2.1.2.2.2.2.1,y.2.2.1.2.2.2.2.2.1,y.2.2.1.2.2.2.2.2.2.1,y.2.2.1.2.2.2.2.2.2.2.1,()),())/\∀(y:Int×q0×q0×PUnit),let x4:=y.2.2.1.2.2.2.2.2.1.getD y.1.toNat bZ;let x5:=y.2.1.2.2.2.2.2.1.getD y.1.toNat bZ;let x7:=y.2.1.2.2.2.2.2.1.length;let x6:=(↑x7:Int);let q2:=(wrap i64 (y.1+1),(y.2.1.1,y.2.1.2.1,y.2.1.2.2.1,y.2.1.2.2.2.1,y.2.1.2.2.2.2.1,y.2.1.2.2.2.2.2.1,y.2.1.2.2.2.2.2.2.1,y.2.1.2.2.2.2.2.2.2.1,()),(y.2.2.1.1,y.2.2.1.2.1,y.2.2.1.2.2.1,y.2.2.1.2.2.2.1,y.2.2.1.2.2.2.2.1,y.2.2.1.2.2.2.2.2.1,y.2.2.1.2.2.2.2.2.2.1,y.2.2.1.2.2.2.2.2.2.2.1,()),());JJ a b y->bif decide (y.1<x6) then 0<=y.1/\y.1.toNat<x7/\0<=y.1/\y.1.toNat<y.2.2.1.2.2.2.2.2.1.length/\bif !x5.Key.toList==x4.Key.toList then q1 else 0<=y.1/\y.1.toNat<x7/\0<=y.1/\y.1.toNat<y.2.2.1.2.2.2.2.2.1.length/\bif !decide (x5.F=x4.F) then q1 else JJ a b q2/\I6 a b q2<I6 a b y else Lb true (decide (a=b)))
 dsimp only
 have hy:_:=Wx a b
 try simp only[gO]
 try simp only[aO]
 repeat' (refine ae (fun h=>mL (by first|grind|(have:=@p7;rw[hy];grind))) (fun h=> ?_))
 refine⟨⟨rfl,rfl,by omega,by omega,by grind,by simp⟩,?_⟩
 rintro⟨i,fa,fb,⟨⟩⟩ ⟨rfl,rfl,h1,h2,h3,hR⟩
 simp only
 refine ae ?_ ?_<;>intro hc
 ·have hc:i<a.ap.length:=yT hc
  rw[wi]
  try simp only[gO]
  try simp only[aO]
  have hz:_:=S9 (a.ap.getD i.toNat cC) (b.ap.getD i.toNat cC)
  repeat' (first|refine And.intro (by omega) ?_|refine ae (fun h=> ?_) (fun h=> ?_))
  all_goals first|exact mL (fun e=>absurd (by rw[e]) (nj cC h1 hc (by omega) hR (by first|grind|(rw[hz];grind))))|exact⟨⟨rfl,rfl,by omega,by omega,h3,pz cC h1 hc (by omega) hR (by first|grind|(rw[hz];grind))⟩,by simp only[I7];omega⟩
 ·have hc:a.ap.length<=i:=by have:=yF hc;omega
  have nX:=lJ hc (by omega) hR
  clear hR h1 h2 h3 hc
  refine⟨⟨rfl,rfl,by omega,by omega,by grind,by simp⟩,?_⟩
  rintro⟨i,fa,fb,⟨⟩⟩ ⟨rfl,rfl,h1,h2,h3,hR⟩
  simp only
  refine ae ?_ ?_<;>intro hc
  ·have hc:i<a.ax.length:=yT hc
   rw[wi]
   try simp only[gO]
   try simp only[aO]
   have hz:_:=Wu (a.ax.getD i.toNat bZ) (b.ax.getD i.toNat bZ)
   repeat' (first|refine And.intro (by omega) ?_|refine ae (fun h=> ?_) (fun h=> ?_))
   all_goals first|exact mL (fun e=>absurd (by rw[e]) (nj bZ h1 hc (by omega) hR (by first|grind|(rw[hz];grind))))|exact⟨⟨rfl,rfl,by omega,by omega,h3,pz bZ h1 hc (by omega) hR (by first|grind|(rw[hz];grind))⟩,by simp only[I6];omega⟩
  ·have hc:a.ax.length<=i:=by have:=yF hc;omega
   have Wg:=lJ hc (by omega) hR
   clear hR h1 h2 h3 hc
   repeat' (refine ae (fun h=> ?_) (fun h=> ?_))
   all_goals (refine cg ?_;grind)
def agp:=bW (α:=lp×lp) (qC (qA .oN) (q1 (qA .oN))) [.ro,.ro] (fun _=>[]) (fun(a,b)=>⟨[dO (decide (a=b))],[],[]⟩)
def Kd(a:lp)(b:lp):Int×Zu×Zu×Unit->Prop:=fun(i,fa,fb,_)=>fa=(a.o7,a.jH,a.cd,a.A_,())/\fb=(b.o7,b.jH,b.cd,b.A_,())/\0<=i/\i<=a.o7.length/\a.o7.length=b.o7.length/\(a.o7.drop i.toNat=b.o7.drop i.toNat↔a.o7=b.o7)
def Jv(a:lp)(b:lp):Int×Zu×Zu×Unit->Nat:=fun(i,fa,fb,_)=>a.o7.length-i.toNat
def Kc(a:lp)(b:lp):Int×Zu×Zu×Unit->Prop:=fun(i,fa,fb,_)=>fa=(a.o7,a.jH,a.cd,a.A_,())/\fb=(b.o7,b.jH,b.cd,b.A_,())/\0<=i/\i<=a.jH.length/\a.jH.length=b.jH.length/\(a.jH.drop i.toNat=b.jH.drop i.toNat↔a.jH=b.jH)
def Ju(a:lp)(b:lp):Int×Zu×Zu×Unit->Nat:=fun(i,fa,fb,_)=>a.jH.length-i.toNat
def aqr:AX agp:=fun(a,b)=>bS [(4,aT [iI 5,.box 2 (2,1024) [.shr .h_,.shr .lm,.lit (.int .i64),.lit (.int .i64)],.box 3 (3,1024) [.shr .h_,.shr .lm,.lit (.int .i64),.lit (.int .i64)]] (fun _=>Kd a b) (Jv a b)),(9,aT [iI 6,.box 2 (2,1024) [.shr .h_,.shr .lm,.lit (.int .i64),.lit (.int .i64)],.box 3 (3,1024) [.shr .h_,.shr .lm,.lit (.int .i64),.lit (.int .i64)]] (fun _=>Kc a b) (Ju a b))]
def apC:HH:=hF agp func24 [ao',ao9] aqr fun x hp hb=>by
 obtain⟨a,b⟩:=x
 have ey:=Ma (x:=a) (hb _ m0)
 have acm:=ey.1
 have abi:=ey.2
 have hH:=Ma (x:=b) (hb _ m1)
 have aci:=hH.1
 have aba:=hH.2
 clear hp hb
 apply vE (let q0:=Lb false (decide (a=b));let q1:=List br×List sO×Int×Int×PUnit;bif a.cd !=b.cd then q0 else bif a.A_ !=b.A_ then q0 else bif (a.o7.length:Int) !=(b.o7.length:Int) then q0 else bif (a.jH.length:Int) !=(b.jH.length:Int) then q0 else Kd a b (0,(a.o7,a.jH,a.cd,a.A_,()),(b.o7,b.jH,b.cd,b.A_,()),())/\∀(y:Int×q1×q1×PUnit),let x1:=y.2.1.1.length;let x0:=(↑x1:Int);Kd a b y->bif decide (y.1<x0) then 0<=y.1/\y.1.toNat<x1/\0<=y.1/\y.1.toNat<y.2.2.1.1.length/\bif !decide (y.2.1.1.getD y.1.toNat ML=y.2.2.1.1.getD y.1.toNat ML) then q0 else Kd a b (wrap i64 (y.1+1),(y.2.1.1,y.2.1.2.1,y.2.1.2.2.1,y.2.1.2.2.2.1,()),(y.2.2.1.1,y.2.2.1.2.1,y.2.2.1.2.2.1,y.2.2.1.2.2.2.1,()),())/\Jv a b (wrap i64 (y.1+1),(y.2.1.1,y.2.1.2.1,y.2.1.2.2.1,y.2.1.2.2.2.1,()),(y.2.2.1.1,y.2.2.1.2.1,y.2.2.1.2.2.1,y.2.2.1.2.2.2.1,()),())<Jv a b y else Kc a b (0,(y.2.1.1,y.2.1.2.1,y.2.1.2.2.1,y.2.1.2.2.2.1,()),(y.2.2.1.1,y.2.2.1.2.1,y.2.2.1.2.2.1,y.2.2.1.2.2.2.1,()),())/\∀(y:Int×q1×q1×PUnit),let x2:=y.2.2.1.2.1.getD y.1.toNat D6;let x3:=y.2.1.2.1.getD y.1.toNat D6;let x5:=y.2.1.2.1.length;let x4:=(↑x5:Int);let q2:=(wrap i64 (y.1+1),(y.2.1.1,y.2.1.2.1,y.2.1.2.2.1,y.2.1.2.2.2.1,()),(y.2.2.1.1,y.2.2.1.2.1,y.2.2.1.2.2.1,y.2.2.1.2.2.2.1,()),());Kc a b y->bif decide (y.1<x4) then 0<=y.1/\y.1.toNat<x5/\0<=y.1/\y.1.toNat<y.2.2.1.2.1.length/\bif !x3.Name.toList==x2.Name.toList then q0 else bif !x3.Def.toList==x2.Def.toList then q0 else bif !decide (x3.X=x2.X) then q0 else Kc a b q2/\Ju a b q2<Ju a b y else Lb true (decide (a=b)))
 dsimp only
 have hy:_:=Wz a b
 try simp only[gO]
 try simp only[aO]
 repeat' (refine ae (fun h=>mL (by first|grind|(have:=@p7;rw[hy];grind))) (fun h=> ?_))
 refine⟨⟨rfl,rfl,by omega,by omega,by grind,by simp⟩,?_⟩
 rintro⟨i,fa,fb,⟨⟩⟩ ⟨rfl,rfl,h1,h2,h3,hR⟩
 simp only
 refine ae ?_ ?_<;>intro hc
 ·have hc:i<a.o7.length:=yT hc
  rw[wi]
  try simp only[gO]
  try simp only[aO]
  have hz:_:=Tb (a.o7.getD i.toNat ML) (b.o7.getD i.toNat ML)
  repeat' (first|refine And.intro (by omega) ?_|refine ae (fun h=> ?_) (fun h=> ?_))
  all_goals first|exact mL (fun e=>absurd (by rw[e]) (nj ML h1 hc (by omega) hR (by first|grind|(rw[hz];grind))))|exact⟨⟨rfl,rfl,by omega,by omega,h3,pz ML h1 hc (by omega) hR (by first|grind|(rw[hz];grind))⟩,by simp only[Jv];omega⟩
 ·have hc:a.o7.length<=i:=by have:=yF hc;omega
  have nX:=lJ hc (by omega) hR
  clear hR h1 h2 h3 hc
  refine⟨⟨rfl,rfl,by omega,by omega,by grind,by simp⟩,?_⟩
  rintro⟨i,fa,fb,⟨⟩⟩ ⟨rfl,rfl,h1,h2,h3,hR⟩
  simp only
  refine ae ?_ ?_<;>intro hc
  ·have hc:i<a.jH.length:=yT hc
   rw[wi]
   try simp only[gO]
   try simp only[aO]
   have hz:_:=Wt (a.jH.getD i.toNat D6) (b.jH.getD i.toNat D6)
   repeat' (first|refine And.intro (by omega) ?_|refine ae (fun h=> ?_) (fun h=> ?_))
   all_goals first|exact mL (fun e=>absurd (by rw[e]) (nj D6 h1 hc (by omega) hR (by first|grind|(rw[hz];grind))))|exact⟨⟨rfl,rfl,by omega,by omega,h3,pz D6 h1 hc (by omega) hR (by first|grind|(rw[hz];grind))⟩,by simp only[Ju];omega⟩
  ·have hc:a.jH.length<=i:=by have:=yF hc;omega
   have Wg:=lJ hc (by omega) hR
   clear hR h1 h2 h3 hc
   repeat' (refine ae (fun h=> ?_) (fun h=> ?_))
   all_goals (refine cg ?_;grind)
theorem inst_eq(a b:aq):decide ((⟨[],[⟨ai,ai,a⟩],0,0⟩:lp)=⟨[],[⟨ai,ai,b⟩],0,0⟩)=decide (a=b):=by
 rw[decide_eq_decide];simp
def Zk8:=bW (α:=aq×aq) (qC (qA .cp) (q1 (qA .cp))) [.ro,.ro] (fun _=>[]) (fun(a,b)=>⟨[dO (decide (a=b))],[],[]⟩)
def Zh8:HH:=hF Zk8 func8 [apC] a0 fun x hp hb=>by
 obtain⟨a,b⟩:=x
 clear hp hb
 apply vE (let x0:={data:= #[]:BA};Lb (decide ({o7:=[],jH:=[{Name:=x0,Def:=x0,X:=a:sO}],cd:=(0:Int),A_:=(0:Int):lp}={o7:=[],jH:=[{Name:=x0,Def:=x0,X:=b:sO}],cd:=(0:Int),A_:=(0:Int):lp})) (decide (a=b)))
 dsimp only
 exact cg (inst_eq a b)
theorem Wy(x y:gg):x=y↔x.Key=y.Key/\x.F=y.F/\x.Try=y.Try:=by cases x;cases y;simp[gg.mk.injEq]
def Zk9:=bW (α:=(List gg)×(List gg)) (qC (qL .dw) (q1 (qL .dw))) [.ro,.ro] (fun _=>[]) (fun(a,b)=>⟨[dO (decide (a=b))],[],[]⟩)
def O2(a:List gg)(b:List gg):Int×Unit->Prop:=fun(i,_)=>0<=i/\i<=a.length/\a.length=b.length/\(a.drop i.toNat=b.drop i.toNat↔a=b)
def O1(a:List gg)(b:List gg):Int×Unit->Nat:=fun(i,_)=>a.length-i.toNat
def Za9:AX Zk9:=fun(a,b)=>bS [(4,aT [iI 5] (fun _=>O2 a b) (O1 a b))]
def Zh9:HH:=hF Zk9 func9 [TX] Za9 fun x hp hb=>by
 obtain⟨a,b⟩:=x
 have Ns:L9 a.length:=kG (hb _ m0)
 have Nr:L9 b.length:=kG (hb _ m1)
 clear hp hb
 apply vE (let q0:=Lb false (decide (a=b));bif (a.length:Int) !=(b.length:Int) then q0 else O2 a b (0,())/\∀(y:Int×PUnit),let x0:=b.getD y.1.toNat D7;let x1:=a.getD y.1.toNat D7;let q1:=(wrap i64 (y.1+1),());O2 a b y->bif decide (y.1<(a.length:Int)) then 0<=y.1/\y.1.toNat<a.length/\0<=y.1/\y.1.toNat<b.length/\bif !x1.Key.toList==x0.Key.toList then q0 else 0<=y.1/\y.1.toNat<a.length/\0<=y.1/\y.1.toNat<b.length/\bif x1.Try !=x0.Try then q0 else 0<=y.1/\y.1.toNat<a.length/\0<=y.1/\y.1.toNat<b.length/\bif !decide (x1.F=x0.F) then q0 else O2 a b q1/\O1 a b q1<O1 a b y else Lb true (decide (a=b)))
 dsimp only
 refine ae (fun h=>mL (p7 (by simpa using h))) (fun h=>⟨⟨by omega,by omega,(tm (a:=a) (b:=b) (by assumption)),by simp⟩,?_⟩)
 rintro⟨i,⟨⟩⟩ ⟨h1,h2,h3,hR⟩
 simp only
 refine ae ?_ ?_<;>intro hc
 ·have hc:i<a.length:=yT hc
  rw[wi]
  try simp only[aO]
  have hz:_:=Wy (a.getD i.toNat D7) (b.getD i.toNat D7)
  repeat' (first|refine And.intro (by omega) ?_|refine ae (fun h=> ?_) (fun h=> ?_))
  all_goals first|exact mL (nj D7 h1 hc (by omega) hR (by first|grind|(rw[hz];grind)))|exact⟨⟨by omega,by omega,h3,pz D7 h1 hc (by omega) hR (by first|grind|(rw[hz];grind))⟩,by simp only[O1];omega⟩
 ·have hc:a.length<=i:=by have:=yF hc;omega
  exact Mv (lJ hc (by omega) hR)
theorem SW{x:aq}(h:x.State≠1):(oJ x).State≠1:=by
 unfold oJ gZ
 split
 ·show(if x.State=5 then(6:Int) else 4)≠1
  split<;>decide
 ·exact h
theorem PO{x:aq}{f:aL}(h:(cJ x f).State=1):cJ x f=qT x (bM x.S f).1:=by
 by_cases g:(bM x.S f).2=0
 ·have e:cJ x f=fX x 3:=if_pos g
  rw[e] at h;exact absurd h (Kw x)
 ·exact if_neg g
theorem E1{x:aq}{f:aL}(h:(cJ x f).State=1):(cJ x f).ap=x.ap/\x.State=1:=by
 have e:=PO h
 rw[e] at h⊢
 exact⟨rfl,h⟩
theorem Fo:∀(l:List aL)(x:aq),(dq 1 l x).State=1->(dq 1 l x).ap=x.ap/\x.State=1
 |[],x,h=>⟨rfl,h⟩
 |f::l,x,h=>by
  rw[dq] at h⊢
  by_cases g:x.State=1
  ·rw[if_pos g,if_pos rfl] at h⊢
   obtain⟨a,b⟩:=Fo l _ h
   exact⟨a.trans (E1 b).1,g⟩
  ·rw[if_neg g] at h;exact absurd h g
theorem Hk:∀{st:Int}(l:List aL)(x:aq),st≠1->x.State≠1->(dq st l x).State≠1
 |_,[],x,_,h=>h
 |st,f::l,x,hs,h=>by
  rw[dq]
  split
  ·exact Hk l _ hs (SW h)
  ·exact h
theorem E0:∀(l:List aI)(x:aq),(hU l x).State=1->(hU l x).ap=x.ap
 |[],x,_=>rfl
 |t::l,x,h=>by
  rw[hU] at h⊢
  by_cases g:x.State=1
  ·rw[if_pos g] at h⊢
   have a:=E0 l _ h
   refine a.trans (E1 (f:=t.F) ?_).1
   by_cases k:(cJ x t.F).State=1
   ·exact k
   ·rw[tn k] at h;exact h
  ·rw[if_neg g] at h;exact absurd h g
theorem Q7{x:aq}{now:Int}(h:(gJ x now).State=1):(gJ x now).ap=BU now x.ap:=by
 unfold gJ at h⊢
 by_cases g:(aM x now).State=1
 ·rw[g] at h⊢
  obtain⟨a,_⟩:=Fo _ _ h
  rw[a]
  show(aM x now).ap=_
  unfold aM at g⊢
  by_cases k:x.State=1
  ·rw[if_pos k] at g⊢
   exact E0 _ _ g
  ·rw[if_neg k] at g;exact absurd g k
 ·exact absurd h (Hk _ _ g g)
theorem Ky{x:aq}{now:Int}(h:(gJ x now).State=1):∀t∈(gJ x now).ap,¬t.At<=now:=by
 rw[Q7 h]
 intro t ht
 have:=(xR.1 ht).2
 simpa using this
def tkL(x:aq):List Int:=[0,x.cd,IntKind.i64.wrap (x.cd+5),IntKind.i64.wrap (x.cd+100),1000000000,-1,1000000001]
noncomputable def B7(code:List Int):Int:=gS (rkC code) (tkL (rX code))
def Zk5:=bW (α:=List Int) (q1 (qL .byte)) [.ro] (fun code=>[L4 code.length]) (fun code=>⟨[dA .h_ (pL (iA code) (kr code 20)),dA .cp (rX code),dI (B7 code)],[false,false,false],[]⟩)
def Zh5:HH:=hF Zk5 func5 [apI,apG,apH,B4] a0 fun(code:List Int) hp hb=>by
 have Iv:L9 code.length:=kG (hb _ m0)
 have bo:code.length<=4294967296:=hp _ m0
 clear hp hb
 apply vE (let x1:=[0,(instA (iA code) (kr code 20)).cd,wrap i64 ((instA (iA code) (kr code 20)).cd+5),wrap i64 ((instA (iA code) (kr code 20)).cd+100),1000000000,(-1),1000000001];let x0:=x1.length;let q0:=kr code 20;let q1:=iA code;L4 code.length/\L4 code.length/\bm q1/\kr code (20:Int)<=(1000:Int)/\0<=(instAC q1 q0).i/\(instAC q1 q0).b.length<=4294967296/\1<=x0/\Lf [DV.agg [CS ((pL q1 q0).Name),CL .bB (pL q1 q0).aw],DV.agg (aG (instA q1 q0)),VI (x1.getD (Int.toNat (af (instAC q1 q0) (↑x0:Int))) 0)] [DV.agg [CS ((pL q1 q0).Name),CL .bB (pL q1 q0).aw],DV.agg (aG (rX code)),VI (B7 code)])
 dsimp only
 have hs:=KJ code 20
 have h1:bm (rkC code):=Qz (Cr bo) _
 exact⟨bo,bo,Cr bo,by omega,h1.1,h1.2,by simp,aY _⟩
def kx:ka UU where
 α:=(List Int)
 md:=[.ro]
 of:=o1 (oL .byte)
 ds:=fun x=>[dL .byte x]
 pre:=fun _=>[]
 oe:=fun code=>⟨[dO true],[],[]⟩
 law:=l1 (lL .byte)
def jV(code:(List Int)):Int×T2×T0×Unit->Prop:=fun(i,b,p,_)=>b=((pL (iA code) (kr code 20)).Name,(pL (iA code) (kr code 20)).aw,())/\instT p=gJ (rX code) (B7 code)/\0<=i/\i<=(gJ (rX code) (B7 code)).ap.length
def jj(code:(List Int)):Int×T2×T0×Unit->Nat:=fun(i,b,p,_)=>(gJ (rX code) (B7 code)).ap.length-i.toNat
def zp:kx.α->Nat->Option (sS UU):=fun code=>bS [(11,aT [iI 10,.box 3 (3,1024) [.lit .str,.shr .bB],.box 6 (6,1024) [.own .aJ true,.lit (.int .i64),.own .aB true,.own .az true,.own .aE true,.own .aQ true,.lit (.int .i64),.lit (.int .i64)]] (fun _=>jV code) (jj code))]
def xZ:=us [Zh4,Zh5,Zh6,Zh7,Zh8,Zh9,aju,W0,ajj]
theorem Aq:Holds EE (3,kx):=by
 refine holds_of pD func3 kx (by kernel_rfl) xZ (uQ _) zp (fun(code:(List Int)) hp hb=> ?_)
 have Iv:code.length<=9223372036854775807:=kG (hb _ m0)
 clear hp hb
 apply vE (let x1:=pL (iA code) (kr code 20);let x0:=(er {Name:=x1.Name,aw:=x1.aw:br} {S:={ab:=(rX code).S.ab,Next:=(rX code).S.Next:aD},aA:=(rX code).aA,aj:=(rX code).aj,ap:=(rX code).ap,ax:=(rX code).ax,State:=(rX code).State,cd:=(rX code).cd:aq} (B7 code)).1.S;let q0:=er {Name:=x1.Name,aw:=x1.aw:br} {S:={ab:=(rX code).S.ab,Next:=(rX code).S.Next:aD},aA:=(rX code).aA,aj:=(rX code).aj,ap:=(rX code).ap,ax:=(rX code).ax,State:=(rX code).State,cd:=(rX code).cd:aq} (B7 code);let q1:=bif (↑(List.length q0.2):Int)==0 then Lb (decide (rX code=q0.1)) true else Lb false true;let q2:=Lb false true;bif decide (code.length>1048576) then Lb true true else L4 code.length/\cE x1<=4294967295/\cU (rX code)<=4294967295/\cE x1<=4294967295/\cU (rX code)<=4294967295/\bif !decide (q0.1=q0.1) then q2 else bif !decide (q0.2=q0.2) then q2 else cE x1<=4294967295/\bV (rX code).S.ab<=4294967296/\bif !instOk x1 (rX code) then q1 else bif decide ((rX code).State=2\/(rX code).State=4\/(rX code).State=6) then q1 else bif decide (B7 code<(rX code).cd) then q1 else bif decide (B7 code>1000000000) then q1 else jV code (0,(x1.Name,x1.aw,()),(x0.ab,x0.Next,q0.1.aA,q0.1.aj,q0.1.ap,q0.1.ax,q0.1.State,q0.1.cd,()),())/\∀(y:Int×T9×T10×PUnit),let x2:=(List.getD y.2.2.1.2.2.2.2.1 y.1.toNat cC).At;let x4:=y.2.2.1.2.2.2.2.1.length;let x3:=(↑x4:Int);let q3:=bif y.2.2.1.2.2.2.2.2.2.2.1==B7 code then cE {Name:=y.2.1.1,aw:=y.2.1.2.1:br}<=4294967295/\L4 (bV y.2.2.1.1)/\Lb (instOk {Name:=y.2.1.1,aw:=y.2.1.2.1:br} {S:={ab:=y.2.2.1.1,Next:=y.2.2.1.2.1:aD},aA:=y.2.2.1.2.2.1,aj:=y.2.2.1.2.2.2.1,ap:=y.2.2.1.2.2.2.2.1,ax:=y.2.2.1.2.2.2.2.2.1,State:=y.2.2.1.2.2.2.2.2.2.1,cd:=y.2.2.1.2.2.2.2.2.2.2.1:aq}) true else q2;let q4:=(wrap i64 (y.1+1),(y.2.1.1,y.2.1.2.1,()),(y.2.2.1.1,y.2.2.1.2.1,y.2.2.1.2.2.1,y.2.2.1.2.2.2.1,y.2.2.1.2.2.2.2.1,y.2.2.1.2.2.2.2.2.1,y.2.2.1.2.2.2.2.2.2.1,y.2.2.1.2.2.2.2.2.2.2.1,()),());jV code y->bif decide (y.1<x3) then bif y.2.2.1.2.2.2.2.2.2.1==1 then 0<=y.1/\y.1.toNat<x4/\y.1.toNat<x4/\bif decide (x2<=B7 code) then q2 else jV code q4/\jj code q4<jj code y else q3 else q3)
 dsimp only
 refine ae (fun h=>aY _) (fun h=> ?_)
 have aqx:=yF h
 have hl:code.length<=4294967296:=by omega
 have hs:=KJ code 20
 have h1:=Qq (Cr hl) (kr code 20)
 have h2:cU (rX code)<=_:=instA_size (m:=kr code 20) (Cr hl) (by omega)
 have hz:=h2
 simp only[cU,jr] at hz
 refine⟨hl,by omega,by omega,by omega,by omega,bx (fun h=>absurd rfl (yF h)) (fun _=>bx (fun h=>absurd rfl (yF h)) (fun _=>⟨by omega,by omega,?_⟩))⟩
 have no:lu (pL (iA code) (kr code 20)) (rX code) (B7 code)=false->er (pL (iA code) (kr code 20)) (rX code) (B7 code)=(rX code,[]):=HV
 refine bx (fun h3=> ?_) (fun h3=>aR (fun h4=> ?_) (fun h4=>aR (fun h5=> ?_) (fun h5=>aR (fun h6=> ?_) (fun h6=> ?_))))
 ·rw[no (by rw[lu,show instOk _ _=false from h3];rfl)]
  exact bg (fun _=>cg (decide_eq_true rfl)) (fun g=>absurd rfl g)
 ·rw[no (by rw[lu,decide_eq_true h4];simp)]
  exact bg (fun _=>cg (decide_eq_true rfl)) (fun g=>absurd rfl g)
 ·rw[no (by rw[lu,decide_eq_false (p:=(rX code).cd<=B7 code/\B7 code<=1000000000) (by omega)];simp)]
  exact bg (fun _=>cg (decide_eq_true rfl)) (fun g=>absurd rfl g)
 ·rw[no (by rw[lu,decide_eq_false (p:=(rX code).cd<=B7 code/\B7 code<=1000000000) (by omega)];simp)]
  exact bg (fun _=>cg (decide_eq_true rfl)) (fun g=>absurd rfl g)
 have hX:=pO.1 h3
 have hN:=hX.now.1
 have e:er (pL (iA code) (kr code 20)) (rX code) (B7 code)=_:=Eh h3 h4 (by omega)
 have hR:=EA hX (now:=B7 code) (by omega) (by omega)
 have hY:=EB hR.tocoreX
 simp only[cU,jr] at hY
 have hT:=(sW hR.tocoreX.timers).1
 rw[e]
 refine⟨⟨rfl,rfl,by omega,by omega⟩,?_⟩
 rintro⟨i,b,p,⟨⟩⟩
 dsimp only
 rintro⟨hb,hp,i0,i1⟩
 subst hb
 have eT:p.2.2.2.2.1=(gJ (rX code) (B7 code)).ap:=congrArg aq.ap hp
 have eS:p.2.2.2.2.2.2.1=(gJ (rX code) (B7 code)).State:=congrArg aq.State hp
 have eN:p.2.2.2.2.2.2.2.1=B7 code:=(congrArg aq.cd hp).trans (Ld _ _)
 have eI:p.1=(gJ (rX code) (B7 code)).S.ab:=congrArg (fun y=>y.S.ab) hp
 have eO:instOk (pL (iA code) (kr code 20)) (instT p)=true:=(congrArg (instOk _) hp).trans (pO.2 hR)
 have i0:0<=i:=i0
 have i1:i<=((gJ (rX code) (B7 code)).ap.length:Int):=i1
 refine ae (fun hc=> ?_) (fun hc=> ?_)
 ·have hc:=yT hc
  have gy:i.toNat<p.2.2.2.2.1.length:=by omega
  refine bg (fun hS=>⟨i0,gy,gy,ae (fun g=> ?_) (fun g=> ?_)⟩) (fun hS=> ?_)
  ·have g:=yT g
   refine absurd g (Ky (eS.symm.trans hS) _ ?_)
   rw[eT] at gy⊢
   rw[eV,fE gy];exact D5 _
  ·rw[eT] at gy
   rw[wi]
   exact⟨⟨rfl,hp,by omega,by omega⟩,by simp only[jj];omega⟩
  ·exact bg (fun _=>⟨by exact uN h1 (by omega),by rw[eI];omega,cg eO⟩) (fun g=>absurd eN g)
 ·exact bg (fun _=>⟨by exact uN h1 (by omega),by rw[eI];omega,cg eO⟩) (fun g=>absurd eN g)
end
end AM
