/- Functions of the program with their contracts: put together by gen/link.py for FnTold. -/
import Derived.Test.YtjlajhgabffmpaaGreatQAmLib
import Derived.Test.YtjlajhgabffmpaaGreatQFTold3
import Derived.Lib.ItoaLen
import Derived.Lib.Join
namespace AM
open Go Go.Proofs.Tryz Go.IntKind
set_option linter.unusedVariables false
set_option linter.unusedSimpArgs false
set_option maxRecDepth 100000
noncomputable section
def TL:=aad 6 0 (α:=aF×Int) (qC (qX .c_) (q1 qI)) [.box true,.ro] (fun(s,id)=>[s.ab.length<=1000]) (fun(s,id)=>⟨[dO (decide ((uF s id).ab.length<s.ab.length))],[],[dX .c_ (uF s id)]⟩)
def zh(s:aF)(id:Int):List bL×Int×((List bL×(Nat->Bool))×Int×Value×Value×Value×Value×Value×Value×Unit)×Unit->List bL×Int×((List bL×(Nat->Bool))×Int×Value×Value×Value×Value×Value×Value×Unit)×Unit->Prop:=fun(o0,i0,p0,_) (o,i,p,_)=>p.1.1=s.ab/\p.2.1=s.Next/\p.2.2=p0.2.2/\0<=i/\i<=s.ab.length/\(∀j:Nat,i<=(j:Int)->p.1.2 j=false)/\o=(s.ab.take i.toNat).filter (pD id)
def tw(s:aF)(id:Int):List bL×Int×((List bL×(Nat->Bool))×Int×Value×Value×Value×Value×Value×Value×Unit)×Unit->Nat:=fun(o,i,p,_)=>s.ab.length-i.toNat
def ai4:AX TL:=fun(s,id)=>bW [(3,aU [iO 5 .aH,iI 6,.box 0 (2000000,0) [.part .aH,.lit (.int .i64),.lit .any,.lit .any,.lit .any,.lit .any,.lit .any,.lit .any]] (zh s id) (tw s id))]
def aev:List (FuncId×kz UU):=[]
theorem aeC:Holds EE (141,TL):=by
 refine zS qZ func141 TL (by kernel_rfl) rfl aev all_nil ai4 (fun x hp hb rest lG=> ?_)
 obtain⟨s,id⟩:=x
 have eQ:=nJ (x:=s) (hb _ m0)
 have Oi:=tg (n:=id) (hb _ m1)
 have bo:s.ab.length<=1000:=hp _ m0
 clear hp hb
 have lG:rest.length=6:=lG
 match rest,lG with
 |[r0,r1,r2,r3,r4,r5],_=>
 apply vE (zh s id ([],0,((s.ab,fun(x:Nat)=>false),s.Next,r0,r1,r2,r3,r4,r5,()),()) ([],0,((s.ab,fun(x:Nat)=>false),s.Next,r0,r1,r2,r3,r4,r5,()),())/\∀(y:List bL×Int×((List bL×(Nat->Bool))×Int×Value×Value×Value×Value×Value×Value×PUnit)×PUnit),let x1:=y.2.1.toNat;let x3:=y.2.2.1.1.1.getD x1 aX;let x4:=y.2.2.1.1.1.length;let x5:=wrap i64 (y.2.1+1);let x0:=(↑x4:Int);let x2:=[x3];let q0:=(y.1,x5,((y.2.2.1.1.1,y.2.2.1.1.2),y.2.2.1.2.1,y.2.2.1.2.2.1,y.2.2.1.2.2.2.1,y.2.2.1.2.2.2.2.1,y.2.2.1.2.2.2.2.2.1,y.2.2.1.2.2.2.2.2.2.1,y.2.2.1.2.2.2.2.2.2.2.1,()),());zh s id ([],0,((s.ab,fun(x:Nat)=>false),s.Next,r0,r1,r2,r3,r4,r5,()),()) y->bif decide (y.2.1<x0) then 0<=y.2.1/\x1<x4/\x1<x4/\y.2.2.1.1.2 x1=false/\bif x3.Id !=id then 0<=y.2.1/\x1<x4/\x1<x4/\y.2.2.1.1.2 x1=false/\L4 (y.1.length+x2.length)/\zh s id ([],0,((s.ab,fun(x:Nat)=>false),s.Next,r0,r1,r2,r3,r4,r5,()),()) (y.1++x2,x5,((y.2.2.1.1.1,fun(j:Nat)=>Nat.beq j x1||y.2.2.1.1.2 j),y.2.2.1.2.1,y.2.2.1.2.2.1,y.2.2.1.2.2.2.1,y.2.2.1.2.2.2.2.1,y.2.2.1.2.2.2.2.2.1,y.2.2.1.2.2.2.2.2.2.1,y.2.2.1.2.2.2.2.2.2.2.1,()),())/\tw s id (y.1++x2,x5,((y.2.2.1.1.1,fun(j:Nat)=>Nat.beq j x1||y.2.2.1.1.2 j),y.2.2.1.2.1,y.2.2.1.2.2.1,y.2.2.1.2.2.2.1,y.2.2.1.2.2.2.2.1,y.2.2.1.2.2.2.2.2.1,y.2.2.1.2.2.2.2.2.2.1,y.2.2.1.2.2.2.2.2.2.2.1,()),())<tw s id y else zh s id ([],0,((s.ab,fun(x:Nat)=>false),s.Next,r0,r1,r2,r3,r4,r5,()),()) q0/\tw s id q0<tw s id y else List.length (α:=AC UU) [AC.c (Cell.lit y.2.2.1.2.2.1),AC.c (Cell.lit y.2.2.1.2.2.2.1),AC.c (Cell.lit y.2.2.1.2.2.2.2.1),AC.c (Cell.lit y.2.2.1.2.2.2.2.2.1),AC.c (Cell.lit y.2.2.1.2.2.2.2.2.2.1),AC.c (Cell.lit y.2.2.1.2.2.2.2.2.2.2.1)]=List.length [r0,r1,r2,r3,r4,r5]/\[AC.c (Cell.lit y.2.2.1.2.2.1),AC.c (Cell.lit y.2.2.1.2.2.2.1),AC.c (Cell.lit y.2.2.1.2.2.2.2.1),AC.c (Cell.lit y.2.2.1.2.2.2.2.2.1),AC.c (Cell.lit y.2.2.1.2.2.2.2.2.2.1),AC.c (Cell.lit y.2.2.1.2.2.2.2.2.2.2.1)]=List.map (fun(v:Value)=>(AC.c (Cell.lit v):AC UU)) [r0,r1,r2,r3,r4,r5]/\dZ [VB (decide ((y.1.length:Int)<x0))]=dZ [VB (decide ((uF s id).ab.length<s.ab.length))]/\dZ [DV.box [CL .aH y.1,CI y.2.2.1.2.1]]=dZ [DV.box [CL .aH (uF s id).ab,CI ((uF s id).Next)]])
 dsimp only
 refine⟨⟨rfl,rfl,rfl,by omega,by omega,fun _ _=>rfl,by simp⟩,?_⟩
 rintro⟨o,i,⟨⟨xs,dd⟩,nx,s0,s1,s2,s3,s4,s5,⟨⟩⟩,⟨⟩⟩ ⟨hx,hn,hr,h1,h2,hd,ho⟩
 simp only at hx hn hr h1 h2 hd ho⊢
 cases hr
 subst hx hn ho
 refine aQ ?_ ?_<;>intro hc
 ·have hs:=mn (pD id) (l:=s.ab) (i:=i.toNat) aX (by omega)
  have e:(i+1).toNat=i.toNat+1:=by omega
  have Xe:=hd i.toNat (by omega)
  have hle:((s.ab.take i.toNat).filter (pD id)).length<=(s.ab.take i.toNat).length:=Mq _ _
  rw[oz] at hle
  rw[wi]
  refine⟨h1,by omega,by omega,Xe,mh (fun g=>⟨h1,by omega,by omega,Xe,by simp only[fY,fG];omega,⟨rfl,rfl,rfl,by omega,by omega,Am h1 hd,?_⟩,by simp only[tw];omega⟩) (fun g=>⟨⟨rfl,rfl,rfl,by omega,by omega,fun j hj=>hd j (by omega),?_⟩,by simp only[tw];omega⟩)⟩
  ·rw[e,hs,if_pos (show pD id (s.ab.getD i.toNat aX)=true by rw[pD,decide_eq_false g];rfl)]
  ·rw[e,hs,if_neg (show¬pD id (s.ab.getD i.toNat aX)=true by rw[pD,decide_eq_true g];decide),xr]
 ·rw[cM s.ab (by omega)]
  have e:decide (((s.ab.filter (pD id)).length:Int)<(s.ab.length:Int))=decide ((uF s id).ab.length<s.ab.length):=by rw[decide_eq_decide];simp only[uF];omega
  rw[e]
  repeat' (first|exact rfl|trivial|refine And.intro (by first|rfl|trivial) ?_)
def ahT:HH:=⟨_,aeC⟩
abbrev TI:=List bL×Int×List au×List ak×List aK×List bj×Int×Int×Unit
def instT(p:TI):aq:=⟨⟨p.1,p.2.1⟩,p.2.2.1,p.2.2.2.1,p.2.2.2.2.1,p.2.2.2.2.2.1,p.2.2.2.2.2.2.1,p.2.2.2.2.2.2.2.1⟩
def Hx(x:aq):TI:=(x.S.ab,x.S.Next,x.aC,x.ap,x.ax,x.ay,x.State,x.cJ,())
def KG(x:aq):Prop:=∃d,cU d x
theorem uy{d:bp}{x:aq}(h:cU d x):KG x:=⟨d,h⟩
theorem Ql{d:bp}{x:aq}(h:coreX d x):x.aC.length<=4294967295/\∀m∈x.aC,m.eH.length<=4294967295/\m.bu.length<=4294967295:=by
 refine⟨by have:=h.Lq;omega,fun m hm=> ?_⟩
 obtain⟨h1,h2⟩:=GN h.pS (h.bS m hm)
 rw[h2];exact⟨by omega,by simp⟩
theorem Lx{e:cX}(h:ez e=true)(hk:e.Kind=1\/e.Kind=3\/e.Kind=4):bw e.F=true:=by
 simp only[ez] at h
 rcases hk with hk|hk|hk
 ·simp only[hk,decide_true,cond_true,cO] at h;exact h.1.1.1
 ·simp only[hk,show decide ((3:Int)=1)=false from rfl,show decide ((3:Int)=2)=false from rfl,decide_true,cond_true,cond_false,cO] at h;exact h.1.1.1
 ·simp only[hk,show decide ((4:Int)=1)=false from rfl,show decide ((4:Int)=2)=false from rfl,show decide ((4:Int)=3)=false from rfl,decide_true,cond_true,cond_false,cO] at h;exact h.1.1.1
theorem S8{e:cX}(h:ez e=true):0<=e.N/\e.N<=100000:=by
 simp only[ez] at h
 by_cases h1:e.Kind=1
 ·simp only[h1,decide_true,cond_true,cO,decide_eq_true_eq] at h;omega
 by_cases h2:e.Kind=2
 ·simp only[h2,show decide ((2:Int)=1)=false from rfl,decide_true,cond_true,cond_false,cO,decide_eq_true_eq] at h;omega
 by_cases h3:e.Kind=3
 ·simp only[h3,show decide ((3:Int)=1)=false from rfl,show decide ((3:Int)=2)=false from rfl,decide_true,cond_true,cond_false,cO,decide_eq_true_eq] at h;omega
 by_cases h4:e.Kind=4
 ·simp only[h4,show decide ((4:Int)=1)=false from rfl,show decide ((4:Int)=2)=false from rfl,show decide ((4:Int)=3)=false from rfl,decide_true,cond_true,cond_false,cO,decide_eq_true_eq] at h;omega
 ·simp only[h1,h2,h3,h4,decide_false,cond_false] at h
  cases hc:(decide (e.Kind=5)||decide (e.Kind=6))<;>rw[hc] at h
  ·cases h
  ·simp only[cond_true,cO,decide_eq_true_eq] at h;omega
theorem yu{l:List cX}{x:aq}{i:Int}(h0:0<=i)(h:i<l.length):j8 (l.drop i.toNat) x=if x.State=1 then j8 (l.drop (i+1).toNat) (hZ x (l.getD i.toNat vi)) else x:=by
 have e:(i+1).toNat=i.toNat+1:=by omega
 rw[Uj (by omega),j8,e,eX,fH (by omega)];rfl
def afV:=cj (α:=aq×cX) (qC (qX .ct) (q1 (qA .eD))) [.box true,.ro] (fun(x,e)=>[KG x,ez e=true]) (fun(x,e)=>⟨[],[],[dX .ct (hZ x e)]⟩)
def aht:HH:=hF afV func180 [QI,ahT,ag6,TW,ag5,YA,TN] a0 fun x hp hb=>by
 obtain⟨x,e⟩:=x
 have aS:=fe (x:=x) (hb _ m0)
 have bC:=aS.1
 have cg:=aS.2.1
 have cf:=aS.2.2.1
 have bN:=aS.2.2.2.1
 have cd:=aS.2.2.2.2
 have dw:=Fi (x:=e) (hb _ m1)
 have K4:=dw.1
 have Gc:=dw.2.1
 have PX:=dw.2.2
 have bo:KG x:=hp _ m0
 have fw:ez e=true:=hp _ m1
 clear hp hb
 apply vE (let x3:={S:=x.S,aC:=x.aC,ap:=(fI {τ:=Cd.az,xs:=x.ap:jh UU}.xs {Kind:=e.F.Kind,ah:=e.F.ah:aJ} e.aR x.cJ).1,ax:=x.ax,ay:=x.ay,State:=x.State,cJ:=x.cJ:aq};let x6:=wrap i64 (x.cJ+e.N);let x7:={S:=x.S,aC:=x.aC,ap:=x.ap,ax:=rv x.ax {At:=(1000000000:Int),F:=e.F:aK},ay:=x.ay,State:=x.State,cJ:=x.cJ:aq};let x8:={ab:={τ:=Cd.aH,xs:=x.S.ab:jh UU}.xs,Next:=x.S.Next:aF};let x0:=gK x3 3;let x2:=gK x7 3;let x5:={At:=x6,F:=e.F:aK};let x4:={S:=x.S,aC:=x.aC,ap:=x.ap,ax:=rv x.ax x5,ay:=x.ay,State:=x.State,cJ:=x.cJ:aq};let x1:=gK x4 3;let q0:=aA (hZ x e);let q1:=fI {τ:=Cd.az,xs:=x.ap:jh UU}.xs {Kind:=e.F.Kind,ah:=e.F.ah:aJ} e.aR x.cJ;let q2:=(3:Int)=(3:Int)\/(3:Int)=(5:Int);let q3:=uF x.S e.Id;bif e.Kind==1 then cW x/\br x.S=true/\L4 e.F.ah.length/\LM [] [] [DV.box (aA (du x e.F))] [DV.box q0] else bif e.Kind==2 then x.S.ab.length<=1000/\bif decide (q3.ab.length<x.S.ab.length) then x.aC.length<=4294967295/\(∀(m:au),m∈x.aC->m.eH.length<=4294967295/\m.bu.length<=4294967295)/\LM [] [] [DV.box [CL .aH q3.ab,CI (q3.Next),CL .aB (yh x.aC e.Id),CL .az x.ap,CL .aI x.ax,CL .aW x.ay,CI x.State,CI x.cJ]] [DV.box q0] else LM [] [] [DV.box [CL .aH q3.ab,CI (q3.Next),CL .aB x.aC,CL .az x.ap,CL .aI x.ax,CL .aW x.ay,CI x.State,CI x.cJ]] [DV.box q0] else bif e.Kind==3 then L4 e.F.ah.length/\bif !q1.2 then cW x3/\q2/\LM [] [] [DV.box (aA x0)] [DV.box q0] else LM [] [] [DV.box [CL .aH x.S.ab,CI x.S.Next,CL .aB x.aC,CL .az q1.1,CL .aI x.ax,CL .aW x.ay,CI x.State,CI x.cJ]] [DV.box q0] else bif e.Kind==4 then bif decide (x6>1000000000) then L4 (cY x.ax)/\ie {At:=(1000000000:Int),F:=e.F:aK}<=4294967296/\bif !mX x.ax {At:=(1000000000:Int),F:=e.F:aK} then cW x7/\q2/\LM [] [] [DV.box (aA x2)] [DV.box q0] else LM [] [] [DV.box [CL .aH x.S.ab,CI x.S.Next,CL .aB x.aC,CL .az x.ap,CL .aI (rv x.ax {At:=(1000000000:Int),F:=e.F:aK}),CL .aW x.ay,CI x.State,CI x.cJ]] [DV.box q0] else L4 (cY x.ax)/\L4 (ie x5)/\bif !mX x.ax x5 then cW x4/\q2/\LM [] [] [DV.box (aA x1)] [DV.box q0] else LM [] [] [DV.box [CL .aH x.S.ab,CI x.S.Next,CL .aB x.aC,CL .az x.ap,CL .aI (rv x.ax x5),CL .aW x.ay,CI x.State,CI x.cJ]] [DV.box q0] else bif e.Kind==5 then aT x.ap=true/\LM [] [] [DV.box (aA (rq x 2))] [DV.box q0] else cW x/\q2/\LM [] [] [DV.box (aA (gK x 3))] [DV.box q0])
 dsimp only
 obtain⟨d,hX⟩:=bo
 have hg:=hX.good
 have hf:=Lx fw
 have hN:=S8 fw
 have Qc:=Ql hX.tocoreX
 have h40:=(jH hX.store).2.2.1
 have adL:=hX.now
 have hS:(⟨x.S.ab,x.S.Next⟩:aF)=x.S:=rfl
 have hF:(⟨e.F.Kind,e.F.ah⟩:aJ)=e.F:=rfl
 simp only[hS,hF]
 refine bi (fun k=> ?_) (fun k1=>bi (fun k=> ?_) (fun k2=>bi (fun k=> ?_) (fun k3=>bi (fun k=> ?_) (fun k4=>bi (fun k=> ?_) (fun k5=> ?_)))))
 ·have e1:hZ x e=du x e.F:=if_pos k
  exact⟨hg,hX.store,by have:=(o7 (hf (.inl k))).1;omega,by trivial,by trivial,nB e1.symm⟩
 ·have e1:hZ x e=Hb x e.Id:=(if_neg k1).trans (if_pos k)
  refine⟨by omega,aQ (fun g=>⟨Qc.1,Qc.2,by trivial,by trivial,nB (a:=DE (tK x (uF x.S e.Id)) (yh x.aC e.Id)) (e1.trans (if_pos g)).symm⟩) (fun g=>⟨by trivial,by trivial,nB (a:=tK x (uF x.S e.Id)) (e1.trans (if_neg g)).symm⟩)⟩
 ·have e1:hZ x e=NV x e:=(if_neg k1).trans ((if_neg k2).trans (if_pos k))
  have hu:fB e.aR=true:=by
   simp only[ez,k,show decide ((3:Int)=1)=false from rfl,show decide ((3:Int)=2)=false from rfl,decide_true,cond_true,cond_false,cO] at fw;exact fw.2
  have hT:aT (fI x.ap e.F e.aR x.cJ).1=true:=nQ hX.jG (hf (.inr (.inl k))) hu adL.1 (by omega)
  refine⟨by have:=(o7 (hf (.inr (.inl k)))).1;omega,bE (fun g=>⟨⟨hT,hg.2⟩,.inl trivial,by trivial,by trivial,nB (e1.trans (if_neg (by rw[show(fI x.ap e.F e.aR x.cJ).2=false from g];decide))).symm⟩) (fun g=>⟨by trivial,by trivial,nB (a:=qn x (fI x.ap e.F e.aR x.cJ).1) (e1.trans (if_pos g)).symm⟩)⟩
 ·have e1:hZ x e=Hy x e:=(if_neg k1).trans ((if_neg k2).trans ((if_neg k3).trans (if_pos k)))
  have hfx:=(o7 (hf (.inr (.inr k)))).2
  have hts:=(BF hX.timers).2
  rw[wi (n:=x.cJ+e.N)]
  have key:∀t:aK,uj x e=t->t.F=e.F->cY x.ax<=4294967296/\ie t<=4294967296/\bif !mX x.ax t then cW ⟨x.S,x.aC,x.ap,rv x.ax t,x.ay,x.State,x.cJ⟩/\(True\/(3:Int)=5)/\LM [] [] [DV.box (aA (gK ⟨x.S,x.aC,x.ap,rv x.ax t,x.ay,x.State,x.cJ⟩ 3))] [DV.box (aA (hZ x e))] else LM [] [] [DV.box (aA (NQ x (rv x.ax t)))] [DV.box (aA (hZ x e))]:=by
   rintro t rfl wj
   refine⟨by omega,by simp only[ie,wj];omega,bE (fun g=>⟨hg,.inl trivial,by trivial,by trivial,nB (e1.trans (if_neg (by rw[show mX x.ax (uj x e)=false from g];decide))).symm⟩) (fun g=>⟨by trivial,by trivial,nB (e1.trans (if_pos g)).symm⟩)⟩
  refine aQ ?_ ?_<;>intro g
  ·exact key ⟨1000000000,e.F⟩ (by unfold uj;rw[if_pos (by omega)]) rfl
  ·exact key ⟨x.cJ+e.N,e.F⟩ (by unfold uj;rw[if_neg (by omega)]) rfl
 ·have e1:hZ x e=rq x 2:=(if_neg k1).trans ((if_neg k2).trans ((if_neg k3).trans ((if_neg k4).trans (if_pos k))))
  rw[e1]
  repeat' (first|exact hX.jG|exact rfl|trivial|refine And.intro (by first|exact hX.jG|rfl|trivial) ?_)
 ·have e1:hZ x e=gK x 3:=(if_neg k1).trans ((if_neg k2).trans ((if_neg k3).trans ((if_neg k4).trans (if_neg k5))))
  rw[e1]
  exact⟨hg,.inl trivial,by trivial,by trivial,rfl⟩
def X9:=cj (α:=bp×aq×au) (qC (qA .h_) (qC (qX .ct) (q1 (qA .aB)))) [.ro,.box true,.ro] (fun(d,x,m)=>[cU d x,x.State=1,yf x.S.ab m,m.eH.length<=4294967295]) (fun(d,x,m)=>⟨[],[],[dX .ct (pN d x m)]⟩)
def zj(d:bp)(x:aq)(m:au):Int×List cX×T0×Unit->Prop:=fun(i,l,p,_)=>l=na d m/\0<=i/\i<=l.length/\cU d (instT p)/\j8 ((na d m).drop i.toNat) (instT p)=pN d x m
def y4(d:bp)(x:aq)(m:au):Int×List cX×T0×Unit->Nat:=fun(i,l,p,_)=>l.length-i.toNat
def ai5:AX X9:=fun(d,x,m)=>bW [(6,aU [iI 8,iO 6 .eD,.box 1 (2000001,0) [.own .aH true,.lit (.int .i64),.own .aB true,.own .az true,.own .aI true,.own .aW true,.lit (.int .i64),.lit (.int .i64)]] (fun _=>zj d x m) (y4 d x m))]
def ahW:HH:=hF X9 func137 [ahu,TN,aht] ai5 fun x hp hb=>by
 obtain⟨d,x,m⟩:=x
 have aS:=gI (x:=d) (hb _ m0)
 have e_:=aS.1
 have ew:=aS.2
 have dw:=fe (x:=x) (hb _ m1)
 have bC:=dw.1
 have cg:=dw.2.1
 have cf:=dw.2.2.1
 have bN:=dw.2.2.2.1
 have cd:=dw.2.2.2.2
 have sM:=gQ (x:=m) (hb _ m2)
 have pJ:=sM.1
 have mi:=sM.2
 have bo:cU d x:=hp _ m0
 have fw:x.State=1:=hp _ m1
 have JW:yf x.S.ab m:=hp _ m2
 have hp3:m.eH.length<=4294967295:=hp _ m3
 clear hp hb
 apply vE (let x0:=[{cL:=m.cL,eH:=[]++m.eH,bu:=[]:au}];let q0:=cW x/\((3:Int)=(3:Int)\/(3:Int)=(5:Int))/\LM [] [] [DV.box (aA (gK x 3))] [DV.box (aA (pN d x m))];cG d<=4294967295/\bif !lM d m then q0 else bif decide ((x.aC.length:Int)≥1000) then q0 else 0+m.eH.length<=4294967296/\L4 (x.aC.length+x0.length)/\zj d x m (0,na d m,(x.S.ab,x.S.Next,x.aC++x0,x.ap,x.ax,x.ay,x.State,x.cJ,()),())/\∀(y:Int×List cX×T14×PUnit),let x2:={S:={ab:=y.2.2.1.1,Next:=y.2.2.1.2.1:aF},aC:=y.2.2.1.2.2.1,ap:=y.2.2.1.2.2.2.1,ax:=y.2.2.1.2.2.2.2.1,ay:=y.2.2.1.2.2.2.2.2.1,State:=y.2.2.1.2.2.2.2.2.2.1,cJ:=y.2.2.1.2.2.2.2.2.2.2.1:aq};let x3:=y.2.1.getD y.1.toNat vi;let x5:=y.2.1.length;let x1:=hZ x2 x3;let x4:=(↑x5:Int);let q1:=LM [] [] [DV.box [CL .aH y.2.2.1.1,CI y.2.2.1.2.1,CL .aB y.2.2.1.2.2.1,CL .az y.2.2.1.2.2.2.1,CL .aI y.2.2.1.2.2.2.2.1,CL .aW y.2.2.1.2.2.2.2.2.1,CI y.2.2.1.2.2.2.2.2.2.1,CI y.2.2.1.2.2.2.2.2.2.2.1]] [DV.box (aA (pN d x m))];let q2:=(wrap i64 (y.1+1),y.2.1,(x1.S.ab,x1.S.Next,x1.aC,x1.ap,x1.ax,x1.ay,x1.State,x1.cJ,()),());zj d x m y->bif decide (y.1<x4) then bif y.2.2.1.2.2.2.2.2.2.1==1 then 0<=y.1/\y.1.toNat<x5/\y.1.toNat<x5/\y.1.toNat<x5/\KG x2/\ez x3=true/\zj d x m q2/\y4 d x m q2<y4 d x m y else q1 else q1)
 dsimp only
 have hz:=aee bo.pS
 have hg:=bo.good
 refine⟨by omega,bE (fun h=> ?_) (fun h=>aQ (fun g=> ?_) (fun g=> ?_))⟩
 ·have e1:pN d x m=gK x 3:=if_neg (fun c=>by rw[show lM d m=false from h] at c;exact absurd c.1 (by decide))
  rw[e1];exact⟨hg,.inl rfl,rfl,rfl,rfl⟩
 ·have e1:pN d x m=gK x 3:=if_neg (fun c=>by have:=c.2;omega)
  rw[e1];exact⟨hg,.inl rfl,rfl,rfl,rfl⟩
 ·have hf:lM d m=true:=h
  have e1:pN d x m=j8 (na d m) (Ik x m):=if_pos ⟨hf,by omega⟩
  have hR:=kL (E7 bo.tocoreX (by omega) hf JW) fw
  have h6:(na d m).length<=6:=by
   have hm:Ej d m=true:=by simp only[lM,cO] at hf;exact hf.1.2
   rw[na,if_pos hf,xp];exact(OQ bo.pS hm).1
  refine⟨by omega,by simp only[fY,fG];omega,⟨rfl,by omega,by omega,hR,e1.symm⟩,?_⟩
  clear e1 hR
  rintro⟨i,l,p,⟨⟩⟩ ⟨rfl,h1,h2,hX,hE⟩
  have h1:0<=i:=h1
  have h2:i<=(na d m).length:=h2
  have hX:cU d (instT p):=hX
  have hE:j8 ((na d m).drop i.toNat) (instT p)=pN d x m:=hE
  refine aQ (fun hc=>bi (fun hs=> ?_) (fun hs=> ?_)) (fun hc=> ?_)
  ·have hc:i<(na d m).length:=hc
   have hs:(instT p).State=1:=hs
   have hn:i.toNat<(na d m).length:=by omega
   have he:=Ov (d:=d) (m:=m) _ (gP (z:=vi) hn)
   rw[yu h1 hc,if_pos hs] at hE
   have fin:∀j,j=i+1->zj d x m (j,na d m,Hx (hZ (instT p) ((na d m).getD i.toNat vi)),())/\y4 d x m (j,na d m,Hx (hZ (instT p) ((na d m).getD i.toNat vi)),())<y4 d x m (i,na d m,p,()):=by
    rintro j rfl
    exact⟨⟨rfl,by omega,by omega,xJ hX.tocoreX hs he,hE⟩,by show(na d m).length-(i+1).toNat<(na d m).length-i.toNat;omega⟩
   exact⟨h1,hn,hn,hn,uy hX,he,fin _ (wi)⟩
  ·have hc:i<(na d m).length:=hc
   have hs:¬(instT p).State=1:=hs
   rw[yu h1 hc,if_neg hs] at hE
   exact⟨rfl,rfl,nB hE⟩
  ·have hc:¬i<(na d m).length:=hc
   rw[List.drop_eq_nil_of_le (by omega)] at hE
   exact⟨rfl,rfl,nB (a:=instT p) hE⟩
theorem KR{l:List aK}{x:aq}{i:Int}(h0:0<=i)(h:i<l.length):kN (l.drop i.toNat) x=if x.State=1 then kN (l.drop (i+1).toNat) (du x (l.getD i.toNat cS).F) else x:=by
 have e:(i+1).toNat=i.toNat+1:=by omega
 rw[Uj (by omega),kN,e,eX,fH (by omega)];rfl
theorem Bc{st:Int}{l:List aJ}{x:aq}{i:Int}(h0:0<=i)(h:i<l.length):gG st (l.drop i.toNat) x=if x.State=st then gG st (l.drop (i+1).toNat) (if st=1 then du x (t_ (l.getD i.toNat ui) bNo N_) else yd x) else x:=by
 have e:(i+1).toNat=i.toNat+1:=by omega
 rw[Uj (by omega),gG,e,eX,fH (by omega)];rfl
theorem M5{x:aq}{l:List aK}(h:¬x.State=1):kN l x=x:=by
 cases l with
 |nil=>rfl
 |cons t l=>rw[kN,if_neg h]
theorem Ns{st:Int}{x:aq}{l:List aJ}(h:¬x.State=st):gG st l x=x:=by
 cases l with
 |nil=>rfl
 |cons t l=>rw[gG,if_neg h]
def XK:=cj (α:=aq×(List BA)×(List aJ)) (qC (qX .ct) (qC (qL .str) (q1 (qL .dk)))) [.box true,.ro,.ro] (fun(x,failed,facts)=>[KG x,failed.length=facts.length,∀f∈facts,bq f.Kind=true,facts≠[]->x.State=1\/x.State=3\/x.State=5]) (fun(x,failed,facts)=>⟨[],[],[dX .ct (gG x.State facts x)]⟩)
def v8(x:aq)(failed:List BA)(facts:List aJ):Int×Int×T0×Unit->Prop:=fun(st,i,p,_)=>st=x.State/\0<=i/\i<=facts.length/\KG (instT p)/\gG x.State (facts.drop i.toNat) (instT p)=gG x.State facts x
def tp(x:aq)(failed:List BA)(facts:List aJ):Int×Int×T0×Unit->Nat:=fun(st,i,p,_)=>facts.length-i.toNat
def aiF:AX XK:=fun(x,failed,facts)=>bW [(2,aU [iI 6,iI 7,.box 0 (2000000,0) [.own .aH true,.lit (.int .i64),.own .aB true,.own .az true,.own .aI true,.own .aW true,.lit (.int .i64),.lit (.int .i64)]] (fun _=>v8 x failed facts) (tp x failed facts))]
def ahr:HH:=hF XK func183 [Ys,QI,Yr] aiF fun x hp hb=>by
 obtain⟨x,failed,facts⟩:=x
 have aS:=fe (x:=x) (hb _ m0)
 have bC:=aS.1
 have cg:=aS.2.1
 have cf:=aS.2.2.1
 have bN:=aS.2.2.2.1
 have cd:=aS.2.2.2.2
 have abz:L9 failed.length:=iv (hb _ m1)
 have adQ:L9 facts.length:=iv (hb _ m2)
 have bo:KG x:=hp _ m0
 have fw:failed.length=facts.length:=hp _ m1
 have JW:∀f∈facts,bq f.Kind=true:=hp _ m2
 have hp3:facts≠[]->x.State=1\/x.State=3\/x.State=5:=hp _ m3
 clear hp hb
 apply vE (let q0:=aA (gG x.State facts x);v8 x failed facts (x.State,0,(x.S.ab,x.S.Next,x.aC,x.ap,x.ax,x.ay,x.State,x.cJ,()),())/\∀(y:Int×Int×T14×PUnit),let x3:={ab:=y.2.2.1.1,Next:=y.2.2.1.2.1:aF};let x5:=wrap i64 (y.2.1+1);let x6:=y.2.1.toNat;let x2:={S:=x3,aC:=y.2.2.1.2.2.1,ap:=y.2.2.1.2.2.2.1,ax:=y.2.2.1.2.2.2.2.1,ay:=y.2.2.1.2.2.2.2.2.1,State:=y.2.2.1.2.2.2.2.2.2.1,cJ:=y.2.2.1.2.2.2.2.2.2.2.1:aq};let x4:=t_ (facts.getD x6 ui) {data:= #[(110:UInt8),(111:UInt8)]:BA} {K:=(1:Int),N:=(0:Int),S:={data:= #[]:BA}:a_};let x0:=du x2 x4;let x1:=yd x2;let q1:=LM [] [] [DV.box [CL .aH y.2.2.1.1,CI y.2.2.1.2.1,CL .aB y.2.2.1.2.2.1,CL .az y.2.2.1.2.2.2.1,CL .aI y.2.2.1.2.2.2.2.1,CL .aW y.2.2.1.2.2.2.2.2.1,CI y.2.2.1.2.2.2.2.2.2.1,CI y.2.2.1.2.2.2.2.2.2.2.1]] [DV.box q0];let q2:=(y.1,x5,(x0.S.ab,x0.S.Next,x0.aC,x0.ap,x0.ax,x0.ay,x0.State,x0.cJ,()),());let q3:=(y.1,x5,(x1.S.ab,x1.S.Next,x1.aC,x1.ap,x1.ax,x1.ay,x1.State,x1.cJ,()),());v8 x failed facts y->bif decide (y.2.1<(failed.length:Int)) then bif y.2.2.1.2.2.2.2.2.2.1==y.1 then bif y.1==1 then 0<=y.2.1/\x6<facts.length/\cW x2/\br x3=true/\L4 x4.ah.length/\v8 x failed facts q2/\tp x failed facts q2<tp x failed facts y else cW x2/\(y.2.2.1.2.2.2.2.2.2.1=3\/y.2.2.1.2.2.2.2.2.2.1=5)/\v8 x failed facts q3/\tp x failed facts q3<tp x failed facts y else q1 else q1)
 dsimp only
 obtain⟨d0,hX0⟩:=bo
 refine⟨⟨rfl,by omega,by omega,uy hX0,rfl⟩,?_⟩
 rintro⟨st,i,p,⟨⟩⟩ ⟨rfl,h1,h2,hX,hE⟩
 obtain⟨d,hX⟩:KG (instT p):=hX
 have h1:0<=i:=h1
 have h2:i<=facts.length:=h2
 have hE:gG x.State (facts.drop i.toNat) (instT p)=gG x.State facts x:=hE
 have nx:∀(z:aq)(j:Int),j=i+1->i<facts.length->KG z->gG x.State (facts.drop (i+1).toNat) z=gG x.State facts x->v8 x failed facts (x.State,j,Hx z,())/\tp x failed facts (x.State,j,Hx z,())<tp x failed facts (x.State,i,p,()):=by
  rintro z j rfl hi hz sM
  exact⟨⟨rfl,by omega,by omega,hz,sM⟩,by show facts.length-(i+1).toNat<facts.length-i.toNat;omega⟩
 refine aQ (fun hc=>bi (fun hs=>bi (fun g=> ?_) (fun g=> ?_)) (fun hs=> ?_)) (fun hc=> ?_)
 ·have hc:i<(failed.length:Int):=hc
  have hn:i.toNat<facts.length:=by omega
  have hs:(instT p).State=x.State:=hs
  have g:x.State=1:=g
  rw[Bc h1 (by omega),if_pos hs,if_pos g] at hE
  have hm:=w_ (w:=bNo) (v:=N_) (JW _ (gP (z:=ui) hn)) Tu KJ
  exact⟨h1,hn,hX.good,hX.store,by simp[t_],nx _ _ (wi (n:=i+1)) (by omega) ⟨d,iR hX.tocoreX (hs.trans g) hm⟩ hE⟩
 ·have hc:i<(failed.length:Int):=hc
  have hs:(instT p).State=x.State:=hs
  have g:¬x.State=1:=g
  rw[Bc h1 (by omega),if_pos hs,if_neg g] at hE
  have h3:=hp3 (by intro e;rw[e] at fw;simp only[fG] at fw;omega)
  have h35:(instT p).State=3\/(instT p).State=5:=by omega
  exact⟨hX.good,h35,nx _ _ (wi (n:=i+1)) (by omega) ⟨d,wQ hX.tocoreX h35⟩ hE⟩
 ·have hc:i<(failed.length:Int):=hc
  have hs:¬(instT p).State=x.State:=hs
  rw[Ns hs] at hE
  exact⟨rfl,rfl,nB hE⟩
 ·have hc:¬i<(failed.length:Int):=hc
  rw[List.drop_eq_nil_of_le (by omega)] at hE
  exact⟨rfl,rfl,nB (a:=instT p) hE⟩
def u_:=cj (α:=aq×Int) (qC (qX .ct) (q1 qI)) [.box true,.ro] (fun(x,now)=>[KG x,0<=now/\now<=1000000000]) (fun(x,now)=>⟨[dL .k8 (AL x now)],[],[dX .ct (nZ x now)]⟩)
def zi(x:aq)(now:Int):Int×List aK×T0×Unit->Prop:=fun(i,l,p,_)=>l=qi now x.ax/\0<=i/\i<=l.length/\KG (instT p)/\kN ((qi now x.ax).drop i.toNat) (instT p)=dR x now
def y3(x:aq)(now:Int):Int×List aK×T0×Unit->Nat:=fun(i,l,p,_)=>l.length-i.toNat
def ve(x:aq)(now:Int):Int×List p9×List BA×List aJ×T0×Unit->Prop:=fun(i,calls,failed,facts,p,_)=>calls=AL x now/\failed=jB (dR x now) now/\0<=i/\i<=failed.length/\facts=((jB (dR x now) now).take i.toNat).map (G1 (oZ (dR x now) now).ap)/\instT p=oZ (dR x now) now
def u7(x:aq)(now:Int):Int×List p9×List BA×List aJ×T0×Unit->Nat:=fun(i,calls,failed,facts,p,_)=>failed.length-i.toNat
def O0:AX u_:=fun(x,now)=>bW [(6,aU [iI 7,iO 5 .aI,.box 0 (2000000,0) [.own .aH true,.lit (.int .i64),.own .aB true,.own .az true,.own .aI true,.own .aW true,.lit (.int .i64),.lit (.int .i64)]] (fun _=>zi x now) (y3 x now)),(12,aU [iI 11,iO 8 .k8,iO 9 .str,iO 10 .dk,.box 0 (2000000,0) [.own .aH true,.lit (.int .i64),.own .aB true,.own .az true,.own .aI true,.own .aW true,.lit (.int .i64),.lit (.int .i64)]] (fun _=>ve x now) (u7 x now))]
def OT:=us [ahs,QI,YG,TV,sd,ahr]
def gA(x:aq)(now:Int):Int×T0×Unit->Prop:=fun(nw,p,_)=>nw=now/\instT p=dR x now
def kQ:u_.α->ud UU:=fun(x,now)=>aU [iI 1,.box 0 (2000000,0) [.own .aH true,.lit (.int .i64),.own .aB true,.own .az true,.own .aI true,.own .aW true,.lit (.int .i64),.lit (.int .i64)]] (fun _=>gA x now) (fun _=>0)
theorem aer(x:aq)(now:Int)(y:Int×T0×Unit):mO EE OT f138 u_ O0 (x,now) 9 (kQ (x,now)) y=(aT y.2.1.2.2.2.1=true/\
 ((0:Int)<=y.1/\y.1<=(1000000000:Int))/\
  ve x now ((0:Int),List.flatMap (o8 y.1) y.2.1.2.2.2.1,List.flatMap (lJ y.1) y.2.1.2.2.2.1,[],(y.2.1.1,y.2.1.2.1,y.2.1.2.2.1,y.2.1.2.2.2.1.map (f_ y.1),y.2.1.2.2.2.2.1,y.2.1.2.2.2.2.2.1,y.2.1.2.2.2.2.2.2.1,y.2.1.2.2.2.2.2.2.2.1,PUnit.unit),PUnit.unit)/\
   ∀(y:Int×List p9×List BA×List aJ×T14×PUnit),
    let x1:={S:={ab:=y.2.2.2.2.1.1,Next:=y.2.2.2.2.1.2.1:aF},aC:=y.2.2.2.2.1.2.2.1,ap:=y.2.2.2.2.1.2.2.2.1,ax:=y.2.2.2.2.1.2.2.2.2.1,ay:=y.2.2.2.2.1.2.2.2.2.2.1,State:=y.2.2.2.2.1.2.2.2.2.2.2.1,cJ:=y.2.2.2.2.1.2.2.2.2.2.2.2.1:aq};
    let x5:=aZ y.2.2.2.2.1.2.2.2.1 (y.2.2.1.getD (Int.toNat y.1) aj);
    let x6:=y.2.2.1.length;
    let x7:=y.2.2.2.1.length;
    let x0:=gG y.2.2.2.2.1.2.2.2.2.2.2.1 y.2.2.2.1 x1;
    let x4:=Int.toNat x5;
    let x3:=(y.2.2.2.2.1.2.2.2.1.getD x4 aE).F;
    let x2:=[x3];
    ve x now y->bif decide (y.1<(↑x6:Int)) then(0:Int)<=y.1/\Int.toNat y.1<x6/\Int.toNat y.1<x6/\(0:Int)<=x5/\x4<y.2.2.2.2.1.2.2.2.1.length/\x4<y.2.2.2.2.1.2.2.2.1.length/\x4<y.2.2.2.2.1.2.2.2.1.length/\x3.ah.length<=(4294967296:Nat)/\x7+x2.length<=(4294967296:Nat)/\ve x now (wrap i64 (y.1+(1:Int)),y.2.1,y.2.2.1,y.2.2.2.1++x2,(y.2.2.2.2.1.1,y.2.2.2.2.1.2.1,y.2.2.2.2.1.2.2.1,y.2.2.2.2.1.2.2.2.1,y.2.2.2.2.1.2.2.2.2.1,y.2.2.2.2.1.2.2.2.2.2.1,y.2.2.2.2.1.2.2.2.2.2.2.1,y.2.2.2.2.1.2.2.2.2.2.2.2.1,PUnit.unit),PUnit.unit)/\u7 x now (wrap i64 (y.1+(1:Int)),y.2.1,y.2.2.1,y.2.2.2.1++x2,(y.2.2.2.2.1.1,y.2.2.2.2.1.2.1,y.2.2.2.2.1.2.2.1,y.2.2.2.2.1.2.2.2.1,y.2.2.2.2.1.2.2.2.2.1,y.2.2.2.2.1.2.2.2.2.2.1,y.2.2.2.2.1.2.2.2.2.2.2.1,y.2.2.2.2.1.2.2.2.2.2.2.2.1,PUnit.unit),PUnit.unit)<u7 x now y else KG x1/\x6=x7/\(∀(f:aJ),f∈y.2.2.2.1->bq f.Kind=true)/\(y.2.2.2.1≠[]->y.2.2.2.2.1.2.2.2.2.2.2.1=(1:Int)\/y.2.2.2.2.1.2.2.2.2.2.2.1=(3:Int)\/y.2.2.2.2.1.2.2.2.2.2.2.1=(5:Int))/\(0:Nat)=(0:Nat)/\dZ [DV.one (Cell.sl Cd.k8 y.2.1)]=dZ [DV.one (Cell.sl Cd.k8 (AL x now))]/\dZ [DV.box [Cell.sl Cd.aH x0.S.ab,Cell.lit (Value.int IntKind.i64 x0.S.Next),Cell.sl Cd.aB x0.aC,Cell.sl Cd.az x0.ap,Cell.sl Cd.aI x0.ax,Cell.sl Cd.aW x0.ay,Cell.lit (Value.int IntKind.i64 x0.State),Cell.lit (Value.int IntKind.i64 x0.cJ)]]=dZ [DV.box [Cell.sl Cd.aH (nZ x now).S.ab,Cell.lit (Value.int IntKind.i64 (nZ x now).S.Next),Cell.sl Cd.aB (nZ x now).aC,Cell.sl Cd.az (nZ x now).ap,Cell.sl Cd.aI (nZ x now).ax,Cell.sl Cd.aW (nZ x now).ay,Cell.lit (Value.int IntKind.i64 (nZ x now).State),Cell.lit (Value.int IntKind.i64 (nZ x now).cJ)]]):=by kernel_rfl
theorem Br(x:aq)(now:Int)(y:Int×T0×Unit)(hp:∀p∈u_.pre (x,now),p)(hb:∀d∈u_.ds (x,now),gh d)(hy:gA x now y):mO EE OT f138 u_ O0 (x,now) 9 (kQ (x,now)) y:=by
 have aS:=fe (x:=x) (hb _ m0)
 have bC:=aS.1
 have cg:=aS.2.1
 have cf:=aS.2.2.1
 have bN:=aS.2.2.2.1
 have cd:=aS.2.2.2.2
 have w6:=tg (n:=now) (hb _ m1)
 have bo:KG x:=hp _ m0
 have fw:0<=now/\now<=1000000000:=hp _ m1
 clear hp hb
 rw[aer x now y]
 dsimp only
 obtain⟨d,hX⟩:=bo
 have hT:=AU hX fw.1 fw.2
 have hS:=D5 hT fw.1 fw.2
 obtain⟨nw,p,⟨⟩⟩:=y
 obtain⟨rfl,hp⟩:=hy
 have hp:instT p=dR x nw:=hp
 have e1:p.2.2.2.1=(dR x nw).ap:=congrArg aq.ap hp
 have eC:p.2.2.2.1.flatMap (o8 nw)=AL x nw:=by rw[e1];rfl
 have eF:p.2.2.2.1.flatMap (lJ nw)=jB (dR x nw) nw:=by rw[e1];rfl
 have eS:instT (p.1,p.2.1,p.2.2.1,p.2.2.2.1.map (f_ nw),p.2.2.2.2.1,p.2.2.2.2.2.1,p.2.2.2.2.2.2.1,p.2.2.2.2.2.2.2.1,())=oZ (dR x nw) nw:=congrArg (fun z=>oZ z nw) hp
 have Gd:(jB (dR x nw) nw).length<=30:=xo (yj _ (G2 nw) _) (wK hT.jG).1
 refine⟨by show aT p.2.2.2.1=true;rw[e1];exact hT.jG,fw,⟨eC,eF,by omega,by omega,rfl,eS⟩,?_⟩
 clear eS eF eC e1
 clear hp
 rintro⟨i,calls,failed,facts,q,⟨⟩⟩ ⟨hc,hf,h1,h2,Qc,hq⟩
 have hc:calls=AL x nw:=hc
 have hf:failed=jB (dR x nw) nw:=hf
 have h1:0<=i:=h1
 have h2:i<=(failed.length:Int):=h2
 have Qc:facts=((jB (dR x nw) nw).take i.toNat).map (G1 (oZ (dR x nw) nw).ap):=Qc
 have hq:instT q=oZ (dR x nw) nw:=hq
 subst hc hf
 have e2:q.2.2.2.1=(oZ (dR x nw) nw).ap:=congrArg aq.ap hq
 have e3:q.2.2.2.2.2.2.1=(dR x nw).State:=congrArg aq.State hq
 refine aQ ?_ ?_<;>intro g
 ·have g:i<((jB (dR x nw) nw).length:Int):=g
  have hn:i.toNat<(jB (dR x nw) nw).length:=by omega
  have hk:=gP (z:=aj) hn
  obtain⟨k1,k2⟩:=EX hk
  have Qa:=Ah hT.jG fw.1 fw.2 hk
  have hl:=(o7 Qa).1
  have key:∀l:List ak,l=(oZ (dR x nw) nw).ap->0<=aZ l ((jB (dR x nw) nw).getD i.toNat aj)/\(aZ l ((jB (dR x nw) nw).getD i.toNat aj)).toNat<l.length/\(l.getD (aZ l ((jB (dR x nw) nw).getD i.toNat aj)).toNat aE).F.ah.length<=4294967296/\(l.getD (aZ l ((jB (dR x nw) nw).getD i.toNat aj)).toNat aE).F=G1 (oZ (dR x nw) nw).ap ((jB (dR x nw) nw).getD i.toNat aj):=by
   rintro l rfl
   refine⟨k1,?_,?_,rfl⟩
   ·have:aZ (oZ (dR x nw) nw).ap ((jB (dR x nw) nw).getD i.toNat aj)<((oZ (dR x nw) nw).ap.length:Int):=k2
    have h0:0<=aZ (oZ (dR x nw) nw).ap ((jB (dR x nw) nw).getD i.toNat aj):=k1
    omega
   ·exact xo hl (by omega)
  obtain⟨a1,a2,a3,a4⟩:=key _ e2
  have amv:facts.length<=30:=by rw[Qc,xp,oz];omega
  have qB:=xD (l:=jB (dR x nw) nw) aj hn
  have e:(i+1).toNat=i.toNat+1:=by omega
  have nx:∀(j:Int)(fs:List aJ),j=i+1->fs=((jB (dR x nw) nw).take (i+1).toNat).map (G1 (oZ (dR x nw) nw).ap)->ve x nw (j,AL x nw,jB (dR x nw) nw,fs,q,())/\u7 x nw (j,AL x nw,jB (dR x nw) nw,fs,q,())<u7 x nw (i,AL x nw,jB (dR x nw) nw,facts,q,()):=by
   rintro j fs rfl rfl
   exact⟨⟨rfl,rfl,by omega,by omega,rfl,hq⟩,by show(jB (dR x nw) nw).length-(i+1).toNat<(jB (dR x nw) nw).length-i.toNat;omega⟩
  exact⟨h1,hn,hn,a1,a2,a2,a2,a3,by simp only[fY,fG];omega,nx _ _ (wi (n:=i+1)) (by rw[a4,Qc,e,qB,Mp];rfl)⟩
 ·have g:¬i<((jB (dR x nw) nw).length:Int):=g
  have ht:(jB (dR x nw) nw).take i.toNat=jB (dR x nw) nw:=Ul (by omega)
  rw[ht] at Qc
  have rO:gG q.2.2.2.2.2.2.1 facts (instT q)=nZ x nw:=by rw[e3,Qc,hq];rfl
  refine⟨by show KG (instT q);rw[hq];exact uy hS,by rw[Qc,xp],fun f hm=> ?_,fun fg=> ?_,rfl,rfl,nB rO⟩
  ·rw[Qc] at hm
   obtain⟨k,hk,rfl⟩:=l_.1 hm
   exact zM (Ah hT.jG fw.1 fw.2 hk)
  ·show q.2.2.2.2.2.2.1=1\/q.2.2.2.2.2.2.1=3\/q.2.2.2.2.2.2.1=5
   rw[e3]
   exact GK hT (now:=nw) (fun e=>fg (by rw[Qc,e];rfl))
theorem Bq(x:aq)(now:Int)(hp:∀p∈u_.pre (x,now),p)(hb:∀d∈u_.ds (x,now),gh d):rk EE OT f138 u_ O0 (x,now) 9 (kQ (x,now)):=by
 have aS:=fe (x:=x) (hb _ m0)
 have bC:=aS.1
 have cg:=aS.2.1
 have cf:=aS.2.2.1
 have bN:=aS.2.2.2.1
 have cd:=aS.2.2.2.2
 have w6:=tg (n:=now) (hb _ m1)
 have bo:KG x:=hp _ m0
 have fw:0<=now/\now<=1000000000:=hp _ m1
 clear hp hb
 apply vE (bif x.State==1 then L4 (cY x.ax)/\zi x now (0,qi now x.ax,(x.S.ab,x.S.Next,x.aC,x.ap,Pk now x.ax,x.ay,x.State,now,()),())/\∀(y:Int×List aK×T14×PUnit),let x2:={ab:=y.2.2.1.1,Next:=y.2.2.1.2.1:aF};let x3:=(y.2.1.getD y.1.toNat cS).F;let x5:=y.2.1.length;let x1:={S:=x2,aC:=y.2.2.1.2.2.1,ap:=y.2.2.1.2.2.2.1,ax:=y.2.2.1.2.2.2.2.1,ay:=y.2.2.1.2.2.2.2.2.1,State:=y.2.2.1.2.2.2.2.2.2.1,cJ:=y.2.2.1.2.2.2.2.2.2.2.1:aq};let x4:=(↑x5:Int);let x0:=du x1 x3;let q0:=gA x now (now,(y.2.2.1.1,y.2.2.1.2.1,y.2.2.1.2.2.1,y.2.2.1.2.2.2.1,y.2.2.1.2.2.2.2.1,y.2.2.1.2.2.2.2.2.1,y.2.2.1.2.2.2.2.2.2.1,y.2.2.1.2.2.2.2.2.2.2.1,()),());let q1:=(wrap i64 (y.1+1),y.2.1,(x0.S.ab,x0.S.Next,x0.aC,x0.ap,x0.ax,x0.ay,x0.State,x0.cJ,()),());zi x now y->bif decide (y.1<x4) then bif y.2.2.1.2.2.2.2.2.2.1==1 then 0<=y.1/\y.1.toNat<x5/\y.1.toNat<x5/\y.1.toNat<x5/\cW x1/\br x2=true/\L4 x3.ah.length/\zi x now q1/\y3 x now q1<y3 x now y else q0 else q0 else gA x now (now,(x.S.ab,x.S.Next,x.aC,x.ap,x.ax,x.ay,x.State,now,()),()))
 dsimp only
 have hX:=bo
 obtain⟨d,hX⟩:=hX
 have hts:=(BF hX.timers).2
 have fin:∀z:aq,z=dR x now->gA x now (now,Hx z,()):=fun z hz=>⟨rfl,hz⟩
 refine bi (fun hs=>⟨by omega,⟨rfl,by omega,by omega,?_,?_⟩,?_⟩) (fun hs=> ?_)
 ·exact uy (kL (d:=d) (x:=aed x now) ⟨hX.pS,hX.store,hX.jG,wo _ hX.timers,hX.oW,fw,hX.Lq,hX.bS⟩ hs)
 ·exact(if_pos hs).symm
 ·have h30:(qi now x.ax).length<=30:=xo (Mq _ _) (BF hX.timers).1
  have Qa:∀t∈qi now x.ax,bw t.F=true:=fun t ht=>by
   have:=(pt.1 hX.timers).2.1 t (zr.1 ht).1
   simp only[iN,cO] at this
   exact this.2
  rintro⟨i,l,p,⟨⟩⟩ ⟨rfl,h1,h2,hY,hE⟩
  obtain⟨d',hY⟩:KG (instT p):=hY
  have h1:0<=i:=h1
  have h2:i<=(qi now x.ax).length:=h2
  have hE:kN ((qi now x.ax).drop i.toNat) (instT p)=dR x now:=hE
  refine aQ (fun hc=>bi (fun g=> ?_) (fun g=> ?_)) (fun hc=> ?_)
  ·have hc:i<((qi now x.ax).length:Int):=hc
   have hn:i.toNat<(qi now x.ax).length:=by omega
   have g:(instT p).State=1:=g
   have hf:=Qa _ (gP (z:=cS) hn)
   rw[KR h1 hc,if_pos g] at hE
   have nx:∀j,j=i+1->zi x now (j,qi now x.ax,Hx (du (instT p) ((qi now x.ax).getD i.toNat cS).F),())/\y3 x now (j,qi now x.ax,Hx (du (instT p) ((qi now x.ax).getD i.toNat cS).F),())<y3 x now (i,qi now x.ax,p,()):=by
    rintro j rfl
    exact⟨⟨rfl,by omega,by omega,⟨d',iR hY.tocoreX g hf⟩,hE⟩,by show(qi now x.ax).length-(i+1).toNat<(qi now x.ax).length-i.toNat;omega⟩
   exact⟨h1,hn,hn,hn,hY.good,hY.store,xo (o7 hf).1 (by omega),nx _ (wi (n:=i+1))⟩
  ·have g:¬(instT p).State=1:=g
   rw[M5 g] at hE
   exact fin _ hE
  ·have hc:¬i<((qi now x.ax).length:Int):=hc
   rw[List.drop_eq_nil_of_le (by omega)] at hE
   exact fin (instT p) hE
 ·exact fin (Gp x now) (if_neg hs).symm
attribute [local irreducible] rk mO in
theorem aeD:Holds EE (138,u_):=by
 refine vu qZ func138 u_ (by kernel_rfl) OT (xz _) O0 9 kQ (by kernel_rfl) (fun x hp hb=> ?_)
 obtain⟨x,now⟩:=x
 refine⟨Bq x now hp hb,fun(y:Int×T0×Unit) hy=> ?_⟩
 have hy:gA x now y:=hy
 exact Br x now y hp hb hy
def ahV:HH:=⟨_,aeD⟩
def jZ(code:List Int)(aG:Int):Int:=if 3+(code.length:Int)/12>aG then aG else 3+(code.length:Int)/12
theorem Kf(code:List Int)(aG:Int):jZ code aG<=aG:=by unfold jZ;split<;>omega
theorem xQ{c c':ag}{a b:aq}(h1:c=c')(h2:a=b):dZ [DV.box [.sl .byte c.b,CI c.i,CI c.h],DV.box [.sl .aH a.S.ab,CI a.S.Next,.sl .aB a.aC,.sl .az a.ap,.sl .aI a.ax,.sl .aW a.ay,CI a.State,CI a.cJ]]=dZ [DV.box [.sl .byte c'.b,CI c'.i,CI c'.h],DV.box [.sl .aH b.S.ab,CI b.S.Next,.sl .aB b.aC,.sl .az b.ap,.sl .aI b.ax,.sl .aW b.ay,CI b.State,CI b.cJ]]:=by rw[h1,h2]
theorem JT{a a':bp}{x x':aq}{c c':ag}(h1:a=a')(h2:x=x')(h3:c=c'):dZ [DV.agg [.lit (.string a.Name),.sl .bz a.aw],DV.agg [.sl .aH x.S.ab,CI x.S.Next,.sl .aB x.aC,.sl .az x.ap,.sl .aI x.ax,.sl .aW x.ay,CI x.State,CI x.cJ]]=dZ [DV.agg [.lit (.string a'.Name),.sl .bz a'.aw],DV.agg [.sl .aH x'.S.ab,CI x'.S.Next,.sl .aB x'.aC,.sl .az x'.ap,.sl .aI x'.ax,.sl .aW x'.ay,CI x'.State,CI x'.cJ]]/\dZ [DV.box [.sl .byte c.b,CI c.i,CI c.h]]=dZ [DV.box [.sl .byte c'.b,CI c'.i,CI c'.h]]:=by subst h1 h2 h3;exact⟨rfl,rfl⟩
abbrev TC:=List Int×Int×Int×Unit
def lp(p:TC):ag:=⟨p.1,p.2.1,p.2.2.1⟩
def UF(c:ag):TC:=(c.b,c.i,c.h,())
theorem zL{d:bp}{x:aq}(hd:fQ d=true)(h:(jI d (allM d.aw x.S.ab) x.aC).isSome=true):wy d x=pN d x (AZ (jI d (allM d.aw x.S.ab) x.aC))/\yf x.S.ab (AZ (jI d (allM d.aw x.S.ab) x.aC))/\(AZ (jI d (allM d.aw x.S.ab) x.aC)).eH.length<=4294967295:=by
 unfold wy
 cases hp:jI d (allM d.aw x.S.ab) x.aC with
 |none=>rw[hp] at h;cases h
 |some m=>
  have:=Hq (fun r hr=>((vF hd).1 r hr).1) (GH hp)
  exact⟨rfl,GG hp,by show m.eH.length<=_;omega⟩
theorem PG{d:bp}{x:aq}(h:(jI d (allM d.aw x.S.ab) x.aC).isSome=false):wy d x=x:=by
 unfold wy
 cases hp:jI d (allM d.aw x.S.ab) x.aC with
 |none=>rfl
 |some m=>rw[hp] at h;cases h
theorem Lt{d:bp}{x:aq}{c:ag}{i:Int}(h:0<i):nV d i.toNat x c=nV d (i-1).toNat (gU d x c) (gV x c)/\s7 d i.toNat x c=s7 d (i-1).toNat (gU d x c) (gV x c):=by
 have e:i.toNat=(i-1).toNat+1:=by omega
 rw[e];exact⟨rfl,rfl⟩
def anF:=cj (α:=(List Int)×Int) (qC (qL .byte) (q1 qI)) [.ro,.ro] (fun(code,aG)=>[L4 code.length]) (fun(code,aG)=>⟨[dI (jZ code aG)],[],[]⟩)
def aov:HH:=hF anF func13 [] a0 fun x hp hb=>by
 obtain⟨code,aG⟩:=x
 have BR:L9 code.length:=iv (hb _ m0)
 have vy:=tg (n:=aG) (hb _ m1)
 have bo:code.length<=4294967296:=hp _ m0
 clear hp hb
 apply vE (let x0:=wrap i64 (3+wrap i64 (Int.tdiv (code.length:Int) 12));(12:Int)≠(0:Int)/\bif decide (x0>aG) then Li aG (jZ code aG) else Li x0 (jZ code aG))
 dsimp only
 have e:Int.tdiv (code.length:Int) 12=(code.length:Int)/12:=Int.tdiv_eq_ediv_of_nonneg (by omega)
 rw[e,wi (n:=(code.length:Int)/12),wi]
 refine⟨by decide,aQ (fun h=>oT ?_) (fun h=>oT ?_)⟩
 ·rw[jZ,if_pos h]
 ·rw[jZ,if_neg h]
def am4:=cj (α:=ag×bp×aq) (qC qU (qC (qA .h_) (q1 (qX .ct)))) [.box false,.ro,.box true] (fun(c,d,x)=>[bh c,cU d x,x.cJ+30<=1000000000]) (fun(c,d,x)=>⟨[],[],[dU (gV x c),dX .ct (gU d x c)]⟩)
def anN:HH:=hF am4 func91 [nb,TO,QI,ahX,ahW,agz,FG,ahV,Ma,AE,TM,ahU] a0 fun x hp hb=>by
 obtain⟨c,d,x⟩:=x
 have ey:=tQ (x:=c) (hb _ m0)
 have dw:=gI (x:=d) (hb _ m1)
 have e_:=dw.1
 have ew:=dw.2
 have sM:=fe (x:=x) (hb _ m2)
 have bC:=sM.1
 have cg:=sM.2.1
 have cf:=sM.2.2.1
 have bN:=sM.2.2.2.1
 have cd:=sM.2.2.2.2
 have bo:bh c:=hp _ m0
 have fw:cU d x:=hp _ m1
 have JW:x.cJ+30<=1000000000:=hp _ m2
 clear hp hb
 apply vE (let x7:={S:={ab:={τ:=Cd.aH,xs:=x.S.ab:jh UU}.xs,Next:=x.S.Next:aF},aC:={τ:=Cd.aB,xs:=x.aC:jh UU}.xs,ap:={τ:=Cd.az,xs:=x.ap:jh UU}.xs,ax:={τ:=Cd.aI,xs:=x.ax:jh UU}.xs,ay:={τ:=Cd.aW,xs:=x.ay:jh UU}.xs,State:=x.State,cJ:=x.cJ:aq};let x8:=du x (dc (aa c 8));let zv:=[0,1,5,30];let NP:=AZ (jI d (allM d.aw x.S.ab) x.aC);let Mh:=(x.ap.length:Int);let x3:=pN d x NP;let wI:=zv.length;let iw:=aa (aa c 8) Mh;let vj:=bQ (x.ap.getD (Int.toNat (af (aa c 8) Mh)) aE).F;let oV:=aa iw 3;let qb:=(↑wI:Int);let x2:=wrap i64 (x.cJ+zv.getD (Int.toNat (af (aa c 8) qb)) 0);let x4:=aa (aa c 8) qb;let x6:=eG oV;let x9:=gS oV;let x0:=nZ x x2;let x5:={K:=x6.K,N:=x6.N,S:=x6.S:a_};let x1:=(kg x7 vj (!ca iw 3) x5).1.S;let q0:=(0:Nat)=(0:Nat)/\LM [] [] [bU x9,DV.box [CL .aH x1.ab,CI x1.Next,CL .aB (kg x7 vj (!ca iw 3) x5).1.aC,CL .az (kg x7 vj (!ca iw 3) x5).1.ap,CL .aI (kg x7 vj (!ca iw 3) x5).1.ax,CL .aW (kg x7 vj (!ca iw 3) x5).1.ay,CI ((kg x7 vj (!ca iw 3) x5).1.State),CI ((kg x7 vj (!ca iw 3) x5).1.cJ)]] [bU (gV x c),DV.box (aA (gU d x c))];let q1:=bif !decide (x.State=2\/x.State=4\/x.State=6) then 0<=(aa c 8).i/\(aa c 8).b.length<=4294967296/\1<=wI/\KG x/\(0<=x2/\x2<=1000000000)/\(0:Nat)=(0:Nat)/\LM [] [] [bU x4,DV.box (aA x0)] [bU (gV x c),DV.box (aA (gU d x c))] else(0:Nat)=(0:Nat)/\LM [] [] [bU (aa c 8),DV.box (aA x)] [bU (gV x c),DV.box (aA (gU d x c))];let q2:=bif x.State==1 then fQ d=true/\x.S.ab.length<=40/\bif Option.isSome (jI d (allM d.aw x.S.ab) x.aC) then cU d x/\x.State=1/\yf x.S.ab NP/\NP.eH.length<=4294967295/\(0:Nat)=(0:Nat)/\LM [] [] [bU (aa c 8),DV.box (aA x3)] [bU (gV x c),DV.box (aA (gU d x c))] else(0:Nat)=(0:Nat)/\LM [] [] [bU (aa c 8),DV.box (aA x)] [bU (gV x c),DV.box (aA (gU d x c))] else(0:Nat)=(0:Nat)/\LM [] [] [bU (aa c 8),DV.box (aA x)] [bU (gV x c),DV.box (aA (gU d x c))];let q3:=(0:Nat)=(0:Nat)/\LM [] [] [bU (aa c 8),DV.box (aA x)] [bU (gV x c),DV.box (aA (gU d x c))];let q4:=(bB x7.ap vj (!ca iw 3) x5).2=1->x.State=1\/x.State=3\/x.State=5;let q5:=bif af c (8:Int)==(5:Int) then bif af c (8:Int)==(5:Int) then q1 else bif decide (Mh>0) then 0<=(aa c 8).i/\(aa c 8).b.length<=4294967296/\0<=af (aa c 8) Mh/\Int.toNat (af (aa c 8) Mh)<x.ap.length/\Int.toNat (af (aa c 8) Mh)<x.ap.length/\Int.toNat (af (aa c 8) Mh)<x.ap.length/\bh iw/\bh oV/\cW x/\br x.S=true/\bO x6=true/\q4/\q0 else q3 else bif af c (8:Int)==(6:Int) then q1 else bif decide (Mh>0) then 0<=(aa c 8).i/\(aa c 8).b.length<=4294967296/\0<=af (aa c 8) Mh/\Int.toNat (af (aa c 8) Mh)<x.ap.length/\Int.toNat (af (aa c 8) Mh)<x.ap.length/\Int.toNat (af (aa c 8) Mh)<x.ap.length/\bh iw/\bh oV/\cW x/\br x.S=true/\bO x6=true/\q4/\q0 else q3;let q6:=bif x.State==1 then bh (aa c 8)/\cW x/\br x.S=true/\(dc (aa c 8)).ah.length<=4294967296/\(0:Nat)=(0:Nat)/\LM [] [] [bU (de (aa c 8)),DV.box (aA x8)] [bU (gV x c),DV.box (aA (gU d x c))] else q3;let q7:=bif af c (8:Int)==(2:Int) then bif af c (8:Int)==(2:Int) then q2 else q5 else bif af c (8:Int)==(3:Int) then bif af c (8:Int)==(3:Int) then q2 else q5 else bif af c (8:Int)==(4:Int) then q2 else q5;0<=c.i/\L4 c.b.length/\bif af c (8:Int)==(0:Int) then bif af c (8:Int)==(0:Int) then q6 else q7 else bif af c (8:Int)==(1:Int) then q6 else q7)
 dsimp only
 have hb:=bx (c:=c) (n:=8) (by omega)
 have h8:=ao bo 8
 have hg:=fw.good
 have hf:=(o7 (oh (aa c 8))).1
 have h40:=(jH fw.store).2.2.1
 have ht:=NU (aa c 8)
 have adL:=fw.now
 have hw:∀n:Int,n=g_ (aa c 8) sL->IntKind.wrap .i64 (x.cJ+n)=x.cJ+g_ (aa c 8) sL:=by
  rintro n rfl;exact wi
 have hk:0<x.ap.length->0<=af (aa c 8) x.ap.length/\(af (aa c 8) x.ap.length).toNat<x.ap.length:=fun h=>by
  have:=bx (c:=aa c 8) (n:=x.ap.length) (by omega);omega
 have hd1:=ao h8 x.ap.length
 have hd2:=ao hd1 3
 have hv:=pi (aa (aa (aa c 8) x.ap.length) 3)
 have jA:∀key ok v,(bB x.ap key ok v).2=1->x.State=1\/x.State=3\/x.State=5:=fun key ok v h=>Er (vo.2 fw) h
 refine⟨bo.1,bo.2,?_⟩
 by_cases k1:af c 8=0\/af c 8=1
 ·have e1:gU d x c=if x.State=1 then du x (dc (aa c 8)) else x:=if_pos k1
  have e2:gV x c=if x.State=1 then de (aa c 8) else aa c 8:=if_pos k1
  repeat' (refine bi (fun _=> ?_) (fun _=> ?_))
  all_goals first
   |(exfalso;omega)
   |(rename_i hs;rw[if_pos hs] at e1 e2;exact⟨h8,hg,fw.store,by omega,rfl,rfl,rfl,xQ e2.symm e1.symm⟩)
   |(rename_i hs;rw[if_neg hs] at e1 e2;exact⟨rfl,rfl,rfl,xQ e2.symm e1.symm⟩)
 by_cases k2:af c 8=2\/af c 8=3\/af c 8=4
 ·have e1:gU d x c=if x.State=1 then wy d x else x:=(if_neg k1).trans (if_pos k2)
  have e2:gV x c=aa c 8:=(if_neg k1).trans (if_pos k2)
  repeat' (refine bi (fun _=> ?_) (fun _=> ?_))
  all_goals first
   |(exfalso;omega)
   |(rename_i hs;rw[if_pos hs] at e1
     exact⟨fw.pS,by omega,ae (fun h=>⟨fw,hs,(zL fw.pS h).2.1,(zL fw.pS h).2.2,rfl,rfl,rfl,xQ e2.symm ((zL fw.pS h).1.symm.trans e1.symm)⟩) (fun h=>⟨rfl,rfl,rfl,xQ e2.symm ((PG h).symm.trans e1.symm)⟩)⟩)
   |(rename_i hs;rw[if_neg hs] at e1;exact⟨rfl,rfl,rfl,xQ e2.symm e1.symm⟩)
 by_cases k3:af c 8=5\/af c 8=6
 ·have e1:gU d x c=if mP x=true then x else nZ x (x.cJ+g_ (aa c 8) sL):=(if_neg k1).trans ((if_neg k2).trans (if_pos k3))
  have e2:gV x c=if mP x=true then aa c 8 else kE (aa c 8) sL:=(if_neg k1).trans ((if_neg k2).trans (if_pos k3))
  repeat' (refine bi (fun _=> ?_) (fun _=> ?_))
  all_goals first
   |(exfalso;omega)
   |(refine bE ?_ ?_<;>intro h
     ·rw[if_neg (by rw[show mP x=false from h];decide)] at e1 e2
      exact⟨h8.1,h8.2,by decide,uy fw,(by rw[hw (List.getD [0,1,5,30] (af (aa c 8) (([0,1,5,30]:List Int).length:Int)).toNat 0) rfl];omega),rfl,rfl,rfl,xQ e2.symm ((congrArg (nZ x) (hw _ rfl)).trans e1.symm)⟩
     ·rw[if_pos (show mP x=true from h)] at e1 e2
      exact⟨rfl,rfl,rfl,xQ e2.symm e1.symm⟩)
 ·have e1:gU d x c=if 0<x.ap.length then(kg x (Xj x (aa c 8)) (!ca (Qn x (aa c 8)) 3) (eG (aa (Qn x (aa c 8)) 3))).1 else x:=(if_neg k1).trans ((if_neg k2).trans (if_neg k3))
  have e2:gV x c=if 0<x.ap.length then gS (aa (Qn x (aa c 8)) 3) else aa c 8:=(if_neg k1).trans ((if_neg k2).trans (if_neg k3))
  repeat' (refine bi (fun _=> ?_) (fun _=> ?_))
  all_goals first
   |(exfalso;omega)
   |(refine aQ ?_ ?_<;>intro h
     ·have h:0<x.ap.length:=by omega
      rw[if_pos h] at e1 e2
      obtain⟨j1,j2⟩:=hk h
      exact⟨h8.1,h8.2,j1,j2,j2,j2,hd1,hd2,hg,fw.store,hv,jA _ _ _,rfl,rfl,rfl,xQ e2.symm e1.symm⟩
     ·rw[if_neg (by omega)] at e1 e2
      exact⟨rfl,rfl,rfl,xQ e2.symm e1.symm⟩)
def afb:=cj (α:=ag×Int) (qC qU (q1 qI)) [.box false,.ro] (fun(c,aG)=>[bh c,aG<=1000]) (fun(c,aG)=>⟨[dA .h_ (cE c),dA .ct (instD c aG)],[false,true],[dU (instDC c aG)]⟩)
def FD(c:ag)(aG:Int):Int×T2×T0×T2×T0×T4×Unit->Prop:=fun(i,r,q,d,p,cu,_)=>d=((cE c).Name,(cE c).aw,())/\0<=i/\i<=1000/\bh ⟨cu.1,cu.2.1,cu.2.2.1⟩/\cU (cE c) (instT p)/\(instT p).cJ+30*i<=1000000000/\nV (cE c) i.toNat (instT p) ⟨cu.1,cu.2.1,cu.2.2.1⟩=Ak c aG/\s7 (cE c) i.toNat (instT p) ⟨cu.1,cu.2.1,cu.2.2.1⟩=Iq c aG
def Ft(c:ag)(aG:Int):Int×T2×T0×T2×T0×T4×Unit->Nat:=fun(i,r,q,d,p,cu,_)=>i.toNat
def ao6:AX afb:=fun(c,aG)=>bW [(4,aU [iI 8,.box 4 (4,1024) [.lit .str,.own .bz true],.box 5 (5,1024) [.own .aH true,.lit (.int .i64),.own .aB true,.own .az true,.own .aI true,.own .aW true,.lit (.int .i64),.lit (.int .i64)],.box 6 (6,1024) [.lit .str,.shr .bz],.box 7 (7,1024) [.own .aH true,.lit (.int .i64),.own .aB true,.own .az true,.own .aI true,.own .aW true,.lit (.int .i64),.lit (.int .i64)],.box 0 (2000000,0) [.shr .byte,.lit (.int .i64),.lit (.int .i64)]] (fun _=>FD c aG) (Ft c aG))]
def aoi:HH:=hF afb func35 [agw,anO,FG,nb,anN,AE,TN] ao6 fun x hp hb=>by
 obtain⟨c,aG⟩:=x
 have ey:=tQ (x:=c) (hb _ m0)
 have vy:=tg (n:=aG) (hb _ m1)
 have bo:bh c:=hp _ m0
 have fw:aG<=1000:=hp _ m1
 clear hp hb
 apply vE (let x1:=List.length [0,0,7];let x0:=aa (jC c) (↑x1:Int);let q0:=instNew (List.getD [0,0,7] (Int.toNat (af (jC c) (↑x1:Int))) 0);let q1:=List bL×Int×List au×List ak×List aK×List bj×Int×Int×PUnit;let q2:=aA (instD c aG);bh c/\0<=(jC c).i/\(jC c).b.length<=4294967296/\1<=x1/\0<=x0.i/\L4 x0.b.length/\FD c aG (af x0 aG,({data:= #[]:BA},[],()),([],0,[],[],[],[],0,0,()),((cE c).Name,(cE c).aw,()),(q0.S.ab,q0.S.Next,q0.aC,q0.ap,q0.ax,q0.ay,q0.State,q0.cJ,()),((aa x0 aG).b,(aa x0 aG).i,(aa x0 aG).h,()),())/\∀(y:Int×T9×q1×T9×q1×O3×PUnit),let x4:={S:={ab:=y.2.2.2.2.1.1,Next:=y.2.2.2.2.1.2.1:aF},aC:=y.2.2.2.2.1.2.2.1,ap:=y.2.2.2.2.1.2.2.2.1,ax:=y.2.2.2.2.1.2.2.2.2.1,ay:=y.2.2.2.2.1.2.2.2.2.2.1,State:=y.2.2.2.2.1.2.2.2.2.2.2.1,cJ:=y.2.2.2.2.1.2.2.2.2.2.2.2.1:aq};let x5:={b:=y.2.2.2.2.2.1.1,i:=y.2.2.2.2.2.1.2.1,h:=y.2.2.2.2.2.1.2.2.1:ag};let x6:={Name:=y.2.2.2.1.1,aw:=y.2.2.2.1.2.1:bp};let x2:=gU x6 x4 x5;let x3:=gK x4 5;let q3:=(wrap i64 (y.1-1),(y.2.1.1,y.2.1.2.1,()),(y.2.2.1.1,y.2.2.1.2.1,y.2.2.1.2.2.1,y.2.2.1.2.2.2.1,y.2.2.1.2.2.2.2.1,y.2.2.1.2.2.2.2.2.1,y.2.2.1.2.2.2.2.2.2.1,y.2.2.1.2.2.2.2.2.2.2.1,()),(y.2.2.2.1.1,y.2.2.2.1.2.1,()),(x2.S.ab,x2.S.Next,x2.aC,x2.ap,x2.ax,x2.ay,x2.State,x2.cJ,()),((gV x4 x5).b,(gV x4 x5).i,(gV x4 x5).h,()),());FD c aG y->bif decide (y.1>0) then bh x5/\cU x6 x4/\y.2.2.2.2.1.2.2.2.2.2.2.2.1+(30:Int)<=(1000000000:Int)/\FD c aG q3/\Ft c aG q3<Ft c aG y else bif y.2.2.2.2.1.2.2.2.2.2.2.1==1 then bh x5/\bif ca x5 10 then cW x4/\((5:Int)=(3:Int)\/(5:Int)=(5:Int))/\LM [DV.agg [CS y.2.2.2.1.1,CL .bz y.2.2.2.1.2.1],DV.agg (aA x3)] [DV.agg [CS ((cE c).Name),CL .bz (cE c).aw],DV.agg q2] [bU (aa x5 10)] [bU (instDC c aG)] else LM [DV.agg [CS y.2.2.2.1.1,CL .bz y.2.2.2.1.2.1],DV.agg [CL .aH y.2.2.2.2.1.1,CI y.2.2.2.2.1.2.1,CL .aB y.2.2.2.2.1.2.2.1,CL .az y.2.2.2.2.1.2.2.2.1,CL .aI y.2.2.2.2.1.2.2.2.2.1,CL .aW y.2.2.2.2.1.2.2.2.2.2.1,CI y.2.2.2.2.1.2.2.2.2.2.2.1,CI y.2.2.2.2.1.2.2.2.2.2.2.2.1]] [DV.agg [CS ((cE c).Name),CL .bz (cE c).aw],DV.agg q2] [bU (aa x5 10)] [bU (instDC c aG)] else LM [DV.agg [CS y.2.2.2.1.1,CL .bz y.2.2.2.1.2.1],DV.agg [CL .aH y.2.2.2.2.1.1,CI y.2.2.2.2.1.2.1,CL .aB y.2.2.2.2.1.2.2.1,CL .az y.2.2.2.2.1.2.2.2.1,CL .aI y.2.2.2.2.1.2.2.2.2.1,CL .aW y.2.2.2.2.1.2.2.2.2.2.1,CI y.2.2.2.2.1.2.2.2.2.2.2.1,CI y.2.2.2.2.1.2.2.2.2.2.2.2.1]] [DV.agg [CS ((cE c).Name),CL .bz (cE c).aw],DV.agg q2] [DV.box [CL .byte y.2.2.2.2.2.1.1,CI y.2.2.2.2.2.1.2.1,CI y.2.2.2.2.2.1.2.2.1]] [bU (instDC c aG)])
 dsimp only
 have hk:=yJ bo
 have h1:=OE bo
 have h2:=ao h1 aG
 have hn:=QZ c
 have hb:0<=af (Al c) aG/\af (Al c) aG<=1000:=by
  by_cases h:0<aG
  ·have:=bx (c:=Al c) h;omega
  ·unfold af;rw[if_pos (by omega)];omega
 refine⟨bo,hk.1,hk.2,by decide,h1.1,h1.2,⟨rfl,hb.1,hb.2,h2,Kn c,?_,rfl,rfl⟩,?_⟩
 ·show(LB c).cJ+30*af (Al c) aG<=1000000000
  omega
 clear hk h1 h2 hn hb
 rintro⟨i,r,q,d,p,cu,⟨⟩⟩ ⟨hd,g1,g2,gc,gX,gn,gE,gC⟩
 have hd:d=((cE c).Name,(cE c).aw,()):=hd
 subst hd
 have g1:0<=i:=g1
 have g2:i<=1000:=g2
 have gc:bh (lp cu):=gc
 have gX:cU (cE c) (instT p):=gX
 have gn:(instT p).cJ+30*i<=1000000000:=gn
 have gE:nV (cE c) i.toNat (instT p) (lp cu)=Ak c aG:=gE
 have gC:s7 (cE c) i.toNat (instT p) (lp cu)=Iq c aG:=gC
 refine aQ ?_ ?_<;>intro hc
 ·have hc:0<i:=hc
  obtain⟨e1,e2,e3⟩:=AW (c:=lp cu) gX (by omega)
  have es:=Lt (d:=cE c) (x:=instT p) (c:=lp cu) hc
  rw[es.1] at gE
  rw[es.2] at gC
  have nx:∀j,j=i-1->FD c aG (j,r,q,((cE c).Name,(cE c).aw,()),Hx (gU (cE c) (instT p) (lp cu)),UF (gV (instT p) (lp cu)),())/\Ft c aG (j,r,q,((cE c).Name,(cE c).aw,()),Hx (gU (cE c) (instT p) (lp cu)),UF (gV (instT p) (lp cu)),())<Ft c aG (i,r,q,((cE c).Name,(cE c).aw,()),p,cu,()):=by
   rintro j rfl
   exact⟨⟨rfl,by omega,by omega,Hi gc,e1,by show(gU (cE c) (instT p) (lp cu)).cJ+30*(i-1)<=1000000000;omega,gE,gC⟩,by show(i-1).toNat<i.toNat;omega⟩
  exact⟨gc,gX,by show(instT p).cJ+30<=1000000000;omega,nx _ (wi (n:=i-1))⟩
 ·have hc:¬0<i:=hc
  have e:i.toNat=0:=by omega
  rw[e] at gE gC
  have gE:instT p=Ak c aG:=gE
  have gC:lp cu=Iq c aG:=gC
  have fin:∀(x':aq)(c':ag),x'=instD c aG->c'=instDC c aG->dZ [DV.agg [.lit (.string (cE c).Name),.sl .bz (cE c).aw],DV.agg [.sl .aH x'.S.ab,.lit (.int .i64 x'.S.Next),.sl .aB x'.aC,.sl .az x'.ap,.sl .aI x'.ax,.sl .aW x'.ay,.lit (.int .i64 x'.State),.lit (.int .i64 x'.cJ)]]=dZ [DV.agg [.lit (.string (cE c).Name),.sl .bz (cE c).aw],DV.agg [.sl .aH (instD c aG).S.ab,.lit (.int .i64 (instD c aG).S.Next),.sl .aB (instD c aG).aC,.sl .az (instD c aG).ap,.sl .aI (instD c aG).ax,.sl .aW (instD c aG).ay,.lit (.int .i64 (instD c aG).State),.lit (.int .i64 (instD c aG).cJ)]]/\dZ [DV.box [.sl .byte c'.b,.lit (.int .i64 c'.i),.lit (.int .i64 c'.h)]]=dZ [DV.box [.sl .byte (instDC c aG).b,.lit (.int .i64 (instDC c aG).i),.lit (.int .i64 (instDC c aG).h)]]:=fun _ _ h1 h2=>JT rfl h1 h2
  refine bi (fun hs=>⟨gc,ae (fun ho=>⟨gX.good,.inr rfl,rfl,?_⟩) (fun ho=>⟨rfl,?_⟩)⟩) (fun hs=>⟨rfl,?_⟩)
  ·have hs:(Ak c aG).State=1:=by rw[<-gE];exact hs
   have ho:ca (Iq c aG) 10=true:=by rw[<-gC];exact ho
   exact fin (gK (instT p) 5) (aa (lp cu) 10) (by rw[instD,if_pos ⟨hs,ho⟩,gE]) (by rw[instDC,if_pos hs,gC])
  ·have hs:(Ak c aG).State=1:=by rw[<-gE];exact hs
   have ho:¬ca (Iq c aG) 10=true:=by rw[<-gC];exact fun c=>absurd (ho.symm.trans c) (by decide)
   exact fin (instT p) (aa (lp cu) 10) (by rw[instD,if_neg (fun c=>ho c.2),gE]) (by rw[instDC,if_pos hs,gC])
  ·have hs:¬(Ak c aG).State=1:=by rw[<-gE];exact hs
   exact fin (instT p) (lp cu) (by rw[instD,if_neg (fun c=>hs c.1),gE]) (by rw[instDC,if_neg hs,gC])
def X5:=cj (α:=ag) (q1 qU) [.box false] (fun c=>[bh c]) (fun c=>⟨[dA .dE (qe c)],[],[dU (qw c)]⟩)
def Dk(c:ag):O4×O4×T4×Unit->Prop:=fun(r,p,cu,_)=>p.1=(ue c).Kind/\p.2.2.1=(ue c).Not/\bh ⟨cu.1,cu.2.1,cu.2.2.1⟩/\p.2.1.length<=6/\mC p.2.1 ⟨cu.1,cu.2.1,cu.2.2.1⟩=mC (ue c).av (FN c)
def I'(c:ag):O4×O4×T4×Unit->Nat:=fun(r,p,cu,_)=>6-p.2.1.length
def ai0:AX X5:=fun c=>bW [(8,aU [.box 2 (2,1024) [.lit .str,.own .gH true,.lit .bool],.box 3 (3,1024) [.lit .str,.own .gH true,.lit .bool],.box 0 (2000000,0) [.shr .byte,.lit (.int .i64),.lit (.int .i64)]] (fun _=>Dk c) (I' c))]
def ahS:HH:=hF X5 func146 [AE,Yw,nb,sb,OV] ai0 fun(c:ag) hp hb=>by
 have ey:=tQ (x:=c) (hb _ m0)
 have bo:bh c:=hp _ m0
 clear hp hb
 apply vE (let x7:=pd (ca c 3) (aa c 3);let x9:={data:= #[]:BA};let oV:=jJ (aa c 3);let x3:=[x9,{data:= #[(120:UInt8)]:BA},{data:= #[(88:UInt8)]:BA}];let x4:=[x9,{data:= #[(65:UInt8)]:BA},{data:= #[(120:UInt8)]:BA}];let x5:=aa oV 10;let x6:=x7.av;let x8:=af oV 10;let x0:=b_ (aa x5 5) x3;let x1:=b_ x5 x4;let x2:=[{K:=af x5 5,S:=cB (aa x5 5) x3,V:={K:=(0:Int),N:=(0:Int),S:=x9:a_}:cN}];let q0:=(qe c).Kind;bh c/\bh (aa c 3)/\0<=oV.i/\L4 oV.b.length/\bif x8==0 then bh x5/\1<=x4.length/\LM [DV.agg [CS (cB x5 x4),CL .gH x6,CO x7.Not]] [DV.agg [CS q0,CL .gH (qe c).av,CO ((qe c).Not)]] [bU x1] [bU (qw c)] else bif x8==1 then 0<=x5.i/\L4 x5.b.length/\bh (aa x5 5)/\1<=x3.length/\L4 (x6.length+x2.length)/\LM [DV.agg [CS x7.Kind,CL .gH (x6++x2),CO x7.Not]] [DV.agg [CS q0,CL .gH (qe c).av,CO ((qe c).Not)]] [bU x0] [bU (qw c)] else bif x8==2 then Dk c ((x9,[],false,()),(x7.Kind,x6,x7.Not,()),(x5.b,x5.i,x5.h,()),())/\∀(y:T18×T18×O3×PUnit),let iw:={b:=y.2.2.1.1,i:=y.2.2.1.2.1,h:=y.2.2.1.2.2.1:ag};let vj:=y.2.1.2.1.length;let qb:=aa iw 2;let wI:=wrap i64 (5+af iw 2);let zv:=(↑vj:Int);let q1:=((y.1.1,y.1.2.1,y.1.2.2.1,()),(y.2.1.1,y.2.1.2.1++[io qb],y.2.1.2.2.1,()),((hJ qb).b,(hJ qb).i,(hJ qb).h,()),());Dk c y->0<=y.2.2.1.2.1/\L4 y.2.2.1.1.length/\bif decide (zv<wI) then bh qb/\vj+List.length [io qb]<=4294967296/\Dk c q1/\I' c q1<I' c y else LM [DV.agg [CS y.2.1.1,CL .gH y.2.1.2.1,CO y.2.1.2.2.1]] [DV.agg [CS q0,CL .gH (qe c).av,CO ((qe c).Not)]] [bU qb] [bU (qw c)] else LM [DV.agg [CS x7.Kind,CL .gH x6,CO x7.Not]] [DV.agg [CS q0,CL .gH (qe c).av,CO ((qe c).Not)]] [bU x5] [bU (qw c)])
 dsimp only
 have h3:=ao bo 3
 have hk:=pV h3
 have he:=Iv bo
 have hpo:=(wU (xP (ca c 3) (aa c 3))).1
 have A7:(ue c).av.length<=5:=hpo
 refine⟨bo,h3,hk.1,hk.2,bi (fun k=> ?_) (fun k0=>bi (fun k=> ?_) (fun k1=>bi (fun k=> ?_) (fun k2=> ?_)))⟩
 ·have e1:qe c=⟨cB (FN c) tT,(ue c).av,(ue c).Not⟩:=if_pos k
  have e2:qw c=b_ (FN c) tT:=if_pos k
  exact⟨he,by decide,rfl,LdP e1.symm e2.symm⟩
 ·have e1:qe c=⟨(ue c).Kind,(ue c).av++[paA c],(ue c).Not⟩:=(if_neg k0).trans (if_pos k)
  have e2:qw c=b_ (aa (FN c) 5) Re:=(if_neg k0).trans (if_pos k)
  exact⟨he.1,he.2,ao he 5,by decide,by simp only[fY,fG];omega,rfl,LdP e1.symm e2.symm⟩
 ·have e1:qe c=⟨(ue c).Kind,(mC (ue c).av (FN c)).1,(ue c).Not⟩:=(if_neg k0).trans ((if_neg k1).trans (if_pos k))
  have e2:qw c=(mC (ue c).av (FN c)).2:=(if_neg k0).trans ((if_neg k1).trans (if_pos k))
  refine⟨⟨rfl,rfl,he,by show(ue c).av.length<=6;omega,rfl⟩,?_⟩
  rintro⟨r,p,cu,⟨⟩⟩ ⟨hK,hN,Ge,hlen,hF⟩
  have hK:p.1=(ue c).Kind:=hK
  have hN:p.2.2.1=(ue c).Not:=hN
  have Ge:bh (lp cu):=Ge
  have hlen:p.2.1.length<=6:=hlen
  have hF:mC p.2.1 (lp cu)=mC (ue c).av (FN c):=hF
  have hb:=bx (c:=lp cu) (n:=2) (by omega)
  have hw:IntKind.wrap .i64 (5+af (lp cu) 2)=5+af (lp cu) 2:=wi
  refine⟨Ge.1,Ge.2,aQ (fun g=> ?_) (fun g=> ?_)⟩
  ·have g:(p.2.1.length:Int)<5+af (lp cu) 2:=hw▸g
   rw[G0 g] at hF
   exact⟨ao Ge 2,by show p.2.1.length+1<=4294967296;omega,⟨hK,hN,qM (ao Ge 2),by show(p.2.1++[io (aa (lp cu) 2)]).length<=6;simp only[kI,fY,fG];omega,hF⟩,by show 6-(p.2.1++[io (aa (lp cu) 2)]).length<6-p.2.1.length;simp only[kI,fY,fG];omega⟩
  ·have g:¬(p.2.1.length:Int)<5+af (lp cu) 2:=hw▸g
   rw[Lp g] at hF
   exact⟨rfl,LdP (a:=⟨p.1,p.2.1,p.2.2.1⟩) (d:=aa (lp cu) 2) (by rw[e1,<-hF,hK,hN]) (by rw[e2,<-hF])⟩
 ·have e1:qe c=ue c:=(if_neg k0).trans ((if_neg k1).trans (if_neg k2))
  have e2:qw c=FN c:=(if_neg k0).trans ((if_neg k1).trans (if_neg k2))
  exact⟨rfl,LdP e1.symm e2.symm⟩
def oG(c:ag):dB:=yH c
def A4(c:ag):ag:=rr c
def aae(p:Int×Int×BA×Int×Int×BA×Int×BA×Int×Int×BA×Unit):dB:=⟨p.1,⟨p.2.1,p.2.2.1,⟨p.2.2.2.1,p.2.2.2.2.1,p.2.2.2.2.2.1⟩⟩,⟨p.2.2.2.2.2.2.1,p.2.2.2.2.2.2.2.1,⟨p.2.2.2.2.2.2.2.2.1,p.2.2.2.2.2.2.2.2.2.1,p.2.2.2.2.2.2.2.2.2.2.1⟩⟩⟩
def ajx(x:dB):Int×Int×BA×Int×Int×BA×Int×BA×Int×Int×BA×Unit:=(x.Op,x.L.K,x.L.S,x.L.V.K,x.L.V.N,x.L.V.S,x.R.K,x.R.S,x.R.V.K,x.R.V.N,x.R.V.S,())
theorem WC{a a':dB}{d d':ag}(h1:a=a')(h2:d=d'):dZ [DV.agg [CI a.Op,CI a.L.K,.lit (.string a.L.S),CI a.L.V.K,CI a.L.V.N,.lit (.string a.L.V.S),CI a.R.K,.lit (.string a.R.S),CI a.R.V.K,CI a.R.V.N,.lit (.string a.R.V.S)]]=dZ [DV.agg [CI a'.Op,CI a'.L.K,.lit (.string a'.L.S),CI a'.L.V.K,CI a'.L.V.N,.lit (.string a'.L.V.S),CI a'.R.K,.lit (.string a'.R.S),CI a'.R.V.K,CI a'.R.V.N,.lit (.string a'.R.V.S)]]/\dZ [DV.box [.sl .byte d.b,CI d.i,CI d.h]]=dZ [DV.box [.sl .byte d'.b,CI d'.i,CI d'.h]]:=by subst h1 h2;exact⟨rfl,rfl⟩
def afX:=cj (α:=ag) (q1 qU) [.box false] (fun c=>[bh c]) (fun c=>⟨[dA .bT (oG c)],[],[dU (A4 c)]⟩)
def ahy:HH:=hF afX func174 [nb,TS] a0 fun(c:ag) hp hb=>by
 have ey:=tQ (x:=c) (hb _ m0)
 have bo:bh c:=hp _ m0
 clear hp hb
 apply vE (let x1:=(eI (aa c 3)).V;let x2:=eI (df (aa c 3));let x3:=df (df (aa c 3));let x0:=x2.V;let q0:=aa c 3;0<=c.i/\L4 c.b.length/\bh q0/\bh (df q0)/\LM [DV.agg [CI (wrap i64 (1+af c 3)),CI ((eI q0).K),CS ((eI q0).S),CI x1.K,CI x1.N,CS x1.S,CI x2.K,CS x2.S,CI x0.K,CI x0.N,CS x0.S]] [DV.agg [CI ((oG c).Op),CI ((oG c).L.K),CS ((oG c).L.S),CI ((oG c).L.V.K),CI ((oG c).L.V.N),CS ((oG c).L.V.S),CI ((oG c).R.K),CS ((oG c).R.S),CI ((oG c).R.V.K),CI ((oG c).R.V.N),CS ((oG c).R.V.S)]] [bU x3] [bU (A4 c)])
 dsimp only
 have hb:=bx (c:=c) (n:=3) (by omega)
 have h3:=ao bo 3
 rw[wi]
 exact⟨bo.1,bo.2,h3,pU h3,by trivial,rfl,rfl⟩
def u9:=cj (α:=ag) (q1 qU) [.box false] (fun c=>[bh c]) (fun c=>⟨[dA .bT (dz c)],[],[dU (iz c)]⟩)
def OZ:AX u9:=fun c=>bW []
def OS:=us [ahy,nb,OV]
def kU(c:ag):T5×T5×T4×Unit->Prop:=fun(r,p,cu,_)=>aae p=oG c/\lp cu=A4 c
def mR:u9.α->ud UU:=fun c=>aU [.box 2 (2,1024) [.lit (.int .i64),.lit (.int .i64),.lit .str,.lit (.int .i64),.lit (.int .i64),.lit .str,.lit (.int .i64),.lit .str,.lit (.int .i64),.lit (.int .i64),.lit .str],.box 3 (3,1024) [.lit (.int .i64),.lit (.int .i64),.lit .str,.lit (.int .i64),.lit (.int .i64),.lit .str,.lit (.int .i64),.lit .str,.lit (.int .i64),.lit (.int .i64),.lit .str],.box 0 (2000000,0) [.shr .byte,.lit (.int .i64),.lit (.int .i64)]] (fun _=>kU c) (fun _=>0)
theorem aeq(c:ag)(y:T5×T5×T4×Unit):mO EE OS f147 u9 OZ c 2 (mR c) y=(let x2:={b:=y.2.2.1.1,i:=y.2.2.1.2.1,h:=y.2.2.1.2.2.1:ag};
let x0:=aa x2 (8:Int);
let x1:=af x2 (8:Int);
(0:Int)<=y.2.2.1.2.1/\y.2.2.1.1.length<=(4294967296:Nat)/\bif x1==(0:Int) then(0:Int)<=x0.i/\x0.b.length<=(4294967296:Nat)/\(0:Nat)=(0:Nat)/\dZ [DV.agg [Cell.lit (Value.int IntKind.i64 (af x0 (6:Int))),Cell.lit (Value.int IntKind.i64 y.2.1.2.1),Cell.lit (Value.string y.2.1.2.2.1),Cell.lit (Value.int IntKind.i64 y.2.1.2.2.2.1),Cell.lit (Value.int IntKind.i64 y.2.1.2.2.2.2.1),Cell.lit (Value.string y.2.1.2.2.2.2.2.1),Cell.lit (Value.int IntKind.i64 y.2.1.2.2.2.2.2.2.1),Cell.lit (Value.string y.2.1.2.2.2.2.2.2.2.1),Cell.lit (Value.int IntKind.i64 y.2.1.2.2.2.2.2.2.2.2.1),Cell.lit (Value.int IntKind.i64 y.2.1.2.2.2.2.2.2.2.2.2.1),Cell.lit (Value.string y.2.1.2.2.2.2.2.2.2.2.2.2.1)]]=dZ [DV.agg [Cell.lit (Value.int IntKind.i64 (dz c).Op),Cell.lit (Value.int IntKind.i64 (dz c).L.K),Cell.lit (Value.string (dz c).L.S),Cell.lit (Value.int IntKind.i64 (dz c).L.V.K),Cell.lit (Value.int IntKind.i64 (dz c).L.V.N),Cell.lit (Value.string (dz c).L.V.S),Cell.lit (Value.int IntKind.i64 (dz c).R.K),Cell.lit (Value.string (dz c).R.S),Cell.lit (Value.int IntKind.i64 (dz c).R.V.K),Cell.lit (Value.int IntKind.i64 (dz c).R.V.N),Cell.lit (Value.string (dz c).R.V.S)]]/\dZ [DV.box [Cell.sl Cd.byte (aa x0 (6:Int)).b,Cell.lit (Value.int IntKind.i64 (aa x0 (6:Int)).i),Cell.lit (Value.int IntKind.i64 (aa x0 (6:Int)).h)]]=dZ [DV.box [Cell.sl Cd.byte (iz c).b,Cell.lit (Value.int IntKind.i64 (iz c).i),Cell.lit (Value.int IntKind.i64 (iz c).h)]] else bif x1==(1:Int) then bh x0/\(0:Nat)=(0:Nat)/\dZ [DV.agg [Cell.lit (Value.int IntKind.i64 y.2.1.1),Cell.lit (Value.int IntKind.i64 (io x0).K),Cell.lit (Value.string (io x0).S),Cell.lit (Value.int IntKind.i64 (io x0).V.K),Cell.lit (Value.int IntKind.i64 (io x0).V.N),Cell.lit (Value.string (io x0).V.S),Cell.lit (Value.int IntKind.i64 y.2.1.2.2.2.2.2.2.1),Cell.lit (Value.string y.2.1.2.2.2.2.2.2.2.1),Cell.lit (Value.int IntKind.i64 y.2.1.2.2.2.2.2.2.2.2.1),Cell.lit (Value.int IntKind.i64 y.2.1.2.2.2.2.2.2.2.2.2.1),Cell.lit (Value.string y.2.1.2.2.2.2.2.2.2.2.2.2.1)]]=dZ [DV.agg [Cell.lit (Value.int IntKind.i64 (dz c).Op),Cell.lit (Value.int IntKind.i64 (dz c).L.K),Cell.lit (Value.string (dz c).L.S),Cell.lit (Value.int IntKind.i64 (dz c).L.V.K),Cell.lit (Value.int IntKind.i64 (dz c).L.V.N),Cell.lit (Value.string (dz c).L.V.S),Cell.lit (Value.int IntKind.i64 (dz c).R.K),Cell.lit (Value.string (dz c).R.S),Cell.lit (Value.int IntKind.i64 (dz c).R.V.K),Cell.lit (Value.int IntKind.i64 (dz c).R.V.N),Cell.lit (Value.string (dz c).R.V.S)]]/\dZ [DV.box [Cell.sl Cd.byte (hJ x0).b,Cell.lit (Value.int IntKind.i64 (hJ x0).i),Cell.lit (Value.int IntKind.i64 (hJ x0).h)]]=dZ [DV.box [Cell.sl Cd.byte (iz c).b,Cell.lit (Value.int IntKind.i64 (iz c).i),Cell.lit (Value.int IntKind.i64 (iz c).h)]] else bif x1==(2:Int) then(0:Int)<=x0.i/\x0.b.length<=(4294967296:Nat)/\(0:Nat)=(0:Nat)/\dZ [DV.agg [Cell.lit (Value.int IntKind.i64 y.2.1.1),Cell.lit (Value.int IntKind.i64 y.2.1.2.1),Cell.lit (Value.string y.2.1.2.2.1),Cell.lit (Value.int IntKind.i64 y.2.1.2.2.2.1),Cell.lit (Value.int IntKind.i64 y.2.1.2.2.2.2.1),Cell.lit (Value.string y.2.1.2.2.2.2.2.1),Cell.lit (Value.int IntKind.i64 (af x0 (5:Int))),Cell.lit (Value.string {data:= #[]:BA}),Cell.lit (Value.int IntKind.i64 (0:Int)),Cell.lit (Value.int IntKind.i64 (0:Int)),Cell.lit (Value.string {data:= #[]:BA})]]=dZ [DV.agg [Cell.lit (Value.int IntKind.i64 (dz c).Op),Cell.lit (Value.int IntKind.i64 (dz c).L.K),Cell.lit (Value.string (dz c).L.S),Cell.lit (Value.int IntKind.i64 (dz c).L.V.K),Cell.lit (Value.int IntKind.i64 (dz c).L.V.N),Cell.lit (Value.string (dz c).L.V.S),Cell.lit (Value.int IntKind.i64 (dz c).R.K),Cell.lit (Value.string (dz c).R.S),Cell.lit (Value.int IntKind.i64 (dz c).R.V.K),Cell.lit (Value.int IntKind.i64 (dz c).R.V.N),Cell.lit (Value.string (dz c).R.V.S)]]/\dZ [DV.box [Cell.sl Cd.byte (aa x0 (5:Int)).b,Cell.lit (Value.int IntKind.i64 (aa x0 (5:Int)).i),Cell.lit (Value.int IntKind.i64 (aa x0 (5:Int)).h)]]=dZ [DV.box [Cell.sl Cd.byte (iz c).b,Cell.lit (Value.int IntKind.i64 (iz c).i),Cell.lit (Value.int IntKind.i64 (iz c).h)]] else(0:Nat)=(0:Nat)/\dZ [DV.agg [Cell.lit (Value.int IntKind.i64 y.2.1.1),Cell.lit (Value.int IntKind.i64 y.2.1.2.1),Cell.lit (Value.string y.2.1.2.2.1),Cell.lit (Value.int IntKind.i64 y.2.1.2.2.2.1),Cell.lit (Value.int IntKind.i64 y.2.1.2.2.2.2.1),Cell.lit (Value.string y.2.1.2.2.2.2.2.1),Cell.lit (Value.int IntKind.i64 y.2.1.2.2.2.2.2.2.1),Cell.lit (Value.string y.2.1.2.2.2.2.2.2.2.1),Cell.lit (Value.int IntKind.i64 y.2.1.2.2.2.2.2.2.2.2.1),Cell.lit (Value.int IntKind.i64 y.2.1.2.2.2.2.2.2.2.2.2.1),Cell.lit (Value.string y.2.1.2.2.2.2.2.2.2.2.2.2.1)]]=dZ [DV.agg [Cell.lit (Value.int IntKind.i64 (dz c).Op),Cell.lit (Value.int IntKind.i64 (dz c).L.K),Cell.lit (Value.string (dz c).L.S),Cell.lit (Value.int IntKind.i64 (dz c).L.V.K),Cell.lit (Value.int IntKind.i64 (dz c).L.V.N),Cell.lit (Value.string (dz c).L.V.S),Cell.lit (Value.int IntKind.i64 (dz c).R.K),Cell.lit (Value.string (dz c).R.S),Cell.lit (Value.int IntKind.i64 (dz c).R.V.K),Cell.lit (Value.int IntKind.i64 (dz c).R.V.N),Cell.lit (Value.string (dz c).R.V.S)]]/\dZ [DV.box [Cell.sl Cd.byte x0.b,Cell.lit (Value.int IntKind.i64 x0.i),Cell.lit (Value.int IntKind.i64 x0.h)]]=dZ [DV.box [Cell.sl Cd.byte (iz c).b,Cell.lit (Value.int IntKind.i64 (iz c).i),Cell.lit (Value.int IntKind.i64 (iz c).h)]]):=by kernel_rfl
theorem FW(c:ag)(y:T5×T5×T4×Unit)(hp:∀p∈u9.pre c,p)(hb:∀d∈u9.ds c,gh d)(hy:kU c y):mO EE OS f147 u9 OZ c 2 (mR c) y:=by
 have ey:=tQ (x:=c) (hb _ m0)
 have bo:bh c:=hp _ m0
 clear hp hb
 rw[aeq c y]
 dsimp only
 obtain⟨r,p,cu,⟨⟩⟩:=y
 obtain⟨hp,Ge⟩:=hy
 have hp:aae p=oG c:=hp
 have Ge:lp cu=A4 c:=Ge
 have ep:p=ajx (aae p):=rfl
 have ec:cu=UF (lp cu):=rfl
 rw[hp] at ep
 rw[Ge] at ec
 subst ep ec
 have hk:bh (A4 c):=Ap bo
 have he:bh (JY c):=OG bo
 refine⟨hk.1,hk.2,bi (fun k=> ?_) (fun k0=>bi (fun k=> ?_) (fun k1=>bi (fun k=> ?_) (fun k2=> ?_)))⟩
 ·have e1:dz c=⟨af (JY c) 6,(Mo c).L,(Mo c).R⟩:=if_pos k
  have e2:iz c=aa (JY c) 6:=if_pos k
  exact⟨he.1,he.2,rfl,WC e1.symm e2.symm⟩
 ·have e1:dz c=⟨(Mo c).Op,io (JY c),(Mo c).R⟩:=(if_neg k0).trans (if_pos k)
  have e2:iz c=hJ (JY c):=(if_neg k0).trans (if_pos k)
  exact⟨he,rfl,WC e1.symm e2.symm⟩
 ·have e1:dz c=⟨(Mo c).Op,(Mo c).L,⟨af (JY c) 5,aj,ee⟩⟩:=(if_neg k0).trans ((if_neg k1).trans (if_pos k))
  have e2:iz c=aa (JY c) 5:=(if_neg k0).trans ((if_neg k1).trans (if_pos k))
  exact⟨he.1,he.2,rfl,WC e1.symm e2.symm⟩
 ·have e1:dz c=Mo c:=(if_neg k0).trans ((if_neg k1).trans (if_neg k2))
  have e2:iz c=JY c:=(if_neg k0).trans ((if_neg k1).trans (if_neg k2))
  exact⟨rfl,WC e1.symm e2.symm⟩
theorem FV(c:ag)(hp:∀p∈u9.pre c,p)(hb:∀d∈u9.ds c,gh d):rk EE OS f147 u9 OZ c 2 (mR c):=by
 have ey:=tQ (x:=c) (hb _ m0)
 have bo:bh c:=hp _ m0
 clear hp hb
 apply vE (let x0:={data:= #[]:BA};bh c/\kU c ((0,0,x0,0,0,x0,0,x0,0,0,x0,()),((oG c).Op,(oG c).L.K,(oG c).L.S,(oG c).L.V.K,(oG c).L.V.N,(oG c).L.V.S,(oG c).R.K,(oG c).R.S,(oG c).R.V.K,(oG c).R.V.N,(oG c).R.V.S,()),((A4 c).b,(A4 c).i,(A4 c).h,()),()))
 dsimp only
 exact⟨bo,rfl,rfl⟩
attribute [local irreducible] rk mO in
theorem aeB:Holds EE (147,u9):=by
 refine vu qZ func147 u9 (by kernel_rfl) OS (xz _) OZ 2 mR (by kernel_rfl) (fun(c:ag) hp hb=> ?_)
 refine⟨FV c hp hb,fun(y:T5×T5×T4×Unit) hy=> ?_⟩
 have hy:kU c y:=hy
 exact FW c y hp hb hy
def ahR:HH:=⟨_,aeB⟩
def af7:=cj (α:=ag) (q1 qU) [.box false] (fun c=>[bh c]) (fun c=>⟨[dA .dG (oN c)],[],[dU (nt c)]⟩)
def ahQ:HH:=hF af7 func148 [Yv,nb,sb,FG,OV] a0 fun(c:ag) hp hb=>by
 have ey:=tQ (x:=c) (hb _ m0)
 have bo:bh c:=hp _ m0
 clear hp hb
 apply vE (let x2:=aa (p6 2 c) 10;let x3:=[{data:= #[]:BA},{data:= #[(65:UInt8)]:BA},{data:= #[(120:UInt8)]:BA}];let x8:=[{data:= #[]:BA},{data:= #[(42:UInt8)]:BA}];let x9:=af (p6 2 c) 10;let wI:=[(-1),7,8,100001];let x1:=b_ x2 x3;let x7:=b_ x2 x8;let qb:=wI.length;let x6:=hJ x7;let oV:=(↑qb:Int);let x0:=[{Op:=cB x2 x8,L:=io x7,R:=io x6:cn}];let x4:=aa x2 oV;let x5:=hJ x6;let q0:=xh 2 c;let q1:=(oN c).Kind;let q2:=(oN c).Name;let q3:=(oN c).aR;let q4:=(oN c).N;bh c/\0<=(p6 2 c).i/\(p6 2 c).b.length<=4294967296/\bif x9==0 then 0<=x2.i/\L4 x2.b.length/\LM [DV.agg [CI (af x2 8),CS (q0.Name),CL .bG q0.av,CI (q0.N),CS (q0.aR)]] [DV.agg [CI q1,CS q2,CL .bG (oN c).av,CI q4,CS q3]] [bU (aa x2 8)] [bU (nt c)] else bif x9==1 then bh x2/\1<=x3.length/\LM [DV.agg [CI (q0.Kind),CS (cB x2 x3),CL .bG q0.av,CI (q0.N),CS (q0.aR)]] [DV.agg [CI q1,CS q2,CL .bG (oN c).av,CI q4,CS q3]] [bU x1] [bU (nt c)] else bif x9==2 then 0<=x2.i/\L4 x2.b.length/\1<=qb/\LM [DV.agg [CI (q0.Kind),CS (q0.Name),CL .bG q0.av,CI (wI.getD (Int.toNat (af x2 oV)) 0),CS (q0.aR)]] [DV.agg [CI q1,CS q2,CL .bG (oN c).av,CI q4,CS q3]] [bU x4] [bU (nt c)] else bif x9==3 then bh x2/\1<=x3.length/\LM [DV.agg [CI (q0.Kind),CS (q0.Name),CL .bG q0.av,CI (q0.N),CS (cB x2 x3)]] [DV.agg [CI q1,CS q2,CL .bG (oN c).av,CI q4,CS q3]] [bU x1] [bU (nt c)] else bif x9==4 then bh x2/\1<=x8.length/\bh x7/\bh x6/\L4 (q0.av.length+x0.length)/\LM [DV.agg [CI (q0.Kind),CS (q0.Name),CL .bG (q0.av++x0),CI (q0.N),CS (q0.aR)]] [DV.agg [CI q1,CS q2,CL .bG (oN c).av,CI q4,CS q3]] [bU x5] [bU (nt c)] else LM [DV.agg [CI (q0.Kind),CS (q0.Name),CL .bG q0.av,CI (q0.N),CS (q0.aR)]] [DV.agg [CI q1,CS q2,CL .bG (oN c).av,CI q4,CS q3]] [bU x2] [bU (nt c)])
 dsimp only
 have hk:=yK 2 bo
 have he:=OH bo
 have hl:=(L0 c).2.2.2.2
 have hl:(xh 2 c).av.length<=2:=hl
 refine⟨bo,hk.1,hk.2,bi (fun k=> ?_) (fun k0=>bi (fun k=> ?_) (fun k1=>bi (fun k=> ?_) (fun k2=>bi (fun k=> ?_) (fun k3=>bi (fun k=> ?_) (fun k4=> ?_)))))⟩
 ·have e1:oN c=⟨af (Fs c) 8,(oQ c).Name,(oQ c).av,(oQ c).N,(oQ c).aR⟩:=if_pos k
  have e2:nt c=aa (Fs c) 8:=if_pos k
  exact⟨he.1,he.2,rfl,sf e1.symm e2.symm⟩
 ·have e1:oN c=⟨(oQ c).Kind,cB (Fs c) tT,(oQ c).av,(oQ c).N,(oQ c).aR⟩:=(if_neg k0).trans (if_pos k)
  have e2:nt c=b_ (Fs c) tT:=(if_neg k0).trans (if_pos k)
  exact⟨he,by decide,rfl,sf e1.symm e2.symm⟩
 ·have e1:oN c=⟨(oQ c).Kind,(oQ c).Name,(oQ c).av,g_ (Fs c) VK,(oQ c).aR⟩:=(if_neg k0).trans ((if_neg k1).trans (if_pos k))
  have e2:nt c=kE (Fs c) VK:=(if_neg k0).trans ((if_neg k1).trans (if_pos k))
  exact⟨he.1,he.2,by decide,rfl,sf e1.symm e2.symm⟩
 ·have e1:oN c=⟨(oQ c).Kind,(oQ c).Name,(oQ c).av,(oQ c).N,cB (Fs c) tT⟩:=(if_neg k0).trans ((if_neg k1).trans ((if_neg k2).trans (if_pos k)))
  have e2:nt c=b_ (Fs c) tT:=(if_neg k0).trans ((if_neg k1).trans ((if_neg k2).trans (if_pos k)))
  exact⟨he,by decide,rfl,sf e1.symm e2.symm⟩
 ·have e1:oN c=⟨(oQ c).Kind,(oQ c).Name,(oQ c).av++[acX c],(oQ c).N,(oQ c).aR⟩:=(if_neg k0).trans ((if_neg k1).trans ((if_neg k2).trans ((if_neg k3).trans (if_pos k))))
  have e2:nt c=hJ (hJ (QG c)):=(if_neg k0).trans ((if_neg k1).trans ((if_neg k2).trans ((if_neg k3).trans (if_pos k))))
  exact⟨he,by decide,ed he _,qM (ed he _),by simp only[fY,fG];omega,rfl,sf e1.symm e2.symm⟩
 ·have e1:oN c=oQ c:=(if_neg k0).trans ((if_neg k1).trans ((if_neg k2).trans ((if_neg k3).trans (if_neg k4))))
  have e2:nt c=Fs c:=(if_neg k0).trans ((if_neg k1).trans ((if_neg k2).trans ((if_neg k3).trans (if_neg k4))))
  exact⟨rfl,sf e1.symm e2.symm⟩
def am0:=cj (α:=ag×aY) (qC qU (q1 (qA .bz))) [.box false,.ro] (fun(c,r)=>[bh c,1<=r.aD.length/\r.aD.length<=4294967200,r.aO.length<=4294967200,r.bH.length<=4294967200]) (fun(c,r)=>⟨[dA .bz (mU r c)],[false],[dU (gy c)]⟩)
def agv:HH:=hF am0 func98 [nb,sb,FG,ahS,ahR,ahQ] a0 fun x hp hb=>by
 obtain⟨c,r⟩:=x
 have ey:=tQ (x:=c) (hb _ m0)
 have dw:=jE (x:=r) (hb _ m1)
 have iF:=dw.1
 have iE:=dw.2.1
 have gT:=dw.2.2.1
 have iG:=dw.2.2.2
 have bo:bh c:=hp _ m0
 have fw:1<=r.aD.length/\r.aD.length<=4294967200:=hp _ m1
 have JW:r.aO.length<=4294967200:=hp _ m2
 have hp3:r.bH.length<=4294967200:=hp _ m3
 clear hp hb
 apply vE (let x1:=[{data:= #[]:BA},{data:= #[(65:UInt8)]:BA},{data:= #[(120:UInt8)]:BA}];let x3:List cr:=[]++r.aD;let x6:=[(-101),101,100];let x7:=Option.getD (some 0) (r.bH.length:Int);let x8:List dB:=[]++r.aO;let x9:List eK:=[]++r.bH;let x0:=b_ (aa c 10) x1;let x5:=x6.length;let x4:=(↑x5:Int);let x2:=aa (aa c 10) x4;let q0:=mU r c;let q1:=aa c 10;0+r.aD.length<=4294967296/\0<=c.i/\L4 c.b.length/\bif af c (10:Int)==(0:Int) then bh q1/\1<=x1.length/\LM [DV.agg [CS (cB q1 x1),CI r.jq,CL .dE x3,CL .bT r.aO,CL .dG r.bH]] [DV.agg [CS (q0.Name),CI (q0.jq),CL .dE q0.aD,CL .bT q0.aO,CL .dG q0.bH]] [bU x0] [bU (gy c)] else bif af c (10:Int)==(1:Int) then 0<=q1.i/\L4 q1.b.length/\1<=x5/\LM [DV.agg [CS r.Name,CI (x6.getD (Int.toNat (af q1 x4)) 0),CL .dE x3,CL .bT r.aO,CL .dG r.bH]] [DV.agg [CS (q0.Name),CI (q0.jq),CL .dE q0.aD,CL .bT q0.aO,CL .dG q0.bH]] [bU x2] [bU (gy c)] else bif af c (10:Int)==(2:Int) then bh q1/\x3.length+List.length [qe q1]<=4294967296/\LM [DV.agg [CS r.Name,CI r.jq,CL .dE (x3++[qe q1]),CL .bT r.aO,CL .dG r.bH]] [DV.agg [CS (q0.Name),CI (q0.jq),CL .dE q0.aD,CL .bT q0.aO,CL .dG q0.bH]] [bU (qw q1)] [bU (gy c)] else bif af c (10:Int)==(3:Int) then 0+r.aO.length<=4294967296/\bh q1/\x8.length+List.length [dz q1]<=4294967296/\LM [DV.agg [CS r.Name,CI r.jq,CL .dE x3,CL .bT (x8++[dz q1]),CL .dG r.bH]] [DV.agg [CS (q0.Name),CI (q0.jq),CL .dE q0.aD,CL .bT q0.aO,CL .dG q0.bH]] [bU (iz q1)] [bU (gy c)] else bif af c (10:Int)==(4:Int) then 0+r.bH.length<=4294967296/\bh q1/\x9.length+List.length [oN q1]<=4294967296/\LM [DV.agg [CS r.Name,CI r.jq,CL .dE x3,CL .bT r.aO,CL .dG (x9++[oN q1])]] [DV.agg [CS (q0.Name),CI (q0.jq),CL .dE q0.aD,CL .bT q0.aO,CL .dG q0.bH]] [bU (nt q1)] [bU (gy c)] else bif af c (10:Int)==(5:Int) then(0:Int)<=(0:Int)/\Int.toNat 0<x3.length/\nat_lit 0<x3.length/\LM [DV.agg [CS r.Name,CI r.jq,CL .dE (x3.modify (nat_lit 0) fun(x:cr)=>{Kind:=x.Kind,av:=x.av,Not:=true:cr}),CL .bT r.aO,CL .dG r.bH]] [DV.agg [CS (q0.Name),CI (q0.jq),CL .dE q0.aD,CL .bT q0.aO,CL .dG q0.bH]] [bU q1] [bU (gy c)] else bif af c (10:Int)==(6:Int) then 0<=Option.getD none (0:Int)/\Option.getD none (0:Int)<=x7/\x7<=(r.bH.length:Int)/\LM [DV.agg [CS r.Name,CI r.jq,CL .dE x3,CL .bT r.aO,CL .dG []]] [DV.agg [CS (q0.Name),CI (q0.jq),CL .dE q0.aD,CL .bT q0.aO,CL .dG q0.bH]] [bU q1] [bU (gy c)] else LM [DV.agg [CS r.Name,CI r.jq,CL .dE x3,CL .bT r.aO,CL .dG r.bH]] [DV.agg [CS (q0.Name),CI (q0.jq),CL .dE q0.aD,CL .bT q0.aO,CL .dG q0.bH]] [bU q1] [bU (gy c)])
 dsimp only
 have he:=ao bo 10
 refine⟨by show 0+r.aD.length<=4294967296;omega,bo.1,bo.2,bi (fun k=> ?_) (fun k0=>bi (fun k=> ?_) (fun k1=>bi (fun k=> ?_) (fun k2=>bi (fun k=> ?_) (fun k3=>bi (fun k=> ?_) (fun k4=>bi (fun k=> ?_) (fun k5=>bi (fun k=> ?_) (fun k6=> ?_)))))))⟩
 ·have e1:mU r c=⟨cB (aa c 10) tT,r.jq,r.aD,r.aO,r.bH⟩:=if_pos k
  have e2:gy c=b_ (aa c 10) tT:=if_pos k
  exact⟨he,by decide,rfl,Uf e1.symm e2.symm⟩
 ·have e1:mU r c=⟨r.Name,g_ (aa c 10) VJ,r.aD,r.aO,r.bH⟩:=(if_neg k0).trans (if_pos k)
  have e2:gy c=kE (aa c 10) VJ:=(if_neg k0).trans (if_pos k)
  exact⟨he.1,he.2,by decide,rfl,Uf e1.symm e2.symm⟩
 ·have e1:mU r c=⟨r.Name,r.jq,r.aD++[qe (aa c 10)],r.aO,r.bH⟩:=(if_neg k0).trans ((if_neg k1).trans (if_pos k))
  have e2:gy c=qw (aa c 10):=(if_neg k0).trans ((if_neg k1).trans (if_pos k))
  exact⟨he,by show r.aD.length+1<=4294967296;omega,rfl,Uf e1.symm e2.symm⟩
 ·have e1:mU r c=⟨r.Name,r.jq,r.aD,r.aO++[dz (aa c 10)],r.bH⟩:=(if_neg k0).trans ((if_neg k1).trans ((if_neg k2).trans (if_pos k)))
  have e2:gy c=iz (aa c 10):=(if_neg k0).trans ((if_neg k1).trans ((if_neg k2).trans (if_pos k)))
  exact⟨by show 0+r.aO.length<=4294967296;omega,he,by show r.aO.length+1<=4294967296;omega,rfl,Uf e1.symm e2.symm⟩
 ·have e1:mU r c=⟨r.Name,r.jq,r.aD,r.aO,r.bH++[oN (aa c 10)]⟩:=(if_neg k0).trans ((if_neg k1).trans ((if_neg k2).trans ((if_neg k3).trans (if_pos k))))
  have e2:gy c=nt (aa c 10):=(if_neg k0).trans ((if_neg k1).trans ((if_neg k2).trans ((if_neg k3).trans (if_pos k))))
  exact⟨by show 0+r.bH.length<=4294967296;omega,he,by show r.bH.length+1<=4294967296;omega,rfl,Uf e1.symm e2.symm⟩
 ·have e1:mU r c=⟨r.Name,r.jq,r.aD.modify 0 (fun p=>⟨p.Kind,p.av,true⟩),r.aO,r.bH⟩:=(if_neg k0).trans ((if_neg k1).trans ((if_neg k2).trans ((if_neg k3).trans ((if_neg k4).trans (if_pos k)))))
  have e2:gy c=aa c 10:=(if_neg k0).trans ((if_neg k1).trans ((if_neg k2).trans ((if_neg k3).trans (if_neg k4))))
  exact⟨by decide,fw.1,fw.1,rfl,Uf e1.symm e2.symm⟩
 ·have e1:mU r c=⟨r.Name,r.jq,r.aD,r.aO,[]⟩:=(if_neg k0).trans ((if_neg k1).trans ((if_neg k2).trans ((if_neg k3).trans ((if_neg k4).trans ((if_neg k5).trans (if_pos k))))))
  have e2:gy c=aa c 10:=(if_neg k0).trans ((if_neg k1).trans ((if_neg k2).trans ((if_neg k3).trans (if_neg k4))))
  exact⟨by decide,by show(0:Int)<=(0:Int);decide,by show(0:Int)<=(r.bH.length:Int);omega,rfl,Uf e1.symm e2.symm⟩
 ·have e1:mU r c=r:=(if_neg k0).trans ((if_neg k1).trans ((if_neg k2).trans ((if_neg k3).trans ((if_neg k4).trans ((if_neg k5).trans (if_neg k6))))))
  have e2:gy c=aa c 10:=(if_neg k0).trans ((if_neg k1).trans ((if_neg k2).trans ((if_neg k3).trans (if_neg k4))))
  exact⟨rfl,Uf e1.symm e2.symm⟩
theorem Gy{r:aY}(h:fT r=true):1<=r.aD.length/\r.aD.length<=6/\r.aO.length<=6/\r.bH.length<=6:=by
 simp only[fT,mb,kO,lq,cO,decide_eq_true_eq] at h
 exact⟨h.1.1.2.1.1,h.1.1.2.1.2,h.1.2.1,h.2.1.2⟩
def am1:=cj (α:=ag) (q1 qU) [.box false] (fun c=>[bh c]) (fun c=>⟨[dA .bz (lB c)],[false],[dU (oD c)]⟩)
def anH:HH:=hF am1 func97 [sb,YH,AE,agv] a0 fun(c:ag) hp hb=>by
 have ey:=tQ (x:=c) (hb _ m0)
 have bo:bh c:=hp _ m0
 clear hp hb
 apply vE (let x5:=[{data:= #[(114:UInt8),(49:UInt8)]:BA},{data:= #[(114:UInt8),(50:UInt8)]:BA},{data:= #[(115:UInt8),(104:UInt8),(105:UInt8),(112:UInt8)]:BA}];let x4:=b_ c x5;let x1:=my (cB c x5) x4;let x3:=nA x4;let x2:=aa x3 3;let x0:=mU x1 x2;bh c/\1<=x5.length/\bh x4/\bh x3/\bif ca x3 3 then bh x2/\(1<=x1.aD.length/\x1.aD.length<=4294967200)/\x1.aO.length<=4294967200/\x1.bH.length<=4294967200/\LM [DV.agg [CS x0.Name,CI x0.jq,CL .dE x0.aD,CL .bT x0.aO,CL .dG x0.bH]] [DV.agg [CS ((lB c).Name),CI ((lB c).jq),CL .dE (lB c).aD,CL .bT (lB c).aO,CL .dG (lB c).bH]] [bU (gy x2)] [bU (oD c)] else LM [DV.agg [CS x1.Name,CI x1.jq,CL .dE x1.aD,CL .bT x1.aO,CL .dG x1.bH]] [DV.agg [CS ((lB c).Name),CI ((lB c).jq),CL .dE (lB c).aD,CL .bT (lB c).aO,CL .dG (lB c).bH]] [bU x2] [bU (oD c)])
 dsimp only
 have h1:=ed bo oB
 have h2:=yI h1
 have h3:=ao h2 3
 obtain⟨q1,q2,q3,q4⟩:=Gy (Kk c)
 refine⟨bo,by decide,h1,h2,ae (fun k=> ?_) (fun k=> ?_)⟩
 ·have e1:lB c=mU (my (cB c oB) (b_ c oB)) (aa (nA (b_ c oB)) 3):=if_pos k
  have e2:oD c=gy (aa (nA (b_ c oB)) 3):=if_pos k
  exact⟨h3,⟨q1,xo q2 (by omega)⟩,xo q3 (by omega),xo q4 (by omega),rfl,Uf e1.symm e2.symm⟩
 ·have k:¬ca (nA (b_ c oB)) 3=true:=fun e=>absurd (k.symm.trans e) (by decide)
  have e1:lB c=my (cB c oB) (b_ c oB):=if_neg k
  have e2:oD c=aa (nA (b_ c oB)) 3:=if_neg k
  exact⟨rfl,Uf e1.symm e2.symm⟩
def Fu:=cj (α:=ag) (q1 qU) [.box false] (fun c=>[bh c]) (fun c=>⟨[dA .h_ (qj c)],[false],[dU (jL c)]⟩)
def Wz:AX Fu:=fun c=>bW []
def Ww:=us [agw,nb,sb,anH,agv]
def kx(c:ag):T2×T2×T4×Unit->Prop:=fun(r,p,cu,_)=>p.1=(cE c).Name/\p.2.1=(cE c).aw/\lp cu=jC c
def l4:Fu.α->ud UU:=fun c=>aU [.box 2 (2,1024) [.lit .str,.own .bz true],.box 3 (3,1024) [.lit .str,.own .bz false],.box 0 (2000000,0) [.shr .byte,.lit (.int .i64),.lit (.int .i64)]] (fun _=>kx c) (fun _=>0)
theorem amV(c:ag)(y:T2×T2×T4×Unit):mO EE Ww f42 Fu Wz c 2 (l4 c) y=(let x2:={b:=y.2.2.1.1,i:=y.2.2.1.2.1,h:=y.2.2.1.2.2.1:ag};
let x3:=y.2.1.2.1.length;
let x4:=y.2.1.2.1.getD (nat_lit 0) cq;
let x6:=[{data:= #[]:BA},{data:= #[(65:UInt8)]:BA}];
let x0:=aa x2 (10:Int);
let x1:=af x2 (10:Int);
let x5:=b_ x0 x6;
(0:Int)<=y.2.2.1.2.1/\y.2.2.1.1.length<=(4294967296:Nat)/\bif x1==(0:Int) then bh x0/\(1:Nat)<=x6.length/\(0:Nat)=(0:Nat)/\dZ [DV.agg [Cell.lit (Value.string (cB x0 x6)),Cell.sl Cd.bz y.2.1.2.1]]=dZ [DV.agg [Cell.lit (Value.string (qj c).Name),Cell.sl Cd.bz (qj c).aw]]/\dZ [DV.box [Cell.sl Cd.byte x5.b,Cell.lit (Value.int IntKind.i64 x5.i),Cell.lit (Value.int IntKind.i64 x5.h)]]=dZ [DV.box [Cell.sl Cd.byte (jL c).b,Cell.lit (Value.int IntKind.i64 (jL c).i),Cell.lit (Value.int IntKind.i64 (jL c).h)]] else bif x1==(1:Int) then bh x0/\x3+List.length [lB x0]<=(4294967296:Nat)/\(0:Nat)=(0:Nat)/\dZ [DV.agg [Cell.lit (Value.string y.2.1.1),Cell.sl Cd.bz (y.2.1.2.1++[lB x0])]]=dZ [DV.agg [Cell.lit (Value.string (qj c).Name),Cell.sl Cd.bz (qj c).aw]]/\dZ [DV.box [Cell.sl Cd.byte (oD x0).b,Cell.lit (Value.int IntKind.i64 (oD x0).i),Cell.lit (Value.int IntKind.i64 (oD x0).h)]]=dZ [DV.box [Cell.sl Cd.byte (jL c).b,Cell.lit (Value.int IntKind.i64 (jL c).i),Cell.lit (Value.int IntKind.i64 (jL c).h)]] else bif x1==(2:Int) then(0:Int)<=(0:Int)/\Int.toNat (0:Int)<x3/\nat_lit 0<x3/\bh x0/\((1:Nat)<=x4.aD.length/\x4.aD.length<=(4294967200:Nat))/\x4.aO.length<=(4294967200:Nat)/\x4.bH.length<=(4294967200:Nat)/\(0:Int)<=(0:Int)/\Int.toNat (0:Int)<x3/\nat_lit 0<x3/\(0:Nat)=(0:Nat)/\dZ [DV.agg [Cell.lit (Value.string y.2.1.1),Cell.sl Cd.bz (y.2.1.2.1.set (nat_lit 0) (mU x4 x0))]]=dZ [DV.agg [Cell.lit (Value.string (qj c).Name),Cell.sl Cd.bz (qj c).aw]]/\dZ [DV.box [Cell.sl Cd.byte (gy x0).b,Cell.lit (Value.int IntKind.i64 (gy x0).i),Cell.lit (Value.int IntKind.i64 (gy x0).h)]]=dZ [DV.box [Cell.sl Cd.byte (jL c).b,Cell.lit (Value.int IntKind.i64 (jL c).i),Cell.lit (Value.int IntKind.i64 (jL c).h)]] else bif x1==(3:Int) then(0:Int)<=Option.getD none (0:Int)/\Option.getD none (0:Int)<=Option.getD (some (0:Int)) (↑x3:Int)/\Option.getD (some (0:Int)) (↑x3:Int)<=(↑x3:Int)/\Nat.le (nat_lit 0) x3/\(0:Nat)=(0:Nat)/\dZ [DV.agg [Cell.lit (Value.string y.2.1.1),Cell.sl Cd.bz []]]=dZ [DV.agg [Cell.lit (Value.string (qj c).Name),Cell.sl Cd.bz (qj c).aw]]/\dZ [DV.box [Cell.sl Cd.byte x0.b,Cell.lit (Value.int IntKind.i64 x0.i),Cell.lit (Value.int IntKind.i64 x0.h)]]=dZ [DV.box [Cell.sl Cd.byte (jL c).b,Cell.lit (Value.int IntKind.i64 (jL c).i),Cell.lit (Value.int IntKind.i64 (jL c).h)]] else(0:Nat)=(0:Nat)/\dZ [DV.agg [Cell.lit (Value.string y.2.1.1),Cell.sl Cd.bz y.2.1.2.1]]=dZ [DV.agg [Cell.lit (Value.string (qj c).Name),Cell.sl Cd.bz (qj c).aw]]/\dZ [DV.box [Cell.sl Cd.byte x0.b,Cell.lit (Value.int IntKind.i64 x0.i),Cell.lit (Value.int IntKind.i64 x0.h)]]=dZ [DV.box [Cell.sl Cd.byte (jL c).b,Cell.lit (Value.int IntKind.i64 (jL c).i),Cell.lit (Value.int IntKind.i64 (jL c).h)]]):=by kernel_rfl
theorem DI(c:ag)(y:T2×T2×T4×Unit)(hp:∀p∈Fu.pre c,p)(hb:∀d∈Fu.ds c,gh d)(hy:kx c y):mO EE Ww f42 Fu Wz c 2 (l4 c) y:=by
 have ey:=tQ (x:=c) (hb _ m0)
 have bo:bh c:=hp _ m0
 clear hp hb
 rw[amV c y]
 dsimp only
 obtain⟨r,⟨dn,dr,⟨⟩⟩,cu,⟨⟩⟩:=y
 obtain⟨h1,h2,h3⟩:=hy
 have h1:dn=(cE c).Name:=h1
 have h2:dr=(cE c).aw:=h2
 have h3:lp cu=jC c:=h3
 have ec:cu=UF (lp cu):=rfl
 rw[h3] at ec
 subst h1 h2 ec
 have hk:bh (jC c):=yJ bo
 have he:=Iw bo
 have hd:=E4 c
 have hr:fT ((cE c).aw.getD 0 cq)=true:=hd.2.2 _ (gP (z:=cq) (show 0<(cE c).aw.length by omega))
 obtain⟨q1,q2,q3,q4⟩:=Gy hr
 refine⟨hk.1,hk.2,bi (fun k=> ?_) (fun k0=>bi (fun k=> ?_) (fun k1=>bi (fun k=> ?_) (fun k2=>bi (fun k=> ?_) (fun k3=> ?_))))⟩
 ·have e1:qj c=⟨cB (Hd c) Pe,(cE c).aw⟩:=if_pos k
  have e2:jL c=b_ (Hd c) Pe:=if_pos k
  exact⟨he,by decide,rfl,LdD e1.symm e2.symm⟩
 ·have e1:qj c=⟨(cE c).Name,(cE c).aw++[lB (Hd c)]⟩:=(if_neg k0).trans (if_pos k)
  have e2:jL c=oD (Hd c):=(if_neg k0).trans (if_pos k)
  exact⟨he,by show(cE c).aw.length+1<=4294967296;omega,rfl,LdD e1.symm e2.symm⟩
 ·have e1:qj c=⟨(cE c).Name,(cE c).aw.set 0 (mU ((cE c).aw.getD 0 cq) (Hd c))⟩:=(if_neg k0).trans ((if_neg k1).trans (if_pos k))
  have e2:jL c=gy (Hd c):=(if_neg k0).trans ((if_neg k1).trans (if_pos k))
  exact⟨by decide,hd.1,hd.1,he,⟨q1,xo q2 (by omega)⟩,xo q3 (by omega),xo q4 (by omega),by decide,hd.1,hd.1,rfl,LdD e1.symm e2.symm⟩
 ·have e1:qj c=⟨(cE c).Name,[]⟩:=(if_neg k0).trans ((if_neg k1).trans ((if_neg k2).trans (if_pos k)))
  have e2:jL c=Hd c:=(if_neg k0).trans ((if_neg k1).trans (if_neg k2))
  exact⟨by decide,by show(0:Int)<=(0:Int);decide,by show(0:Int)<=((cE c).aw.length:Int);omega,Nat.zero_le _,rfl,LdD e1.symm e2.symm⟩
 ·have e1:qj c=cE c:=(if_neg k0).trans ((if_neg k1).trans ((if_neg k2).trans (if_neg k3)))
  have e2:jL c=Hd c:=(if_neg k0).trans ((if_neg k1).trans (if_neg k2))
  exact⟨rfl,LdD e1.symm e2.symm⟩
theorem DG(c:ag)(hp:∀p∈Fu.pre c,p)(hb:∀d∈Fu.ds c,gh d):rk EE Ww f42 Fu Wz c 2 (l4 c):=by
 have ey:=tQ (x:=c) (hb _ m0)
 have bo:bh c:=hp _ m0
 clear hp hb
 apply vE (bh c/\kx c (({data:= #[]:BA},[],()),((cE c).Name,(cE c).aw,()),((jC c).b,(jC c).i,(jC c).h,()),()))
 exact⟨bo,rfl,rfl,rfl⟩
attribute [local irreducible] rk mO in
theorem amY:Holds EE (42,Fu):=by
 refine vu qZ func42 Fu (by kernel_rfl) Ww (xz _) Wz 2 l4 (by kernel_rfl) (fun(c:ag) hp hb=> ?_)
 refine⟨DG c hp hb,fun(y:T2×T2×T4×Unit) hy=> ?_⟩
 have hy:kx c y:=hy
 exact DI c y hp hb hy
def aod:HH:=⟨_,amY⟩
theorem Bd.u8{n:Int}(h:Bd (U:=UU) (.lit (.int .u8 n))):0<=n/\n<=255:=by
 cases h with
 |lit _ h=>exact h.2
theorem uo:∀(k:Nat)(s:aF)(c:ag),0<=s.Next->0<=(ld k s c).Next/\(ld k s c).Next<=s.Next+k
 |0,s,_,h=>⟨h,by simp only[ld];omega⟩
 |k+1,s,c,h=>by
  rw[ld];split
  ·have:=uo k (pQ s (s.ab.getD (af (aa c 5) s.ab.length).toNat aX).Id) (aa (aa c 5) s.ab.length) h
   simp only[pQ] at this⊢
   omega
  ·have h2:=(uU s (dc (aa c 5))).2
   have:=uo k (cp s (dc (aa c 5))) (de (aa c 5)) (by omega)
   omega
theorem Kc(c:ag):0<=(di c).Next/\(di c).Next<=10:=by
 have hb:=bx (c:=c) (n:=9) (by omega)
 have:=uo (af c 9).toNat ⟨[],1⟩ (aa c 9) (by decide)
 simp only[di] at this⊢
 omega
theorem KK{s:aF}(h:sJ s):(cp s (nj s.ab.length)).ab.length=s.ab.length+1/\(cp s (nj s.ab.length)).Next=s.Next+1:=by
 rw[uO h];exact⟨by simp,rfl⟩
def aeQ:=cj (α:=aF×aJ) (qC (qX .c_) (q1 (qA .dk))) [.box true,.ro] (fun(s,f)=>[0<=s.Next/\s.Next<=1000/\s.ab.length<=39,L4 f.ah.length]) (fun(s,f)=>⟨[dI (l6 s f)],[],[dX .c_ (cp s f)]⟩)
def agy:HH:=hF aeQ func73 [OY,sd] a0 fun x hp hb=>by
 obtain⟨s,f⟩:=x
 have eQ:=nJ (x:=s) (hb _ m0)
 have dw:=eh (x:=f) (hb _ m1)
 have dW:=dw.1
 have cF:=dw.2
 have bo:0<=s.Next/\s.Next<=1000/\s.ab.length<=39:=hp _ m0
 have fw:f.ah.length<=4294967296:=hp _ m1
 clear hp hb
 apply vE (let q0:=LM [VI 0] [VI (l6 s f)] [DV.box [CL .aH s.ab,CI s.Next]] [DV.box [CL .aH (cp s f).ab,CI ((cp s f).Next)]];bif decide (iS s.ab f>0) then LM [VI (iS s.ab f)] [VI (l6 s f)] [DV.box [CL .aH s.ab,CI s.Next]] [DV.box [CL .aH (cp s f).ab,CI ((cp s f).Next)]] else bif decide ((s.ab.length:Int)≥40) then q0 else bif decide (s.Next≥1000000) then q0 else L4 f.ah.length/\s.ab.length+List.length [{Id:=s.Next,F:=f:bL}]<=4294967296/\LM [VI (wrap i64 (wrap i64 (s.Next+1)-1))] [VI (l6 s f)] [DV.box [CL .aH (s.ab++[{Id:=s.Next,F:=f:bL}]),CI (wrap i64 (s.Next+1))]] [DV.box [CL .aH (cp s f).ab,CI ((cp s f).Next)]])
 dsimp only
 obtain⟨s1,s2,s3⟩:=bo
 refine aQ (fun h=>⟨by trivial,?_⟩) (fun h=>aQ (fun h2=>absurd h2 (by omega)) (fun h2=>aQ (fun h3=>absurd h3 (by omega)) (fun h3=> ?_)))
 ·have e1:cp s f=s:=if_pos h
  have e2:l6 s f=iS s.ab f:=if_pos h
  rw[e1,e2];exact⟨rfl,rfl⟩
 ·have e1:cp s f=⟨s.ab++[⟨s.Next,f⟩],s.Next+1⟩:=if_neg h
  have e2:l6 s f=s.Next:=if_neg h
  rw[e1,e2,wi (n:=s.Next+1),wi,show s.Next+1-1=s.Next by omega]
  exact⟨fw,by simp only[fY,fG];omega,by trivial,rfl,rfl⟩
def afa:=cj (α:=ag) (q1 qU) [.box false] (fun c=>[bh c]) (fun c=>⟨[dA .c_ (lf c)],[],[dU (kp c)]⟩)
def JE(c:ag):T3×T3×T4×Unit->Prop:=fun(r,p,cu,_)=>lp cu=Ke c/\sJ ⟨p.1,p.2.1⟩/\p.1.length<=40/\0<=p.2.1/\p.2.1+(40-p.1.length)<=1000/\tP (40-p.1.length) ⟨p.1,p.2.1⟩=tP (40-(di c).ab.length) (di c)
def NH(c:ag):T3×T3×T4×Unit->Nat:=fun(r,p,cu,_)=>40-p.1.length
def ao5:AX afa:=fun c=>bW [(8,aU [.box 2 (2,1024) [.own .aH true,.lit (.int .i64)],.box 3 (3,1024) [.own .aH true,.lit (.int .i64)],.box 0 (2000000,0) [.shr .byte,.lit (.int .i64),.lit (.int .i64)]] (fun _=>JE c) (NH c))]
def aoh:HH:=hF afa func38 [anL,nb,FG,Wy,agy] ao5 fun(c:ag) hp hb=>by
 have ey:=tQ (x:=c) (hb _ m0)
 have bo:bh c:=hp _ m0
 clear hp hb
 apply vE (let x1:=aa (kJ c) 12;let x4:=[0,1,1000000,1000001];let x5:=[{Id:=af x1 9,F:=mq (aa x1 9):bL}];let x3:=x4.length;let x2:=(↑x3:Int);let x0:=aa x1 x2;let q0:=(lf c).Next;bh c/\0<=(kJ c).i/\(kJ c).b.length<=4294967296/\bif af (kJ c) (12:Int)==(0:Int) then 0<=x1.i/\L4 x1.b.length/\1<=x3/\LM [DV.agg [CL .aH (di c).ab,CI (x4.getD (Int.toNat (af x1 x2)) 0)]] [DV.agg [CL .aH (lf c).ab,CI q0]] [bU x0] [bU (kp c)] else bif af (kJ c) (12:Int)==(1:Int) then 0<=x1.i/\L4 x1.b.length/\bh (aa x1 9)/\(di c).ab.length+x5.length<=4294967296/\LM [DV.agg [CL .aH ((di c).ab++x5),CI ((di c).Next)]] [DV.agg [CL .aH (lf c).ab,CI q0]] [bU (ku (aa x1 9))] [bU (kp c)] else bif af (kJ c) (12:Int)==(2:Int) then JE c (([],0,()),((di c).ab,(di c).Next,()),(x1.b,x1.i,x1.h,()),())/\∀(y:NJ×NJ×O3×PUnit),let x8:=y.2.1.1.length;let x7:=(↑x8:Int);let x9:=[{K:=(1:Int),N:=x7,S:={data:= #[]:BA}:a_}];let x6:=cp {ab:=y.2.1.1,Next:=y.2.1.2.1:aF} {Kind:={data:= #[(102:UInt8),(117:UInt8),(108:UInt8),(108:UInt8)]:BA},ah:=x9:aJ};let q1:=((y.1.1,y.1.2.1,()),(x6.ab,x6.Next,()),(y.2.2.1.1,y.2.2.1.2.1,y.2.2.1.2.2.1,()),());JE c y->bif decide (x7<40) then(0<=y.2.1.2.1/\y.2.1.2.1<=1000/\x8<=39)/\L4 x9.length/\JE c q1/\NH c q1<NH c y else LM [DV.agg [CL .aH y.2.1.1,CI y.2.1.2.1]] [DV.agg [CL .aH (lf c).ab,CI q0]] [DV.box [CL .byte y.2.2.1.1,CI y.2.2.1.2.1,CI y.2.2.1.2.2.1]] [bU (kp c)] else LM [DV.agg [CL .aH (di c).ab,CI ((di c).Next)]] [DV.agg [CL .aH (lf c).ab,CI q0]] [bU x1] [bU (kp c)])
 dsimp only
 have hk:=E9 bo
 have he:=Oy bo
 have hl:=DT c
 have hn:=Kc c
 refine⟨bo,hk.1,hk.2,bi (fun k=> ?_) (fun k0=>bi (fun k=> ?_) (fun k1=>bi (fun k=> ?_) (fun k2=> ?_)))⟩
 ·have e1:lf c=⟨(di c).ab,g_ (Ke c) Se⟩:=if_pos k
  have e2:kp c=kE (Ke c) Se:=if_pos k
  exact⟨he.1,he.2,by decide,rfl,LdS e1.symm e2.symm⟩
 ·have e1:lf c=⟨(di c).ab++[⟨af (Ke c) 9,mq (aa (Ke c) 9)⟩],(di c).Next⟩:=(if_neg k0).trans (if_pos k)
  have e2:kp c=ku (aa (Ke c) 9):=(if_neg k0).trans (if_pos k)
  exact⟨he.1,he.2,ao he 9,by simp only[fY,fG];omega,rfl,LdS e1.symm e2.symm⟩
 ·have e1:lf c=tP (40-(di c).ab.length) (di c):=(if_neg k0).trans ((if_neg k1).trans (if_pos k))
  have e2:kp c=Ke c:=(if_neg k0).trans (if_neg k1)
  refine⟨⟨rfl,wq c,by show(di c).ab.length<=40;omega,hn.1,by show(di c).Next+(40-((di c).ab.length:Int))<=1000;omega,rfl⟩,?_⟩
  rintro⟨r,p,cu,⟨⟩⟩ ⟨Ge,hF,h40,h0,h1,hE⟩
  have Ge:lp cu=Ke c:=Ge
  have hF:sJ ⟨p.1,p.2.1⟩:=hF
  have h40:p.1.length<=40:=h40
  have h0:0<=p.2.1:=h0
  have h1:p.2.1+(40-(p.1.length:Int))<=1000:=h1
  have hE:tP (40-p.1.length) ⟨p.1,p.2.1⟩=tP (40-(di c).ab.length) (di c):=hE
  refine aQ ?_ ?_<;>intro g
  ·have g:(p.1.length:Int)<40:=g
   have e:40-p.1.length=(40-(p.1.length+1))+1:=by omega
   obtain⟨s1,s2⟩:=KK hF
   have s1:(cp ⟨p.1,p.2.1⟩ (nj p.1.length)).ab.length=p.1.length+1:=s1
   have s2:(cp ⟨p.1,p.2.1⟩ (nj p.1.length)).Next=p.2.1+1:=s2
   rw[e] at hE
   have hE:tP (40-(p.1.length+1)) (cp ⟨p.1,p.2.1⟩ (nj p.1.length))=tP (40-(di c).ab.length) (di c):=hE
   rw[<-s1] at hE
   refine⟨⟨h0,by show p.2.1<=1000;omega,by show p.1.length<=39;omega⟩,by simp,⟨Ge,Ei hF,?_,?_,?_,hE⟩,?_⟩
   ·show(cp ⟨p.1,p.2.1⟩ (nj p.1.length)).ab.length<=40
    omega
   ·show 0<=(cp ⟨p.1,p.2.1⟩ (nj p.1.length)).Next
    omega
   ·show(cp ⟨p.1,p.2.1⟩ (nj p.1.length)).Next+(40-((cp ⟨p.1,p.2.1⟩ (nj p.1.length)).ab.length:Int))<=1000
    omega
   ·show 40-(cp ⟨p.1,p.2.1⟩ (nj p.1.length)).ab.length<40-p.1.length
    omega
  ·have g:¬(p.1.length:Int)<40:=g
   have e:40-p.1.length=0:=by omega
   rw[e] at hE
   exact⟨rfl,LdS (a:=⟨p.1,p.2.1⟩) (d:=lp cu) (hE.trans e1.symm) (Ge.trans e2.symm)⟩
 ·have e1:lf c=di c:=(if_neg k0).trans ((if_neg k1).trans (if_neg k2))
  have e2:kp c=Ke c:=(if_neg k0).trans (if_neg k1)
  exact⟨rfl,LdS e1.symm e2.symm⟩
theorem B3{c:ag}(h:bh c)(m:Int):bh (vV c m):=ao (Hg h m) 16
theorem Qy{c:ag}(h:bh c)(m:Int):bh (instAC c m):=by
 have he:=B3 h m
 unfold instAC
 split
 ·exact ao he _
 ·split
  ·exact iV he _
  ·split
   ·exact NB he
   ·split
    ·exact(OM he).1
    ·split
     ·exact(OL he).1
     ·split
      ·exact NC he
      ·split
       ·exact Tk he
       ·exact he
theorem Qo{c:ag}(h:bh c)(m:Int):cG (s8 c m)<=70000:=by
 unfold s8;split
 ·exact Qp (B3 h m)
 ·have:=(E5 c).2.2;omega
theorem KO(c:ag):js (ll c)<=3:=by
 have hb:=bx (c:=aa c 3) (n:=4) (by omega)
 have h2:(ll c).eH.length=(af (aa c 3) 4).toNat:=by
  show(mA aab PH _ [] _).length=_
  rw[mz];simp
 have e:rD (ll c).bu=0:=rfl
 simp only[js,rC,e];omega
theorem instA_size{c:ag}{m:Int}(h:bh c)(hm:m<=1000):dy (instA c m)<=60000:=by
 have h0:=D4 (D6 (c:=c) hm).tocoreX
 have he:=B3 h m
 simp only[dy] at h0
 unfold instA
 split
 ·simp only[dy];omega
 ·split
  ·simp only[dy,Gp];omega
  ·split
   ·have:=Kd he
    simp only[dy,tK];omega
   ·split
    ·obtain⟨_,h2,h3⟩:=OM he
     have:=Mx h2
     simp only[dy,qn];omega
    ·split
     ·obtain⟨_,h2,h3⟩:=OL he
      have:=DL h2
      simp only[dy,DD];omega
     ·split
      ·have h2:fm ((instD c m).aC++[ll (vV c m)])=fm (instD c m).aC+(1+js (ll (vV c m))):=rB js _ _
       have:=KO (vV c m)
       simp only[dy,DE];omega
      ·simp only[dy];omega
def anG:=cj (α:=ag×Int) (qC qU (q1 qI)) [.box false,.ro] (fun(c,aG)=>[bh c,aG<=1000]) (fun(c,aG)=>⟨[dA .h_ (s8 c aG),dA .ct (instA c aG)],[false,false],[dU (instAC c aG)]⟩)
def aow:HH:=hF anG func12 [aoi,nb,FG,aoh,aog,aof,aoe,aod] a0 fun x hp hb=>by
 obtain⟨c,aG⟩:=x
 have ey:=tQ (x:=c) (hb _ m0)
 have vy:=tg (n:=aG) (hb _ m1)
 have bo:bh c:=hp _ m0
 have fw:aG<=1000:=hp _ m1
 clear hp hb
 apply vE (let x3:=[(-1),1000000000,1000000001];let x4:=aa (aa (instDC c aG) 16) 8;let x2:=x3.length;let x1:=(↑x2:Int);let x0:=aa (aa (instDC c aG) 16) x1;let q0:=aa (instDC c aG) 16;let q1:=instD c aG;let q2:=aA (instA c aG);let q3:=s8 c aG;let q4:=instDC c aG;let q5:=instAC c aG;let q6:=(cE c).Name;bh c/\aG<=1000/\0<=q4.i/\L4 q4.b.length/\bif af q4 (16:Int)==(0:Int) then 0<=q0.i/\L4 q0.b.length/\LM [DV.agg [CS q6,CL .bz (cE c).aw],DV.agg [CL .aH q1.S.ab,CI (q1.S.Next),CL .aB q1.aC,CL .az q1.ap,CL .aI q1.ax,CL .aW q1.ay,CI (af q0 8),CI (q1.cJ)]] [DV.agg [CS (q3.Name),CL .bz q3.aw],DV.agg q2] [bU x4] [bU q5] else bif af q4 (16:Int)==(1:Int) then 0<=q0.i/\L4 q0.b.length/\1<=x2/\LM [DV.agg [CS q6,CL .bz (cE c).aw],DV.agg [CL .aH q1.S.ab,CI (q1.S.Next),CL .aB q1.aC,CL .az q1.ap,CL .aI q1.ax,CL .aW q1.ay,CI (q1.State),CI (x3.getD (Int.toNat (af q0 x1)) 0)]] [DV.agg [CS (q3.Name),CL .bz q3.aw],DV.agg q2] [bU x0] [bU q5] else bif af q4 (16:Int)==(2:Int) then bh q0/\LM [DV.agg [CS q6,CL .bz (cE c).aw],DV.agg [CL .aH (lf q0).ab,CI ((lf q0).Next),CL .aB q1.aC,CL .az q1.ap,CL .aI q1.ax,CL .aW q1.ay,CI (q1.State),CI (q1.cJ)]] [DV.agg [CS (q3.Name),CL .bz q3.aw],DV.agg q2] [bU (kp q0)] [bU q5] else bif af q4 (16:Int)==(3:Int) then bh q0/\LM [DV.agg [CS q6,CL .bz (cE c).aw],DV.agg [CL .aH q1.S.ab,CI (q1.S.Next),CL .aB q1.aC,CL .az (rY q0),CL .aI q1.ax,CL .aW q1.ay,CI (q1.State),CI (q1.cJ)]] [DV.agg [CS (q3.Name),CL .bz q3.aw],DV.agg q2] [bU (o_ q0)] [bU q5] else bif af q4 (16:Int)==(4:Int) then bh q0/\LM [DV.agg [CS q6,CL .bz (cE c).aw],DV.agg [CL .aH q1.S.ab,CI (q1.S.Next),CL .aB q1.aC,CL .az q1.ap,CL .aI q1.ax,CL .aW (rX q0),CI (q1.State),CI (q1.cJ)]] [DV.agg [CS (q3.Name),CL .bz q3.aw],DV.agg q2] [bU (nq q0)] [bU q5] else bif af q4 (16:Int)==(5:Int) then bh q0/\q1.aC.length+List.length [ll q0]<=4294967296/\LM [DV.agg [CS q6,CL .bz (cE c).aw],DV.agg [CL .aH q1.S.ab,CI (q1.S.Next),CL .aB (q1.aC++[ll q0]),CL .az q1.ap,CL .aI q1.ax,CL .aW q1.ay,CI (q1.State),CI (q1.cJ)]] [DV.agg [CS (q3.Name),CL .bz q3.aw],DV.agg q2] [bU (nU q0)] [bU q5] else bif af q4 (16:Int)==(6:Int) then bh q0/\LM [DV.agg [CS ((qj q0).Name),CL .bz (qj q0).aw],DV.agg (aA q1)] [DV.agg [CS (q3.Name),CL .bz q3.aw],DV.agg q2] [bU (jL q0)] [bU q5] else LM [DV.agg [CS q6,CL .bz (cE c).aw],DV.agg (aA q1)] [DV.agg [CS (q3.Name),CL .bz q3.aw],DV.agg q2] [bU q0] [bU q5])
 dsimp only
 have hd:=Hg bo aG
 have he:=B3 bo aG
 have hF:=(D6 (c:=c) fw).tocoreX.Lq
 refine⟨bo,fw,hd.1,hd.2,bi (fun k=> ?_) (fun k0=>bi (fun k=> ?_) (fun k1=>bi (fun k=> ?_) (fun k2=>bi (fun k=> ?_) (fun k3=>bi (fun k=> ?_) (fun k4=>bi (fun k=> ?_) (fun k5=>bi (fun k=> ?_) (fun k6=> ?_)))))))⟩
 ·have e1:instA c aG=⟨(instD c aG).S,(instD c aG).aC,(instD c aG).ap,(instD c aG).ax,(instD c aG).ay,af (vV c aG) 8,(instD c aG).cJ⟩:=if_pos k
  have e2:instAC c aG=aa (vV c aG) 8:=if_pos k
  have e3:s8 c aG=cE c:=if_neg (fun g=>absurd (k.symm.trans g) (by decide))
  exact⟨he.1,he.2,rfl,JT e3.symm e1.symm e2.symm⟩
 ·have e1:instA c aG=Gp (instD c aG) (g_ (vV c aG) H3):=(if_neg k0).trans (if_pos k)
  have e2:instAC c aG=kE (vV c aG) H3:=(if_neg k0).trans (if_pos k)
  have e3:s8 c aG=cE c:=if_neg (fun g=>absurd (k.symm.trans g) (by decide))
  exact⟨he.1,he.2,by decide,rfl,JT e3.symm e1.symm e2.symm⟩
 ·have e1:instA c aG=tK (instD c aG) (lf (vV c aG)):=(if_neg k0).trans ((if_neg k1).trans (if_pos k))
  have e2:instAC c aG=kp (vV c aG):=(if_neg k0).trans ((if_neg k1).trans (if_pos k))
  have e3:s8 c aG=cE c:=if_neg (fun g=>absurd (k.symm.trans g) (by decide))
  exact⟨he,rfl,JT e3.symm e1.symm e2.symm⟩
 ·have e1:instA c aG=qn (instD c aG) (rY (vV c aG)):=(if_neg k0).trans ((if_neg k1).trans ((if_neg k2).trans (if_pos k)))
  have e2:instAC c aG=o_ (vV c aG):=(if_neg k0).trans ((if_neg k1).trans ((if_neg k2).trans (if_pos k)))
  have e3:s8 c aG=cE c:=if_neg (fun g=>absurd (k.symm.trans g) (by decide))
  exact⟨he,rfl,JT e3.symm e1.symm e2.symm⟩
 ·have e1:instA c aG=DD (instD c aG) (rX (vV c aG)):=(if_neg k0).trans ((if_neg k1).trans ((if_neg k2).trans ((if_neg k3).trans (if_pos k))))
  have e2:instAC c aG=nq (vV c aG):=(if_neg k0).trans ((if_neg k1).trans ((if_neg k2).trans ((if_neg k3).trans (if_pos k))))
  have e3:s8 c aG=cE c:=if_neg (fun g=>absurd (k.symm.trans g) (by decide))
  exact⟨he,rfl,JT e3.symm e1.symm e2.symm⟩
 ·have e1:instA c aG=DE (instD c aG) ((instD c aG).aC++[ll (vV c aG)]):=(if_neg k0).trans ((if_neg k1).trans ((if_neg k2).trans ((if_neg k3).trans ((if_neg k4).trans (if_pos k)))))
  have e2:instAC c aG=nU (vV c aG):=(if_neg k0).trans ((if_neg k1).trans ((if_neg k2).trans ((if_neg k3).trans ((if_neg k4).trans (if_pos k)))))
  have e3:s8 c aG=cE c:=if_neg (fun g=>absurd (k.symm.trans g) (by decide))
  exact⟨he,by show(instD c aG).aC.length+1<=4294967296;omega,rfl,JT e3.symm e1.symm e2.symm⟩
 ·have e1:instA c aG=instD c aG:=(if_neg k0).trans ((if_neg k1).trans ((if_neg k2).trans ((if_neg k3).trans ((if_neg k4).trans (if_neg k5)))))
  have e2:instAC c aG=jL (vV c aG):=(if_neg k0).trans ((if_neg k1).trans ((if_neg k2).trans ((if_neg k3).trans ((if_neg k4).trans ((if_neg k5).trans (if_pos k))))))
  have e3:s8 c aG=qj (vV c aG):=if_pos k
  exact⟨he,rfl,JT e3.symm e1.symm e2.symm⟩
 ·have e1:instA c aG=instD c aG:=(if_neg k0).trans ((if_neg k1).trans ((if_neg k2).trans ((if_neg k3).trans ((if_neg k4).trans (if_neg k5)))))
  have e2:instAC c aG=vV c aG:=(if_neg k0).trans ((if_neg k1).trans ((if_neg k2).trans ((if_neg k3).trans ((if_neg k4).trans ((if_neg k5).trans (if_neg k6))))))
  have e3:s8 c aG=cE c:=if_neg k6
  exact⟨rfl,JT e3.symm e1.symm e2.symm⟩
def Zk5:=cj (α:=List Int) (q1 (qL .byte)) [.ro] (fun code=>[L4 code.length]) (fun code=>⟨[dA .h_ (s8 (ij code) (jZ code 16)),dA .ct (instA (ij code) (jZ code 16)),dA .dk (mq (instAC (ij code) (jZ code 16)))],[false,false,false],[]⟩)
def Zh5:HH:=hF Zk5 func5 [aox,aov,aow,Wy] a0 fun(code:List Int) hp hb=>by
 have BR:L9 code.length:=iv (hb _ m0)
 have bo:code.length<=4294967296:=hp _ m0
 clear hp hb
 apply vE (let q0:=jZ code 16;let q1:=ij code;let q2:=mq (instAC q1 q0);L4 code.length/\L4 code.length/\bh q1/\jZ code (16:Int)<=(1000:Int)/\bh (instAC q1 q0)/\Lf [DV.agg [CS ((s8 q1 q0).Name),CL .bz (s8 q1 q0).aw],DV.agg (aA (instA q1 q0)),DV.agg [CS (q2.Kind),CL .bc q2.ah]] [DV.agg [CS ((s8 q1 q0).Name),CL .bz (s8 q1 q0).aw],DV.agg (aA (instA q1 q0)),DV.agg [CS (q2.Kind),CL .bc q2.ah]])
 dsimp only
 have hs:=Kf code 16
 exact⟨bo,bo,B0 bo,by omega,Qy (B0 bo) _,bf _⟩
theorem Sd{s:aF}(h:br s=true){f:aJ}(h0:iS s.ab f=0):iS (s.ab++[⟨s.Next,f⟩]) f=s.Next:=by
 have hn:=GO h h0
 have e:Ex (s.ab++[⟨s.Next,f⟩]) f=(s.ab.length:Int):=by
  refine fL (by simp) ?_ fun j hj=> ?_
  ·simp[eX]
  ·have:List.getD (s.ab++[⟨s.Next,f⟩]) j aX=s.ab.getD j aX:=by
    rw[eX,eX,xx hj]
   simp only[this]
   exact decide_eq_false (hn _ (gP hj))
 unfold iS
 rw[e,if_neg (by omega)]
 simp[eX]
theorem Iz{s:aF}(h:br s=true){f:aJ}(h0:¬(bZ s f).2=0):0<iS (bZ s f).1.ab f:=by
 have hn:=Oc h f
 unfold bZ at h0⊢
 split
 ·rename_i g;show 0<iS s.ab f;omega
 ·rename_i g
  rw[if_neg g] at h0
  split
  ·rename_i k;rw[if_pos k] at h0;exact absurd rfl h0
  ·show 0<iS (s.ab++[⟨s.Next,f⟩]) f
   rw[Sd h (by omega)]
   have:=(jH h).1;omega
theorem J6(x:aq):(gK x 3).State≠1:=by
 unfold gK im
 split
 ·show(if(rq x 3).State=5 then(6:Int) else 4)≠1
  split<;>decide
 ·show(3:Int)≠1;decide
theorem PI{x:aq}{f:aJ}(h:(du x f).State=1):¬(bZ x.S f).2=0/\du x f=tK x (bZ x.S f).1:=by
 unfold du at h⊢
 by_cases g:(bZ x.S f).2=0
 ·rw[if_pos g] at h;exact absurd h (J6 x)
 ·exact⟨g,if_neg g⟩
theorem Ws(a b:cN):(a.K==b.K&&(ByteArray.toList a.S==ByteArray.toList b.S&&((a.V.K==b.V.K&&(a.V.N==b.V.N&&(ByteArray.toList a.V.S==ByteArray.toList b.V.S&&true)))&&true)))=decide (a=b):=by
 obtain⟨a1,a2,⟨a3,a4,a5⟩⟩:=a
 obtain⟨b6,b7,⟨b8,b9,b10⟩⟩:=b
 simp only[aM,BE]
 rw[FM]
 simp only[cO,beq_iff_eq,decide_eq_true_eq,cN.mk.injEq,a_.mk.injEq]
theorem LF(a b:dB):(a.Op==b.Op&&((a.L.K==b.L.K&&(ByteArray.toList a.L.S==ByteArray.toList b.L.S&&((a.L.V.K==b.L.V.K&&(a.L.V.N==b.L.V.N&&(ByteArray.toList a.L.V.S==ByteArray.toList b.L.V.S&&true)))&&true)))&&((a.R.K==b.R.K&&(ByteArray.toList a.R.S==ByteArray.toList b.R.S&&((a.R.V.K==b.R.V.K&&(a.R.V.N==b.R.V.N&&(ByteArray.toList a.R.V.S==ByteArray.toList b.R.V.S&&true)))&&true)))&&true)))=decide (a=b):=by
 obtain⟨a11,⟨a12,a13,⟨a14,a15,a16⟩⟩,⟨a17,a18,⟨a19,a20,a21⟩⟩⟩:=a
 obtain⟨b22,⟨b23,b24,⟨b25,b26,b27⟩⟩,⟨b28,b29,⟨b30,b31,b32⟩⟩⟩:=b
 simp only[aM,BE]
 rw[FM]
 simp only[cO,beq_iff_eq,decide_eq_true_eq,cN.mk.injEq,dB.mk.injEq,a_.mk.injEq]
theorem S0(a b:cn):(ByteArray.toList a.Op==ByteArray.toList b.Op&&((a.L.K==b.L.K&&(ByteArray.toList a.L.S==ByteArray.toList b.L.S&&((a.L.V.K==b.L.V.K&&(a.L.V.N==b.L.V.N&&(ByteArray.toList a.L.V.S==ByteArray.toList b.L.V.S&&true)))&&true)))&&((a.R.K==b.R.K&&(ByteArray.toList a.R.S==ByteArray.toList b.R.S&&((a.R.V.K==b.R.V.K&&(a.R.V.N==b.R.V.N&&(ByteArray.toList a.R.V.S==ByteArray.toList b.R.V.S&&true)))&&true)))&&true)))=decide (a=b):=by
 obtain⟨a33,⟨a34,a35,⟨a36,a37,a38⟩⟩,⟨a39,a40,⟨a41,a42,a43⟩⟩⟩:=a
 obtain⟨b44,⟨b45,b46,⟨b47,b48,b49⟩⟩,⟨b50,b51,⟨b52,b53,b54⟩⟩⟩:=b
 simp only[aM,BE]
 rw[FM]
 simp only[cO,beq_iff_eq,decide_eq_true_eq,cN.mk.injEq,cn.mk.injEq,a_.mk.injEq]
theorem To(a b:bV):(ByteArray.toList a.Name==ByteArray.toList b.Name&&((a.V.K==b.V.K&&(a.V.N==b.V.N&&(ByteArray.toList a.V.S==ByteArray.toList b.V.S&&true)))&&true))=decide (a=b):=by
 obtain⟨a55,⟨a56,a57,a58⟩⟩:=a
 obtain⟨b59,⟨b60,b61,b62⟩⟩:=b
 simp only[aM,BE]
 rw[FM]
 simp only[cO,beq_iff_eq,decide_eq_true_eq,bV.mk.injEq,a_.mk.injEq]
theorem aa_(x y:cr):x=y↔x.Kind=y.Kind/\x.av=y.av/\x.Not=y.Not:=by cases x;cases y;simp[cr.mk.injEq]
theorem aba(x y:eK):x=y↔x.Kind=y.Kind/\x.Name=y.Name/\x.av=y.av/\x.N=y.N/\x.aR=y.aR:=by cases x;cases y;simp[eK.mk.injEq]
theorem S5(x y:au):x=y↔x.cL=y.cL/\x.eH=y.eH/\x.bu=y.bu:=by cases x;cases y;simp[au.mk.injEq]
theorem Wf(x y:bL):x=y↔x.Id=y.Id/\x.F=y.F:=by cases x;cases y;simp[bL.mk.injEq]
theorem S3(x y:aK):x=y↔x.At=y.At/\x.F=y.F:=by cases x;cases y;simp[aK.mk.injEq]
theorem Wd(x y:bj):x=y↔x.Key=y.Key/\x.F=y.F:=by cases x;cases y;simp[bj.mk.injEq]
theorem We(x y:ak):x=y↔x.F=y.F/\x.aR=y.aR/\x.State=y.State/\x.bt=y.bt/\x.jF=y.jF/\x.V=y.V:=by cases x;cases y;simp[ak.mk.injEq]
theorem Ou(x y:aY):x=y↔x.Name=y.Name/\x.jq=y.jq/\x.aD=y.aD/\x.aO=y.aO/\x.bH=y.bH:=by cases x;cases y;simp[aY.mk.injEq]
theorem S6(x y:bp):x=y↔x.Name=y.Name/\x.aw=y.aw:=by cases x;cases y;simp[bp.mk.injEq]
theorem Wc(x y:sg):x=y↔x.Name=y.Name/\x.Def=y.Def/\x.X=y.X:=by cases x;cases y;simp[sg.mk.injEq]
theorem S4(x y:aF):x=y↔x.ab=y.ab/\x.Next=y.Next:=by cases x;cases y;simp[aF.mk.injEq]
theorem Wg(x y:aq):x=y↔x.S=y.S/\x.aC=y.aC/\x.ap=y.ap/\x.ax=y.ax/\x.ay=y.ay/\x.State=y.State/\x.cJ=y.cJ:=by cases x;cases y;simp[aq.mk.injEq]
theorem Wh(x y:k_):x=y↔x.ov=y.ov/\x.jN=y.jN/\x.cJ=y.cJ/\x.AF=y.AF:=by cases x;cases y;simp[k_.mk.injEq]
def Yd:=cj (α:=(List ak)×(List ak)) (qC (qL .az) (q1 (qL .az))) [.ro,.ro] (fun _=>[]) (fun(a,b)=>⟨[dO (decide (a=b))],[],[]⟩)
def Du(a:List ak)(b:List ak):Int×Unit->Prop:=fun(i,_)=>0<=i/\i<=a.length/\a.length=b.length/\(a.drop i.toNat=b.drop i.toNat↔a=b)
def CG(a:List ak)(b:List ak):Int×Unit->Nat:=fun(i,_)=>a.length-i.toNat
def ai_:AX Yd:=fun(a,b)=>bW [(4,aU [iI 5] (fun _=>Du a b) (CG a b))]
def ah9:HH:=hF Yd func121 [FI] ai_ fun x hp hb=>by
 obtain⟨a,b⟩:=x
 have P5:L9 a.length:=iv (hb _ m0)
 have P0:L9 b.length:=iv (hb _ m1)
 clear hp hb
 apply vE (let q0:=Lb false (decide (a=b));bif (a.length:Int) !=(b.length:Int) then q0 else Du a b (0,())/\∀(y:Int×PUnit),let x0:=b.getD y.1.toNat aE;let x1:=a.getD y.1.toNat aE;let q1:=(wrap i64 (y.1+1),());Du a b y->bif decide (y.1<(a.length:Int)) then 0<=y.1/\y.1.toNat<a.length/\0<=y.1/\y.1.toNat<b.length/\bif !decide (x1.F=x0.F) then q0 else bif !ByteArray.toList x1.aR==ByteArray.toList x0.aR then q0 else bif x1.State !=x0.State then q0 else bif x1.bt !=x0.bt then q0 else bif x1.jF !=x0.jF then q0 else bif !(x1.V.K==x0.V.K&&(x1.V.N==x0.V.N&&(ByteArray.toList x1.V.S==ByteArray.toList x0.V.S&&true))) then q0 else Du a b q1/\CG a b q1<CG a b y else Lb true (decide (a=b)))
 dsimp only
 refine ae (fun h=>m7 (rh (by simpa using h))) (fun h=>⟨⟨by omega,by omega,(uJ (a:=a) (b:=b) (by assumption)),by simp⟩,?_⟩)
 rintro⟨i,⟨⟩⟩ ⟨h1,h2,h3,hR⟩
 simp only
 refine ae ?_ ?_<;>intro hc
 ·have hc:i<a.length:=yT hc
  rw[wi]
  try simp only[gN]
  try simp only[aM]
  have hz:_:=We (a.getD i.toNat aE) (b.getD i.toNat aE)
  repeat' (first|refine And.intro (by omega) ?_|refine ae (fun h=> ?_) (fun h=> ?_))
  all_goals first|exact m7 (nk aE h1 hc (by omega) hR (by first|grind|(rw[hz];grind)))|exact⟨⟨by omega,by omega,h3,pR aE h1 hc (by omega) hR (by first|grind|(rw[hz];grind))⟩,by simp only[CG];omega⟩
 ·have hc:a.length<=i:=by have:=yF hc;omega
  exact NK (mo hc (by omega) hR)
def XY:=cj (α:=(List cr)×(List cr)) (qC (qL .dE) (q1 (qL .dE))) [.ro,.ro] (fun _=>[]) (fun(a,b)=>⟨[dO (decide (a=b))],[],[]⟩)
def Dg(a:List cr)(b:List cr):Int×Unit->Prop:=fun(i,_)=>0<=i/\i<=a.length/\a.length=b.length/\(a.drop i.toNat=b.drop i.toNat↔a=b)
def v5(a:List cr)(b:List cr):Int×Unit->Nat:=fun(i,_)=>a.length-i.toNat
def Df(a:List cr)(b:List cr):Int×Int×Unit->Int×Int×Unit->Prop:=fun(i0,k0,_) (i,k,_)=>i=i0/\0<=k/\k<=(a.getD i.toNat cD).av.length/\(a.getD i.toNat cD).av.length=(b.getD i.toNat cD).av.length/\((a.getD i.toNat cD).av.drop k.toNat=(b.getD i.toNat cD).av.drop k.toNat↔(a.getD i.toNat cD).av=(b.getD i.toNat cD).av)
def Ct(a:List cr)(b:List cr):Int×Int×Unit->Nat:=fun(i,k,_)=>(a.getD i.toNat cD).av.length-k.toNat
def aiT:AX XY:=fun(a,b)=>bW [(4,aU [iI 5] (fun _=>Dg a b) (v5 a b)),(9,aU [iI 5,iI 6] (Df a b) (Ct a b))]
def ahE:HH:=hF XY func164 [] aiT fun x hp hb=>by
 obtain⟨a,b⟩:=x
 have SK:gh (U:=UU) (.one (.sl .dE a)):=hb _ m0
 have P5:L9 a.length:=iv (hb _ m0)
 have P0:L9 b.length:=iv (hb _ m1)
 clear hp hb
 apply vE (let q0:=Lb false (decide (a=b));bif (a.length:Int) !=(b.length:Int) then q0 else Dg a b (0,())/\∀(y:Int×PUnit),let x0:=b.getD y.1.toNat cD;let x1:=a.getD y.1.toNat cD;let q1:=(y.1,0,());Dg a b y->bif decide (y.1<(a.length:Int)) then 0<=y.1/\y.1.toNat<a.length/\0<=y.1/\y.1.toNat<b.length/\bif !ByteArray.toList x1.Kind==ByteArray.toList x0.Kind then q0 else 0<=y.1/\y.1.toNat<a.length/\0<=y.1/\y.1.toNat<b.length/\bif !x1.Not==x0.Not then q0 else 0<=y.1/\y.1.toNat<a.length/\0<=y.1/\y.1.toNat<b.length/\bif (x1.av.length:Int) !=(x0.av.length:Int) then q0 else Df a b q1 q1/\∀(aL:Int×Int×PUnit),let x2:=aL.2.1.toNat;let x5:=(b.getD aL.1.toNat cD).av.getD x2 mG;let x6:=(a.getD aL.1.toNat cD).av.getD x2 mG;let x7:=(↑((a.getD aL.1.toNat cD).av.length):Int);let x3:=x6.V;let x4:=x5.V;let q2:=(aL.1,wrap i64 (aL.2.1+1),());let q3:=(wrap i64 (aL.1+1),());Df a b q1 aL->0<=aL.1/\aL.1.toNat<a.length/\bif decide (aL.2.1<x7) then 0<=aL.1/\aL.1.toNat<a.length/\0<=aL.2.1/\x2<(a.getD aL.1.toNat cD).av.length/\0<=aL.1/\aL.1.toNat<b.length/\0<=aL.2.1/\x2<(b.getD aL.1.toNat cD).av.length/\bif !(x6.K==x5.K&&(ByteArray.toList x6.S==ByteArray.toList x5.S&&(x3.K==x4.K&&(x3.N==x4.N&&(ByteArray.toList x3.S==ByteArray.toList x4.S&&true))&&true))) then q0 else Df a b q1 q2/\Ct a b q2<Ct a b aL else Dg a b q3/\v5 a b q3<v5 a b y else Lb true (decide (a=b)))
 dsimp only
 refine ae (fun h=>m7 (rh (by simpa using h))) (fun h=>⟨⟨by omega,by omega,(uJ (a:=a) (b:=b) (by assumption)),by simp⟩,?_⟩)
 rintro⟨i,⟨⟩⟩ ⟨h1,h2,h3,hR⟩
 simp only
 refine ae ?_ ?_<;>intro hc
 ·have hc:i<a.length:=yT hc
  have hm:v5 a b (i+1,PUnit.unit)<v5 a b (i,()):=by simp only[v5];omega
  try simp only[Ws]
  try simp only[aM]
  have hz:_:=aa_ (a.getD i.toNat cD) (b.getD i.toNat cD)
  have hlA:(a.getD i.toNat cD).av.length<=9223372036854775807:=Bd.len (Bd.row SK (x:=a.getD i.toNat cD) (c:=.sl .gH (a.getD i.toNat cD).av) (ye a _ h1 hc) (.tail _ (.head _)))
  repeat' (first|refine And.intro (by omega) ?_|refine ae (fun h=>m7 (nk cD h1 hc (by omega) hR (by first|grind|(rw[hz];grind)))) (fun h=> ?_))
  refine⟨⟨rfl,by omega,by omega,(uJ (a:=(a.getD i.toNat cD).av) (b:=(b.getD i.toNat cD).av) (by assumption)),by simp⟩,?_⟩
  rintro⟨i,k,⟨⟩⟩ ⟨rfl,g1,g2,g3,gR⟩
  try simp only
  repeat' (refine And.intro (by omega) ?_)
  refine ae ?_ ?_<;>intro hk
  ·have hk:=yT hk
   simp(disch:=omega) only[wrap_i64]
   repeat' (first|refine And.intro (by omega) ?_|refine ae (fun h=> ?_) (fun h=> ?_))
   all_goals first|exact m7 (nk cD h1 hc (by omega) hR (fun e=>absurd (by rw[e]) (nk mG g1 hk (by omega) gR (by grind))))|exact⟨⟨rfl,by omega,by omega,g3,pR mG g1 hk (by omega) gR (by grind)⟩,by simp only[Ct];omega⟩
  ·have hk:(a.getD i.toNat cD).av.length<=k:=by have:=yF hk;omega
   have he:=mo hk (by omega) gR
   simp(disch:=omega) only[wrap_i64]
   exact⟨⟨by omega,by omega,h3,pR cD h1 hc (by omega) hR (by first|grind|(rw[hz];grind))⟩,hm⟩
 ·have hc:a.length<=i:=by have:=yF hc;omega
  exact NK (mo hc (by omega) hR)
def Yc:=cj (α:=(List au)×(List au)) (qC (qL .aB) (q1 (qL .aB))) [.ro,.ro] (fun _=>[]) (fun(a,b)=>⟨[dO (decide (a=b))],[],[]⟩)
def Dt(a:List au)(b:List au):Int×Unit->Prop:=fun(i,_)=>0<=i/\i<=a.length/\a.length=b.length/\(a.drop i.toNat=b.drop i.toNat↔a=b)
def v7(a:List au)(b:List au):Int×Unit->Nat:=fun(i,_)=>a.length-i.toNat
def Ds(a:List au)(b:List au):Int×Int×Unit->Int×Int×Unit->Prop:=fun(i0,k0,_) (i,k,_)=>i=i0/\0<=k/\k<=(a.getD i.toNat aV).bu.length/\(a.getD i.toNat aV).bu.length=(b.getD i.toNat aV).bu.length/\((a.getD i.toNat aV).bu.drop k.toNat=(b.getD i.toNat aV).bu.drop k.toNat↔(a.getD i.toNat aV).bu=(b.getD i.toNat aV).bu)
def CF(a:List au)(b:List au):Int×Int×Unit->Nat:=fun(i,k,_)=>(a.getD i.toNat aV).bu.length-k.toNat
def ai':AX Yc:=fun(a,b)=>bW [(4,aU [iI 5] (fun _=>Dt a b) (v7 a b)),(9,aU [iI 5,iI 6] (Ds a b) (CF a b))]
def ah8:HH:=hF Yc func122 [Yz] ai' fun x hp hb=>by
 obtain⟨a,b⟩:=x
 have SK:gh (U:=UU) (.one (.sl .aB a)):=hb _ m0
 have P5:L9 a.length:=iv (hb _ m0)
 have P0:L9 b.length:=iv (hb _ m1)
 clear hp hb
 apply vE (let q0:=Lb false (decide (a=b));bif (a.length:Int) !=(b.length:Int) then q0 else Dt a b (0,())/\∀(y:Int×PUnit),let x0:=a.getD y.1.toNat aV;let x1:=b.getD y.1.toNat aV;let q1:=(y.1,0,());Dt a b y->bif decide (y.1<(a.length:Int)) then 0<=y.1/\y.1.toNat<a.length/\0<=y.1/\y.1.toNat<b.length/\bif !decide (x0.cL=x1.cL/\x0.eH=x1.eH) then q0 else 0<=y.1/\y.1.toNat<a.length/\0<=y.1/\y.1.toNat<b.length/\bif (x0.bu.length:Int) !=(x1.bu.length:Int) then q0 else Ds a b q1 q1/\∀(aL:Int×Int×PUnit),let x2:=aL.2.1.toNat;let x3:=((b.getD aL.1.toNat aV).bu.getD x2 tJ).V;let x4:=((a.getD aL.1.toNat aV).bu.getD x2 tJ).V;let x5:=(↑((a.getD aL.1.toNat aV).bu.length):Int);let q2:=(aL.1,wrap i64 (aL.2.1+1),());let q3:=(wrap i64 (aL.1+1),());Ds a b q1 aL->0<=aL.1/\aL.1.toNat<a.length/\bif decide (aL.2.1<x5) then 0<=aL.1/\aL.1.toNat<a.length/\0<=aL.2.1/\x2<(a.getD aL.1.toNat aV).bu.length/\0<=aL.1/\aL.1.toNat<b.length/\0<=aL.2.1/\x2<(b.getD aL.1.toNat aV).bu.length/\bif !(ByteArray.toList ((a.getD aL.1.toNat aV).bu.getD x2 tJ).Name==ByteArray.toList ((b.getD aL.1.toNat aV).bu.getD x2 tJ).Name&&(x4.K==x3.K&&(x4.N==x3.N&&(ByteArray.toList x4.S==ByteArray.toList x3.S&&true))&&true)) then q0 else Ds a b q1 q2/\CF a b q2<CF a b aL else Dt a b q3/\v7 a b q3<v7 a b y else Lb true (decide (a=b)))
 dsimp only
 refine ae (fun h=>m7 (rh (by simpa using h))) (fun h=>⟨⟨by omega,by omega,(uJ (a:=a) (b:=b) (by assumption)),by simp⟩,?_⟩)
 rintro⟨i,⟨⟩⟩ ⟨h1,h2,h3,hR⟩
 simp only
 refine ae ?_ ?_<;>intro hc
 ·have hc:i<a.length:=yT hc
  have hm:v7 a b (i+1,PUnit.unit)<v7 a b (i,()):=by simp only[v7];omega
  try simp only[To]
  try simp only[aM]
  have hz:_:=S5 (a.getD i.toNat aV) (b.getD i.toNat aV)
  have hlA:(a.getD i.toNat aV).bu.length<=9223372036854775807:=Bd.len (Bd.row SK (x:=a.getD i.toNat aV) (c:=.sl .cv (a.getD i.toNat aV).bu) (ye a _ h1 hc) (.tail _ (.tail _ (.head _))))
  repeat' (first|refine And.intro (by omega) ?_|refine ae (fun h=>m7 (nk aV h1 hc (by omega) hR (by first|grind|(rw[hz];grind)))) (fun h=> ?_))
  refine⟨⟨rfl,by omega,by omega,(uJ (a:=(a.getD i.toNat aV).bu) (b:=(b.getD i.toNat aV).bu) (by assumption)),by simp⟩,?_⟩
  rintro⟨i,k,⟨⟩⟩ ⟨rfl,g1,g2,g3,gR⟩
  try simp only
  repeat' (refine And.intro (by omega) ?_)
  refine ae ?_ ?_<;>intro hk
  ·have hk:=yT hk
   simp(disch:=omega) only[wrap_i64]
   repeat' (first|refine And.intro (by omega) ?_|refine ae (fun h=> ?_) (fun h=> ?_))
   all_goals first|exact m7 (nk aV h1 hc (by omega) hR (fun e=>absurd (by rw[e]) (nk tJ g1 hk (by omega) gR (by grind))))|exact⟨⟨rfl,by omega,by omega,g3,pR tJ g1 hk (by omega) gR (by grind)⟩,by simp only[CF];omega⟩
  ·have hk:(a.getD i.toNat aV).bu.length<=k:=by have:=yF hk;omega
   have he:=mo hk (by omega) gR
   simp(disch:=omega) only[wrap_i64]
   exact⟨⟨by omega,by omega,h3,pR aV h1 hc (by omega) hR (by first|grind|(rw[hz];grind))⟩,hm⟩
 ·have hc:a.length<=i:=by have:=yF hc;omega
  exact NK (mo hc (by omega) hR)
def XX:=cj (α:=(List eK)×(List eK)) (qC (qL .dG) (q1 (qL .dG))) [.ro,.ro] (fun _=>[]) (fun(a,b)=>⟨[dO (decide (a=b))],[],[]⟩)
def De(a:List eK)(b:List eK):Int×Unit->Prop:=fun(i,_)=>0<=i/\i<=a.length/\a.length=b.length/\(a.drop i.toNat=b.drop i.toNat↔a=b)
def v3(a:List eK)(b:List eK):Int×Unit->Nat:=fun(i,_)=>a.length-i.toNat
def zd(a:List eK)(b:List eK):Int×T6×T6×Int×Unit->Int×T6×T6×Int×Unit->Prop:=fun(i0,fx0,fy0,k0,_) (i,fx,fy,k,_)=>i=i0/\0<=k/\k<=(a.getD i.toNat dq).av.length/\(a.getD i.toNat dq).av.length=(b.getD i.toNat dq).av.length/\((a.getD i.toNat dq).av.drop k.toNat=(b.getD i.toNat dq).av.drop k.toNat↔(a.getD i.toNat dq).av=(b.getD i.toNat dq).av)/\fx=((a.getD i.toNat dq).Kind,(a.getD i.toNat dq).Name,(a.getD i.toNat dq).av,(a.getD i.toNat dq).N,(a.getD i.toNat dq).aR,())/\fy=((b.getD i.toNat dq).Kind,(b.getD i.toNat dq).Name,(b.getD i.toNat dq).av,(b.getD i.toNat dq).N,(b.getD i.toNat dq).aR,())
def yY(a:List eK)(b:List eK):Int×T6×T6×Int×Unit->Nat:=fun(i,fx,fy,k,_)=>(a.getD i.toNat dq).av.length-k.toNat
def aiS:AX XX:=fun(a,b)=>bW [(4,aU [iI 5] (fun _=>De a b) (v3 a b)),(11,aU [iI 5,.box 6 (6,1024) [.lit (.int .i64),.lit .str,.shr .bG,.lit (.int .i64),.lit .str],.box 7 (7,1024) [.lit (.int .i64),.lit .str,.shr .bG,.lit (.int .i64),.lit .str],iI 8] (zd a b) (yY a b))]
def ahD:HH:=hF XX func165 [] aiS fun x hp hb=>by
 obtain⟨a,b⟩:=x
 have SK:gh (U:=UU) (.one (.sl .dG a)):=hb _ m0
 have P5:L9 a.length:=iv (hb _ m0)
 have P0:L9 b.length:=iv (hb _ m1)
 clear hp hb
 apply vE (let q0:=Lb false (decide (a=b));let q1:=Int×BA×List cn×Int×BA×PUnit;bif (a.length:Int) !=(b.length:Int) then q0 else De a b (0,())/\∀(y:Int×PUnit),let x0:=a.getD y.1.toNat dq;let x1:=b.getD y.1.toNat dq;let q2:=(y.1,(x0.Kind,x0.Name,x0.av,x0.N,x0.aR,()),(x1.Kind,x1.Name,x1.av,x1.N,x1.aR,()),0,());De a b y->bif decide (y.1<(a.length:Int)) then 0<=y.1/\y.1.toNat<a.length/\0<=y.1/\y.1.toNat<b.length/\bif x0.Kind !=x1.Kind then q0 else bif !ByteArray.toList x0.Name==ByteArray.toList x1.Name then q0 else bif x0.N !=x1.N then q0 else bif !ByteArray.toList x0.aR==ByteArray.toList x1.aR then q0 else bif (x0.av.length:Int) !=(x1.av.length:Int) then q0 else zd a b q2 q2/\∀(aL:Int×q1×q1×Int×PUnit),let x7:=aL.2.2.2.1.toNat;let wI:=aL.2.1.2.2.1.getD x7 ff;let zv:=aL.2.1.2.2.1.length;let x6:=aL.2.2.1.2.2.1.getD x7 ff;let oV:=wI.L;let qb:=wI.R;let iw:=(↑zv:Int);let x4:=x6.R;let x5:=x6.L;let x8:=qb.V;let x9:=oV.V;let x2:=x5.V;let x3:=x4.V;let q3:=(aL.1,(aL.2.1.1,aL.2.1.2.1,aL.2.1.2.2.1,aL.2.1.2.2.2.1,aL.2.1.2.2.2.2.1,()),(aL.2.2.1.1,aL.2.2.1.2.1,aL.2.2.1.2.2.1,aL.2.2.1.2.2.2.1,aL.2.2.1.2.2.2.2.1,()),wrap i64 (aL.2.2.2.1+1),());let q4:=(wrap i64 (aL.1+1),());zd a b q2 aL->bif decide (aL.2.2.2.1<iw) then 0<=aL.2.2.2.1/\x7<zv/\0<=aL.2.2.2.1/\x7<aL.2.2.1.2.2.1.length/\bif !(ByteArray.toList wI.Op==ByteArray.toList x6.Op&&(oV.K==x5.K&&(ByteArray.toList oV.S==ByteArray.toList x5.S&&(x9.K==x2.K&&(x9.N==x2.N&&(ByteArray.toList x9.S==ByteArray.toList x2.S&&true))&&true))&&(qb.K==x4.K&&(ByteArray.toList qb.S==ByteArray.toList x4.S&&(x8.K==x3.K&&(x8.N==x3.N&&(ByteArray.toList x8.S==ByteArray.toList x3.S&&true))&&true))&&true))) then q0 else zd a b q2 q3/\yY a b q3<yY a b aL else De a b q4/\v3 a b q4<v3 a b y else Lb true (decide (a=b)))
 dsimp only
 refine ae (fun h=>m7 (rh (by simpa using h))) (fun h=>⟨⟨by omega,by omega,(uJ (a:=a) (b:=b) (by assumption)),by simp⟩,?_⟩)
 rintro⟨i,⟨⟩⟩ ⟨h1,h2,h3,hR⟩
 simp only
 refine ae ?_ ?_<;>intro hc
 ·have hc:i<a.length:=yT hc
  have hm:v3 a b (i+1,PUnit.unit)<v3 a b (i,()):=by simp only[v3];omega
  try simp only[S0]
  try simp only[aM]
  have hz:_:=aba (a.getD i.toNat dq) (b.getD i.toNat dq)
  have hlA:(a.getD i.toNat dq).av.length<=9223372036854775807:=Bd.len (Bd.row SK (x:=a.getD i.toNat dq) (c:=.sl .bG (a.getD i.toNat dq).av) (ye a _ h1 hc) (.tail _ (.tail _ (.head _))))
  repeat' (first|refine And.intro (by omega) ?_|refine ae (fun h=>m7 (nk dq h1 hc (by omega) hR (by first|grind|(rw[hz];grind)))) (fun h=> ?_))
  refine⟨⟨rfl,by omega,by omega,(uJ (a:=(a.getD i.toNat dq).av) (b:=(b.getD i.toNat dq).av) (by assumption)),by simp,rfl,rfl⟩,?_⟩
  rintro⟨i,fx,fy,k,⟨⟩⟩ ⟨rfl,g1,g2,g3,gR,rfl,rfl⟩
  try simp only
  repeat' (refine And.intro (by omega) ?_)
  refine ae ?_ ?_<;>intro hk
  ·have hk:=yT hk
   simp(disch:=omega) only[wrap_i64]
   repeat' (first|refine And.intro (by omega) ?_|refine ae (fun h=> ?_) (fun h=> ?_))
   all_goals first|exact m7 (nk dq h1 hc (by omega) hR (fun e=>absurd (by rw[e]) (nk ff g1 hk (by omega) gR (by grind))))|exact⟨⟨rfl,by omega,by omega,g3,pR ff g1 hk (by omega) gR (by grind),rfl,rfl⟩,by simp only[yY];omega⟩
  ·have hk:(a.getD i.toNat dq).av.length<=k:=by have:=yF hk;omega
   have he:=mo hk (by omega) gR
   simp(disch:=omega) only[wrap_i64]
   exact⟨⟨by omega,by omega,h3,pR dq h1 hc (by omega) hR (by first|grind|(rw[hz];grind))⟩,hm⟩
 ·have hc:a.length<=i:=by have:=yF hc;omega
  exact NK (mo hc (by omega) hR)
def Ye:=cj (α:=aF×aF) (qC (qA .c_) (q1 (qA .c_))) [.ro,.ro] (fun _=>[]) (fun(a,b)=>⟨[dO (decide (a=b))],[],[]⟩)
def Dv(a:aF)(b:aF):Int×T3×T3×Unit->Prop:=fun(i,fa,fb,_)=>fa=(a.ab,a.Next,())/\fb=(b.ab,b.Next,())/\0<=i/\i<=a.ab.length/\a.ab.length=b.ab.length/\(a.ab.drop i.toNat=b.ab.drop i.toNat↔a.ab=b.ab)
def CH(a:aF)(b:aF):Int×T3×T3×Unit->Nat:=fun(i,fa,fb,_)=>a.ab.length-i.toNat
def aja:AX Ye:=fun(a,b)=>bW [(4,aU [iI 5,.box 2 (2,1024) [.shr .aH,.lit (.int .i64)],.box 3 (3,1024) [.shr .aH,.lit (.int .i64)]] (fun _=>Dv a b) (CH a b))]
def ah':HH:=hF Ye func120 [FI] aja fun x hp hb=>by
 obtain⟨a,b⟩:=x
 have aaI:=ii (x:=a) (hb _ m0)
 have aaE:=ii (x:=b) (hb _ m1)
 clear hp hb
 apply vE (let q0:=Lb false (decide (a=b));bif a.Next !=b.Next then q0 else bif (a.ab.length:Int) !=(b.ab.length:Int) then q0 else Dv a b (0,(a.ab,a.Next,()),(b.ab,b.Next,()),())/\∀(y:Int×NJ×NJ×PUnit),let x0:=y.2.2.1.1.getD y.1.toNat aX;let x1:=y.2.1.1.getD y.1.toNat aX;let x3:=y.2.1.1.length;let x2:=(↑x3:Int);let q1:=(wrap i64 (y.1+1),(y.2.1.1,y.2.1.2.1,()),(y.2.2.1.1,y.2.2.1.2.1,()),());Dv a b y->bif decide (y.1<x2) then 0<=y.1/\y.1.toNat<x3/\0<=y.1/\y.1.toNat<y.2.2.1.1.length/\bif x1.Id !=x0.Id then q0 else 0<=y.1/\y.1.toNat<x3/\0<=y.1/\y.1.toNat<y.2.2.1.1.length/\bif !decide (x1.F=x0.F) then q0 else Dv a b q1/\CH a b q1<CH a b y else Lb true (decide (a=b)))
 dsimp only
 have hy:_:=S4 a b
 try simp only[gN]
 try simp only[aM]
 repeat' (refine ae (fun h=>m7 (by first|grind|(have:=@rh;rw[hy];grind))) (fun h=> ?_))
 refine⟨⟨rfl,rfl,by omega,by omega,by grind,by simp⟩,?_⟩
 rintro⟨i,fa,fb,⟨⟩⟩ ⟨rfl,rfl,h1,h2,h3,hR⟩
 simp only
 refine ae ?_ ?_<;>intro hc
 ·have hc:i<a.ab.length:=yT hc
  rw[wi]
  try simp only[gN]
  try simp only[aM]
  have hz:_:=Wf (a.ab.getD i.toNat aX) (b.ab.getD i.toNat aX)
  repeat' (first|refine And.intro (by omega) ?_|refine ae (fun h=> ?_) (fun h=> ?_))
  all_goals first|exact m7 (fun e=>absurd (by rw[e]) (nk aX h1 hc (by omega) hR (by first|grind|(rw[hz];grind))))|exact⟨⟨rfl,rfl,by omega,by omega,h3,pR aX h1 hc (by omega) hR (by first|grind|(rw[hz];grind))⟩,by simp only[CH];omega⟩
 ·have hc:a.ab.length<=i:=by have:=yF hc;omega
  have nE:=mo hc (by omega) hR
  clear hR h1 h2 h3 hc
  repeat' (refine ae (fun h=> ?_) (fun h=> ?_))
  all_goals (refine ck ?_;grind)
def Yf:=cj (α:=aY×aY) (qC (qA .bz) (q1 (qA .bz))) [.ro,.ro] (fun _=>[]) (fun(a,b)=>⟨[dO (decide (a=b))],[],[]⟩)
def Dw(a:aY)(b:aY):Int×T1×T1×Unit->Prop:=fun(i,fa,fb,_)=>fa=(a.Name,a.jq,a.aD,a.aO,a.bH,())/\fb=(b.Name,b.jq,b.aD,b.aO,b.bH,())/\0<=i/\i<=a.aO.length/\a.aO.length=b.aO.length/\(a.aO.drop i.toNat=b.aO.drop i.toNat↔a.aO=b.aO)
def CJ(a:aY)(b:aY):Int×T1×T1×Unit->Nat:=fun(i,fa,fb,_)=>a.aO.length-i.toNat
def ajb:AX Yf:=fun(a,b)=>bW [(4,aU [iI 5,.box 2 (2,1024) [.lit .str,.lit (.int .i64),.shr .dE,.shr .bT,.shr .dG],.box 3 (3,1024) [.lit .str,.lit (.int .i64),.shr .dE,.shr .bT,.shr .dG]] (fun _=>Dw a b) (CJ a b))]
def ah_:HH:=hF Yf func119 [ahE,ahD] ajb fun x hp hb=>by
 obtain⟨a,b⟩:=x
 have aS:=jE (x:=a) (hb _ m0)
 have rN:=aS.1
 have abD:=aS.2.1
 have aaJ:=aS.2.2.1
 have abF:=aS.2.2.2
 have dw:=jE (x:=b) (hb _ m1)
 have PY:=dw.1
 have abA:=dw.2.1
 have aaF:=dw.2.2.1
 have abC:=dw.2.2.2
 clear hp hb
 apply vE (let q0:=Lb false (decide (a=b));let q1:=BA×Int×List cr×List dB×List eK×PUnit;bif !ByteArray.toList a.Name==ByteArray.toList b.Name then q0 else bif a.jq !=b.jq then q0 else bif (a.aO.length:Int) !=(b.aO.length:Int) then q0 else Dw a b (0,(a.Name,a.jq,a.aD,a.aO,a.bH,()),(b.Name,b.jq,b.aD,b.aO,b.bH,()),())/\∀(y:Int×q1×q1×PUnit),let x4:=y.2.2.1.2.2.2.1.getD y.1.toNat ql;let x9:=y.2.1.2.2.2.1.getD y.1.toNat ql;let qb:=y.2.1.2.2.2.1.length;let x2:=x4.L;let x3:=x4.R;let x7:=x9.L;let x8:=x9.R;let oV:=(↑qb:Int);let x0:=x3.V;let x1:=x2.V;let x5:=x8.V;let x6:=x7.V;let q2:=(wrap i64 (y.1+1),(y.2.1.1,y.2.1.2.1,y.2.1.2.2.1,y.2.1.2.2.2.1,y.2.1.2.2.2.2.1,()),(y.2.2.1.1,y.2.2.1.2.1,y.2.2.1.2.2.1,y.2.2.1.2.2.2.1,y.2.2.1.2.2.2.2.1,()),());Dw a b y->bif decide (y.1<oV) then 0<=y.1/\y.1.toNat<qb/\0<=y.1/\y.1.toNat<y.2.2.1.2.2.2.1.length/\bif !(x9.Op==x4.Op&&(x7.K==x2.K&&(ByteArray.toList x7.S==ByteArray.toList x2.S&&(x6.K==x1.K&&(x6.N==x1.N&&(ByteArray.toList x6.S==ByteArray.toList x1.S&&true))&&true))&&(x8.K==x3.K&&(ByteArray.toList x8.S==ByteArray.toList x3.S&&(x5.K==x0.K&&(x5.N==x0.N&&(ByteArray.toList x5.S==ByteArray.toList x0.S&&true))&&true))&&true))) then q0 else Dw a b q2/\CJ a b q2<CJ a b y else bif decide (y.2.1.2.2.1=y.2.2.1.2.2.1) then Lb (decide (y.2.1.2.2.2.2.1=y.2.2.1.2.2.2.2.1)) (decide (a=b)) else q0)
 dsimp only
 have hy:_:=Ou a b
 try simp only[LF]
 try simp only[aM]
 repeat' (refine ae (fun h=>m7 (by first|grind|(have:=@rh;rw[hy];grind))) (fun h=> ?_))
 refine⟨⟨rfl,rfl,by omega,by omega,by grind,by simp⟩,?_⟩
 rintro⟨i,fa,fb,⟨⟩⟩ ⟨rfl,rfl,h1,h2,h3,hR⟩
 simp only
 refine ae ?_ ?_<;>intro hc
 ·have hc:i<a.aO.length:=yT hc
  rw[wi]
  try simp only[LF]
  try simp only[aM]
  have hz:True:=trivial
  repeat' (first|refine And.intro (by omega) ?_|refine ae (fun h=> ?_) (fun h=> ?_))
  all_goals first|exact m7 (fun e=>absurd (by rw[e]) (nk ql h1 hc (by omega) hR (by first|grind|(rw[hz];grind))))|exact⟨⟨rfl,rfl,by omega,by omega,h3,pR ql h1 hc (by omega) hR (by first|grind|(rw[hz];grind))⟩,by simp only[CJ];omega⟩
 ·have hc:a.aO.length<=i:=by have:=yF hc;omega
  have nE:=mo hc (by omega) hR
  clear hR h1 h2 h3 hc
  repeat' (refine ae (fun h=> ?_) (fun h=> ?_))
  all_goals (refine ck ?_;grind)
def aeP:=cj (α:=bp×bp) (qC (qA .h_) (q1 (qA .h_))) [.ro,.ro] (fun _=>[]) (fun(a,b)=>⟨[dO (decide (a=b))],[],[]⟩)
def Jj(a:bp)(b:bp):Int×T2×T2×Unit->Prop:=fun(i,fa,fb,_)=>fa=(a.Name,a.aw,())/\fb=(b.Name,b.aw,())/\0<=i/\i<=a.aw.length/\a.aw.length=b.aw.length/\(a.aw.drop i.toNat=b.aw.drop i.toNat↔a.aw=b.aw)
def IJ(a:bp)(b:bp):Int×T2×T2×Unit->Nat:=fun(i,fa,fb,_)=>a.aw.length-i.toNat
def aoI:AX aeP:=fun(a,b)=>bW [(4,aU [iI 5,.box 2 (2,1024) [.lit .str,.shr .bz],.box 3 (3,1024) [.lit .str,.shr .bz]] (fun _=>Jj a b) (IJ a b))]
def anZ:HH:=hF aeP func75 [ah_] aoI fun x hp hb=>by
 obtain⟨a,b⟩:=x
 have aS:=gI (x:=a) (hb _ m0)
 have rN:=aS.1
 have aaH:=aS.2
 have dw:=gI (x:=b) (hb _ m1)
 have PY:=dw.1
 have aaD:=dw.2
 clear hp hb
 apply vE (let q0:=Lb false (decide (a=b));bif !ByteArray.toList a.Name==ByteArray.toList b.Name then q0 else bif (a.aw.length:Int) !=(b.aw.length:Int) then q0 else Jj a b (0,(a.Name,a.aw,()),(b.Name,b.aw,()),())/\∀(y:Int×T9×T9×PUnit),let x1:=y.2.1.2.1.length;let x0:=(↑x1:Int);let q1:=(wrap i64 (y.1+1),(y.2.1.1,y.2.1.2.1,()),(y.2.2.1.1,y.2.2.1.2.1,()),());Jj a b y->bif decide (y.1<x0) then 0<=y.1/\y.1.toNat<x1/\0<=y.1/\y.1.toNat<y.2.2.1.2.1.length/\bif !decide (y.2.1.2.1.getD y.1.toNat cq=y.2.2.1.2.1.getD y.1.toNat cq) then q0 else Jj a b q1/\IJ a b q1<IJ a b y else Lb true (decide (a=b)))
 dsimp only
 have hy:_:=S6 a b
 try simp only[gN]
 try simp only[aM]
 repeat' (refine ae (fun h=>m7 (by first|grind|(have:=@rh;rw[hy];grind))) (fun h=> ?_))
 refine⟨⟨rfl,rfl,by omega,by omega,by grind,by simp⟩,?_⟩
 rintro⟨i,fa,fb,⟨⟩⟩ ⟨rfl,rfl,h1,h2,h3,hR⟩
 simp only
 refine ae ?_ ?_<;>intro hc
 ·have hc:i<a.aw.length:=yT hc
  rw[wi]
  try simp only[gN]
  try simp only[aM]
  have hz:_:=Ou (a.aw.getD i.toNat cq) (b.aw.getD i.toNat cq)
  repeat' (first|refine And.intro (by omega) ?_|refine ae (fun h=> ?_) (fun h=> ?_))
  all_goals first|exact m7 (fun e=>absurd (by rw[e]) (nk cq h1 hc (by omega) hR (by first|grind|(rw[hz];grind))))|exact⟨⟨rfl,rfl,by omega,by omega,h3,pR cq h1 hc (by omega) hR (by first|grind|(rw[hz];grind))⟩,by simp only[IJ];omega⟩
 ·have hc:a.aw.length<=i:=by have:=yF hc;omega
  have nE:=mo hc (by omega) hR
  clear hR h1 h2 h3 hc
  repeat' (refine ae (fun h=> ?_) (fun h=> ?_))
  all_goals (refine ck ?_;grind)
def aeO:=cj (α:=aq×aq) (qC (qA .ct) (q1 (qA .ct))) [.ro,.ro] (fun _=>[]) (fun(a,b)=>⟨[dO (decide (a=b))],[],[]⟩)
def Ji(a:aq)(b:aq):Int×T0×T0×Unit->Prop:=fun(i,fa,fb,_)=>fa=(a.S.ab,a.S.Next,a.aC,a.ap,a.ax,a.ay,a.State,a.cJ,())/\fb=(b.S.ab,b.S.Next,b.aC,b.ap,b.ax,b.ay,b.State,b.cJ,())/\0<=i/\i<=a.ax.length/\a.ax.length=b.ax.length/\(a.ax.drop i.toNat=b.ax.drop i.toNat↔a.ax=b.ax)
def II(a:aq)(b:aq):Int×T0×T0×Unit->Nat:=fun(i,fa,fb,_)=>a.ax.length-i.toNat
def Jh(a:aq)(b:aq):Int×T0×T0×Unit->Prop:=fun(i,fa,fb,_)=>fa=(a.S.ab,a.S.Next,a.aC,a.ap,a.ax,a.ay,a.State,a.cJ,())/\fb=(b.S.ab,b.S.Next,b.aC,b.ap,b.ax,b.ay,b.State,b.cJ,())/\0<=i/\i<=a.ay.length/\a.ay.length=b.ay.length/\(a.ay.drop i.toNat=b.ay.drop i.toNat↔a.ay=b.ay)
def IH(a:aq)(b:aq):Int×T0×T0×Unit->Nat:=fun(i,fa,fb,_)=>a.ay.length-i.toNat
def aoH:AX aeO:=fun(a,b)=>bW [(4,aU [iI 5,.box 2 (2,1024) [.shr .aH,.lit (.int .i64),.shr .aB,.shr .az,.shr .aI,.shr .aW,.lit (.int .i64),.lit (.int .i64)],.box 3 (3,1024) [.shr .aH,.lit (.int .i64),.shr .aB,.shr .az,.shr .aI,.shr .aW,.lit (.int .i64),.lit (.int .i64)]] (fun _=>Ji a b) (II a b)),(9,aU [iI 6,.box 2 (2,1024) [.shr .aH,.lit (.int .i64),.shr .aB,.shr .az,.shr .aI,.shr .aW,.lit (.int .i64),.lit (.int .i64)],.box 3 (3,1024) [.shr .aH,.lit (.int .i64),.shr .aB,.shr .az,.shr .aI,.shr .aW,.lit (.int .i64),.lit (.int .i64)]] (fun _=>Jh a b) (IH a b))]
def anY:HH:=hF aeO func76 [ah',ah9,ah8,FI] aoH fun x hp hb=>by
 obtain⟨a,b⟩:=x
 have aS:=hH (x:=a) (hb _ m0)
 have H':=aS.1
 have Nl:=aS.2.1
 have Nk:=aS.2.2.1
 have K_:=aS.2.2.2.1
 have Nj:=aS.2.2.2.2
 have dw:=hH (x:=b) (hb _ m1)
 have H9:=dw.1
 have Ni:=dw.2.1
 have Ng:=dw.2.2.1
 have K7:=dw.2.2.2.1
 have Nf:=dw.2.2.2.2
 clear hp hb
 apply vE (let q0:=List bL×Int×List au×List ak×List aK×List bj×Int×Int×PUnit;let q1:=Lb false (decide (a=b));bif a.State !=b.State then q1 else bif a.cJ !=b.cJ then q1 else bif !decide (a.S=b.S) then q1 else bif !decide (a.ap=b.ap) then q1 else bif !decide (a.aC=b.aC) then q1 else bif (a.ax.length:Int) !=(b.ax.length:Int) then q1 else bif (a.ay.length:Int) !=(b.ay.length:Int) then q1 else Ji a b (0,(a.S.ab,a.S.Next,a.aC,a.ap,a.ax,a.ay,a.State,a.cJ,()),(b.S.ab,b.S.Next,b.aC,b.ap,b.ax,b.ay,b.State,b.cJ,()),())/\∀(y:Int×q0×q0×PUnit),let x0:=y.2.2.1.2.2.2.2.1.getD y.1.toNat cS;let x1:=y.2.1.2.2.2.2.1.getD y.1.toNat cS;let x3:=y.2.1.2.2.2.2.1.length;let x2:=(↑x3:Int);Ji a b y->bif decide (y.1<x2) then 0<=y.1/\y.1.toNat<x3/\0<=y.1/\y.1.toNat<y.2.2.1.2.2.2.2.1.length/\bif x1.At !=x0.At then q1 else 0<=y.1/\y.1.toNat<x3/\0<=y.1/\y.1.toNat<y.2.2.1.2.2.2.2.1.length/\bif !decide (x1.F=x0.F) then q1 else Ji a b (wrap i64 (y.1+1),(y.2.1.1,y.2.1.2.1,y.2.1.2.2.1,y.2.1.2.2.2.1,y.2.1.2.2.2.2.1,y.2.1.2.2.2.2.2.1,y.2.1.2.2.2.2.2.2.1,y.2.1.2.2.2.2.2.2.2.1,()),(y.2.2.1.1,y.2.2.1.2.1,y.2.2.1.2.2.1,y.2.2.1.2.2.2.1,y.2.2.1.2.2.2.2.1,y.2.2.1.2.2.2.2.2.1,y.2.2.1.2.2.2.2.2.2.1,y.2.2.1.2.2.2.2.2.2.2.1,()),())/\II a b (wrap i64 (y.1+1),(y.2.1.1,y.2.1.2.1,y.2.1.2.2.1,y.2.1.2.2.2.1,y.2.1.2.2.2.2.1,y.2.1.2.2.2.2.2.1,y.2.1.2.2.2.2.2.2.1,y.2.1.2.2.2.2.2.2.2.1,()),(y.2.2.1.1,y.2.2.1.2.1,y.2.2.1.2.2.1,y.2.2.1.2.2.2.1,y.2.2.1.2.2.2.2.1,y.2.2.1.2.2.2.2.2.1,y.2.2.1.2.2.2.2.2.2.1,y.2.2.1.2.2.2.2.2.2.2.1,()),())<II a b y else Jh a b (0,(y.2.1.1,y.2.1.2.1,y.2.1.2.2.1,y.2.1.2.2.2.1,y.2.1.2.2.2.2.1,y.2.1.2.2.2.2.2.1,y.2.1.2.2.2.2.2.2.1,y.2.1.2.2.2.2.2.2.2.1,()),(y.2.2.1.1,y.2.2.1.2.1,y.2.2.1.2.2.1,y.2.2.1.2.2.2.1,y.2.2.1.2.2.2.2.1,y.2.2.1.2.2.2.2.2.1,y.2.2.1.2.2.2.2.2.2.1,y.2.2.1.2.2.2.2.2.2.2.1,()),())/\∀(y:Int×q0×q0×PUnit),let x4:=y.2.2.1.2.2.2.2.2.1.getD y.1.toNat bP;let x5:=y.2.1.2.2.2.2.2.1.getD y.1.toNat bP;let x7:=y.2.1.2.2.2.2.2.1.length;let x6:=(↑x7:Int);let q2:=(wrap i64 (y.1+1),(y.2.1.1,y.2.1.2.1,y.2.1.2.2.1,y.2.1.2.2.2.1,y.2.1.2.2.2.2.1,y.2.1.2.2.2.2.2.1,y.2.1.2.2.2.2.2.2.1,y.2.1.2.2.2.2.2.2.2.1,()),(y.2.2.1.1,y.2.2.1.2.1,y.2.2.1.2.2.1,y.2.2.1.2.2.2.1,y.2.2.1.2.2.2.2.1,y.2.2.1.2.2.2.2.2.1,y.2.2.1.2.2.2.2.2.2.1,y.2.2.1.2.2.2.2.2.2.2.1,()),());Jh a b y->bif decide (y.1<x6) then 0<=y.1/\y.1.toNat<x7/\0<=y.1/\y.1.toNat<y.2.2.1.2.2.2.2.2.1.length/\bif !ByteArray.toList x5.Key==ByteArray.toList x4.Key then q1 else 0<=y.1/\y.1.toNat<x7/\0<=y.1/\y.1.toNat<y.2.2.1.2.2.2.2.2.1.length/\bif !decide (x5.F=x4.F) then q1 else Jh a b q2/\IH a b q2<IH a b y else Lb true (decide (a=b)))
 dsimp only
 have hy:_:=Wg a b
 try simp only[gN]
 try simp only[aM]
 repeat' (refine ae (fun h=>m7 (by first|grind|(have:=@rh;rw[hy];grind))) (fun h=> ?_))
 refine⟨⟨rfl,rfl,by omega,by omega,by grind,by simp⟩,?_⟩
 rintro⟨i,fa,fb,⟨⟩⟩ ⟨rfl,rfl,h1,h2,h3,hR⟩
 simp only
 refine ae ?_ ?_<;>intro hc
 ·have hc:i<a.ax.length:=yT hc
  rw[wi]
  try simp only[gN]
  try simp only[aM]
  have hz:_:=S3 (a.ax.getD i.toNat cS) (b.ax.getD i.toNat cS)
  repeat' (first|refine And.intro (by omega) ?_|refine ae (fun h=> ?_) (fun h=> ?_))
  all_goals first|exact m7 (fun e=>absurd (by rw[e]) (nk cS h1 hc (by omega) hR (by first|grind|(rw[hz];grind))))|exact⟨⟨rfl,rfl,by omega,by omega,h3,pR cS h1 hc (by omega) hR (by first|grind|(rw[hz];grind))⟩,by simp only[II];omega⟩
 ·have hc:a.ax.length<=i:=by have:=yF hc;omega
  have nE:=mo hc (by omega) hR
  clear hR h1 h2 h3 hc
  refine⟨⟨rfl,rfl,by omega,by omega,by grind,by simp⟩,?_⟩
  rintro⟨i,fa,fb,⟨⟩⟩ ⟨rfl,rfl,h1,h2,h3,hR⟩
  simp only
  refine ae ?_ ?_<;>intro hc
  ·have hc:i<a.ay.length:=yT hc
   rw[wi]
   try simp only[gN]
   try simp only[aM]
   have hz:_:=Wd (a.ay.getD i.toNat bP) (b.ay.getD i.toNat bP)
   repeat' (first|refine And.intro (by omega) ?_|refine ae (fun h=> ?_) (fun h=> ?_))
   all_goals first|exact m7 (fun e=>absurd (by rw[e]) (nk bP h1 hc (by omega) hR (by first|grind|(rw[hz];grind))))|exact⟨⟨rfl,rfl,by omega,by omega,h3,pR bP h1 hc (by omega) hR (by first|grind|(rw[hz];grind))⟩,by simp only[IH];omega⟩
  ·have hc:a.ay.length<=i:=by have:=yF hc;omega
   have V0:=mo hc (by omega) hR
   clear hR h1 h2 h3 hc
   repeat' (refine ae (fun h=> ?_) (fun h=> ?_))
   all_goals (refine ck ?_;grind)
def afw:=cj (α:=k_×k_) (qC (qA .oi) (q1 (qA .oi))) [.ro,.ro] (fun _=>[]) (fun(a,b)=>⟨[dO (decide (a=b))],[],[]⟩)
def JL(a:k_)(b:k_):Int×YS×YS×Unit->Prop:=fun(i,fa,fb,_)=>fa=(a.ov,a.jN,a.cJ,a.AF,())/\fb=(b.ov,b.jN,b.cJ,b.AF,())/\0<=i/\i<=a.ov.length/\a.ov.length=b.ov.length/\(a.ov.drop i.toNat=b.ov.drop i.toNat↔a.ov=b.ov)
def I7(a:k_)(b:k_):Int×YS×YS×Unit->Nat:=fun(i,fa,fb,_)=>a.ov.length-i.toNat
def JK(a:k_)(b:k_):Int×YS×YS×Unit->Prop:=fun(i,fa,fb,_)=>fa=(a.ov,a.jN,a.cJ,a.AF,())/\fb=(b.ov,b.jN,b.cJ,b.AF,())/\0<=i/\i<=a.jN.length/\a.jN.length=b.jN.length/\(a.jN.drop i.toNat=b.jN.drop i.toNat↔a.jN=b.jN)
def I6(a:k_)(b:k_):Int×YS×YS×Unit->Nat:=fun(i,fa,fb,_)=>a.jN.length-i.toNat
def apb:AX afw:=fun(a,b)=>bW [(4,aU [iI 5,.box 2 (2,1024) [.shr .h_,.shr .kZ,.lit (.int .i64),.lit (.int .i64)],.box 3 (3,1024) [.shr .h_,.shr .kZ,.lit (.int .i64),.lit (.int .i64)]] (fun _=>JL a b) (I7 a b)),(9,aU [iI 6,.box 2 (2,1024) [.shr .h_,.shr .kZ,.lit (.int .i64),.lit (.int .i64)],.box 3 (3,1024) [.shr .h_,.shr .kZ,.lit (.int .i64),.lit (.int .i64)]] (fun _=>JK a b) (I6 a b))]
def aoq:HH:=hF afw func22 [anZ,anY] apb fun x hp hb=>by
 obtain⟨a,b⟩:=x
 have aS:=LQ (x:=a) (hb _ m0)
 have abE:=aS.1
 have aaG:=aS.2
 have dw:=LQ (x:=b) (hb _ m1)
 have abB:=dw.1
 have aaC:=dw.2
 clear hp hb
 apply vE (let q0:=Lb false (decide (a=b));let q1:=List bp×List sg×Int×Int×PUnit;bif a.cJ !=b.cJ then q0 else bif a.AF !=b.AF then q0 else bif (a.ov.length:Int) !=(b.ov.length:Int) then q0 else bif (a.jN.length:Int) !=(b.jN.length:Int) then q0 else JL a b (0,(a.ov,a.jN,a.cJ,a.AF,()),(b.ov,b.jN,b.cJ,b.AF,()),())/\∀(y:Int×q1×q1×PUnit),let x1:=y.2.1.1.length;let x0:=(↑x1:Int);JL a b y->bif decide (y.1<x0) then 0<=y.1/\y.1.toNat<x1/\0<=y.1/\y.1.toNat<y.2.2.1.1.length/\bif !decide (y.2.1.1.getD y.1.toNat Mu=y.2.2.1.1.getD y.1.toNat Mu) then q0 else JL a b (wrap i64 (y.1+1),(y.2.1.1,y.2.1.2.1,y.2.1.2.2.1,y.2.1.2.2.2.1,()),(y.2.2.1.1,y.2.2.1.2.1,y.2.2.1.2.2.1,y.2.2.1.2.2.2.1,()),())/\I7 a b (wrap i64 (y.1+1),(y.2.1.1,y.2.1.2.1,y.2.1.2.2.1,y.2.1.2.2.2.1,()),(y.2.2.1.1,y.2.2.1.2.1,y.2.2.1.2.2.1,y.2.2.1.2.2.2.1,()),())<I7 a b y else JK a b (0,(y.2.1.1,y.2.1.2.1,y.2.1.2.2.1,y.2.1.2.2.2.1,()),(y.2.2.1.1,y.2.2.1.2.1,y.2.2.1.2.2.1,y.2.2.1.2.2.2.1,()),())/\∀(y:Int×q1×q1×PUnit),let x2:=y.2.2.1.2.1.getD y.1.toNat DC;let x3:=y.2.1.2.1.getD y.1.toNat DC;let x5:=y.2.1.2.1.length;let x4:=(↑x5:Int);let q2:=(wrap i64 (y.1+1),(y.2.1.1,y.2.1.2.1,y.2.1.2.2.1,y.2.1.2.2.2.1,()),(y.2.2.1.1,y.2.2.1.2.1,y.2.2.1.2.2.1,y.2.2.1.2.2.2.1,()),());JK a b y->bif decide (y.1<x4) then 0<=y.1/\y.1.toNat<x5/\0<=y.1/\y.1.toNat<y.2.2.1.2.1.length/\bif !ByteArray.toList x3.Name==ByteArray.toList x2.Name then q0 else bif !ByteArray.toList x3.Def==ByteArray.toList x2.Def then q0 else bif !decide (x3.X=x2.X) then q0 else JK a b q2/\I6 a b q2<I6 a b y else Lb true (decide (a=b)))
 dsimp only
 have hy:_:=Wh a b
 try simp only[gN]
 try simp only[aM]
 repeat' (refine ae (fun h=>m7 (by first|grind|(have:=@rh;rw[hy];grind))) (fun h=> ?_))
 refine⟨⟨rfl,rfl,by omega,by omega,by grind,by simp⟩,?_⟩
 rintro⟨i,fa,fb,⟨⟩⟩ ⟨rfl,rfl,h1,h2,h3,hR⟩
 simp only
 refine ae ?_ ?_<;>intro hc
 ·have hc:i<a.ov.length:=yT hc
  rw[wi]
  try simp only[gN]
  try simp only[aM]
  have hz:_:=S6 (a.ov.getD i.toNat Mu) (b.ov.getD i.toNat Mu)
  repeat' (first|refine And.intro (by omega) ?_|refine ae (fun h=> ?_) (fun h=> ?_))
  all_goals first|exact m7 (fun e=>absurd (by rw[e]) (nk Mu h1 hc (by omega) hR (by first|grind|(rw[hz];grind))))|exact⟨⟨rfl,rfl,by omega,by omega,h3,pR Mu h1 hc (by omega) hR (by first|grind|(rw[hz];grind))⟩,by simp only[I7];omega⟩
 ·have hc:a.ov.length<=i:=by have:=yF hc;omega
  have nE:=mo hc (by omega) hR
  clear hR h1 h2 h3 hc
  refine⟨⟨rfl,rfl,by omega,by omega,by grind,by simp⟩,?_⟩
  rintro⟨i,fa,fb,⟨⟩⟩ ⟨rfl,rfl,h1,h2,h3,hR⟩
  simp only
  refine ae ?_ ?_<;>intro hc
  ·have hc:i<a.jN.length:=yT hc
   rw[wi]
   try simp only[gN]
   try simp only[aM]
   have hz:_:=Wc (a.jN.getD i.toNat DC) (b.jN.getD i.toNat DC)
   repeat' (first|refine And.intro (by omega) ?_|refine ae (fun h=> ?_) (fun h=> ?_))
   all_goals first|exact m7 (fun e=>absurd (by rw[e]) (nk DC h1 hc (by omega) hR (by first|grind|(rw[hz];grind))))|exact⟨⟨rfl,rfl,by omega,by omega,h3,pR DC h1 hc (by omega) hR (by first|grind|(rw[hz];grind))⟩,by simp only[I6];omega⟩
  ·have hc:a.jN.length<=i:=by have:=yF hc;omega
   have V0:=mo hc (by omega) hR
   clear hR h1 h2 h3 hc
   repeat' (refine ae (fun h=> ?_) (fun h=> ?_))
   all_goals (refine ck ?_;grind)
theorem inst_eq(a b:aq):decide ((⟨[],[⟨aj,aj,a⟩],0,0⟩:k_)=⟨[],[⟨aj,aj,b⟩],0,0⟩)=decide (a=b):=by
 rw[decide_eq_decide];simp
def Zk8:=cj (α:=aq×aq) (qC (qA .ct) (q1 (qA .ct))) [.ro,.ro] (fun _=>[]) (fun(a,b)=>⟨[dO (decide (a=b))],[],[]⟩)
def Zh8:HH:=hF Zk8 func8 [aoq] a0 fun x hp hb=>by
 obtain⟨a,b⟩:=x
 have aS:=hH (x:=a) (hb _ m0)
 have H':=aS.1
 have Nl:=aS.2.1
 have Nk:=aS.2.2.1
 have K_:=aS.2.2.2.1
 have Nj:=aS.2.2.2.2
 have dw:=hH (x:=b) (hb _ m1)
 have H9:=dw.1
 have Ni:=dw.2.1
 have Ng:=dw.2.2.1
 have K7:=dw.2.2.2.1
 have Nf:=dw.2.2.2.2
 clear hp hb
 apply vE (let x0:={data:= #[]:BA};Lb (decide ({ov:=[],jN:=[{Name:=x0,Def:=x0,X:=a:sg}],cJ:=(0:Int),AF:=(0:Int):k_}={ov:=[],jN:=[{Name:=x0,Def:=x0,X:=b:sg}],cJ:=(0:Int),AF:=(0:Int):k_})) (decide (a=b)))
 dsimp only
 exact ck (inst_eq a b)
def l5:kz UU where
 α:=(List Int)
 md:=[.ro]
 of:=o1 (oL .byte)
 ds:=fun x=>[dL .byte x]
 pre:=fun _=>[]
 pj:=fun code=>⟨[dO true],[],[]⟩
 law:=l1 (lL .byte)
def BC:l5.α->Nat->Option (ud UU):=fun code=>bW []
def Bs:=us [Zh4,Zh5,Zh6,Zh7,Zh8,Zh9,aih]
theorem Ee:Holds EE (3,l5):=by
 refine holds_of qZ func3 l5 (by kernel_rfl) Bs (xz _) BC (fun(code:(List Int)) hp hb=> ?_)
 have BR:code.length<=9223372036854775807:=iv (hb _ m0)
 clear hp hb
 apply vE (let x3:=s8 (ij code) (jZ code 16);let x1:=lx x3 (instA (ij code) (jZ code 16)) (mq (instAC (ij code) (jZ code 16)));let x2:=iy x3 (instA (ij code) (jZ code 16)) (mq (instAC (ij code) (jZ code 16)));let x0:=x2==x2;let q0:=bif x0 then Lb (decide (instA (ij code) (jZ code 16)=x1)) true else Lb false true;let q1:=instA (ij code) (jZ code 16);bif decide (code.length>1048576) then Lb true true else L4 code.length/\cG x3<=4294967295/\dy q1<=4294967295/\cG x3<=4294967295/\dy q1<=4294967295/\bif !x0 then q0 else bif !x2 then q0 else cG x3<=4294967295/\L4 (bY x1.S.ab)/\bif instOk x3 x1 then bif q1.State==1 then bif decide (iS x1.S.ab (mq (instAC (ij code) (jZ code 16)))>0) then Lb true true else Lb (x1.State !=1) true else Lb false true else Lb false true)
 dsimp only
 refine ae (fun h=>bf _) (fun h=> ?_)
 have apk:=yF h
 have hl:code.length<=4294967296:=by omega
 have hs:=Kf code 16
 have h1:=Qo (B0 hl) (jZ code 16)
 have h2:=instA_size (m:=jZ code 16) (B0 hl) (by omega)
 generalize s8 (ij code) (jZ code 16)=d at h1⊢
 generalize mq (instAC (ij code) (jZ code 16))=f
 generalize instA (ij code) (jZ code 16)=x at h2⊢
 refine⟨hl,by omega,by omega,by omega,by omega,?_⟩
 rw[beq_self_eq_true]
 cases hT:iy d x f
 ·have e:lx d x f=x:=by rw[lx,hT];rfl
  simp only[WG,Uz,cond_true,cond_false]
  exact ck (by rw[e];exact decide_eq_true rfl)
 ·have e:lx d x f=du x f:=if_pos hT
  have hK:=hT
  simp only[iy,cO,decide_eq_true_eq] at hK
  obtain⟨⟨k1,k2⟩,k3⟩:=hK
  have hX:=vo.1 k3
  have hR:=iR hX.tocoreX k1 k2
  have hz:=D4 hR.tocoreX
  simp only[dy,j9] at hz
  simp only[WG,cond_true,cond_false]
  rw[e]
  refine⟨by omega,by omega,ae (fun _=>bi (fun _=>aQ (fun _=>bf _) (fun g=>ck ?_)) (fun g=>absurd k1 g)) (fun g=>absurd (g.symm.trans (vo.2 hR)) (by decide))⟩
  refine bne_iff_ne.2 fun hq=>g ?_
  obtain⟨g1,g2⟩:=PI hq
  rw[g2]
  exact Iz hX.store g1
end
end AM
