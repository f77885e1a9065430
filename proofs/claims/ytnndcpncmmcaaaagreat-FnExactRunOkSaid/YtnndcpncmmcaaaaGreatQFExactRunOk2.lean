import Derived.Test.YtnndcpncmmcaaaaGreatQAmLib
import Derived.Test.YtnndcpncmmcaaaaGreatQFExactRunOk
import Derived.Deep.LoopGhost
import Derived.Lib.SliceRun
import Derived.Lib.Walk
import Derived.Shelf.RegionOpenPlain
import Derived.WalkKit
import Derived.Test.YtnndcpncmmcaaaaGreatQSort
namespace AM
open Go Go.Proofs.Tryz Go.IntKind
set_option linter.unusedVariables false
set_option linter.unusedSimpArgs false
set_option maxRecDepth 100000
noncomputable section
def Xx:=bE (α:=aw) (q1 (qA .cw)) [.ro] (fun _=>[]) (fun r=>⟨[dO (jD r)],[],[]⟩)
def Cv(r:aw):Int×T0×Unit->Prop:=fun(i,b,_)=>b=(r.Name,r.mM,r.ai,r.bA,r.cp,())/\0<=i/\i<=r.bA.length/\(r.bA.drop i.toNat).all jK=r.bA.all jK
def BF(r:aw):Int×T0×Unit->Nat:=fun(i,b,_)=>r.bA.length-i.toNat
def yz(r:aw):Int×T0×Unit->Prop:=fun(i,b,_)=>b=(r.Name,r.mM,r.ai,r.bA,r.cp,())/\0<=i/\i<=r.cp.length/\(r.cp.drop i.toNat).all (fun a=>ed a&&iV (eE r.ai) a)=r.cp.all (fun a=>ed a&&iV (eE r.ai) a)
def tT(r:aw):Int×T0×Unit->Nat:=fun(i,b,_)=>r.cp.length-i.toNat
def yw(r:aw):Int×List BA×List BA×Unit->Prop:=fun(i,v,u,_)=>v=il r.ai/\u=nI r/\0<=i/\i<=(nI r).length/\((nI r).drop i.toNat).all (mJ (il r.ai))=(nI r).all (mJ (il r.ai))
def xP(r:aw):Int×List BA×List BA×Unit->Nat:=fun(i,v,u,_)=>(nI r).length-i.toNat
def alr:AX Xx:=fun r=>bq [(6,az [iI 39,.box 1 (1,1024) [.lit .str,.lit (.int .i64),.shr .cq,.shr .cQ,.shr .eT]] (fun _=>Cv r) (BF r)),(12,az [iI 50,.box 1 (1,1024) [.lit .str,.lit (.int .i64),.shr .cq,.shr .cQ,.shr .eT]] (fun _=>yz r) (tT r)),(19,az [iI 75,iO 7 .str,iO 73 .str] (fun _=>yw r) (xP r))]
def ajS:HH:=hF Xx func115 [FO,Ec,ai7,ai6,ai5,Rb,ai4,ai3,XQ] alr fun(r:aw) hp hb=>by
 clear hp hb
 apply vE (let x0:=(r.bA.length:Int);let q0:=Lb false (jD r);let q1:=BA×Int×List bc×List dj×List en×PUnit;bif !cy r.Name then q0 else bif !decide ((-100)<=r.mM/\r.mM<=100) then q0 else bif !kK r.ai then q0 else bif decide (x0>6) then q0 else bif !decide (1<=(r.cp.length:Int)/\(r.cp.length:Int)<=6) then q0 else Cv r (0,(r.Name,r.mM,r.ai,r.bA,r.cp,()),())/\∀(y:Int×q1×PUnit),let x2:=y.2.1.2.2.2.2.1.length;let x1:=(↑x2:Int);Cv r y->bif decide (y.1<x0) then 0<=y.1/\y.1.toNat<r.bA.length/\bif !jK (r.bA.getD y.1.toNat qv) then q0 else Cv r (wrap i64 (y.1+1),y.2)/\BF r (wrap i64 (y.1+1),y.2)<BF r y else yz r (0,y.2)/\∀(av:Int×q1×PUnit),let x4:=nI {Name:=av.2.1.1,mM:=av.2.1.2.1,ai:=av.2.1.2.2.1,bA:=av.2.1.2.2.2.1,cp:=av.2.1.2.2.2.2.1:aw};let x5:=y.2.1.2.2.2.2.1.getD av.1.toNat gB;let x6:=(↑(eE av.2.1.2.2.1):Int);let x3:=(x4.length:Int);let q2:=(wrap i64 (av.1+1),av.2);let q3:=yz r q2/\tT r q2<tT r av;yz r av->bif decide (av.1<x1) then 0<=av.1/\av.1.toNat<x2/\bif !ed x5 then q0 else bif x5.Kind==2 then bif decide (x5.N≥x6) then q0 else q3 else q3 else eC av.2.1.2.2.1<=4294967295/\2*av.2.1.2.2.2.1.length+pI av.2.1.2.2.2.2.1<=4294967295/\yw r (0,il av.2.1.2.2.1,x4,())/\∀(y:Int×List BA×List BA×PUnit),let q4:=(wrap i64 (y.1+1),y.2);yw r y->bif decide (y.1<x3) then 0<=y.1/\y.1.toNat<y.2.2.1.length/\y.1.toNat<y.2.2.1.length/\bif !mJ y.2.1 (y.2.2.1.getD y.1.toNat a_) then q0 else yw r q4/\xP r q4<xP r y else Lb true (jD r))
 dsimp only
 have hF:kJ r=false->jD r=false:=fun h=>by rw[<-CM];exact h
 refine bT (fun a1=>aQ (hF (by simp[kJ,a1]))) (fun a1=>bT (fun a2=>aQ (hF (by simp only[kJ,a2];simp))) (fun a2=>bT (fun a3=>aQ (hF ?_)) (fun a3=>aE (fun a4=>aQ (hF ?_)) (fun a4=>bT (fun a5=>aQ (hF ?_)) (fun a5=> ?_)))))
 ·rw[vA] at a3;simp[kJ,a3]
 ·simp only[kJ];rw[decide_eq_false (p:=r.bA.length<=6) (by omega)];simp
 ·have a5:=yF a5
  simp only[kJ];rw[decide_eq_false (p:=1<=r.cp.length/\r.cp.length<=6) (by omega)];simp
 rw[vA] at a3
 have a5:=yT a5
 refine⟨⟨rfl,by omega,by omega,rfl⟩,?_⟩
 rintro⟨i,⟨b1,b2,b3,b4,b5,⟨⟩⟩,⟨⟩⟩ ⟨s6,h1,h2,hR⟩
 cases s6
 simp only
 refine aE ?_ ?_<;>intro hc
 ·rw[eu _ _ qv h1 (by omega)] at hR
  rw[wi]
  refine⟨by omega,by omega,bT (fun g=>aQ (hF ?_)) (fun g=>⟨⟨rfl,by omega,by omega,?_⟩,by simp only[BF];omega⟩)⟩
  ·simp only[kJ,<-hR,g];simp
  ·rw[<-hR,g];rfl
 rw[bU _ (by omega)] at hR
 have a6:r.bA.all jK=true:=hR.symm
 refine⟨⟨rfl,by omega,by omega,rfl⟩,?_⟩
 rintro⟨i,⟨b1,b2,b3,b4,b5,⟨⟩⟩,⟨⟩⟩ ⟨s6,g1,g2,gR⟩
 cases s6
 simp only
 refine aE ?_ ?_<;>intro hc
 ·rw[eu _ _ gB g1 (by omega)] at gR
  rw[wi]
  have hN:(ed (r.cp.getD i.toNat gB)&&iV (eE r.ai) (r.cp.getD i.toNat gB))=false->jD r=false:=fun h=>hF (by simp only[kJ,<-gR,h];simp)
  have V2:ed (r.cp.getD i.toNat gB)=true->iV (eE r.ai) (r.cp.getD i.toNat gB)=true->(r.cp.drop (i+1).toNat).all (fun a=>ed a&&iV (eE r.ai) a)=r.cp.all (fun a=>ed a&&iV (eE r.ai) a):=fun e1 e2=>by rw[<-gR,e1,e2];rfl
  refine⟨by omega,by omega,bT (fun ha=>aQ (hN (by rw[ha];rfl))) (fun ha=>mn (fun eS=>aE (fun hp=>aQ (hN ?_)) (fun hp=>⟨⟨rfl,by omega,by omega,V2 ha ?_⟩,by simp only[tT];omega⟩)) (fun eS=>⟨⟨rfl,by omega,by omega,V2 ha ?_⟩,by simp only[tT];omega⟩))⟩
  ·simp only[iV,eS,decide_eq_true (show(eE r.ai:Int)<=(r.cp.getD i.toNat gB).N from hp)];simp
  ·simp only[iV,decide_eq_false (show¬(eE r.ai:Int)<=(r.cp.getD i.toNat gB).N from hp)];simp
  ·simp only[iV,decide_eq_false eS];simp
 rw[bU _ (by omega)] at gR
 have a7:r.cp.all (fun a=>ed a&&iV (eE r.ai) a)=true:=gR.symm
 have hpa:=zM a3
 have sO:=JP (l:=r.cp) (by omega) (fun a ha=>by
  have:=FU.1 a7 a ha
  simp only[fY] at this
  exact this.1)
 have hul:(nI r).length<=2*r.bA.length+pI r.cp:=by
  have q1:=vq r.cp (r.bA.foldl mR [])
  have q2:=rq r.bA []
  simp only[ii] at q2
  simp only[nI];omega
 refine⟨by omega,by omega,⟨rfl,rfl,by omega,by omega,rfl⟩,?_⟩
 rintro⟨i,v,u,⟨⟩⟩ ⟨rfl,rfl,k1,k2,kR⟩
 simp only
 refine aE ?_ ?_<;>intro hk
 ·rw[eu _ _ a_ k1 hk] at kR
  rw[wi]
  have bp:i<(nI r).length:=hk
  refine⟨by omega,by omega,by omega,bT (fun g=>aQ (hF ?_)) (fun g=>⟨⟨rfl,rfl,by omega,by omega,?_⟩,by simp only[xP];omega⟩)⟩
  ·simp only[kJ,<-kR,g];simp
  ·rw[<-kR,g];rfl
 ·have bp:¬i<(nI r).length:=hk
  rw[bU _ (by omega)] at kR
  refine jN ?_
  rw[<-CM]
  simp only[kJ,a1,a2,a3,a6,a7,<-kR,decide_eq_true (show r.bA.length<=6 by omega),decide_eq_true (show 1<=r.cp.length/\r.cp.length<=6 by omega)];rfl
def Hl:kq UU where
 α:=ck
 md:=[.ro]
 of:=o1 (oA .dJ)
 ds:=fun x=>[dA .dJ x]
 pre:=fun _=>[]
 ot:=fun t=>⟨[dO (ob t)],[],[]⟩
 law:=l1 (lA .dJ)
def aq8:HH:=hF Hl func66 [] a0 fun(t:ck) hp hb=>by
 clear hp hb
 apply vE (bif t.State==1 then Lb true (ob t) else Lb (t.State==2) (ob t))
 simp only[ob]
 refine ae (fun h=>cx ?_) (fun h=>cx ?_)<;>grind
def aqr:=bE (α:=eQ) (q1 (qA .jb)) [.ro] (fun _=>[]) (fun x=>⟨[dO (decide (x.State=2\/x.State=4\/x.State=6))],[],[]⟩)
def aru:HH:=hF aqr func40 [] a0 fun(x:eQ) hp hb=>by
 clear hp hb
 apply vE (let q0:=decide (x.State=2\/x.State=4\/x.State=6);bif x.State==2 then Lb true q0 else bif x.State==4 then Lb true q0 else Lb (x.State==6) q0)
 dsimp only
 repeat' (refine ae (fun h=> ?_) (fun h=> ?_))
 all_goals (refine cx ?_;grind)
def aql:=bE (α:=eQ) (q1 (qA .jb)) [.ro] (fun _=>[]) (fun x=>⟨[dO (decide (x.State=2\/x.State=4\/x.State=6))],[],[]⟩)
def aq':HH:=hF aql func64 [] a0 fun(x:eQ) hp hb=>by
 clear hp hb
 apply vE (let q0:=decide (x.State=2\/x.State=4\/x.State=6);bif x.State==2 then Lb true q0 else bif x.State==4 then Lb true q0 else Lb (x.State==6) q0)
 dsimp only
 repeat' (refine ae (fun h=> ?_) (fun h=> ?_))
 all_goals (refine cx ?_;grind)
def ko(x:aw):DA UU:=⟨true,[.lit (.string x.Name),.lit (.int .i64 x.mM),.sl .cq x.ai,.sl .cQ x.bA,.sl .eT x.cp]⟩
def rz(l:List aw)(name:BA):Int:=kj l.length fun k=>decide ((l.getD k aP).Name=name)
def kl(l:List aw)(i:Nat):Bool:=jD (l.getD i aP)&&decide (rz l (l.getD i aP).Name=i)
def gJ(d:bY):Bool:=cy d.Name&&decide (1<=d.af.length/\d.af.length<=12)&&allI d.af.length (kl d.af)
theorem MM{l:List aw}{i:Int}(h0:0<=i)(h:i<l.length):eC (l.getD i.toNat aP).ai<=ee l:=by
 have hs:=iF dG l aP h0 h
 have hp:=Gd (l.getD i.toNat aP).ai
 simp only[dG] at hs
 simp only[ee,dG];omega
def Ny(l:List bW)(f:bf):Int:=kj l.length fun k=>decide ((l.getD k br).F=f)
def Ew(l:List bW)(f:bf):Int:=if Ny l f= -1 then 0 else(l.getD (Ny l f).toNat br).Id
def t_(l:List bW)(id:Int):Int:=kj l.length fun k=>decide ((l.getD k br).Id=id)
def ax(l:List bW)(id:Int):bf:=if t_ l id= -1 then H7 else(l.getD (t_ l id).toNat br).F
def j8(l:List bW)(id:Int):Bool:=anyI l.length fun k=>decide ((l.getD k br).Id=id)
def ll(s:ap)(i:Nat):Bool:=gm (s.aa.getD i br).F&&decide (1<=(s.aa.getD i br).Id)&&decide ((s.aa.getD i br).Id<s.Next)&& !(decide (0<i)&&decide ((s.aa.getD i br).Id<=(s.aa.getD (i-1) br).Id))
def oa(s:ap)(i:Nat):Bool:=ll s i&&decide (Ew s.aa (s.aa.getD i br).F=(s.aa.getD i br).Id)
def jT(s:ap)(i:Nat):Bool:=ll s i&& !(anyI i fun k=>decide ((s.aa.getD i br).F=(s.aa.getD k br).F))
def eB(s:ap):Bool:=decide (1<=s.Next/\s.Next<=1000000)&&decide (s.aa.length<=40)&&allI s.aa.length (oa s)
theorem JG{s:ap}(h:∀i,i<s.aa.length->ll s i=true):∀j i,j<i->i<s.aa.length->(s.aa.getD j br).Id<(s.aa.getD i br).Id:=by
 intro j i H2 hi
 have step:∀m,m+1<s.aa.length->(s.aa.getD m br).Id<(s.aa.getD (m+1) br).Id:=fun m hm=>by
  have:=h (m+1) hm
  simp only[ll,fY,sS,Bool.and_eq_false_iff,decide_eq_false_iff_not,decide_eq_true_eq,Nat.add_sub_cancel] at this
  have:=this.2
  omega
 obtain⟨k,rfl⟩:∃k,i=j+1+k:=⟨i-j-1,by omega⟩
 clear H2
 induction k with
 |zero=>exact step j hi
 |succ k ih=>exact Int.lt_trans (ih (by omega)) (step (j+1+k) hi)
theorem Kc(s:ap):allI s.aa.length (jT s)=allI s.aa.length (oa s):=by
 rw[HT,ew,ew]
 have aeQ:∀i,i<s.aa.length->∃m,m<=i/\Ny s.aa (s.aa.getD i br).F=(m:Int)/\(s.aa.getD m br).F=(s.aa.getD i br).F/\∀j,j<m->¬(s.aa.getD j br).F=(s.aa.getD i br).F:=by
  intro i hi
  rcases oW s.aa.length (fun k=>decide ((s.aa.getD k br).F=(s.aa.getD i br).F)) with⟨_,h2⟩|⟨m,g1,g2,g3,g4⟩
  ·have:=h2 i hi;simp at this
  ·refine⟨m,?_,g2,yT g3,fun j hj=>yF (g4 j hj)⟩
   rcases lR i m with g|g
   ·have:=g4 i g;simp at this
   ·exact g
 have hid:∀i m:Nat,Ny s.aa (s.aa.getD i br).F=(m:Int)->Ew s.aa (s.aa.getD i br).F=(s.aa.getD m br).Id:=fun i m h=>by
  rw[Ew,h,if_neg (by omega)];simp
 constructor
 ·intro h i hi
  have NN:=h i hi
  simp only[jT,fY,sS] at NN
  obtain⟨m,m1,m2,m3,m4⟩:=aeQ i hi
  have:m=i:=by
   rcases lR m i with g|g
   ·have:=JL.1 NN.2 m g
    exact absurd m3.symm (yF this)
   ·omega
  subst this
  simp only[oa,NN.1,hid m m m2,decide_true,N5]
 ·intro h i hi
  have hb:∀i,i<s.aa.length->ll s i=true:=fun i hi=>by
   have:=h i hi
   simp only[oa,fY] at this
   exact this.1
  have NN:=h i hi
  simp only[oa,fY,decide_eq_true_eq] at NN
  have Gt:(anyI i fun k=>decide ((s.aa.getD i br).F=(s.aa.getD k br).F))=false:=hZ fun k hk=>decide_eq_false fun e=>by
   obtain⟨m,m1,m2,m3,m4⟩:=aeQ i hi
   have RF:m<=k:=by
    rcases lR k m with g|g
    ·exact absurd e.symm (m4 k g)
    ·exact g
   have:=JG hb m i (by omega) hi
   rw[hid i m m2] at NN
   omega
  simp only[jT,NN.1,Gt];rfl
def rH(d:bY)(m:cW):Bool:=decide (0<=m.jW)&&decide (m.jW<(d.af.length:Int))
def lj(d:bY)(s:List bW)(m:cW):Bool:=rH d m&&decide (m.lJ.length=0)&&decide (m.b9.length=eE (d.af.getD m.jW.toNat aP).ai)&&m.b9.all (j8 s)
def io(d:bY)(x:eQ):Bool:=decide (x.dc.length<=1000)&&x.dc.all (lj d x.S.aa)
def zO(l:List ck):Bool:=anyI l.length fun k=>ob (l.getD k cK)
def K6(x:eQ):Bool:=decide (x.State=2\/x.State=4\/x.State=6)
def oG(x:eQ):Bool:=decide (x.State=3)||decide (x.State=5)
def instOk(d:bY)(x:eQ):Bool:=gJ d&&eB x.S&&gU x.fW&&fN x.fy&&ij x.gZ&&decide (1<=x.State/\x.State<=6)&&decide (0<=x.JV/\x.JV<=1000000000)&&io d x&& !(K6 x&&(zO x.fW||decide (0<x.fy.length)))&&(!oG x||decide (0<x.gZ.length))
def W1:=bE (α:=(List aw)×(List (DA UU)->Option Value)) (qC (qL .cw) (q1 qF)) [.ro,.ro] (fun(l,p)=>[∀j:Nat,j<l.length->p [ko (l.getD j aP)]=some (.bool (aH (p [ko (l.getD j aP)])))]) (fun(l,p)=>⟨[dI (kj l.length (fun j=>aH (p [ko (l.getD j aP)])))],[],[]⟩)
def Ca(l:List aw)(p:(List (DA UU)->Option Value)):Int×Unit->Prop:=fun(i,_)=>0<=i/\i<=l.length/\∀j:Nat,(j:Int)<i->aH (p [ko (l.getD j aP)])=false
def Bi(l:List aw)(p:(List (DA UU)->Option Value)):Int×Unit->Nat:=fun(i,_)=>l.length-i.toNat
def akV:AX W1:=fun(l,p)=>bq [(2,az [iI 8] (fun _=>Ca l p) (Bi l p))]
def ai2:HH:=hF W1 func187 [] akV fun x hp hb=>by
 obtain⟨l,p⟩:=x
 have nV:L9 l.length:=eD (hb _ m0)
 have bP:∀j:Nat,j<l.length->p [ko (l.getD j aP)]=some (.bool (aH (p [ko (l.getD j aP)]))):=hp _ m0
 clear hp hb
 apply vE (Ca l p (0,())/\∀(y:Int×PUnit),let x1:=l.getD y.1.toNat aP;let x0:=aH (p [{agg:=true,cs:=[CS x1.Name,CI x1.mM,CL .cq x1.ai,CL .cQ x1.bA,CL .eT x1.cp]:DA UU}]);let q0:=(wrap i64 (y.1+1),());Ca l p y->bif decide (y.1<(l.length:Int)) then 0<=y.1/\y.1.toNat<l.length/\p [{agg:=true,cs:=[CS x1.Name,CI x1.mM,CL .cq x1.ai,CL .cQ x1.bA,CL .eT x1.cp]:DA UU}]=some (Value.bool x0)/\bif x0 then Li y.1 (kj (l.length) fun(j:Nat)=>aH (p [ko (l.getD j aP)])) else Ca l p q0/\Bi l p q0<Bi l p y else Li (-1) (kj (l.length) fun(j:Nat)=>aH (p [ko (l.getD j aP)])))
 dsimp only
 refine⟨⟨by omega,by omega,by intro j hj;omega⟩,?_⟩
 rintro⟨i,⟨⟩⟩ ⟨h1,h2,hR⟩
 simp only[ko] at*
 refine ae ?_ ?_<;>intro hc
 ·have hc:=yT hc
  rw[wi]
  refine⟨by omega,by omega,bP i.toNat (by omega),ae (fun h=>cG ?_) (fun h=>⟨⟨by omega,by omega,kI (p:=fun j=>aH (p [ko (l.getD j aP)])) h1 hR h⟩,by simp only[Bi];omega⟩)⟩
  rw[gI (i:=i.toNat) (by omega) h (fun j hj=>hR j (by omega))]
  omega
 ·have hc:=yF hc
  exact cG (je (fun j hj=>hR j (by omega))).symm
def Ag:kq UU where
 α:=aw×BA
 md:=[.ro,.ro]
 of:=fun|[.agg [.lit (.string a0),.lit (.int .i64 a1),.sl .cq a2,.sl .cQ a3,.sl .eT a4],.ptr [.lit (.string a5)]]=>some (⟨a0,a1,a2,a3,a4⟩,a5)|_=>none
 ds:=fun(r,name)=>[.agg [.lit (.string r.Name),.lit (.int .i64 r.mM),.sl .cq r.ai,.sl .cQ r.bA,.sl .eT r.cp],.ptr [.lit (.string name)]]
 pre:=fun(r,name)=>[]
 ot:=fun(r,name)=>⟨[.one (.lit (.bool (decide (r.Name=name))))],[],[]⟩
 law:=by intro l x h;(try simp only at h);split at h<;>cases h;rfl
def ai1:HH:=hF Ag func188 [] a0 fun x hp hb=>by
 obtain⟨r,name⟩:=x
 have TY:dT (U:=UU) (.agg [.lit (.string r.Name),.lit (.int .i64 r.mM),.sl .cq r.ai,.sl .cQ r.bA,.sl .eT r.cp]):=hb _ (cH)
 have gx:L9 r.Name.size:=Bd.str (TY _ (by simp))
 have gw:L9 r.ai.length:=Bd.len (U:=UU) (τ:=.cq) (xs:=r.ai) (TY _ (by simp))
 have fH:L9 r.bA.length:=Bd.len (U:=UU) (τ:=.cQ) (xs:=r.bA) (TY _ (by simp))
 have gy:L9 r.cp.length:=Bd.len (U:=UU) (τ:=.eT) (xs:=r.cp) (TY _ (by simp))
 have alH:dT (U:=UU) (.ptr [.lit (.string name)]):=hb _ (aJ _ (cH))
 clear hp hb
 apply vE (Lb (r.Name.toList==name.toList) (decide (r.Name=name)))
 rw[bZ]
 exact aO _
def ahz:=bE (α:=bY×BA) (qC (qA .jc) (q1 qS)) [.ro,.ro] (fun _=>[]) (fun(d,name)=>⟨[dI (rz d.af name)],[],[]⟩)
def ajR:HH:=hF ahz func116 [ai2,ai1] a0 fun x hp hb=>by
 obtain⟨d,name⟩:=x
 clear hp hb
 apply vE ((∀(j:Nat),j<d.af.length->dK Ag [DV.ptr [CS name]] [ko (d.af.getD j aP)]=some (Value.bool (aH (dK Ag [DV.ptr [CS name]] [ko (d.af.getD j aP)]))))/\Li (kj (d.af.length) fun(j:Nat)=>aH (dK Ag [DV.ptr [CS name]] [ko (d.af.getD j aP)])) (rz d.af name))
 have hc:∀x:aw,dK Ag [.ptr [.lit (.string name)]] [ko x]=some (.bool (decide (x.Name=name))):=fun x=>nY (x:=(x,name)) rfl rfl rfl rfl (by simp[Ag])
 refine⟨fun j hj=> ?_,cG ?_⟩
 ·show dK Ag [.ptr [.lit (.string name)]] [ko (d.af.getD j aP)]=_
  rw[hc];rfl
 ·exact C' fun j hj=>by
   show aH (dK Ag [.ptr [.lit (.string name)]] [ko (d.af.getD j aP)])=_
   rw[hc];rfl
def afE:=bE (α:=bY×BA) (qC (qA .jc) (q1 qS)) [.ro,.ro] (fun _=>[]) (fun(d,name)=>⟨[dI (rz d.af name)],[],[]⟩)
def Hq(d:bY)(name:BA):Int×T7×Unit->Prop:=fun(i,fb,_)=>fb=(d.Name,d.af,())/\0<=i/\i<=d.af.length/\∀j:Nat,(j:Int)<i->decide ((d.af.getD j aP).Name=name)=false
def G4(d:bY)(name:BA):Int×T7×Unit->Nat:=fun(i,fb,_)=>d.af.length-i.toNat
def ar2:AX afE:=fun(d,name)=>bq [(2,az [iI 5,.box 2 (2,1024) [.lit .str,.shr .cw]] (fun _=>Hq d name) (G4 d name))]
def aqM:HH:=hF afE func88 [] ar2 fun x hp hb=>by
 obtain⟨d,name⟩:=x
 have aG:=gO (x:=d) (hb _ m0)
 have fj:=aG.1
 have ez:=aG.2
 have GB:=RQ (s:=name) (hb _ m1)
 clear hp hb
 apply vE (Hq d name (0,(d.Name,d.af,()),())/\∀(y:Int×JT×PUnit),let x1:=y.2.1.2.1.length;let x0:=(↑x1:Int);let q0:=(wrap i64 (y.1+1),y.2);Hq d name y->bif decide (y.1<x0) then 0<=y.1/\y.1.toNat<x1/\bif (y.2.1.2.1.getD y.1.toNat aP).Name.toList==name.toList then Li y.1 (rz d.af name) else Hq d name q0/\G4 d name q0<G4 d name y else Li (-1) (rz d.af name))
 dsimp only
 refine⟨⟨rfl,by omega,by omega,by intro j hj;omega⟩,?_⟩
 rintro⟨i,fb,⟨⟩⟩ ⟨rfl,h1,h2,hR⟩
 simp only
 refine ae ?_ ?_<;>intro hc
 ·have hc:i<d.af.length:=yT hc
  simp(disch:=omega) only[wrap_i64,bZ]
  refine⟨by omega,by omega,ae (fun h=>cG ?_) (fun h=>⟨⟨rfl,by omega,by omega,kI (p:=fun j=>decide ((d.af.getD j aP).Name=name)) h1 hR h⟩,by simp only[G4];omega⟩)⟩
  rw[rz,gI (i:=i.toNat) (by omega) h (fun j hj=>hR j (by omega))]
  omega
 ·have hc:¬i<d.af.length:=yF hc
  exact cG (je (fun j hj=>hR j (by omega))).symm
def agb:=bE (α:=bY) (q1 (qA .jc)) [.ro] (fun d=>[bo d<=4294967295]) (fun d=>⟨[dO (gJ d)],[],[]⟩)
def HM(d:bY):Int×T7×Unit->Prop:=fun(i,b,_)=>b=(d.Name,d.af,())/\0<=i/\i<=d.af.length/\∀j:Nat,(j:Int)<i->kl d.af j=true
def Hj(d:bY):Int×T7×Unit->Nat:=fun(i,b,_)=>d.af.length-i.toNat
def asA:AX agb:=fun d=>bq [(2,az [iI 3,.box 1 (1,1024) [.lit .str,.shr .cw]] (fun _=>HM d) (Hj d))]
def ahM:HH:=hF agb func33 [aqN,aqM,N1,tU] asA fun(d:bY) hp hb=>by
 have aG:=gO (x:=d) (hb _ m0)
 have fj:=aG.1
 have ez:=aG.2
 have bP:bo d<=4294967295:=hp _ m0
 clear hp hb
 apply vE (let q0:=Lb false (gJ d);HM d (0,(d.Name,d.af,()),())/\∀(y:Int×JT×PUnit),let x1:=y.2.1.2.1.getD y.1.toNat aP;let x2:=y.2.1.2.1.length;let x0:=(↑x2:Int);let q1:=(wrap i64 (y.1+1),y.2);HM d y->bif decide (y.1<x0) then 0<=y.1/\y.1.toNat<x2/\eC x1.ai<=4294967295/\bif !jD x1 then q0 else 0<=y.1/\y.1.toNat<x2/\bif rz y.2.1.2.1 x1.Name !=y.1 then q0 else HM d q1/\Hj d q1<Hj d y else bif cy y.2.1.1 then Lb (decide (1<=x0/\x0<=12)) (gJ d) else q0)
 dsimp only
 refine⟨⟨rfl,by omega,by omega,by intro j hj;omega⟩,?_⟩
 rintro⟨i,⟨b1,b2,⟨⟩⟩,⟨⟩⟩ ⟨s6,h1,h2,hR⟩
 cases s6
 simp only
 refine aE ?_ ?_<;>intro hc
 ·have hN:kl d.af i.toNat=false->gJ d=false:=fun h=>by
   have hf:allI d.af.length (kl d.af)=false:=cE (j:=i.toNat) (by omega) h
   simp only[gJ,hf,qq]
  have hs:=MM h1 hc
  simp only[bo] at bP
  have ei:((i.toNat:Nat):Int)=i:=by omega
  rw[wi]
  refine⟨by omega,by omega,by omega,bT (fun g=>aQ (hN (by simp only[kl,g,mD]))) (fun g=>⟨by omega,by omega,bT (fun k=>aQ (hN ?_)) (fun k=>⟨⟨rfl,by omega,by omega,cu h1 hR ?_⟩,by simp only[Hj];omega⟩)⟩)⟩
  ·simp only[kl,ei,g,Av];exact decide_eq_false (by simpa using k)
  ·simp only[kl,ei,g,Av];exact decide_eq_true (eq_of_beq k)
 ·have hA:allI d.af.length (kl d.af)=true:=cR fun j hj=>hR j (by omega)
  simp only[gJ,hA,N5]
  refine ae (fun h=>cx ?_) (fun h=>cx ?_)
  ·rw[h,Av];exact decide_eq_decide.2 (by omega)
  ·rw[h,mD]
def afV:=bE (α:=bY) (q1 (qA .jc)) [.ro] (fun _=>[]) (fun d=>⟨[dO (gJ d)],[],[]⟩)
def Hx(d:bY):Int×T7×Unit->Prop:=fun(i,b,_)=>b=(d.Name,d.af,())/\cy d.Name=true/\(1<=d.af.length/\d.af.length<=12)/\0<=i/\i<=d.af.length/\∀j:Nat,(j:Int)<i->kl d.af j=true
def G9(d:bY):Int×T7×Unit->Nat:=fun(i,b,_)=>d.af.length-i.toNat
def ash:AX afV:=fun d=>bq [(4,az [iI 19,.box 1 (1,1024) [.lit .str,.shr .cw]] (fun _=>Hx d) (G9 d))]
def ahK:HH:=hF afV func56 [ajS,ajR,FO,Ec] ash fun(d:bY) hp hb=>by
 clear hp hb
 apply vE (let x0:=(d.af.length:Int);let q0:=Lb false (gJ d);bif !cy d.Name then q0 else bif !decide (1<=x0/\x0<=12) then q0 else Hx d (0,(d.Name,d.af,()),())/\∀(y:Int×JT×PUnit),let q1:=(wrap i64 (y.1+1),y.2);Hx d y->bif decide (y.1<x0) then 0<=y.1/\y.1.toNat<d.af.length/\bif !jD (d.af.getD y.1.toNat aP) then q0 else bif rz y.2.1.2.1 (d.af.getD y.1.toNat aP).Name !=y.1 then q0 else Hx d q1/\G9 d q1<G9 d y else Lb true (gJ d))
 dsimp only
 refine bT (fun a1=>aQ (by simp only[gJ,a1,mD])) (fun a1=>bT (fun a2=>aQ ?_) (fun a2=> ?_))
 ·have a2:=yF a2
  simp only[gJ];rw[decide_eq_false (p:=1<=d.af.length/\d.af.length<=12) (by omega),qq,mD]
 have a2:=yT a2
 refine⟨⟨rfl,a1,by omega,by omega,by omega,by intro j hj;omega⟩,?_⟩
 rintro⟨i,⟨b1,b2,⟨⟩⟩,⟨⟩⟩ ⟨s6,a3,a4,h1,h2,hR⟩
 cases s6
 simp only
 refine aE ?_ ?_<;>intro hc
 ·have hN:kl d.af i.toNat=false->gJ d=false:=fun h=>by
   have hf:allI d.af.length (kl d.af)=false:=cE (j:=i.toNat) (by omega) h
   simp only[gJ,hf,qq]
  have ei:((i.toNat:Nat):Int)=i:=by omega
  rw[wi]
  refine⟨by omega,by omega,bT (fun g=>aQ (hN (by simp only[kl,g,mD]))) (fun g=>bT (fun k=>aQ (hN ?_)) (fun k=>⟨⟨rfl,a3,a4,by omega,by omega,cu h1 hR ?_⟩,by simp only[G9];omega⟩))⟩
  ·simp only[kl,ei,g,Av];exact decide_eq_false (by simpa using k)
  ·simp only[kl,ei,g,Av];exact decide_eq_true (eq_of_beq k)
 ·have hA:allI d.af.length (kl d.af)=true:=cR fun j hj=>hR j (by omega)
  refine jN ?_
  simp only[gJ,hA,a3,decide_eq_true a4];rfl
def afC:=bE (α:=ap×bf) (qC (qA .dW) (q1 (qA .eP))) [.ro,.ro] (fun _=>[]) (fun(s,f)=>⟨[dI (Ew s.aa f)],[],[]⟩)
def Ho(s:ap)(f:bf):Int×T5×T2×Unit->Prop:=fun(i,b,g,_)=>b=(s.aa,s.Next,())/\g=(f.Kind,f.ak,())/\0<=i/\i<=s.aa.length/\∀j:Nat,(j:Int)<i->decide ((s.aa.getD j br).F=f)=false
def G3(s:ap)(f:bf):Int×T5×T2×Unit->Nat:=fun(i,b,g,_)=>s.aa.length-i.toNat
def ar0:AX afC:=fun(s,f)=>bq [(2,az [iI 5,.box 2 (2,1024) [.shr .cg,.lit (.int .i64)],.box 3 (3,1024) [.lit .str,.shr .bC]] (fun _=>Ho s f) (G3 s f))]
def aqL:HH:=hF afC func91 [ahH] ar0 fun x hp hb=>by
 obtain⟨s,f⟩:=x
 have eR:=eG (x:=s) (hb _ m0)
 have cr:=jM (x:=f) (hb _ m1)
 have lz:=cr.1
 have iL:=cr.2
 clear hp hb
 apply vE (Ho s f (0,(s.aa,s.Next,()),(f.Kind,f.ak,()),())/\∀(y:Int×Lh×J8×PUnit),let x0:=y.2.1.1.getD y.1.toNat br;let x2:=y.2.1.1.length;let x1:=(↑x2:Int);let q0:=(wrap i64 (y.1+1),y.2);Ho s f y->bif decide (y.1<x1) then 0<=y.1/\y.1.toNat<x2/\bif decide (x0.F={Kind:=y.2.2.1.1,ak:=y.2.2.1.2.1:bf}) then 0<=y.1/\y.1.toNat<x2/\Li x0.Id (Ew s.aa f) else Ho s f q0/\G3 s f q0<G3 s f y else Li 0 (Ew s.aa f))
 dsimp only
 refine⟨⟨rfl,rfl,by omega,by omega,by intro j hj;omega⟩,?_⟩
 rintro⟨i,⟨b1,b2,⟨⟩⟩,⟨g1,g2,⟨⟩⟩,⟨⟩⟩ ⟨s6,hg,h1,h2,hR⟩
 cases s6
 cases hg
 simp only
 refine aE ?_ ?_<;>intro hc
 ·rw[wi]
  refine⟨by omega,by omega,aE (fun h=>⟨by omega,by omega,cG ?_⟩) (fun h=>⟨⟨rfl,rfl,by omega,by omega,kI (p:=fun j=>decide ((s.aa.getD j br).F=f)) h1 hR (decide_eq_false h)⟩,by simp only[G3];omega⟩)⟩
  have e:Ny s.aa f=(i.toNat:Int):=gI (i:=i.toNat) (by omega) (decide_eq_true h) (fun j hj=>hR j (by omega))
  rw[Ew,e,if_neg (by omega),zeu]
 ·refine cG ?_
  have e:Ny s.aa f= -1:=je (fun j hj=>hR j (by omega))
  rw[Ew,if_pos e]
def afA:=bE (α:=ap×Int) (qC (qA .dW) (q1 qI)) [.ro,.ro] (fun(s,id)=>[L4 (aj s.aa)]) (fun(s,id)=>⟨[dA .eP (ax s.aa id),dO (j8 s.aa id)],[],[]⟩)
def Hn(s:ap)(id:Int):Int×T5×T2×Unit->Prop:=fun(i,b,g,_)=>b=(s.aa,s.Next,())/\0<=i/\i<=s.aa.length/\∀j:Nat,(j:Int)<i->decide ((s.aa.getD j br).Id=id)=false
def G2(s:ap)(id:Int):Int×T5×T2×Unit->Nat:=fun(i,b,g,_)=>s.aa.length-i.toNat
def arY:AX afA:=fun(s,id)=>bq [(2,az [iI 6,.box 2 (2,1024) [.shr .cg,.lit (.int .i64)],.box 4 (4,1024) [.lit .str,.own .bC true]] (fun _=>Hn s id) (G2 s id))]
def aci:HH:=hF afA func97 [ajf] arY fun x hp hb=>by
 obtain⟨s,id⟩:=x
 have eR:=eG (x:=s) (hb _ m0)
 have E8:=mL (n:=id) (hb _ m1)
 have bP:aj s.aa<=4294967296:=hp _ m0
 clear hp hb
 apply vE (let q0:=ax s.aa id;Hn s id (0,(s.aa,s.Next,()),({data:= #[]:BA},[],()),())/\∀(y:Int×Lh×J8×PUnit),let x2:=y.2.1.1.getD y.1.toNat br;let x4:=y.2.1.1.length;let x1:=x2.F;let x3:=(↑x4:Int);let x0:=x1.ak;let q1:=(wrap i64 (y.1+1),y.2);Hn s id y->bif decide (y.1<x3) then 0<=y.1/\y.1.toNat<x4/\bif x2.Id==id then 0<=y.1/\y.1.toNat<x4/\L4 x0.length/\Lf [DV.agg [CS x1.Kind,CL .bC x0],VB true] [DV.agg [CS (q0.Kind),CL .bC q0.ak],VB (j8 s.aa id)] else Hn s id q1/\G2 s id q1<G2 s id y else Lf [DV.agg [CS ({data:= #[]:BA}),CL .bC []],VB false] [DV.agg [CS (q0.Kind),CL .bC q0.ak],VB (j8 s.aa id)])
 dsimp only
 refine⟨⟨rfl,by omega,by omega,by intro j hj;omega⟩,?_⟩
 rintro⟨i,⟨b1,b2,⟨⟩⟩,⟨g1,g2,⟨⟩⟩,⟨⟩⟩ ⟨s6,h1,h2,hR⟩
 cases s6
 simp only
 refine aE ?_ ?_<;>intro hc
 ·rw[wi]
  have hs:=iF ep s.aa br h1 hc
  simp only[ep,cZ,ir] at hs
  simp only[aj,ep,cZ,ir] at bP
  refine⟨by omega,by omega,mn (fun h=>⟨by omega,by omega,by omega,?_⟩) (fun h=>⟨⟨rfl,by omega,by omega,kI (p:=fun j=>decide ((s.aa.getD j br).Id=id)) h1 hR (decide_eq_false h)⟩,by simp only[G2];omega⟩)⟩
  have e:t_ s.aa id=(i.toNat:Int):=gI (i:=i.toNat) (by omega) (decide_eq_true h) (fun j hj=>hR j (by omega))
  have e1:ax s.aa id=(s.aa.getD i.toNat br).F:=by rw[ax,e,if_neg (by omega),zeu]
  have e2:j8 s.aa id=true:=jV (j:=i.toNat) (by omega) (decide_eq_true h)
  rw[e1,e2];exact aO _
 ·have e:t_ s.aa id= -1:=je (fun j hj=>hR j (by omega))
  have e1:ax s.aa id=H7:=by rw[ax,if_pos e]
  have e2:j8 s.aa id=false:=hZ fun j hj=>hR j (by omega)
  rw[e1,e2];exact aO _
def Xu:=bE (α:=ap×Int) (qC (qA .dW) (q1 qI)) [.ro,.ro] (fun(s,id)=>[L4 (aj s.aa)]) (fun(s,id)=>⟨[dA .eP (ax s.aa id),dO (j8 s.aa id)],[],[]⟩)
def Ct(s:ap)(id:Int):Int×T2×Unit->Prop:=fun(i,g,_)=>0<=i/\i<=s.aa.length/\∀j:Nat,(j:Int)<i->decide ((s.aa.getD j br).Id=id)=false
def BD(s:ap)(id:Int):Int×T2×Unit->Nat:=fun(i,g,_)=>s.aa.length-i.toNat
def alo:AX Xu:=fun(s,id)=>bq [(2,az [iI 11,.box 4 (4,1024) [.lit .str,.own .bC true]] (fun _=>Ct s id) (BD s id))]
def MD:HH:=hF Xu func126 [aiX] alo fun x hp hb=>by
 obtain⟨s,id⟩:=x
 have eR:=eG (x:=s) (hb _ m0)
 have E8:=mL (n:=id) (hb _ m1)
 have bP:aj s.aa<=4294967296:=hp _ m0
 clear hp hb
 apply vE (let q0:=ax s.aa id;Ct s id (0,({data:= #[]:BA},[],()),())/\∀(y:Int×J8×PUnit),let q1:=s.aa.getD y.1.toNat br;let q2:=(wrap i64 (y.1+1),y.2);Ct s id y->bif decide (y.1<(s.aa.length:Int)) then 0<=y.1/\y.1.toNat<s.aa.length/\bif q1.Id==id then L4 q1.F.ak.length/\Lf [DV.agg [CS (q1.F.Kind),CL .bC q1.F.ak],VB true] [DV.agg [CS (q0.Kind),CL .bC q0.ak],VB (j8 s.aa id)] else Ct s id q2/\BD s id q2<BD s id y else Lf [DV.agg [CS ({data:= #[]:BA}),CL .bC []],VB false] [DV.agg [CS (q0.Kind),CL .bC q0.ak],VB (j8 s.aa id)])
 dsimp only
 refine⟨⟨by omega,by omega,by intro j hj;omega⟩,?_⟩
 rintro⟨i,⟨g1,g2,⟨⟩⟩,⟨⟩⟩ ⟨h1,h2,hR⟩
 simp only
 refine aE ?_ ?_<;>intro hc
 ·rw[wi]
  have hs:=iF ep s.aa br h1 hc
  simp only[ep,cZ,ir] at hs
  simp only[aj,ep,cZ,ir] at bP
  refine⟨by omega,by omega,mn (fun h=>⟨by omega,?_⟩) (fun h=>⟨⟨by omega,by omega,kI (p:=fun j=>decide ((s.aa.getD j br).Id=id)) h1 hR (decide_eq_false h)⟩,by simp only[BD];omega⟩)⟩
  have e:t_ s.aa id=(i.toNat:Int):=gI (i:=i.toNat) (by omega) (decide_eq_true h) (fun j hj=>hR j (by omega))
  have e1:ax s.aa id=(s.aa.getD i.toNat br).F:=by rw[ax,e,if_neg (by omega),zeu]
  have e2:j8 s.aa id=true:=jV (j:=i.toNat) (by omega) (decide_eq_true h)
  rw[e1,e2];exact aO _
 ·have e:t_ s.aa id= -1:=je (fun j hj=>hR j (by omega))
  have e1:ax s.aa id=H7:=by rw[ax,if_pos e]
  have e2:j8 s.aa id=false:=hZ fun j hj=>hR j (by omega)
  rw[e1,e2];exact aO _
def aga:=bE (α:=ap) (q1 (qA .dW)) [.ro] (fun _=>[]) (fun s=>⟨[dO (eB s)],[],[]⟩)
def Eb(s:ap):Int×T5×Unit->Prop:=fun(i,b,_)=>b=(s.aa,s.Next,())/\0<=i/\i<=s.aa.length/\∀j:Nat,(j:Int)<i->oa s j=true
def zC(s:ap):Int×T5×Unit->Nat:=fun(i,b,_)=>s.aa.length-i.toNat
def asz:AX aga:=fun s=>bq [(4,az [iI 3,.box 1 (1,1024) [.shr .cg,.lit (.int .i64)]] (fun _=>Eb s) (zC s))]
def ahL:HH:=hF aga func34 [tU,Vj,aqL] asz fun(s:ap) hp hb=>by
 clear hp hb
 apply vE (let q0:=Lb false (eB s);bif !decide (1<=s.Next/\s.Next<=1000000) then q0 else bif decide ((s.aa.length:Int)>40) then q0 else Eb s (0,(s.aa,s.Next,()),())/\∀(y:Int×Lh×PUnit),let x1:=y.2.1.1.length;let x4:=y.2.1.1.getD y.1.toNat br;let x5:=Int.toNat (wrap i64 (y.1-1));let x0:=x4.Id;let x2:=(y.2.1.1.getD x5 br).Id;let x3:=x4.F;let q1:=bif Ew y.2.1.1 x3 !=x0 then q0 else Eb s (wrap i64 (y.1+1),y.2)/\zC s (wrap i64 (y.1+1),y.2)<zC s y;Eb s y->bif decide (y.1<(↑x1:Int)) then 0<=y.1/\y.1.toNat<x1/\bif !gm x3 then q0 else bif decide (x0<1) then q0 else bif decide (x0≥y.2.1.2.1) then q0 else bif decide (y.1>0) then 0<=wrap i64 (y.1-1)/\x5<x1/\bif decide (x2≥x0) then q0 else q1 else q1 else Lb true (eB s))
 dsimp only
 refine bT (fun a1=>aQ (by simp only[eB,a1,mD])) (fun a1=>aE (fun a2=>aQ ?_) (fun a2=> ?_))
 ·simp only[eB];rw[decide_eq_false (p:=s.aa.length<=40) (by omega),qq,mD]
 refine⟨⟨rfl,by omega,by omega,by intro j hj;omega⟩,?_⟩
 rintro⟨i,⟨b1,b2,⟨⟩⟩,⟨⟩⟩ ⟨s6,h1,h2,hR⟩
 cases s6
 simp only
 refine aE ?_ ?_<;>intro hc
 ·have hN:oa s i.toNat=false->eB s=false:=fun h=>by
   have hf:allI s.aa.length (oa s)=false:=cE (j:=i.toNat) (by omega) h
   simp only[eB,hf,qq]
  have e1:(i-1).toNat=i.toNat-1:=by omega
  simp(disch:=omega) only[wrap_i64]
  simp only[e1]
  have hi1:i>0->0<=i-1:=fun h=>by omega
  have fx:i.toNat<s.aa.length:=by omega
  have Db:i.toNat-1<s.aa.length:=by omega
  have V2:oa s i.toNat=true->Eb s (i+1,(s.aa,s.Next,PUnit.unit),PUnit.unit)/\zC s (i+1,(s.aa,s.Next,PUnit.unit),PUnit.unit)<zC s (i,(s.aa,s.Next,PUnit.unit),PUnit.unit):=fun h=>⟨⟨rfl,by omega,by omega,cu h1 hR h⟩,by simp only[zC];omega⟩
  have c3:decide (0<i.toNat)=decide (i>0):=decide_eq_decide.2 (by omega)
  simp only[oa,ll,c3] at hN V2
  generalize hA:s.aa.getD i.toNat br=a at*
  generalize hB:s.aa.getD (i.toNat-1) br=b at*
  generalize hQ:Ew s.aa a.F=q at*
  generalize hO:gm a.F=o at*
  refine And.intro h1 (And.intro fx ?_)
  repeat' (first|refine aQ (hN ?_)|refine V2 ?_|refine aE (fun h=> ?_) (fun h=> ?_)|refine bT (fun h=> ?_) (fun h=> ?_)|refine And.intro Db ?_|refine And.intro (hi1 (by assumption)) ?_)
  all_goals (cases o<;>simp at* <;>omega)
 ·have hA:allI s.aa.length (oa s)=true:=cR fun j hj=>hR j (by omega)
  refine jN ?_
  simp only[eB,hA,a1,decide_eq_true (show s.aa.length<=40 by omega)];rfl
def afU:=bE (α:=ap) (q1 (qA .dW)) [.ro] (fun _=>[]) (fun s=>⟨[dO (eB s)],[],[]⟩)
def D_(s:ap):Int×T5×Unit->Prop:=fun(i,b,_)=>b=(s.aa,s.Next,())/\0<=i/\i<=s.aa.length/\∀j:Nat,(j:Int)<i->jT s j=true
def wa(s:ap):Int×T5×Unit->Nat:=fun(i,b,_)=>s.aa.length-i.toNat
def wc(s:ap):Int×Int×T22×T5×Unit->Int×Int×T22×T5×Unit->Prop:=fun(i0,k0,x0,b0,_) (i,k,x,b,_)=>i=i0/\x=x0/\b=b0/\0<=k/\k<=i/\∀j:Nat,(j:Int)<k->decide ((s.aa.getD i.toNat br).F=(s.aa.getD j br).F)=false
def v_(s:ap):Int×Int×T22×T5×Unit->Nat:=fun(i,k,x,b,_)=>i.toNat-k.toNat
def asg:AX afU:=fun s=>bq [(4,az [iI 20,.box 1 (1,1024) [.shr .cg,.lit (.int .i64)]] (fun _=>D_ s) (wa s)),(9,az [iI 20,iI 59,.box 4 (4,1024) [.lit (.int .i64),.lit .str,.shr .bC],.box 1 (1,1024) [.shr .cg,.lit (.int .i64)]] (wc s) (v_ s))]
def ahJ:HH:=hF afU func57 [Ec,ME,XW] asg fun(s:ap) hp hb=>by
 clear hp hb
 apply vE (let x0:=(s.aa.length:Int);let x1:=Option.getD none (0:Int);let q0:=Lb false (eB s);let q1:=List bW×Int×PUnit;let q2:=Int×BA×List cV×PUnit;bif decide (x0>40) then q0 else bif !decide (1<=s.Next/\s.Next<=1000000) then q0 else D_ s (0,(s.aa,s.Next,()),())/\∀(y:Int×q1×PUnit),let x8:=y.2.1.1.length;let x9:=(s.aa.getD y.1.toNat br).Id;let zI:=(s.aa.getD y.1.toNat br).F;let vc:=Int.toNat (wrap i64 (y.1-1));let x4:=(y.2.1.1.getD vc br).Id;let x7:=(↑x8:Int);let x3:=Option.getD (some y.1) x7;let x6:=(y.2.1.1.take x3.toNat).drop x1.toNat;let x5:=x6.length;let x2:=(↑x5:Int);let q3:=(y.1,0,(x9,zI.Kind,zI.ak,()),y.2);D_ s y->bif decide (y.1<x0) then 0<=y.1/\y.1.toNat<s.aa.length/\bif !gm zI then q0 else bif !decide (1<=x9/\x9<=wrap i64 (y.2.1.2.1-1)) then q0 else bif decide (y.1>0) then 0<=wrap i64 (y.1-1)/\vc<x8/\bif decide (x9<=x4) then q0 else 0<=x1/\x1<=x3/\x3<=x7/\wc s q3 q3/\∀(av:Int×Int×q2×q1×PUnit),let zH:=av.2.1.toNat;let q4:=(av.1,wrap i64 (av.2.1+1),av.2.2);let q5:=(wrap i64 (av.1+1),av.2.2.2);wc s q3 av->bif decide (av.2.1<x2) then 0<=av.2.1/\zH<x5/\bif decide ({Kind:=av.2.2.1.2.1,ak:=av.2.2.1.2.2.1:bf}=(x6.getD zH br).F) then q0 else wc s q3 q4/\v_ s q4<v_ s av else D_ s q5/\wa s q5<wa s y else 0<=x1/\x1<=x3/\x3<=x7/\wc s q3 q3/\∀(av:Int×Int×q2×q1×PUnit),let zH:=av.2.1.toNat;let q6:=(av.1,wrap i64 (av.2.1+1),av.2.2);let q7:=(wrap i64 (av.1+1),av.2.2.2);wc s q3 av->bif decide (av.2.1<x2) then 0<=av.2.1/\zH<x5/\bif decide ({Kind:=av.2.2.1.2.1,ak:=av.2.2.1.2.2.1:bf}=(x6.getD zH br).F) then q0 else wc s q3 q6/\v_ s q6<v_ s av else D_ s q7/\wa s q7<wa s y else Lb true (eB s))
 dsimp only
 have hF:(decide (1<=s.Next/\s.Next<=1000000)&&decide (s.aa.length<=40)&&allI s.aa.length (jT s))=eB s:=by rw[Kc];rfl
 refine aE (fun a2=>aQ ?_) (fun a2=>bT (fun a1=>aQ (by simp only[eB,a1,mD])) (fun a1=> ?_))
 ·simp only[eB];rw[decide_eq_false (p:=s.aa.length<=40) (by omega),qq,mD]
 have a3:=yT a1
 refine⟨⟨rfl,by omega,by omega,by intro j hj;omega⟩,?_⟩
 rintro⟨i,⟨b1,b2,⟨⟩⟩,⟨⟩⟩ ⟨s6,h1,h2,hR⟩
 cases s6
 simp only
 refine aE ?_ ?_<;>intro hc
 ·have hN:jT s i.toNat=false->eB s=false:=fun h=>by
   have hf:allI s.aa.length (jT s)=false:=cE (j:=i.toNat) (by omega) h
   rw[<-hF,hf,qq]
  have e1:(i-1).toNat=i.toNat-1:=by omega
  have c3:decide (0<i.toNat)=decide (i>0):=decide_eq_decide.2 (by omega)
  rw[wi (n:=s.Next-1),wi (n:=i-1),e1]
  have Oe:ll s i.toNat=false->eB s=false:=fun h=>hN (by simp only[jT,h,mD])
  refine⟨by omega,by omega,bT (fun a=>aQ (Oe (by simp only[ll,a,mD]))) (fun a=>bT (fun a'=>aQ (Oe ?_)) (fun a'=>aE (fun p=>⟨by omega,by omega,aE (fun q=>aQ (Oe ?_)) (fun q=> ?_)⟩) (fun p=> ?_)))⟩
  ·have a':=yF a'
   by_cases g:1<=(s.aa.getD i.toNat br).Id
   ·simp only[ll,decide_eq_false (show¬(s.aa.getD i.toNat br).Id<s.Next by omega),qq,mD]
   ·simp only[ll,decide_eq_false g,qq,mD]
  ·simp only[ll,c3,decide_eq_true p,decide_eq_true q,N5,zfa,qq]
  ·have a':=yT a'
   have IX:ll s i.toNat=true:=by
    simp only[ll,a,decide_eq_true a'.1,decide_eq_true (show(s.aa.getD i.toNat br).Id<s.Next by omega),decide_eq_false q,qq,zea,N5]
   refine⟨Int.le_refl 0,by simp only[Vp,J0];omega,by simp only[J0];omega,⟨rfl,rfl,rfl,by omega,by omega,by intro j hj;omega⟩,?_⟩
   rintro⟨i',k,⟨x1,x2,x3,⟨⟩⟩,⟨y1,y2,⟨⟩⟩,⟨⟩⟩ ⟨rfl,hx,hy,k1,k2,kR⟩
   cases hx
   cases hy
   simp only[Vp,J0,show Int.toNat 0=0 from rfl,List.drop_zero]
   have etl:(s.aa.take i'.toNat).length=i'.toNat:=by rw[mO];omega
   refine aE ?_ ?_<;>intro hk
   ·rw[etl] at hk
    rw[getD_take s.aa br (show k.toNat<i'.toNat by omega),etl,wi (n:=k+1)]
    refine⟨k1,by omega,aE (fun e=>aQ (hN ?_)) (fun e=>⟨⟨rfl,rfl,rfl,by omega,by omega,kI (p:=fun j=>decide ((s.aa.getD i'.toNat br).F=(s.aa.getD j br).F)) k1 kR (decide_eq_false e)⟩,by simp only[v_];omega⟩)⟩
    have ha:(anyI i'.toNat fun k=>decide ((s.aa.getD i'.toNat br).F=(s.aa.getD k br).F))=true:=jV (j:=k.toNat) (by omega) (decide_eq_true e)
    simp only[jT,ha,zfa,qq]
   ·rw[etl] at hk
    rw[wi (n:=i'+1)]
    refine⟨⟨rfl,by omega,by omega,cu h1 hR ?_⟩,by simp only[wa];omega⟩
    have ha:(anyI i'.toNat fun k=>decide ((s.aa.getD i'.toNat br).F=(s.aa.getD k br).F))=false:=hZ fun j hj=>kR j (by omega)
    simp only[jT,ha,IX,zea,N5]
  ·have a':=yT a'
   have IX:ll s i.toNat=true:=by
    simp only[ll,c3,a,decide_eq_true a'.1,decide_eq_true (show(s.aa.getD i.toNat br).Id<s.Next by omega),decide_eq_false p,mD,zea,N5]
   refine⟨Int.le_refl 0,by simp only[Vp,J0];omega,by simp only[J0];omega,⟨rfl,rfl,rfl,by omega,by omega,by intro j hj;omega⟩,?_⟩
   rintro⟨i',k,⟨x1,x2,x3,⟨⟩⟩,⟨y1,y2,⟨⟩⟩,⟨⟩⟩ ⟨rfl,hx,hy,k1,k2,kR⟩
   cases hx
   cases hy
   simp only[Vp,J0,show Int.toNat 0=0 from rfl,List.drop_zero]
   have etl:(s.aa.take i'.toNat).length=i'.toNat:=by rw[mO];omega
   refine aE ?_ ?_<;>intro hk
   ·rw[etl] at hk
    rw[getD_take s.aa br (show k.toNat<i'.toNat by omega),etl,wi (n:=k+1)]
    refine⟨k1,by omega,aE (fun e=>aQ (hN ?_)) (fun e=>⟨⟨rfl,rfl,rfl,by omega,by omega,kI (p:=fun j=>decide ((s.aa.getD i'.toNat br).F=(s.aa.getD j br).F)) k1 kR (decide_eq_false e)⟩,by simp only[v_];omega⟩)⟩
    have ha:(anyI i'.toNat fun k=>decide ((s.aa.getD i'.toNat br).F=(s.aa.getD k br).F))=true:=jV (j:=k.toNat) (by omega) (decide_eq_true e)
    simp only[jT,ha,zfa,qq]
   ·rw[etl] at hk
    rw[wi (n:=i'+1)]
    refine⟨⟨rfl,by omega,by omega,cu h1 hR ?_⟩,by simp only[wa];omega⟩
    have ha:(anyI i'.toNat fun k=>decide ((s.aa.getD i'.toNat br).F=(s.aa.getD k br).F))=false:=hZ fun j hj=>kR j (by omega)
    simp only[jT,ha,IX,zea,N5]
 ·have hA:allI s.aa.length (jT s)=true:=cR fun j hj=>hR j (by omega)
  refine jN ?_
  rw[<-hF,hA,a1,decide_eq_true (show s.aa.length<=40 by omega)];rfl
def ahh:=bE (α:=bW×Int) (qC (qA .fO) (q1 qI)) [.ro,.ro] (fun(a,left)=>[0<=left]) (fun(a,left)=>⟨[dI (dh left (ep a))],[],[]⟩)
def ajo:HH:=hF ahh func151 [MC] a0 fun x hp hb=>by
 obtain⟨a,left⟩:=x
 have aG:=Js (x:=a) (hb _ m0)
 have fR:=aG.1
 have eJ:=aG.2
 have bB:=mL (n:=left) (hb _ m1)
 have bP:0<=left:=hp _ m0
 clear hp hb
 apply vE (0<=left/\bif decide (dh left (cZ a.F)<0) then Li (-1) (dh left (ep a)) else Li (dh left (cZ a.F)) (dh left (ep a)))
 refine⟨by omega,ae (fun h=>cG (bu ?_)) (fun h=> ?_)⟩
 ·have h:=cY h;simp only[ep];omega
 obtain⟨e0,h0⟩:=cN h
 rw[e0]
 exact cG (by rw[<-eY (by simp only[ep];omega)];simp only[ep];try omega)
def ag5:=bE (α:=bW) (q1 (qA .fO)) [.ro] (fun a=>[L4 (ep a)]) (fun a=>⟨[dA .cg a],[],[]⟩)
def ai':HH:=hF ag5 func173 [MA] a0 fun(a:bW) hp hb=>by
 have aG:=Js (x:=a) (hb _ m0)
 have fR:=aG.1
 have eJ:=aG.2
 have bP:ep a<=4294967296:=hp _ m0
 clear hp hb
 apply vE (cZ a.F<=4294967296/\Lf [DV.agg [CI a.Id,CS a.F.Kind,CL .bC a.F.ak]] [DV.agg [CI a.Id,CS a.F.Kind,CL .bC a.F.ak]])
 simp only[ep] at bP
 repeat' (first|exact aO _|(refine And.intro (by omega) ?_))
def agR:=bE (α:=bW×bW) (qC (qA .cg) (q1 (qA .cg))) [.ro,.ro] (fun _=>[]) (fun(a,b)=>⟨[dO (decide (a=b))],[],[]⟩)
def aiM:HH:=hF agR func209 [My] a0 fun x hp hb=>by
 obtain⟨a,b⟩:=x
 have aG:=JA (x:=a) (hb _ m0)
 have fR:=aG.1
 have eJ:=aG.2
 have cr:=JA (x:=b) (hb _ m1)
 have tB:=cr.1
 have qj:=cr.2
 clear hp hb
 apply vE (bif a.Id !=b.Id then Lb false (decide (a=b)) else bif !decide (a.F=b.F) then Lb false (decide (a=b)) else Lb true (decide (a=b)))
 obtain⟨aId,aF⟩:=a
 obtain⟨bId,bF⟩:=b
 repeat' (apply ae<;>intro _)
 all_goals (first|apply lQ|apply ju)<;>simp_all
def afF:=bE (α:=(List bW)×Int) (qC (qL .fO) (q1 qI)) [.ro,.ro] (fun(a,left)=>[0<=left]) (fun(a,left)=>⟨[dI (dh left (aj a))],[],[]⟩)
def abU(a:List bW)(left:Int):Int×Int×Unit->Prop:=ER ep a (aj a) left
def abv(a:List bW)(left:Int):Int×Int×Unit->Nat:=ri a
def ar3:AX afF:=fun(a,left)=>bq [(5,az [iI 1,iI 5] (fun _=>abU a left) (abv a left))]
def aqU:HH:=hF afF func80 [ajo] ar3 fun x hp hb=>by
 obtain⟨a,left⟩:=x
 have cJ:L9 a.length:=eD (hb _ m0)
 have bB:=mL (n:=left) (hb _ m1)
 have bP:0<=left:=hp _ m0
 clear hp hb
 apply vE (FW ep br a (aj a) left)
 exact jx rfl bP bB cJ
def Xy:=bE (α:=List bW) (q1 (qL .fO)) [.ro] (fun a=>[L4 (aj a)]) (fun a=>⟨[dL .cg a],[],[]⟩)
def Vf(a:List bW):List bW×Int×Unit->Prop:=EQ br a
def UP(a:List bW):List bW×Int×Unit->Nat:=ri a
def als:AX Xy:=fun a=>bq [(3,az [iO 3 .cg,iI 4] (fun _=>Vf a) (UP a))]
def ajZ:HH:=hF Xy func107 [ai'] als fun(a:List bW) hp hb=>by
 have cJ:L9 a.length:=eD (hb _ m0)
 have bP:aj a<=4294967296:=hp _ m0
 clear hp hb
 apply vE (HU ep br a fun y=>Lf [.one (.sl .cg y)] [.one (.sl .cg a)])
 exact jw bP (aO _)
def Xi:=bE (α:=(List bW)×(List bW)) (qC (qL .cg) (q1 (qL .cg))) [.ro,.ro] (fun _=>[]) (fun(a,b)=>⟨[dO (decide (a=b))],[],[]⟩)
def Vb(a:List bW)(b:List bW):Int×Unit->Prop:=Fl a b
def UL(a:List bW)(b:List bW):Int×Unit->Nat:=EV a
def alb:AX Xi:=fun(a,b)=>bq [(4,az [iI 5] (fun _=>Vb a b) (UL a b))]
def ajy:HH:=hF Xi func141 [aiM] alb fun x hp hb=>by
 obtain⟨a,b⟩:=x
 have cJ:L9 a.length:=eD (hb _ m0)
 have nj:L9 b.length:=eD (hb _ m1)
 clear hp hb
 apply vE (GO br a b)
 exact jL cJ
def aqt:=bE (α:=ap×Int) (qC (qA .jF) (q1 qI)) [.ro,.ro] (fun(a,left)=>[0<=left]) (fun(a,left)=>⟨[dI (dh left (fC a))],[],[]⟩)
def arF:HH:=hF aqt func26 [aqU] a0 fun x hp hb=>by
 obtain⟨a,left⟩:=x
 have Di:=FF (x:=a) (hb _ m0)
 have bB:=mL (n:=left) (hb _ m1)
 have bP:0<=left:=hp _ m0
 clear hp hb
 apply vE (0<=left/\bif decide (dh left (aj a.aa)<0) then Li (-1) (dh left (fC a)) else Li (dh left (aj a.aa)) (dh left (fC a)))
 refine⟨by omega,ae (fun h=>cG (bu ?_)) (fun h=> ?_)⟩
 ·have h:=cY h;simp only[fC];omega
 obtain⟨e0,h0⟩:=cN h
 rw[e0]
 exact cG (by rw[<-eY (by simp only[fC];omega)];simp only[fC];try omega)
def aqo:=bE (α:=ap) (q1 (qA .jF)) [.ro] (fun a=>[L4 (fC a)]) (fun a=>⟨[dA .dW a],[],[]⟩)
def arl:HH:=hF aqo func49 [ajZ] a0 fun(a:ap) hp hb=>by
 have Di:=FF (x:=a) (hb _ m0)
 have bP:fC a<=4294967296:=hp _ m0
 clear hp hb
 apply vE (aj a.aa<=4294967296/\Lf [DV.agg [CL .cg a.aa,CI a.Next]] [DV.agg [CL .cg a.aa,CI a.Next]])
 simp only[fC] at bP
 repeat' (first|exact aO _|(refine And.intro (by omega) ?_))
def aqh:=bE (α:=ap×ap) (qC (qA .dW) (q1 (qA .dW))) [.ro,.ro] (fun _=>[]) (fun(a,b)=>⟨[dO (decide (a=b))],[],[]⟩)
def aq4:HH:=hF aqh func70 [ajy] a0 fun x hp hb=>by
 obtain⟨a,b⟩:=x
 have Di:=eG (x:=a) (hb _ m0)
 have aaN:=eG (x:=b) (hb _ m1)
 clear hp hb
 apply vE (bif !decide (a.aa=b.aa) then Lb false (decide (a=b)) else bif a.Next !=b.Next then Lb false (decide (a=b)) else Lb true (decide (a=b)))
 obtain⟨ap2,as0⟩:=a
 obtain⟨apS,asU⟩:=b
 repeat' (apply ae<;>intro _)
 all_goals (first|apply lQ|apply ju)<;>simp_all
def agO:=bE (α:=dn×Int) (qC (qA .oT) (q1 qI)) [.ro,.ro] (fun(a,left)=>[0<=left]) (fun(a,left)=>⟨[dI (dh left (d_ a))],[],[]⟩)
def Q5:HH:=hF agO func216 [MB] a0 fun x hp hb=>by
 obtain⟨a,left⟩:=x
 have aG:=Mj (x:=a) (hb _ m0)
 have Dh:=aG.1
 have nW:=aG.2
 have bB:=mL (n:=left) (hb _ m1)
 have bP:0<=left:=hp _ m0
 clear hp hb
 apply vE (let x0:=wrap i64 (left-(↑(a.S.size):Int));let q0:=dh left (d_ a);bif decide (x0<0) then Li (-1) q0 else 0<=x0/\bif decide (dh x0 (eM a.V)<0) then Li (-1) q0 else Li (dh x0 (eM a.V)) q0)
 dsimp only
 rw[wi]
 refine ae (fun h=>cG (bu ?_)) (fun h=> ?_)
 ·have h:=yT h;simp only[d_];omega
 have h0:=yF h
 refine⟨by omega,ae (fun h=>cG (bu ?_)) (fun h=> ?_)⟩
 ·have h:=cY h;simp only[d_];omega
 obtain⟨e1,h1⟩:=cN h
 rw[e1]
 exact cG (by rw[<-eY (by simp only[d_];omega)];simp only[d_];try omega)
def agG:=bE (α:=dn) (q1 (qA .oT)) [.ro] (fun a=>[L4 (d_ a)]) (fun a=>⟨[dA .ig a],[],[]⟩)
def Q3:HH:=hF agG func232 [Mz] a0 fun(a:dn) hp hb=>by
 have aG:=Mj (x:=a) (hb _ m0)
 have Dh:=aG.1
 have nW:=aG.2
 have bP:d_ a<=4294967296:=hp _ m0
 clear hp hb
 apply vE (eM a.V<=4294967296/\Lf [DV.agg [CI a.K,CS a.S,CI a.V.K,CI a.V.N,CS a.V.S]] [DV.agg [CI a.K,CS a.S,CI a.V.K,CI a.V.N,CS a.V.S]])
 simp only[d_] at bP
 repeat' (first|exact aO _|(refine And.intro (by omega) ?_))
def agA:=bE (α:=dn×dn) (qC (qA .ig) (q1 (qA .ig))) [.ro,.ro] (fun _=>[]) (fun(a,b)=>⟨[dO (decide (a=b))],[],[]⟩)
def Q0:HH:=hF agA func256 [Mx] a0 fun x hp hb=>by
 obtain⟨a,b⟩:=x
 have aG:=Mm (x:=a) (hb _ m0)
 have Dh:=aG.1
 have nW:=aG.2
 have cr:=Mm (x:=b) (hb _ m1)
 have aaM:=cr.1
 have IR:=cr.2
 clear hp hb
 apply vE (let q0:=Lb false (decide (a=b));bif a.K !=b.K then q0 else bif !a.S.toList==b.S.toList then q0 else bif !decide (a.V=b.V) then q0 else Lb true (decide (a=b)))
 dsimp only
 obtain⟨aK,aS,aV⟩:=a
 obtain⟨bK,bS,bV⟩:=b
 repeat' (apply ae<;>intro _)
 all_goals (first|apply lQ|apply ju)<;>simp_all
def WR:=bE (α:=(List dn)×Int) (qC (qL .oT) (q1 qI)) [.ro,.ro] (fun(a,left)=>[0<=left]) (fun(a,left)=>⟨[dI (dh left (jC a))],[],[]⟩)
def U6(a:List dn)(left:Int):Int×Int×Unit->Prop:=ER d_ a (jC a) left
def UE(a:List dn)(left:Int):Int×Int×Unit->Nat:=ri a
def akJ:AX WR:=fun(a,left)=>bq [(5,az [iI 1,iI 5] (fun _=>U6 a left) (UE a left))]
def aiJ:HH:=hF WR func215 [Q5] akJ fun x hp hb=>by
 obtain⟨a,left⟩:=x
 have cJ:L9 a.length:=eD (hb _ m0)
 have bB:=mL (n:=left) (hb _ m1)
 have bP:0<=left:=hp _ m0
 clear hp hb
 apply vE (FW d_ gi a (jC a) left)
 exact jx rfl bP bB cJ
def WH:=bE (α:=List dn) (q1 (qL .oT)) [.ro] (fun a=>[L4 (jC a)]) (fun a=>⟨[dL .ig a],[],[]⟩)
def U3(a:List dn):List dn×Int×Unit->Prop:=EQ gi a
def UB(a:List dn):List dn×Int×Unit->Nat:=ri a
def akA:AX WH:=fun a=>bq [(3,az [iO 3 .ig,iI 4] (fun _=>U3 a) (UB a))]
def aiw:HH:=hF WH func231 [Q3] akA fun(a:List dn) hp hb=>by
 have cJ:L9 a.length:=eD (hb _ m0)
 have bP:jC a<=4294967296:=hp _ m0
 clear hp hb
 apply vE (HU d_ gi a fun y=>Lf [.one (.sl .ig y)] [.one (.sl .ig a)])
 exact jw bP (aO _)
def Wu:=bE (α:=(List dn)×(List dn)) (qC (qL .ig) (q1 (qL .ig))) [.ro,.ro] (fun _=>[]) (fun(a,b)=>⟨[dO (decide (a=b))],[],[]⟩)
def U0(a:List dn)(b:List dn):Int×Unit->Prop:=Fl a b
def Uy(a:List dn)(b:List dn):Int×Unit->Nat:=EV a
def akl:AX Wu:=fun(a,b)=>bq [(4,az [iI 5] (fun _=>U0 a b) (Uy a b))]
def aif:HH:=hF Wu func255 [Q0] akl fun x hp hb=>by
 obtain⟨a,b⟩:=x
 have cJ:L9 a.length:=eD (hb _ m0)
 have nj:L9 b.length:=eD (hb _ m1)
 clear hp hb
 apply vE (GO gi a b)
 exact jL cJ
def ahk:=bE (α:=bc×Int) (qC (qA .k8) (q1 qI)) [.ro,.ro] (fun(a,left)=>[0<=left]) (fun(a,left)=>⟨[dI (dh left (gV a))],[],[]⟩)
def ajr:HH:=hF ahk func148 [aiJ] a0 fun x hp hb=>by
 obtain⟨a,left⟩:=x
 have aG:=Mg (x:=a) (hb _ m0)
 have jg:=aG.1
 have qT:=aG.2
 have bB:=mL (n:=left) (hb _ m1)
 have bP:0<=left:=hp _ m0
 clear hp hb
 apply vE (let x0:=wrap i64 (left-(↑(a.Kind.size):Int));let q0:=dh left (gV a);bif decide (x0<0) then Li (-1) q0 else 0<=x0/\bif decide (dh x0 (jC a.aA)<0) then Li (-1) q0 else Li (dh x0 (jC a.aA)) q0)
 dsimp only
 rw[wi]
 refine ae (fun h=>cG (bu ?_)) (fun h=> ?_)
 ·have h:=yT h;simp only[gV];omega
 have h0:=yF h
 refine⟨by omega,ae (fun h=>cG (bu ?_)) (fun h=> ?_)⟩
 ·have h:=cY h;simp only[gV];omega
 obtain⟨e1,h1⟩:=cN h
 rw[e1]
 exact cG (by rw[<-eY (by simp only[gV];omega)];simp only[gV];try omega)
def ag8:=bE (α:=bc) (q1 (qA .k8)) [.ro] (fun a=>[L4 (gV a)]) (fun a=>⟨[dA .cq a],[],[]⟩)
def ajb:HH:=hF ag8 func170 [aiw] a0 fun(a:bc) hp hb=>by
 have aG:=Mg (x:=a) (hb _ m0)
 have jg:=aG.1
 have qT:=aG.2
 have bP:gV a<=4294967296:=hp _ m0
 clear hp hb
 apply vE (jC a.aA<=4294967296/\Lf [DV.agg [CS a.Kind,CL .ig a.aA,CO a.Not]] [DV.agg [CS a.Kind,CL .ig a.aA,CO a.Not]])
 simp only[gV] at bP
 repeat' (first|exact aO _|(refine And.intro (by omega) ?_))
def agU:=bE (α:=bc×bc) (qC (qA .cq) (q1 (qA .cq))) [.ro,.ro] (fun _=>[]) (fun(a,b)=>⟨[dO (decide (a=b))],[],[]⟩)
def aiP:HH:=hF agU func206 [aif] a0 fun x hp hb=>by
 obtain⟨a,b⟩:=x
 have aG:=nC (x:=a) (hb _ m0)
 have jg:=aG.1
 have qT:=aG.2
 have cr:=nC (x:=b) (hb _ m1)
 have zf:=cr.1
 have NK:=cr.2
 clear hp hb
 apply vE (let q0:=Lb false (decide (a=b));bif !a.Kind.toList==b.Kind.toList then q0 else bif !decide (a.aA=b.aA) then q0 else bif !a.Not==b.Not then q0 else Lb true (decide (a=b)))
 dsimp only
 obtain⟨Wd,afc,atu⟩:=a
 obtain⟨Wc,ae_,atp⟩:=b
 repeat' (apply ae<;>intro _)
 all_goals (first|apply lQ|apply ju)<;>simp_all
def afI:=bE (α:=(List bc)×Int) (qC (qL .k8) (q1 qI)) [.ro,.ro] (fun(a,left)=>[0<=left]) (fun(a,left)=>⟨[dI (dh left (gD a))],[],[]⟩)
def abX(a:List bc)(left:Int):Int×Int×Unit->Prop:=ER gV a (gD a) left
def aby(a:List bc)(left:Int):Int×Int×Unit->Nat:=ri a
def ar6:AX afI:=fun(a,left)=>bq [(5,az [iI 1,iI 5] (fun _=>abX a left) (aby a left))]
def aqX:HH:=hF afI func77 [ajr] ar6 fun x hp hb=>by
 obtain⟨a,left⟩:=x
 have cJ:L9 a.length:=eD (hb _ m0)
 have bB:=mL (n:=left) (hb _ m1)
 have bP:0<=left:=hp _ m0
 clear hp hb
 apply vE (FW gV dl a (gD a) left)
 exact jx rfl bP bB cJ
def XB:=bE (α:=List bc) (q1 (qL .k8)) [.ro] (fun a=>[L4 (gD a)]) (fun a=>⟨[dL .cq a],[],[]⟩)
def Vi(a:List bc):List bc×Int×Unit->Prop:=EQ dl a
def US(a:List bc):List bc×Int×Unit->Nat:=ri a
def alw:AX XB:=fun a=>bq [(3,az [iO 3 .cq,iI 4] (fun _=>Vi a) (US a))]
def aj2:HH:=hF XB func104 [ajb] alw fun(a:List bc) hp hb=>by
 have cJ:L9 a.length:=eD (hb _ m0)
 have bP:gD a<=4294967296:=hp _ m0
 clear hp hb
 apply vE (HU gV dl a fun y=>Lf [.one (.sl .cq y)] [.one (.sl .cq a)])
 exact jw bP (aO _)
def Xl:=bE (α:=(List bc)×(List bc)) (qC (qL .cq) (q1 (qL .cq))) [.ro,.ro] (fun _=>[]) (fun(a,b)=>⟨[dO (decide (a=b))],[],[]⟩)
def Ve(a:List bc)(b:List bc):Int×Unit->Prop:=Fl a b
def UO(a:List bc)(b:List bc):Int×Unit->Nat:=EV a
def ale:AX Xl:=fun(a,b)=>bq [(4,az [iI 5] (fun _=>Ve a b) (UO a b))]
def ajB:HH:=hF Xl func138 [aiP] ale fun x hp hb=>by
 obtain⟨a,b⟩:=x
 have cJ:L9 a.length:=eD (hb _ m0)
 have nj:L9 b.length:=eD (hb _ m1)
 clear hp hb
 apply vE (GO dl a b)
 exact jL cJ
def agN:=bE (α:=aW×Int) (qC (qA .jJ) (q1 qI)) [.ro,.ro] (fun(a,left)=>[0<=left]) (fun(a,left)=>⟨[dI (dh left (iw a))],[],[]⟩)
def aiH:HH:=hF agN func218 [MB] a0 fun x hp hb=>by
 obtain⟨a,left⟩:=x
 have aG:=Jx (x:=a) (hb _ m0)
 have iA:=aG.1
 have nW:=aG.2
 have bB:=mL (n:=left) (hb _ m1)
 have bP:0<=left:=hp _ m0
 clear hp hb
 apply vE (let x0:=wrap i64 (left-(↑(a.Name.size):Int));let q0:=dh left (iw a);bif decide (x0<0) then Li (-1) q0 else 0<=x0/\bif decide (dh x0 (eM a.V)<0) then Li (-1) q0 else Li (dh x0 (eM a.V)) q0)
 dsimp only
 rw[wi]
 refine ae (fun h=>cG (bu ?_)) (fun h=> ?_)
 ·have h:=yT h;simp only[iw];omega
 have h0:=yF h
 refine⟨by omega,ae (fun h=>cG (bu ?_)) (fun h=> ?_)⟩
 ·have h:=cY h;simp only[iw];omega
 obtain⟨e1,h1⟩:=cN h
 rw[e1]
 exact cG (by rw[<-eY (by simp only[iw];omega)];simp only[iw];try omega)
def agF:=bE (α:=aW) (q1 (qA .jJ)) [.ro] (fun a=>[L4 (iw a)]) (fun a=>⟨[dA .b8 a],[],[]⟩)
def aiu:HH:=hF agF func234 [Mz] a0 fun(a:aW) hp hb=>by
 have aG:=Jx (x:=a) (hb _ m0)
 have iA:=aG.1
 have nW:=aG.2
 have bP:iw a<=4294967296:=hp _ m0
 clear hp hb
 apply vE (eM a.V<=4294967296/\Lf [DV.agg [CS a.Name,CI a.V.K,CI a.V.N,CS a.V.S]] [DV.agg [CS a.Name,CI a.V.K,CI a.V.N,CS a.V.S]])
 simp only[iw] at bP
 repeat' (first|exact aO _|(refine And.intro (by omega) ?_))
def agz:=bE (α:=aW×aW) (qC (qA .b8) (q1 (qA .b8))) [.ro,.ro] (fun _=>[]) (fun(a,b)=>⟨[dO (decide (a=b))],[],[]⟩)
def aid:HH:=hF agz func258 [Mx] a0 fun x hp hb=>by
 obtain⟨a,b⟩:=x
 have aG:=JD (x:=a) (hb _ m0)
 have iA:=aG.1
 have nW:=aG.2
 have cr:=JD (x:=b) (hb _ m1)
 have ze:=cr.1
 have IR:=cr.2
 clear hp hb
 apply vE (bif !a.Name.toList==b.Name.toList then Lb false (decide (a=b)) else bif !decide (a.V=b.V) then Lb false (decide (a=b)) else Lb true (decide (a=b)))
 obtain⟨QT,aV⟩:=a
 obtain⟨QO,bV⟩:=b
 repeat' (apply ae<;>intro _)
 all_goals (first|apply lQ|apply ju)<;>simp_all
def Xh:=bE (α:=(List aW)×Int) (qC (qL .jJ) (q1 qI)) [.ro,.ro] (fun(a,left)=>[0<=left]) (fun(a,left)=>⟨[dI (dh left (lx a))],[],[]⟩)
def Va(a:List aW)(left:Int):Int×Int×Unit->Prop:=ER iw a (lx a) left
def UK(a:List aW)(left:Int):Int×Int×Unit->Nat:=ri a
def ala:AX Xh:=fun(a,left)=>bq [(5,az [iI 1,iI 5] (fun _=>Va a left) (UK a left))]
def ajn:HH:=hF Xh func153 [aiH] ala fun x hp hb=>by
 obtain⟨a,left⟩:=x
 have cJ:L9 a.length:=eD (hb _ m0)
 have bB:=mL (n:=left) (hb _ m1)
 have bP:0<=left:=hp _ m0
 clear hp hb
 apply vE (FW iw qw a (lx a) left)
 exact jx rfl bP bB cJ
def W7:=bE (α:=List aW) (q1 (qL .jJ)) [.ro] (fun a=>[L4 (lx a)]) (fun a=>⟨[dL .b8 a],[],[]⟩)
def U'(a:List aW):List aW×Int×Unit->Prop:=EQ qw a
def UI(a:List aW):List aW×Int×Unit->Nat:=ri a
def ak1:AX W7:=fun a=>bq [(3,az [iO 3 .b8,iI 4] (fun _=>U' a) (UI a))]
def ai9:HH:=hF W7 func175 [aiu] ak1 fun(a:List aW) hp hb=>by
 have cJ:L9 a.length:=eD (hb _ m0)
 have bP:lx a<=4294967296:=hp _ m0
 clear hp hb
 apply vE (HU iw qw a fun y=>Lf [.one (.sl .b8 y)] [.one (.sl .b8 a)])
 exact jw bP (aO _)
def WT:=bE (α:=(List aW)×(List aW)) (qC (qL .b8) (q1 (qL .b8))) [.ro,.ro] (fun _=>[]) (fun(a,b)=>⟨[dO (decide (a=b))],[],[]⟩)
def U8(a:List aW)(b:List aW):Int×Unit->Prop:=Fl a b
def UG(a:List aW)(b:List aW):Int×Unit->Nat:=EV a
def akL:AX WT:=fun(a,b)=>bq [(4,az [iI 5] (fun _=>U8 a b) (UG a b))]
def aiL:HH:=hF WT func211 [aid] akL fun x hp hb=>by
 obtain⟨a,b⟩:=x
 have cJ:L9 a.length:=eD (hb _ m0)
 have nj:L9 b.length:=eD (hb _ m1)
 clear hp hb
 apply vE (GO qw a b)
 exact jL cJ
def ahj:=bE (α:=dj×Int) (qC (qA .jI) (q1 qI)) [.ro,.ro] (fun(a,left)=>[0<=left]) (fun(a,left)=>⟨[dI (dh left (iv a))],[],[]⟩)
def ajq:HH:=hF ahj func149 [Q5] a0 fun x hp hb=>by
 obtain⟨a,left⟩:=x
 have aG:=Jw (x:=a) (hb _ m0)
 have tE:=aG.1
 have pd:=aG.2.1
 have tD:=aG.2.2.1
 have pc:=aG.2.2.2
 have bB:=mL (n:=left) (hb _ m1)
 have bP:0<=left:=hp _ m0
 clear hp hb
 apply vE (let x0:=dh (dh left (d_ a.L)) (d_ a.R);let q0:=dh left (iv a);0<=left/\bif decide (dh left (d_ a.L)<0) then Li (-1) q0 else 0<=dh left (d_ a.L)/\bif decide (x0<0) then Li (-1) q0 else Li x0 q0)
 dsimp only
 refine⟨by omega,ae (fun h=>cG (bu ?_)) (fun h=> ?_)⟩
 ·have h:=cY h;simp only[iv];omega
 obtain⟨e0,h0⟩:=cN h
 rw[e0]
 refine⟨by omega,ae (fun h=>cG (bu ?_)) (fun h=> ?_)⟩
 ·have h:=cY h;simp only[iv];omega
 obtain⟨e1,h1⟩:=cN h
 rw[e1]
 exact cG (by rw[<-eY (by simp only[iv];omega)];simp only[iv];try omega)
def ag7:=bE (α:=dj) (q1 (qA .jI)) [.ro] (fun a=>[L4 (iv a)]) (fun a=>⟨[dA .cQ a],[],[]⟩)
def aja:HH:=hF ag7 func171 [Q3] a0 fun(a:dj) hp hb=>by
 have aG:=Jw (x:=a) (hb _ m0)
 have tE:=aG.1
 have pd:=aG.2.1
 have tD:=aG.2.2.1
 have pc:=aG.2.2.2
 have bP:iv a<=4294967296:=hp _ m0
 clear hp hb
 apply vE (d_ a.L<=4294967296/\L4 (d_ a.R)/\Lf [DV.agg [CI a.Op,CI a.L.K,CS a.L.S,CI a.L.V.K,CI a.L.V.N,CS a.L.V.S,CI a.R.K,CS a.R.S,CI a.R.V.K,CI a.R.V.N,CS a.R.V.S]] [DV.agg [CI a.Op,CI a.L.K,CS a.L.S,CI a.L.V.K,CI a.L.V.N,CS a.L.V.S,CI a.R.K,CS a.R.S,CI a.R.V.K,CI a.R.V.N,CS a.R.V.S]])
 simp only[iv] at bP
 repeat' (first|exact aO _|(refine And.intro (by omega) ?_))
def agT:=bE (α:=dj×dj) (qC (qA .cQ) (q1 (qA .cQ))) [.ro,.ro] (fun _=>[]) (fun(a,b)=>⟨[dO (decide (a=b))],[],[]⟩)
def aiO:HH:=hF agT func207 [Q0] a0 fun x hp hb=>by
 obtain⟨a,b⟩:=x
 have aG:=JC (x:=a) (hb _ m0)
 have tE:=aG.1
 have pd:=aG.2.1
 have tD:=aG.2.2.1
 have pc:=aG.2.2.2
 have cr:=JC (x:=b) (hb _ m1)
 have P4:=cr.1
 have KR:=cr.2.1
 have P0:=cr.2.2.1
 have KQ:=cr.2.2.2
 clear hp hb
 apply vE (let q0:=Lb false (decide (a=b));bif a.Op !=b.Op then q0 else bif !decide (a.L=b.L) then q0 else bif !decide (a.R=b.R) then q0 else Lb true (decide (a=b)))
 dsimp only
 obtain⟨aOp,aL,aR⟩:=a
 obtain⟨bOp,bL,bR⟩:=b
 repeat' (apply ae<;>intro _)
 all_goals (first|apply lQ|apply ju)<;>simp_all
def afH:=bE (α:=(List dj)×Int) (qC (qL .jI) (q1 qI)) [.ro,.ro] (fun(a,left)=>[0<=left]) (fun(a,left)=>⟨[dI (dh left (lu a))],[],[]⟩)
def abW(a:List dj)(left:Int):Int×Int×Unit->Prop:=ER iv a (lu a) left
def abx(a:List dj)(left:Int):Int×Int×Unit->Nat:=ri a
def ar5:AX afH:=fun(a,left)=>bq [(5,az [iI 1,iI 5] (fun _=>abW a left) (abx a left))]
def aqW:HH:=hF afH func78 [ajq] ar5 fun x hp hb=>by
 obtain⟨a,left⟩:=x
 have cJ:L9 a.length:=eD (hb _ m0)
 have bB:=mL (n:=left) (hb _ m1)
 have bP:0<=left:=hp _ m0
 clear hp hb
 apply vE (FW iv qv a (lu a) left)
 exact jx rfl bP bB cJ
def XA:=bE (α:=List dj) (q1 (qL .jI)) [.ro] (fun a=>[L4 (lu a)]) (fun a=>⟨[dL .cQ a],[],[]⟩)
def Vh(a:List dj):List dj×Int×Unit->Prop:=EQ qv a
def UR(a:List dj):List dj×Int×Unit->Nat:=ri a
def alv:AX XA:=fun a=>bq [(3,az [iO 3 .cQ,iI 4] (fun _=>Vh a) (UR a))]
def aj1:HH:=hF XA func105 [aja] alv fun(a:List dj) hp hb=>by
 have cJ:L9 a.length:=eD (hb _ m0)
 have bP:lu a<=4294967296:=hp _ m0
 clear hp hb
 apply vE (HU iv qv a fun y=>Lf [.one (.sl .cQ y)] [.one (.sl .cQ a)])
 exact jw bP (aO _)
def Xk:=bE (α:=(List dj)×(List dj)) (qC (qL .cQ) (q1 (qL .cQ))) [.ro,.ro] (fun _=>[]) (fun(a,b)=>⟨[dO (decide (a=b))],[],[]⟩)
def Vd(a:List dj)(b:List dj):Int×Unit->Prop:=Fl a b
def UN(a:List dj)(b:List dj):Int×Unit->Nat:=EV a
def ald:AX Xk:=fun(a,b)=>bq [(4,az [iI 5] (fun _=>Vd a b) (UN a b))]
def ajA:HH:=hF Xk func139 [aiO] ald fun x hp hb=>by
 obtain⟨a,b⟩:=x
 have cJ:L9 a.length:=eD (hb _ m0)
 have nj:L9 b.length:=eD (hb _ m1)
 clear hp hb
 apply vE (GO qv a b)
 exact jL cJ
def agx:=bE (α:=dM×Int) (qC (qA .jH) (q1 qI)) [.ro,.ro] (fun(a,left)=>[0<=left]) (fun(a,left)=>⟨[dI (dh left (gE a))],[],[]⟩)
def aia:HH:=hF agx func261 [Q5] a0 fun x hp hb=>by
 obtain⟨a,left⟩:=x
 have aG:=Jv (x:=a) (hb _ m0)
 have LY:=aG.1
 have tE:=aG.2.1
 have pd:=aG.2.2.1
 have tD:=aG.2.2.2.1
 have pc:=aG.2.2.2.2
 have bB:=mL (n:=left) (hb _ m1)
 have bP:0<=left:=hp _ m0
 clear hp hb
 apply vE (let x1:=wrap i64 (left-(↑(a.Op.size):Int));let x0:=dh x1 (d_ a.L);let q0:=Li (-1) (dh left (gE a));bif decide (x1<0) then q0 else 0<=x1/\bif decide (x0<0) then q0 else 0<=x0/\bif decide (dh x0 (d_ a.R)<0) then q0 else Li (dh x0 (d_ a.R)) (dh left (gE a)))
 dsimp only
 rw[wi]
 refine ae (fun h=>cG (bu ?_)) (fun h=> ?_)
 ·have h:=yT h;simp only[gE];omega
 have h0:=yF h
 refine⟨by omega,ae (fun h=>cG (bu ?_)) (fun h=> ?_)⟩
 ·have h:=cY h;simp only[gE];omega
 obtain⟨e1,h1⟩:=cN h
 rw[e1]
 refine⟨by omega,ae (fun h=>cG (bu ?_)) (fun h=> ?_)⟩
 ·have h:=cY h;simp only[gE];omega
 obtain⟨e2,h2⟩:=cN h
 rw[e2]
 exact cG (by rw[<-eY (by simp only[gE];omega)];simp only[gE];try omega)
def agv:=bE (α:=dM) (q1 (qA .jH)) [.ro] (fun a=>[L4 (gE a)]) (fun a=>⟨[dA .ga a],[],[]⟩)
def ah9:HH:=hF agv func267 [Q3] a0 fun(a:dM) hp hb=>by
 have aG:=Jv (x:=a) (hb _ m0)
 have LY:=aG.1
 have tE:=aG.2.1
 have pd:=aG.2.2.1
 have tD:=aG.2.2.2.1
 have pc:=aG.2.2.2.2
 have bP:gE a<=4294967296:=hp _ m0
 clear hp hb
 apply vE (d_ a.L<=4294967296/\L4 (d_ a.R)/\Lf [DV.agg [CS a.Op,CI a.L.K,CS a.L.S,CI a.L.V.K,CI a.L.V.N,CS a.L.V.S,CI a.R.K,CS a.R.S,CI a.R.V.K,CI a.R.V.N,CS a.R.V.S]] [DV.agg [CS a.Op,CI a.L.K,CS a.L.S,CI a.L.V.K,CI a.L.V.N,CS a.L.V.S,CI a.R.K,CS a.R.S,CI a.R.V.K,CI a.R.V.N,CS a.R.V.S]])
 simp only[gE] at bP
 repeat' (first|exact aO _|(refine And.intro (by omega) ?_))
def ago:=bE (α:=dM×dM) (qC (qA .ga) (q1 (qA .ga))) [.ro,.ro] (fun _=>[]) (fun(a,b)=>⟨[dO (decide (a=b))],[],[]⟩)
def ahZ:HH:=hF ago func288 [Q0] a0 fun x hp hb=>by
 obtain⟨a,b⟩:=x
 have aG:=JB (x:=a) (hb _ m0)
 have LY:=aG.1
 have tE:=aG.2.1
 have pd:=aG.2.2.1
 have tD:=aG.2.2.2.1
 have pc:=aG.2.2.2.2
 have cr:=JB (x:=b) (hb _ m1)
 have alF:=cr.1
 have P4:=cr.2.1
 have KR:=cr.2.2.1
 have P0:=cr.2.2.2.1
 have KQ:=cr.2.2.2.2
 clear hp hb
 apply vE (let q0:=Lb false (decide (a=b));bif !a.Op.toList==b.Op.toList then q0 else bif !decide (a.L=b.L) then q0 else bif !decide (a.R=b.R) then q0 else Lb true (decide (a=b)))
 dsimp only
 obtain⟨aOp,aL,aR⟩:=a
 obtain⟨bOp,bL,bR⟩:=b
 repeat' (apply ae<;>intro _)
 all_goals (first|apply lQ|apply ju)<;>simp_all
def WQ:=bE (α:=(List dM)×Int) (qC (qL .jH) (q1 qI)) [.ro,.ro] (fun(a,left)=>[0<=left]) (fun(a,left)=>⟨[dI (dh left (jS a))],[],[]⟩)
def U5(a:List dM)(left:Int):Int×Int×Unit->Prop:=ER gE a (jS a) left
def UD(a:List dM)(left:Int):Int×Int×Unit->Nat:=ri a
def akI:AX WQ:=fun(a,left)=>bq [(5,az [iI 1,iI 5] (fun _=>U5 a left) (UD a left))]
def aiI:HH:=hF WQ func217 [aia] akI fun x hp hb=>by
 obtain⟨a,left⟩:=x
 have cJ:L9 a.length:=eD (hb _ m0)
 have bB:=mL (n:=left) (hb _ m1)
 have bP:0<=left:=hp _ m0
 clear hp hb
 apply vE (FW gE mQ a (jS a) left)
 exact jx rfl bP bB cJ
def WG:=bE (α:=List dM) (q1 (qL .jH)) [.ro] (fun a=>[L4 (jS a)]) (fun a=>⟨[dL .ga a],[],[]⟩)
def U2(a:List dM):List dM×Int×Unit->Prop:=EQ mQ a
def UA(a:List dM):List dM×Int×Unit->Nat:=ri a
def akz:AX WG:=fun a=>bq [(3,az [iO 3 .ga,iI 4] (fun _=>U2 a) (UA a))]
def aiv:HH:=hF WG func233 [ah9] akz fun(a:List dM) hp hb=>by
 have cJ:L9 a.length:=eD (hb _ m0)
 have bP:jS a<=4294967296:=hp _ m0
 clear hp hb
 apply vE (HU gE mQ a fun y=>Lf [.one (.sl .ga y)] [.one (.sl .ga a)])
 exact jw bP (aO _)
def Wt:=bE (α:=(List dM)×(List dM)) (qC (qL .ga) (q1 (qL .ga))) [.ro,.ro] (fun _=>[]) (fun(a,b)=>⟨[dO (decide (a=b))],[],[]⟩)
def UZ(a:List dM)(b:List dM):Int×Unit->Prop:=Fl a b
def Ux(a:List dM)(b:List dM):Int×Unit->Nat:=EV a
def akk:AX Wt:=fun(a,b)=>bq [(4,az [iI 5] (fun _=>UZ a b) (Ux a b))]
def aie:HH:=hF Wt func257 [ahZ] akk fun x hp hb=>by
 obtain⟨a,b⟩:=x
 have cJ:L9 a.length:=eD (hb _ m0)
 have nj:L9 b.length:=eD (hb _ m1)
 clear hp hb
 apply vE (GO mQ a b)
 exact jL cJ
def ahi:=bE (α:=en×Int) (qC (qA .oU) (q1 qI)) [.ro,.ro] (fun(a,left)=>[0<=left]) (fun(a,left)=>⟨[dI (dh left (iT a))],[],[]⟩)
def ajp:HH:=hF ahi func150 [aiI] a0 fun x hp hb=>by
 obtain⟨a,left⟩:=x
 have aG:=Mk (x:=a) (hb _ m0)
 have iA:=aG.1
 have qT:=aG.2.1
 have qR:=aG.2.2
 have bB:=mL (n:=left) (hb _ m1)
 have bP:0<=left:=hp _ m0
 clear hp hb
 apply vE (let x1:=wrap i64 (left-(↑(a.Name.size):Int));let x0:=wrap i64 (dh x1 (jS a.aA)-(↑(a.jt.size):Int));let q0:=Li (-1) (dh left (iT a));bif decide (x1<0) then q0 else 0<=x1/\bif decide (dh x1 (jS a.aA)<0) then q0 else bif decide (x0<0) then q0 else Li x0 (dh left (iT a)))
 dsimp only
 rw[wi]
 refine ae (fun h=>cG (bu ?_)) (fun h=> ?_)
 ·have h:=yT h;simp only[iT];omega
 have h0:=yF h
 refine⟨by omega,ae (fun h=>cG (bu ?_)) (fun h=> ?_)⟩
 ·have h:=cY h;simp only[iT];omega
 obtain⟨e1,h1⟩:=cN h
 rw[e1]
 rw[wi]
 refine ae (fun h=>cG (bu ?_)) (fun h=> ?_)
 ·have h:=yT h;simp only[iT];omega
 have h2:=yF h
 exact cG (by rw[<-eY (by simp only[iT];omega)];simp only[iT];try omega)
def ag6:=bE (α:=en) (q1 (qA .oU)) [.ro] (fun a=>[L4 (iT a)]) (fun a=>⟨[dA .eT a],[],[]⟩)
def ai_:HH:=hF ag6 func172 [aiv] a0 fun(a:en) hp hb=>by
 have aG:=Mk (x:=a) (hb _ m0)
 have iA:=aG.1
 have qT:=aG.2.1
 have qR:=aG.2.2
 have bP:iT a<=4294967296:=hp _ m0
 clear hp hb
 apply vE (jS a.aA<=4294967296/\Lf [DV.agg [CI a.Kind,CS a.Name,CL .ga a.aA,CI a.N,CS a.jt]] [DV.agg [CI a.Kind,CS a.Name,CL .ga a.aA,CI a.N,CS a.jt]])
 simp only[iT] at bP
 repeat' (first|exact aO _|(refine And.intro (by omega) ?_))
def agS:=bE (α:=en×en) (qC (qA .eT) (q1 (qA .eT))) [.ro,.ro] (fun _=>[]) (fun(a,b)=>⟨[dO (decide (a=b))],[],[]⟩)
def aiN:HH:=hF agS func208 [aie] a0 fun x hp hb=>by
 obtain⟨a,b⟩:=x
 have aG:=Mn (x:=a) (hb _ m0)
 have iA:=aG.1
 have qT:=aG.2.1
 have qR:=aG.2.2
 have cr:=Mn (x:=b) (hb _ m1)
 have ze:=cr.1
 have NK:=cr.2.1
 have NI:=cr.2.2
 clear hp hb
 apply vE (let q0:=Lb false (decide (a=b));bif a.Kind !=b.Kind then q0 else bif !a.Name.toList==b.Name.toList then q0 else bif !decide (a.aA=b.aA) then q0 else bif a.N !=b.N then q0 else bif !a.jt.toList==b.jt.toList then q0 else Lb true (decide (a=b)))
 dsimp only
 obtain⟨Wd,QT,afc,aN,afb⟩:=a
 obtain⟨Wc,QO,ae_,bN,ae'⟩:=b
 repeat' (apply ae<;>intro _)
 all_goals (first|apply lQ|apply ju)<;>simp_all
def afG:=bE (α:=(List en)×Int) (qC (qL .oU) (q1 qI)) [.ro,.ro] (fun(a,left)=>[0<=left]) (fun(a,left)=>⟨[dI (dh left (l_ a))],[],[]⟩)
def abV(a:List en)(left:Int):Int×Int×Unit->Prop:=ER iT a (l_ a) left
def abw(a:List en)(left:Int):Int×Int×Unit->Nat:=ri a
def ar4:AX afG:=fun(a,left)=>bq [(5,az [iI 1,iI 5] (fun _=>abV a left) (abw a left))]
def aqV:HH:=hF afG func79 [ajp] ar4 fun x hp hb=>by
 obtain⟨a,left⟩:=x
 have cJ:L9 a.length:=eD (hb _ m0)
 have bB:=mL (n:=left) (hb _ m1)
 have bP:0<=left:=hp _ m0
 clear hp hb
 apply vE (FW iT gB a (l_ a) left)
 exact jx rfl bP bB cJ
def Xz:=bE (α:=List en) (q1 (qL .oU)) [.ro] (fun a=>[L4 (l_ a)]) (fun a=>⟨[dL .eT a],[],[]⟩)
def Vg(a:List en):List en×Int×Unit->Prop:=EQ gB a
def UQ(a:List en):List en×Int×Unit->Nat:=ri a
def alu:AX Xz:=fun a=>bq [(3,az [iO 3 .eT,iI 4] (fun _=>Vg a) (UQ a))]
def aj0:HH:=hF Xz func106 [ai_] alu fun(a:List en) hp hb=>by
 have cJ:L9 a.length:=eD (hb _ m0)
 have bP:l_ a<=4294967296:=hp _ m0
 clear hp hb
 apply vE (HU iT gB a fun y=>Lf [.one (.sl .eT y)] [.one (.sl .eT a)])
 exact jw bP (aO _)
def Xj:=bE (α:=(List en)×(List en)) (qC (qL .eT) (q1 (qL .eT))) [.ro,.ro] (fun _=>[]) (fun(a,b)=>⟨[dO (decide (a=b))],[],[]⟩)
def Vc(a:List en)(b:List en):Int×Unit->Prop:=Fl a b
def UM(a:List en)(b:List en):Int×Unit->Nat:=EV a
def alc:AX Xj:=fun(a,b)=>bq [(4,az [iI 5] (fun _=>Vc a b) (UM a b))]
def ajz:HH:=hF Xj func140 [aiN] alc fun x hp hb=>by
 obtain⟨a,b⟩:=x
 have cJ:L9 a.length:=eD (hb _ m0)
 have nj:L9 b.length:=eD (hb _ m1)
 clear hp hb
 apply vE (GO gB a b)
 exact jL cJ
def aqu:=bE (α:=aw×Int) (qC (qA .jG) (q1 qI)) [.ro,.ro] (fun(a,left)=>[0<=left]) (fun(a,left)=>⟨[dI (dh left (dG a))],[],[]⟩)
def arG:HH:=hF aqu func25 [aqX,aqW,aqV] a0 fun x hp hb=>by
 obtain⟨a,left⟩:=x
 have aG:=Jr (x:=a) (hb _ m0)
 have iA:=aG.1
 have Fb:=aG.2.1
 have Dk:=aG.2.2.1
 have Fe:=aG.2.2.2
 have bB:=mL (n:=left) (hb _ m1)
 have bP:0<=left:=hp _ m0
 clear hp hb
 apply vE (let x2:=wrap i64 (left-(↑(a.Name.size):Int));let x1:=dh x2 (gD a.ai);let x0:=dh x1 (lu a.bA);let q0:=Li (-1) (dh left (dG a));bif decide (x2<0) then q0 else 0<=x2/\bif decide (x1<0) then q0 else 0<=x1/\bif decide (x0<0) then q0 else 0<=x0/\bif decide (dh x0 (l_ a.cp)<0) then q0 else Li (dh x0 (l_ a.cp)) (dh left (dG a)))
 dsimp only
 rw[wi]
 refine ae (fun h=>cG (bu ?_)) (fun h=> ?_)
 ·have h:=yT h;simp only[dG];omega
 have h0:=yF h
 refine⟨by omega,ae (fun h=>cG (bu ?_)) (fun h=> ?_)⟩
 ·have h:=cY h;simp only[dG];omega
 obtain⟨e1,h1⟩:=cN h
 rw[e1]
 refine⟨by omega,ae (fun h=>cG (bu ?_)) (fun h=> ?_)⟩
 ·have h:=cY h;simp only[dG];omega
 obtain⟨e2,h2⟩:=cN h
 rw[e2]
 refine⟨by omega,ae (fun h=>cG (bu ?_)) (fun h=> ?_)⟩
 ·have h:=cY h;simp only[dG];omega
 obtain⟨e3,h3⟩:=cN h
 rw[e3]
 exact cG (by rw[<-eY (by simp only[dG];omega)];simp only[dG];try omega)
def aqp:=bE (α:=aw) (q1 (qA .jG)) [.ro] (fun a=>[L4 (dG a)]) (fun a=>⟨[dA .cw a],[],[]⟩)
def arm:HH:=hF aqp func48 [aj2,aj1,aj0] a0 fun(a:aw) hp hb=>by
 have aG:=Jr (x:=a) (hb _ m0)
 have iA:=aG.1
 have Fb:=aG.2.1
 have Dk:=aG.2.2.1
 have Fe:=aG.2.2.2
 have bP:dG a<=4294967296:=hp _ m0
 clear hp hb
 apply vE (gD a.ai<=4294967296/\L4 (lu a.bA)/\L4 (l_ a.cp)/\Lf [DV.agg [CS a.Name,CI a.mM,CL .cq a.ai,CL .cQ a.bA,CL .eT a.cp]] [DV.agg [CS a.Name,CI a.mM,CL .cq a.ai,CL .cQ a.bA,CL .eT a.cp]])
 simp only[dG] at bP
 repeat' (first|exact aO _|(refine And.intro (by omega) ?_))
def aqi:=bE (α:=aw×aw) (qC (qA .cw) (q1 (qA .cw))) [.ro,.ro] (fun _=>[]) (fun(a,b)=>⟨[dO (decide (a=b))],[],[]⟩)
def aq5:HH:=hF aqi func69 [ajB,ajA,ajz] a0 fun x hp hb=>by
 obtain⟨a,b⟩:=x
 have aG:=gL (x:=a) (hb _ m0)
 have iA:=aG.1
 have Fb:=aG.2.1
 have Dk:=aG.2.2.1
 have Fe:=aG.2.2.2
 have cr:=gL (x:=b) (hb _ m1)
 have ze:=cr.1
 have aco:=cr.2.1
 have aaP:=cr.2.2.1
 have acp:=cr.2.2.2
 clear hp hb
 apply vE (let q0:=Lb false (decide (a=b));bif !a.Name.toList==b.Name.toList then q0 else bif a.mM !=b.mM then q0 else bif !decide (a.ai=b.ai) then q0 else bif !decide (a.bA=b.bA) then q0 else bif !decide (a.cp=b.cp) then q0 else Lb true (decide (a=b)))
 dsimp only
 obtain⟨QT,ats,asZ,ap5,as2⟩:=a
 obtain⟨QO,atn,asT,apV,asW⟩:=b
 repeat' (apply ae<;>intro _)
 all_goals (first|apply lQ|apply ju)<;>simp_all
def ahw:=bE (α:=(List aw)×Int) (qC (qL .jG) (q1 qI)) [.ro,.ro] (fun(a,left)=>[0<=left]) (fun(a,left)=>⟨[dI (dh left (ee a))],[],[]⟩)
def ach(a:List aw)(left:Int):Int×Int×Unit->Prop:=ER dG a (ee a) left
def abT(a:List aw)(left:Int):Int×Int×Unit->Nat:=ri a
def asL:AX ahw:=fun(a,left)=>bq [(5,az [iI 1,iI 5] (fun _=>ach a left) (abT a left))]
def arT:HH:=hF ahw func12 [arG] asL fun x hp hb=>by
 obtain⟨a,left⟩:=x
 have cJ:L9 a.length:=eD (hb _ m0)
 have bB:=mL (n:=left) (hb _ m1)
 have bP:0<=left:=hp _ m0
 clear hp hb
 apply vE (FW dG aP a (ee a) left)
 exact jx rfl bP bB cJ
def ag9:=bE (α:=List aw) (q1 (qL .jG)) [.ro] (fun a=>[L4 (ee a)]) (fun a=>⟨[dL .cw a],[],[]⟩)
def acg(a:List aw):List aw×Int×Unit->Prop:=EQ aP a
def abS(a:List aw):List aw×Int×Unit->Nat:=ri a
def asJ:AX ag9:=fun a=>bq [(3,az [iO 3 .cw,iI 4] (fun _=>acg a) (abS a))]
def arO:HH:=hF ag9 func17 [arm] asJ fun(a:List aw) hp hb=>by
 have cJ:L9 a.length:=eD (hb _ m0)
 have bP:ee a<=4294967296:=hp _ m0
 clear hp hb
 apply vE (HU dG aP a fun y=>Lf [.one (.sl .cw y)] [.one (.sl .cw a)])
 exact jw bP (aO _)
def agM:=bE (α:=(List aw)×(List aw)) (qC (qL .cw) (q1 (qL .cw))) [.ro,.ro] (fun _=>[]) (fun(a,b)=>⟨[dO (decide (a=b))],[],[]⟩)
def acf(a:List aw)(b:List aw):Int×Unit->Prop:=Fl a b
def abR(a:List aw)(b:List aw):Int×Unit->Nat:=EV a
def asI:AX agM:=fun(a,b)=>bq [(4,az [iI 5] (fun _=>acf a b) (abR a b))]
def arJ:HH:=hF agM func22 [aq5] asI fun x hp hb=>by
 obtain⟨a,b⟩:=x
 have cJ:L9 a.length:=eD (hb _ m0)
 have nj:L9 b.length:=eD (hb _ m1)
 clear hp hb
 apply vE (GO aP a b)
 exact jL cJ
def Zk4:=bE (α:=bY×Int) (qC (qA .qg) (q1 qI)) [.ro,.ro] (fun(a,left)=>[0<=left]) (fun(a,left)=>⟨[dI (dh left (bo a))],[],[]⟩)
def Zh4:HH:=hF Zk4 func4 [arT] a0 fun x hp hb=>by
 obtain⟨a,left⟩:=x
 have aG:=GW (x:=a) (hb _ m0)
 have iA:=aG.1
 have nk:=aG.2
 have bB:=mL (n:=left) (hb _ m1)
 have bP:0<=left:=hp _ m0
 clear hp hb
 apply vE (let x0:=wrap i64 (left-(↑(a.Name.size):Int));let q0:=dh left (bo a);bif decide (x0<0) then Li (-1) q0 else 0<=x0/\bif decide (dh x0 (ee a.af)<0) then Li (-1) q0 else Li (dh x0 (ee a.af)) q0)
 dsimp only
 rw[wi]
 refine ae (fun h=>cG (bu ?_)) (fun h=> ?_)
 ·have h:=yT h;simp only[bo];omega
 have h0:=yF h
 refine⟨by omega,ae (fun h=>cG (bu ?_)) (fun h=> ?_)⟩
 ·have h:=cY h;simp only[bo];omega
 obtain⟨e1,h1⟩:=cN h
 rw[e1]
 exact cG (by rw[<-eY (by simp only[bo];omega)];simp only[bo];try omega)
def Zk7:=bE (α:=bY) (q1 (qA .qg)) [.ro] (fun a=>[L4 (bo a)]) (fun a=>⟨[dA .jc a],[],[]⟩)
def Zh7:HH:=hF Zk7 func7 [arO] a0 fun(a:bY) hp hb=>by
 have aG:=GW (x:=a) (hb _ m0)
 have iA:=aG.1
 have nk:=aG.2
 have bP:bo a<=4294967296:=hp _ m0
 clear hp hb
 apply vE (ee a.af<=4294967296/\Lf [DV.agg [CS a.Name,CL .cw a.af]] [DV.agg [CS a.Name,CL .cw a.af]])
 simp only[bo] at bP
 repeat' (first|exact aO _|(refine And.intro (by omega) ?_))
def aqF:=bE (α:=bY×bY) (qC (qA .jc) (q1 (qA .jc))) [.ro,.ro] (fun _=>[]) (fun(a,b)=>⟨[dO (decide (a=b))],[],[]⟩)
def arV:HH:=hF aqF func10 [arJ] a0 fun x hp hb=>by
 obtain⟨a,b⟩:=x
 have aG:=gO (x:=a) (hb _ m0)
 have iA:=aG.1
 have nk:=aG.2
 have cr:=gO (x:=b) (hb _ m1)
 have ze:=cr.1
 have Dd:=cr.2
 clear hp hb
 apply vE (bif !a.Name.toList==b.Name.toList then Lb false (decide (a=b)) else bif !decide (a.af=b.af) then Lb false (decide (a=b)) else Lb true (decide (a=b)))
 obtain⟨QT,abu⟩:=a
 obtain⟨QO,abq⟩:=b
 repeat' (apply ae<;>intro _)
 all_goals (first|apply lQ|apply ju)<;>simp_all
def aqg:=bE (α:=cW×Int) (qC (qA .fG) (q1 qI)) [.ro,.ro] (fun(a,left)=>[0<=left]) (fun(a,left)=>⟨[dI (dh left (gv a))],[],[]⟩)
def aqT:HH:=hF aqg func81 [Ra,ajn] a0 fun x hp hb=>by
 obtain⟨a,left⟩:=x
 have aG:=FG (x:=a) (hb _ m0)
 have pe:=aG.1
 have Dl:=aG.2
 have bB:=mL (n:=left) (hb _ m1)
 have bP:0<=left:=hp _ m0
 clear hp hb
 apply vE (let x0:=dh (dh left (dx a.b9)) (lx a.lJ);let q0:=dh left (gv a);0<=left/\bif decide (dh left (dx a.b9)<0) then Li (-1) q0 else 0<=dh left (dx a.b9)/\bif decide (x0<0) then Li (-1) q0 else Li x0 q0)
 dsimp only
 refine⟨by omega,ae (fun h=>cG (bu ?_)) (fun h=> ?_)⟩
 ·have h:=cY h;simp only[gv];omega
 obtain⟨e0,h0⟩:=cN h
 rw[e0]
 refine⟨by omega,ae (fun h=>cG (bu ?_)) (fun h=> ?_)⟩
 ·have h:=cY h;simp only[gv];omega
 obtain⟨e1,h1⟩:=cN h
 rw[e1]
 exact cG (by rw[<-eY (by simp only[gv];omega)];simp only[gv];try omega)
def ahG:=bE (α:=cW) (q1 (qA .fG)) [.ro] (fun a=>[L4 (gv a)]) (fun a=>⟨[dA .dB a],[],[]⟩)
def ajY:HH:=hF ahG func108 [Q8,ai9] a0 fun(a:cW) hp hb=>by
 have aG:=FG (x:=a) (hb _ m0)
 have pe:=aG.1
 have Dl:=aG.2
 have bP:gv a<=4294967296:=hp _ m0
 clear hp hb
 apply vE (dx a.b9<=4294967296/\L4 (lx a.lJ)/\Lf [DV.agg [CI a.jW,CL .int a.b9,CL .b8 a.lJ]] [DV.agg [CI a.jW,CL .int a.b9,CL .b8 a.lJ]])
 simp only[gv] at bP
 repeat' (first|exact aO _|(refine And.intro (by omega) ?_))
def ahq:=bE (α:=cW×cW) (qC (qA .dB) (q1 (qA .dB))) [.ro,.ro] (fun _=>[]) (fun(a,b)=>⟨[dO (decide (a=b))],[],[]⟩)
def ajx:HH:=hF ahq func142 [Q6,aiL] a0 fun x hp hb=>by
 obtain⟨a,b⟩:=x
 have aG:=FJ (x:=a) (hb _ m0)
 have pe:=aG.1
 have Dl:=aG.2
 have cr:=FJ (x:=b) (hb _ m1)
 have De:=cr.1
 have aaQ:=cr.2
 clear hp hb
 apply vE (let q0:=Lb false (decide (a=b));bif a.jW !=b.jW then q0 else bif !decide (a.b9=b.b9) then q0 else bif !decide (a.lJ=b.lJ) then q0 else Lb true (decide (a=b)))
 dsimp only
 obtain⟨asY,ap3,ap6⟩:=a
 obtain⟨asS,apT,apW⟩:=b
 repeat' (apply ae<;>intro _)
 all_goals (first|apply lQ|apply ju)<;>simp_all
def agt:=bE (α:=(List cW)×Int) (qC (qL .fG) (q1 qI)) [.ro,.ro] (fun(a,left)=>[0<=left]) (fun(a,left)=>⟨[dI (dh left (jA a))],[],[]⟩)
def ace(a:List cW)(left:Int):Int×Int×Unit->Prop:=ER gv a (jA a) left
def abQ(a:List cW)(left:Int):Int×Int×Unit->Nat:=ri a
def asH:AX agt:=fun(a,left)=>bq [(5,az [iI 1,iI 5] (fun _=>ace a left) (abQ a left))]
def arE:HH:=hF agt func27 [aqT] asH fun x hp hb=>by
 obtain⟨a,left⟩:=x
 have cJ:L9 a.length:=eD (hb _ m0)
 have bB:=mL (n:=left) (hb _ m1)
 have bP:0<=left:=hp _ m0
 clear hp hb
 apply vE (FW gv dU a (jA a) left)
 exact jx rfl bP bB cJ
def af1:=bE (α:=List cW) (q1 (qL .fG)) [.ro] (fun a=>[L4 (jA a)]) (fun a=>⟨[dL .dB a],[],[]⟩)
def ab9(a:List cW):List cW×Int×Unit->Prop:=EQ dU a
def abK(a:List cW):List cW×Int×Unit->Nat:=ri a
def aso:AX af1:=fun a=>bq [(3,az [iO 3 .dB,iI 4] (fun _=>ab9 a) (abK a))]
def ark:HH:=hF af1 func50 [ajY] aso fun(a:List cW) hp hb=>by
 have cJ:L9 a.length:=eD (hb _ m0)
 have bP:jA a<=4294967296:=hp _ m0
 clear hp hb
 apply vE (HU gv dU a fun y=>Lf [.one (.sl .dB y)] [.one (.sl .dB a)])
 exact jw bP (aO _)
def afO:=bE (α:=(List cW)×(List cW)) (qC (qL .dB) (q1 (qL .dB))) [.ro,.ro] (fun _=>[]) (fun(a,b)=>⟨[dO (decide (a=b))],[],[]⟩)
def ab3(a:List cW)(b:List cW):Int×Unit->Prop:=Fl a b
def abE(a:List cW)(b:List cW):Int×Unit->Nat:=EV a
def asa:AX afO:=fun(a,b)=>bq [(4,az [iI 5] (fun _=>ab3 a b) (abE a b))]
def aq3:HH:=hF afO func71 [ajx] asa fun x hp hb=>by
 obtain⟨a,b⟩:=x
 have cJ:L9 a.length:=eD (hb _ m0)
 have nj:L9 b.length:=eD (hb _ m1)
 clear hp hb
 apply vE (GO dU a b)
 exact jL cJ
def aqc:=bE (α:=b7×Int) (qC (qA .k9) (q1 qI)) [.ro,.ro] (fun(a,left)=>[0<=left]) (fun(a,left)=>⟨[dI (dh left (jR a))],[],[]⟩)
def aqP:HH:=hF aqc func85 [Ra] a0 fun x hp hb=>by
 obtain⟨a,left⟩:=x
 have P5:=Mi (x:=a) (hb _ m0)
 have bB:=mL (n:=left) (hb _ m1)
 have bP:0<=left:=hp _ m0
 clear hp hb
 apply vE (0<=left/\bif decide (dh left (dx a.L)<0) then Li (-1) (dh left (jR a)) else Li (dh left (dx a.L)) (dh left (jR a)))
 refine⟨by omega,ae (fun h=>cG (bu ?_)) (fun h=> ?_)⟩
 ·have h:=cY h;simp only[jR];omega
 obtain⟨e0,h0⟩:=cN h
 rw[e0]
 exact cG (by rw[<-eY (by simp only[jR];omega)];simp only[jR];try omega)
def ahC:=bE (α:=b7) (q1 (qA .k9)) [.ro] (fun a=>[L4 (jR a)]) (fun a=>⟨[dA .cD a],[],[]⟩)
def ajU:HH:=hF ahC func112 [Q8] a0 fun(a:b7) hp hb=>by
 have P5:=Mi (x:=a) (hb _ m0)
 have bP:jR a<=4294967296:=hp _ m0
 clear hp hb
 apply vE (dx a.L<=4294967296/\Lf [DV.agg [CL .int a.L]] [DV.agg [CL .int a.L]])
 simp only[jR] at bP
 repeat' (first|exact aO _|(refine And.intro (by omega) ?_))
def ahm:=bE (α:=b7×b7) (qC (qA .cD) (q1 (qA .cD))) [.ro,.ro] (fun _=>[]) (fun(a,b)=>⟨[dO (decide (a=b))],[],[]⟩)
def ajt:HH:=hF ahm func146 [Q6] a0 fun x hp hb=>by
 obtain⟨a,b⟩:=x
 have P5:=AP (x:=a) (hb _ m0)
 have apu:=AP (x:=b) (hb _ m1)
 clear hp hb
 apply vE (bif !decide (a.L=b.L) then Lb false (decide (a=b)) else Lb true (decide (a=b)))
 obtain⟨aL⟩:=a
 obtain⟨bL⟩:=b
 repeat' (apply ae<;>intro _)
 all_goals (first|apply lQ|apply ju)<;>simp_all
def agd:=bE (α:=(List b7)×Int) (qC (qL .k9) (q1 qI)) [.ro,.ro] (fun(a,left)=>[0<=left]) (fun(a,left)=>⟨[dI (dh left (jB a))],[],[]⟩)
def ab_(a:List b7)(left:Int):Int×Int×Unit->Prop:=ER jR a (jB a) left
def abM(a:List b7)(left:Int):Int×Int×Unit->Nat:=ri a
def asC:AX agd:=fun(a,left)=>bq [(5,az [iI 1,iI 5] (fun _=>ab_ a left) (abM a left))]
def arA:HH:=hF agd func31 [aqP] asC fun x hp hb=>by
 obtain⟨a,left⟩:=x
 have cJ:L9 a.length:=eD (hb _ m0)
 have bB:=mL (n:=left) (hb _ m1)
 have bP:0<=left:=hp _ m0
 clear hp hb
 apply vE (FW jR cS a (jB a) left)
 exact jx rfl bP bB cJ
def afX:=bE (α:=List b7) (q1 (qL .k9)) [.ro] (fun a=>[L4 (jB a)]) (fun a=>⟨[dL .cD a],[],[]⟩)
def ab5(a:List b7):List b7×Int×Unit->Prop:=EQ cS a
def abG(a:List b7):List b7×Int×Unit->Nat:=ri a
def asj:AX afX:=fun a=>bq [(3,az [iO 3 .cD,iI 4] (fun _=>ab5 a) (abG a))]
def arf:HH:=hF afX func54 [ajU] asj fun(a:List b7) hp hb=>by
 have cJ:L9 a.length:=eD (hb _ m0)
 have bP:jB a<=4294967296:=hp _ m0
 clear hp hb
 apply vE (HU jR cS a fun y=>Lf [.one (.sl .cD y)] [.one (.sl .cD a)])
 exact jw bP (aO _)
def afK:=bE (α:=(List b7)×(List b7)) (qC (qL .cD) (q1 (qL .cD))) [.ro,.ro] (fun _=>[]) (fun(a,b)=>⟨[dO (decide (a=b))],[],[]⟩)
def abZ(a:List b7)(b:List b7):Int×Unit->Prop:=Fl a b
def abA(a:List b7)(b:List b7):Int×Unit->Nat:=EV a
def ar8:AX afK:=fun(a,b)=>bq [(4,az [iI 5] (fun _=>abZ a b) (abA a b))]
def aqZ:HH:=hF afK func75 [ajt] ar8 fun x hp hb=>by
 obtain⟨a,b⟩:=x
 have cJ:L9 a.length:=eD (hb _ m0)
 have nj:L9 b.length:=eD (hb _ m1)
 clear hp hb
 apply vE (GO cS a b)
 exact jL cJ
def agm:=bE (α:=au×Int) (qC (qA .oR) (q1 qI)) [.ro,.ro] (fun(a,left)=>[0<=left]) (fun(a,left)=>⟨[dI (dh left (jk a))],[],[]⟩)
def ahX:HH:=hF agm func290 [Ra] a0 fun x hp hb=>by
 obtain⟨a,left⟩:=x
 have aG:=Me (x:=a) (hb _ m0)
 have pe:=aG.1
 have ue:=aG.2
 have bB:=mL (n:=left) (hb _ m1)
 have bP:0<=left:=hp _ m0
 clear hp hb
 apply vE (let x0:=dh (dh left (dx a.b9)) (dx a.db);let q0:=dh left (jk a);0<=left/\bif decide (dh left (dx a.b9)<0) then Li (-1) q0 else 0<=dh left (dx a.b9)/\bif decide (x0<0) then Li (-1) q0 else Li x0 q0)
 dsimp only
 refine⟨by omega,ae (fun h=>cG (bu ?_)) (fun h=> ?_)⟩
 ·have h:=cY h;simp only[jk];omega
 obtain⟨e0,h0⟩:=cN h
 rw[e0]
 refine⟨by omega,ae (fun h=>cG (bu ?_)) (fun h=> ?_)⟩
 ·have h:=cY h;simp only[jk];omega
 obtain⟨e1,h1⟩:=cN h
 rw[e1]
 exact cG (by rw[<-eY (by simp only[jk];omega)];simp only[jk];try omega)
def agk:=bE (α:=au) (q1 (qA .oR)) [.ro] (fun a=>[L4 (jk a)]) (fun a=>⟨[dA .bO a],[],[]⟩)
def ahU:HH:=hF agk func294 [Q8] a0 fun(a:au) hp hb=>by
 have aG:=Me (x:=a) (hb _ m0)
 have pe:=aG.1
 have ue:=aG.2
 have bP:jk a<=4294967296:=hp _ m0
 clear hp hb
 apply vE (dx a.b9<=4294967296/\L4 (dx a.db)/\Lf [DV.agg [CL .int a.b9,CL .int a.db]] [DV.agg [CL .int a.b9,CL .int a.db]])
 simp only[jk] at bP
 repeat' (first|exact aO _|(refine And.intro (by omega) ?_))
def agi:=bE (α:=au×au) (qC (qA .bO) (q1 (qA .bO))) [.ro,.ro] (fun _=>[]) (fun(a,b)=>⟨[dO (decide (a=b))],[],[]⟩)
def ahR:HH:=hF agi func302 [Q6] a0 fun x hp hb=>by
 obtain⟨a,b⟩:=x
 have aG:=p5 (x:=a) (hb _ m0)
 have pe:=aG.1
 have ue:=aG.2
 have cr:=p5 (x:=b) (hb _ m1)
 have De:=cr.1
 have Fa:=cr.2
 clear hp hb
 apply vE (bif !decide (a.b9=b.b9) then Lb false (decide (a=b)) else bif !decide (a.db=b.db) then Lb false (decide (a=b)) else Lb true (decide (a=b)))
 obtain⟨ap3,as1⟩:=a
 obtain⟨apT,asV⟩:=b
 repeat' (apply ae<;>intro _)
 all_goals (first|apply lQ|apply ju)<;>simp_all
def Wr:=bE (α:=(List au)×Int) (qC (qL .oR) (q1 qI)) [.ro,.ro] (fun(a,left)=>[0<=left]) (fun(a,left)=>⟨[dI (dh left (l9 a))],[],[]⟩)
def UX(a:List au)(left:Int):Int×Int×Unit->Prop:=ER jk a (l9 a) left
def Uv(a:List au)(left:Int):Int×Int×Unit->Nat:=ri a
def aki:AX Wr:=fun(a,left)=>bq [(5,az [iI 1,iI 5] (fun _=>UX a left) (Uv a left))]
def ah_:HH:=hF Wr func262 [ahX] aki fun x hp hb=>by
 obtain⟨a,left⟩:=x
 have cJ:L9 a.length:=eD (hb _ m0)
 have bB:=mL (n:=left) (hb _ m1)
 have bP:0<=left:=hp _ m0
 clear hp hb
 apply vE (FW jk aT a (l9 a) left)
 exact jx rfl bP bB cJ
def Wn:=bE (α:=List au) (q1 (qL .oR)) [.ro] (fun a=>[L4 (l9 a)]) (fun a=>⟨[dL .bO a],[],[]⟩)
def UW(a:List au):List au×Int×Unit->Prop:=EQ aT a
def Uu(a:List au):List au×Int×Unit->Nat:=ri a
def ake:AX Wn:=fun a=>bq [(3,az [iO 3 .bO,iI 4] (fun _=>UW a) (Uu a))]
def ah8:HH:=hF Wn func268 [ahU] ake fun(a:List au) hp hb=>by
 have cJ:L9 a.length:=eD (hb _ m0)
 have bP:l9 a<=4294967296:=hp _ m0
 clear hp hb
 apply vE (HU jk aT a fun y=>Lf [.one (.sl .bO y)] [.one (.sl .bO a)])
 exact jw bP (aO _)
def Wk:=bE (α:=(List au)×(List au)) (qC (qL .bO) (q1 (qL .bO))) [.ro,.ro] (fun _=>[]) (fun(a,b)=>⟨[dO (decide (a=b))],[],[]⟩)
def UT(a:List au)(b:List au):Int×Unit->Prop:=Fl a b
def Ut(a:List au)(b:List au):Int×Unit->Nat:=EV a
def aka:AX Wk:=fun(a,b)=>bq [(4,az [iI 5] (fun _=>UT a b) (Ut a b))]
def ahY:HH:=hF Wk func289 [ahR] aka fun x hp hb=>by
 obtain⟨a,b⟩:=x
 have cJ:L9 a.length:=eD (hb _ m0)
 have nj:L9 b.length:=eD (hb _ m1)
 clear hp hb
 apply vE (GO aT a b)
 exact jL cJ
def agL:=bE (α:=aq×Int) (qC (qA .gG) (q1 qI)) [.ro,.ro] (fun(a,left)=>[0<=left]) (fun(a,left)=>⟨[dI (dh left (fh a))],[],[]⟩)
def aiF:HH:=hF agL func220 [ah_] a0 fun x hp hb=>by
 obtain⟨a,left⟩:=x
 have zg:=FH (x:=a) (hb _ m0)
 have bB:=mL (n:=left) (hb _ m1)
 have bP:0<=left:=hp _ m0
 clear hp hb
 apply vE (0<=left/\bif decide (dh left (l9 a.bi)<0) then Li (-1) (dh left (fh a)) else Li (dh left (l9 a.bi)) (dh left (fh a)))
 refine⟨by omega,ae (fun h=>cG (bu ?_)) (fun h=> ?_)⟩
 ·have h:=cY h;simp only[fh];omega
 obtain⟨e0,h0⟩:=cN h
 rw[e0]
 exact cG (by rw[<-eY (by simp only[fh];omega)];simp only[fh];try omega)
def agE:=bE (α:=aq) (q1 (qA .gG)) [.ro] (fun a=>[L4 (fh a)]) (fun a=>⟨[dA .cf a],[],[]⟩)
def ais:HH:=hF agE func236 [ah8] a0 fun(a:aq) hp hb=>by
 have zg:=FH (x:=a) (hb _ m0)
 have bP:fh a<=4294967296:=hp _ m0
 clear hp hb
 apply vE (l9 a.bi<=4294967296/\Lf [DV.agg [CL .bO a.bi]] [DV.agg [CL .bO a.bi]])
 simp only[fh] at bP
 repeat' (first|exact aO _|(refine And.intro (by omega) ?_))
def agy:=bE (α:=aq×aq) (qC (qA .cf) (q1 (qA .cf))) [.ro,.ro] (fun _=>[]) (fun(a,b)=>⟨[dO (decide (a=b))],[],[]⟩)
def aib:HH:=hF agy func260 [ahY] a0 fun x hp hb=>by
 obtain⟨a,b⟩:=x
 have zg:=uO (x:=a) (hb _ m0)
 have NJ:=uO (x:=b) (hb _ m1)
 clear hp hb
 apply vE (bif !decide (a.bi=b.bi) then Lb false (decide (a=b)) else Lb true (decide (a=b)))
 obtain⟨asX⟩:=a
 obtain⟨asR⟩:=b
 repeat' (apply ae<;>intro _)
 all_goals (first|apply lQ|apply ju)<;>simp_all
def Xg:=bE (α:=(List aq)×Int) (qC (qL .gG) (q1 qI)) [.ro,.ro] (fun(a,left)=>[0<=left]) (fun(a,left)=>⟨[dI (dh left (iR a))],[],[]⟩)
def U_(a:List aq)(left:Int):Int×Int×Unit->Prop:=ER fh a (iR a) left
def UJ(a:List aq)(left:Int):Int×Int×Unit->Nat:=ri a
def ak_:AX Xg:=fun(a,left)=>bq [(5,az [iI 1,iI 5] (fun _=>U_ a left) (UJ a left))]
def ajm:HH:=hF Xg func156 [aiF] ak_ fun x hp hb=>by
 obtain⟨a,left⟩:=x
 have cJ:L9 a.length:=eD (hb _ m0)
 have bB:=mL (n:=left) (hb _ m1)
 have bP:0<=left:=hp _ m0
 clear hp hb
 apply vE (FW fh aB a (iR a) left)
 exact jx rfl bP bB cJ
def W6:=bE (α:=List aq) (q1 (qL .gG)) [.ro] (fun a=>[L4 (iR a)]) (fun a=>⟨[dL .cf a],[],[]⟩)
def U9(a:List aq):List aq×Int×Unit->Prop:=EQ aB a
def UH(a:List aq):List aq×Int×Unit->Nat:=ri a
def ak0:AX W6:=fun a=>bq [(3,az [iO 3 .cf,iI 4] (fun _=>U9 a) (UH a))]
def ai8:HH:=hF W6 func178 [ais] ak0 fun(a:List aq) hp hb=>by
 have cJ:L9 a.length:=eD (hb _ m0)
 have bP:iR a<=4294967296:=hp _ m0
 clear hp hb
 apply vE (HU fh aB a fun y=>Lf [.one (.sl .cf y)] [.one (.sl .cf a)])
 exact jw bP (aO _)
def WS:=bE (α:=(List aq)×(List aq)) (qC (qL .cf) (q1 (qL .cf))) [.ro,.ro] (fun _=>[]) (fun(a,b)=>⟨[dO (decide (a=b))],[],[]⟩)
def U7(a:List aq)(b:List aq):Int×Unit->Prop:=Fl a b
def UF(a:List aq)(b:List aq):Int×Unit->Nat:=EV a
def akK:AX WS:=fun(a,b)=>bq [(4,az [iI 5] (fun _=>U7 a b) (UF a b))]
def aiK:HH:=hF WS func214 [aib] akK fun x hp hb=>by
 obtain⟨a,b⟩:=x
 have cJ:L9 a.length:=eD (hb _ m0)
 have nj:L9 b.length:=eD (hb _ m1)
 clear hp hb
 apply vE (GO aB a b)
 exact jL cJ
def aqb:=bE (α:=dR×Int) (qC (qA .nb) (q1 qI)) [.ro,.ro] (fun(a,left)=>[0<=left]) (fun(a,left)=>⟨[dI (dh left (ik a))],[],[]⟩)
def aqO:HH:=hF aqb func86 [ajm] a0 fun x hp hb=>by
 obtain⟨a,left⟩:=x
 have zQ:=Mf (x:=a) (hb _ m0)
 have bB:=mL (n:=left) (hb _ m1)
 have bP:0<=left:=hp _ m0
 clear hp hb
 apply vE (0<=left/\bif decide (dh left (iR a.ao)<0) then Li (-1) (dh left (ik a)) else Li (dh left (iR a.ao)) (dh left (ik a)))
 refine⟨by omega,ae (fun h=>cG (bu ?_)) (fun h=> ?_)⟩
 ·have h:=cY h;simp only[ik];omega
 obtain⟨e0,h0⟩:=cN h
 rw[e0]
 exact cG (by rw[<-eY (by simp only[ik];omega)];simp only[ik];try omega)
def ahB:=bE (α:=dR) (q1 (qA .nb)) [.ro] (fun a=>[L4 (ik a)]) (fun a=>⟨[dA .di a],[],[]⟩)
def ajT:HH:=hF ahB func113 [ai8] a0 fun(a:dR) hp hb=>by
 have zQ:=Mf (x:=a) (hb _ m0)
 have bP:ik a<=4294967296:=hp _ m0
 clear hp hb
 apply vE (iR a.ao<=4294967296/\Lf [DV.agg [CL .cf a.ao]] [DV.agg [CL .cf a.ao]])
 simp only[ik] at bP
 repeat' (first|exact aO _|(refine And.intro (by omega) ?_))
def ahl:=bE (α:=dR×dR) (qC (qA .di) (q1 (qA .di))) [.ro,.ro] (fun _=>[]) (fun(a,b)=>⟨[dO (decide (a=b))],[],[]⟩)
def ajs:HH:=hF ahl func147 [aiK] a0 fun x hp hb=>by
 obtain⟨a,b⟩:=x
 have zQ:=AO (x:=a) (hb _ m0)
 have VW:=AO (x:=b) (hb _ m1)
 clear hp hb
 apply vE (bif !decide (a.ao=b.ao) then Lb false (decide (a=b)) else Lb true (decide (a=b)))
 obtain⟨alN⟩:=a
 obtain⟨alJ⟩:=b
 repeat' (apply ae<;>intro _)
 all_goals (first|apply lQ|apply ju)<;>simp_all
def agc:=bE (α:=(List dR)×Int) (qC (qL .nb) (q1 qI)) [.ro,.ro] (fun(a,left)=>[0<=left]) (fun(a,left)=>⟨[dI (dh left (nN a))],[],[]⟩)
def ab'(a:List dR)(left:Int):Int×Int×Unit->Prop:=ER ik a (nN a) left
def abL(a:List dR)(left:Int):Int×Int×Unit->Nat:=ri a
def asB:AX agc:=fun(a,left)=>bq [(5,az [iI 1,iI 5] (fun _=>ab' a left) (abL a left))]
def arz:HH:=hF agc func32 [aqO] asB fun x hp hb=>by
 obtain⟨a,left⟩:=x
 have cJ:L9 a.length:=eD (hb _ m0)
 have bB:=mL (n:=left) (hb _ m1)
 have bP:0<=left:=hp _ m0
 clear hp hb
 apply vE (FW ik bt a (nN a) left)
 exact jx rfl bP bB cJ
def afW:=bE (α:=List dR) (q1 (qL .nb)) [.ro] (fun a=>[L4 (nN a)]) (fun a=>⟨[dL .di a],[],[]⟩)
def ab4(a:List dR):List dR×Int×Unit->Prop:=EQ bt a
def abF(a:List dR):List dR×Int×Unit->Nat:=ri a
def asi:AX afW:=fun a=>bq [(3,az [iO 3 .di,iI 4] (fun _=>ab4 a) (abF a))]
def ard:HH:=hF afW func55 [ajT] asi fun(a:List dR) hp hb=>by
 have cJ:L9 a.length:=eD (hb _ m0)
 have bP:nN a<=4294967296:=hp _ m0
 clear hp hb
 apply vE (HU ik bt a fun y=>Lf [.one (.sl .di y)] [.one (.sl .di a)])
 exact jw bP (aO _)
def afJ:=bE (α:=(List dR)×(List dR)) (qC (qL .di) (q1 (qL .di))) [.ro,.ro] (fun _=>[]) (fun(a,b)=>⟨[dO (decide (a=b))],[],[]⟩)
def abY(a:List dR)(b:List dR):Int×Unit->Prop:=Fl a b
def abz(a:List dR)(b:List dR):Int×Unit->Nat:=EV a
def ar7:AX afJ:=fun(a,b)=>bq [(4,az [iI 5] (fun _=>abY a b) (abz a b))]
def aqY:HH:=hF afJ func76 [ajs] ar7 fun x hp hb=>by
 obtain⟨a,b⟩:=x
 have cJ:L9 a.length:=eD (hb _ m0)
 have nj:L9 b.length:=eD (hb _ m1)
 clear hp hb
 apply vE (GO bt a b)
 exact jL cJ
def aqC:=bE (α:=df×Int) (qC (qA .tu) (q1 qI)) [.ro,.ro] (fun(a,left)=>[0<=left]) (fun(a,left)=>⟨[dI (dh left (iQ a))],[],[]⟩)
def arR:HH:=hF aqC func14 [arA,arz] a0 fun x hp hb=>by
 obtain⟨a,left⟩:=x
 have aG:=Mh (x:=a) (hb _ m0)
 have tF:=aG.1
 have nk:=aG.2
 have bB:=mL (n:=left) (hb _ m1)
 have bP:0<=left:=hp _ m0
 clear hp hb
 apply vE (let x0:=dh (dh left (jB a.ab)) (nN a.af);let q0:=dh left (iQ a);0<=left/\bif decide (dh left (jB a.ab)<0) then Li (-1) q0 else 0<=dh left (jB a.ab)/\bif decide (x0<0) then Li (-1) q0 else Li x0 q0)
 dsimp only
 refine⟨by omega,ae (fun h=>cG (bu ?_)) (fun h=> ?_)⟩
 ·have h:=cY h;simp only[iQ];omega
 obtain⟨e0,h0⟩:=cN h
 rw[e0]
 refine⟨by omega,ae (fun h=>cG (bu ?_)) (fun h=> ?_)⟩
 ·have h:=cY h;simp only[iQ];omega
 obtain⟨e1,h1⟩:=cN h
 rw[e1]
 exact cG (by rw[<-eY (by simp only[iQ];omega)];simp only[iQ];try omega)
def aqz:=bE (α:=df) (q1 (qA .tu)) [.ro] (fun a=>[L4 (iQ a)]) (fun a=>⟨[dA .jU a],[],[]⟩)
def arM:HH:=hF aqz func19 [arf,ard] a0 fun(a:df) hp hb=>by
 have aG:=Mh (x:=a) (hb _ m0)
 have tF:=aG.1
 have nk:=aG.2
 have bP:iQ a<=4294967296:=hp _ m0
 clear hp hb
 apply vE (jB a.ab<=4294967296/\L4 (nN a.af)/\Lf [DV.agg [CL .cD a.ab,CL .di a.af]] [DV.agg [CL .cD a.ab,CL .di a.af]])
 simp only[iQ] at bP
 repeat' (first|exact aO _|(refine And.intro (by omega) ?_))
def aqv:=bE (α:=df×df) (qC (qA .jU) (q1 (qA .jU))) [.ro,.ro] (fun _=>[]) (fun(a,b)=>⟨[dO (decide (a=b))],[],[]⟩)
def arH:HH:=hF aqv func24 [aqZ,aqY] a0 fun x hp hb=>by
 obtain⟨a,b⟩:=x
 have aG:=p6 (x:=a) (hb _ m0)
 have tF:=aG.1
 have nk:=aG.2
 have cr:=p6 (x:=b) (hb _ m1)
 have IT:=cr.1
 have Dd:=cr.2
 clear hp hb
 apply vE (bif !decide (a.ab=b.ab) then Lb false (decide (a=b)) else bif !decide (a.af=b.af) then Lb false (decide (a=b)) else Lb true (decide (a=b)))
 obtain⟨alP,abu⟩:=a
 obtain⟨alL,abq⟩:=b
 repeat' (apply ae<;>intro _)
 all_goals (first|apply lQ|apply ju)<;>simp_all
def aqD:=bE (α:=eQ×Int) (qC (qA .nR) (q1 qI)) [.ro,.ro] (fun(a,left)=>[0<=left]) (fun(a,left)=>⟨[dI (dh left (eH a))],[],[]⟩)
def arS:HH:=hF aqD func13 [arF,arE,arD,arC,arB] a0 fun x hp hb=>by
 obtain⟨a,left⟩:=x
 have aG:=Jt (x:=a) (hb _ m0)
 have wR:=aG.1
 have Dj:=aG.2.1
 have Dg:=aG.2.2.1
 have zP:=aG.2.2.2.1
 have Df:=aG.2.2.2.2
 have bB:=mL (n:=left) (hb _ m1)
 have bP:0<=left:=hp _ m0
 clear hp hb
 apply vE (let x2:=dh (dh left (fC a.S)) (jA a.dc);let x1:=dh x2 (lr a.fW);let x0:=dh x1 (jz a.fy);let q0:=Li (-1) (dh left (eH a));0<=left/\bif decide (dh left (fC a.S)<0) then q0 else 0<=dh left (fC a.S)/\bif decide (x2<0) then q0 else 0<=x2/\bif decide (x1<0) then q0 else 0<=x1/\bif decide (x0<0) then q0 else 0<=x0/\bif decide (dh x0 (jQ a.gZ)<0) then q0 else Li (dh x0 (jQ a.gZ)) (dh left (eH a)))
 dsimp only
 refine⟨by omega,ae (fun h=>cG (bu ?_)) (fun h=> ?_)⟩
 ·have h:=cY h;simp only[eH];omega
 obtain⟨e0,h0⟩:=cN h
 rw[e0]
 refine⟨by omega,ae (fun h=>cG (bu ?_)) (fun h=> ?_)⟩
 ·have h:=cY h;simp only[eH];omega
 obtain⟨e1,h1⟩:=cN h
 rw[e1]
 refine⟨by omega,ae (fun h=>cG (bu ?_)) (fun h=> ?_)⟩
 ·have h:=cY h;simp only[eH];omega
 obtain⟨e2,h2⟩:=cN h
 rw[e2]
 refine⟨by omega,ae (fun h=>cG (bu ?_)) (fun h=> ?_)⟩
 ·have h:=cY h;simp only[eH];omega
 obtain⟨e3,h3⟩:=cN h
 rw[e3]
 refine⟨by omega,ae (fun h=>cG (bu ?_)) (fun h=> ?_)⟩
 ·have h:=cY h;simp only[eH];omega
 obtain⟨e4,h4⟩:=cN h
 rw[e4]
 exact cG (by rw[<-eY (by simp only[eH];omega)];simp only[eH];try omega)
def aqA:=bE (α:=eQ) (q1 (qA .nR)) [.ro] (fun a=>[L4 (eH a)]) (fun a=>⟨[dA .jb a],[],[]⟩)
def arN:HH:=hF aqA func18 [arl,ark,arj,ari,arh] a0 fun(a:eQ) hp hb=>by
 have aG:=Jt (x:=a) (hb _ m0)
 have wR:=aG.1
 have Dj:=aG.2.1
 have Dg:=aG.2.2.1
 have zP:=aG.2.2.2.1
 have Df:=aG.2.2.2.2
 have bP:eH a<=4294967296:=hp _ m0
 clear hp hb
 apply vE (fC a.S<=4294967296/\L4 (jA a.dc)/\L4 (lr a.fW)/\L4 (jz a.fy)/\L4 (jQ a.gZ)/\Lf [DV.agg (uj a)] [DV.agg (uj a)])
 simp only[eH] at bP
 repeat' (first|exact aO _|(refine And.intro (by omega) ?_))
def aqw:=bE (α:=eQ×eQ) (qC (qA .jb) (q1 (qA .jb))) [.ro,.ro] (fun _=>[]) (fun(a,b)=>⟨[dO (decide (a=b))],[],[]⟩)
def arI:HH:=hF aqw func23 [aq4,aq3,aq2,aq1,aq0] a0 fun x hp hb=>by
 obtain⟨a,b⟩:=x
 have aG:=re (x:=a) (hb _ m0)
 have wR:=aG.1
 have Dj:=aG.2.1
 have Dg:=aG.2.2.1
 have zP:=aG.2.2.2.1
 have Df:=aG.2.2.2.2
 have cr:=re (x:=b) (hb _ m1)
 have TO:=cr.1
 have aaO:=cr.2.1
 have aaL:=cr.2.2.1
 have VV:=cr.2.2.2.1
 have aaK:=cr.2.2.2.2
 clear hp hb
 apply vE (let q0:=Lb false (decide (a=b));bif !decide (a.S=b.S) then q0 else bif !decide (a.dc=b.dc) then q0 else bif !decide (a.fW=b.fW) then q0 else bif !decide (a.fy=b.fy) then q0 else bif !decide (a.gZ=b.gZ) then q0 else bif a.State !=b.State then q0 else bif a.JV !=b.JV then q0 else Lb true (decide (a=b)))
 dsimp only
 obtain⟨aS,ap4,ap1,alM,apZ,abt,att⟩:=a
 obtain⟨bS,apU,apR,alI,apP,abp,ato⟩:=b
 repeat' (apply ae<;>intro _)
 all_goals (first|apply lQ|apply ju)<;>simp_all
def Zk5:=bE (α:=pG×Int) (qC (qA .qf) (q1 qI)) [.ro,.ro] (fun(a,left)=>[0<=left]) (fun(a,left)=>⟨[dI (dh left (jl a))],[],[]⟩)
def Zh5:HH:=hF Zk5 func5 [arS,arR] a0 fun x hp hb=>by
 obtain⟨a,left⟩:=x
 have aG:=GV (x:=a) (hb _ m0)
 have tC:=aG.1
 have wQ:=aG.2.1
 have wP:=aG.2.2.1
 have vk:=aG.2.2.2.1
 have wO:=aG.2.2.2.2.1
 have vl:=aG.2.2.2.2.2.1
 have wS:=aG.2.2.2.2.2.2
 have bB:=mL (n:=left) (hb _ m1)
 have bP:0<=left:=hp _ m0
 clear hp hb
 apply vE (let x0:=dh (dh left (eH a.X)) (iQ a.M);let q0:=dh left (jl a);0<=left/\bif decide (dh left (eH a.X)<0) then Li (-1) q0 else 0<=dh left (eH a.X)/\bif decide (x0<0) then Li (-1) q0 else Li x0 q0)
 dsimp only
 refine⟨by omega,ae (fun h=>cG (bu ?_)) (fun h=> ?_)⟩
 ·have h:=cY h;simp only[jl];omega
 obtain⟨e0,h0⟩:=cN h
 rw[e0]
 refine⟨by omega,ae (fun h=>cG (bu ?_)) (fun h=> ?_)⟩
 ·have h:=cY h;simp only[jl];omega
 obtain⟨e1,h1⟩:=cN h
 rw[e1]
 exact cG (by rw[<-eY (by simp only[jl];omega)];simp only[jl];try omega)
def Zk8:=bE (α:=pG) (q1 (qA .qf)) [.ro] (fun a=>[L4 (jl a)]) (fun a=>⟨[dA .ra a],[],[]⟩)
def Zh8:HH:=hF Zk8 func8 [arN,arM] a0 fun(a:pG) hp hb=>by
 have aG:=GV (x:=a) (hb _ m0)
 have tC:=aG.1
 have wQ:=aG.2.1
 have wP:=aG.2.2.1
 have vk:=aG.2.2.2.1
 have wO:=aG.2.2.2.2.1
 have vl:=aG.2.2.2.2.2.1
 have wS:=aG.2.2.2.2.2.2
 have bP:jl a<=4294967296:=hp _ m0
 clear hp hb
 apply vE (eH a.X<=4294967296/\L4 (iQ a.M)/\Lf [DV.agg (w6 a)] [DV.agg (w6 a)])
 simp only[jl] at bP
 repeat' (first|exact aO _|(refine And.intro (by omega) ?_))
def aqE:=bE (α:=pG×pG) (qC (qA .ra) (q1 (qA .ra))) [.ro,.ro] (fun _=>[]) (fun(a,b)=>⟨[dO (decide (a=b))],[],[]⟩)
def arU:HH:=hF aqE func11 [arI,arH] a0 fun x hp hb=>by
 obtain⟨a,b⟩:=x
 have aG:=AN (x:=a) (hb _ m0)
 have tC:=aG.1
 have wQ:=aG.2.1
 have wP:=aG.2.2.1
 have vk:=aG.2.2.2.1
 have wO:=aG.2.2.2.2.1
 have vl:=aG.2.2.2.2.2.1
 have wS:=aG.2.2.2.2.2.2
 have cr:=AN (x:=b) (hb _ m1)
 have PZ:=cr.1
 have TN:=cr.2.1
 have TM:=cr.2.2.1
 have RH:=cr.2.2.2.1
 have TL:=cr.2.2.2.2.1
 have RI:=cr.2.2.2.2.2.1
 have TP:=cr.2.2.2.2.2.2
 clear hp hb
 apply vE (bif !decide (a.X=b.X) then Lb false (decide (a=b)) else bif !decide (a.M=b.M) then Lb false (decide (a=b)) else Lb true (decide (a=b)))
 obtain⟨aX,aM⟩:=a
 obtain⟨bX,bM⟩:=b
 repeat' (apply ae<;>intro _)
 all_goals (first|apply lQ|apply ju)<;>simp_all
theorem Dy{d:bY}{s:List bW}{m:cW}(h1:rH d m=true)(h2:m.lJ.length=0)(h3:m.b9.length=eE (d.af.getD m.jW.toNat aP).ai):lj d s m=m.b9.all (j8 s):=by
 simp only[lj,h1,decide_eq_true h2,decide_eq_true h3,Av]
theorem GQ(x:eQ):aj x.S.aa<=eH x:=by
 simp only[eH,fC];omega
theorem Dt{d:bY}{m:cW}(h:rH d m=true):0<=m.jW/\m.jW<(d.af.length:Int):=by
 simpa[rH] using h
theorem EY{d:bY}{m:cW}(h:rH d m=true):eE (d.af.getD m.jW.toNat aP).ai<=bo d:=by
 obtain⟨h1,h2⟩:=Dt h
 have hs:=iF dG d.af aP h1 h2
 have hle:eE (d.af.getD m.jW.toNat aP).ai<=(d.af.getD m.jW.toNat aP).ai.length:=Lo _ _
 simp only[dG,gD] at hs
 simp only[bo,ee,dG,gD];omega
def ap7:=bE (α:=bY×cW) (qC (qA .jc) (q1 (qA .dB))) [.ro,.ro] (fun _=>[]) (fun(d,m)=>⟨[dO (rH d m)],[],[]⟩)
def aqI:HH:=hF ap7 func95 [] a0 fun x hp hb=>by
 obtain⟨d,m⟩:=x
 clear hp hb
 apply vE (bif decide (m.jW≥0) then Lb (decide (m.jW<(d.af.length:Int))) (rH d m) else Lb false (rH d m))
 simp only[rH]
 refine aE (fun h=>cx ?_) (fun h=>cx ?_)
 ·rw[decide_eq_true (show 0<=m.jW from h),Av]
 ·rw[decide_eq_false (show¬0<=m.jW from h),mD]
def ahr:=bE (α:=bY×cW) (qC (qA .jc) (q1 (qA .dB))) [.ro,.ro] (fun _=>[]) (fun(d,m)=>⟨[dO (rH d m)],[],[]⟩)
def ajL:HH:=hF ahr func124 [] a0 fun x hp hb=>by
 obtain⟨d,m⟩:=x
 clear hp hb
 apply vE (bif decide (m.jW≥0) then Lb (decide (m.jW<(d.af.length:Int))) (rH d m) else Lb false (rH d m))
 simp only[rH]
 refine aE (fun h=>cx ?_) (fun h=>cx ?_)
 ·rw[decide_eq_true (show 0<=m.jW from h),Av]
 ·rw[decide_eq_false (show¬0<=m.jW from h),mD]
def af8:=bE (α:=bY×eQ) (qC (qA .jc) (q1 (qA .jb))) [.ro,.ro] (fun(d,x)=>[bo d<=4294967295,L4 (aj x.S.aa)]) (fun(d,x)=>⟨[dO (io d x)],[],[]⟩)
def HF(d:bY)(x:eQ):Int×T7×T8×Unit->Prop:=fun(i,b,g,_)=>b=(d.Name,d.af,())/\g=(x.S.aa,x.S.Next,x.dc,x.fW,x.fy,x.gZ,x.State,x.JV,())/\0<=i/\i<=x.dc.length/\(x.dc.drop i.toNat).all (lj d x.S.aa)=x.dc.all (lj d x.S.aa)
def Hf(d:bY)(x:eQ):Int×T7×T8×Unit->Nat:=fun(i,b,g,_)=>x.dc.length-i.toNat
def HE(d:bY)(x:eQ):Int×Int×T7×T8×T23×Unit->Int×Int×T7×T8×T23×Unit->Prop:=fun(i0,k0,b0,g0,m0,_) (i,k,b,g,m,_)=>i=i0/\b=b0/\g=g0/\m=m0/\0<=k/\k<=(x.dc.getD i.toNat dU).b9.length/\((x.dc.getD i.toNat dU).b9.drop k.toNat).all (j8 x.S.aa)=(x.dc.getD i.toNat dU).b9.all (j8 x.S.aa)
def He(d:bY)(x:eQ):Int×Int×T7×T8×T23×Unit->Nat:=fun(i,k,b,g,m,_)=>(x.dc.getD i.toNat dU).b9.length-k.toNat
def asv:AX af8:=fun(d,x)=>bq [(2,az [iI 5,.box 2 (2,1024) [.lit .str,.shr .cw],.box 3 (3,1024) [.shr .cg,.lit (.int .i64),.shr .dB,.shr .dJ,.shr .dq,.shr .eO,.lit (.int .i64),.lit (.int .i64)]] (fun _=>HF d x) (Hf d x)),(8,az [iI 5,iI 7,.box 2 (2,1024) [.lit .str,.shr .cw],.box 3 (3,1024) [.shr .cg,.lit (.int .i64),.shr .dB,.shr .dJ,.shr .dq,.shr .eO,.lit (.int .i64),.lit (.int .i64)],.box 6 (6,1024) [.lit (.int .i64),.shr .int,.shr .b8]] (HE d x) (He d x))]
def arv:HH:=hF af8 func39 [aqI,acj,aci] asv fun x hp hb=>by
 obtain⟨d,x⟩:=x
 have aG:=gO (x:=d) (hb _ m0)
 have fj:=aG.1
 have ez:=aG.2
 have cr:=re (x:=x) (hb _ m1)
 have rF:=cr.1
 have vK:=cr.2.1
 have vJ:=cr.2.2.1
 have tx:=cr.2.2.2.1
 have vI:=cr.2.2.2.2
 have bP:bo d<=4294967295:=hp _ m0
 have jv:aj x.S.aa<=4294967296:=hp _ m1
 clear hp hb
 apply vE (let q0:=List bW×Int×List cW×List ck×List cn×List de×Int×Int×PUnit;let q1:=Lb false (io d x);HF d x (0,(d.Name,d.af,()),(x.S.aa,x.S.Next,x.dc,x.fW,x.fy,x.gZ,x.State,x.JV,()),())/\∀(y:Int×JT×q0×PUnit),let x0:=y.2.2.1.2.2.1.getD y.1.toNat dU;let x2:=y.2.2.1.2.2.1.length;let x1:=(↑x2:Int);let q2:=(y.1,0,y.2.1,y.2.2.1,(x0.jW,x0.b9,x0.lJ,()),());HF d x y->bif decide (y.1<x1) then 0<=y.1/\y.1.toNat<x2/\bif !rH {Name:=y.2.1.1,af:=y.2.1.2.1:bY} x0 then q1 else bif (x0.lJ.length:Int) !=0 then q1 else 0<=x0.jW/\x0.jW.toNat<y.2.1.2.1.length/\bif (x0.b9.length:Int) !=(↑(eE (y.2.1.2.1.getD x0.jW.toNat aP).ai):Int) then q1 else HE d x q2 q2/\∀(av:Int×Int×JT×q0×(Int×List Int×List aW×PUnit)×PUnit),let x4:=av.2.2.2.2.1.2.1.length;let x5:=av.2.1.toNat;let x3:=(↑x4:Int);let q3:=(wrap i64 (av.1+1),av.2.2.1,av.2.2.2.1,());let q4:=(av.1,wrap i64 (av.2.1+1),av.2.2);HE d x q2 av->bif decide (av.2.1<x3) then 0<=av.2.1/\x5<x4/\L4 (aj av.2.2.2.1.1)/\bif !j8 av.2.2.2.1.1 (av.2.2.2.2.1.2.1.getD x5 0) then q1 else HE d x q2 q4/\He d x q4<He d x av else HF d x q3/\Hf d x q3<Hf d x y else Lb (decide (x1<=1000)) (io d x))
 dsimp only
 refine⟨⟨rfl,rfl,by omega,by omega,rfl⟩,?_⟩
 rintro⟨i,⟨b1,b2,⟨⟩⟩,⟨g1,g2,g3,g4,g5,g6,g7,g8,⟨⟩⟩,⟨⟩⟩ ⟨hb,hg,h1,h2,hR⟩
 cases hb
 cases hg
 simp only
 refine aE ?_ ?_<;>intro hc
 ·rw[eu _ _ dU h1 hc] at hR
  have hN:lj d x.S.aa (x.dc.getD i.toNat dU)=false->io d x=false:=fun h=>by simp only[io,<-hR,h,mD,qq]
  refine⟨by omega,by omega,bT (fun a=>aQ (hN ?_)) (fun a=>bT (fun b=>aQ (hN ?_)) (fun b=> ?_))⟩
  ·have a:rH d (x.dc.getD i.toNat dU)=false:=a
   simp only[lj,a,mD]
  ·have b:¬(x.dc.getD i.toNat dU).lJ.length=0:=by simpa using b
   simp only[lj,decide_eq_false b,mD,qq]
  have a:rH d (x.dc.getD i.toNat dU)=true:=a
  have b:(x.dc.getD i.toNat dU).lJ.length=0:=by simpa using b
  obtain⟨r1,r2⟩:=Dt a
  have hz:=EY a
  refine⟨r1,by omega,bT (fun c=>aQ (hN ?_)) (fun c=>⟨⟨rfl,rfl,rfl,rfl,by omega,by omega,rfl⟩,?_⟩)⟩
  ·have c:¬(x.dc.getD i.toNat dU).b9.length=eE (d.af.getD (x.dc.getD i.toNat dU).jW.toNat aP).ai:=fun e=>by rw[e] at c;simp at c
   simp only[lj,decide_eq_false c,mD,qq]
  have c:(x.dc.getD i.toNat dU).b9.length=eE (d.af.getD (x.dc.getD i.toNat dU).jW.toNat aP).ai:=by
   have c:=eq_of_beq c
   omega
  have hM:=Dy (s:=x.S.aa) a b c
  rintro⟨i',k,⟨b1,b2,⟨⟩⟩,⟨g1,g2,g3,g4,g5,g6,g7,g8,⟨⟩⟩,⟨m1,m2,m3,⟨⟩⟩,⟨⟩⟩ ⟨rfl,hb,hg,hm,k1,k2,kR⟩
  cases hb
  cases hg
  cases hm
  simp only
  refine aE ?_ ?_<;>intro hk
  ·rw[eu _ _ 0 k1 hk] at kR
   rw[wi (n:=k+1)]
   exact⟨by omega,by omega,jv,bT (fun e=>aQ (hN (by rw[hM,<-kR,e,mD]))) (fun e=>⟨⟨rfl,rfl,rfl,rfl,by omega,by omega,by rw[<-kR,e,Av]⟩,by simp only[He];omega⟩)⟩
  ·rw[bU _ (by omega)] at kR
   rw[wi (n:=i'+1)]
   exact⟨⟨rfl,rfl,by omega,by omega,by rw[<-hR,hM,<-kR];rfl⟩,by simp only[Hf];omega⟩
 ·rw[bU _ (by omega)] at hR
  refine cx ?_
  simp only[io,<-hR,X0,N5];exact decide_eq_decide.2 (by omega)
def afQ:=bE (α:=bY×eQ) (qC (qA .jc) (q1 (qA .jb))) [.ro,.ro] (fun(d,x)=>[bo d<=4294967295,L4 (aj x.S.aa)]) (fun(d,x)=>⟨[dO (io d x)],[],[]⟩)
def Ht(d:bY)(x:eQ):Int×T7×T8×Unit->Prop:=fun(i,b,g,_)=>b=(d.Name,d.af,())/\g=(x.S.aa,x.S.Next,x.dc,x.fW,x.fy,x.gZ,x.State,x.JV,())/\x.dc.length<=1000/\0<=i/\i<=x.dc.length/\(x.dc.drop i.toNat).all (lj d x.S.aa)=x.dc.all (lj d x.S.aa)
def G7(d:bY)(x:eQ):Int×T7×T8×Unit->Nat:=fun(i,b,g,_)=>x.dc.length-i.toNat
def Hs(d:bY)(x:eQ):Int×Int×T7×T8×Unit->Int×Int×T7×T8×Unit->Prop:=fun(i0,k0,b0,g0,_) (i,k,b,g,_)=>i=i0/\b=b0/\g=g0/\0<=k/\k<=(x.dc.getD i.toNat dU).b9.length/\((x.dc.getD i.toNat dU).b9.drop k.toNat).all (j8 x.S.aa)=(x.dc.getD i.toNat dU).b9.all (j8 x.S.aa)
def G6(d:bY)(x:eQ):Int×Int×T7×T8×Unit->Nat:=fun(i,k,b,g,_)=>(x.dc.getD i.toNat dU).b9.length-k.toNat
def asc:AX afQ:=fun(d,x)=>bq [(4,az [iI 18,.box 2 (2,1024) [.lit .str,.shr .cw],.box 3 (3,1024) [.shr .cg,.lit (.int .i64),.shr .dB,.shr .dJ,.shr .dq,.shr .eO,.lit (.int .i64),.lit (.int .i64)]] (fun _=>Ht d x) (G7 d x)),(9,az [iI 18,iI 48,.box 2 (2,1024) [.lit .str,.shr .cw],.box 3 (3,1024) [.shr .cg,.lit (.int .i64),.shr .dB,.shr .dJ,.shr .dq,.shr .eO,.lit (.int .i64),.lit (.int .i64)]] (Hs d x) (G6 d x))]
def aq_:HH:=hF afQ func63 [ajL,Rb,MD] asc fun x hp hb=>by
 obtain⟨d,x⟩:=x
 have aG:=gO (x:=d) (hb _ m0)
 have fj:=aG.1
 have ez:=aG.2
 have cr:=re (x:=x) (hb _ m1)
 have rF:=cr.1
 have vK:=cr.2.1
 have vJ:=cr.2.2.1
 have tx:=cr.2.2.2.1
 have vI:=cr.2.2.2.2
 have bP:bo d<=4294967295:=hp _ m0
 have jv:aj x.S.aa<=4294967296:=hp _ m1
 clear hp hb
 apply vE (let x0:=(x.dc.length:Int);let q0:=List bW×Int×List cW×List ck×List cn×List de×Int×Int×PUnit;let q1:=Lb false (io d x);bif decide (x0>1000) then q1 else Ht d x (0,(d.Name,d.af,()),(x.S.aa,x.S.Next,x.dc,x.fW,x.fy,x.gZ,x.State,x.JV,()),())/\∀(y:Int×JT×q0×PUnit),let x2:=x.dc.getD y.1.toNat dU;let x1:=(x2.b9.length:Int);let q2:=(y.1,0,y.2);Ht d x y->bif decide (y.1<x0) then 0<=y.1/\y.1.toNat<x.dc.length/\bif !rH {Name:=y.2.1.1,af:=y.2.1.2.1:bY} x2 then q1 else bif (x2.lJ.length:Int) !=0 then q1 else 0<=x2.jW/\x2.jW.toNat<y.2.1.2.1.length/\bif x1 !=(↑(eE (y.2.1.2.1.getD x2.jW.toNat aP).ai):Int) then q1 else Hs d x q2 q2/\∀(av:Int×Int×JT×q0×PUnit),let x3:=av.2.1.toNat;let q3:=(av.1,wrap i64 (av.2.1+1),av.2.2);let q4:=(wrap i64 (av.1+1),av.2.2);Hs d x q2 av->bif decide (av.2.1<x1) then 0<=av.2.1/\x3<x2.b9.length/\L4 (aj av.2.2.2.1.1)/\bif !j8 av.2.2.2.1.1 (x2.b9.getD x3 0) then q1 else Hs d x q2 q3/\G6 d x q3<G6 d x av else Ht d x q4/\G7 d x q4<G7 d x y else Lb true (io d x))
 dsimp only
 refine aE (fun a=>aQ ?_) (fun a=>⟨⟨rfl,rfl,by omega,by omega,by omega,rfl⟩,?_⟩)
 ·simp only[io];rw[decide_eq_false (p:=x.dc.length<=1000) (by omega),mD]
 rintro⟨i,⟨b1,b2,⟨⟩⟩,⟨g1,g2,g3,g4,g5,g6,g7,g8,⟨⟩⟩,⟨⟩⟩ ⟨hb,hg,a0,h1,h2,hR⟩
 cases hb
 cases hg
 simp only
 refine aE ?_ ?_<;>intro hc
 ·rw[eu _ _ dU h1 hc] at hR
  have hN:lj d x.S.aa (x.dc.getD i.toNat dU)=false->io d x=false:=fun h=>by simp only[io,<-hR,h,mD,qq]
  refine⟨by omega,by omega,bT (fun a=>aQ (hN ?_)) (fun a=>bT (fun b=>aQ (hN ?_)) (fun b=> ?_))⟩
  ·have a:rH d (x.dc.getD i.toNat dU)=false:=a
   simp only[lj,a,mD]
  ·have b:¬(x.dc.getD i.toNat dU).lJ.length=0:=by simpa using b
   simp only[lj,decide_eq_false b,mD,qq]
  have a:rH d (x.dc.getD i.toNat dU)=true:=a
  have b:(x.dc.getD i.toNat dU).lJ.length=0:=by simpa using b
  obtain⟨r1,r2⟩:=Dt a
  have hz:=EY a
  refine⟨r1,by omega,bT (fun c=>aQ (hN ?_)) (fun c=>⟨⟨rfl,rfl,rfl,by omega,by omega,rfl⟩,?_⟩)⟩
  ·have c:¬(x.dc.getD i.toNat dU).b9.length=eE (d.af.getD (x.dc.getD i.toNat dU).jW.toNat aP).ai:=fun e=>by rw[e] at c;simp at c
   simp only[lj,decide_eq_false c,mD,qq]
  have c:(x.dc.getD i.toNat dU).b9.length=eE (d.af.getD (x.dc.getD i.toNat dU).jW.toNat aP).ai:=by
   have c:=eq_of_beq c
   omega
  have hM:=Dy (s:=x.S.aa) a b c
  rintro⟨i',k,⟨b1,b2,⟨⟩⟩,⟨g1,g2,g3,g4,g5,g6,g7,g8,⟨⟩⟩,⟨⟩⟩ ⟨rfl,hb,hg,k1,k2,kR⟩
  cases hb
  cases hg
  simp only
  refine aE ?_ ?_<;>intro hk
  ·rw[eu _ _ 0 k1 hk] at kR
   rw[wi (n:=k+1)]
   exact⟨by omega,by omega,jv,bT (fun e=>aQ (hN (by rw[hM,<-kR,e,mD]))) (fun e=>⟨⟨rfl,rfl,rfl,by omega,by omega,by rw[<-kR,e,Av]⟩,by simp only[G6];omega⟩)⟩
  ·rw[bU _ (by omega)] at kR
   rw[wi (n:=i'+1)]
   exact⟨⟨rfl,rfl,a0,by omega,by omega,by rw[<-hR,hM,<-kR];rfl⟩,by simp only[G7];omega⟩
 ·rw[bU _ (by omega)] at hR
  refine jN ?_
  simp only[io,<-hR,decide_eq_true a0];rfl
def aqk:=bE (α:=(List ck)×(List (DA UU)->Option Value)) (qC (qL .dJ) (q1 qF)) [.ro,.ro] (fun(l,p)=>[∀j:Nat,j<l.length->p [eK (l.getD j cK)]=some (.bool (aH (p [eK (l.getD j cK)])))]) (fun(l,p)=>⟨[dO (anyI l.length (fun j=>aH (p [eK (l.getD j cK)])))],[],[]⟩)
def aq9:HH:=hF aqk func65 [XV] a0 fun x hp hb=>by
 obtain⟨l,p⟩:=x
 have bP:∀j:Nat,j<l.length->p [eK (l.getD j cK)]=some (.bool (aH (p [eK (l.getD j cK)]))):=hp _ m0
 clear hp hb
 apply vE (let x0:=kj (l.length) fun(j:Nat)=>aH (p [eK (l.getD j cK)]);(∀(j:Nat),j<l.length->p [eK (l.getD j cK)]=some (Value.bool (aH (p [eK (l.getD j cK)]))))/\Lb (decide (x0≥0)) (anyI (l.length) fun(j:Nat)=>aH (p [eK (l.getD j cK)])))
 dsimp only
 exact⟨bP,cx (by rw[<-Gp])⟩
def af7:=bE (α:=List ck) (q1 (qL .dJ)) [.ro] (fun _=>[]) (fun l=>⟨[dO (zO l)],[],[]⟩)
def HD(l:List ck):Int×Unit->Prop:=fun(i,_)=>0<=i/\i<=l.length/\∀j:Nat,(j:Int)<i->ob (l.getD j cK)=false
def Hd(l:List ck):Int×Unit->Nat:=fun(i,_)=>l.length-i.toNat
def asu:AX af7:=fun l=>bq [(2,az [iI 3] (fun _=>HD l) (Hd l))]
def art:HH:=hF af7 func41 [] asu fun(l:List ck) hp hb=>by
 have nV:L9 l.length:=eD (hb _ m0)
 clear hp hb
 apply vE (HD l (0,())/\∀(y:Int×PUnit),let q0:=(wrap i64 (y.1+1),());HD l y->bif decide (y.1<(l.length:Int)) then 0<=y.1/\y.1.toNat<l.length/\bif (l.getD y.1.toNat cK).State==1 then Lb true (zO l) else 0<=y.1/\y.1.toNat<l.length/\bif (l.getD y.1.toNat cK).State==2 then Lb true (zO l) else HD l q0/\Hd l q0<Hd l y else Lb false (zO l))
 dsimp only
 refine⟨⟨by omega,by omega,by intro j hj;omega⟩,?_⟩
 rintro⟨i,⟨⟩⟩ ⟨h1,h2,hR⟩
 simp only
 refine aE ?_ ?_<;>intro hc
 ·rw[wi]
  have hY:ob (l.getD i.toNat cK)=true->zO l=true:=fun h=>jV (j:=i.toNat) (by omega) h
  refine⟨by omega,by omega,mn (fun h=>jN (hY (by simp only[ob];grind))) (fun h=>⟨by omega,by omega,mn (fun g=>jN (hY (by simp only[ob];grind))) (fun g=>⟨⟨by omega,by omega,kI (p:=fun j=>ob (l.getD j cK)) h1 hR (by simp only[ob];grind)⟩,by simp only[Hd];omega⟩)⟩)⟩
 ·exact aQ (hZ fun j hj=>hR j (by omega))
def aqq:=bE (α:=eQ) (q1 (qA .jb)) [.ro] (fun _=>[]) (fun x=>⟨[dO (oG x)],[],[]⟩)
def ars:HH:=hF aqq func42 [] a0 fun(x:eQ) hp hb=>by
 clear hp hb
 apply vE (bif x.State==3 then Lb true (oG x) else Lb (x.State==5) (oG x))
 simp only[oG]
 refine mn (fun h=>cx ?_) (fun h=>cx ?_)
 ·rw[decide_eq_true h,Bool.true_or]
 ·rw[decide_eq_false h,JY]
  rw[HT];simp
def aqB:=bE (α:=bY×eQ) (qC (qA .jc) (q1 (qA .jb))) [.ro,.ro] (fun(d,x)=>[bo d<=4294967295,L4 (aj x.S.aa)]) (fun(d,x)=>⟨[dO (instOk d x)],[],[]⟩)
def arQ:HH:=hF aqB func15 [ahM,ahL,ary,arx,arw,tU,arv,aru,art,ars] a0 fun x hp hb=>by
 obtain⟨d,x⟩:=x
 have aG:=gO (x:=d) (hb _ m0)
 have fj:=aG.1
 have ez:=aG.2
 have cr:=re (x:=x) (hb _ m1)
 have rF:=cr.1
 have vK:=cr.2.1
 have vJ:=cr.2.2.1
 have tx:=cr.2.2.2.1
 have vI:=cr.2.2.2.2
 have bP:bo d<=4294967295:=hp _ m0
 have jv:aj x.S.aa<=4294967296:=hp _ m1
 clear hp hb
 apply vE (let q0:=Lb false (instOk d x);let q1:=bif !oG x then Lb true (instOk d x) else Lb (decide ((x.gZ.length:Int)>0)) (instOk d x);bo d<=4294967295/\bif !gJ d then q0 else bif !eB x.S then q0 else bif !gU x.fW then q0 else bif !fN x.fy then q0 else bif !ij x.gZ then q0 else bif !decide (1<=x.State/\x.State<=6) then q0 else bif !decide (0<=x.JV/\x.JV<=1000000000) then q0 else bo d<=4294967295/\L4 (aj x.S.aa)/\bif !io d x then q0 else bif decide (x.State=2\/x.State=4\/x.State=6) then bif zO x.fW then q0 else bif decide ((x.fy.length:Int)>0) then q0 else q1 else q1)
 dsimp only
 refine⟨bP,?_⟩
 have ht:decide ((x.fy.length:Int)>0)=decide (0<x.fy.length):=decide_eq_decide.2 (by omega)
 have hu:decide ((x.gZ.length:Int)>0)=decide (0<x.gZ.length):=decide_eq_decide.2 (by omega)
 simp only[instOk,K6,ht,hu]
 repeat' (first|refine And.intro jv ?_|refine And.intro bP (And.intro jv ?_)|refine ae (fun h=> ?_) (fun h=> ?_))
 all_goals (refine cx ?_;grind)
def aqy:=bE (α:=bY×eQ) (qC (qA .jc) (q1 (qA .jb))) [.ro,.ro] (fun(d,x)=>[bo d<=4294967295,L4 (aj x.S.aa)]) (fun(d,x)=>⟨[dO (instOk d x)],[],[]⟩)
def arL:HH:=hF aqy func20 [ahK,ahJ,arc,arb,ara,Ec,ahI,aq_,aq',aq9,aq8] a0 fun x hp hb=>by
 obtain⟨d,x⟩:=x
 have TZ:dT (U:=UU) (.agg [.lit (.string d.Name),.sl .cw d.af]):=hb _ m0
 have aG:=gO (x:=d) (hb _ m0)
 have fj:=aG.1
 have ez:=aG.2
 have Qn:dT (U:=UU) (.agg [.sl .cg x.S.aa,.lit (.int .i64 x.S.Next),.sl .dB x.dc,.sl .dJ x.fW,.sl .dq x.fy,.sl .eO x.gZ,.lit (.int .i64 x.State),.lit (.int .i64 x.JV)]):=hb _ m1
 have cr:=re (x:=x) (hb _ m1)
 have rF:=cr.1
 have vK:=cr.2.1
 have vJ:=cr.2.2.1
 have tx:=cr.2.2.2.1
 have vI:=cr.2.2.2.2
 have bP:bo d<=4294967295:=hp _ m0
 have jv:aj x.S.aa<=4294967296:=hp _ m1
 clear hp hb
 apply vE (let q0:=Lb false (instOk d x);let q1:=Lb (decide ((x.gZ.length:Int)>0)) (instOk d x);bif !gJ d then q0 else bif !eB x.S then q0 else bif !gU x.fW then q0 else bif !fN x.fy then q0 else bif !ij x.gZ then q0 else bif !decide (1<=x.State/\x.State<=6) then q0 else bif !decide (0<=x.JV/\x.JV<=1000000000) then q0 else bo d<=4294967295/\L4 (aj x.S.aa)/\bif !io d x then q0 else bif x.State==3 then q1 else bif x.State==5 then q1 else bif !decide (x.State=2\/x.State=4\/x.State=6) then Lb true (instOk d x) else bif (x.fy.length:Int)==0 then(∀(j:Nat),j<x.fW.length->dK Hl [] [eK (x.fW.getD j cK)]=some (Value.bool (aH (dK Hl [] [eK (x.fW.getD j cK)]))))/\Lb (!anyI (x.fW.length) fun(j:Nat)=>aH (dK Hl [] [eK (x.fW.getD j cK)])) (instOk d x) else q0)
 dsimp only
 have hc:∀t:ck,dK Hl [] [eK t]=some (.bool (ob t)):=fun t=>nY (x:=t) rfl rfl rfl rfl (by simp[Hl])
 have hl:(anyI x.fW.length fun j=>aH (dK Hl [] [eK (x.fW.getD j cK)]))=zO x.fW:=vX fun j hj=>by rw[hc];rfl
 have fa:∀j:Nat,j<x.fW.length->dK Hl [] [eK (x.fW.getD j cK)]=some (.bool (aH (dK Hl [] [eK (x.fW.getD j cK)]))):=fun j hj=>by rw[hc];rfl
 have ht:((x.fy.length:Int)==0)= !decide (0<x.fy.length):=by rw[HT];simp
 have hu:decide ((x.gZ.length:Int)>0)=decide (0<x.gZ.length):=decide_eq_decide.2 (by omega)
 have h3:(x.State==3)=decide (x.State=3):=by rw[HT];simp
 have h5:(x.State==5)=decide (x.State=5):=by rw[HT];simp
 simp only[instOk,K6,oG,ht,hu,h3,h5,hl]
 repeat' (first|refine And.intro fa ?_|refine And.intro bP (And.intro jv ?_)|refine And.intro jv ?_|refine ae (fun h=> ?_) (fun h=> ?_))
 all_goals (refine cx ?_;clear fa hc hl ht hu h3 h5 TZ Qn;grind)
theorem k_{a b:Int}{P Q:Prop}(h1:¬a=b->P)(h2:a=b->Q):bif a !=b then P else Q:=ae (fun h=>h1 (by simpa using h)) (fun h=>h2 (by simpa using h))
def hX:List aW->BA->cV×Bool
 |[],_=>(fL,false)
 |b::l,n=>if b.Name=n then(b.V,true) else hX l n
theorem Aa(l:List aW)(n:BA){i:Int}(h0:0<=i)(h:i<l.length):hX (l.drop i.toNat) n=if(l.getD i.toNat qw).Name=n then((l.getD i.toNat qw).V,true) else hX (l.drop (i+1).toNat) n:=by
 rw[cj l qw h0 h];rfl
def Wg:=bE (α:=(List aW)×BA) (qC (qL .b8) (q1 qS)) [.ro,.ro] (fun _=>[]) (fun(l,name)=>⟨[dA .bC ((hX l name).1),dO ((hX l name).2)],[],[]⟩)
def BL(l:List aW)(name:BA):Int×T21×Unit->Prop:=fun(i,r,_)=>r=(0,0,a_,())/\0<=i/\i<=l.length/\hX (l.drop i.toNat) name=hX l name
def AR(l:List aW)(name:BA):Int×T21×Unit->Nat:=fun(i,r,_)=>l.length-i.toNat
def aj7:AX Wg:=fun(l,name)=>bq [(2,az [iI 6,.box 4 (4,1024) [.lit (.int .i64),.lit (.int .i64),.lit .str]] (fun _=>BL l name) (AR l name))]
def ahO:HH:=hF Wg func305 [] aj7 fun x hp hb=>by
 obtain⟨l,name⟩:=x
 have nV:L9 l.length:=eD (hb _ m0)
 have GB:=RQ (s:=name) (hb _ m1)
 clear hp hb
 apply vE (let q0:=hX l name;BL l name (0,(0,0,{data:= #[]:BA},()),())/\∀(y:Int×T25×PUnit),let x0:=(l.getD y.1.toNat qw).V;let q1:=(wrap i64 (y.1+1),(y.2.1.1,y.2.1.2.1,y.2.1.2.2.1,()),());BL l name y->bif decide (y.1<(l.length:Int)) then 0<=y.1/\y.1.toNat<l.length/\bif (l.getD y.1.toNat qw).Name.toList==name.toList then 0<=y.1/\y.1.toNat<l.length/\Lf [DV.agg [CI x0.K,CI x0.N,CS x0.S],VB true] [DV.agg [CI (q0.1.K),CI (q0.1.N),CS (q0.1.S)],VB (q0.2)] else BL l name q1/\AR l name q1<AR l name y else Lf [DV.agg [CI 0,CI 0,CS ({data:= #[]:BA})],VB false] [DV.agg [CI (q0.1.K),CI (q0.1.N),CS (q0.1.S)],VB (q0.2)])
 dsimp only
 refine⟨⟨rfl,by omega,by omega,rfl⟩,?_⟩
 rintro⟨i,⟨r1,r2,r3,⟨⟩⟩,⟨⟩⟩ ⟨hr,h1,h2,hR⟩
 cases hr
 simp only
 refine aE ?_ ?_<;>intro hc
 ·rw[Aa l name h1 hc] at hR
  rw[bZ]
  refine⟨by omega,by omega,aE (fun g=> ?_) (fun g=> ?_)⟩
  ·rw[if_pos g] at hR;rw[<-hR];exact⟨by omega,by omega,aO _⟩
  ·rw[if_neg g] at hR;rw[wi];exact⟨⟨rfl,by omega,by omega,hR⟩,by simp only[AR];omega⟩
 ·have e:l.drop i.toNat=[]:=List.drop_eq_nil_of_le (by omega)
  rw[e] at hR;rw[<-hR];exact aO _
def Wm:=bE (α:=(List aW)×BA) (qC (qL .b8) (q1 qS)) [.ro,.ro] (fun _=>[]) (fun(l,name)=>⟨[dA .bC ((hX l name).1),dO ((hX l name).2)],[],[]⟩)
def BO(l:List aW)(name:BA):Int×T21×Unit->Prop:=fun(i,r,_)=>r=(0,0,a_,())/\0<=i/\i<=l.length/\hX (l.drop i.toNat) name=hX l name
def AS(l:List aW)(name:BA):Int×T21×Unit->Nat:=fun(i,r,_)=>l.length-i.toNat
def akc:AX Wm:=fun(l,name)=>bq [(2,az [iI 10,.box 4 (4,1024) [.lit (.int .i64),.lit (.int .i64),.lit .str]] (fun _=>BO l name) (AS l name))]
def ah2:HH:=hF Wm func285 [] akc fun x hp hb=>by
 obtain⟨l,name⟩:=x
 have nV:L9 l.length:=eD (hb _ m0)
 have GB:=RQ (s:=name) (hb _ m1)
 clear hp hb
 apply vE (let q0:=hX l name;BO l name (0,(0,0,{data:= #[]:BA},()),())/\∀(y:Int×T25×PUnit),let x0:=(l.getD y.1.toNat qw).V;let q1:=(wrap i64 (y.1+1),(y.2.1.1,y.2.1.2.1,y.2.1.2.2.1,()),());BO l name y->bif decide (y.1<(l.length:Int)) then 0<=y.1/\y.1.toNat<l.length/\bif (l.getD y.1.toNat qw).Name.toList==name.toList then Lf [DV.agg [CI x0.K,CI x0.N,CS x0.S],VB true] [DV.agg [CI (q0.1.K),CI (q0.1.N),CS (q0.1.S)],VB (q0.2)] else BO l name q1/\AS l name q1<AS l name y else Lf [DV.agg [CI 0,CI 0,CS ({data:= #[]:BA})],VB false] [DV.agg [CI (q0.1.K),CI (q0.1.N),CS (q0.1.S)],VB (q0.2)])
 dsimp only
 refine⟨⟨rfl,by omega,by omega,rfl⟩,?_⟩
 rintro⟨i,⟨r1,r2,r3,⟨⟩⟩,⟨⟩⟩ ⟨hr,h1,h2,hR⟩
 cases hr
 simp only
 refine aE ?_ ?_<;>intro hc
 ·rw[Aa l name h1 hc] at hR
  rw[bZ]
  refine⟨by omega,by omega,aE (fun g=> ?_) (fun g=> ?_)⟩
  ·rw[if_pos g] at hR;rw[<-hR];exact aO _
  ·rw[if_neg g] at hR;rw[wi];exact⟨⟨rfl,by omega,by omega,hR⟩,by simp only[AS];omega⟩
 ·have e:l.drop i.toNat=[]:=List.drop_eq_nil_of_le (by omega)
  rw[e] at hR;rw[<-hR];exact aO _
theorem nL{α:Type}{l:List α}{i:Nat}(z:α)(h:i<l.length):l.take (i+1)=l.take i++[l.getD i z]:=by
 rw[zcz h,gh,gr h];rfl
def JQ:=bE (α:=List Int) (q1 (qL .int)) [.ro] (fun l=>[L4 l.length]) (fun l=>⟨[dL .int l],[],[]⟩)
def Rc:AX JQ:=fun l=>bq []
def QV:List (FuncId×kq UU):=[]
theorem afg:zV EE QV f286 JQ Rc [] .int [] true=(Lf [VL .int []] [VL .int []]):=by kernel_rfl
theorem afd:zV EE QV f286 JQ Rc [] .int [] true:=by
 rw[afg]
 exact aO _
theorem afr:Holds EE (286,JQ):=by
 refine zd JX func286 JQ (by kernel_rfl) rfl .int (fun x=>x) (fun _=>rfl) QV all_nil Rc (fun(l:List Int) hp hb=> ?_)
 have nV:L9 l.length:=eD (hb _ m0)
 have bP:l.length<=4294967296:=hp _ m0
 clear hp hb
 refine⟨?_,fun h0=> ?_⟩
 rotate_left
 ·subst h0;exact afd
 apply vE (0+l.length<=4294967296/\Lf [VL .int ([]++l)] [VL .int l])
 exact⟨by simp;omega,aO _⟩
def ah1:HH:=⟨_,afr⟩
def JR:=bE (α:=List aW) (q1 (qL .b8)) [.ro] (fun l=>[L4 l.length]) (fun l=>⟨[dL .b8 l],[],[]⟩)
def Re:AX JR:=fun l=>bq []
def QW:List (FuncId×kq UU):=[]
theorem afh:zV EE QW f284 JR Re [] .b8 [] true=(Lf [VL .b8 []] [VL .b8 []]):=by kernel_rfl
theorem afe:zV EE QW f284 JR Re [] .b8 [] true:=by
 rw[afh]
 exact aO _
theorem afs:Holds EE (284,JR):=by
 refine zd JX func284 JR (by kernel_rfl) rfl .b8 (fun x=>x) (fun _=>rfl) QW all_nil Re (fun(l:List aW) hp hb=> ?_)
 have nV:L9 l.length:=eD (hb _ m0)
 have bP:l.length<=4294967296:=hp _ m0
 clear hp hb
 refine⟨?_,fun h0=> ?_⟩
 rotate_left
 ·subst h0;exact afe
 apply vE (0+l.length<=4294967296/\Lf [VL .b8 ([]++l)] [VL .b8 l])
 exact⟨by simp;omega,aO _⟩
def ah3:HH:=⟨_,afs⟩
def fE(out:List aW)(a:dn)(v:cV):Option (List aW):=
 if a.K=2 then(if a.V=v then some out else none) else if a.K=1 then(if(hX out a.S).2=true then(if(hX out a.S).1=v then some out else none) else some (out++[⟨a.S,v⟩])) else some out
def fi:List dn->List cV->List aW->Option (List aW)
 |[],_,out=>some out
 |a::al,v::vs,out=>match fE out a v with|some o=>fi al vs o|none=>none
 |_::_,[],_=>none
def ca(p:bc)(f:bf)(l:List aW):Option (List aW):=if f.Kind=p.Kind/\f.ak.length=p.aA.length then fi p.aA f.ak l else none
def NM(p:bc)(l:List aW)(x:bW):Bool:=(ca p x.F l).isSome
def ja(p:bc)(s:List bW)(l:List aW):Nat:=(s.filter (NM p l)).length
theorem Eu{out:List aW}{a:dn}{v:cV}{o:List aW}(h:fE out a v=some o):o.length<=out.length+1:=by
 simp only[fE] at h
 repeat' (split at h)
 all_goals first|(cases h;simp)|cases h
theorem vg:∀{al:List dn}{vs:List cV}{out o:List aW},fi al vs out=some o->o.length<=out.length+al.length
 |[],_,out,o,h=>by simp only[fi,eZ] at h;subst h;simp
 |a::al,v::vs,out,o,h=>by
  simp only[fi] at h
  split at h
  ·rename_i o' he
   have:=Eu he
   have:=vg h
   simp only[iD];omega
  ·cases h
 |_::_,[],_,_,h=>by simp[fi] at h
theorem vD{p:bc}{f:bf}{l o:List aW}(h:ca p f l=some o):o.length<=l.length+p.aA.length:=by
 simp only[ca] at h
 split at h
 ·exact vg h
 ·cases h
theorem tq{al:List dn}{vs:List cV}(o:List aW){i:Int}(h0:0<=i)(h:i<al.length)(hl:vs.length=al.length):fi (al.drop i.toNat) (vs.drop i.toNat) o=match fE o (al.getD i.toNat gi) (vs.getD i.toNat fL) with|some o'=>fi (al.drop (i+1).toNat) (vs.drop (i+1).toNat) o'|none=>none:=by
 rw[cj al gi h0 h,cj vs fL h0 (by omega)];rfl
theorem Ff(p:bc)(s:List bW)(l:List aW){i:Int}(h0:0<=i)(h:i<s.length):ja p (s.take (i+1).toNat) l=ja p (s.take i.toNat) l+(if NM p l (s.getD i.toNat br)=true then 1 else 0):=by
 rw[<-lq s br h0 h]
 simp only[ja,List.filter_append,kF,List.filter_cons,List.filter_nil]
 split<;>simp
theorem L0(p:bc)(s:List bW)(l:List aW)(n:Nat):ja p (s.take n) l<=n:=En (Lo _ _) (by simp;omega)
theorem Gm{a b:cV}{P Q:Prop}(h1:¬a=b->P)(h2:a=b->Q):bif !(a.K==b.K&&(a.N==b.N&&(a.S.toList==b.S.toList&&true))) then P else Q:=by
 rw[oq];exact bT (fun h=>h1 (yF h)) (fun h=>h2 (yT h))
theorem Gn{a b:BA}{P Q:Prop}(h1:¬a=b->P)(h2:a=b->Q):bif !(a.toList==b.toList) then P else Q:=by
 rw[bZ];exact bT (fun h=>h1 (yF h)) (fun h=>h2 (yT h))
def Wi:=bE (α:=bc×bf×(List aW)) (qC (qA .cq) (qC (qA .eP) (q1 (qL .b8)))) [.ro,.ro,.ro] (fun(p,f,l)=>[l.length+p.aA.length<=4294967295]) (fun(p,f,l)=>⟨[dL .b8 ((ca p f l).getD l),dO ((ca p f l).isSome)],[],[]⟩)
def sE(p:bc)(f:bf)(l:List aW):List aW×Int×Oj×T2×Unit->Prop:=fun(o,i,b,g,_)=>b=(p.Kind,p.aA,p.Not,())/\g=(f.Kind,f.ak,())/\0<=i/\i<=p.aA.length/\o.length<=l.length+i/\fi (p.aA.drop i.toNat) (f.ak.drop i.toNat) o=ca p f l
def nD(p:bc)(f:bf)(l:List aW):List aW×Int×Oj×T2×Unit->Nat:=fun(o,i,b,g,_)=>p.aA.length-i.toNat
def aj':AX Wi:=fun(p,f,l)=>bq [(5,az [iO 8 .b8,iI 9,.box 3 (3,1024) [.lit .str,.shr .ig,.lit .bool],.box 4 (4,1024) [.lit .str,.shr .bC]] (fun _=>sE p f l) (nD p f l))]
def XG:HH:=hF Wi func293 [ahO] aj' fun x hp hb=>by
 obtain⟨p,f,l⟩:=x
 have aG:=nC (x:=p) (hb _ m0)
 have ng:=aG.1
 have ni:=aG.2
 have cr:=jM (x:=f) (hb _ m1)
 have lz:=cr.1
 have iL:=cr.2
 have nV:L9 l.length:=eD (hb _ m2)
 have bP:l.length+p.aA.length<=4294967295:=hp _ m0
 clear hp hb
 apply vE (let q0:=Lf [VL .b8 ([]++l),VB false] [VL .b8 (Option.getD (ca p f l) l),VB (Option.isSome (ca p f l))];let q1:=(0:Nat)+l.length<=4294967296/\q0;0+l.length<=4294967296/\bif !p.Kind.toList==f.Kind.toList then q0 else bif (p.aA.length:Int) !=(f.ak.length:Int) then q0 else sE p f l ([]++l,0,(p.Kind,p.aA,p.Not,()),(f.Kind,f.ak,()),())/\∀(y:List aW×Int×T17×J8×PUnit),let x3:=y.2.1.toNat;let x5:=y.2.2.1.2.1.length;let x0:=y.2.2.2.1.2.1.getD x3 fL;let x2:=y.2.2.1.2.1.getD x3 gi;let x4:=(↑x5:Int);let x1:=x2.V;let q2:=bif x2.K==1 then bif !(hX {τ:=Cd.b8,xs:=y.1:fK UU}.xs x2.S).2 then 0<=y.2.1/\x3<y.2.2.2.1.2.1.length/\y.1.length+List.length [{Name:=x2.S,V:=x0:aW}]<=4294967296/\sE p f l (y.1++[{Name:=x2.S,V:=x0:aW}],wrap i64 (y.2.1+1),y.2.2)/\nD p f l (y.1++[{Name:=x2.S,V:=x0:aW}],wrap i64 (y.2.1+1),y.2.2)<nD p f l y else sE p f l (y.1,wrap i64 (y.2.1+1),y.2.2)/\nD p f l (y.1,wrap i64 (y.2.1+1),y.2.2)<nD p f l y else sE p f l (y.1,wrap i64 (y.2.1+1),y.2.2)/\nD p f l (y.1,wrap i64 (y.2.1+1),y.2.2)<nD p f l y;let q3:=bif x2.K==1 then bif (hX {τ:=Cd.b8,xs:=y.1:fK UU}.xs x2.S).2 then 0<=y.2.1/\x3<y.2.2.2.1.2.1.length/\bif !((hX {τ:=Cd.b8,xs:=y.1:fK UU}.xs x2.S).1.K==x0.K&&((hX {τ:=Cd.b8,xs:=y.1:fK UU}.xs x2.S).1.N==x0.N&&((hX {τ:=Cd.b8,xs:=y.1:fK UU}.xs x2.S).1.S.toList==x0.S.toList&&true))) then q1 else q2 else q2 else q2;sE p f l y->bif decide (y.2.1<x4) then 0<=y.2.1/\x3<x5/\bif x2.K==2 then 0<=y.2.1/\x3<y.2.2.2.1.2.1.length/\bif !(x1.K==x0.K&&(x1.N==x0.N&&(x1.S.toList==x0.S.toList&&true))) then q1 else q3 else q3 else Lf [VL .b8 y.1,VB true] [VL .b8 (Option.getD (ca p f l) l),VB (Option.isSome (ca p f l))])
 dsimp only
 have hF:ca p f l=none->Lf [.one (.sl .b8 l),.one (.lit (.bool false))] [.one (.sl .b8 ((ca p f l).getD l)),.one (.lit (.bool (ca p f l).isSome))]:=fun e=>by rw[e];exact aO _
 refine⟨by show 0+l.length<=_;omega,Gn (fun hk=>hF (if_neg (fun e=>hk e.1.symm))) (fun hk=>k_ (fun hl=>hF (if_neg (by omega))) (fun hl=> ?_))⟩
 have hl:f.ak.length=p.aA.length:=by omega
 have hM:ca p f l=fi p.aA f.ak l:=if_pos ⟨hk.symm,hl⟩
 refine⟨⟨rfl,rfl,by omega,by omega,by show((l.length:Nat):Int)<=_;omega,hM.symm⟩,?_⟩
 rintro⟨o,i,⟨b1,b2,b3,⟨⟩⟩,⟨g1,g2,⟨⟩⟩,⟨⟩⟩
 rintro⟨hb,hg,h1,h2,h3,hR⟩
 cases hb
 cases hg
 refine aE ?_ ?_<;>intro hc
 ·have hc:i<p.aA.length:=hc
  rw[tq o h1 hc hl] at hR
  have hN:fE o (p.aA.getD i.toNat gi) (f.ak.getD i.toNat fL)=none->ca p f l=none:=fun e=>by rw[<-hR,e]
  have hS:∀o',fE o (p.aA.getD i.toNat gi) (f.ak.getD i.toNat fL)=some o'->fi (p.aA.drop (i+1).toNat) (f.ak.drop (i+1).toNat) o'=ca p f l:=fun o' e=>by rw[<-hR,e]
  clear hR
  have hs:∀o',o'.length<=o.length+1->fE o (p.aA.getD i.toNat gi) (f.ak.getD i.toNat fL)=some o'->sE p f l (o',IntKind.wrap .i64 (i+1),(p.Kind,p.aA,p.Not,()),(f.Kind,f.ak,()),())/\nD p f l (o',IntKind.wrap .i64 (i+1),(p.Kind,p.aA,p.Not,()),(f.Kind,f.ak,()),())<nD p f l (o,i,(p.Kind,p.aA,p.Not,()),(f.Kind,f.ak,()),()):=fun o' h4 e=>by
   rw[wi]
   exact⟨⟨rfl,rfl,by omega,by omega,by omega,hS o' e⟩,by simp only[nD];omega⟩
  clear hS
  have q1:(0:Int)<=i/\i.toNat<p.aA.length:=by omega
  have q2:(0:Int)<=i/\i.toNat<f.ak.length:=by omega
  have q3:l.length<=4294967296:=by omega
  have q4:o.length+1<=4294967296:=by omega
  have q5:(0:Nat)+l.length<=4294967296:=by omega
  refine⟨q1.1,q1.2,?_⟩
  repeat' (first|refine And.intro q2.1 (And.intro q2.2 ?_)|refine And.intro q5 ?_|refine And.intro q4 ?_|refine mn (fun _=> ?_) (fun _=> ?_)|refine Gm (fun _=> ?_) (fun _=> ?_)|refine bT (fun _=> ?_) (fun _=> ?_)|refine ae (fun _=> ?_) (fun _=> ?_))
  all_goals first|exact hF (hN (by(try simp only at*);simp only[fE];grind))|exact hs _ (by simp) (by(try simp only at*);simp only[fE];grind)
 ·rw[bU p.aA (by have hc:¬i<p.aA.length:=hc;omega)] at hR
  have hR:ca p f l=some o:=hR.symm
  rw[hR];exact aO _
def Ww:=bE (α:=bc×bf×(List aW)) (qC (qA .cq) (qC (qA .eP) (q1 (qL .b8)))) [.ro,.ro,.ro] (fun(p,f,l)=>[l.length+p.aA.length<=4294967295]) (fun(p,f,l)=>⟨[dL .b8 ((ca p f l).getD l),dO ((ca p f l).isSome)],[],[]⟩)
def uT(p:bc)(f:bf)(l:List aW):List aW×Int×T2×Unit->Prop:=fun(o,i,g,_)=>g=(f.Kind,f.ak,())/\0<=i/\i<=p.aA.length/\o.length<=l.length+i/\fi (p.aA.drop i.toNat) (f.ak.drop i.toNat) o=ca p f l
def p_(p:bc)(f:bf)(l:List aW):List aW×Int×T2×Unit->Nat:=fun(o,i,g,_)=>p.aA.length-i.toNat
def akn:AX Ww:=fun(p,f,l)=>bq [(5,az [iO 8 .b8,iI 35,.box 4 (4,1024) [.lit .str,.shr .bC]] (fun _=>uT p f l) (p_ p f l))]
def Q2:HH:=hF Ww func253 [ah2,ah3] akn fun x hp hb=>by
 obtain⟨p,f,l⟩:=x
 have aG:=nC (x:=p) (hb _ m0)
 have ng:=aG.1
 have ni:=aG.2
 have cr:=jM (x:=f) (hb _ m1)
 have lz:=cr.1
 have iL:=cr.2
 have nV:L9 l.length:=eD (hb _ m2)
 have bP:l.length+p.aA.length<=4294967295:=hp _ m0
 clear hp hb
 apply vE (let x0:=(p.aA.length:Int);let q0:=l.length<=4294967296/\Lf [VL .b8 l,VB false] [VL .b8 (Option.getD (ca p f l) l),VB (Option.isSome (ca p f l))];bif !f.Kind.toList==p.Kind.toList then q0 else bif (f.ak.length:Int) !=x0 then q0 else L4 l.length/\uT p f l (l,0,(f.Kind,f.ak,()),())/\∀(y:List aW×Int×J8×PUnit),let x2:=y.2.1.toNat;let x3:=(p.aA.getD x2 gi).V;let x1:=y.2.2.1.2.1.getD x2 fL;let x4:=[{Name:=(p.aA.getD x2 gi).S,V:=x1:aW}];let q1:=uT p f l (y.1,wrap i64 (y.2.1+1),y.2.2)/\p_ p f l (y.1,wrap i64 (y.2.1+1),y.2.2)<p_ p f l y;let q2:=hX {τ:=Cd.b8,xs:=y.1:fK UU}.xs (p.aA.getD x2 gi).S;let q3:=bif !q2.2 then L4 (y.1.length+x4.length)/\uT p f l (y.1++x4,wrap i64 (y.2.1+1),y.2.2)/\p_ p f l (y.1++x4,wrap i64 (y.2.1+1),y.2.2)<p_ p f l y else q1;uT p f l y->bif decide (y.2.1<x0) then 0<=y.2.1/\x2<p.aA.length/\0<=y.2.1/\x2<y.2.2.1.2.1.length/\bif (p.aA.getD x2 gi).K==2 then bif !(x3.K==x1.K&&(x3.N==x1.N&&(x3.S.toList==x1.S.toList&&true))) then q0 else q1 else bif (p.aA.getD x2 gi).K==1 then bif q2.2 then bif !(q2.1.K==x1.K&&(q2.1.N==x1.N&&(q2.1.S.toList==x1.S.toList&&true))) then q0 else q3 else q3 else q1 else Lf [VL .b8 y.1,VB true] [VL .b8 (Option.getD (ca p f l) l),VB (Option.isSome (ca p f l))])
 dsimp only
 have hF:ca p f l=none->Lf [.one (.sl .b8 l),.one (.lit (.bool false))] [.one (.sl .b8 ((ca p f l).getD l)),.one (.lit (.bool (ca p f l).isSome))]:=fun e=>by rw[e];exact aO _
 simp only[oq]
 simp only[bZ]
 refine bT (fun hk=>⟨by omega,hF (if_neg (fun e=>(yF hk) e.1))⟩) (fun hk=>k_ (fun hl=>⟨by omega,hF (if_neg (by omega))⟩) (fun hl=>⟨by omega,?_⟩))
 have hk:=yT hk
 have hl:f.ak.length=p.aA.length:=by omega
 have hM:ca p f l=fi p.aA f.ak l:=if_pos ⟨hk,hl⟩
 refine⟨⟨rfl,by omega,by omega,by omega,hM.symm⟩,?_⟩
 rintro⟨o,i,⟨g1,g2,⟨⟩⟩,⟨⟩⟩ ⟨hg,h1,h2,h3,hR⟩
 cases hg
 simp only
 refine aE ?_ ?_<;>intro hc
 ·rw[tq o h1 hc hl] at hR
  have hN:fE o (p.aA.getD i.toNat gi) (f.ak.getD i.toNat fL)=none->ca p f l=none:=fun e=>by rw[<-hR,e]
  have hS:∀o',fE o (p.aA.getD i.toNat gi) (f.ak.getD i.toNat fL)=some o'->fi (p.aA.drop (i+1).toNat) (f.ak.drop (i+1).toNat) o'=ca p f l:=fun o' e=>by rw[<-hR,e]
  clear hR
  generalize List.getD p.aA i.toNat gi=a at*
  generalize List.getD f.ak i.toNat fL=v at*
  rw[wi]
  simp only[iD,ii]
  have hs:∀o',o'.length<=o.length+1->fE o a v=some o'->uT p f l (o',i+1,(f.Kind,f.ak,()),())/\p_ p f l (o',i+1,(f.Kind,f.ak,()),())<p_ p f l (o,i,(f.Kind,f.ak,()),()):=fun o' h4 e=>⟨⟨rfl,by omega,by omega,by omega,hS o' e⟩,by simp only[p_];omega⟩
  clear hS
  refine⟨by omega,by omega,by omega,by omega,?_⟩
  repeat' (first|refine And.intro (by omega) ?_|refine mn (fun _=> ?_) (fun _=> ?_)|refine bT (fun _=> ?_) (fun _=> ?_)|refine ae (fun _=> ?_) (fun _=> ?_))
  all_goals first|exact hF (hN (by simp only[fE];grind))|exact hs _ (by simp) (by simp only[fE];grind)
 ·rw[bU p.aA (by omega)] at hR
  have hR:ca p f l=some o:=hR.symm
  rw[hR];exact aO _
def Wl:=bE (α:=bc×ap×(List aW)) (qC (qA .cq) (qC (qA .dW) (q1 (qL .b8)))) [.ro,.ro,.ro] (fun(p,s,l)=>[l.length+p.aA.length<=4294967295]) (fun(p,s,l)=>⟨[dI (ja p s.aa l:Int)],[],[]⟩)
def xU(p:bc)(s:ap)(l:List aW):Int×Int×Oj×Unit->Prop:=fun(n,i,b,_)=>b=(p.Kind,p.aA,p.Not,())/\0<=i/\i<=s.aa.length/\n=ja p (s.aa.take i.toNat) l
def se(p:bc)(s:ap)(l:List aW):Int×Int×Oj×Unit->Nat:=fun(n,i,b,_)=>s.aa.length-i.toNat
def akb:AX Wl:=fun(p,s,l)=>bq [(3,az [iI 7,iI 15,.box 3 (3,1024) [.lit .str,.shr .ig,.lit .bool]] (fun _=>xU p s l) (se p s l))]
def ah0:HH:=hF Wl func287 [Q2] akb fun x hp hb=>by
 obtain⟨p,s,l⟩:=x
 have aG:=nC (x:=p) (hb _ m0)
 have ng:=aG.1
 have ni:=aG.2
 have eR:=eG (x:=s) (hb _ m1)
 have nV:L9 l.length:=eD (hb _ m2)
 have bP:l.length+p.aA.length<=4294967295:=hp _ m0
 clear hp hb
 apply vE (xU p s l (0,0,(p.Kind,p.aA,p.Not,()),())/\∀(y:Int×Int×T17×PUnit),let x0:=y.2.1.toNat;let q0:=(wrap i64 (y.1+1),wrap i64 (y.2.1+1),y.2.2);let q1:=(y.1,wrap i64 (y.2.1+1),y.2.2);xU p s l y->bif decide (y.2.1<(s.aa.length:Int)) then 0<=y.2.1/\x0<s.aa.length/\l.length+y.2.2.1.2.1.length<=4294967295/\bif Option.isSome (ca {Kind:=y.2.2.1.1,aA:=y.2.2.1.2.1,Not:=y.2.2.1.2.2.1:bc} (s.aa.getD x0 br).F l) then xU p s l q0/\se p s l q0<se p s l y else xU p s l q1/\se p s l q1<se p s l y else Li y.1 (↑(ja p s.aa l):Int))
 dsimp only
 refine⟨⟨rfl,by omega,by omega,rfl⟩,?_⟩
 rintro⟨n,i,⟨b1,b2,b3,⟨⟩⟩,⟨⟩⟩ ⟨hb,h1,h2,rfl⟩
 cases hb
 simp only
 refine aE ?_ ?_<;>intro hc
 ·have hs:=Ff p s.aa l h1 hc
  have hle:=L0 p s.aa l i.toNat
  rw[wi (n:=i+1),wrap_i64 (n:=(ja p (s.aa.take i.toNat) l:Int)+1) (by omega) (by omega)]
  refine⟨by omega,by omega,bP,ae (fun g=>⟨⟨rfl,by omega,by omega,?_⟩,by simp only[se];omega⟩) (fun g=>⟨⟨rfl,by omega,by omega,?_⟩,by simp only[se];omega⟩)⟩
  ·rw[hs,if_pos (show NM p l (s.aa.getD i.toNat br)=true from g)];omega
  ·rw[hs,if_neg (show¬NM p l (s.aa.getD i.toNat br)=true by rw[show NM p l (s.aa.getD i.toNat br)=false from g];decide)];omega
 ·rw[iq s.aa (by omega)]
  exact aO _
def cz(l:List bc):Nat:=(l.map fun p=>p.aA.length).sum
def aY(s:List bW):List bc->List Int->List aW->List aW×Bool
 |_,[],l=>(l,true)
 |[],_::_,l=>(l,false)
 |p::ps,id::ids,l=>if j8 s id=true then(match ca p (ax s id) l with|some o=>aY s ps ids o|none=>(l,false)) else(l,false)
theorem DY{l:List bc}{i:Int}(h0:0<=i)(h:i<l.length):cz (l.drop i.toNat)=(l.getD i.toNat dl).aA.length+cz (l.drop (i+1).toNat):=by
 rw[cj l dl h0 h];rfl
theorem zZ(s:List bW){ps:List bc}{ids:List Int}(l:List aW){i:Int}(h0:0<=i)(h:i<ids.length)(hl:ids.length<=ps.length):aY s (ps.drop i.toNat) (ids.drop i.toNat) l=
  if j8 s (ids.getD i.toNat 0)=true then(match ca (ps.getD i.toNat dl) (ax s (ids.getD i.toNat 0)) l with|some o=>aY s (ps.drop (i+1).toNat) (ids.drop (i+1).toNat) o|none=>(l,false)) else(l,false):=by
 rw[cj ps dl h0 (by omega),cj ids 0 h0 h];rfl
theorem DU(s:List bW){ps:List bc}{ids:List Int}(l:List aW){i:Int}(h:ids.length<=i):aY s (ps.drop i.toNat) (ids.drop i.toNat) l=(l,true):=by
 rw[bU ids (by omega)];cases ps.drop i.toNat<;>rfl
theorem zw{l:List bc}{i:Int}(h0:0<=i)(h:i<l.length):(l.getD i.toNat dl).aA.length<=cz l:=iF (fun p:bc=>p.aA.length) l dl h0 h
theorem px(s:List bW):∀(ps:List bc)(ids:List Int)(l:List aW),(aY s ps ids l).1.length<=l.length+cz ps
 |ps,[],l=>by cases ps<;>simp[aY]
 |[],_::_,l=>by simp[aY]
 |p::ps,id::ids,l=>by
  simp only[aY]
  split
  ·split
   ·rename_i o ho
    have h1:=vD ho
    have h2:=px s ps ids o
    simp only[cz,rl,N4] at h2⊢
    omega
   ·simp only;omega
  ·simp only;omega
def sQ(r:aw)(s:List bW)(l:List aW):List Int:=(cB r true).map fun p=>(ja p s l:Int)
def ow(r:aw)(f:bf)(l:List aW):List Int:=(cB r true).map fun p=>if(ca p f l).isSome=true then 1 else 0
def Wx:=bE (α:=(List bc)×ap×(List Int)) (qC (qL .cq) (qC (qA .dW) (q1 (qL .int)))) [.ro,.ro,.ro] (fun(bH,s,ids)=>[L4 (aj s.aa),cz bH<=4294967295,ids.length<=bH.length]) (fun(bH,s,ids)=>⟨[dL .b8 (if(aY s.aa bH ids []).2=true then(aY s.aa bH ids []).1 else[]),dO ((aY s.aa bH ids []).2)],[],[]⟩)
def BR(bH:List bc)(s:ap)(ids:List Int):List aW×Int×T5×Unit->Prop:=fun(l,i,b,_)=>b=(s.aa,s.Next,())/\0<=i/\i<=ids.length/\l.length+cz (bH.drop i.toNat)<=cz bH/\aY s.aa (bH.drop i.toNat) (ids.drop i.toNat) l=aY s.aa bH ids []
def AY(bH:List bc)(s:ap)(ids:List Int):List aW×Int×T5×Unit->Nat:=fun(l,i,b,_)=>ids.length-i.toNat
def ako:AX Wx:=fun(bH,s,ids)=>bq [(3,az [iO 8 .b8,iI 15,.box 4 (4,1024) [.shr .cg,.lit (.int .i64)]] (fun _=>BR bH s ids) (AY bH s ids))]
def XJ:HH:=hF Wx func252 [MD,Q2] ako fun x hp hb=>by
 obtain⟨bH,s,ids⟩:=x
 have alC:L9 bH.length:=eD (hb _ m0)
 have eR:=eG (x:=s) (hb _ m1)
 have GC:L9 ids.length:=eD (hb _ m2)
 have bP:aj s.aa<=4294967296:=hp _ m0
 have jv:cz bH<=4294967295:=hp _ m1
 have uZ:ids.length<=bH.length:=hp _ m2
 clear hp hb
 apply vE (let q0:=aY s.aa bH ids [];let q1:=Lf [VL .b8 [],VB false] [VL .b8 (if q0.2=true then q0.1 else[]),VB (q0.2)];BR bH s ids ([],0,(s.aa,s.Next,()),())/\∀(y:List aW×Int×Lh×PUnit),let x0:=y.2.1.toNat;let q2:=(Option.getD (ca (bH.getD x0 dl) (ax y.2.2.1.1 (ids.getD x0 0)) y.1) y.1,wrap i64 (y.2.1+1),(y.2.2.1.1,y.2.2.1.2.1,()),());BR bH s ids y->bif decide (y.2.1<(ids.length:Int)) then 0<=y.2.1/\x0<ids.length/\L4 (aj y.2.2.1.1)/\bif !j8 y.2.2.1.1 (ids.getD x0 0) then q1 else 0<=y.2.1/\x0<bH.length/\y.1.length+(bH.getD x0 dl).aA.length<=4294967295/\bif !Option.isSome (ca (bH.getD x0 dl) (ax y.2.2.1.1 (ids.getD x0 0)) y.1) then q1 else BR bH s ids q2/\AY bH s ids q2<AY bH s ids y else Lf [VL .b8 y.1,VB true] [VL .b8 (if q0.2=true then q0.1 else[]),VB (q0.2)])
 dsimp only
 refine⟨⟨rfl,by omega,by omega,by simp,rfl⟩,?_⟩
 rintro⟨l,i,⟨b1,b2,⟨⟩⟩,⟨⟩⟩ ⟨hb,h1,h2,h3,hR⟩
 cases hb
 simp only
 refine aE ?_ ?_<;>intro hc
 ·have hs:=zZ s.aa (ps:=bH) l h1 hc uZ
  have ha:=DY (l:=bH) h1 (by omega)
  rw[hs] at hR
  refine⟨h1,by omega,bP,bT (fun g=> ?_) (fun g=>⟨h1,by omega,by omega,bT (fun g'=> ?_) (fun g'=> ?_)⟩)⟩
  ·rw[if_neg (by rw[g];exact Bool.false_ne_true)] at hR
   rw[<-hR];exact aO _
  ·have e:ca (bH.getD i.toNat dl) (ax s.aa (ids.getD i.toNat 0)) l=none:=by simpa using g'
   rw[if_pos g,e] at hR
   rw[<-hR];exact aO _
  ·obtain⟨o,e⟩:=kH.1 g'
   rw[if_pos g,e] at hR
   have hl:=vD e
   rw[wi (n:=i+1),e]
   exact⟨⟨rfl,by omega,by omega,by show o.length+_<=_;omega,hR⟩,by simp only[AY];omega⟩
 ·rw[DU s.aa l (by omega)] at hR
  rw[<-hR];exact aO _
def Wp:=bE (α:=aw×ap×(List Int)) (qC (qA .cw) (qC (qA .dW) (q1 (qL .int)))) [.ro,.ro,.ro] (fun(r,s,ids)=>[L4 (aj s.aa),cz r.ai<=4294967295,ids.length<=r.ai.length]) (fun(r,s,ids)=>⟨[dL .b8 ((aY s.aa r.ai ids []).1),dO ((aY s.aa r.ai ids []).2)],[],[]⟩)
def BP(r:aw)(s:ap)(ids:List Int):List aW×Int×T0×T5×Unit->Prop:=fun(l,i,b,c,_)=>b=(r.Name,r.mM,r.ai,r.bA,r.cp,())/\c=(s.aa,s.Next,())/\0<=i/\i<=ids.length/\l.length+cz (r.ai.drop i.toNat)<=cz r.ai/\aY s.aa (r.ai.drop i.toNat) (ids.drop i.toNat) l=aY s.aa r.ai ids []
def AU(r:aw)(s:ap)(ids:List Int):List aW×Int×T0×T5×Unit->Nat:=fun(l,i,b,c,_)=>ids.length-i.toNat
def akg:AX Wp:=fun(r,s,ids)=>bq [(3,az [iO 8 .b8,iI 9,.box 3 (3,1024) [.lit .str,.lit (.int .i64),.shr .cq,.shr .cQ,.shr .eT],.box 4 (4,1024) [.shr .cg,.lit (.int .i64)]] (fun _=>BP r s ids) (AU r s ids))]
def QY:HH:=hF Wp func265 [aci,XG] akg fun x hp hb=>by
 obtain⟨r,s,ids⟩:=x
 have aG:=gL (x:=r) (hb _ m0)
 have gx:=aG.1
 have gw:=aG.2.1
 have fH:=aG.2.2.1
 have gy:=aG.2.2.2
 have eR:=eG (x:=s) (hb _ m1)
 have GC:L9 ids.length:=eD (hb _ m2)
 have bP:aj s.aa<=4294967296:=hp _ m0
 have jv:cz r.ai<=4294967295:=hp _ m1
 have uZ:ids.length<=r.ai.length:=hp _ m2
 clear hp hb
 apply vE (let q0:=aY s.aa r.ai ids [];BP r s ids ([],0,(r.Name,r.mM,r.ai,r.bA,r.cp,()),(s.aa,s.Next,()),())/\∀(y:List aW×Int×T16×Lh×PUnit),let x0:=y.2.1.toNat;let x1:=y.2.2.1.2.2.1.getD x0 dl;let q1:=(Option.getD (ca x1 (ax y.2.2.2.1.1 (ids.getD x0 0)) y.1) y.1,wrap i64 (y.2.1+1),(y.2.2.1.1,y.2.2.1.2.1,y.2.2.1.2.2.1,y.2.2.1.2.2.2.1,y.2.2.1.2.2.2.2.1,()),(y.2.2.2.1.1,y.2.2.2.1.2.1,()),());let q2:=Lf [VL .b8 y.1,VB false] [VL .b8 (q0.1),VB (q0.2)];BP r s ids y->bif decide (y.2.1<(ids.length:Int)) then 0<=y.2.1/\x0<ids.length/\L4 (aj y.2.2.2.1.1)/\0<=y.2.1/\x0<y.2.2.1.2.2.1.length/\y.1.length+x1.aA.length<=4294967295/\bif !j8 y.2.2.2.1.1 (ids.getD x0 0) then q2 else bif !Option.isSome (ca x1 (ax y.2.2.2.1.1 (ids.getD x0 0)) y.1) then q2 else BP r s ids q1/\AU r s ids q1<AU r s ids y else Lf [VL .b8 y.1,VB true] [VL .b8 (q0.1),VB (q0.2)])
 dsimp only
 refine⟨⟨rfl,rfl,by omega,by omega,by simp,rfl⟩,?_⟩
 rintro⟨l,i,⟨a1,a2,a3,a4,a5,⟨⟩⟩,⟨b1,b2,⟨⟩⟩,⟨⟩⟩ ⟨ha0,hb,h1,h2,h3,hR⟩
 cases ha0
 cases hb
 simp only
 refine aE ?_ ?_<;>intro hc
 ·have hs:=zZ s.aa (ps:=r.ai) l h1 hc uZ
  have ha:=DY (l:=r.ai) h1 (by omega)
  rw[hs] at hR
  refine⟨h1,by omega,bP,h1,by omega,by omega,bT (fun g=> ?_) (fun g=>bT (fun g'=> ?_) (fun g'=> ?_))⟩
  ·rw[if_neg (by rw[g];exact Bool.false_ne_true)] at hR
   rw[<-hR];exact aO _
  ·have e:ca (r.ai.getD i.toNat dl) (ax s.aa (ids.getD i.toNat 0)) l=none:=by simpa using g'
   rw[if_pos g,e] at hR
   rw[<-hR];exact aO _
  ·obtain⟨o,e⟩:=kH.1 g'
   rw[if_pos g,e] at hR
   have hl:=vD e
   rw[wi (n:=i+1),e]
   exact⟨⟨rfl,rfl,by omega,by omega,by show o.length+_<=_;omega,hR⟩,by simp only[AU];omega⟩
 ·rw[DU s.aa l (by omega)] at hR
  rw[<-hR];exact aO _
def Wo:=bE (α:=aw×bf×(List aW)) (qC (qA .cw) (qC (qA .eP) (q1 (qL .b8)))) [.ro,.ro,.ro] (fun(r,f,l)=>[l.length+cz r.ai<=4294967295,r.ai.length<=4294967295]) (fun(r,f,l)=>⟨[dL .int (ow r f l)],[],[]⟩)
def uR(r:aw)(f:bf)(l:List aW):List Int×Int×T0×T2×Unit->Prop:=fun(o,i,b,c,_)=>b=(r.Name,r.mM,r.ai,r.bA,r.cp,())/\c=(f.Kind,f.ak,())/\0<=i/\i<=r.ai.length/\o=((r.ai.take i.toNat).filter (fun p=>p.Not==true)).map (fun p=>if(ca p f l).isSome=true then 1 else 0)
def nE(r:aw)(f:bf)(l:List aW):List Int×Int×T0×T2×Unit->Nat:=fun(o,i,b,c,_)=>r.ai.length-i.toNat
def akf:AX Wo:=fun(r,f,l)=>bq [(3,az [iO 7 .int,iI 8,.box 3 (3,1024) [.lit .str,.lit (.int .i64),.shr .cq,.shr .cQ,.shr .eT],.box 4 (4,1024) [.lit .str,.shr .bC]] (fun _=>uR r f l) (nE r f l))]
def XI:HH:=hF Wo func266 [XG] akf fun x hp hb=>by
 obtain⟨r,f,l⟩:=x
 have aG:=gL (x:=r) (hb _ m0)
 have gx:=aG.1
 have gw:=aG.2.1
 have fH:=aG.2.2.1
 have gy:=aG.2.2.2
 have cr:=jM (x:=f) (hb _ m1)
 have lz:=cr.1
 have iL:=cr.2
 have nV:L9 l.length:=eD (hb _ m2)
 have bP:l.length+cz r.ai<=4294967295:=hp _ m0
 have jv:r.ai.length<=4294967295:=hp _ m1
 clear hp hb
 apply vE (uR r f l ([],0,(r.Name,r.mM,r.ai,r.bA,r.cp,()),(f.Kind,f.ak,()),())/\∀(y:List Int×Int×T16×J8×PUnit),let x2:=y.2.2.1.2.2.1.length;let x3:=y.2.1.toNat;let x0:=y.2.2.1.2.2.1.getD x3 dl;let x1:=(↑x2:Int);let q0:=(y.2.2.1.1,y.2.2.1.2.1,y.2.2.1.2.2.1,y.2.2.1.2.2.2.1,y.2.2.1.2.2.2.2.1,());let q1:=(y.2.2.2.1.1,y.2.2.2.1.2.1,());let q2:=(y.1++[1],wrap i64 (y.2.1+1),q0,q1,());let q3:=(y.1++[0],wrap i64 (y.2.1+1),q0,q1,());let q4:=(y.1,wrap i64 (y.2.1+1),q0,q1,());uR r f l y->bif decide (y.2.1<x1) then 0<=y.2.1/\x3<x2/\bif x0.Not then 0<=y.2.1/\x3<x2/\l.length+x0.aA.length<=4294967295/\bif Option.isSome (ca x0 {Kind:=y.2.2.2.1.1,ak:=y.2.2.2.1.2.1:bf} l) then y.1.length+List.length [1]<=4294967296/\uR r f l q2/\nE r f l q2<nE r f l y else y.1.length+List.length [0]<=4294967296/\uR r f l q3/\nE r f l q3<nE r f l y else uR r f l q4/\nE r f l q4<nE r f l y else Lf [VL .int y.1] [VL .int (ow r f l)])
 dsimp only
 refine⟨⟨rfl,rfl,by omega,by omega,by simp⟩,?_⟩
 rintro⟨o,i,⟨a1,a2,a3,a4,a5,⟨⟩⟩,⟨b1,b2,⟨⟩⟩,⟨⟩⟩ ⟨ha0,hb,h1,h2,rfl⟩
 cases ha0
 cases hb
 simp only
 refine aE ?_ ?_<;>intro hc
 ·have hs:=Mb (fun p:bc=>p.Not==true) (l:=r.ai) (i:=i.toNat) dl (by omega)
  have e:(i+1).toNat=i.toNat+1:=by omega
  have ha:=zw (l:=r.ai) h1 hc
  have hle:((r.ai.take i.toNat).filter fun p:bc=>p.Not==true).length<=(r.ai.take i.toNat).length:=Lo _ _
  rw[mO] at hle
  rw[wi (n:=i+1)]
  refine⟨h1,by omega,ae (fun g=>⟨h1,by omega,by omega,ae (fun g'=>⟨?_,⟨rfl,rfl,by omega,by omega,?_⟩,by simp only[nE];omega⟩) (fun g'=>⟨?_,⟨rfl,rfl,by omega,by omega,?_⟩,by simp only[nE];omega⟩)⟩) (fun g=>⟨⟨rfl,rfl,by omega,by omega,?_⟩,by simp only[nE];omega⟩)⟩
  ·simp only[wj,iD,ii];omega
  ·rw[e,hs,if_pos (by rw[g];rfl),Em]
   simp only[rl,List.map_nil]
   rw[if_pos g']
  ·simp only[wj,iD,ii];omega
  ·rw[e,hs,if_pos (by rw[g];rfl),Em]
   simp only[rl,List.map_nil]
   rw[if_neg (by rw[g'];exact Bool.false_ne_true)]
  ·rw[e,hs,if_neg (by rw[g];decide),sI]
 ·have e:i.toNat=r.ai.length:=by omega
  rw[e,List.take_length]
  exact aO _
def fP(r:aw)(s:List bW)(ids:List Int)(id:Int):List au:=if(aY s r.ai (ids++[id]) []).2=true then[⟨ids++[id],[]⟩] else[]
def mw(r:aw)(s:List bW)(t:au):au:=⟨t.b9,sQ r s (aY s r.ai t.b9 []).1⟩
def Le(n:Int)(hs h:List Int):List Int:=List.zipWith (fun a b=>IntKind.wrap .i64 (a+IntKind.wrap .i64 (n*b))) hs h
def pK(r:aw)(s:List bW)(f:bf)(n:Int)(t:au):au:=if(aY s r.ai t.b9 []).2=true then⟨t.b9,Le n t.db (ow r f (aY s r.ai t.b9 []).1)⟩ else t
theorem vo{α:Type}{H:List α}{k:Nat}(z:α)(h:k<H.length):H.drop k=H.getD k z::H.drop (k+1):=by
 rw[zel h,gh,gr h];rfl
theorem Om{α β:Type}(g:α->β->α){H:List α}{h:List β}{k:Nat}(z:α)(w:β)(h1:k<H.length)(h2:k<h.length):
  List.zipWith g (H.take (k+1)) (h.take (k+1))++H.drop (k+1)=(List.zipWith g (H.take k) (h.take k)++H.drop k).set k (g (H.getD k z) (h.getD k w))/\(List.zipWith g (H.take k) (h.take k)++H.drop k).getD k z=H.getD k z/\(List.zipWith g (H.take k) (h.take k)++H.drop k).length=H.length:=by
 have hl:(List.zipWith g (H.take k) (h.take k)).length=k:=by rw[List.length_zipWith,mO,mO];omega
 have e2:=nL z h1
 have e3:=nL w h2
 refine⟨?_,?_,?_⟩
 ·rw[e2,e3,List.zipWith_append (by rw[mO,mO];omega),vo z h1,List.set_append_right _ _ (by omega),hl,Rr]
  simp
 ·rw[gh,va (by omega),hl,Rr,vo z h1];rfl
 ·rw[kF,hl,FT];omega
theorem CB{α β:Type}(g:α->β->α){H:List α}{h:List β}{k:Nat}(h1:H.length<=k)(h2:h.length<=k):List.zipWith g (H.take k) (h.take k)++H.drop k=List.zipWith g H h:=by
 rw[EM h1,EM h2,List.drop_eq_nil_of_le h1,sI]
theorem pM{α:Type}{l:List α}{k:Nat}(z:α):l.set k (l.getD k z)=l:=by
 rcases lR k l.length with h|h
 ·rw[gh,gr h];simp
 ·exact List.set_eq_of_length_le h
theorem S0{α:Type}{l:List α}{k:Nat}(z:α)(g:α->α):l.modify k g=l.set k (g (l.getD k z)):=by
 apply Ow
 intro j
 rw[zei,Ov]
 by_cases h:k=j
 ·subst h
  rcases lR k l.length with hl|hl
  ·rw[if_pos rfl,if_pos hl,gh,gr hl];simp
  ·rw[if_pos rfl,if_neg (by omega),lU hl];rfl
 ·rw[if_neg h]
  simp[h]
theorem GK{α:Type}{l:List α}{k:Nat}(z x:α)(h:k<l.length):(l.set k x).getD k z=x:=by
 rw[gh,zdp h];rfl
theorem aak{α:Type}(T:α->α){l:List α}{k:Nat}(z:α)(h:k<l.length):((l.take k).map T++l.drop k).getD k z=l.getD k z/\((l.take k).map T++l.drop k).set k (T (l.getD k z))=(l.take (k+1)).map T++l.drop (k+1)/\((l.take k).map T++l.drop k).length=l.length:=by
 have hl:((l.take k).map T).length=k:=by rw[wj,mO];omega
 refine⟨?_,?_,?_⟩
 ·rw[gh,va (by omega),hl,Rr,vo z h];rfl
 ·rw[nL z h,vo z h,List.set_append_right _ _ (by omega),hl,Rr,Em]
  simp
 ·rw[kF,hl,FT];omega
theorem KB{α:Type}(T:α->α){l:List α}{k:Nat}(h:l.length<=k):(l.take k).map T++l.drop k=l.map T:=by
 rw[EM h,List.drop_eq_nil_of_le h,sI]
theorem Is:∀(l:List bc),eE l+(l.filter fun p=>p.Not==true).length=l.length
 |[]=>rfl
 |p::l=>by
  have h:=Is l
  rw[EZ,List.filter_cons,iD]
  cases hp:p.Not
  ·rw[if_neg (by decide),if_neg (by decide)];omega
  ·rw[if_pos rfl,if_pos (by decide),iD];omega
theorem Ol{α:Type}(g:Int->Int->Int)(f1 f2:α->Int):∀(l:List α),List.zipWith g (l.map f1) (l.map f2)=l.map fun x=>g (f1 x) (f2 x)
 |[]=>rfl
 |x::l=>by simp[Ol g f1 f2 l]
theorem KU(r:aw)(l:List aW):sQ r [] l=List.replicate (cB r true).length 0:=by
 unfold sQ
 generalize cB r true=L
 induction L with
 |nil=>rfl
 |cons p L ih=>rw[rl,ih,iD,List.replicate_succ];rfl
theorem KV(r:aw)(s:List bW)(l:List aW){i:Int}(h0:0<=i)(h:i<s.length)(hb:s.length<=4294967295):List.zipWith (fun a b:Int=>IntKind.wrap .i64 (a+b)) (sQ r (s.take i.toNat) l) (ow r (s.getD i.toNat br).F l)=sQ r (s.take (i+1).toNat) l:=by
 unfold sQ ow
 rw[Ol]
 refine Lp fun p _=> ?_
 have h1:=Ff p s l h0 h
 have h2:=L0 p s l i.toNat
 have h3:i.toNat<=4294967295:=by omega
 rw[h1]
 by_cases hq:NM p l (s.getD i.toNat br)=true
 ·have hq':(ca p (s.getD i.toNat br).F l).isSome=true:=hq
  rw[if_pos hq,if_pos hq',wi];omega
 ·have hq':¬(ca p (s.getD i.toNat br).F l).isSome=true:=hq
  rw[if_neg hq,if_neg hq',wi];omega
def oH(n h:Nat)(l:List au):Prop:=∀t∈l,t.b9.length<=n/\t.db.length=h
def agH:=bE (α:=(List au)×aw×ap×(List Int)×Int) (qC (qL .bO) (qC (qA .cw) (qC (qA .dW) (qC (qL .int) (q1 qI))))) [.mv,.ro,.ro,.ro,.ro] (fun(out,r,s,ids,id)=>[L4 (aj s.aa),cz r.ai<=4294967295,ids.length+1<=r.ai.length,r.ai.length<=4294967295,out.length+1<=4294967295]) (fun(out,r,s,ids,id)=>⟨[dL .bO (out++fP r s.aa ids id)],[],[]⟩)
def aiy:HH:=hF agH func229 [QY] a0 fun x hp hb=>by
 obtain⟨out,r,s,ids,id⟩:=x
 have aps:L9 out.length:=eD (hb _ m0)
 have cr:=gL (x:=r) (hb _ m1)
 have gx:=cr.1
 have gw:=cr.2.1
 have fH:=cr.2.2.1
 have gy:=cr.2.2.2
 have eR:=eG (x:=s) (hb _ m2)
 have GC:L9 ids.length:=eD (hb _ m3)
 have E8:=mL (n:=id) (hb _ m4)
 have bP:aj s.aa<=4294967296:=hp _ m0
 have jv:cz r.ai<=4294967295:=hp _ m1
 have uZ:ids.length+1<=r.ai.length:=hp _ m2
 have AD:r.ai.length<=4294967295:=hp _ m3
 have Oc:out.length+1<=4294967295:=hp _ m4
 clear hp hb
 apply vE (let x0:List Int:=[]++ids++[id];0+ids.length<=4294967296/\([]++ids).length+List.length [id]<=4294967296/\L4 (aj s.aa)/\cz r.ai<=4294967295/\x0.length<=r.ai.length/\bif !(aY {aa:=s.aa,Next:=s.Next:ap}.aa {Name:=r.Name,mM:=r.mM,ai:=r.ai,bA:=r.bA,cp:=r.cp:aw}.ai {τ:=Cd.int,xs:=x0:fK UU}.xs []).2 then Lf [VL .bO out] [VL .bO (out++fP r s.aa ids id)] else out.length+List.length [{b9:=x0,db:=[]:au}]<=4294967296/\Lf [VL .bO (out++[{b9:=x0,db:=[]:au}])] [VL .bO (out++fP r s.aa ids id)])
 dsimp only
 refine⟨by(try simp only[ii]);omega,by(try simp only[List.nil_append,iD,ii]);omega,bP,jv,by(try simp only[List.nil_append,kF,iD,ii]);omega,bT (fun g=> ?_) (fun g=>⟨by(try simp only[iD,ii]);omega,?_⟩)⟩
 ·have g:(aY s.aa r.ai (ids++[id]) []).2=false:=g
  rw[fP,if_neg (by rw[g];exact Bool.false_ne_true),sI];exact aO _
 ·have g:(aY s.aa r.ai (ids++[id]) []).2=true:=g
  rw[fP,if_pos g];exact aO _
def WI:=bE (α:=aw×ap×au) (qC (qA .cw) (qC (qA .dW) (q1 (qA .bO)))) [.ro,.ro,.mv] (fun(r,s,t)=>[aj s.aa<=4294967295,cz r.ai<=2147483647,t.b9.length<=r.ai.length,r.ai.length<=4294967295]) (fun(r,s,t)=>⟨[dA .bO (mw r s.aa t)],[],[]⟩)
def BZ(r:aw)(s:ap)(t:au):Int×T0×T5×T6×T6×List aW×Unit->Prop:=fun(i,b,c,t',z,l,_)=>z=([],[],())/\b=(r.Name,r.mM,r.ai,r.bA,r.cp,())/\c=(s.aa,s.Next,())/\l=(aY s.aa r.ai t.b9 []).1/\0<=i/\i<=s.aa.length/\t'.1=t.b9/\t'.2.1=sQ r (s.aa.take i.toNat) (aY s.aa r.ai t.b9 []).1
def A8(r:aw)(s:ap)(t:au):Int×T0×T5×T6×T6×List aW×Unit->Nat:=fun(i,b,c,t',z,l,_)=>s.aa.length-i.toNat
def BY(r:aw)(s:ap)(t:au):Int×Int×T0×T5×T6×T6×List aW×List Int×Unit->Int×Int×T0×T5×T6×T6×List aW×List Int×Unit->Prop:=fun(i0,k0,b0,c0,t0,z0,l0,h0,_) (i,k,b,c,t',z,l,h,_)=>z=([],[],())/\i=i0/\b=b0/\c=c0/\l=l0/\h=h0/\t'.1=t0.1/\0<=k/\k<=h0.length/\t'.2.1=List.zipWith (fun a b:Int=>IntKind.wrap .i64 (a+b)) (t0.2.1.take k.toNat) (h0.take k.toNat)++t0.2.1.drop k.toNat
def A7(r:aw)(s:ap)(t:au):Int×Int×T0×T5×T6×T6×List aW×List Int×Unit->Nat:=fun(i,k,b,c,t',z,l,h,_)=>h.length-k.toNat
def akB:AX WI:=fun(r,s,t)=>bq [(4,az [iI 9,.box 3 (3,1024) [.lit .str,.lit (.int .i64),.shr .cq,.shr .cQ,.shr .eT],.box 4 (4,1024) [.shr .cg,.lit (.int .i64)],.box 5 (5,1024) [.own .int true,.own .int true],.box 6 (6,1024) [.own .int true,.own .int true],iH 7 .b8] (fun _=>BZ r s t) (A8 r s t)),(8,az [iI 9,iI 11,.box 3 (3,1024) [.lit .str,.lit (.int .i64),.shr .cq,.shr .cQ,.shr .eT],.box 4 (4,1024) [.shr .cg,.lit (.int .i64)],.box 5 (5,1024) [.own .int true,.own .int true],.box 6 (6,1024) [.own .int true,.own .int true],iH 7 .b8,iO 10 .int] (BY r s t) (A7 r s t))]
def aix:HH:=hF WI func230 [QY,XI,acj] akB fun x hp hb=>by
 obtain⟨r,s,t⟩:=x
 have aG:=gL (x:=r) (hb _ m0)
 have gx:=aG.1
 have gw:=aG.2.1
 have fH:=aG.2.2.1
 have gy:=aG.2.2.2
 have eR:=eG (x:=s) (hb _ m1)
 have sW:=p5 (x:=t) (hb _ m2)
 have PX:=sW.1
 have NH:=sW.2
 have bP:aj s.aa<=4294967295:=hp _ m0
 have jv:cz r.ai<=2147483647:=hp _ m1
 have uZ:t.b9.length<=r.ai.length:=hp _ m2
 have AD:r.ai.length<=4294967295:=hp _ m3
 clear hp hb
 apply vE (let x0:=wrap i64 ((r.ai.length:Int)-(↑(eE r.ai):Int));let q0:=List Int×List Int×PUnit;let q1:=BA×Int×List bc×List dj×List en×PUnit;L4 (aj s.aa)/\cz r.ai<=4294967295/\t.b9.length<=r.ai.length/\0<=x0/\x0=x0/\x0<=4294967296/\BZ r s t (0,(r.Name,r.mM,r.ai,r.bA,r.cp,()),(s.aa,s.Next,()),(t.b9,List.replicate x0.toNat 0,()),([],[],()),(aY {aa:=s.aa,Next:=s.Next:ap}.aa {Name:=r.Name,mM:=r.mM,ai:=r.ai,bA:=r.bA,cp:=r.cp:aw}.ai {τ:=Cd.int,xs:=t.b9:fK UU}.xs []).1,())/\∀(y:Int×q1×Lh×q0×q0×List aW×PUnit),let x2:=y.2.2.1.1.length;let x1:=(↑x2:Int);let q2:=(y.1,0,(y.2.1.1,y.2.1.2.1,y.2.1.2.2.1,y.2.1.2.2.2.1,y.2.1.2.2.2.2.1,()),(y.2.2.1.1,y.2.2.1.2.1,()),(y.2.2.2.1.1,y.2.2.2.1.2.1,()),(y.2.2.2.2.1.1,y.2.2.2.2.1.2.1,()),y.2.2.2.2.2.1,ow {Name:=y.2.1.1,mM:=y.2.1.2.1,ai:=y.2.1.2.2.1,bA:=y.2.1.2.2.2.1,cp:=y.2.1.2.2.2.2.1:aw} (y.2.2.1.1.getD y.1.toNat br).F y.2.2.2.2.2.1,());BZ r s t y->bif decide (y.1<x1) then 0<=y.1/\y.1.toNat<x2/\y.2.2.2.2.2.1.length+cz y.2.1.2.2.1<=4294967295/\y.2.1.2.2.1.length<=4294967295/\BY r s t q2 q2/\∀(av:Int×Int×q1×Lh×q0×q0×List aW×List Int×PUnit),let x4:=av.2.2.2.2.2.2.2.1.length;let x5:=av.2.1.toNat;let x3:=(↑x4:Int);let q3:=(av.1,wrap i64 (av.2.1+1),(av.2.2.1.1,av.2.2.1.2.1,av.2.2.1.2.2.1,av.2.2.1.2.2.2.1,av.2.2.1.2.2.2.2.1,()),(av.2.2.2.1.1,av.2.2.2.1.2.1,()),(av.2.2.2.2.1.1,av.2.2.2.2.1.2.1.set x5 (wrap i64 (av.2.2.2.2.1.2.1.getD x5 0+av.2.2.2.2.2.2.2.1.getD x5 0)),()),(av.2.2.2.2.2.1.1,av.2.2.2.2.2.1.2.1,()),av.2.2.2.2.2.2.1,av.2.2.2.2.2.2.2.1,());let q4:=(wrap i64 (av.1+1),(av.2.2.1.1,av.2.2.1.2.1,av.2.2.1.2.2.1,av.2.2.1.2.2.2.1,av.2.2.1.2.2.2.2.1,()),(av.2.2.2.1.1,av.2.2.2.1.2.1,()),(av.2.2.2.2.1.1,av.2.2.2.2.1.2.1,()),(av.2.2.2.2.2.1.1,av.2.2.2.2.2.1.2.1,()),av.2.2.2.2.2.2.1,());BY r s t q2 av->bif decide (av.2.1<x3) then 0<=av.2.1/\x5<av.2.2.2.2.1.2.1.length/\x5<av.2.2.2.2.1.2.1.length/\0<=av.2.1/\x5<x4/\x5<x4/\0<=av.2.1/\x5<av.2.2.2.2.1.2.1.length/\x5<av.2.2.2.2.1.2.1.length/\BY r s t q2 q3/\A7 r s t q3<A7 r s t av else BZ r s t q4/\A8 r s t q4<A8 r s t y else Lf [DV.agg [CL .int y.2.2.2.1.1,CL .int y.2.2.2.1.2.1]] [DV.agg [CL .int (mw r s.aa t).b9,CL .int (mw r s.aa t).db]])
 dsimp only
 have hpn:=Is r.ai
 have rj:=px s.aa r.ai t.b9 []
 have RC:s.aa.length<=4294967295:=by simp only[aj] at bP;omega
 have wl:(cB r true).length+eE r.ai=r.ai.length:=by unfold cB;omega
 simp only[ii] at rj
 rw[wi (n:=(r.ai.length:Int)-(eE r.ai:Int))]
 refine⟨by omega,by omega,uZ,by omega,rfl,by omega,⟨rfl,rfl,rfl,rfl,by omega,by omega,rfl,?_⟩,?_⟩
 ·show List.replicate ((r.ai.length:Int)-(eE r.ai:Int)).toNat (0:Int)=sQ r [] _
  rw[KU]
  congr 1
  omega
 rintro⟨i,⟨a1,a2,a3,a4,a5,⟨⟩⟩,⟨b1,b2,⟨⟩⟩,⟨t1,t2,⟨⟩⟩,⟨z1,z2,⟨⟩⟩,l,⟨⟩⟩ ⟨hz,ha0,hb,hl,h1,h2,Tw,Oa⟩
 cases hz
 cases ha0
 cases hb
 replace hl:l=(aY s.aa r.ai t.b9 []).1:=hl
 replace Tw:t1=t.b9:=Tw
 replace Oa:t2=sQ r (s.aa.take i.toNat) (aY s.aa r.ai t.b9 []).1:=Oa
 rw[<-hl] at Oa rj
 simp only
 refine aE ?_ ?_<;>intro hc
 ·have nd:=KV r s.aa l h1 hc RC
  have hh1:(ow r (s.aa.getD i.toNat br).F l).length=(cB r true).length:=by simp[ow]
  have hh2:t2.length=(cB r true).length:=by rw[Oa];simp[sQ]
  refine⟨h1,by omega,by omega,AD,⟨rfl,rfl,rfl,rfl,rfl,rfl,rfl,by omega,by omega,rfl⟩,?_⟩
  rintro⟨i',k,⟨a1,a2,a3,a4,a5,⟨⟩⟩,⟨b1,b2,⟨⟩⟩,⟨u1,u2,⟨⟩⟩,⟨z1,z2,⟨⟩⟩,l',h,⟨⟩⟩ ⟨hz,e0,ea,eb,el,eh,et,g1,g2,g3⟩
  cases hz
  replace e0:i'=i:=e0
  subst i'
  cases ea
  cases eb
  replace el:l'=l:=el
  subst l'
  replace eh:h=ow r (s.aa.getD i.toNat br).F l:=eh
  replace et:u1=t1:=et
  subst u1
  replace g2:k<=(ow r (s.aa.getD i.toNat br).F l).length:=g2
  replace g3:u2=List.zipWith (fun a b:Int=>IntKind.wrap .i64 (a+b)) (t2.take k.toNat) ((ow r (s.aa.getD i.toNat br).F l).take k.toNat)++t2.drop k.toNat:=g3
  simp only
  refine aE ?_ ?_<;>intro hk
  ·have hk:k<(h.length:Int):=hk
   rw[eh] at hk⊢
   have V0:k+1<=((ow r (s.aa.getD i.toNat br).F l).length:Int):=by omega
   obtain⟨q1,q2,q3⟩:=Om (fun a b:Int=>IntKind.wrap .i64 (a+b)) (H:=t2) (h:=ow r (s.aa.getD i.toNat br).F l) (k:=k.toNat) 0 0 (by omega) (by omega)
   rw[<-g3] at q1 q2 q3
   rw[wi (n:=k+1)]
   refine⟨g1,by omega,by omega,g1,by omega,by omega,g1,by omega,by omega,⟨rfl,rfl,rfl,rfl,rfl,rfl,rfl,by omega,V0,?_⟩,by simp only[A7];omega⟩
   show u2.set k.toNat _=List.zipWith _ (t2.take (k+1).toNat) ((ow r (s.aa.getD i.toNat br).F l).take (k+1).toNat)++t2.drop (k+1).toNat
   rw[show(k+1).toNat=k.toNat+1 by omega,q1,q2]
  ·have hk:¬k<(h.length:Int):=hk
   rw[eh] at hk
   have hz:=CB (fun a b:Int=>IntKind.wrap .i64 (a+b)) (H:=t2) (h:=ow r (s.aa.getD i.toNat br).F l) (k:=k.toNat) (by omega) (by omega)
   rw[hz,Oa,nd] at g3
   rw[wi (n:=i+1)]
   refine⟨⟨rfl,rfl,rfl,hl,by omega,by omega,Tw,?_⟩,by simp only[A8];omega⟩
   show u2=sQ r (s.aa.take (i+1).toNat) (aY s.aa r.ai t.b9 []).1
   rw[g3,hl]
 ·rw[EM (by omega)] at Oa
  subst Oa
  subst Tw
  rw[hl]
  exact aO _
def WJ:=bE (α:=aw×ap×(List au)×bf×Int) (qC (qA .cw) (qC (qA .dW) (qC (qL .bO) (qC (qA .eP) (q1 qI))))) [.ro,.ro,.wr,.ro,.ro] (fun(r,s,bQ,f,n)=>[aj s.aa<=4294967295,cz r.ai<=2147483647,r.ai.length<=4294967295,oH r.ai.length (cB r true).length bQ]) (fun(r,s,bQ,f,n)=>⟨[],[],[dL .bO (bQ.map (pK r s.aa f n))]⟩)
def B4(r:aw)(s:ap)(bQ:List au)(f:bf)(n:Int):Int×List au×T0×T5×T2×Unit->Prop:=fun(i,l,b,c,g,_)=>b=(r.Name,r.mM,r.ai,r.bA,r.cp,())/\c=(s.aa,s.Next,())/\g=(f.Kind,f.ak,())/\0<=i/\i<=bQ.length/\l=(bQ.take i.toNat).map (pK r s.aa f n)++bQ.drop i.toNat
def xH(r:aw)(s:ap)(bQ:List au)(f:bf)(n:Int):Int×List au×T0×T5×T2×Unit->Nat:=fun(i,l,b,c,g,_)=>bQ.length-i.toNat
def B3(r:aw)(s:ap)(bQ:List au)(f:bf)(n:Int):Int×Int×List au×T0×T5×T2×Bool×List Int×Unit->Int×Int×List au×T0×T5×T2×Bool×List Int×Unit->Prop:=fun(i0,k0,l0,b0,c0,g0,ok0,h0,_) (i,k,l,b,c,g,ok,h,_)=>i=i0/\b=b0/\c=c0/\g=g0/\ok=ok0/\h=h0/\0<=k/\k<=h0.length/\(ok0=false->l=l0)/\l=l0.set i0.toNat ⟨(l0.getD i0.toNat aT).b9,Le n ((l0.getD i0.toNat aT).db.take k.toNat) (h0.take k.toNat)++(l0.getD i0.toNat aT).db.drop k.toNat⟩
def A9(r:aw)(s:ap)(bQ:List au)(f:bf)(n:Int):Int×Int×List au×T0×T5×T2×Bool×List Int×Unit->Nat:=fun(i,k,l,b,c,g,ok,h,_)=>h.length-k.toNat
def akC:AX WJ:=fun(r,s,bQ,f,n)=>bq [(2,az [iI 10,.slot 2 (2000002,0) (.own .bO true),.box 5 (5,1024) [.lit .str,.lit (.int .i64),.shr .cq,.shr .cQ,.shr .eT],.box 6 (6,1024) [.shr .cg,.lit (.int .i64)],.box 8 (8,1024) [.lit .str,.shr .bC]] (fun _=>B4 r s bQ f n) (xH r s bQ f n)),(7,az [iI 10,iI 14,.slot 2 (2000002,0) (.own .bO true),.box 5 (5,1024) [.lit .str,.lit (.int .i64),.shr .cq,.shr .cQ,.shr .eT],.box 6 (6,1024) [.shr .cg,.lit (.int .i64)],.box 8 (8,1024) [.lit .str,.shr .bC],iB 12,iO 13 .int] (B3 r s bQ f n) (A9 r s bQ f n))]
def aiz:HH:=hF WJ func228 [QY,XI] akC fun x hp hb=>by
 obtain⟨r,s,bQ,f,n⟩:=x
 have aG:=gL (x:=r) (hb _ m0)
 have gx:=aG.1
 have gw:=aG.2.1
 have fH:=aG.2.2.1
 have gy:=aG.2.2.2
 have eR:=eG (x:=s) (hb _ m1)
 have TK:L9 bQ.length:=eD (hb _ m2)
 have hz3:=jM (x:=f) (hb _ m3)
 have lz:=hz3.1
 have iL:=hz3.2
 have apt:=mL (n:=n) (hb _ m4)
 have bP:aj s.aa<=4294967295:=hp _ m0
 have jv:cz r.ai<=2147483647:=hp _ m1
 have uZ:r.ai.length<=4294967295:=hp _ m2
 have AD:oH r.ai.length (cB r true).length bQ:=hp _ m3
 clear hp hb
 apply vE (let q0:=BA×Int×List bc×List dj×List en×PUnit;B4 r s bQ f n (0,bQ,(r.Name,r.mM,r.ai,r.bA,r.cp,()),(s.aa,s.Next,()),(f.Kind,f.ak,()),())/\∀(y:Int×List au×q0×Lh×J8×PUnit),let x0:={Name:=y.2.2.1.1,mM:=y.2.2.1.2.1,ai:=y.2.2.1.2.2.1,bA:=y.2.2.1.2.2.2.1,cp:=y.2.2.1.2.2.2.2.1:aw};let x1:=y.2.2.1.2.2.1.length;let x2:=cz y.2.2.1.2.2.1;let x4:=y.2.1.length;let x3:=(↑x4:Int);let q1:=(y.1,0,y.2.1,(y.2.2.1.1,y.2.2.1.2.1,y.2.2.1.2.2.1,y.2.2.1.2.2.2.1,y.2.2.1.2.2.2.2.1,()),(y.2.2.2.1.1,y.2.2.2.1.2.1,()),(y.2.2.2.2.1.1,y.2.2.2.2.1.2.1,()),(aY {aa:=y.2.2.2.1.1,Next:=y.2.2.2.1.2.1:ap}.aa x0.ai {τ:=Cd.int,xs:=(List.getD {τ:=Cd.bO,xs:=y.2.1:fK UU}.xs y.1.toNat (UU.dt {τ:=Cd.bO,xs:=y.2.1:fK UU}.τ)).b9:fK UU}.xs []).2,ow x0 {Kind:=y.2.2.2.2.1.1,ak:=y.2.2.2.2.1.2.1:bf} (aY {aa:=y.2.2.2.1.1,Next:=y.2.2.2.1.2.1:ap}.aa x0.ai {τ:=Cd.int,xs:=(List.getD {τ:=Cd.bO,xs:=y.2.1:fK UU}.xs y.1.toNat (UU.dt {τ:=Cd.bO,xs:=y.2.1:fK UU}.τ)).b9:fK UU}.xs []).1,());B4 r s bQ f n y->bif decide (y.1<x3) then 0<=y.1/\y.1.toNat<x4/\y.1.toNat<x4/\y.1.toNat<x4/\L4 (aj y.2.2.2.1.1)/\x2<=4294967295/\(y.2.1.getD y.1.toNat aT).b9.length<=x1/\(aY {aa:=y.2.2.2.1.1,Next:=y.2.2.2.1.2.1:ap}.aa x0.ai {τ:=Cd.int,xs:=(List.getD {τ:=Cd.bO,xs:=y.2.1:fK UU}.xs y.1.toNat (UU.dt {τ:=Cd.bO,xs:=y.2.1:fK UU}.τ)).b9:fK UU}.xs []).1.length+x2<=4294967295/\x1<=4294967295/\B3 r s bQ f n q1 q1/\∀(av:Int×Int×List au×q0×Lh×J8×Bool×List Int×PUnit),let x6:=av.2.2.2.2.2.2.2.1.length;let x7:=av.2.1.toNat;let x8:=(av.2.2.1.getD av.1.toNat aT).db;let x5:=(↑x6:Int);let q2:=(wrap i64 (av.1+1),av.2.2.1,(av.2.2.2.1.1,av.2.2.2.1.2.1,av.2.2.2.1.2.2.1,av.2.2.2.1.2.2.2.1,av.2.2.2.1.2.2.2.2.1,()),(av.2.2.2.2.1.1,av.2.2.2.2.1.2.1,()),(av.2.2.2.2.2.1.1,av.2.2.2.2.2.1.2.1,()),());let q3:=wrap i64 (x8.getD x7 0+wrap i64 (n*av.2.2.2.2.2.2.2.1.getD x7 0));let q4:=(av.2.2.2.1.1,av.2.2.2.1.2.1,av.2.2.2.1.2.2.1,av.2.2.2.1.2.2.2.1,av.2.2.2.1.2.2.2.2.1,());let q5:=B4 r s bQ f n q2/\xH r s bQ f n q2<xH r s bQ f n y;let q6:=(av.2.2.2.2.2.1.1,av.2.2.2.2.2.1.2.1,());let q7:=(av.2.2.2.2.1.1,av.2.2.2.2.1.2.1,());B3 r s bQ f n q1 av->bif decide (av.2.1<x5) then bif av.2.2.2.2.2.2.1 then 0<=av.1/\av.1.toNat<av.2.2.1.length/\av.1.toNat<av.2.2.1.length/\0<=av.1/\av.1.toNat<av.2.2.1.length/\av.1.toNat<av.2.2.1.length/\av.1.toNat<av.2.2.1.length/\0<=av.2.1/\x7<x8.length/\av.1.toNat<av.2.2.1.length/\x7<x8.length/\0<=av.2.1/\x7<x6/\x7<x6/\av.1.toNat<av.2.2.1.length/\0<=av.2.1/\x7<x8.length/\av.1.toNat<av.2.2.1.length/\x7<x8.length/\B3 r s bQ f n q1 (av.1,wrap i64 (av.2.1+1),av.2.2.1.modify av.1.toNat fun(x:au)=>{b9:=x.b9,db:=x8.set x7 q3:au},q4,q7,q6,av.2.2.2.2.2.2.1,av.2.2.2.2.2.2.2.1,())/\A9 r s bQ f n (av.1,wrap i64 (av.2.1+1),av.2.2.1.modify av.1.toNat fun(x:au)=>{b9:=x.b9,db:=x8.set x7 q3:au},q4,q7,q6,av.2.2.2.2.2.2.1,av.2.2.2.2.2.2.2.1,())<A9 r s bQ f n av else q5 else q5 else AQ []=AQ []/\AQ [VL .bO y.2.1]=AQ [VL .bO (bQ.map (pK r s.aa f n))])
 dsimp only
 refine⟨⟨rfl,rfl,rfl,by omega,by omega,by simp⟩,?_⟩
 rintro⟨i,l,⟨a1,a2,a3,a4,a5,⟨⟩⟩,⟨b1,b2,⟨⟩⟩,⟨c1,c2,⟨⟩⟩,⟨⟩⟩ ⟨ha0,hb,L6,h1,h2,hl⟩
 cases ha0
 cases hb
 cases L6
 have wm:l.length=bQ.length:=by rw[hl,kF,wj,mO,FT];omega
 simp only
 refine aE ?_ ?_<;>intro hc
 ·have hi:i.toNat<bQ.length:=by omega
  obtain⟨q1,q2,_⟩:=aak (pK r s.aa f n) aT hi
  rw[<-hl] at q1 q2
  have hm:bQ.getD i.toNat aT∈bQ:=by
   rw[gh,gr hi];exact N6 _
  obtain⟨f1,f2⟩:=AD _ hm
  have rj:=px s.aa r.ai (bQ.getD i.toNat aT).b9 []
  have hh:∀B,(ow r f B).length=(cB r true).length:=fun B=>by simp[ow]
  refine⟨h1,by omega,by omega,by omega,by omega,by omega,by rw[q1];exact f1,?_,uZ,⟨rfl,rfl,rfl,rfl,rfl,rfl,by omega,by omega,fun _=>rfl,(pM aT).symm⟩,?_⟩
  ·show(aY s.aa r.ai (l.getD i.toNat aT).b9 []).1.length+cz r.ai<=_
   rw[q1]
   simp only[ii] at rj
   omega
  ·rintro⟨i',k,l',⟨a1,a2,a3,a4,a5,⟨⟩⟩,⟨b1,b2,⟨⟩⟩,⟨c1,c2,⟨⟩⟩,ok,h,⟨⟩⟩ ⟨e0,ea,eb,ec,eo,eh,g1,g2,g3,g4⟩
   replace e0:i'=i:=e0
   subst i'
   cases ea
   cases eb
   cases ec
   replace eo:ok=(aY s.aa r.ai (l.getD i.toNat aT).b9 []).2:=eo
   replace eh:h=ow r f (aY s.aa r.ai (l.getD i.toNat aT).b9 []).1:=eh
   replace g2:k<=(ow r f (aY s.aa r.ai (l.getD i.toNat aT).b9 []).1).length:=g2
   replace g3:(aY s.aa r.ai (l.getD i.toNat aT).b9 []).2=false->l'=l:=g3
   replace g4:l'=l.set i.toNat ⟨(l.getD i.toNat aT).b9,Le n ((l.getD i.toNat aT).db.take k.toNat) ((ow r f (aY s.aa r.ai (l.getD i.toNat aT).b9 []).1).take k.toNat)++(l.getD i.toNat aT).db.drop k.toNat⟩:=g4
   have hT:pK r s.aa f n (bQ.getD i.toNat aT)=if ok=true then⟨(bQ.getD i.toNat aT).b9,Le n (bQ.getD i.toNat aT).db h⟩ else bQ.getD i.toNat aT:=by rw[eo,eh,q1];rfl
   rw[<-eh] at g2 g4
   rw[<-eo] at g3
   have hhl:h.length=(cB r true).length:=by rw[eh];exact hh _
   rw[q1] at g4
   have eo0:=eo
   have eh0:=eh
   have eo':=eo
   rw[q1] at eo'
   clear eo eh rj
   generalize List.getD bQ i.toNat aT=t at*
   have hx:l'.getD i.toNat aT=⟨t.b9,Le n (t.db.take k.toNat) (h.take k.toNat)++t.db.drop k.toNat⟩:=by rw[g4,GK _ _ (by omega)]
   have apv:l'.length=bQ.length:=by rw[g4,zF];exact wm
   simp only
   have out:∀Pp:List au,Pp=l.set i.toNat (pK r s.aa f n t)->(Pp=(bQ.take (i+1).toNat).map (pK r s.aa f n)++bQ.drop (i+1).toNat):=fun Pp e=>by
    rw[e,q2,show(i+1).toNat=i.toNat+1 by omega]
   have hw:IntKind.wrap .i64 (i+1)=i+1:=wi
   have wl:(cB r true).length<=r.ai.length:=Lo _ _
   refine aE (fun hk=>ae (fun ho=> ?_) (fun ho=> ?_)) (fun hk=> ?_)
   ·have hk:k<(h.length:Int):=hk
    have ho:ok=true:=ho
    have V0:k+1<=((ow r f (aY s.aa r.ai (l.getD i.toNat aT).b9 []).1).length:Int):=by rw[hh];omega
    have lg:k.toNat<t.db.length:=by omega
    have eS:k.toNat<h.length:=by omega
    obtain⟨z1,z2,z3⟩:=Om (fun a b:Int=>IntKind.wrap .i64 (a+IntKind.wrap .i64 (n*b))) (H:=t.db) (h:=h) (k:=k.toNat) 0 0 lg eS
    have PJ:(l'.getD i.toNat aT).db.length=t.db.length:=by rw[hx];exact z3
    have hxg:(l'.getD i.toNat aT).db.getD k.toNat 0=t.db.getD k.toNat 0:=by rw[hx];exact z2
    rw[wi (n:=k+1)]
    refine⟨h1,by omega,by omega,h1,by omega,by omega,by omega,g1,by omega,by omega,by omega,g1,eS,eS,by omega,g1,by omega,by omega,by omega,⟨rfl,rfl,rfl,rfl,eo0,eh0,by omega,V0,?_,?_⟩,by simp only[A9];omega⟩
    ·intro e
     replace e:(aY s.aa r.ai (l.getD i.toNat aT).b9 []).2=false:=e
     rw[q1] at e
     rw[<-eo',ho] at e;cases e
    ·show l'.modify i.toNat (fun x:au=>{b9:=x.b9,db:=(l'.getD i.toNat aT).db.set k.toNat (IntKind.wrap .i64 ((l'.getD i.toNat aT).db.getD k.toNat 0+IntKind.wrap .i64 (n*h.getD k.toNat 0)))})=l.set i.toNat ⟨(l.getD i.toNat aT).b9,Le n ((l.getD i.toNat aT).db.take (k+1).toNat) ((ow r f (aY s.aa r.ai (l.getD i.toNat aT).b9 []).1).take (k+1).toNat)++(l.getD i.toNat aT).db.drop (k+1).toNat⟩
     rw[S0 aT,hxg,hx,g4,List.set_set,<-eh0,q1,show(k+1).toNat=k.toNat+1 by omega]
     congr 2
     exact z1.symm
   ·have ho:ok=false:=ho
    have e:=g3 ho
    refine⟨⟨rfl,rfl,rfl,by omega,by omega,?_⟩,by simp only[xH];omega⟩
    rw[hw]
    refine out l' ?_
    rw[hT,ho,e,if_neg Bool.false_ne_true,<-q1]
    exact(pM aT).symm
   ·refine⟨⟨rfl,rfl,rfl,by omega,by omega,?_⟩,by simp only[xH];omega⟩
    rw[hw]
    refine out l' ?_
    have hk:¬k<(h.length:Int):=hk
    rw[hT]
    cases ho:ok with
    |true=>
     rw[if_pos rfl,g4]
     congr 2
     exact CB _ (by omega) (by omega)
    |false=>
     rw[if_neg Bool.false_ne_true,g3 ho,<-q1]
     exact(pM aT).symm
 ·have e:=KB (pK r s.aa f n) (l:=bQ) (k:=i.toNat) (by omega)
  rw[e] at hl
  subst hl
  exact⟨trivial,rfl⟩
def pR(g:bh)(ids:List Int)(x:Int):List au:=if(aY g.s.aa g.bH (ids++[x]) []).2=true then[⟨ids++[x],if(ids++[x]).length=g.bH.length then g.ey.map fun p=>(ja p g.s.aa (aY g.s.aa g.bH (ids++[x]) []).1:Int) else[]⟩] else[]
def dZ(g:bh)(ids items:List Int):List au:=items.flatMap (pR g ids)
theorem KC(g:bh)(ids:List Int){items:List Int}{i:Int}(h0:0<=i)(h:i<items.length):dZ g ids (items.drop i.toNat)=pR g ids (items.getD i.toNat 0)++dZ g ids (items.drop (i+1).toNat):=by
 rw[cj items 0 h0 h];rfl
def qn(g:bh)(n:Int)(t:au):au:=if(aY g.s.aa g.bH t.b9 []).2=true then⟨t.b9,List.zipWith (fun a p=>if(ca p (ax g.s.aa g.id) (aY g.s.aa g.bH t.b9 []).1).isSome=true then IntKind.wrap .i64 (a+n) else a) t.db g.ey⟩ else t
def gq(g:bh)(i:Nat):List Int:=(g.mem.getD (g.chain.Pos.getD i 0).toNat cS).L
def qV(g:bh)(i:Nat)(b f:List au):List au:=if i=0 then dZ g [] [g.id] else b.flatMap (fun t=>dZ g t.b9 [g.id])++f.flatMap (fun t=>dZ g t.b9 (gq g i))
def pk(g:bh):Nat->List aq->List au->List au->List aq
 |_,[],_,_=>[]
 |i,v::r,b,f=>⟨v.bi++qV g i b f⟩::pk g (i+1) r v.bi (qV g i b f)
def ql(g:bh):Nat->List aq->List au->List au->Prop
 |_,[],_,_=>True
 |i,v::r,b,f=>i<g.bH.length/\i<g.chain.Pos.length/\0<=g.chain.Pos.getD i 0/\g.chain.Pos.getD i 0<g.mem.length/\(∀t∈b,t.b9.length=i)/\(∀t∈f,t.b9.length=i)/\
  v.bi.length+(1+b.length+f.length+f.length*(gq g i).length)<=4294967295/\ql g (i+1) r v.bi (qV g i b f)
theorem Nh(g:bh)(ids:List Int)(x:Int):(pR g ids x).length<=1:=by
 unfold pR;split<;>simp
theorem kB{α β:Type}(h:α->List β)(B:Nat):∀(l:List α),(∀x∈l,(h x).length<=B)->(l.flatMap h).length<=l.length*B
 |[],_=>by simp
 |x::l,hh=>by
  have h1:=hh x cH
  have h2:=kB h B l (fun y hy=>hh y (aJ _ hy))
  rw[tV,kF,iD,ta]
  omega
theorem mZ(g:bh)(ids items:List Int):(dZ g ids items).length<=items.length:=by
 have:=kB (pR g ids) 1 items (fun x _=>Nh g ids x)
 unfold dZ;omega
theorem qZ{α β:Type}(h:α->List β){l:List α}{k:Int}(z:α)(h0:0<=k)(hk:k<l.length):(l.take (k+1).toNat).flatMap h=(l.take k.toNat).flatMap h++h (l.getD k.toNat z):=by
 rw[show(k+1).toNat=k.toNat+1 by omega,nL z (by omega),N3]
 simp
theorem getDM{α:Type}{l:List α}{k:Nat}(z:α)(h:k<l.length):l.getD k z∈l:=by
 rw[gh,gr h];exact N6 _
theorem Lt{α:Type}{l:List α}{k:Nat}(x:α)(h:k<l.length):(l.set k x).take (k+1)=l.take k++[x]/\(l.set k x).drop (k+1)=l.drop (k+1):=by
 refine⟨?_,?_⟩
 ·rw[nL x (by rw[zF];exact h),GK _ _ h,List.take_set_of_le (og _)]
 ·rw[List.drop_set_of_lt (by omega)]
def Wv:=bE (α:=bh×(List Int)×(List Int)) (qC (qA .gM) (qC (qL .int) (q1 (qL .int)))) [.ro,.ro,.ro] (fun(g,ids,items)=>[aj g.s.aa<=4294967295,cz g.bH<=2147483647,cz g.ey<=2147483647,ids.length+1<=g.bH.length,g.bH.length<=4294967295,g.ey.length<=4294967295,items.length<=4294967295]) (fun(g,ids,items)=>⟨[dL .bO (dZ g ids items)],[],[]⟩)
def uS(g:bh)(ids:List Int)(items:List Int):List au×Int×T4×Unit->Prop:=fun(o,i,b,_)=>b=(g.bH,g.ey,g.chain.Pos,g.chain.Neg,g.mem,g.s.aa,g.s.Next,g.id,())/\0<=i/\i<=items.length/\o.length<=i/\o++dZ g ids (items.drop i.toNat)=dZ g ids items
def nF(g:bh)(ids:List Int)(items:List Int):List au×Int×T4×Unit->Nat:=fun(o,i,b,_)=>items.length-i.toNat
def xV(g:bh)(ids:List Int)(items:List Int):List au×Int×Int×T4×T6×List aW×Unit->List au×Int×Int×T4×T6×List aW×Unit->Prop:=fun(o0,i0,k0,b0,t0,l0,_) (o,i,k,b,t,l,_)=>o=o0/\i=i0/\b=b0/\l=l0/\t.1=t0.1/\0<=k/\k<=g.ey.length/\t.2.1=(g.ey.take k.toNat).map (fun p=>(ja p g.s.aa l0:Int))
def xG(g:bh)(ids:List Int)(items:List Int):List au×Int×Int×T4×T6×List aW×Unit->Nat:=fun(o,i,k,b,t,l,_)=>g.ey.length-k.toNat
def akm:AX Wv:=fun(g,ids,items)=>bq [(3,az [iO 7 .bO,iI 18,.box 3 (3,1024) [.shr .cq,.shr .cq,.shr .int,.shr .int,.shr .cD,.shr .cg,.lit (.int .i64),.lit (.int .i64)]] (fun _=>uS g ids items) (nF g ids items)),(11,az [iO 7 .bO,iI 18,iI 49,.box 3 (3,1024) [.shr .cq,.shr .cq,.shr .int,.shr .int,.shr .cD,.shr .cg,.lit (.int .i64),.lit (.int .i64)],.box 13 (13,1024) [.own .int true,.own .int true],iO 11 .b8] (xV g ids items) (xG g ids items))]
def aih:HH:=hF Wv func254 [ah1,XJ,ah0] akm fun x hp hb=>by
 obtain⟨g,ids,items⟩:=x
 have aG:=vV (x:=g) (hb _ m0)
 have E9:=aG.1
 have E_:=aG.2.1
 have tz:=aG.2.2.1
 have tA:=aG.2.2.2.1
 have IQ:=aG.2.2.2.2.1
 have wN:=aG.2.2.2.2.2
 have GC:L9 ids.length:=eD (hb _ m1)
 have aeH:L9 items.length:=eD (hb _ m2)
 have bP:aj g.s.aa<=4294967295:=hp _ m0
 have jv:cz g.bH<=2147483647:=hp _ m1
 have uZ:cz g.ey<=2147483647:=hp _ m2
 have AD:ids.length+1<=g.bH.length:=hp _ m3
 have Oc:g.bH.length<=4294967295:=hp _ m4
 have hp5:g.ey.length<=4294967295:=hp _ m5
 have hp6:items.length<=4294967295:=hp _ m6
 clear hp hb
 apply vE (let q0:=List bc×List bc×List Int×List Int×List b7×List bW×Int×Int×PUnit;uS g ids items ([],0,(g.bH,g.ey,g.chain.Pos,g.chain.Neg,g.mem,g.s.aa,g.s.Next,g.id,()),())/\∀(y:List au×Int×q0×PUnit),let x2:=y.2.2.1.2.1.length;let x3:=y.2.2.1.1.length;let x5:=y.2.1.toNat;let x1:=(↑x2:Int);let x4:=[items.getD x5 0];let x0:=ids++x4;let q1:=(y.1,y.2.1,0,(y.2.2.1.1,y.2.2.1.2.1,y.2.2.1.2.2.1,y.2.2.1.2.2.2.1,y.2.2.1.2.2.2.2.1,y.2.2.1.2.2.2.2.2.1,y.2.2.1.2.2.2.2.2.2.1,y.2.2.1.2.2.2.2.2.2.2.1,()),(x0,[],()),if(aY {aa:=y.2.2.1.2.2.2.2.2.1,Next:=y.2.2.1.2.2.2.2.2.2.1:ap}.aa y.2.2.1.1 {τ:=Cd.int,xs:=x0:fK UU}.xs []).2=true then(aY {aa:=y.2.2.1.2.2.2.2.2.1,Next:=y.2.2.1.2.2.2.2.2.2.1:ap}.aa y.2.2.1.1 {τ:=Cd.int,xs:=x0:fK UU}.xs []).1 else[],());let q2:=(y.2.2.1.1,y.2.2.1.2.1,y.2.2.1.2.2.1,y.2.2.1.2.2.2.1,y.2.2.1.2.2.2.2.1,y.2.2.1.2.2.2.2.2.1,y.2.2.1.2.2.2.2.2.2.1,y.2.2.1.2.2.2.2.2.2.2.1,());let q3:=(y.1++[{b9:=x0,db:=[]:au}],wrap i64 (y.2.1+1),q2,());let q4:=(y.1,wrap i64 (y.2.1+1),q2,());uS g ids items y->bif decide (y.2.1<(items.length:Int)) then 0<=y.2.1/\x5<items.length/\L4 ids.length/\L4 (ids.length+x4.length)/\L4 (aj y.2.2.1.2.2.2.2.2.1)/\cz y.2.2.1.1<=4294967295/\x0.length<=x3/\bif !(aY {aa:=y.2.2.1.2.2.2.2.2.1,Next:=y.2.2.1.2.2.2.2.2.2.1:ap}.aa y.2.2.1.1 {τ:=Cd.int,xs:=x0:fK UU}.xs []).2 then uS g ids items q4/\nF g ids items q4<nF g ids items y else bif (x0.length:Int)==(↑x3:Int) then xV g ids items q1 q1/\∀(av:List au×Int×Int×q0×T20×List aW×PUnit),let x7:=[{b9:=av.2.2.2.2.1.1,db:=av.2.2.2.2.1.2.1:au}];let x9:=av.2.2.1.toNat;let x8:=y.2.2.1.2.1.getD x9 dl;let x6:=[(↑(ja x8 av.2.2.2.1.2.2.2.2.2.1 av.2.2.2.2.2.1):Int)];let q5:=(av.2.2.2.1.1,av.2.2.2.1.2.1,av.2.2.2.1.2.2.1,av.2.2.2.1.2.2.2.1,av.2.2.2.1.2.2.2.2.1,av.2.2.2.1.2.2.2.2.2.1,av.2.2.2.1.2.2.2.2.2.2.1,av.2.2.2.1.2.2.2.2.2.2.2.1,());let q6:=(av.1,av.2.1,wrap i64 (av.2.2.1+1),q5,(av.2.2.2.2.1.1,av.2.2.2.2.1.2.1++x6,()),av.2.2.2.2.2.1,());let q7:=(av.1++x7,wrap i64 (av.2.1+1),q5,());xV g ids items q1 av->bif decide (av.2.2.1<x1) then 0<=av.2.2.1/\x9<x2/\av.2.2.2.2.2.1.length+x8.aA.length<=4294967295/\L4 (av.2.2.2.2.1.2.1.length+x6.length)/\xV g ids items q1 q6/\xG g ids items q6<xG g ids items av else L4 (av.1.length+x7.length)/\uS g ids items q7/\nF g ids items q7<nF g ids items y else y.1.length+List.length [{b9:=x0,db:=[]:au}]<=4294967296/\uS g ids items q3/\nF g ids items q3<nF g ids items y else Lf [VL .bO y.1] [VL .bO (dZ g ids items)])
 dsimp only
 refine⟨⟨rfl,by omega,by omega,by simp,rfl⟩,?_⟩
 rintro⟨o,i,⟨c1,c2,c3,c4,c5,c6,c7,c8,⟨⟩⟩,⟨⟩⟩ ⟨hb,h1,h2,h3,hR⟩
 cases hb
 simp only
 refine aE ?_ ?_<;>intro hc
 ·have hs:=KC g ids h1 hc
  rw[hs,<-qc] at hR
  have rj:=px g.s.aa g.bH (ids++[items.getD i.toNat 0]) []
  have hT:pR g ids (items.getD i.toNat 0)=if(aY g.s.aa g.bH (ids++[items.getD i.toNat 0]) []).2=true then[⟨ids++[items.getD i.toNat 0],if(ids++[items.getD i.toNat 0]).length=g.bH.length then g.ey.map fun p=>(ja p g.s.aa (aY g.s.aa g.bH (ids++[items.getD i.toNat 0]) []).1:Int) else[]⟩] else[]:=rfl
  have PJ:(ids++[items.getD i.toNat 0]).length=ids.length+1:=by simp
  generalize List.getD items i.toNat 0=x at*
  have hw:IntKind.wrap .i64 (i+1)=i+1:=wi
  simp only[ii] at rj
  rw[hw]
  refine⟨h1,by omega,by omega,by simp only[iD,ii];omega,by omega,by omega,by omega,bT (fun q=> ?_) (fun q=>mn (fun hn=> ?_) (fun hn=> ?_))⟩
  ·have q:(aY g.s.aa g.bH (ids++[x]) []).2=false:=q
   rw[hT,q,if_neg Bool.false_ne_true,sI] at hR
   exact⟨⟨rfl,by omega,by omega,by omega,hR⟩,by simp only[nF];omega⟩
  ·have q:(aY g.s.aa g.bH (ids++[x]) []).2=true:=q
   rw[hT,if_pos q,if_pos (by omega)] at hR
   refine⟨⟨rfl,rfl,rfl,rfl,rfl,by omega,by omega,rfl⟩,?_⟩
   rintro⟨o',i',k,⟨c1,c2,c3,c4,c5,c6,c7,c8,⟨⟩⟩,⟨t1,t2,⟨⟩⟩,l,⟨⟩⟩ ⟨eo,ei,eb,el,et,g1,g2,g3⟩
   replace eo:o'=o:=eo
   subst o'
   replace ei:i'=i:=ei
   subst i'
   cases eb
   replace el:l=if(aY g.s.aa g.bH (ids++[x]) []).2=true then(aY g.s.aa g.bH (ids++[x]) []).1 else[]:=el
   have el0:=el
   rw[if_pos q] at el
   replace et:t1=ids++[x]:=et
   replace g3:t2=(g.ey.take k.toNat).map (fun p=>(ja p g.s.aa (if(aY g.s.aa g.bH (ids++[x]) []).2=true then(aY g.s.aa g.bH (ids++[x]) []).1 else[]):Int)):=g3
   rw[<-el0] at g3
   rw[<-el] at hR rj
   have Oa:t2.length<=k.toNat:=by rw[g3,wj,mO];omega
   simp only
   refine aE ?_ ?_<;>intro hk
   ·have ha:=zw (l:=g.ey) g1 hk
    rw[wi (n:=k+1)]
    refine⟨g1,by omega,by omega,by simp only[iD,ii];omega,⟨rfl,rfl,rfl,el0,et,by omega,by omega,?_⟩,by simp only[xG];omega⟩
    show t2++[(ja (g.ey.getD k.toNat dl) g.s.aa l:Int)]=(g.ey.take (k+1).toNat).map (fun p=>(ja p g.s.aa (if(aY g.s.aa g.bH (ids++[x]) []).2=true then(aY g.s.aa g.bH (ids++[x]) []).1 else[]):Int))
    rw[<-el0,show(k+1).toNat=k.toNat+1 by omega,nL dl (by omega),Em,g3]
    rfl
   ·rw[EM (by omega)] at g3
    rw[hw]
    refine⟨by simp only[iD,ii];omega,⟨rfl,by omega,by omega,by simp only[kF,iD,ii];omega,?_⟩,by simp only[nF];omega⟩
    show(o++[⟨t1,t2⟩])++_=_
    rw[et,g3]
    exact hR
  ·have q:(aY g.s.aa g.bH (ids++[x]) []).2=true:=q
   rw[hT,if_pos q,if_neg (by omega)] at hR
   exact⟨by simp only[iD,ii];omega,⟨rfl,by omega,by omega,by simp only[kF,iD,ii];omega,hR⟩,by simp only[nF];omega⟩
 ·have e:items.drop i.toNat=[]:=List.drop_eq_nil_of_le (by omega)
  rw[e] at hR
  replace hR:o++[]=dZ g ids items:=hR
  rw[sI] at hR
  rw[<-hR];exact aO _
def WW:=bE (α:=bh×(List au)×Int) (qC (qA .gM) (qC (qL .bO) (q1 qI))) [.ro,.wr,.ro] (fun(g,bQ,n)=>[aj g.s.aa<=4294967295,cz g.bH<=2147483647,cz g.ey<=2147483647,oH g.bH.length g.ey.length bQ]) (fun(g,bQ,n)=>⟨[],[],[dL .bO (bQ.map (qn g n))]⟩)
def yd(g:bh)(bQ:List au)(n:Int):Int×Unit×List au×T4×T2×Unit->Prop:=fun(i,_,l,b,f,_)=>b=(g.bH,g.ey,g.chain.Pos,g.chain.Neg,g.mem,g.s.aa,g.s.Next,g.id,())/\f=((ax g.s.aa g.id).Kind,(ax g.s.aa g.id).ak,())/\0<=i/\i<=bQ.length/\l=(bQ.take i.toNat).map (qn g n)++bQ.drop i.toNat
def sn(g:bh)(bQ:List au)(n:Int):Int×Unit×List au×T4×T2×Unit->Nat:=fun(i,_,l,b,f,_)=>bQ.length-i.toNat
def yc(g:bh)(bQ:List au)(n:Int):Int×Int×Unit×List au×T4×T2×T26×List aW×Unit->Int×Int×Unit×List au×T4×T2×T26×List aW×Unit->Prop:=fun(i0,k0,_,l0,b0,f0,q0,o0,_) (i,k,_,l,b,f,q,o,_)=>i=i0/\b=b0/\f=f0/\q=q0/\o=o0/\0<=k/\k<=g.ey.length/\l=l0.set i0.toNat ⟨(l0.getD i0.toNat aT).b9,List.zipWith (fun a p=>if(ca p (ax g.s.aa g.id) o0).isSome=true then IntKind.wrap .i64 (a+n) else a) ((l0.getD i0.toNat aT).db.take k.toNat) (g.ey.take k.toNat)++(l0.getD i0.toNat aT).db.drop k.toNat⟩
def sk(g:bh)(bQ:List au)(n:Int):Int×Int×Unit×List au×T4×T2×T26×List aW×Unit->Nat:=fun(i,k,_,l,b,f,q,o,_)=>g.ey.length-k.toNat
def akO:AX WW:=fun(g,bQ,n)=>bq [(3,az [iI 26,.slot 24 (2000001,0) .al,.slot 1 (2000001,0) (.own .bO true),.box 3 (3,1024) [.shr .cq,.shr .cq,.shr .int,.shr .int,.shr .cD,.shr .cg,.lit (.int .i64),.lit (.int .i64)],.box 6 (6,1024) [.lit .str,.own .bC true]] (fun _=>yd g bQ n) (sn g bQ n)),(8,az [iI 26,iI 45,.slot 24 (2000001,0) .al,.slot 1 (2000001,0) (.own .bO true),.box 3 (3,1024) [.shr .cq,.shr .cq,.shr .int,.shr .int,.shr .cD,.shr .cg,.lit (.int .i64),.lit (.int .i64)],.box 6 (6,1024) [.lit .str,.own .bC true],.box 9 (9,1024) [.pth (2000001,0) 2 0,.pth (2000001,0) 2 1],iO 10 .b8] (yc g bQ n) (sk g bQ n))]
def aiR:HH:=hF WW func204 [MD,XJ,Q2] akO fun x hp hb=>by
 obtain⟨g,bQ,n⟩:=x
 have aG:=vV (x:=g) (hb _ m0)
 have E9:=aG.1
 have E_:=aG.2.1
 have tz:=aG.2.2.1
 have tA:=aG.2.2.2.1
 have IQ:=aG.2.2.2.2.1
 have wN:=aG.2.2.2.2.2
 have TK:L9 bQ.length:=eD (hb _ m1)
 have apt:=mL (n:=n) (hb _ m2)
 have bP:aj g.s.aa<=4294967295:=hp _ m0
 have jv:cz g.bH<=2147483647:=hp _ m1
 have uZ:cz g.ey<=2147483647:=hp _ m2
 have AD:oH g.bH.length g.ey.length bQ:=hp _ m3
 clear hp hb
 apply vE (let q0:=List bc×List bc×List Int×List Int×List b7×List bW×Int×Int×PUnit;L4 (aj g.s.aa)/\yd g bQ n (0,(),bQ,(g.bH,g.ey,g.chain.Pos,g.chain.Neg,g.mem,g.s.aa,g.s.Next,g.id,()),((ax g.s.aa g.id).Kind,(ax g.s.aa g.id).ak,()),())/\∀(y:Int×PUnit×List au×q0×J8×PUnit),let x1:=y.2.2.2.1.2.1.length;let x0:=(↑x1:Int);let q1:=(y.1,0,(),y.2.2.1,(y.2.2.2.1.1,y.2.2.2.1.2.1,y.2.2.2.1.2.2.1,y.2.2.2.1.2.2.2.1,y.2.2.2.1.2.2.2.2.1,y.2.2.2.1.2.2.2.2.2.1,y.2.2.2.1.2.2.2.2.2.2.1,y.2.2.2.1.2.2.2.2.2.2.2.1,()),(y.2.2.2.2.1.1,y.2.2.2.2.1.2.1,()),(y.1.toNat,y.1.toNat,()),if(aY {aa:=y.2.2.2.1.2.2.2.2.2.1,Next:=y.2.2.2.1.2.2.2.2.2.2.1:ap}.aa y.2.2.2.1.1 {τ:=Cd.int,xs:=(List.getD {τ:=Cd.bO,xs:=y.2.2.1:fK UU}.xs y.1.toNat (UU.dt {τ:=Cd.bO,xs:=y.2.2.1:fK UU}.τ)).b9:fK UU}.xs []).2=true then(aY {aa:=y.2.2.2.1.2.2.2.2.2.1,Next:=y.2.2.2.1.2.2.2.2.2.2.1:ap}.aa y.2.2.2.1.1 {τ:=Cd.int,xs:=(List.getD {τ:=Cd.bO,xs:=y.2.2.1:fK UU}.xs y.1.toNat (UU.dt {τ:=Cd.bO,xs:=y.2.2.1:fK UU}.τ)).b9:fK UU}.xs []).1 else[],());let q2:=(wrap i64 (y.1+1),(),y.2.2.1,(y.2.2.2.1.1,y.2.2.2.1.2.1,y.2.2.2.1.2.2.1,y.2.2.2.1.2.2.2.1,y.2.2.2.1.2.2.2.2.1,y.2.2.2.1.2.2.2.2.2.1,y.2.2.2.1.2.2.2.2.2.2.1,y.2.2.2.1.2.2.2.2.2.2.2.1,()),(y.2.2.2.2.1.1,y.2.2.2.2.1.2.1,()),());yd g bQ n y->bif decide (y.1<(bQ.length:Int)) then 0<=y.1/\y.1.toNat<y.2.2.1.length/\y.1.toNat<y.2.2.1.length/\y.1.toNat<y.2.2.1.length/\L4 (aj y.2.2.2.1.2.2.2.2.2.1)/\cz y.2.2.2.1.1<=4294967295/\(y.2.2.1.getD y.1.toNat aT).b9.length<=y.2.2.2.1.1.length/\bif !(aY {aa:=y.2.2.2.1.2.2.2.2.2.1,Next:=y.2.2.2.1.2.2.2.2.2.2.1:ap}.aa y.2.2.2.1.1 {τ:=Cd.int,xs:=(List.getD {τ:=Cd.bO,xs:=y.2.2.1:fK UU}.xs y.1.toNat (UU.dt {τ:=Cd.bO,xs:=y.2.2.1:fK UU}.τ)).b9:fK UU}.xs []).2 then yd g bQ n q2/\sn g bQ n q2<sn g bQ n y else yc g bQ n q1 q1/\∀(av:Int×Int×PUnit×List au×q0×J8×(Nat×Nat×PUnit)×List aW×PUnit),let x2:=(av.2.2.2.1.getD av.2.2.2.2.2.2.1.2.1 aT).db;let x3:=av.2.1.toNat;let x4:=y.2.2.2.1.2.1.getD x3 dl;let x5:=wrap i64 (av.2.1+1);let q3:=(av.2.2.2.2.1.1,av.2.2.2.2.1.2.1,av.2.2.2.2.1.2.2.1,av.2.2.2.2.1.2.2.2.1,av.2.2.2.2.1.2.2.2.2.1,av.2.2.2.2.1.2.2.2.2.2.1,av.2.2.2.2.1.2.2.2.2.2.2.1,av.2.2.2.2.1.2.2.2.2.2.2.2.1,());let q4:=(av.2.2.2.2.2.1.1,av.2.2.2.2.2.1.2.1,());let q5:=(av.2.2.2.2.2.2.1.1,av.2.2.2.2.2.2.1.2.1,());let q6:=(wrap i64 (av.1+1),(),av.2.2.2.1,q3,q4,());let q7:=(av.1,x5,(),av.2.2.2.1,q3,q4,q5,av.2.2.2.2.2.2.2.1,());let q8:=wrap i64 (x2.getD x3 0+n);yc g bQ n q1 av->bif decide (av.2.1<x0) then 0<=av.2.1/\x3<x1/\av.2.2.2.2.2.2.2.1.length+x4.aA.length<=4294967295/\bif Option.isSome (ca x4 {Kind:=av.2.2.2.2.2.1.1,ak:=av.2.2.2.2.2.1.2.1:bf} av.2.2.2.2.2.2.2.1) then av.2.2.2.2.2.2.1.2.1<av.2.2.2.1.length/\0<=av.2.1/\x3<x2.length/\av.2.2.2.2.2.2.1.2.1<av.2.2.2.1.length/\x3<x2.length/\av.2.2.2.2.2.2.1.2.1<av.2.2.2.1.length/\0<=av.2.1/\x3<x2.length/\av.2.2.2.2.2.2.1.2.1<av.2.2.2.1.length/\x3<x2.length/\yc g bQ n q1 (av.1,x5,(),av.2.2.2.1.modify av.2.2.2.2.2.2.1.2.1 fun(x:au)=>{b9:=x.b9,db:=x2.set x3 q8:au},q3,q4,q5,av.2.2.2.2.2.2.2.1,())/\sk g bQ n (av.1,x5,(),av.2.2.2.1.modify av.2.2.2.2.2.2.1.2.1 fun(x:au)=>{b9:=x.b9,db:=x2.set x3 q8:au},q3,q4,q5,av.2.2.2.2.2.2.2.1,())<sk g bQ n av else yc g bQ n q1 q7/\sk g bQ n q7<sk g bQ n av else yd g bQ n q6/\sn g bQ n q6<sn g bQ n y else AQ []=AQ []/\AQ [VL .bO y.2.2.1]=AQ [VL .bO (bQ.map (qn g n))])
 dsimp only
 refine⟨by omega,⟨rfl,rfl,by omega,by omega,by simp⟩,?_⟩
 rintro⟨i,⟨⟩,l,⟨c1,c2,c3,c4,c5,c6,c7,c8,⟨⟩⟩,⟨d1,d2,⟨⟩⟩,⟨⟩⟩ ⟨hb,hf,h1,h2,hl⟩
 cases hb
 cases hf
 have wm:l.length=bQ.length:=by rw[hl,kF,wj,mO,FT];omega
 simp only
 have hw:i<bQ.length->IntKind.wrap .i64 (i+1)=i+1:=fun _=>wi
 refine aE ?_ ?_<;>intro hc
 ·have hi:i.toNat<bQ.length:=by omega
  obtain⟨q1,q2,_⟩:=aak (qn g n) aT hi
  rw[<-hl] at q1 q2
  have hm:bQ.getD i.toNat aT∈bQ:=by
   rw[gh,gr hi];exact N6 _
  obtain⟨f1,f2⟩:=AD _ hm
  have rj:=px g.s.aa g.bH (bQ.getD i.toNat aT).b9 []
  simp only[ii] at rj
  have hT:qn g n (bQ.getD i.toNat aT)=if(aY g.s.aa g.bH (bQ.getD i.toNat aT).b9 []).2=true then⟨(bQ.getD i.toNat aT).b9,List.zipWith (fun a p=>if(ca p (ax g.s.aa g.id) (aY g.s.aa g.bH (bQ.getD i.toNat aT).b9 []).1).isSome=true then IntKind.wrap .i64 (a+n) else a) (bQ.getD i.toNat aT).db g.ey⟩ else bQ.getD i.toNat aT:=rfl
  have out:∀Pp:List au,Pp=l.set i.toNat (qn g n (bQ.getD i.toNat aT))->(Pp=(bQ.take (i+1).toNat).map (qn g n)++bQ.drop (i+1).toNat):=fun Pp e=>by
   rw[e,q2,show(i+1).toNat=i.toNat+1 by omega]
  refine⟨h1,by omega,by omega,by omega,by omega,by omega,by rw[q1];exact f1,bT (fun q=> ?_) (fun q=> ?_)⟩
  ·replace q:(aY g.s.aa g.bH (l.getD i.toNat aT).b9 []).2=false:=q
   rw[q1] at q
   rw[hw (by omega)]
   refine⟨⟨rfl,rfl,by omega,by omega,out l ?_⟩,by simp only[sn];omega⟩
   rw[hT,q,if_neg Bool.false_ne_true,<-q1]
   exact(pM aT).symm
  ·replace q:(aY g.s.aa g.bH (l.getD i.toNat aT).b9 []).2=true:=q
   have q0:=q
   rw[q1] at q
   refine⟨⟨rfl,rfl,rfl,rfl,rfl,by omega,by omega,(pM aT).symm⟩,?_⟩
   rintro⟨i',k,⟨⟩,l',⟨c1,c2,c3,c4,c5,c6,c7,c8,⟨⟩⟩,⟨d1,d2,⟨⟩⟩,⟨k1,k2,⟨⟩⟩,o,⟨⟩⟩ ⟨e0,eb,ef,eq,eo,g1,g2,g4⟩
   replace e0:i'=i:=e0
   subst i'
   cases eb
   cases ef
   cases eq
   replace eo:o=if(aY g.s.aa g.bH (l.getD i.toNat aT).b9 []).2=true then(aY g.s.aa g.bH (l.getD i.toNat aT).b9 []).1 else[]:=eo
   have eo0:=eo
   rw[if_pos q0,q1] at eo
   replace g4:l'=l.set i.toNat ⟨(l.getD i.toNat aT).b9,List.zipWith (fun a p=>if(ca p (ax g.s.aa g.id) (if(aY g.s.aa g.bH (l.getD i.toNat aT).b9 []).2=true then(aY g.s.aa g.bH (l.getD i.toNat aT).b9 []).1 else[])).isSome=true then IntKind.wrap .i64 (a+n) else a) ((l.getD i.toNat aT).db.take k.toNat) (g.ey.take k.toNat)++(l.getD i.toNat aT).db.drop k.toNat⟩:=g4
   rw[<-eo0,q1] at g4
   rw[if_pos q,<-eo] at hT
   rw[<-eo] at rj
   have key:∀Pp:List au,Pp=l.set i.toNat ⟨(bQ.getD i.toNat aT).b9,List.zipWith (fun a p=>if(ca p (ax g.s.aa g.id) o).isSome=true then IntKind.wrap .i64 (a+n) else a) ((bQ.getD i.toNat aT).db.take (k+1).toNat) (g.ey.take (k+1).toNat)++(bQ.getD i.toNat aT).db.drop (k+1).toNat⟩->
     Pp=l.set i.toNat ⟨(l.getD i.toNat aT).b9,List.zipWith (fun a p=>if(ca p (ax g.s.aa g.id) (if(aY g.s.aa g.bH (l.getD i.toNat aT).b9 []).2=true then(aY g.s.aa g.bH (l.getD i.toNat aT).b9 []).1 else[])).isSome=true then IntKind.wrap .i64 (a+n) else a) ((l.getD i.toNat aT).db.take (k+1).toNat) (g.ey.take (k+1).toNat)++(l.getD i.toNat aT).db.drop (k+1).toNat⟩:=fun Pp e=>by
    rw[<-eo0,q1];exact e
   generalize List.getD bQ i.toNat aT=t at*
   have hx:l'.getD i.toNat aT=⟨t.b9,List.zipWith (fun a p=>if(ca p (ax g.s.aa g.id) o).isSome=true then IntKind.wrap .i64 (a+n) else a) (t.db.take k.toNat) (g.ey.take k.toNat)++t.db.drop k.toNat⟩:=by rw[g4,GK _ _ (by omega)]
   have apv:l'.length=bQ.length:=by rw[g4,zF];exact wm
   simp only
   refine aE ?_ ?_<;>intro hk
   ·have ha:=zw (l:=g.ey) g1 hk
    obtain⟨z1,z2,z3⟩:=Om (fun a p=>if(ca p (ax g.s.aa g.id) o).isSome=true then IntKind.wrap .i64 (a+n) else a) (H:=t.db) (h:=g.ey) (k:=k.toNat) 0 dl (by omega) (by omega)
    have PJ:(l'.getD i.toNat aT).db.length=t.db.length:=by rw[hx];exact z3
    have hxg:(l'.getD i.toNat aT).db.getD k.toNat 0=t.db.getD k.toNat 0:=by rw[hx];exact z2
    have hwk:IntKind.wrap .i64 (k+1)=k+1:=wi
    rw[hwk]
    refine⟨g1,by omega,by omega,ae (fun hq=> ?_) (fun hq=> ?_)⟩
    ·have hq:(ca (g.ey.getD k.toNat dl) (ax g.s.aa g.id) o).isSome=true:=hq
     refine⟨by omega,g1,by omega,by omega,by omega,by omega,g1,by omega,by omega,by omega,⟨rfl,rfl,rfl,rfl,eo0,by omega,by omega,key _ ?_⟩,by simp only[sk];omega⟩
     show l'.modify i.toNat (fun x:au=>{b9:=x.b9,db:=(l'.getD i.toNat aT).db.set k.toNat (IntKind.wrap .i64 ((l'.getD i.toNat aT).db.getD k.toNat 0+n))})=_
     rw[S0 aT,hxg,hx,g4,List.set_set,show(k+1).toNat=k.toNat+1 by omega]
     congr 2
     rw[z1,if_pos hq]
    ·have hq:(ca (g.ey.getD k.toNat dl) (ax g.s.aa g.id) o).isSome=false:=hq
     refine⟨⟨rfl,rfl,rfl,rfl,eo0,by omega,by omega,key _ ?_⟩,by simp only[sk];omega⟩
     rw[g4,show(k+1).toNat=k.toNat+1 by omega]
     congr 2
     rw[z1,if_neg (by rw[hq];exact Bool.false_ne_true),<-z2]
     exact(pM 0).symm
   ·rw[hw (by omega)]
    refine⟨⟨rfl,rfl,by omega,by omega,out l' ?_⟩,by simp only[sn];omega⟩
    rw[hT,g4]
    congr 2
    exact CB _ (by omega) (by omega)
 ·have e:=KB (qn g n) (l:=bQ) (k:=i.toNat) (by omega)
  rw[e] at hl
  subst hl
  exact⟨trivial,rfl⟩
def WV:=bE (α:=bh×(List aq)) (qC (qA .gM) (q1 (qL .cf))) [.ro,.wr] (fun(g,cL)=>[aj g.s.aa<=4294967295,cz g.bH<=2147483647,cz g.ey<=2147483647,g.bH.length<=4294967295,g.ey.length<=4294967295,ql g 0 cL [] []]) (fun(g,cL)=>⟨[],[],[dL .cf (pk g 0 cL [] [])]⟩)
def ya(g:bh)(cL:List aq):Int×List aq×List au×List au×T4×Unit->Prop:=fun(i,l,p,f,b,_)=>b=(g.bH,g.ey,g.chain.Pos,g.chain.Neg,g.mem,g.s.aa,g.s.Next,g.id,())/\0<=i/\i<=cL.length/\l.length=cL.length/\l.take i.toNat++pk g i.toNat (l.drop i.toNat) p f=pk g 0 cL [] []/\ql g i.toNat (l.drop i.toNat) p f
def sj(g:bh)(cL:List aq):Int×List aq×List au×List au×T4×Unit->Nat:=fun(i,l,p,f,b,_)=>cL.length-i.toNat
def B8(g:bh)(cL:List aq):Int×Int×Int×Unit×List aq×List au×List au×List au×T4×Unit->Int×Int×Int×Unit×List aq×List au×List au×List au×T4×Unit->Prop:=fun(i0,j0,k0,_,l0,p0,f0,o0,b0,_) (i,i',k,_,l,p,f,o,b,_)=>i=i0/\i'=j0/\l=l0/\p=p0/\f=f0/\b=b0/\0<=k/\k<=p0.length/\o=o0++(p0.take k.toNat).flatMap (fun t=>dZ g t.b9 [g.id])
def Bc(g:bh)(cL:List aq):Int×Int×Int×Unit×List aq×List au×List au×List au×T4×Unit->Nat:=fun(i,i',k,_,l,p,f,o,b,_)=>p.length-k.toNat
def yb(g:bh)(cL:List aq):Int×Int×Int×Unit×List aq×List au×List au×List au×T4×Unit->Int×Int×Int×Unit×List aq×List au×List au×List au×T4×Unit->Prop:=fun(i0,j0,k0,_,l0,p0,f0,o0,b0,_) (i,i',k,_,l,p,f,o,b,_)=>i=i0/\i'=j0/\l=l0/\p=p0/\f=f0/\b=b0/\0<=k/\k<=f0.length/\o=o0++(f0.take k.toNat).flatMap (fun t=>dZ g t.b9 (gq g i0.toNat))
def xI(g:bh)(cL:List aq):Int×Int×Int×Unit×List aq×List au×List au×List au×T4×Unit->Nat:=fun(i,i',k,_,l,p,f,o,b,_)=>f.length-k.toNat
def akN:AX WV:=fun(g,cL)=>bq [(3,az [iI 14,.slot 1 (2000001,0) (.li .cf),iS 4 .bO,iS 5 .bO,.box 2 (2,1024) [.shr .cq,.shr .cq,.shr .int,.shr .int,.shr .cD,.shr .cg,.lit (.int .i64),.lit (.int .i64)]] (fun _=>ya g cL) (sj g cL)),(9,az [iI 14,iI 6,iI 26,.slot 24 (4,1024) .al,.slot 1 (2000001,0) (.li .cf),iS 4 .bO,iS 5 .bO,iO 7 .bO,.box 2 (2,1024) [.shr .cq,.shr .cq,.shr .int,.shr .int,.shr .cD,.shr .cg,.lit (.int .i64),.lit (.int .i64)]] (B8 g cL) (Bc g cL)),(14,az [iI 14,iI 6,iI 42,.slot 40 (5,1024) .al,.slot 1 (2000001,0) (.li .cf),iS 4 .bO,iS 5 .bO,iO 7 .bO,.box 2 (2,1024) [.shr .cq,.shr .cq,.shr .int,.shr .int,.shr .cD,.shr .cg,.lit (.int .i64),.lit (.int .i64)]] (yb g cL) (xI g cL))]
def aiQ:HH:=hF WV func205 [aih] akN fun x hp hb=>by
 obtain⟨g,cL⟩:=x
 have aG:=vV (x:=g) (hb _ m0)
 have E9:=aG.1
 have E_:=aG.2.1
 have tz:=aG.2.2.1
 have tA:=aG.2.2.2.1
 have IQ:=aG.2.2.2.2.1
 have wN:=aG.2.2.2.2.2
 have acn:L9 cL.length:=eD (hb _ m1)
 have bP:aj g.s.aa<=4294967295:=hp _ m0
 have jv:cz g.bH<=2147483647:=hp _ m1
 have uZ:cz g.ey<=2147483647:=hp _ m2
 have AD:g.bH.length<=4294967295:=hp _ m3
 have Oc:g.ey.length<=4294967295:=hp _ m4
 have hp5:ql g 0 cL [] []:=hp _ m5
 clear hp hb
 apply vE (let q0:=List bc×List bc×List Int×List Int×List b7×List bW×Int×Int×PUnit;ya g cL (0,cL,[],[],(g.bH,g.ey,g.chain.Pos,g.chain.Neg,g.mem,g.s.aa,g.s.Next,g.id,()),())/\∀(y:Int×List aq×List au×List au×q0×PUnit),let x1:=[y.2.2.2.2.1.2.2.2.2.2.2.2.1];let x2:=y.2.2.2.2.1.1.length;let x3:=(y.2.1.getD y.1.toNat aB).bi;let x4:=(y.2.2.1.length:Int);let x0:=dZ {bH:=y.2.2.2.2.1.1,ey:=y.2.2.2.2.1.2.1,chain:={Pos:=y.2.2.2.2.1.2.2.1,Neg:=y.2.2.2.2.1.2.2.2.1:bm},mem:=y.2.2.2.2.1.2.2.2.2.1,s:={aa:=y.2.2.2.2.1.2.2.2.2.2.1,Next:=y.2.2.2.2.1.2.2.2.2.2.2.1:ap},id:=y.2.2.2.2.1.2.2.2.2.2.2.2.1:bh} [] x1;let q1:=(y.2.2.2.2.1.1,y.2.2.2.2.1.2.1,y.2.2.2.2.1.2.2.1,y.2.2.2.2.1.2.2.2.1,y.2.2.2.2.1.2.2.2.2.1,y.2.2.2.2.1.2.2.2.2.2.1,y.2.2.2.2.1.2.2.2.2.2.2.1,y.2.2.2.2.1.2.2.2.2.2.2.2.1,());let q2:=(y.1,y.1,0,(),y.2.1,y.2.2.1,y.2.2.2.1,[],q1,());let q3:=(wrap i64 (y.1+1),y.2.1.set y.1.toNat {bi:=x3++x0:aq},x3,x0,q1,());ya g cL y->bif decide (y.1<(cL.length:Int)) then bif y.1==0 then aj y.2.2.2.2.1.2.2.2.2.2.1<=4294967295/\cz y.2.2.2.2.1.1<=2147483647/\cz y.2.2.2.2.1.2.1<=2147483647/\(0:Nat)+(1:Nat)<=x2/\x2<=4294967295/\y.2.2.2.2.1.2.1.length<=4294967295/\x1.length<=4294967295/\0<=y.1/\y.1.toNat<y.2.1.length/\y.1.toNat<y.2.1.length/\y.1.toNat<y.2.1.length/\L4 x3.length/\0<=y.1/\y.1.toNat<y.2.1.length/\y.1.toNat<y.2.1.length/\L4 (x3.length+x0.length)/\0<=y.1/\y.1.toNat<y.2.1.length/\y.1.toNat=y.1.toNat/\ya g cL q3/\sj g cL q3<sj g cL y else B8 g cL q2 q2/\∀(av:Int×Int×Int×PUnit×List aq×List au×List au×List au×q0×PUnit),let x7:=[av.2.2.2.2.2.2.2.2.1.2.2.2.2.2.2.2.1];let x8:=av.2.2.2.2.2.2.2.2.1.1.length;let x9:=(av.2.2.2.2.2.2.1.length:Int);let zI:=av.2.2.1.toNat;let x6:=(av.2.2.2.2.2.1.getD zI aT).b9;let x5:=dZ {bH:=av.2.2.2.2.2.2.2.2.1.1,ey:=av.2.2.2.2.2.2.2.2.1.2.1,chain:={Pos:=av.2.2.2.2.2.2.2.2.1.2.2.1,Neg:=av.2.2.2.2.2.2.2.2.1.2.2.2.1:bm},mem:=av.2.2.2.2.2.2.2.2.1.2.2.2.2.1,s:={aa:=av.2.2.2.2.2.2.2.2.1.2.2.2.2.2.1,Next:=av.2.2.2.2.2.2.2.2.1.2.2.2.2.2.2.1:ap},id:=av.2.2.2.2.2.2.2.2.1.2.2.2.2.2.2.2.1:bh} x6 x7;let q4:=(av.2.2.2.2.2.2.2.2.1.1,av.2.2.2.2.2.2.2.2.1.2.1,av.2.2.2.2.2.2.2.2.1.2.2.1,av.2.2.2.2.2.2.2.2.1.2.2.2.1,av.2.2.2.2.2.2.2.2.1.2.2.2.2.1,av.2.2.2.2.2.2.2.2.1.2.2.2.2.2.1,av.2.2.2.2.2.2.2.2.1.2.2.2.2.2.2.1,av.2.2.2.2.2.2.2.2.1.2.2.2.2.2.2.2.1,());let q5:=(av.1,av.2.1,0,(),av.2.2.2.2.1,av.2.2.2.2.2.1,av.2.2.2.2.2.2.1,av.2.2.2.2.2.2.2.1,q4,());let q6:=(av.1,av.2.1,wrap i64 (av.2.2.1+1),(),av.2.2.2.2.1,av.2.2.2.2.2.1,av.2.2.2.2.2.2.1,av.2.2.2.2.2.2.2.1++x5,q4,());B8 g cL q2 av->bif decide (av.2.2.1<x4) then 0<=av.2.2.1/\zI<av.2.2.2.2.2.1.length/\zI<av.2.2.2.2.2.1.length/\zI<av.2.2.2.2.2.1.length/\aj av.2.2.2.2.2.2.2.2.1.2.2.2.2.2.1<=4294967295/\cz av.2.2.2.2.2.2.2.2.1.1<=2147483647/\cz av.2.2.2.2.2.2.2.2.1.2.1<=2147483647/\x6.length+1<=x8/\x8<=4294967295/\av.2.2.2.2.2.2.2.2.1.2.1.length<=4294967295/\x7.length<=4294967295/\L4 (av.2.2.2.2.2.2.2.1.length+x5.length)/\B8 g cL q2 q6/\Bc g cL q6<Bc g cL av else yb g cL q5 q5/\∀(j_:Int×Int×Int×PUnit×List aq×List au×List au×List au×q0×PUnit),let N7:=j_.2.1.toNat;let x18:=j_.2.2.2.2.2.2.2.2.1.1.length;let x19:=j_.2.2.2.2.2.2.2.1.length;let x20:=j_.2.2.1.toNat;let Ru:=(j_.2.2.2.2.1.getD N7 aB).bi;let X4:=j_.2.2.2.2.2.2.2.2.1.2.2.1.getD N7 0;let x16:=(j_.2.2.2.2.2.2.1.getD x20 aT).b9;let x14:=X4.toNat;let zH:=(j_.2.2.2.2.2.2.2.2.1.2.2.2.2.1.getD x14 cS).L;let vc:=dZ {bH:=j_.2.2.2.2.2.2.2.2.1.1,ey:=j_.2.2.2.2.2.2.2.2.1.2.1,chain:={Pos:=j_.2.2.2.2.2.2.2.2.1.2.2.1,Neg:=j_.2.2.2.2.2.2.2.2.1.2.2.2.1:bm},mem:=j_.2.2.2.2.2.2.2.2.1.2.2.2.2.1,s:={aa:=j_.2.2.2.2.2.2.2.2.1.2.2.2.2.2.1,Next:=j_.2.2.2.2.2.2.2.2.1.2.2.2.2.2.2.1:ap},id:=j_.2.2.2.2.2.2.2.2.1.2.2.2.2.2.2.2.1:bh} x16 zH;let q7:=(j_.2.2.2.2.2.2.2.2.1.1,j_.2.2.2.2.2.2.2.2.1.2.1,j_.2.2.2.2.2.2.2.2.1.2.2.1,j_.2.2.2.2.2.2.2.2.1.2.2.2.1,j_.2.2.2.2.2.2.2.2.1.2.2.2.2.1,j_.2.2.2.2.2.2.2.2.1.2.2.2.2.2.1,j_.2.2.2.2.2.2.2.2.1.2.2.2.2.2.2.1,j_.2.2.2.2.2.2.2.2.1.2.2.2.2.2.2.2.1,());let q8:=(j_.1,j_.2.1,wrap i64 (j_.2.2.1+1),(),j_.2.2.2.2.1,j_.2.2.2.2.2.1,j_.2.2.2.2.2.2.1,j_.2.2.2.2.2.2.2.1++vc,q7,());let q9:=(wrap i64 (j_.1+1),j_.2.2.2.2.1.set N7 {bi:=Ru++j_.2.2.2.2.2.2.2.1:aq},Ru,j_.2.2.2.2.2.2.2.1,q7,());yb g cL q5 j_->bif decide (j_.2.2.1<x9) then 0<=j_.2.2.1/\x20<j_.2.2.2.2.2.2.1.length/\x20<j_.2.2.2.2.2.2.1.length/\0<=j_.2.1/\N7<j_.2.2.2.2.2.2.2.2.1.2.2.1.length/\0<=X4/\x14<j_.2.2.2.2.2.2.2.2.1.2.2.2.2.1.length/\x20<j_.2.2.2.2.2.2.1.length/\aj j_.2.2.2.2.2.2.2.2.1.2.2.2.2.2.1<=4294967295/\cz j_.2.2.2.2.2.2.2.2.1.1<=2147483647/\cz j_.2.2.2.2.2.2.2.2.1.2.1<=2147483647/\x16.length+1<=x18/\x18<=4294967295/\j_.2.2.2.2.2.2.2.2.1.2.1.length<=4294967295/\zH.length<=4294967295/\L4 (x19+vc.length)/\yb g cL q5 q8/\xI g cL q8<xI g cL j_ else 0<=j_.2.1/\N7<j_.2.2.2.2.1.length/\N7<j_.2.2.2.2.1.length/\N7<j_.2.2.2.2.1.length/\L4 Ru.length/\0<=j_.2.1/\N7<j_.2.2.2.2.1.length/\N7<j_.2.2.2.2.1.length/\Ru.length+x19<=4294967296/\0<=j_.2.1/\N7<j_.2.2.2.2.1.length/\N7=N7/\ya g cL q9/\sj g cL q9<sj g cL y else AQ []=AQ []/\AQ [VL .cf y.2.1]=AQ [VL .cf (pk g 0 cL [] [])])
 dsimp only
 refine⟨⟨rfl,by omega,by omega,rfl,rfl,hp5⟩,?_⟩
 rintro⟨i,l,p,f,⟨c1,c2,c3,c4,c5,c6,c7,c8,⟨⟩⟩,⟨⟩⟩ ⟨hb,h1,h2,h3,h4,h5⟩
 cases hb
 simp only
 refine aE ?_ ?_<;>intro hc
 ·have hi:i.toNat<l.length:=by omega
  have hd:l.drop i.toNat=l.getD i.toNat aB::l.drop (i.toNat+1):=vo aB hi
  rw[hd] at h4 h5
  obtain⟨o1,o2,o3,o4,o5,o6,o7,o8⟩:=h5
  have hw:IntKind.wrap .i64 (i+1)=i+1:=wi
  have fin:∀nx:List au,nx=qV g i.toNat p f->(l.set i.toNat ⟨(l.getD i.toNat aB).bi++nx⟩).take (i+1).toNat++pk g (i+1).toNat ((l.set i.toNat ⟨(l.getD i.toNat aB).bi++nx⟩).drop (i+1).toNat) (l.getD i.toNat aB).bi nx=pk g 0 cL [] []/\ql g (i+1).toNat ((l.set i.toNat ⟨(l.getD i.toNat aB).bi++nx⟩).drop (i+1).toNat) (l.getD i.toNat aB).bi nx:=fun nx e=>by
   obtain⟨t1,t2⟩:=Lt (⟨(l.getD i.toNat aB).bi++nx⟩:aq) hi
   rw[show(i+1).toNat=i.toNat+1 by omega,t1,t2,e]
   refine⟨?_,o8⟩
   rw[<-h4,qc];rfl
  have RC:∀x:aq,(l.set i.toNat x).length=cL.length:=fun x=>by rw[zF];exact h3
  refine ae ?_ ?_<;>intro h0
  ·have h0:i=0:=eq_of_beq h0
   have hS:qV g i.toNat p f=dZ g [] [g.id]:=if_pos (by omega)
   have hl:=mZ g [] [g.id]
   simp only[iD,ii] at hl
   obtain⟨r1,r2⟩:=fin (dZ g [] [g.id]) hS.symm
   rw[hw]
   exact⟨bP,jv,uZ,by(try simp only[ii]);omega,AD,Oc,by(try simp only[iD,ii]);omega,h1,hi,hi,hi,by omega,h1,hi,hi,(show(l.getD i.toNat aB).bi.length+(dZ g [] [g.id]).length<=4294967296 by omega),h1,hi,trivial,⟨rfl,by omega,by omega,RC _,r1,r2⟩,by simp only[sj];omega⟩
  ·have h0:¬i=0:=fun e=>by rw[e] at h0;cases h0
   have hS:qV g i.toNat p f=p.flatMap (fun t=>dZ g t.b9 [g.id])++f.flatMap (fun t=>dZ g t.b9 (gq g i.toNat)):=if_neg (by omega)
   have L1:∀q:List au,(q.flatMap (fun t=>dZ g t.b9 [g.id])).length<=q.length:=fun q=>by
    have:=kB (fun t:au=>dZ g t.b9 [g.id]) 1 q (fun x _=>mZ g x.b9 [g.id])
    omega
   have L2:∀q:List au,(q.flatMap (fun t=>dZ g t.b9 (gq g i.toNat))).length<=q.length*(gq g i.toNat).length:=fun q=>kB _ _ q (fun x _=>mZ g x.b9 _)
   refine⟨⟨rfl,rfl,rfl,rfl,rfl,rfl,by omega,by omega,by simp⟩,?_⟩
   rintro⟨i1,i2,k,⟨⟩,l1,p1,f1,o,⟨c1,c2,c3,c4,c5,c6,c7,c8,⟨⟩⟩,⟨⟩⟩ ⟨e1,e2,e3,e4,e5,e6,g1,g2,g3⟩
   replace e1:i1=i:=e1
   replace e2:i2=i:=e2
   replace e3:l1=l:=e3
   replace e4:p1=p:=e4
   replace e5:f1=f:=e5
   subst i1 i2 l1 p1 f1
   cases e6
   replace g3:o=(p.take k.toNat).flatMap (fun t=>dZ g t.b9 [g.id]):=g3
   simp only
   refine aE ?_ ?_<;>intro hk
   ·have bp:k.toNat<p.length:=by omega
    have hq:=o5 _ (getDM aT bp)
    have hol:o.length<=k.toNat:=by
     have:=L1 (p.take k.toNat)
     rw[<-g3,mO] at this
     omega
    have wm:=mZ g (p.getD k.toNat aT).b9 [g.id]
    simp only[iD,ii] at wm
    rw[wi (n:=k+1)]
    refine⟨g1,bp,bp,bp,bP,jv,uZ,by omega,AD,Oc,by(try simp only[iD,ii]);omega,(show o.length+(dZ g (p.getD k.toNat aT).b9 [g.id]).length<=4294967296 by omega),⟨rfl,rfl,rfl,rfl,rfl,rfl,by omega,by omega,?_⟩,by simp only[Bc];omega⟩
    show o++dZ g (p.getD k.toNat aT).b9 [g.id]=(p.take (k+1).toNat).flatMap (fun t=>dZ g t.b9 [g.id])
    rw[qZ _ aT g1 hk,g3]
   ·rw[EM (by omega)] at g3
    have hol:o.length<=p.length:=by rw[g3];exact L1 p
    refine⟨⟨rfl,rfl,rfl,rfl,rfl,rfl,by omega,by omega,by simp⟩,?_⟩
    rintro⟨i1,i2,k2,⟨⟩,l1,p1,f1,o',⟨c1,c2,c3,c4,c5,c6,c7,c8,⟨⟩⟩,⟨⟩⟩ ⟨e1,e2,e3,e4,e5,e6,u1,u2,u3⟩
    replace e1:i1=i:=e1
    replace e2:i2=i:=e2
    replace e3:l1=l:=e3
    replace e4:p1=p:=e4
    replace e5:f1=f:=e5
    subst i1 i2 l1 p1 f1
    cases e6
    replace u3:o'=o++(f.take k2.toNat).flatMap (fun t=>dZ g t.b9 (gq g i.toNat)):=u3
    simp only
    refine aE ?_ ?_<;>intro eS
    ·have bp:k2.toNat<f.length:=by omega
     have hq:=o6 _ (getDM aT bp)
     have ape:=L2 (f.take (k2+1).toNat)
     rw[qZ _ aT u1 eS,kF,mO] at ape
     have hmul:min (k2+1).toNat f.length*(gq g i.toNat).length<=f.length*(gq g i.toNat).length:=u9 _ (by omega)
     have yJ:(gq g i.toNat).length<=f.length*(gq g i.toNat).length:=Nat.le_mul_of_pos_left _ (by omega)
     have PP:o'.length=o.length+((f.take k2.toNat).flatMap (fun t=>dZ g t.b9 (gq g i.toNat))).length:=by rw[u3,kF]
     rw[wi (n:=k2+1)]
     refine⟨u1,bp,bp,h1,o2,o3,by omega,bp,bP,jv,uZ,by omega,AD,Oc,?_,?_,⟨rfl,rfl,rfl,rfl,rfl,rfl,by omega,by omega,?_⟩,by simp only[xI];omega⟩
     ·show(gq g i.toNat).length<=_
      omega
     ·show o'.length+(dZ g (f.getD k2.toNat aT).b9 (gq g i.toNat)).length<=_
      omega
     ·show o'++dZ g (f.getD k2.toNat aT).b9 (gq g i.toNat)=o++(f.take (k2+1).toNat).flatMap (fun t=>dZ g t.b9 (gq g i.toNat))
      rw[qZ _ aT u1 eS,u3,qc]
    ·rw[EM (by omega)] at u3
     have as3:=L2 f
     have PP:o'.length=o.length+(f.flatMap (fun t=>dZ g t.b9 (gq g i.toNat))).length:=by rw[u3,kF]
     obtain⟨r1,r2⟩:=fin o' (by rw[hS,u3,g3])
     rw[hw]
     exact⟨h1,hi,hi,hi,by omega,h1,hi,hi,by omega,h1,hi,trivial,⟨rfl,by omega,by omega,RC _,r1,r2⟩,by simp only[sj];omega⟩
 ·have e:l.drop i.toNat=[]:=List.drop_eq_nil_of_le (by omega)
  rw[e,EM (by omega)] at h4
  replace h4:l++[]=pk g 0 cL [] []:=h4
  rw[sI] at h4
  rw[<-h4]
  exact⟨trivial,rfl⟩
def qe(a:bj)(f:bf)(i:Nat):Bool:=decide (0<=a.At.getD i 0/\a.At.getD i 0<f.ak.length/\(i:Int)<a.fg.length)&&decide (f.ak.getD (a.At.getD i 0).toNat fL=a.fg.getD i fL)
def iG(a:bj)(f:bf):Bool:=decide (f.Kind=a.Kind)&&decide ((f.ak.length:Int)=a.N)&&allI a.At.length (qe a f)
theorem oN{a:bj}{f:bf}{i:Nat}(h:i<a.At.length)(hp:qe a f i=false):iG a f=false:=by
 unfold iG;rw[cE h hp,qq]
theorem qH{a:bj}{f:bf}{i:Nat}(h:¬(0<=a.At.getD i 0/\a.At.getD i 0<f.ak.length/\(i:Int)<a.fg.length)):qe a f i=false:=by
 unfold qe;rw[decide_eq_false h,mD]
theorem E0{a:bj}{f:bf}{i:Nat}(h:¬f.ak.getD (a.At.getD i 0).toNat fL=a.fg.getD i fL):qe a f i=false:=by
 unfold qe;rw[decide_eq_false h,qq]
theorem vB{a:bj}{f:bf}{i:Nat}(h:0<=a.At.getD i 0/\a.At.getD i 0<f.ak.length/\(i:Int)<a.fg.length)(h2:f.ak.getD (a.At.getD i 0).toNat fL=a.fg.getD i fL):qe a f i=true:=by
 unfold qe;rw[decide_eq_true h,decide_eq_true h2];rfl
end
end AM
