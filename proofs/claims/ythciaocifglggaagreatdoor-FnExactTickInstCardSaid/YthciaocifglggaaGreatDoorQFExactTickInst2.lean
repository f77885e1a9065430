import Derived.Test.YthciaocifglggaaGreatDoorQAmLib
import Derived.Test.YthciaocifglggaaGreatDoorQFExactTickInst
import Derived.Lib.ItoaLen
import Derived.Lib.Join
import Derived.Test.YthciaocifglggaaGreatDoorQShelf
namespace AM
open Go Go.Proofs.Tryz Go.IntKind
set_option linter.unusedVariables false
set_option linter.unusedSimpArgs false
set_option maxRecDepth 100000
noncomputable section
def Tu:=bB (α:=(List bo)×(List BA)) (qC (qL .de) (q1 (qL .str))) [.ro,.ro] (fun _=>[]) (fun(l,vars)=>⟨[dO (nr l vars)],[],[]⟩)
def zS(l:List bo)(vars:List BA):Int×Unit->Prop:=fun(i,_)=>0<=i/\i<=l.length/\(l.drop i.toNat).all (pe vars)=l.all (pe vars)
def y9(l:List bo)(vars:List BA):Int×Unit->Nat:=fun(i,_)=>l.length-i.toNat
def aio:AX Tu:=fun(l,vars)=>bh [(2,aB [iI 5] (fun _=>zS l vars) (y9 l vars))]
def agA:HH:=hF Tu func202 [afW,Uu] aio fun x hp hb=>by
 obtain⟨l,vars⟩:=x
 have la:L9 l.length:=eY (hb _ m0)
 have Qq:L9 vars.length:=eY (hb _ m1)
 clear hp hb
 apply vE (let x0:=(l.length:Int);let q0:=Lb false (nr l vars);zS l vars (0,())/\∀(y:Int×PUnit),let x1:=l.getD y.1.toNat mB;let q1:=(wrap i64 (y.1+1),());zS l vars y->bif decide (y.1<x0) then 0<=y.1/\y.1.toNat<l.length/\bif !jT x1 then q0 else 0<=y.1/\y.1.toNat<l.length/\bif !fD vars x1.L then q0 else 0<=y.1/\y.1.toNat<l.length/\bif !fD vars x1.R then q0 else zS l vars q1/\y9 l vars q1<y9 l vars y else Lb (decide (x0<=6)) (nr l vars))
 dsimp only
 refine⟨⟨by omega,by omega,rfl⟩,?_⟩
 rintro⟨i,⟨⟩⟩ ⟨h1,h2,hR⟩
 simp only
 refine bT ?_ ?_<;>intro hc
 ·rw[ed _ _ mB h1 (by omega)] at hR
  rw[wi]
  have hN:pe vars (l.getD i.toNat mB)=false->nr l vars=false:=fun h=>by simp only[nr,<-hR,h];simp
  refine⟨by omega,by omega,cB (fun h=>bG (hN ?_)) (fun h=>⟨by omega,by omega,cB (fun g=>bG (hN ?_)) (fun g=>⟨by omega,by omega,cB (fun k=>bG (hN ?_)) (fun k=>⟨⟨by omega,by omega,?_⟩,by simp only[y9];omega⟩)⟩)⟩)⟩
  ·simp only[pe,h,rL]
  ·simp only[pe,g,xt,rL]
  ·simp only[pe,k,xt]
  ·rw[<-hR];simp only[pe,h,g,k,B4]
 ·rw[bZ _ (by omega)] at hR
  refine cK ?_
  simp only[nr,<-hR];simp;omega
def Tt:=bB (α:=(List cC)×(List BA)×Int) (qC (qL .fV) (qC (qL .str) (q1 qI))) [.ro,.ro,.ro] (fun _=>[]) (fun(l,vars,pos)=>⟨[dO (n7 l vars pos)],[],[]⟩)
def wm(l:List cC)(vars:List BA)(pos:Int):Int×Unit->Prop:=fun(i,_)=>0<=i/\i<=l.length/\(l.drop i.toNat).all (sq vars pos)=l.all (sq vars pos)
def qW(l:List cC)(vars:List BA)(pos:Int):Int×Unit->Nat:=fun(i,_)=>l.length-i.toNat
def re(l:List cC)(vars:List BA)(pos:Int):Int×Int×Unit->Int×Int×Unit->Prop:=fun(i0,k0,_) (i,k,_)=>i=i0/\0<=k/\k<=(l.getD i.toNat fK).aU.length/\((l.getD i.toNat fK).aU.drop k.toNat).all (lu vars)=(l.getD i.toNat fK).aU.all (lu vars)
def qV(l:List cC)(vars:List BA)(pos:Int):Int×Int×Unit->Nat:=fun(i,k,_)=>(l.getD i.toNat fK).aU.length-k.toNat
def ain:AX Tt:=fun(l,vars,pos)=>bh [(2,aB [iI 7] (fun _=>wm l vars pos) (qW l vars pos)),(7,aB [iI 7,iI 8] (re l vars pos) (qV l vars pos))]
def agz:HH:=hF Tt func203 [afV,Uu,rG] ain fun x hp hb=>by
 obtain⟨l,vars,pos⟩:=x
 have la:L9 l.length:=eY (hb _ m0)
 have Qq:L9 vars.length:=eY (hb _ m1)
 have amf:=iK (n:=pos) (hb _ m2)
 clear hp hb
 apply vE (let x0:=(l.length:Int);let q0:=Lb false (n7 l vars pos);wm l vars pos (0,())/\∀(y:Int×PUnit),let x1:=l.getD y.1.toNat fK;let q1:=(y.1,0,());wm l vars pos y->bif decide (y.1<x0) then 0<=y.1/\y.1.toNat<l.length/\bif !dN x1 then q0 else 0<=y.1/\y.1.toNat<l.length/\bif x1.Kind==2 then 0<=y.1/\y.1.toNat<l.length/\bif decide (x1.N≥pos) then q0 else re l vars pos q1 q1/\∀(aJ:Int×Int×PUnit),let x3:=aJ.2.1.toNat;let x4:=(↑((l.getD aJ.1.toNat fK).aU.length):Int);let x2:=(l.getD aJ.1.toNat fK).aU.getD x3 ke;let q2:=(aJ.1,wrap i64 (aJ.2.1+1),());let q3:=(wrap i64 (aJ.1+1),());re l vars pos q1 aJ->0<=aJ.1/\aJ.1.toNat<l.length/\bif decide (aJ.2.1<x4) then 0<=aJ.1/\aJ.1.toNat<l.length/\0<=aJ.2.1/\x3<(l.getD aJ.1.toNat fK).aU.length/\bif !fD vars x2.L then q0 else 0<=aJ.1/\aJ.1.toNat<l.length/\0<=aJ.2.1/\x3<(l.getD aJ.1.toNat fK).aU.length/\bif !fD vars x2.R then q0 else re l vars pos q1 q2/\qV l vars pos q2<qV l vars pos aJ else wm l vars pos q3/\qW l vars pos q3<qW l vars pos y else re l vars pos q1 q1/\∀(aJ:Int×Int×PUnit),let x3:=aJ.2.1.toNat;let x4:=(↑((l.getD aJ.1.toNat fK).aU.length):Int);let x2:=(l.getD aJ.1.toNat fK).aU.getD x3 ke;let q4:=(aJ.1,wrap i64 (aJ.2.1+1),());let q5:=(wrap i64 (aJ.1+1),());re l vars pos q1 aJ->0<=aJ.1/\aJ.1.toNat<l.length/\bif decide (aJ.2.1<x4) then 0<=aJ.1/\aJ.1.toNat<l.length/\0<=aJ.2.1/\x3<(l.getD aJ.1.toNat fK).aU.length/\bif !fD vars x2.L then q0 else 0<=aJ.1/\aJ.1.toNat<l.length/\0<=aJ.2.1/\x3<(l.getD aJ.1.toNat fK).aU.length/\bif !fD vars x2.R then q0 else re l vars pos q1 q4/\qV l vars pos q4<qV l vars pos aJ else wm l vars pos q5/\qW l vars pos q5<qW l vars pos y else Lb (decide (1<=x0/\x0<=6)) (n7 l vars pos))
 dsimp only
 refine⟨⟨by omega,by omega,rfl⟩,?_⟩
 rintro⟨i,⟨⟩⟩ ⟨h1,h2,hR⟩
 simp only
 refine bT ?_ ?_<;>intro hc
 ·rw[ed _ _ fK h1 (by omega)] at hR
  have hN:sq vars pos (l.getD i.toNat fK)=false->n7 l vars pos=false:=fun h=>by simp only[n7,<-hR,h];simp
  refine⟨by omega,by omega,cB (fun ha=>bG (hN (by simp only[sq,ha,rL]))) (fun ha=>⟨by omega,by omega,ix (fun kJ=>⟨by omega,by omega,bT (fun hp=>bG (hN ?_)) (fun hp=> ?_)⟩) (fun kJ=> ?_)⟩)⟩
  ·have:jl pos (l.getD i.toNat fK)=false:=by simp only[jl,kJ,decide_eq_true (show pos<=(l.getD i.toNat fK).N from hp)];simp
   simp only[sq,this,xt,rL]
  ·have hd:jl pos (l.getD i.toNat fK)=true:=by simp only[jl,decide_eq_false (show¬pos<=(l.getD i.toNat fK).N from hp)];simp
   have h5:=uB ha
   refine⟨⟨rfl,by omega,by omega,rfl⟩,?_⟩
   rintro⟨i',k,⟨⟩⟩ ⟨rfl,g1,g2,gR⟩
   simp only
   refine⟨by omega,by omega,bT (fun hk=> ?_) (fun hk=> ?_)⟩
   ·rw[ed _ _ ke g1 (by omega)] at gR
    rw[wi (n:=k+1)]
    have hM:lu vars ((l.getD i'.toNat fK).aU.getD k.toNat ke)=false->n7 l vars pos=false:=fun h=>hN (by simp only[sq,<-gR,h];simp)
    refine⟨by omega,by omega,g1,by omega,cB (fun e=>bG (hM ?_)) (fun e=>⟨by omega,by omega,g1,by omega,cB (fun f=>bG (hM ?_)) (fun f=>⟨⟨rfl,by omega,by omega,?_⟩,by simp only[qV];omega⟩)⟩)⟩
    ·simp only[lu,e,rL]
    ·simp only[lu,f,xt]
    ·rw[<-gR];simp only[lu,e,f,B4]
   ·rw[bZ _ (by omega)] at gR
    rw[wi (n:=i'+1)]
    refine⟨⟨by omega,by omega,?_⟩,by simp only[qW];omega⟩
    rw[<-hR];simp only[sq,<-gR,hd,ha,RQ,B4]
  ·have hd:jl pos (l.getD i.toNat fK)=true:=by simp only[jl,decide_eq_false kJ];simp
   have h5:=uB ha
   refine⟨⟨rfl,by omega,by omega,rfl⟩,?_⟩
   rintro⟨i',k,⟨⟩⟩ ⟨rfl,g1,g2,gR⟩
   simp only
   refine⟨by omega,by omega,bT (fun hk=> ?_) (fun hk=> ?_)⟩
   ·rw[ed _ _ ke g1 (by omega)] at gR
    rw[wi (n:=k+1)]
    have hM:lu vars ((l.getD i'.toNat fK).aU.getD k.toNat ke)=false->n7 l vars pos=false:=fun h=>hN (by simp only[sq,<-gR,h];simp)
    refine⟨by omega,by omega,g1,by omega,cB (fun e=>bG (hM ?_)) (fun e=>⟨by omega,by omega,g1,by omega,cB (fun f=>bG (hM ?_)) (fun f=>⟨⟨rfl,by omega,by omega,?_⟩,by simp only[qV];omega⟩)⟩)⟩
    ·simp only[lu,e,rL]
    ·simp only[lu,f,xt]
    ·rw[<-gR];simp only[lu,e,f,B4]
   ·rw[bZ _ (by omega)] at gR
    rw[wi (n:=i'+1)]
    refine⟨⟨by omega,by omega,?_⟩,by simp only[qW];omega⟩
    rw[<-hR];simp only[sq,<-gR,hd,ha,RQ,B4]
 ·rw[bZ _ (by omega)] at hR
  refine cK ?_
  simp only[n7,<-hR,RQ,Lc];exact decide_eq_decide.2 (by omega)
def Tv:=bB (α:=List b8) (q1 (qL .fU)) [.ro] (fun _=>[]) (fun l=>⟨[dO (l7 l)],[],[]⟩)
def rf(l:List b8):Int×Unit->Prop:=fun(i,_)=>0<=i/\i<=l.length/\∀j:Nat,(j:Int)<i->rX l j=true
def kW(l:List b8):Int×Unit->Nat:=fun(i,_)=>l.length-i.toNat
def aip:AX Tv:=fun l=>bh [(2,aB [iI 3] (fun _=>rf l) (kW l))]
def agB:HH:=hF Tv func201 [afX,rG] aip fun(l:List b8) hp hb=>by
 have la:L9 l.length:=eY (hb _ m0)
 clear hp hb
 apply vE (let x0:=(l.length:Int);let q0:=Lb false (l7 l);rf l (0,())/\∀(y:Int×PUnit),let x1:=Int.toNat (wrap i64 (y.1-1));let q1:=bif decide (y.1>0) then 0<=wrap i64 (y.1-1)/\x1<l.length/\bif (l.getD x1 e8).Not then 0<=y.1/\y.1.toNat<l.length/\bif !(l.getD y.1.toNat e8).Not then q0 else rf l (wrap i64 (y.1+1),())/\kW l (wrap i64 (y.1+1),())<kW l y else rf l (wrap i64 (y.1+1),())/\kW l (wrap i64 (y.1+1),())<kW l y else rf l (wrap i64 (y.1+1),())/\kW l (wrap i64 (y.1+1),())<kW l y;let q2:=(0:Int)<=y.1/\y.1.toNat<l.length/\bif !kg (l.getD y.1.toNat e8) then q0 else bif y.1==0 then 0<=y.1/\y.1.toNat<l.length/\bif (l.getD y.1.toNat e8).Not then q0 else q1 else q1;rf l y->bif decide (y.1<x0) then bif decide (y.1>2) then 0<=y.1/\y.1.toNat<l.length/\bif !(l.getD y.1.toNat e8).Not then q0 else q2 else q2 else Lb (decide (1<=x0/\x0<=6)) (l7 l))
 dsimp only
 refine⟨⟨by omega,by omega,by intro j hj;omega⟩,?_⟩
 rintro⟨i,⟨⟩⟩ ⟨h1,h2,hR⟩
 simp only
 refine bT ?_ ?_<;>intro hc
 ·have hN:rX l i.toNat=false->l7 l=false:=fun h=>by
   have hf:allI l.length (rX l)=false:=gv (j:=i.toNat) (by omega) h
   simp only[l7,hf];simp
  have hm:kW l (i+1,PUnit.unit)<kW l (i,()):=by simp only[kW];omega
  have e1:(i-1).toNat=i.toNat-1:=by omega
  simp(disch:=omega) only[wrap_i64]
  simp only[e1]
  have c1:decide (2<i.toNat)=decide (i>2):=decide_eq_decide.2 (by omega)
  have c2:decide (i.toNat=0)=decide (i=0):=decide_eq_decide.2 (by omega)
  have c3:decide (0<i.toNat)=decide (i>0):=decide_eq_decide.2 (by omega)
  have hA:rX l i.toNat=(kg (l.getD i.toNat e8)&& !(decide (i>2)&& !(l.getD i.toNat e8).Not)&& !(decide (i=0)&&(l.getD i.toNat e8).Not)&& !(decide (i>0)&&(l.getD (i.toNat-1) e8).Not&& !(l.getD i.toNat e8).Not)):=by
   simp only[rX,jA,c1,c2,c3]
  have Sy:rX l i.toNat=true->rf l (i+1,PUnit.unit)/\kW l (i+1,PUnit.unit)<kW l (i,()):=fun h=>⟨⟨by omega,by omega,fo h1 hR h⟩,hm⟩
  rw[hA] at hN Sy
  generalize (l.getD (i.toNat-1) e8).Not=q at*
  generalize (l.getD i.toNat e8).Not=r at*
  generalize kg (l.getD i.toNat e8)=s at*
  clear hA c1 c2 c3 hR
  have fX:i.toNat<l.length:=by omega
  have Bf:i.toNat-1<l.length:=by omega
  have hi1:i>0->0<=i-1:=fun h=>by omega
  repeat' (first|refine bG (hN ?_)|refine Sy ?_|refine bT (fun h=> ?_) (fun h=> ?_)|refine ix (fun h=> ?_) (fun h=> ?_)|refine aa (fun h=> ?_) (fun h=> ?_)|refine And.intro h1 ?_|refine And.intro fX ?_|refine And.intro Bf ?_|refine And.intro (hi1 (by assumption)) ?_)
  all_goals (cases q<;>cases r<;>cases s<;>simp at* <;>omega)
 ·have hA:allI l.length (rX l)=true:=hJ fun j hj=>hR j (by omega)
  refine cK ?_
  simp only[l7,hA,Lc];exact decide_eq_decide.2 (by omega)
def ae1:=bB (α:=aM) (q1 (qA .cy)) [.ro] (fun r=>[en r.aG<=4294967295]) (fun r=>⟨[dO (jK r)],[],[]⟩)
def ahi:HH:=hF ae1 func136 [agC,Dq,rG,agB,agA,agz,UH] a0 fun(r:aM) hp hb=>by
 have bj:=mR (x:=r) (hb _ m0)
 have nA:=bj.1
 have nz:=bj.2.1
 have l_:=bj.2.2.1
 have nB:=bj.2.2.2
 have bD:en r.aG<=4294967295:=hp _ m0
 clear hp hb
 apply vE (let q0:=Lb false (jK r);L4 (en r.aG)/\bif b7 r.Name then bif decide ((-100)<=r.pt/\r.pt<=100) then bif l7 r.aG then bif nr r.bO (dM r.aG) then Lb (n7 r.cA (dM r.aG) (↑(eg r.aG):Int)) (jK r) else q0 else q0 else q0 else q0)
 dsimp only
 refine⟨by omega,?_⟩
 simp only[jK]
 repeat' (refine aa (fun h=> ?_) (fun h=> ?_))
 all_goals (refine cK ?_;grind)
def Tm:=bB (α:=aM) (q1 (qA .cy)) [.ro] (fun _=>[]) (fun r=>⟨[dO (j8 r.aG)],[],[]⟩)
def zP(r:aM):Int×T1×Unit->Prop:=fun(i,b,_)=>b=(r.Name,r.pt,r.aG,r.bO,r.cA,())/\0<=i/\i<=r.aG.length/\(1<=r.aG.length/\r.aG.length<=6)/\(1<=eg r.aG/\eg r.aG<=3)/\∀j:Nat,(j:Int)<i->m_ r.aG j=true
def y5(r:aM):Int×T1×Unit->Nat:=fun(i,b,_)=>r.aG.length-i.toNat
def aif:AX Tm:=fun r=>bh [(4,aB [iI 19,.box 1 (1,1024) [.lit .str,.lit (.int .i64),.shr .fU,.shr .de,.shr .fV]] (fun _=>zP r) (y5 r))]
def agl:HH:=hF Tm func223 [xo,Oy,afM] aif fun(r:aM) hp hb=>by
 clear hp hb
 apply vE (let x0:=(r.aG.length:Int);let q0:=Lb false (j8 r.aG);bif !decide (1<=x0/\x0<=6) then q0 else bif !decide (1<=(↑(eg r.aG):Int)/\(↑(eg r.aG):Int)<=3) then q0 else zP r (0,(r.Name,r.pt,r.aG,r.bO,r.cA,()),())/\∀(y:Int×T8×PUnit),let x1:=(↑(eg y.2.1.2.2.1):Int);let q1:=(wrap i64 (y.1+1),(y.2.1.1,y.2.1.2.1,y.2.1.2.2.1,y.2.1.2.2.2.1,y.2.1.2.2.2.2.1,()),());zP r y->bif decide (y.1<x0) then 0<=y.1/\y.1.toNat<r.aG.length/\bif !kg (r.aG.getD y.1.toNat e8) then q0 else bif !(r.aG.getD y.1.toNat e8).Not==decide (y.1≥x1) then q0 else zP r q1/\y5 r q1<y5 r y else Lb true (j8 r.aG))
 dsimp only
 refine cB (fun h=>bG ?_) (fun h=>cB (fun h'=>bG ?_) (fun h'=> ?_))
 ·have h:=yF h
  simp only[j8];rw[decide_eq_false (by omega)];rfl
 ·have h':=yF h'
  simp only[j8];rw[decide_eq_false (p:=1<=eg r.aG/\eg r.aG<=3) (by omega)];simp
 have h:=yT h
 have h':=yT h'
 refine⟨⟨rfl,by omega,by omega,by omega,by omega,by intro j hj;omega⟩,?_⟩
 rintro⟨i,⟨b1,b2,b3,b4,b5,⟨⟩⟩,⟨⟩⟩ ⟨pO,h1,h2,h3,h4,hR⟩
 cases pO
 simp only
 refine bT ?_ ?_<;>intro hc
 ·have hN:m_ r.aG i.toNat=false->j8 r.aG=false:=fun h=>by
   have hf:allI r.aG.length (m_ r.aG)=false:=gv (j:=i.toNat) (by omega) h
   simp only[j8,hf];simp
  rw[wi]
  have c1:decide (eg r.aG<=i.toNat)=decide (i≥(eg r.aG:Int)):=decide_eq_decide.2 (by omega)
  refine⟨by omega,by omega,cB (fun g=>bG (hN (by simp only[m_,g,rL]))) (fun g=>cB (fun k=>bG (hN ?_)) (fun k=>⟨⟨rfl,by omega,by omega,h3,h4,fo h1 hR ?_⟩,by simp only[y5];omega⟩))⟩
  ·simp only[m_,jA,c1,k];simp
  ·simp only[m_,jA,c1,k,g];rfl
 ·have hA:allI r.aG.length (m_ r.aG)=true:=hJ fun j hj=>hR j (by omega)
  refine pX ?_
  simp only[j8,hA,decide_eq_true h3,decide_eq_true h4];rfl
def Tk:=bB (α:=aM) (q1 (qA .cy)) [.ro] (fun r=>[2*r.bO.length+ou r.cA<=4294967295]) (fun r=>⟨[dL .str (mC r)],[],[]⟩)
def zO(r:aM):List BA×Int×T1×Unit->Prop:=fun(v,i,b,_)=>b=(r.Name,r.pt,r.aG,r.bO,r.cA,())/\0<=i/\i<=r.bO.length/\v=(r.bO.take i.toNat).foldl lO []
def y4(r:aM):List BA×Int×T1×Unit->Nat:=fun(v,i,b,_)=>r.bO.length-i.toNat
def zN(r:aM):List BA×Int×Unit->Prop:=fun(v,i,_)=>0<=i/\i<=r.cA.length/\v=(r.cA.take i.toNat).foldl ov (r.bO.foldl lO [])
def y3(r:aM):List BA×Int×Unit->Nat:=fun(v,i,_)=>r.cA.length-i.toNat
def wh(r:aM):List BA×Int×Int×Unit->List BA×Int×Int×Unit->Prop:=fun(v0,i0,k0,_) (v,i,k,_)=>i=i0/\0<=k/\k<=(r.cA.getD i.toNat fK).aU.length/\v=((r.cA.getD i.toNat fK).aU.take k.toNat).foldl rk v0
def vW(r:aM):List BA×Int×Int×Unit->Nat:=fun(v,i,k,_)=>(r.cA.getD i.toNat fK).aU.length-k.toNat
def aid:AX Tk:=fun r=>bh [(3,aB [iO 3 .str,iI 13,.box 1 (1,1024) [.lit .str,.lit (.int .i64),.shr .fU,.shr .de,.shr .fV]] (fun _=>zO r) (y4 r)),(8,aB [iO 3 .str,iI 28] (fun _=>zN r) (y3 r)),(11,aB [iO 3 .str,iI 28,iI 35] (wh r) (vW r))]
def agh:HH:=hF Tk func227 [Ur] aid fun(r:aM) hp hb=>by
 have bj:=mR (x:=r) (hb _ m0)
 have nA:=bj.1
 have nz:=bj.2.1
 have l_:=bj.2.2.1
 have nB:=bj.2.2.2
 have bD:2*r.bO.length+ou r.cA<=4294967295:=hp _ m0
 clear hp hb
 apply vE (zO r ([],0,(r.Name,r.pt,r.aG,r.bO,r.cA,()),())/\∀(y:List BA×Int×T8×PUnit),let x2:=y.2.2.1.2.2.2.2.1.length;let x4:=y.2.1.toNat;let x1:=(↑x2:Int);let x3:=r.bO.getD x4 mB;let x0:=[x3.L,x3.R];zO r y->bif decide (y.2.1<(r.bO.length:Int)) then 0<=y.2.1/\x4<r.bO.length/\y.1.length+x0.length<=4294967295/\zO r (c_ y.1 x0,wrap i64 (y.2.1+1),(y.2.2.1.1,y.2.2.1.2.1,y.2.2.1.2.2.1,y.2.2.1.2.2.2.1,y.2.2.1.2.2.2.2.1,()),())/\y4 r (c_ y.1 x0,wrap i64 (y.2.1+1),(y.2.2.1.1,y.2.2.1.2.1,y.2.2.1.2.2.1,y.2.2.1.2.2.2.1,y.2.2.1.2.2.2.2.1,()),())<y4 r y else zN r (y.1,0,())/\∀(aJ:List BA×Int×PUnit),let x8:=aJ.2.1.toNat;let x7:=(y.2.2.1.2.2.2.2.1.getD x8 fK).aU;let x6:=x7.length;let x5:=(↑x6:Int);let q0:=(aJ.1,aJ.2.1,0,());zN r aJ->bif decide (aJ.2.1<x1) then 0<=aJ.2.1/\x8<x2/\wh r q0 q0/\∀(y:List BA×Int×Int×PUnit),let ya:=y.2.2.1.toNat;let rz:=x7.getD ya ke;let x9:=[rz.L,rz.R];let q1:=(c_ y.1 x9,y.2.1,wrap i64 (y.2.2.1+1),());let q2:=(y.1,wrap i64 (y.2.1+1),());wh r q0 y->bif decide (y.2.2.1<x5) then 0<=y.2.2.1/\ya<x6/\y.1.length+x9.length<=4294967295/\wh r q0 q1/\vW r q1<vW r y else zN r q2/\y3 r q2<y3 r aJ else Lf [VL .str aJ.1] [VL .str (mC r)])
 dsimp only
 refine⟨⟨rfl,by omega,by omega,rfl⟩,?_⟩
 rintro⟨v,i,⟨b1,b2,b3,b4,b5,⟨⟩⟩,⟨⟩⟩ ⟨pO,h1,h2,rfl⟩
 cases pO
 simp only
 refine bT ?_ ?_<;>intro hc
 ·have hs:=mb lO [] r.bO mB h1 hc
  have hl:=p7 (r.bO.take i.toNat) []
  have yk:(r.bO.take i.toNat).length<=i.toNat:=by rw[od];omega
  simp only[om] at hl
  rw[wi]
  refine⟨by omega,by omega,by simp only[n_,om];omega,⟨rfl,by omega,by omega,hs.symm⟩,by simp only[y4];omega⟩
 rw[cT r.bO (by omega)]
 have XE:=p7 r.bO []
 simp only[om] at XE
 refine⟨⟨by omega,by omega,rfl⟩,?_⟩
 rintro⟨v,i,⟨⟩⟩ ⟨g1,g2,rfl⟩
 simp only
 refine bT ?_ ?_<;>intro hc
 ·have hs:=mb ov (r.bO.foldl lO []) r.cA fK g1 hc
  have ha:=Lz r.cA g1 hc
  have hl:=tZ (r.cA.take i.toNat) (r.bO.foldl lO [])
  refine⟨by omega,by omega,⟨rfl,by omega,by omega,rfl⟩,?_⟩
  rintro⟨v,i',k,⟨⟩⟩ ⟨rfl,k1,k2,rfl⟩
  simp only
  have hle:=wK ((r.cA.getD i'.toNat fK).aU.take k.toNat) ((r.cA.take i'.toNat).foldl ov (r.bO.foldl lO []))
  have yk:((r.cA.getD i'.toNat fK).aU.take k.toNat).length<=k.toNat:=by rw[od];omega
  refine bT ?_ ?_<;>intro hk
  ·have hf:=mb rk ((r.cA.take i'.toNat).foldl ov (r.bO.foldl lO [])) (r.cA.getD i'.toNat fK).aU ke k1 hk
   rw[wi]
   exact⟨by omega,by omega,by simp only[n_,om];omega,⟨rfl,by omega,by omega,hf.symm⟩,by simp only[vW];omega⟩
  ·rw[wi]
   refine⟨⟨by omega,by omega,?_⟩,by simp only[y3];omega⟩
   rw[hs,cT (r.cA.getD i'.toNat fK).aU (by omega)];rfl
 ·rw[cT r.cA (by omega)]
  exact aH _
def TN:=bB (α:=aM) (q1 (qA .cy)) [.ro] (fun _=>[]) (fun r=>⟨[dO (jK r)],[],[]⟩)
def z_(r:aM):Int×T1×Unit->Prop:=fun(i,b,_)=>b=(r.Name,r.pt,r.aG,r.bO,r.cA,())/\0<=i/\i<=r.bO.length/\(r.bO.drop i.toNat).all jT=r.bO.all jT
def zg(r:aM):Int×T1×Unit->Nat:=fun(i,b,_)=>r.bO.length-i.toNat
def ww(r:aM):Int×T1×Unit->Prop:=fun(i,b,_)=>b=(r.Name,r.pt,r.aG,r.bO,r.cA,())/\0<=i/\i<=r.cA.length/\(r.cA.drop i.toNat).all (fun a=>dN a&&jl (eg r.aG) a)=r.cA.all (fun a=>dN a&&jl (eg r.aG) a)
def su(r:aM):Int×T1×Unit->Nat:=fun(i,b,_)=>r.cA.length-i.toNat
def wv(r:aM):Int×List BA×List BA×Unit->Prop:=fun(i,v,u,_)=>v=iE r.aG/\u=mC r/\0<=i/\i<=(mC r).length/\((mC r).drop i.toNat).all (lM (iE r.aG))=(mC r).all (lM (iE r.aG))
def vY(r:aM):Int×List BA×List BA×Unit->Nat:=fun(i,v,u,_)=>(mC r).length-i.toNat
def aiG:AX TN:=fun r=>bh [(6,aB [iI 39,.box 1 (1,1024) [.lit .str,.lit (.int .i64),.shr .fU,.shr .de,.shr .fV]] (fun _=>z_ r) (zg r)),(12,aB [iI 50,.box 1 (1,1024) [.lit .str,.lit (.int .i64),.shr .fU,.shr .de,.shr .fV]] (fun _=>ww r) (su r)),(19,aB [iI 75,iO 7 .str,iO 73 .str] (fun _=>wv r) (vY r))]
def ag1:HH:=hF TN func165 [Dp,xo,agl,agk,agj,Oy,agi,agh,Uw] aiG fun(r:aM) hp hb=>by
 clear hp hb
 apply vE (let x0:=(r.bO.length:Int);let q0:=Lb false (jK r);let q1:=BA×Int×List b8×List bo×List cC×PUnit;bif !b7 r.Name then q0 else bif !decide ((-100)<=r.pt/\r.pt<=100) then q0 else bif !j8 r.aG then q0 else bif decide (x0>6) then q0 else bif !decide (1<=(r.cA.length:Int)/\(r.cA.length:Int)<=6) then q0 else z_ r (0,(r.Name,r.pt,r.aG,r.bO,r.cA,()),())/\∀(y:Int×q1×PUnit),let x2:=y.2.1.2.2.2.2.1.length;let x1:=(↑x2:Int);z_ r y->bif decide (y.1<x0) then 0<=y.1/\y.1.toNat<r.bO.length/\bif !jT (r.bO.getD y.1.toNat mB) then q0 else z_ r (wrap i64 (y.1+1),(y.2.1.1,y.2.1.2.1,y.2.1.2.2.1,y.2.1.2.2.2.1,y.2.1.2.2.2.2.1,()),())/\zg r (wrap i64 (y.1+1),(y.2.1.1,y.2.1.2.1,y.2.1.2.2.1,y.2.1.2.2.2.1,y.2.1.2.2.2.2.1,()),())<zg r y else ww r (0,(y.2.1.1,y.2.1.2.1,y.2.1.2.2.1,y.2.1.2.2.2.1,y.2.1.2.2.2.2.1,()),())/\∀(aJ:Int×q1×PUnit),let x4:=mC {Name:=aJ.2.1.1,pt:=aJ.2.1.2.1,aG:=aJ.2.1.2.2.1,bO:=aJ.2.1.2.2.2.1,cA:=aJ.2.1.2.2.2.2.1:aM};let x5:=y.2.1.2.2.2.2.1.getD aJ.1.toNat fK;let x6:=(↑(eg aJ.2.1.2.2.1):Int);let x3:=(x4.length:Int);let q2:=(wrap i64 (aJ.1+1),(aJ.2.1.1,aJ.2.1.2.1,aJ.2.1.2.2.1,aJ.2.1.2.2.2.1,aJ.2.1.2.2.2.2.1,()),());let q3:=ww r q2/\su r q2<su r aJ;ww r aJ->bif decide (aJ.1<x1) then 0<=aJ.1/\aJ.1.toNat<x2/\bif !dN x5 then q0 else bif x5.Kind==2 then bif decide (x5.N≥x6) then q0 else q3 else q3 else en aJ.2.1.2.2.1<=4294967295/\2*aJ.2.1.2.2.2.1.length+ou aJ.2.1.2.2.2.2.1<=4294967295/\wv r (0,iE aJ.2.1.2.2.1,x4,())/\∀(y:Int×List BA×List BA×PUnit),let q4:=(wrap i64 (y.1+1),y.2.1,y.2.2.1,());wv r y->bif decide (y.1<x3) then 0<=y.1/\y.1.toNat<y.2.2.1.length/\y.1.toNat<y.2.2.1.length/\bif !lM y.2.1 (y.2.2.1.getD y.1.toNat ak) then q0 else wv r q4/\vY r q4<vY r y else Lb true (jK r))
 dsimp only
 have hF:kT r=false->jK r=false:=fun h=>by rw[<-AH];exact h
 refine cB (fun a1=>bG (hF (by simp[kT,a1]))) (fun a1=>cB (fun a2=>bG (hF (by simp only[kT,a2];simp))) (fun a2=>cB (fun a3=>bG (hF ?_)) (fun a3=>bT (fun a4=>bG (hF ?_)) (fun a4=>cB (fun a5=>bG (hF ?_)) (fun a5=> ?_)))))
 ·rw[ue] at a3;simp[kT,a3]
 ·simp only[kT];rw[decide_eq_false (p:=r.bO.length<=6) (by omega)];simp
 ·have a5:=yF a5
  simp only[kT];rw[decide_eq_false (p:=1<=r.cA.length/\r.cA.length<=6) (by omega)];simp
 rw[ue] at a3
 have a5:=yT a5
 refine⟨⟨rfl,by omega,by omega,rfl⟩,?_⟩
 rintro⟨i,⟨b1,b2,b3,b4,b5,⟨⟩⟩,⟨⟩⟩ ⟨pO,h1,h2,hR⟩
 cases pO
 simp only
 refine bT ?_ ?_<;>intro hc
 ·rw[ed _ _ mB h1 (by omega)] at hR
  rw[wi]
  refine⟨by omega,by omega,cB (fun g=>bG (hF ?_)) (fun g=>⟨⟨rfl,by omega,by omega,?_⟩,by simp only[zg];omega⟩)⟩
  ·simp only[kT,<-hR,g];simp
  ·rw[<-hR,g];rfl
 rw[bZ _ (by omega)] at hR
 have a6:r.bO.all jT=true:=hR.symm
 refine⟨⟨rfl,by omega,by omega,rfl⟩,?_⟩
 rintro⟨i,⟨b1,b2,b3,b4,b5,⟨⟩⟩,⟨⟩⟩ ⟨pO,g1,g2,gR⟩
 cases pO
 simp only
 refine bT ?_ ?_<;>intro hc
 ·rw[ed _ _ fK g1 (by omega)] at gR
  rw[wi]
  have hN:(dN (r.cA.getD i.toNat fK)&&jl (eg r.aG) (r.cA.getD i.toNat fK))=false->jK r=false:=fun h=>hF (by simp only[kT,<-gR,h];simp)
  have Sy:dN (r.cA.getD i.toNat fK)=true->jl (eg r.aG) (r.cA.getD i.toNat fK)=true->(r.cA.drop (i+1).toNat).all (fun a=>dN a&&jl (eg r.aG) a)=r.cA.all (fun a=>dN a&&jl (eg r.aG) a):=fun e1 e2=>by rw[<-gR,e1,e2];rfl
  refine⟨by omega,by omega,cB (fun ha=>bG (hN (by rw[ha];rfl))) (fun ha=>ix (fun kJ=>bT (fun hp=>bG (hN ?_)) (fun hp=>⟨⟨rfl,by omega,by omega,Sy ha ?_⟩,by simp only[su];omega⟩)) (fun kJ=>⟨⟨rfl,by omega,by omega,Sy ha ?_⟩,by simp only[su];omega⟩))⟩
  ·simp only[jl,kJ,decide_eq_true (show(eg r.aG:Int)<=(r.cA.getD i.toNat fK).N from hp)];simp
  ·simp only[jl,decide_eq_false (show¬(eg r.aG:Int)<=(r.cA.getD i.toNat fK).N from hp)];simp
  ·simp only[jl,decide_eq_false kJ];simp
 rw[bZ _ (by omega)] at gR
 have a7:r.cA.all (fun a=>dN a&&jl (eg r.aG) a)=true:=gR.symm
 have hpa:=Gd a3
 have tS:=Hm (l:=r.cA) (by omega) (fun a ha=>by
  have:=As.1 a7 a ha
  simp only[eE] at this
  exact this.1)
 have hul:(mC r).length<=2*r.bO.length+ou r.cA:=by
  have q1:=tZ r.cA (r.bO.foldl lO [])
  have q2:=p7 r.bO []
  simp only[om] at q2
  simp only[mC];omega
 refine⟨by omega,by omega,⟨rfl,rfl,by omega,by omega,rfl⟩,?_⟩
 rintro⟨i,v,u,⟨⟩⟩ ⟨rfl,rfl,k1,k2,kR⟩
 simp only
 refine bT ?_ ?_<;>intro hk
 ·rw[ed _ _ ak k1 hk] at kR
  rw[wi]
  have cM:i<(mC r).length:=hk
  refine⟨by omega,by omega,by omega,cB (fun g=>bG (hF ?_)) (fun g=>⟨⟨rfl,rfl,by omega,by omega,?_⟩,by simp only[vY];omega⟩)⟩
  ·simp only[kT,<-kR,g];simp
  ·rw[<-kR,g];rfl
 ·have cM:¬i<(mC r).length:=hk
  rw[bZ _ (by omega)] at kR
  refine pX ?_
  rw[<-AH]
  simp only[kT,a1,a2,a3,a6,a7,<-kR,decide_eq_true (show r.bO.length<=6 by omega),decide_eq_true (show 1<=r.cA.length/\r.cA.length<=6 by omega)];rfl
def ac9:=bB (α:=List ag) (q1 (qL .aw)) [.ro] (fun l=>[L4 (bz l)]) (fun l=>⟨[dL .aw l],[],[]⟩)
def Fg(l:List ag):List ag×Int×Unit->Prop:=fun(out,i,_)=>0<=i/\i<=l.length/\out=l.take i.toNat
def EF(l:List ag):List ag×Int×Unit->Nat:=fun(out,i,_)=>l.length-i.toNat
def apa:AX ac9:=fun l=>bh [(3,aB [iO 3 .aw,iI 4] (fun _=>Fg l) (EF l))]
def afm:HH:=hF ac9 func69 [Cq] apa fun(l:List ag) hp hb=>by
 have bD:bz l<=4294967296:=hp _ m0
 clear hp hb
 apply vE (Fg l ([],0,())/\∀(y:List ag×Int×PUnit),let x2:=y.2.1.toNat;let x1:=l.getD x2 aq;let x0:=[x1];let q0:=(y.1++x0,wrap i64 (y.2.1+1),());Fg l y->bif decide (y.2.1<(l.length:Int)) then 0<=y.2.1/\x2<l.length/\L4 x1.F.ae.length/\L4 (y.1.length+x0.length)/\Fg l q0/\EF l q0<EF l y else Lf [VL .aw y.1] [VL .aw l])
 dsimp only
 refine⟨⟨by omega,by omega,by simp⟩,?_⟩
 rintro⟨out,i,⟨⟩⟩ ⟨h1,h2,rfl⟩
 simp only
 refine aa ?_ ?_<;>intro hc
 ·have hc:=yT hc
  have hs:=dJ dK l aq h1 hc
  simp only[bz] at bD
  have hx:=hs
  simp only[dK,bu,cU] at hx
  rw[dW l aq h1 hc,wi]
  repeat' (first|refine And.intro (by omega) ?_|fail)
  refine⟨by simp;omega,⟨by omega,by omega,rfl⟩,by simp only[EF];omega⟩
 ·have hc:=yF hc
  rw[cT l (by omega)]
  exact aH _
def acS:=bB (α:=List ag) (q1 (qL .aw)) [.ro] (fun l=>[L4 (bz l)]) (fun l=>⟨[dL .aw l],[],[]⟩)
def E0(l:List ag):List ag×Int×Unit->Prop:=fun(out,i,_)=>0<=i/\i<=l.length/\out=l.take i.toNat
def Er(l:List ag):List ag×Int×Unit->Nat:=fun(out,i,_)=>l.length-i.toNat
def aoV:AX acS:=fun l=>bh [(3,aB [iO 3 .aw,iI 8] (fun _=>E0 l) (Er l))]
def RL:HH:=hF acS func94 [wA] aoV fun(l:List ag) hp hb=>by
 have bD:bz l<=4294967296:=hp _ m0
 clear hp hb
 apply vE (E0 l ([],0,())/\∀(y:List ag×Int×PUnit),let x2:=y.2.1.toNat;let x1:=l.getD x2 aq;let x0:=[x1];let q0:=(y.1++x0,wrap i64 (y.2.1+1),());E0 l y->bif decide (y.2.1<(l.length:Int)) then 0<=y.2.1/\x2<l.length/\L4 x1.F.ae.length/\L4 (y.1.length+x0.length)/\E0 l q0/\Er l q0<Er l y else Lf [VL .aw y.1] [VL .aw l])
 dsimp only
 refine⟨⟨by omega,by omega,by simp⟩,?_⟩
 rintro⟨out,i,⟨⟩⟩ ⟨h1,h2,rfl⟩
 simp only
 refine aa ?_ ?_<;>intro hc
 ·have hc:=yT hc
  have hs:=dJ dK l aq h1 hc
  simp only[bz] at bD
  have hx:=hs
  simp only[dK,bu,cU] at hx
  rw[dW l aq h1 hc,wi]
  repeat' (first|refine And.intro (by omega) ?_|fail)
  refine⟨by simp;omega,⟨by omega,by omega,rfl⟩,by simp only[Er];omega⟩
 ·have hc:=yF hc
  rw[cT l (by omega)]
  exact aH _
def v7:jH UU where
 α:=ag
 md:=[.ro]
 of:=o1 (oA .aw)
 ds:=fun x=>[dA .aw x]
 pre:=fun _=>[]
 mE:=fun t=>⟨[dO (iR t)],[],[]⟩
 law:=l1 (lA .aw)
def Oz:HH:=hF v7 func105 [] a0 fun(t:ag) hp hb=>by
 clear hp hb
 apply vE (bif t.State==1 then Lb true (iR t) else Lb (t.State==2) (iR t))
 simp only[iR]
 refine aa (fun h=>cK ?_) (fun h=>cK ?_)<;>grind
def Tq:=bB (α:=List ag) (q1 (qL .aw)) [.ro] (fun l=>[L4 (bz l)]) (fun l=>⟨[dL .aw (giveUp l)],[],[]⟩)
def tz(l:List ag):List ag×Int×Unit->Prop:=fun(out,i,_)=>0<=i/\i<=l.length/\out=(l.map fF).take i.toNat++l.drop i.toNat
def ny(l:List ag):List ag×Int×Unit->Nat:=fun(out,i,_)=>l.length-i.toNat
def aik:AX Tq:=fun l=>bh [(3,aB [iO 3 .aw,iI 4] (fun _=>tz l) (ny l))]
def UA:HH:=hF Tq func209 [afm] aik fun(l:List ag) hp hb=>by
 have la:L9 l.length:=eY (hb _ m0)
 have bD:bz l<=4294967296:=hp _ m0
 clear hp hb
 apply vE (bz l<=4294967296/\tz l (l,0,())/\∀(y:List ag×Int×PUnit),let x0:=y.2.1.toNat;let q0:=y.2.1+1;let q1:=(y.1,wrap i64 q0,());tz l y->bif decide (y.2.1<(y.1.length:Int)) then 0<=y.2.1/\x0<y.1.length/\x0<y.1.length/\bif (y.1.getD x0 aq).State==1 then 0<=y.2.1/\x0<y.1.length/\x0<y.1.length/\tz l (y.1.modify x0 fun(x:ag)=>{F:=x.F,cq:=x.cq,State:=(4:Int),bg:=x.bg,jv:=x.jv,V:=x.V:ag},wrap i64 q0,())/\ny l (y.1.modify x0 fun(x:ag)=>{F:=x.F,cq:=x.cq,State:=(4:Int),bg:=x.bg,jv:=x.jv,V:=x.V:ag},wrap i64 q0,())<ny l y else 0<=y.2.1/\x0<y.1.length/\x0<y.1.length/\bif (y.1.getD x0 aq).State==2 then 0<=y.2.1/\x0<y.1.length/\x0<y.1.length/\tz l (y.1.modify x0 fun(x:ag)=>{F:=x.F,cq:=x.cq,State:=(4:Int),bg:=x.bg,jv:=x.jv,V:=x.V:ag},wrap i64 q0,())/\ny l (y.1.modify x0 fun(x:ag)=>{F:=x.F,cq:=x.cq,State:=(4:Int),bg:=x.bg,jv:=x.jv,V:=x.V:ag},wrap i64 q0,())<ny l y else tz l q1/\ny l q1<ny l y else Lf [VL .aw y.1] [VL .aw (giveUp l)])
 dsimp only
 refine⟨bD,⟨by omega,by omega,by simp⟩,?_⟩
 rintro⟨out,i,⟨⟩⟩ ⟨h1,h2,rfl⟩
 have hl:=yu fF l h1 h2
 simp only
 refine aa ?_ ?_<;>intro hc
 ·have hc:=yT hc
  have hc:i<l.length:=by omega
  have hg:=fC _ l aq (DU fF l h1 h2) h1 hc
  rw[hg,wi,hl]
  repeat' (first|refine And.intro (by omega) ?_|refine aa (fun h=> ?_) (fun h=> ?_)|fail)
  all_goals first
   |(rw[vf fF l aq _ h1 hc (by simp only[fF];grind)];exact⟨⟨by omega,by omega,rfl⟩,by simp only[ny];omega⟩)
   |(have hs:=ve fF l aq h1 hc (by simp only[fF];grind);exact⟨⟨by omega,by omega,hs⟩,by simp only[ny];omega⟩)
 ·have hc:=yF hc
  rw[vg fF l (by omega)]
  exact aH _
def SZ:=bB (α:=List ag) (q1 (qL .aw)) [.ro] (fun l=>[L4 (bz l)]) (fun l=>⟨[dL .aw (giveUp l)],[],[]⟩)
def v_(l:List ag):List ag×Int×Unit->Prop:=fun(out,i,_)=>0<=i/\i<=l.length/\out=(l.map fF).take i.toNat++l.drop i.toNat
def qO(l:List ag):List ag×Int×Unit->Nat:=fun(out,i,_)=>l.length-i.toNat
def ahU:AX SZ:=fun l=>bh [(3,aB [iO 3 .aw,iI 9] (fun _=>v_ l) (qO l))]
def afG:HH:=hF SZ func275 [RL,Oz] ahU fun(l:List ag) hp hb=>by
 have la:L9 l.length:=eY (hb _ m0)
 have bD:bz l<=4294967296:=hp _ m0
 clear hp hb
 apply vE (bz l<=4294967296/\v_ l (l,0,())/\∀(y:List ag×Int×PUnit),let x0:=y.2.1.toNat;let q0:=(y.1,wrap i64 (y.2.1+1),());v_ l y->bif decide (y.2.1<(l.length:Int)) then 0<=y.2.1/\x0<y.1.length/\x0<y.1.length/\x0<y.1.length/\bif iR (y.1.getD x0 aq) then 0<=y.2.1/\x0<y.1.length/\x0<y.1.length/\v_ l (y.1.modify x0 fun(x:ag)=>{F:=x.F,cq:=x.cq,State:=(4:Int),bg:=x.bg,jv:=x.jv,V:=x.V:ag},wrap i64 (y.2.1+1),())/\qO l (y.1.modify x0 fun(x:ag)=>{F:=x.F,cq:=x.cq,State:=(4:Int),bg:=x.bg,jv:=x.jv,V:=x.V:ag},wrap i64 (y.2.1+1),())<qO l y else v_ l q0/\qO l q0<qO l y else Lf [VL .aw y.1] [VL .aw (giveUp l)])
 dsimp only
 refine⟨bD,⟨by omega,by omega,by simp⟩,?_⟩
 rintro⟨out,i,⟨⟩⟩ ⟨h1,h2,rfl⟩
 have hl:=yu fF l h1 h2
 simp only
 refine aa ?_ ?_<;>intro hc
 ·have hc:=yT hc
  have hc:i<l.length:=by omega
  have hg:=fC _ l aq (DU fF l h1 h2) h1 hc
  rw[hg,wi,hl]
  have hio:iR (l.getD i.toNat aq)=decide ((l.getD i.toNat aq).State=1\/(l.getD i.toNat aq).State=2):=rfl
  rw[hio]
  repeat' (first|refine And.intro (by omega) ?_|refine aa (fun h=> ?_) (fun h=> ?_)|fail)
  all_goals first
   |(rw[vf fF l aq _ h1 hc (by simp only[fF];grind)];exact⟨⟨by omega,by omega,rfl⟩,by simp only[qO];omega⟩)
   |(have hs:=ve fF l aq h1 hc (by simp only[fF];grind);exact⟨⟨by omega,by omega,hs⟩,by simp only[qO];omega⟩)
 ·have hc:=yF hc
  rw[vg fF l (by omega)]
  exact aH _
def anw:=bB (α:=aj) (q1 (qA .cz)) [.ro] (fun _=>[]) (fun x=>⟨[dO (decide (x.State=2\/x.State=4\/x.State=6))],[],[]⟩)
def afS:HH:=hF anw func26 [] a0 fun(x:aj) hp hb=>by
 clear hp hb
 apply vE (let q0:=decide (x.State=2\/x.State=4\/x.State=6);bif x.State==2 then Lb true q0 else bif x.State==4 then Lb true q0 else Lb (x.State==6) q0)
 dsimp only
 repeat' (refine aa (fun h=> ?_) (fun h=> ?_))
 all_goals (refine cK ?_;grind)
def ans:=bB (α:=aj) (q1 (qA .cz)) [.ro] (fun _=>[]) (fun x=>⟨[dO (decide (x.State=2\/x.State=4\/x.State=6))],[],[]⟩)
def afn:HH:=hF ans func36 [] a0 fun(x:aj) hp hb=>by
 clear hp hb
 apply vE (let q0:=decide (x.State=2\/x.State=4\/x.State=6);bif x.State==2 then Lb true q0 else bif x.State==4 then Lb true q0 else Lb (x.State==6) q0)
 dsimp only
 repeat' (refine aa (fun h=> ?_) (fun h=> ?_))
 all_goals (refine cK ?_;grind)
def kx(x:aM):DA UU:=⟨true,[.lit (.string x.Name),.lit (.int .i64 x.pt),.sl .fU x.aG,.sl .de x.bO,.sl .fV x.cA]⟩
def qa(l:List aM)(name:BA):Int:=ji l.length fun k=>decide ((l.getD k cO).Name=name)
def kw(l:List aM)(i:Nat):Bool:=jK (l.getD i cO)&&decide (qa l (l.getD i cO).Name=i)
def kO(d:cr):Bool:=b7 d.Name&&decide (1<=d.aT.length/\d.aT.length<=12)&&allI d.aT.length (kw d.aT)
theorem J7{l:List aM}{i:Int}(h0:0<=i)(h:i<l.length):en (l.getD i.toNat cO).aG<=gB l:=by
 have hs:=dJ dy l cO h0 h
 have hp:=DL (l.getD i.toNat cO).aG
 simp only[dy] at hs
 simp only[gB,dy];omega
def Cg(l:List bf)(f:aA):Int:=ji l.length fun k=>decide ((l.getD k a_).F=f)
def lK(l:List bf)(f:aA):Int:=if Cg l f= -1 then 0 else(l.getD (Cg l f).toNat a_).Id
def sG(l:List bf)(id:Int):Int:=ji l.length fun k=>decide ((l.getD k a_).Id=id)
def nc(l:List bf)(id:Int):aA:=if sG l id= -1 then uL else(l.getD (sG l id).toNat a_).F
def ko(l:List bf)(id:Int):Bool:=anyI l.length fun k=>decide ((l.getD k a_).Id=id)
def jo(s:az)(i:Nat):Bool:=cg (s.ab.getD i a_).F&&decide (1<=(s.ab.getD i a_).Id)&&decide ((s.ab.getD i a_).Id<s.Next)&& !(decide (0<i)&&decide ((s.ab.getD i a_).Id<=(s.ab.getD (i-1) a_).Id))
def na(s:az)(i:Nat):Bool:=jo s i&&decide (lK s.ab (s.ab.getD i a_).F=(s.ab.getD i a_).Id)
def iH(s:az)(i:Nat):Bool:=jo s i&& !(anyI i fun k=>decide ((s.ab.getD i a_).F=(s.ab.getD k a_).F))
def bP(s:az):Bool:=decide (1<=s.Next/\s.Next<=1000000)&&decide (s.ab.length<=40)&&allI s.ab.length (na s)
theorem Hg{s:az}(h:∀i,i<s.ab.length->jo s i=true):∀j i,j<i->i<s.ab.length->(s.ab.getD j a_).Id<(s.ab.getD i a_).Id:=by
 intro j i BZ hi
 have step:∀m,m+1<s.ab.length->(s.ab.getD m a_).Id<(s.ab.getD (m+1) a_).Id:=fun m hm=>by
  have:=h (m+1) hm
  simp only[jo,eE,rj,Bool.and_eq_false_iff,decide_eq_false_iff_not,decide_eq_true_eq,Nat.add_sub_cancel] at this
  have:=this.2
  omega
 obtain⟨k,rfl⟩:∃k,i=j+1+k:=⟨i-j-1,by omega⟩
 clear BZ
 induction k with
 |zero=>exact step j hi
 |succ k ih=>exact Int.lt_trans (ih (by omega)) (step (j+1+k) hi)
theorem Az(s:az):allI s.ab.length (iH s)=allI s.ab.length (na s):=by
 rw[FG,j6,j6]
 have abY:∀i,i<s.ab.length->∃m,m<=i/\Cg s.ab (s.ab.getD i a_).F=(m:Int)/\(s.ab.getD m a_).F=(s.ab.getD i a_).F/\∀j,j<m->¬(s.ab.getD j a_).F=(s.ab.getD i a_).F:=by
  intro i hi
  rcases jh s.ab.length (fun k=>decide ((s.ab.getD k a_).F=(s.ab.getD i a_).F)) with⟨_,h2⟩|⟨m,g1,g2,g3,g4⟩
  ·have:=h2 i hi;simp at this
  ·refine⟨m,?_,g2,yT g3,fun j hj=>yF (g4 j hj)⟩
   rcases mX i m with g|g
   ·have:=g4 i g;simp at this
   ·exact g
 have hid:∀i m:Nat,Cg s.ab (s.ab.getD i a_).F=(m:Int)->lK s.ab (s.ab.getD i a_).F=(s.ab.getD m a_).Id:=fun i m h=>by
  rw[lK,h,if_neg (by omega)];simp
 constructor
 ·intro h i hi
  have Jr:=h i hi
  simp only[iH,eE,rj] at Jr
  obtain⟨m,m1,m2,m3,m4⟩:=abY i hi
  have:m=i:=by
   rcases mX m i with g|g
   ·have:=mT.1 Jr.2 m g
    exact absurd m3.symm (yF this)
   ·omega
  subst this
  simp only[na,Jr.1,hid m m m2,decide_true,Lc]
 ·intro h i hi
  have hb:∀i,i<s.ab.length->jo s i=true:=fun i hi=>by
   have:=h i hi
   simp only[na,eE] at this
   exact this.1
  have Jr:=h i hi
  simp only[na,eE,decide_eq_true_eq] at Jr
  have Jm:(anyI i fun k=>decide ((s.ab.getD i a_).F=(s.ab.getD k a_).F))=false:=gr fun k hk=>decide_eq_false fun e=>by
   obtain⟨m,m1,m2,m3,m4⟩:=abY i hi
   have Xp:m<=k:=by
    rcases mX k m with g|g
    ·exact absurd e.symm (m4 k g)
    ·exact g
   have:=Hg hb m i (by omega) hi
   rw[hid i m m2] at Jr
   omega
  simp only[iH,Jr.1,Jm];rfl
def pQ(d:cr)(m:aE):Bool:=decide (0<=m.gF)&&decide (m.gF<(d.aT.length:Int))
def jj(d:cr)(s:List bf)(m:aE):Bool:=pQ d m&&decide (m.dV.length=0)&&decide (m.li.length=eg (d.aT.getD m.gF.toNat cO).aG)&&m.li.all (ko s)
def ii(d:cr)(x:aj):Bool:=decide (x.av.length<=1000)&&x.av.all (jj d x.S.ab)
def nO(l:List ag):Bool:=anyI l.length fun k=>iR (l.getD k aq)
def Bv(x:aj):Bool:=decide (x.State=2\/x.State=4\/x.State=6)
def lq(x:aj):Bool:=decide (x.State=3)||decide (x.State=5)
def instOk(d:cr)(x:aj):Bool:=kO d&&bP x.S&&aO x.ai&&dx x.ah&&eV x.ao&&decide (1<=x.State/\x.State<=6)&&decide (0<=x.ez/\x.ez<=1000000000)&&ii d x&& !(Bv x&&(nO x.ai||decide (0<x.ah.length)))&&(!lq x||decide (0<x.ao.length))
def Tj:=bB (α:=(List aM)×(List (DA UU)->Option Value)) (qC (qL .cy) (q1 qF)) [.ro,.ro] (fun(l,p)=>[∀j:Nat,j<l.length->p [kx (l.getD j cO)]=some (.bool (bw (p [kx (l.getD j cO)])))]) (fun(l,p)=>⟨[dI (ji l.length (fun j=>bw (p [kx (l.getD j cO)])))],[],[]⟩)
def zM(l:List aM)(p:(List (DA UU)->Option Value)):Int×Unit->Prop:=fun(i,_)=>0<=i/\i<=l.length/\∀j:Nat,(j:Int)<i->bw (p [kx (l.getD j cO)])=false
def yZ(l:List aM)(p:(List (DA UU)->Option Value)):Int×Unit->Nat:=fun(i,_)=>l.length-i.toNat
def aic:AX Tj:=fun(l,p)=>bh [(2,aB [iI 8] (fun _=>zM l p) (yZ l p))]
def agf:HH:=hF Tj func229 [] aic fun x hp hb=>by
 obtain⟨l,p⟩:=x
 have la:L9 l.length:=eY (hb _ m0)
 have bD:∀j:Nat,j<l.length->p [kx (l.getD j cO)]=some (.bool (bw (p [kx (l.getD j cO)]))):=hp _ m0
 clear hp hb
 apply vE (zM l p (0,())/\∀(y:Int×PUnit),let x1:=l.getD y.1.toNat cO;let x0:=bw (p [{agg:=true,cs:=[CS x1.Name,CI x1.pt,CL .fU x1.aG,CL .de x1.bO,CL .fV x1.cA]:DA UU}]);let q0:=(wrap i64 (y.1+1),());zM l p y->bif decide (y.1<(l.length:Int)) then 0<=y.1/\y.1.toNat<l.length/\p [{agg:=true,cs:=[CS x1.Name,CI x1.pt,CL .fU x1.aG,CL .de x1.bO,CL .fV x1.cA]:DA UU}]=some (Value.bool x0)/\bif x0 then Li y.1 (ji (l.length) fun(j:Nat)=>bw (p [kx (l.getD j cO)])) else zM l p q0/\yZ l p q0<yZ l p y else Li (-1) (ji (l.length) fun(j:Nat)=>bw (p [kx (l.getD j cO)])))
 dsimp only
 refine⟨⟨by omega,by omega,by intro j hj;omega⟩,?_⟩
 rintro⟨i,⟨⟩⟩ ⟨h1,h2,hR⟩
 simp only[kx] at*
 refine aa ?_ ?_<;>intro hc
 ·have hc:=yT hc
  rw[wi]
  refine⟨by omega,by omega,bD i.toNat (by omega),aa (fun h=>cR ?_) (fun h=>⟨⟨by omega,by omega,ja (p:=fun j=>bw (p [kx (l.getD j cO)])) h1 hR h⟩,by simp only[yZ];omega⟩)⟩
  rw[gp (i:=i.toNat) (by omega) h (fun j hj=>hR j (by omega))]
  omega
 ·have hc:=yF hc
  exact cR (iT (fun j hj=>hR j (by omega))).symm
def xZ:jH UU where
 α:=aM×BA
 md:=[.ro,.ro]
 of:=fun|[.agg [.lit (.string a0),.lit (.int .i64 a1),.sl .fU a2,.sl .de a3,.sl .fV a4],.ptr [.lit (.string a5)]]=>some (⟨a0,a1,a2,a3,a4⟩,a5)|_=>none
 ds:=fun(r,name)=>[.agg [.lit (.string r.Name),.lit (.int .i64 r.pt),.sl .fU r.aG,.sl .de r.bO,.sl .fV r.cA],.ptr [.lit (.string name)]]
 pre:=fun(r,name)=>[]
 mE:=fun(r,name)=>⟨[.one (.lit (.bool (decide (r.Name=name))))],[],[]⟩
 law:=by intro l x h;(try simp only at h);split at h<;>cases h;rfl
def age:HH:=hF xZ func230 [] a0 fun x hp hb=>by
 obtain⟨r,name⟩:=x
 have QC:eJ (U:=UU) (.agg [.lit (.string r.Name),.lit (.int .i64 r.pt),.sl .fU r.aG,.sl .de r.bO,.sl .fV r.cA]):=hb _ (dw)
 have nA:L9 r.Name.size:=Bd.str (QC _ (by simp))
 have nz:L9 r.aG.length:=Bd.len (U:=UU) (τ:=.fU) (xs:=r.aG) (QC _ (by simp))
 have l_:L9 r.bO.length:=Bd.len (U:=UU) (τ:=.de) (xs:=r.bO) (QC _ (by simp))
 have nB:L9 r.cA.length:=Bd.len (U:=UU) (τ:=.fV) (xs:=r.cA) (QC _ (by simp))
 have ajf:eJ (U:=UU) (.ptr [.lit (.string name)]):=hb _ (bi _ (dw))
 clear hp hb
 apply vE (Lb (r.Name.toList==name.toList) (decide (r.Name=name)))
 rw[bt]
 exact aH _
def aeJ:=bB (α:=cr×BA) (qC (qA .kN) (q1 qS)) [.ro,.ro] (fun _=>[]) (fun(d,name)=>⟨[dI (qa d.aT name)],[],[]⟩)
def ag0:HH:=hF aeJ func166 [agf,age] a0 fun x hp hb=>by
 obtain⟨d,name⟩:=x
 clear hp hb
 apply vE ((∀(j:Nat),j<d.aT.length->eQ xZ [DV.ptr [CS name]] [kx (d.aT.getD j cO)]=some (Value.bool (bw (eQ xZ [DV.ptr [CS name]] [kx (d.aT.getD j cO)]))))/\Li (ji (d.aT.length) fun(j:Nat)=>bw (eQ xZ [DV.ptr [CS name]] [kx (d.aT.getD j cO)])) (qa d.aT name))
 have hc:∀x:aM,eQ xZ [.ptr [.lit (.string name)]] [kx x]=some (.bool (decide (x.Name=name))):=fun x=>pT (x:=(x,name)) rfl rfl rfl rfl (by simp[xZ])
 refine⟨fun j hj=> ?_,cR ?_⟩
 ·show eQ xZ [.ptr [.lit (.string name)]] [kx (d.aT.getD j cO)]=_
  rw[hc];rfl
 ·exact uh fun j hj=>by
   show bw (eQ xZ [.ptr [.lit (.string name)]] [kx (d.aT.getD j cO)])=_
   rw[hc];rfl
def TY:=bB (α:=cr×BA) (qC (qA .kN) (q1 qS)) [.ro,.ro] (fun _=>[]) (fun(d,name)=>⟨[dI (qa d.aT name)],[],[]⟩)
def Ae(d:cr)(name:BA):Int×T3×Unit->Prop:=fun(i,fb,_)=>fb=(d.Name,d.aT,())/\0<=i/\i<=d.aT.length/\∀j:Nat,(j:Int)<i->decide ((d.aT.getD j cO).Name=name)=false
def zl(d:cr)(name:BA):Int×T3×Unit->Nat:=fun(i,fb,_)=>d.aT.length-i.toNat
def aiS:AX TY:=fun(d,name)=>bh [(2,aB [iI 5,.box 2 (2,1024) [.lit .str,.shr .cy]] (fun _=>Ae d name) (zl d name))]
def ahh:HH:=hF TY func137 [] aiS fun x hp hb=>by
 obtain⟨d,name⟩:=x
 have bj:=lB (x:=d) (hb _ m0)
 have ma:=bj.1
 have ld:=bj.2
 have Qs:=N3 (s:=name) (hb _ m1)
 clear hp hb
 apply vE (Ae d name (0,(d.Name,d.aT,()),())/\∀(y:Int×T6×PUnit),let x1:=y.2.1.2.1.length;let x0:=(↑x1:Int);let q0:=(wrap i64 (y.1+1),(y.2.1.1,y.2.1.2.1,()),());Ae d name y->bif decide (y.1<x0) then 0<=y.1/\y.1.toNat<x1/\bif (y.2.1.2.1.getD y.1.toNat cO).Name.toList==name.toList then Li y.1 (qa d.aT name) else Ae d name q0/\zl d name q0<zl d name y else Li (-1) (qa d.aT name))
 dsimp only
 refine⟨⟨rfl,by omega,by omega,by intro j hj;omega⟩,?_⟩
 rintro⟨i,fb,⟨⟩⟩ ⟨rfl,h1,h2,hR⟩
 simp only
 refine aa ?_ ?_<;>intro hc
 ·have hc:i<d.aT.length:=yT hc
  simp(disch:=omega) only[wrap_i64,bt]
  refine⟨by omega,by omega,aa (fun h=>cR ?_) (fun h=>⟨⟨rfl,by omega,by omega,ja (p:=fun j=>decide ((d.aT.getD j cO).Name=name)) h1 hR h⟩,by simp only[zl];omega⟩)⟩
  rw[qa,gp (i:=i.toNat) (by omega) h (fun j hj=>hR j (by omega))]
  omega
 ·have hc:¬i<d.aT.length:=yF hc
  exact cR (iT (fun j hj=>hR j (by omega))).symm
def ac6:=bB (α:=cr) (q1 (qA .kN)) [.ro] (fun d=>[ct d<=4294967295]) (fun d=>⟨[dO (kO d)],[],[]⟩)
def Fb(d:cr):Int×T3×Unit->Prop:=fun(i,b,_)=>b=(d.Name,d.aT,())/\0<=i/\i<=d.aT.length/\∀j:Nat,(j:Int)<i->kw d.aT j=true
def EB(d:cr):Int×T3×Unit->Nat:=fun(i,b,_)=>d.aT.length-i.toNat
def ao9:AX ac6:=fun d=>bh [(2,aB [iI 3,.box 1 (1,1024) [.lit .str,.shr .cy]] (fun _=>Fb d) (EB d))]
def an1:HH:=hF ac6 func72 [ahi,ahh,Dq,rG] ao9 fun(d:cr) hp hb=>by
 have bj:=lB (x:=d) (hb _ m0)
 have ma:=bj.1
 have ld:=bj.2
 have bD:ct d<=4294967295:=hp _ m0
 clear hp hb
 apply vE (let q0:=Lb false (kO d);Fb d (0,(d.Name,d.aT,()),())/\∀(y:Int×T6×PUnit),let x1:=y.2.1.2.1.getD y.1.toNat cO;let x2:=y.2.1.2.1.length;let x0:=(↑x2:Int);let q1:=(wrap i64 (y.1+1),(y.2.1.1,y.2.1.2.1,()),());Fb d y->bif decide (y.1<x0) then 0<=y.1/\y.1.toNat<x2/\en x1.aG<=4294967295/\bif !jK x1 then q0 else 0<=y.1/\y.1.toNat<x2/\bif qa y.2.1.2.1 x1.Name !=y.1 then q0 else Fb d q1/\EB d q1<EB d y else bif b7 y.2.1.1 then Lb (decide (1<=x0/\x0<=12)) (kO d) else q0)
 dsimp only
 refine⟨⟨rfl,by omega,by omega,by intro j hj;omega⟩,?_⟩
 rintro⟨i,⟨b1,b2,⟨⟩⟩,⟨⟩⟩ ⟨pO,h1,h2,hR⟩
 cases pO
 simp only
 refine bT ?_ ?_<;>intro hc
 ·have hN:kw d.aT i.toNat=false->kO d=false:=fun h=>by
   have hf:allI d.aT.length (kw d.aT)=false:=gv (j:=i.toNat) (by omega) h
   simp only[kO,hf,xt]
  have hs:=J7 h1 hc
  simp only[ct] at bD
  have ei:((i.toNat:Nat):Int)=i:=by omega
  rw[wi]
  refine⟨by omega,by omega,by omega,cB (fun g=>bG (hN (by simp only[kw,g,rL]))) (fun g=>⟨by omega,by omega,cB (fun k=>bG (hN ?_)) (fun k=>⟨⟨rfl,by omega,by omega,fo h1 hR ?_⟩,by simp only[EB];omega⟩)⟩)⟩
  ·simp only[kw,ei,g,B4];exact decide_eq_false (by simpa using k)
  ·simp only[kw,ei,g,B4];exact decide_eq_true (eq_of_beq k)
 ·have hA:allI d.aT.length (kw d.aT)=true:=hJ fun j hj=>hR j (by omega)
  simp only[kO,hA,Lc]
  refine aa (fun h=>cK ?_) (fun h=>cK ?_)
  ·rw[h,B4];exact decide_eq_decide.2 (by omega)
  ·rw[h,rL]
def acP:=bB (α:=cr) (q1 (qA .kN)) [.ro] (fun _=>[]) (fun d=>⟨[dO (kO d)],[],[]⟩)
def EX(d:cr):Int×T3×Unit->Prop:=fun(i,b,_)=>b=(d.Name,d.aT,())/\b7 d.Name=true/\(1<=d.aT.length/\d.aT.length<=12)/\0<=i/\i<=d.aT.length/\∀j:Nat,(j:Int)<i->kw d.aT j=true
def En(d:cr):Int×T3×Unit->Nat:=fun(i,b,_)=>d.aT.length-i.toNat
def aoS:AX acP:=fun d=>bh [(4,aB [iI 19,.box 1 (1,1024) [.lit .str,.shr .cy]] (fun _=>EX d) (En d))]
def anH:HH:=hF acP func97 [ag1,ag0,Dp,xo] aoS fun(d:cr) hp hb=>by
 clear hp hb
 apply vE (let x0:=(d.aT.length:Int);let q0:=Lb false (kO d);bif !b7 d.Name then q0 else bif !decide (1<=x0/\x0<=12) then q0 else EX d (0,(d.Name,d.aT,()),())/\∀(y:Int×T6×PUnit),let q1:=(wrap i64 (y.1+1),(y.2.1.1,y.2.1.2.1,()),());EX d y->bif decide (y.1<x0) then 0<=y.1/\y.1.toNat<d.aT.length/\bif !jK (d.aT.getD y.1.toNat cO) then q0 else bif qa y.2.1.2.1 (d.aT.getD y.1.toNat cO).Name !=y.1 then q0 else EX d q1/\En d q1<En d y else Lb true (kO d))
 dsimp only
 refine cB (fun a1=>bG (by simp only[kO,a1,rL])) (fun a1=>cB (fun a2=>bG ?_) (fun a2=> ?_))
 ·have a2:=yF a2
  simp only[kO];rw[decide_eq_false (p:=1<=d.aT.length/\d.aT.length<=12) (by omega),xt,rL]
 have a2:=yT a2
 refine⟨⟨rfl,a1,by omega,by omega,by omega,by intro j hj;omega⟩,?_⟩
 rintro⟨i,⟨b1,b2,⟨⟩⟩,⟨⟩⟩ ⟨pO,a3,a4,h1,h2,hR⟩
 cases pO
 simp only
 refine bT ?_ ?_<;>intro hc
 ·have hN:kw d.aT i.toNat=false->kO d=false:=fun h=>by
   have hf:allI d.aT.length (kw d.aT)=false:=gv (j:=i.toNat) (by omega) h
   simp only[kO,hf,xt]
  have ei:((i.toNat:Nat):Int)=i:=by omega
  rw[wi]
  refine⟨by omega,by omega,cB (fun g=>bG (hN (by simp only[kw,g,rL]))) (fun g=>cB (fun k=>bG (hN ?_)) (fun k=>⟨⟨rfl,a3,a4,by omega,by omega,fo h1 hR ?_⟩,by simp only[En];omega⟩))⟩
  ·simp only[kw,ei,g,B4];exact decide_eq_false (by simpa using k)
  ·simp only[kw,ei,g,B4];exact decide_eq_true (eq_of_beq k)
 ·have hA:allI d.aT.length (kw d.aT)=true:=hJ fun j hj=>hR j (by omega)
  refine pX ?_
  simp only[kO,hA,a3,decide_eq_true a4];rfl
def TW:=bB (α:=az×aA) (qC (qA .di) (q1 (qA .cP))) [.ro,.ro] (fun _=>[]) (fun(s,f)=>⟨[dI (lK s.ab f)],[],[]⟩)
def Ac(s:az)(f:aA):Int×T2×T4×Unit->Prop:=fun(i,b,g,_)=>b=(s.ab,s.Next,())/\g=(f.Kind,f.ae,())/\0<=i/\i<=s.ab.length/\∀j:Nat,(j:Int)<i->decide ((s.ab.getD j a_).F=f)=false
def zk(s:az)(f:aA):Int×T2×T4×Unit->Nat:=fun(i,b,g,_)=>s.ab.length-i.toNat
def aiQ:AX TW:=fun(s,f)=>bh [(2,aB [iI 5,.box 2 (2,1024) [.shr .aP,.lit (.int .i64)],.box 3 (3,1024) [.lit .str,.shr .bm]] (fun _=>Ac s f) (zk s f))]
def UI:HH:=hF TW func140 [JS] aiQ fun x hp hb=>by
 obtain⟨s,f⟩:=x
 have l9:=jt (x:=s) (hb _ m0)
 have er:=mS (x:=f) (hb _ m1)
 have pJ:=er.1
 have mO:=er.2
 clear hp hb
 apply vE (Ac s f (0,(s.ab,s.Next,()),(f.Kind,f.ae,()),())/\∀(y:Int×T12×T7×PUnit),let x0:=y.2.1.1.getD y.1.toNat a_;let x2:=y.2.1.1.length;let x1:=(↑x2:Int);let q0:=(wrap i64 (y.1+1),(y.2.1.1,y.2.1.2.1,()),(y.2.2.1.1,y.2.2.1.2.1,()),());Ac s f y->bif decide (y.1<x1) then 0<=y.1/\y.1.toNat<x2/\bif decide (x0.F={Kind:=y.2.2.1.1,ae:=y.2.2.1.2.1:aA}) then 0<=y.1/\y.1.toNat<x2/\Li x0.Id (lK s.ab f) else Ac s f q0/\zk s f q0<zk s f y else Li 0 (lK s.ab f))
 dsimp only
 refine⟨⟨rfl,rfl,by omega,by omega,by intro j hj;omega⟩,?_⟩
 rintro⟨i,⟨b1,b2,⟨⟩⟩,⟨g1,g2,⟨⟩⟩,⟨⟩⟩ ⟨pO,hg,h1,h2,hR⟩
 cases pO
 cases hg
 simp only
 refine bT ?_ ?_<;>intro hc
 ·rw[wi]
  refine⟨by omega,by omega,bT (fun h=>⟨by omega,by omega,cR ?_⟩) (fun h=>⟨⟨rfl,rfl,by omega,by omega,ja (p:=fun j=>decide ((s.ab.getD j a_).F=f)) h1 hR (decide_eq_false h)⟩,by simp only[zk];omega⟩)⟩
  have e:Cg s.ab f=(i.toNat:Int):=gp (i:=i.toNat) (by omega) (decide_eq_true h) (fun j hj=>hR j (by omega))
  rw[lK,e,if_neg (by omega),UM]
 ·refine cR ?_
  have e:Cg s.ab f= -1:=iT (fun j hj=>hR j (by omega))
  rw[lK,if_pos e]
def TU:=bB (α:=az×Int) (qC (qA .di) (q1 qI)) [.ro,.ro] (fun(s,id)=>[L4 (bq s.ab)]) (fun(s,id)=>⟨[dA .cP (nc s.ab id),dO (ko s.ab id)],[],[]⟩)
def Ab(s:az)(id:Int):Int×T2×T4×Unit->Prop:=fun(i,b,g,_)=>b=(s.ab,s.Next,())/\0<=i/\i<=s.ab.length/\∀j:Nat,(j:Int)<i->decide ((s.ab.getD j a_).Id=id)=false
def zj(s:az)(id:Int):Int×T2×T4×Unit->Nat:=fun(i,b,g,_)=>s.ab.length-i.toNat
def aiO:AX TU:=fun(s,id)=>bh [(2,aB [iI 6,.box 2 (2,1024) [.shr .aP,.lit (.int .i64)],.box 4 (4,1024) [.lit .str,.own .bm true]] (fun _=>Ab s id) (zj s id))]
def ahd:HH:=hF TU func146 [Cq] aiO fun x hp hb=>by
 obtain⟨s,id⟩:=x
 have l9:=jt (x:=s) (hb _ m0)
 have abR:=iK (n:=id) (hb _ m1)
 have bD:bq s.ab<=4294967296:=hp _ m0
 clear hp hb
 apply vE (let q0:=nc s.ab id;Ab s id (0,(s.ab,s.Next,()),({data:= #[]:BA},[],()),())/\∀(y:Int×T12×T7×PUnit),let x2:=y.2.1.1.getD y.1.toNat a_;let x4:=y.2.1.1.length;let x1:=x2.F;let x3:=(↑x4:Int);let x0:=x1.ae;let q1:=(wrap i64 (y.1+1),(y.2.1.1,y.2.1.2.1,()),(y.2.2.1.1,y.2.2.1.2.1,()),());Ab s id y->bif decide (y.1<x3) then 0<=y.1/\y.1.toNat<x4/\bif x2.Id==id then 0<=y.1/\y.1.toNat<x4/\L4 x0.length/\Lf [DV.agg [CS x1.Kind,CL .bm x0],VB true] [DV.agg [CS (q0.Kind),CL .bm q0.ae],VB (ko s.ab id)] else Ab s id q1/\zj s id q1<zj s id y else Lf [DV.agg [CS ({data:= #[]:BA}),CL .bm []],VB false] [DV.agg [CS (q0.Kind),CL .bm q0.ae],VB (ko s.ab id)])
 dsimp only
 refine⟨⟨rfl,by omega,by omega,by intro j hj;omega⟩,?_⟩
 rintro⟨i,⟨b1,b2,⟨⟩⟩,⟨g1,g2,⟨⟩⟩,⟨⟩⟩ ⟨pO,h1,h2,hR⟩
 cases pO
 simp only
 refine bT ?_ ?_<;>intro hc
 ·rw[wi]
  have hs:=dJ dh s.ab a_ h1 hc
  simp only[dh,bu,cU] at hs
  simp only[bq,dh,bu,cU] at bD
  refine⟨by omega,by omega,ix (fun h=>⟨by omega,by omega,by omega,?_⟩) (fun h=>⟨⟨rfl,by omega,by omega,ja (p:=fun j=>decide ((s.ab.getD j a_).Id=id)) h1 hR (decide_eq_false h)⟩,by simp only[zj];omega⟩)⟩
  have e:sG s.ab id=(i.toNat:Int):=gp (i:=i.toNat) (by omega) (decide_eq_true h) (fun j hj=>hR j (by omega))
  have e1:nc s.ab id=(s.ab.getD i.toNat a_).F:=by rw[nc,e,if_neg (by omega),UM]
  have e2:ko s.ab id=true:=ju (j:=i.toNat) (by omega) (decide_eq_true h)
  rw[e1,e2];exact aH _
 ·have e:sG s.ab id= -1:=iT (fun j hj=>hR j (by omega))
  have e1:nc s.ab id=uL:=by rw[nc,if_pos e]
  have e2:ko s.ab id=false:=gr fun j hj=>hR j (by omega)
  rw[e1,e2];exact aH _
def TK:=bB (α:=az×Int) (qC (qA .di) (q1 qI)) [.ro,.ro] (fun(s,id)=>[L4 (bq s.ab)]) (fun(s,id)=>⟨[dA .cP (nc s.ab id),dO (ko s.ab id)],[],[]⟩)
def zY(s:az)(id:Int):Int×T4×Unit->Prop:=fun(i,g,_)=>0<=i/\i<=s.ab.length/\∀j:Nat,(j:Int)<i->decide ((s.ab.getD j a_).Id=id)=false
def ze(s:az)(id:Int):Int×T4×Unit->Nat:=fun(i,g,_)=>s.ab.length-i.toNat
def aiD:AX TK:=fun(s,id)=>bh [(2,aB [iI 11,.box 4 (4,1024) [.lit .str,.own .bm true]] (fun _=>zY s id) (ze s id))]
def agU:HH:=hF TK func176 [wA] aiD fun x hp hb=>by
 obtain⟨s,id⟩:=x
 have l9:=jt (x:=s) (hb _ m0)
 have abR:=iK (n:=id) (hb _ m1)
 have bD:bq s.ab<=4294967296:=hp _ m0
 clear hp hb
 apply vE (let q0:=nc s.ab id;zY s id (0,({data:= #[]:BA},[],()),())/\∀(y:Int×T7×PUnit),let q1:=s.ab.getD y.1.toNat a_;let q2:=(wrap i64 (y.1+1),(y.2.1.1,y.2.1.2.1,()),());zY s id y->bif decide (y.1<(s.ab.length:Int)) then 0<=y.1/\y.1.toNat<s.ab.length/\bif q1.Id==id then L4 q1.F.ae.length/\Lf [DV.agg [CS (q1.F.Kind),CL .bm q1.F.ae],VB true] [DV.agg [CS (q0.Kind),CL .bm q0.ae],VB (ko s.ab id)] else zY s id q2/\ze s id q2<ze s id y else Lf [DV.agg [CS ({data:= #[]:BA}),CL .bm []],VB false] [DV.agg [CS (q0.Kind),CL .bm q0.ae],VB (ko s.ab id)])
 dsimp only
 refine⟨⟨by omega,by omega,by intro j hj;omega⟩,?_⟩
 rintro⟨i,⟨g1,g2,⟨⟩⟩,⟨⟩⟩ ⟨h1,h2,hR⟩
 simp only
 refine bT ?_ ?_<;>intro hc
 ·rw[wi]
  have hs:=dJ dh s.ab a_ h1 hc
  simp only[dh,bu,cU] at hs
  simp only[bq,dh,bu,cU] at bD
  refine⟨by omega,by omega,ix (fun h=>⟨by omega,?_⟩) (fun h=>⟨⟨by omega,by omega,ja (p:=fun j=>decide ((s.ab.getD j a_).Id=id)) h1 hR (decide_eq_false h)⟩,by simp only[ze];omega⟩)⟩
  have e:sG s.ab id=(i.toNat:Int):=gp (i:=i.toNat) (by omega) (decide_eq_true h) (fun j hj=>hR j (by omega))
  have e1:nc s.ab id=(s.ab.getD i.toNat a_).F:=by rw[nc,e,if_neg (by omega),UM]
  have e2:ko s.ab id=true:=ju (j:=i.toNat) (by omega) (decide_eq_true h)
  rw[e1,e2];exact aH _
 ·have e:sG s.ab id= -1:=iT (fun j hj=>hR j (by omega))
  have e1:nc s.ab id=uL:=by rw[nc,if_pos e]
  have e2:ko s.ab id=false:=gr fun j hj=>hR j (by omega)
  rw[e1,e2];exact aH _
def ac5:=bB (α:=az) (q1 (qA .di)) [.ro] (fun _=>[]) (fun s=>⟨[dO (bP s)],[],[]⟩)
def BR(s:az):Int×T2×Unit->Prop:=fun(i,b,_)=>b=(s.ab,s.Next,())/\0<=i/\i<=s.ab.length/\∀j:Nat,(j:Int)<i->na s j=true
def xl(s:az):Int×T2×Unit->Nat:=fun(i,b,_)=>s.ab.length-i.toNat
def ao8:AX ac5:=fun s=>bh [(4,aB [iI 3,.box 1 (1,1024) [.shr .aP,.lit (.int .i64)]] (fun _=>BR s) (xl s))]
def an0:HH:=hF ac5 func73 [rG,Hs,UI] ao8 fun(s:az) hp hb=>by
 clear hp hb
 apply vE (let q0:=Lb false (bP s);bif !decide (1<=s.Next/\s.Next<=1000000) then q0 else bif decide ((s.ab.length:Int)>40) then q0 else BR s (0,(s.ab,s.Next,()),())/\∀(y:Int×T12×PUnit),let x1:=y.2.1.1.length;let x4:=y.2.1.1.getD y.1.toNat a_;let x5:=Int.toNat (wrap i64 (y.1-1));let x0:=x4.Id;let x2:=(y.2.1.1.getD x5 a_).Id;let x3:=x4.F;let q1:=bif lK y.2.1.1 x3 !=x0 then q0 else BR s (wrap i64 (y.1+1),(y.2.1.1,y.2.1.2.1,()),())/\xl s (wrap i64 (y.1+1),(y.2.1.1,y.2.1.2.1,()),())<xl s y;BR s y->bif decide (y.1<(↑x1:Int)) then 0<=y.1/\y.1.toNat<x1/\bif !cg x3 then q0 else bif decide (x0<1) then q0 else bif decide (x0≥y.2.1.2.1) then q0 else bif decide (y.1>0) then 0<=wrap i64 (y.1-1)/\x5<x1/\bif decide (x2≥x0) then q0 else q1 else q1 else Lb true (bP s))
 dsimp only
 refine cB (fun a1=>bG (by simp only[bP,a1,rL])) (fun a1=>bT (fun a2=>bG ?_) (fun a2=> ?_))
 ·simp only[bP];rw[decide_eq_false (p:=s.ab.length<=40) (by omega),xt,rL]
 refine⟨⟨rfl,by omega,by omega,by intro j hj;omega⟩,?_⟩
 rintro⟨i,⟨b1,b2,⟨⟩⟩,⟨⟩⟩ ⟨pO,h1,h2,hR⟩
 cases pO
 simp only
 refine bT ?_ ?_<;>intro hc
 ·have hN:na s i.toNat=false->bP s=false:=fun h=>by
   have hf:allI s.ab.length (na s)=false:=gv (j:=i.toNat) (by omega) h
   simp only[bP,hf,xt]
  have e1:(i-1).toNat=i.toNat-1:=by omega
  simp(disch:=omega) only[wrap_i64]
  simp only[e1]
  have hi1:i>0->0<=i-1:=fun h=>by omega
  have fX:i.toNat<s.ab.length:=by omega
  have Bf:i.toNat-1<s.ab.length:=by omega
  have Sy:na s i.toNat=true->BR s (i+1,(s.ab,s.Next,PUnit.unit),PUnit.unit)/\xl s (i+1,(s.ab,s.Next,PUnit.unit),PUnit.unit)<xl s (i,(s.ab,s.Next,PUnit.unit),PUnit.unit):=fun h=>⟨⟨rfl,by omega,by omega,fo h1 hR h⟩,by simp only[xl];omega⟩
  have c3:decide (0<i.toNat)=decide (i>0):=decide_eq_decide.2 (by omega)
  simp only[na,jo,c3] at hN Sy
  generalize hA:s.ab.getD i.toNat a_=a at*
  generalize hB:s.ab.getD (i.toNat-1) a_=b at*
  generalize hQ:lK s.ab a.F=q at*
  generalize hO:cg a.F=o at*
  refine And.intro h1 (And.intro fX ?_)
  repeat' (first|refine bG (hN ?_)|refine Sy ?_|refine bT (fun h=> ?_) (fun h=> ?_)|refine cB (fun h=> ?_) (fun h=> ?_)|refine And.intro Bf ?_|refine And.intro (hi1 (by assumption)) ?_)
  all_goals (cases o<;>simp at* <;>omega)
 ·have hA:allI s.ab.length (na s)=true:=hJ fun j hj=>hR j (by omega)
  refine pX ?_
  simp only[bP,hA,a1,decide_eq_true (show s.ab.length<=40 by omega)];rfl
def acO:=bB (α:=az) (q1 (qA .di)) [.ro] (fun _=>[]) (fun s=>⟨[dO (bP s)],[],[]⟩)
def BP(s:az):Int×T2×Unit->Prop:=fun(i,b,_)=>b=(s.ab,s.Next,())/\0<=i/\i<=s.ab.length/\∀j:Nat,(j:Int)<i->iH s j=true
def uD(s:az):Int×T2×Unit->Nat:=fun(i,b,_)=>s.ab.length-i.toNat
def uG(s:az):Int×Int×T10×T2×Unit->Int×Int×T10×T2×Unit->Prop:=fun(i0,k0,x0,b0,_) (i,k,x,b,_)=>i=i0/\x=x0/\b=b0/\0<=k/\k<=i/\∀j:Nat,(j:Int)<k->decide ((s.ab.getD i.toNat a_).F=(s.ab.getD j a_).F)=false
def uC(s:az):Int×Int×T10×T2×Unit->Nat:=fun(i,k,x,b,_)=>i.toNat-k.toNat
def aoR:AX acO:=fun s=>bh [(4,aB [iI 20,.box 1 (1,1024) [.shr .aP,.lit (.int .i64)]] (fun _=>BP s) (uD s)),(9,aB [iI 20,iI 59,.box 4 (4,1024) [.lit (.int .i64),.lit .str,.shr .bm],.box 1 (1,1024) [.shr .aP,.lit (.int .i64)]] (uG s) (uC s))]
def anG:HH:=hF acO func98 [xo,Dn,JP] aoR fun(s:az) hp hb=>by
 clear hp hb
 apply vE (let x0:=(s.ab.length:Int);let x1:=Option.getD none (0:Int);let q0:=Lb false (bP s);let q1:=List bf×Int×PUnit;let q2:=Int×BA×List aZ×PUnit;bif decide (x0>40) then q0 else bif !decide (1<=s.Next/\s.Next<=1000000) then q0 else BP s (0,(s.ab,s.Next,()),())/\∀(y:Int×q1×PUnit),let x8:=y.2.1.1.length;let x9:=(s.ab.getD y.1.toNat a_).Id;let rz:=(s.ab.getD y.1.toNat a_).F;let ya:=Int.toNat (wrap i64 (y.1-1));let x4:=(y.2.1.1.getD ya a_).Id;let x7:=(↑x8:Int);let x3:=Option.getD (some y.1) x7;let x6:=(y.2.1.1.take x3.toNat).drop x1.toNat;let x5:=x6.length;let x2:=(↑x5:Int);let q3:=(y.1,0,(x9,rz.Kind,rz.ae,()),(y.2.1.1,y.2.1.2.1,()),());BP s y->bif decide (y.1<x0) then 0<=y.1/\y.1.toNat<s.ab.length/\bif !cg rz then q0 else bif !decide (1<=x9/\x9<=wrap i64 (y.2.1.2.1-1)) then q0 else bif decide (y.1>0) then 0<=wrap i64 (y.1-1)/\ya<x8/\bif decide (x9<=x4) then q0 else 0<=x1/\x1<=x3/\x3<=x7/\uG s q3 q3/\∀(aJ:Int×Int×q2×q1×PUnit),let BX:=aJ.2.1.toNat;let q4:=(aJ.1,wrap i64 (aJ.2.1+1),(aJ.2.2.1.1,aJ.2.2.1.2.1,aJ.2.2.1.2.2.1,()),(aJ.2.2.2.1.1,aJ.2.2.2.1.2.1,()),());let q5:=(wrap i64 (aJ.1+1),(aJ.2.2.2.1.1,aJ.2.2.2.1.2.1,()),());uG s q3 aJ->bif decide (aJ.2.1<x2) then 0<=aJ.2.1/\BX<x5/\bif decide ({Kind:=aJ.2.2.1.2.1,ae:=aJ.2.2.1.2.2.1:aA}=(x6.getD BX a_).F) then q0 else uG s q3 q4/\uC s q4<uC s aJ else BP s q5/\uD s q5<uD s y else 0<=x1/\x1<=x3/\x3<=x7/\uG s q3 q3/\∀(aJ:Int×Int×q2×q1×PUnit),let BX:=aJ.2.1.toNat;let q6:=(aJ.1,wrap i64 (aJ.2.1+1),(aJ.2.2.1.1,aJ.2.2.1.2.1,aJ.2.2.1.2.2.1,()),(aJ.2.2.2.1.1,aJ.2.2.2.1.2.1,()),());let q7:=(wrap i64 (aJ.1+1),(aJ.2.2.2.1.1,aJ.2.2.2.1.2.1,()),());uG s q3 aJ->bif decide (aJ.2.1<x2) then 0<=aJ.2.1/\BX<x5/\bif decide ({Kind:=aJ.2.2.1.2.1,ae:=aJ.2.2.1.2.2.1:aA}=(x6.getD BX a_).F) then q0 else uG s q3 q6/\uC s q6<uC s aJ else BP s q7/\uD s q7<uD s y else Lb true (bP s))
 dsimp only
 have hF:(decide (1<=s.Next/\s.Next<=1000000)&&decide (s.ab.length<=40)&&allI s.ab.length (iH s))=bP s:=by rw[Az];rfl
 refine bT (fun a2=>bG ?_) (fun a2=>cB (fun a1=>bG (by simp only[bP,a1,rL])) (fun a1=> ?_))
 ·simp only[bP];rw[decide_eq_false (p:=s.ab.length<=40) (by omega),xt,rL]
 have a3:=yT a1
 refine⟨⟨rfl,by omega,by omega,by intro j hj;omega⟩,?_⟩
 rintro⟨i,⟨b1,b2,⟨⟩⟩,⟨⟩⟩ ⟨pO,h1,h2,hR⟩
 cases pO
 simp only
 refine bT ?_ ?_<;>intro hc
 ·have hN:iH s i.toNat=false->bP s=false:=fun h=>by
   have hf:allI s.ab.length (iH s)=false:=gv (j:=i.toNat) (by omega) h
   rw[<-hF,hf,xt]
  have e1:(i-1).toNat=i.toNat-1:=by omega
  have c3:decide (0<i.toNat)=decide (i>0):=decide_eq_decide.2 (by omega)
  rw[wi (n:=s.Next-1),wi (n:=i-1),e1]
  have Lh:jo s i.toNat=false->bP s=false:=fun h=>hN (by simp only[iH,h,rL])
  refine⟨by omega,by omega,cB (fun a=>bG (Lh (by simp only[jo,a,rL]))) (fun a=>cB (fun a'=>bG (Lh ?_)) (fun a'=>bT (fun p=>⟨by omega,by omega,bT (fun q=>bG (Lh ?_)) (fun q=> ?_)⟩) (fun p=> ?_)))⟩
  ·have a':=yF a'
   by_cases g:1<=(s.ab.getD i.toNat a_).Id
   ·simp only[jo,decide_eq_false (show¬(s.ab.getD i.toNat a_).Id<s.Next by omega),xt,rL]
   ·simp only[jo,decide_eq_false g,xt,rL]
  ·simp only[jo,c3,decide_eq_true p,decide_eq_true q,Lc,Zt,xt]
  ·have a':=yT a'
   have Gy:jo s i.toNat=true:=by
    simp only[jo,a,decide_eq_true a'.1,decide_eq_true (show(s.ab.getD i.toNat a_).Id<s.Next by omega),decide_eq_false q,xt,Y9,Lc]
   refine⟨Int.le_refl 0,by simp only[Ln,Ds];omega,by simp only[Ds];omega,⟨rfl,rfl,rfl,by omega,by omega,by intro j hj;omega⟩,?_⟩
   rintro⟨i',k,⟨x1,x2,x3,⟨⟩⟩,⟨y1,y2,⟨⟩⟩,⟨⟩⟩ ⟨rfl,hx,hy,k1,k2,kR⟩
   cases hx
   cases hy
   simp only[Ln,Ds,show Int.toNat 0=0 from rfl,List.drop_zero]
   have Ya:(s.ab.take i'.toNat).length=i'.toNat:=by rw[od];omega
   refine bT ?_ ?_<;>intro hk
   ·rw[Ya] at hk
    rw[getD_take s.ab a_ (show k.toNat<i'.toNat by omega),Ya,wi (n:=k+1)]
    refine⟨k1,by omega,bT (fun e=>bG (hN ?_)) (fun e=>⟨⟨rfl,rfl,rfl,by omega,by omega,ja (p:=fun j=>decide ((s.ab.getD i'.toNat a_).F=(s.ab.getD j a_).F)) k1 kR (decide_eq_false e)⟩,by simp only[uC];omega⟩)⟩
    have ha:(anyI i'.toNat fun k=>decide ((s.ab.getD i'.toNat a_).F=(s.ab.getD k a_).F))=true:=ju (j:=k.toNat) (by omega) (decide_eq_true e)
    simp only[iH,ha,Zt,xt]
   ·rw[Ya] at hk
    rw[wi (n:=i'+1)]
    refine⟨⟨rfl,by omega,by omega,fo h1 hR ?_⟩,by simp only[uD];omega⟩
    have ha:(anyI i'.toNat fun k=>decide ((s.ab.getD i'.toNat a_).F=(s.ab.getD k a_).F))=false:=gr fun j hj=>kR j (by omega)
    simp only[iH,ha,Gy,Y9,Lc]
  ·have a':=yT a'
   have Gy:jo s i.toNat=true:=by
    simp only[jo,c3,a,decide_eq_true a'.1,decide_eq_true (show(s.ab.getD i.toNat a_).Id<s.Next by omega),decide_eq_false p,rL,Y9,Lc]
   refine⟨Int.le_refl 0,by simp only[Ln,Ds];omega,by simp only[Ds];omega,⟨rfl,rfl,rfl,by omega,by omega,by intro j hj;omega⟩,?_⟩
   rintro⟨i',k,⟨x1,x2,x3,⟨⟩⟩,⟨y1,y2,⟨⟩⟩,⟨⟩⟩ ⟨rfl,hx,hy,k1,k2,kR⟩
   cases hx
   cases hy
   simp only[Ln,Ds,show Int.toNat 0=0 from rfl,List.drop_zero]
   have Ya:(s.ab.take i'.toNat).length=i'.toNat:=by rw[od];omega
   refine bT ?_ ?_<;>intro hk
   ·rw[Ya] at hk
    rw[getD_take s.ab a_ (show k.toNat<i'.toNat by omega),Ya,wi (n:=k+1)]
    refine⟨k1,by omega,bT (fun e=>bG (hN ?_)) (fun e=>⟨⟨rfl,rfl,rfl,by omega,by omega,ja (p:=fun j=>decide ((s.ab.getD i'.toNat a_).F=(s.ab.getD j a_).F)) k1 kR (decide_eq_false e)⟩,by simp only[uC];omega⟩)⟩
    have ha:(anyI i'.toNat fun k=>decide ((s.ab.getD i'.toNat a_).F=(s.ab.getD k a_).F))=true:=ju (j:=k.toNat) (by omega) (decide_eq_true e)
    simp only[iH,ha,Zt,xt]
   ·rw[Ya] at hk
    rw[wi (n:=i'+1)]
    refine⟨⟨rfl,by omega,by omega,fo h1 hR ?_⟩,by simp only[uD];omega⟩
    have ha:(anyI i'.toNat fun k=>decide ((s.ab.getD i'.toNat a_).F=(s.ab.getD k a_).F))=false:=gr fun j hj=>kR j (by omega)
    simp only[iH,ha,Gy,Y9,Lc]
 ·have hA:allI s.ab.length (iH s)=true:=hJ fun j hj=>hR j (by omega)
  refine pX ?_
  rw[<-hF,hA,a1,decide_eq_true (show s.ab.length<=40 by omega)];rfl
def ae5:=bB (α:=bf×Int) (qC (qA .iQ) (q1 qI)) [.ro,.ro] (fun(a,left)=>[0<=left]) (fun(a,left)=>⟨[dI (dR left (dh a))],[],[]⟩)
def ahl:HH:=hF ae5 func131 [JU] a0 fun x hp hb=>by
 obtain⟨a,left⟩:=x
 have bj:=G6 (x:=a) (hb _ m0)
 have fa:=bj.1
 have dQ:=bj.2
 have cp:=iK (n:=left) (hb _ m1)
 have bD:0<=left:=hp _ m0
 clear hp hb
 apply vE (0<=left/\bif decide (dR left (bu a.F)<0) then Li (-1) (dR left (dh a)) else Li (dR left (bu a.F)) (dR left (dh a)))
 refine⟨by omega,aa (fun h=>cR (b_ ?_)) (fun h=> ?_)⟩
 ·have h:=eh h;simp only[dh];omega
 obtain⟨e0,h0⟩:=dH h
 rw[e0]
 exact cR (by rw[<-gQ (by simp only[dh];omega)];simp only[dh];try omega)
def aeP:=bB (α:=bf) (q1 (qA .iQ)) [.ro] (fun a=>[L4 (dh a)]) (fun a=>⟨[dA .aP a],[],[]⟩)
def ag5:HH:=hF aeP func157 [JR] a0 fun(a:bf) hp hb=>by
 have bj:=G6 (x:=a) (hb _ m0)
 have fa:=bj.1
 have dQ:=bj.2
 have bD:dh a<=4294967296:=hp _ m0
 clear hp hb
 apply vE (bu a.F<=4294967296/\Lf [DV.agg [CI a.Id,CS a.F.Kind,CL .bm a.F.ae]] [DV.agg [CI a.Id,CS a.F.Kind,CL .bm a.F.ae]])
 simp only[dh] at bD
 repeat' (first|exact aH _|(refine And.intro (by omega) ?_))
def aev:=bB (α:=bf×bf) (qC (qA .aP) (q1 (qA .aP))) [.ro,.ro] (fun _=>[]) (fun(a,b)=>⟨[dO (decide (a=b))],[],[]⟩)
def agQ:HH:=hF aev func185 [Ht] a0 fun x hp hb=>by
 obtain⟨a,b⟩:=x
 have bj:=Hb (x:=a) (hb _ m0)
 have fa:=bj.1
 have dQ:=bj.2
 have er:=Hb (x:=b) (hb _ m1)
 have oJ:=er.1
 have mq:=er.2
 clear hp hb
 apply vE (bif a.Id !=b.Id then Lb false (decide (a=b)) else bif !decide (a.F=b.F) then Lb false (decide (a=b)) else Lb true (decide (a=b)))
 obtain⟨aId,aF⟩:=a
 obtain⟨bId,bF⟩:=b
 repeat' (apply aa<;>intro _)
 all_goals (first|apply ol|apply mV)<;>simp_all
def ada:=bB (α:=(List bf)×Int) (qC (qL .iQ) (q1 qI)) [.ro,.ro] (fun(a,left)=>[0<=left]) (fun(a,left)=>⟨[dI (dR left (bq a))],[],[]⟩)
def YL(a:List bf)(left:Int):Int×Int×Unit->Prop:=Hz dh a (bq a) left
def Yt(a:List bf)(left:Int):Int×Int×Unit->Nat:=tK a
def apd:AX ada:=fun(a,left)=>bh [(5,aB [iI 1,iI 5] (fun _=>YL a left) (Yt a left))]
def an8:HH:=hF ada func62 [ahl] apd fun x hp hb=>by
 obtain⟨a,left⟩:=x
 have cF:L9 a.length:=eY (hb _ m0)
 have cp:=iK (n:=left) (hb _ m1)
 have bD:0<=left:=hp _ m0
 clear hp hb
 apply vE (HL dh a_ a (bq a) left)
 exact l6 rfl bD cp cF
def acV:=bB (α:=List bf) (q1 (qL .iQ)) [.ro] (fun a=>[L4 (bq a)]) (fun a=>⟨[dL .aP a],[],[]⟩)
def YK(a:List bf):List bf×Int×Unit->Prop:=Hy a_ a
def Ys(a:List bf):List bf×Int×Unit->Nat:=tK a
def aoY:AX acV:=fun a=>bh [(3,aB [iO 3 .aP,iI 4] (fun _=>YK a) (Ys a))]
def anO:HH:=hF acV func87 [ag5] aoY fun(a:List bf) hp hb=>by
 have cF:L9 a.length:=eY (hb _ m0)
 have bD:bq a<=4294967296:=hp _ m0
 clear hp hb
 apply vE (I5 dh a_ a fun y=>Lf [.one (.sl .aP y)] [.one (.sl .aP a)])
 exact l5 bD (aH _)
def Uk:=bB (α:=(List bf)×(List bf)) (qC (qL .aP) (q1 (qL .aP))) [.ro,.ro] (fun _=>[]) (fun(a,b)=>⟨[dO (decide (a=b))],[],[]⟩)
def RK(a:List bf)(b:List bf):Int×Unit->Prop:=GF a b
def Rl(a:List bf)(b:List bf):Int×Unit->Nat:=FX a
def ai6:AX Uk:=fun(a,b)=>bh [(4,aB [iI 5] (fun _=>RK a b) (Rl a b))]
def ahD:HH:=hF Uk func112 [agQ] ai6 fun x hp hb=>by
 obtain⟨a,b⟩:=x
 have cF:L9 a.length:=eY (hb _ m0)
 have tG:L9 b.length:=eY (hb _ m1)
 clear hp hb
 apply vE (HG a_ a b)
 exact lx cF
def Ug:=bB (α:=(List bf)×Int) (qC (qL .aP) (q1 qI)) [.wr,.ro] (fun(a,k)=>[0<=k,k+fj a<=4611686018427387904]) (fun(a,k)=>⟨[dI (k+fj a)],[],[dL .aP (gD a k)]⟩)
def Ak(a:List bf)(k:Int):List bf×Int×Int×Unit->Prop:=fun(row,kk,i,_)=>0<=i/\i<=a.length/\row=(gx fP dl a k).take i.toNat++a.drop i.toNat/\kk=k+eI dl (a.take i.toNat)
def zr(a:List bf)(k:Int):List bf×Int×Int×Unit->Nat:=fun(row,kk,i,_)=>a.length-i.toNat
def ai2:AX Ug:=fun(a,k)=>bh [(2,aB [.slot 0 (2000000,0) (.own .aP true),iI 1,iI 5] (fun _=>Ak a k) (zr a k))]
def ahu:HH:=hF Ug func122 [pV,Om] ai2 fun x hp hb=>by
 obtain⟨a,k⟩:=x
 have cF:L9 a.length:=eY (hb _ m0)
 have lc:=iK (n:=k) (hb _ m1)
 have bD:0<=k:=hp _ m0
 have gb:k+fj a<=4611686018427387904:=hp _ m1
 clear hp hb
 apply vE (Ak a k (a,k,0,())/\∀(y:List bf×Int×Int×PUnit),let x1:=y.2.2.1.toNat;let x3:=wrap i64 (y.2.1+1);let x4:=y.1.modify x1 fun(x:bf)=>{Id:=y.2.1,F:=x.F:bf};let x0:=x4.modify x1 fun(x:bf)=>{Id:=x.Id,F:={Kind:=au x3,ae:=x.F.ae:aA}:bf};let x2:=wrap i64 (x3+1);let x5:=x2+(↑(bI (x0.getD x1 a_).F.ae):Int);Ak a k y->bif decide (y.2.2.1<(y.1.length:Int)) then 0<=y.2.2.1/\x1<y.1.length/\x1<y.1.length/\x3<=4611686018427387903/\0<=y.2.2.1/\x1<x4.length/\x1<x4.length/\0<=y.2.2.1/\x1<x0.length/\x1<x0.length/\x1<x0.length/\0<=x2/\x5<=4611686018427387904/\Ak a k (x0.modify x1 fun(x:bf)=>{Id:=x.Id,F:={Kind:=x.F.Kind,ae:=cx (x0.getD x1 a_).F.ae x2:aA}:bf},x5,wrap i64 (y.2.2.1+1),())/\zr a k (x0.modify x1 fun(x:bf)=>{Id:=x.Id,F:={Kind:=x.F.Kind,ae:=cx (x0.getD x1 a_).F.ae x2:aA}:bf},x5,wrap i64 (y.2.2.1+1),())<zr a k y else fz [VI y.2.1]=fz [VI (k+(↑(fj a):Int))]/\fz [VL .aP y.1]=fz [VL .aP (gD a k)])
 dsimp only
 refine⟨⟨by omega,by omega,by simp,by simp[eI]⟩,?_⟩
 rintro⟨row,kk,i,⟨⟩⟩ ⟨h1,h2,rfl,rfl⟩
 simp only
 have hl:=nM fP dl a k h1 h2
 refine aa ?_ ?_<;>intro hc
 ·have hc:i<a.length:=by have hc:=yT hc;omega
  have ky:=dB dl a a_ h1 hc
  have hle:=cm dl a (i+1).toNat
  have hg:=fC _ a a_ (mH fP dl a k h1 h2) h1 hc
  have hM:=fun F hF=>jB fP dl a a_ k (i:=i) F h1 hc hF
  have hq:(fj a:Int)=eI dl a:=rfl
  generalize List.getD a i.toNat a_=x at*
  generalize lT:k+(eI dl (a.take i.toNat):Int)=kk at*
  generalize List.take i.toNat (gx fP dl a k)++a.drop i.toNat=R at*
  simp only[dl] at ky
  simp(disch:=first|omega|(simp only[sz];omega)) only[sz,wrap_i64,getD_modify,cw,hg,hl]
  repeat' (first|refine And.intro (by omega) ?_|fail)
  exact⟨⟨by omega,by omega,hM _ (by first|rfl|(simp only[fP,gI];rw[Hx (by omega)];rfl)),by omega⟩,by simp only[zr];omega⟩
 ·have hc:a.length<=i:=by have hc:=yF hc;omega
  rw[jf fP dl a k hc,eW dl a hc]
  exact⟨rfl,rfl⟩
def Ud:=bB (α:=(List bf)×Int) (qC (qL .aP) (q1 qI)) [.ro,.ro] (fun(a,k)=>[0<=k,k+fj a<=4611686018427387904]) (fun(a,k)=>⟨[dI (if gD a k=a then k+fj a else-1)],[],[]⟩)
def Ah(a:List bf)(k:Int):Int×Int×Unit->Prop:=fun(kk,i,_)=>0<=i/\i<=a.length/\kk=k+eI dl (a.take i.toNat)/\(gx fP dl (a.drop i.toNat) kk=a.drop i.toNat↔gx fP dl a k=a)
def zo(a:List bf)(k:Int):Int×Int×Unit->Nat:=fun(kk,i,_)=>a.length-i.toNat
def aiZ:AX Ud:=fun(a,k)=>bh [(2,aB [iI 1,iI 5] (fun _=>Ah a k) (zo a k))]
def ahr:HH:=hF Ud func125 [pV,Ol] aiZ fun x hp hb=>by
 obtain⟨a,k⟩:=x
 have cF:L9 a.length:=eY (hb _ m0)
 have lc:=iK (n:=k) (hb _ m1)
 have bD:0<=k:=hp _ m0
 have gb:k+fj a<=4611686018427387904:=hp _ m1
 clear hp hb
 apply vE (let q0:=if gD a k=a then k+(↑(fj a):Int) else(-1);Ah a k (k,0,())/\∀(y:Int×Int×PUnit),let x4:=y.2.1.toNat;let x6:=wrap i64 (y.1+1);let x3:=a.getD x4 a_;let x5:=wrap i64 (x6+1);let x2:=x3.F;let x1:=x2.ae;let x0:=if cx x1 x5=x1 then x5+(↑(bI x1):Int) else(-1);Ah a k y->bif decide (y.2.1<(a.length:Int)) then 0<=y.2.1/\x4<a.length/\bif x3.Id !=y.1 then Li (-1) q0 else 0<=y.2.1/\x4<a.length/\x6<=4611686018427387903/\bif !x2.Kind.toList==(au x6).toList then Li (-1) q0 else 0<=y.2.1/\x4<a.length/\0<=x5/\x5+(↑(bI x1):Int)<=4611686018427387904/\bif decide (x0<0) then Li (-1) q0 else Ah a k (x0,wrap i64 (y.2.1+1),())/\zo a k (x0,wrap i64 (y.2.1+1),())<zo a k y else Li y.1 q0)
 dsimp only
 refine⟨⟨by omega,by omega,by simp[eI],by simp⟩,?_⟩
 rintro⟨kk,i,⟨⟩⟩ ⟨h1,h2,lT,hR⟩
 simp only
 simp only[gD]
 refine aa ?_ ?_<;>intro hc
 ·have hc:i<a.length:=by have hc:=yT hc;omega
  have ky:=dB dl a a_ h1 hc
  have hle:=cm dl a (i+1).toNat
  have hq:(fj a:Int)=eI dl a:=rfl
  rw[cW a a_ h1 hc] at hR
  generalize List.getD a i.toNat a_=x at*
  simp only[gx,Lo] at hR
  have e:kk+(dl x:Int)=kk+1+1+(bI x.F.ae:Int):=by first|(simp only[dl];done)|(simp only[dl];omega)
  rw[e] at hR
  simp only[fP,dl] at hR ky
  simp(disch:=omega) only[wrap_i64,nv,bt]
  obtain⟨ZE,⟨hU,cL⟩⟩:=x
  simp only[aA.mk.injEq,bf.mk.injEq] at*
  repeat' (first|refine And.intro (by omega) ?_|fail)
  refine aa (fun h=>e_ (fun hh=> ?_)) (fun h=> ?_)
  ·have hh:=hR.2 hh;simp_all
  have h:ZE=kk:=by simpa using h
  subst ZE
  repeat' (first|refine And.intro (by omega) ?_|fail)
  refine aa (fun h=>e_ (fun hh=> ?_)) (fun h=> ?_)
  ·have hh:=hR.2 hh;simp_all
  have h:hU=au (kk+1):=by simpa using h
  subst hU
  repeat' (first|refine And.intro (by omega) ?_|fail)
  by_cases hm:cx cL (kk+1+1)=cL
  rotate_left
  ·simp only[if_neg hm];rw[iW (by decide)]
   exact e_ (fun hh=>hm (by have hh:=hR.2 hh;simp_all))
  simp only[if_pos hm]
  refine aa (fun h=>absurd (yT h) (by omega)) (fun h=> ?_)
  simp only[hm] at hR
  clear hm
  exact⟨⟨by omega,by omega,by omega,by simpa using hR⟩,by simp only[zo];omega⟩
 ·have hc:a.length<=i:=by have hc:=yF hc;omega
  rw[bZ a hc] at hR
  exact n9 (hR.1 rfl) (by rw[lT,eW _ _ hc];rfl)
def anA:=bB (α:=az×Int) (qC (qA .jO) (q1 qI)) [.ro,.ro] (fun(a,left)=>[0<=left]) (fun(a,left)=>⟨[dI (dR left (dr a))],[],[]⟩)
def aoG:HH:=hF anA func19 [an8] a0 fun x hp hb=>by
 obtain⟨a,left⟩:=x
 have qk:=Dg (x:=a) (hb _ m0)
 have cp:=iK (n:=left) (hb _ m1)
 have bD:0<=left:=hp _ m0
 clear hp hb
 apply vE (0<=left/\bif decide (dR left (bq a.ab)<0) then Li (-1) (dR left (dr a)) else Li (dR left (bq a.ab)) (dR left (dr a)))
 refine⟨by omega,aa (fun h=>cR (b_ ?_)) (fun h=> ?_)⟩
 ·have h:=eh h;simp only[dr];omega
 obtain⟨e0,h0⟩:=dH h
 rw[e0]
 exact cR (by rw[<-gQ (by simp only[dr];omega)];simp only[dr];try omega)
def anu:=bB (α:=az) (q1 (qA .jO)) [.ro] (fun a=>[L4 (dr a)]) (fun a=>⟨[dA .di a],[],[]⟩)
def aox:HH:=hF anu func30 [anO] a0 fun(a:az) hp hb=>by
 have qk:=Dg (x:=a) (hb _ m0)
 have bD:dr a<=4294967296:=hp _ m0
 clear hp hb
 apply vE (bq a.ab<=4294967296/\Lf [DV.agg [CL .aP a.ab,CI a.Next]] [DV.agg [CL .aP a.ab,CI a.Next]])
 simp only[dr] at bD
 repeat' (first|exact aH _|(refine And.intro (by omega) ?_))
def anp:=bB (α:=az×az) (qC (qA .di) (q1 (qA .di))) [.ro,.ro] (fun _=>[]) (fun(a,b)=>⟨[dO (decide (a=b))],[],[]⟩)
def aop:HH:=hF anp func40 [ahD] a0 fun x hp hb=>by
 obtain⟨a,b⟩:=x
 have qk:=jt (x:=a) (hb _ m0)
 have Xz:=jt (x:=b) (hb _ m1)
 clear hp hb
 apply vE (bif !decide (a.ab=b.ab) then Lb false (decide (a=b)) else bif a.Next !=b.Next then Lb false (decide (a=b)) else Lb true (decide (a=b)))
 obtain⟨am1,apS⟩:=a
 obtain⟨amL,apO⟩:=b
 repeat' (apply aa<;>intro _)
 all_goals (first|apply ol|apply mV)<;>simp_all
def anm:=bB (α:=az×Int) (qC (qA .di) (q1 qI)) [.wr,.ro] (fun(a,k)=>[0<=k,k+dz a<=4611686018427387904]) (fun(a,k)=>⟨[dI (k+dz a)],[],[dA .di (iG a k)]⟩)
def aoh:HH:=hF anm func48 [ahu] a0 fun x hp hb=>by
 obtain⟨a,k⟩:=x
 have qk:=jt (x:=a) (hb _ m0)
 have lc:=iK (n:=k) (hb _ m1)
 have bD:0<=k:=hp _ m0
 have gb:k+dz a<=4611686018427387904:=hp _ m1
 clear hp hb
 apply vE (0<=k/\k+(↑(fj a.ab):Int)<=4611686018427387904/\fz [VI (k+(↑(fj a.ab):Int))]=fz [VI (k+(↑(dz a):Int))]/\fz [DV.agg [CL .aP (gD a.ab k),CI a.Next]]=fz [DV.agg [CL .aP (iG a k).ab,CI ((iG a k).Next)]])
 simp only[dz] at gb
 repeat' (first|refine And.intro (by omega) ?_|fail)
 exact⟨by simp only[dz,Int.natCast_add,Int.add_assoc],rfl⟩
def anl:=bB (α:=az×Int) (qC (qA .di) (q1 qI)) [.ro,.ro] (fun(a,k)=>[0<=k,k+dz a<=4611686018427387904]) (fun(a,k)=>⟨[dI (if iG a k=a then k+dz a else-1)],[],[]⟩)
def aoc:HH:=hF anl func55 [ahr] a0 fun x hp hb=>by
 obtain⟨a,k⟩:=x
 have qk:=jt (x:=a) (hb _ m0)
 have lc:=iK (n:=k) (hb _ m1)
 have bD:0<=k:=hp _ m0
 have gb:k+dz a<=4611686018427387904:=hp _ m1
 clear hp hb
 apply vE (let x0:=if gD a.ab k=a.ab then k+(↑(fj a.ab):Int) else(-1);let q0:=if iG a k=a then k+(↑(dz a):Int) else(-1);0<=k/\k+(↑(fj a.ab):Int)<=4611686018427387904/\bif decide (x0<0) then Li (-1) q0 else Li x0 q0)
 dsimp only
 simp only[dz] at gb
 repeat' (first|refine And.intro (by omega) ?_|fail)
 by_cases Be:gD a.ab (k)=a.ab
 rotate_left
 ·simp only[if_neg Be];rw[iW (by decide)]
  exact e_ (fun hh=>Be (congrArg (fun t:az=>t.ab) hh))
 simp only[if_pos Be]
 refine aa (fun h=>absurd (yT h) (by omega)) (fun h=> ?_)
 exact n9 (by simp only[iG,Be]) (by simp only[dz];try omega)
def adY:=bB (α:=bU×Int) (qC (qA .nQ) (q1 qI)) [.ro,.ro] (fun(a,left)=>[0<=left]) (fun(a,left)=>⟨[dI (dR left (cY a))],[],[]⟩)
def Ou:HH:=hF adY func250 [JT] a0 fun x hp hb=>by
 obtain⟨a,left⟩:=x
 have bj:=JC (x:=a) (hb _ m0)
 have Bg:=bj.1
 have mP:=bj.2
 have cp:=iK (n:=left) (hb _ m1)
 have bD:0<=left:=hp _ m0
 clear hp hb
 apply vE (let x0:=wrap i64 (left-(↑(a.S.size):Int));let q0:=dR left (cY a);bif decide (x0<0) then Li (-1) q0 else 0<=x0/\bif decide (dR x0 (cS a.V)<0) then Li (-1) q0 else Li (dR x0 (cS a.V)) q0)
 dsimp only
 rw[wi]
 refine aa (fun h=>cR (b_ ?_)) (fun h=> ?_)
 ·have h:=yT h;simp only[cY];omega
 have h0:=yF h
 refine⟨by omega,aa (fun h=>cR (b_ ?_)) (fun h=> ?_)⟩
 ·have h:=eh h;simp only[cY];omega
 obtain⟨e1,h1⟩:=dH h
 rw[e1]
 exact cR (by rw[<-gQ (by simp only[cY];omega)];simp only[cY];try omega)
def adS:=bB (α:=bU) (q1 (qA .nQ)) [.ro] (fun a=>[L4 (cY a)]) (fun a=>⟨[dA .iy a],[],[]⟩)
def Oq:HH:=hF adS func264 [JQ] a0 fun(a:bU) hp hb=>by
 have bj:=JC (x:=a) (hb _ m0)
 have Bg:=bj.1
 have mP:=bj.2
 have bD:cY a<=4294967296:=hp _ m0
 clear hp hb
 apply vE (cS a.V<=4294967296/\Lf [DV.agg [CI a.K,CS a.S,CI a.V.K,CI a.V.N,CS a.V.S]] [DV.agg [CI a.K,CS a.S,CI a.V.K,CI a.V.N,CS a.V.S]])
 simp only[cY] at bD
 repeat' (first|exact aH _|(refine And.intro (by omega) ?_))
def adN:=bB (α:=bU×bU) (qC (qA .iy) (q1 (qA .iy))) [.ro,.ro] (fun _=>[]) (fun(a,b)=>⟨[dO (decide (a=b))],[],[]⟩)
def Oo:HH:=hF adN func277 [JN] a0 fun x hp hb=>by
 obtain⟨a,b⟩:=x
 have bj:=JF (x:=a) (hb _ m0)
 have Bg:=bj.1
 have mP:=bj.2
 have er:=JF (x:=b) (hb _ m1)
 have Xx:=er.1
 have Gv:=er.2
 clear hp hb
 apply vE (let q0:=Lb false (decide (a=b));bif a.K !=b.K then q0 else bif !a.S.toList==b.S.toList then q0 else bif !decide (a.V=b.V) then q0 else Lb true (decide (a=b)))
 dsimp only
 obtain⟨aK,aS,aV⟩:=a
 obtain⟨bK,bS,bV⟩:=b
 repeat' (apply aa<;>intro _)
 all_goals (first|apply ol|apply mV)<;>simp_all
def Te:=bB (α:=(List bU)×Int) (qC (qL .nQ) (q1 qI)) [.ro,.ro] (fun(a,left)=>[0<=left]) (fun(a,left)=>⟨[dI (dR left (jJ a))],[],[]⟩)
def Rs(a:List bU)(left:Int):Int×Int×Unit->Prop:=Hz cY a (jJ a) left
def Q6(a:List bU)(left:Int):Int×Int×Unit->Nat:=tK a
def ah9:AX Te:=fun(a,left)=>bh [(5,aB [iI 1,iI 5] (fun _=>Rs a left) (Q6 a left))]
def af0:HH:=hF Te func249 [Ou] ah9 fun x hp hb=>by
 obtain⟨a,left⟩:=x
 have cF:L9 a.length:=eY (hb _ m0)
 have cp:=iK (n:=left) (hb _ m1)
 have bD:0<=left:=hp _ m0
 clear hp hb
 apply vE (HL cY np a (jJ a) left)
 exact l6 rfl bD cp cF
def S7:=bB (α:=List bU) (q1 (qL .nQ)) [.ro] (fun a=>[L4 (jJ a)]) (fun a=>⟨[dL .iy a],[],[]⟩)
def Rq(a:List bU):List bU×Int×Unit->Prop:=Hy np a
def Q4(a:List bU):List bU×Int×Unit->Nat:=tK a
def ah1:AX S7:=fun a=>bh [(3,aB [iO 3 .iy,iI 4] (fun _=>Rq a) (Q4 a))]
def afO:HH:=hF S7 func263 [Oq] ah1 fun(a:List bU) hp hb=>by
 have cF:L9 a.length:=eY (hb _ m0)
 have bD:jJ a<=4294967296:=hp _ m0
 clear hp hb
 apply vE (I5 cY np a fun y=>Lf [.one (.sl .iy y)] [.one (.sl .iy a)])
 exact l5 bD (aH _)
def SY:=bB (α:=(List bU)×(List bU)) (qC (qL .iy) (q1 (qL .iy))) [.ro,.ro] (fun _=>[]) (fun(a,b)=>⟨[dO (decide (a=b))],[],[]⟩)
def Rn(a:List bU)(b:List bU):Int×Unit->Prop:=GF a b
def Q2(a:List bU)(b:List bU):Int×Unit->Nat:=FX a
def ahT:AX SY:=fun(a,b)=>bh [(4,aB [iI 5] (fun _=>Rn a b) (Q2 a b))]
def afF:HH:=hF SY func276 [Oo] ahT fun x hp hb=>by
 obtain⟨a,b⟩:=x
 have cF:L9 a.length:=eY (hb _ m0)
 have tG:L9 b.length:=eY (hb _ m1)
 clear hp hb
 apply vE (HG np a b)
 exact lx cF
def TA:=bB (α:=(List bU)×Int) (qC (qL .iy) (q1 qI)) [.wr,.ro] (fun(a,k)=>[0<=k,k+nu a<=4611686018427387904]) (fun(a,k)=>⟨[dI (k+nu a)],[],[dL .iy (vd a k)]⟩)
def zV(a:List bU)(k:Int):List bU×Int×Int×Unit->Prop:=fun(row,kk,i,_)=>0<=i/\i<=a.length/\row=(gx oE jY a k).take i.toNat++a.drop i.toNat/\kk=k+eI jY (a.take i.toNat)
def za(a:List bU)(k:Int):List bU×Int×Int×Unit->Nat:=fun(row,kk,i,_)=>a.length-i.toNat
def ait:AX TA:=fun(a,k)=>bh [(2,aB [.slot 0 (2000000,0) (.own .iy true),iI 1,iI 5] (fun _=>zV a k) (za a k))]
def agJ:HH:=hF TA func193 [pV] ait fun x hp hb=>by
 obtain⟨a,k⟩:=x
 have cF:L9 a.length:=eY (hb _ m0)
 have lc:=iK (n:=k) (hb _ m1)
 have bD:0<=k:=hp _ m0
 have gb:k+nu a<=4611686018427387904:=hp _ m1
 clear hp hb
 apply vE (zV a k (a,k,0,())/\∀(y:List bU×Int×Int×PUnit),let x0:=y.2.2.1.toNat;let x5:=wrap i64 (y.2.1+1);let x6:=y.1.modify x0 fun(x:bU)=>{K:=y.2.1,S:=x.S,V:=x.V:bU};let x7:=wrap i64 (wrap i64 (x5+1)+1);let x3:=wrap i64 (x7+1);let x4:=x6.modify x0 fun(x:bU)=>{K:=x.K,S:=au x5,V:=x.V:bU};let x2:=x4.modify x0 fun(x:bU)=>{K:=x.K,S:=x.S,V:={K:=wrap i64 (x5+1),N:=x.V.N,S:=x.V.S:aZ}:bU};let x1:=x2.modify x0 fun(x:bU)=>{K:=x.K,S:=x.S,V:={K:=x.V.K,N:=x7,S:=x.V.S:aZ}:bU};zV a k y->bif decide (y.2.2.1<(y.1.length:Int)) then 0<=y.2.2.1/\x0<y.1.length/\x0<y.1.length/\x5<=4611686018427387903/\0<=y.2.2.1/\x0<x6.length/\x0<x6.length/\0<=y.2.2.1/\x0<x4.length/\x0<x4.length/\0<=y.2.2.1/\x0<x2.length/\x0<x2.length/\x3<=4611686018427387903/\0<=y.2.2.1/\x0<x1.length/\x0<x1.length/\zV a k (x1.modify x0 fun(x:bU)=>{K:=x.K,S:=x.S,V:={K:=x.V.K,N:=x.V.N,S:=au x3:aZ}:bU},wrap i64 (x3+1),wrap i64 (y.2.2.1+1),())/\za a k (x1.modify x0 fun(x:bU)=>{K:=x.K,S:=x.S,V:={K:=x.V.K,N:=x.V.N,S:=au x3:aZ}:bU},wrap i64 (x3+1),wrap i64 (y.2.2.1+1),())<za a k y else fz [VI y.2.1]=fz [VI (k+(↑(nu a):Int))]/\fz [VL .iy y.1]=fz [VL .iy (vd a k)])
 dsimp only
 refine⟨⟨by omega,by omega,by simp,by simp[eI]⟩,?_⟩
 rintro⟨row,kk,i,⟨⟩⟩ ⟨h1,h2,rfl,rfl⟩
 simp only
 have hl:=nM oE jY a k h1 h2
 refine aa ?_ ?_<;>intro hc
 ·have hc:i<a.length:=by have hc:=yT hc;omega
  have ky:=dB jY a np h1 hc
  have hle:=cm jY a (i+1).toNat
  have hg:=fC _ a np (mH oE jY a k h1 h2) h1 hc
  have hM:=fun F hF=>jB oE jY a np k (i:=i) F h1 hc hF
  have hq:(nu a:Int)=eI jY a:=rfl
  generalize List.getD a i.toNat np=x at*
  generalize lT:k+(eI jY (a.take i.toNat):Int)=kk at*
  generalize List.take i.toNat (gx oE jY a k)++a.drop i.toNat=R at*
  simp only[jY] at ky
  simp(disch:=first|omega|(simp only[sz];omega)) only[sz,wrap_i64,getD_modify,cw,hg,hl]
  repeat' (first|refine And.intro (by omega) ?_|fail)
  exact⟨⟨by omega,by omega,hM _ (by first|rfl|(simp only[oE,gI];rw[Hx (by omega)];rfl)),by omega⟩,by simp only[za];omega⟩
 ·have hc:a.length<=i:=by have hc:=yF hc;omega
  rw[jf oE jY a k hc,eW jY a hc]
  exact⟨rfl,rfl⟩
def aet:=bB (α:=b8×Int) (qC (qA .nP) (q1 qI)) [.ro,.ro] (fun(a,left)=>[0<=left]) (fun(a,left)=>⟨[dI (dR left (h_ a))],[],[]⟩)
def agH:HH:=hF aet func195 [af0] a0 fun x hp hb=>by
 obtain⟨a,left⟩:=x
 have bj:=JB (x:=a) (hb _ m0)
 have pL:=bj.1
 have pM:=bj.2
 have cp:=iK (n:=left) (hb _ m1)
 have bD:0<=left:=hp _ m0
 clear hp hb
 apply vE (let x0:=wrap i64 (left-(↑(a.Kind.size):Int));let q0:=dR left (h_ a);bif decide (x0<0) then Li (-1) q0 else 0<=x0/\bif decide (dR x0 (jJ a.aU)<0) then Li (-1) q0 else Li (dR x0 (jJ a.aU)) q0)
 dsimp only
 rw[wi]
 refine aa (fun h=>cR (b_ ?_)) (fun h=> ?_)
 ·have h:=yT h;simp only[h_];omega
 have h0:=yF h
 refine⟨by omega,aa (fun h=>cR (b_ ?_)) (fun h=> ?_)⟩
 ·have h:=eh h;simp only[h_];omega
 obtain⟨e1,h1⟩:=dH h
 rw[e1]
 exact cR (by rw[<-gQ (by simp only[h_];omega)];simp only[h_];try omega)
def aei:=bB (α:=b8) (q1 (qA .nP)) [.ro] (fun a=>[L4 (h_ a)]) (fun a=>⟨[dA .fU a],[],[]⟩)
def agt:HH:=hF aei func213 [afO] a0 fun(a:b8) hp hb=>by
 have bj:=JB (x:=a) (hb _ m0)
 have pL:=bj.1
 have pM:=bj.2
 have bD:h_ a<=4294967296:=hp _ m0
 clear hp hb
 apply vE (jJ a.aU<=4294967296/\Lf [DV.agg [CS a.Kind,CL .iy a.aU,CO a.Not]] [DV.agg [CS a.Kind,CL .iy a.aU,CO a.Not]])
 simp only[h_] at bD
 repeat' (first|exact aH _|(refine And.intro (by omega) ?_))
def ad1:=bB (α:=b8×b8) (qC (qA .fU) (q1 (qA .fU))) [.ro,.ro] (fun _=>[]) (fun(a,b)=>⟨[dO (decide (a=b))],[],[]⟩)
def af3:HH:=hF ad1 func246 [afF] a0 fun x hp hb=>by
 obtain⟨a,b⟩:=x
 have bj:=yK (x:=a) (hb _ m0)
 have pL:=bj.1
 have pM:=bj.2
 have er:=yK (x:=b) (hb _ m1)
 have KI:=er.1
 have KJ:=er.2
 clear hp hb
 apply vE (let q0:=Lb false (decide (a=b));bif !a.Kind.toList==b.Kind.toList then q0 else bif !decide (a.aU=b.aU) then q0 else bif !a.Not==b.Not then q0 else Lb true (decide (a=b)))
 dsimp only
 obtain⟨SR,acv,aqb⟩:=a
 obtain⟨SO,acm,ap8⟩:=b
 repeat' (apply aa<;>intro _)
 all_goals (first|apply ol|apply mV)<;>simp_all
def Ua:=bB (α:=(List b8)×Int) (qC (qL .nP) (q1 qI)) [.ro,.ro] (fun(a,left)=>[0<=left]) (fun(a,left)=>⟨[dI (dR left (iM a))],[],[]⟩)
def RJ(a:List b8)(left:Int):Int×Int×Unit->Prop:=Hz h_ a (iM a) left
def Rk(a:List b8)(left:Int):Int×Int×Unit->Nat:=tK a
def aiW:AX Ua:=fun(a,left)=>bh [(5,aB [iI 1,iI 5] (fun _=>RJ a left) (Rk a left))]
def aho:HH:=hF Ua func128 [agH] aiW fun x hp hb=>by
 obtain⟨a,left⟩:=x
 have cF:L9 a.length:=eY (hb _ m0)
 have cp:=iK (n:=left) (hb _ m1)
 have bD:0<=left:=hp _ m0
 clear hp hb
 apply vE (HL h_ e8 a (iM a) left)
 exact l6 rfl bD cp cF
def TS:=bB (α:=List b8) (q1 (qL .nP)) [.ro] (fun a=>[L4 (iM a)]) (fun a=>⟨[dL .fU a],[],[]⟩)
def RF(a:List b8):List b8×Int×Unit->Prop:=Hy e8 a
def Rg(a:List b8):List b8×Int×Unit->Nat:=tK a
def aiL:AX TS:=fun a=>bh [(3,aB [iO 3 .fU,iI 4] (fun _=>RF a) (Rg a))]
def ag8:HH:=hF TS func154 [agt] aiL fun(a:List b8) hp hb=>by
 have cF:L9 a.length:=eY (hb _ m0)
 have bD:iM a<=4294967296:=hp _ m0
 clear hp hb
 apply vE (I5 h_ e8 a fun y=>Lf [.one (.sl .fU y)] [.one (.sl .fU a)])
 exact l5 bD (aH _)
def TD:=bB (α:=(List b8)×(List b8)) (qC (qL .fU) (q1 (qL .fU))) [.ro,.ro] (fun _=>[]) (fun(a,b)=>⟨[dO (decide (a=b))],[],[]⟩)
def Rx(a:List b8)(b:List b8):Int×Unit->Prop:=GF a b
def Ra(a:List b8)(b:List b8):Int×Unit->Nat:=FX a
def aiw:AX TD:=fun(a,b)=>bh [(4,aB [iI 5] (fun _=>Rx a b) (Ra a b))]
def agM:HH:=hF TD func190 [af3] aiw fun x hp hb=>by
 obtain⟨a,b⟩:=x
 have cF:L9 a.length:=eY (hb _ m0)
 have tG:L9 b.length:=eY (hb _ m1)
 clear hp hb
 apply vE (HG e8 a b)
 exact lx cF
def Uj:=bB (α:=(List b8)×Int) (qC (qL .fU) (q1 qI)) [.wr,.ro] (fun(a,k)=>[0<=k,k+my a<=4611686018427387904]) (fun(a,k)=>⟨[dI (k+my a)],[],[dL .fU (u9 a k)]⟩)
def An(a:List b8)(k:Int):List b8×Int×Int×Unit->Prop:=fun(row,kk,i,_)=>0<=i/\i<=a.length/\row=(gx oD jX a k).take i.toNat++a.drop i.toNat/\kk=k+eI jX (a.take i.toNat)
def zv(a:List b8)(k:Int):List b8×Int×Int×Unit->Nat:=fun(row,kk,i,_)=>a.length-i.toNat
def ai5:AX Uj:=fun(a,k)=>bh [(2,aB [.slot 0 (2000000,0) (.own .fU true),iI 1,iI 5] (fun _=>An a k) (zv a k))]
def ahx:HH:=hF Uj func119 [pV,agJ] ai5 fun x hp hb=>by
 obtain⟨a,k⟩:=x
 have cF:L9 a.length:=eY (hb _ m0)
 have lc:=iK (n:=k) (hb _ m1)
 have bD:0<=k:=hp _ m0
 have gb:k+my a<=4611686018427387904:=hp _ m1
 clear hp hb
 apply vE (An a k (a,k,0,())/\∀(y:List b8×Int×Int×PUnit),let x2:=y.2.2.1.toNat;let x3:=y.1.modify x2 fun(x:b8)=>{Kind:=au y.2.1,aU:=x.aU,Not:=x.Not:b8};let x4:=wrap i64 (y.2.1+1);let x0:=x4+(↑(nu (x3.getD x2 e8).aU):Int);let x1:=x3.modify x2 fun(x:b8)=>{Kind:=x.Kind,aU:=vd (x3.getD x2 e8).aU x4,Not:=x.Not:b8};An a k y->bif decide (y.2.2.1<(y.1.length:Int)) then y.2.1<=4611686018427387903/\0<=y.2.2.1/\x2<y.1.length/\x2<y.1.length/\0<=y.2.2.1/\x2<x3.length/\x2<x3.length/\x2<x3.length/\0<=x4/\x0<=4611686018427387904/\(3:Int)≠(0:Int)/\0<=y.2.2.1/\x2<x1.length/\x2<x1.length/\An a k (x1.modify x2 fun(x:b8)=>{Kind:=x.Kind,aU:=x.aU,Not:=Int.tmod x0 (3:Int)==(0:Int):b8},wrap i64 (x0+1),wrap i64 (y.2.2.1+1),())/\zv a k (x1.modify x2 fun(x:b8)=>{Kind:=x.Kind,aU:=x.aU,Not:=Int.tmod x0 (3:Int)==(0:Int):b8},wrap i64 (x0+1),wrap i64 (y.2.2.1+1),())<zv a k y else fz [VI y.2.1]=fz [VI (k+(↑(my a):Int))]/\fz [VL .fU y.1]=fz [VL .fU (u9 a k)])
 dsimp only
 refine⟨⟨by omega,by omega,by simp,by simp[eI]⟩,?_⟩
 rintro⟨row,kk,i,⟨⟩⟩ ⟨h1,h2,rfl,rfl⟩
 simp only
 have hl:=nM oD jX a k h1 h2
 refine aa ?_ ?_<;>intro hc
 ·have hc:i<a.length:=by have hc:=yT hc;omega
  have ky:=dB jX a e8 h1 hc
  have hle:=cm jX a (i+1).toNat
  have hg:=fC _ a e8 (mH oD jX a k h1 h2) h1 hc
  have hM:=fun F hF=>jB oD jX a e8 k (i:=i) F h1 hc hF
  have hq:(my a:Int)=eI jX a:=rfl
  generalize List.getD a i.toNat e8=x at*
  generalize lT:k+(eI jX (a.take i.toNat):Int)=kk at*
  generalize List.take i.toNat (gx oD jX a k)++a.drop i.toNat=R at*
  simp only[jX] at ky
  simp(disch:=first|omega|(simp only[sz];omega)) only[sz,wrap_i64,getD_modify,cw,hg,hl]
  repeat' (first|refine And.intro (by omega) ?_|fail)
  exact⟨⟨by omega,by omega,hM _ (by first|rfl|(simp only[oD,gI];rw[Hx (by omega)];rfl)),by omega⟩,by simp only[zv];omega⟩
 ·have hc:a.length<=i:=by have hc:=yF hc;omega
  rw[jf oD jX a k hc,eW jX a hc]
  exact⟨rfl,rfl⟩
def aeq:=bB (α:=bM×Int) (qC (qA .jS) (q1 qI)) [.ro,.ro] (fun(a,left)=>[0<=left]) (fun(a,left)=>⟨[dI (dR left (gH a))],[],[]⟩)
def agE:HH:=hF aeq func198 [JT] a0 fun x hp hb=>by
 obtain⟨a,left⟩:=x
 have bj:=G' (x:=a) (hb _ m0)
 have hH:=bj.1
 have mP:=bj.2
 have cp:=iK (n:=left) (hb _ m1)
 have bD:0<=left:=hp _ m0
 clear hp hb
 apply vE (let x0:=wrap i64 (left-(↑(a.Name.size):Int));let q0:=dR left (gH a);bif decide (x0<0) then Li (-1) q0 else 0<=x0/\bif decide (dR x0 (cS a.V)<0) then Li (-1) q0 else Li (dR x0 (cS a.V)) q0)
 dsimp only
 rw[wi]
 refine aa (fun h=>cR (b_ ?_)) (fun h=> ?_)
 ·have h:=yT h;simp only[gH];omega
 have h0:=yF h
 refine⟨by omega,aa (fun h=>cR (b_ ?_)) (fun h=> ?_)⟩
 ·have h:=eh h;simp only[gH];omega
 obtain⟨e1,h1⟩:=dH h
 rw[e1]
 exact cR (by rw[<-gQ (by simp only[gH];omega)];simp only[gH];try omega)
def aef:=bB (α:=bM) (q1 (qA .jS)) [.ro] (fun a=>[L4 (gH a)]) (fun a=>⟨[dA .dG a],[],[]⟩)
def agq:HH:=hF aef func216 [JQ] a0 fun(a:bM) hp hb=>by
 have bj:=G' (x:=a) (hb _ m0)
 have hH:=bj.1
 have mP:=bj.2
 have bD:gH a<=4294967296:=hp _ m0
 clear hp hb
 apply vE (cS a.V<=4294967296/\Lf [DV.agg [CS a.Name,CI a.V.K,CI a.V.N,CS a.V.S]] [DV.agg [CS a.Name,CI a.V.K,CI a.V.N,CS a.V.S]])
 simp only[gH] at bD
 repeat' (first|exact aH _|(refine And.intro (by omega) ?_))
def ad2:=bB (α:=bM×bM) (qC (qA .dG) (q1 (qA .dG))) [.ro,.ro] (fun _=>[]) (fun(a,b)=>⟨[dO (decide (a=b))],[],[]⟩)
def af4:HH:=hF ad2 func245 [JN] a0 fun x hp hb=>by
 obtain⟨a,b⟩:=x
 have bj:=Hf (x:=a) (hb _ m0)
 have hH:=bj.1
 have mP:=bj.2
 have er:=Hf (x:=b) (hb _ m1)
 have w4:=er.1
 have Gv:=er.2
 clear hp hb
 apply vE (bif !a.Name.toList==b.Name.toList then Lb false (decide (a=b)) else bif !decide (a.V=b.V) then Lb false (decide (a=b)) else Lb true (decide (a=b)))
 obtain⟨Od,aV⟩:=a
 obtain⟨N6,bV⟩:=b
 repeat' (apply aa<;>intro _)
 all_goals (first|apply ol|apply mV)<;>simp_all
def TZ:=bB (α:=(List bM)×Int) (qC (qL .jS) (q1 qI)) [.ro,.ro] (fun(a,left)=>[0<=left]) (fun(a,left)=>⟨[dI (dR left (g_ a))],[],[]⟩)
def RG(a:List bM)(left:Int):Int×Int×Unit->Prop:=Hz gH a (g_ a) left
def Rh(a:List bM)(left:Int):Int×Int×Unit->Nat:=tK a
def aiT:AX TZ:=fun(a,left)=>bh [(5,aB [iI 1,iI 5] (fun _=>RG a left) (Rh a left))]
def ahj:HH:=hF TZ func133 [agE] aiT fun x hp hb=>by
 obtain⟨a,left⟩:=x
 have cF:L9 a.length:=eY (hb _ m0)
 have cp:=iK (n:=left) (hb _ m1)
 have bD:0<=left:=hp _ m0
 clear hp hb
 apply vE (HL gH ot a (g_ a) left)
 exact l6 rfl bD cp cF
def TO:=bB (α:=List bM) (q1 (qL .jS)) [.ro] (fun a=>[L4 (g_ a)]) (fun a=>⟨[dL .dG a],[],[]⟩)
def RB(a:List bM):List bM×Int×Unit->Prop:=Hy ot a
def Rd(a:List bM):List bM×Int×Unit->Nat:=tK a
def aiH:AX TO:=fun a=>bh [(3,aB [iO 3 .dG,iI 4] (fun _=>RB a) (Rd a))]
def ag3:HH:=hF TO func159 [agq] aiH fun(a:List bM) hp hb=>by
 have cF:L9 a.length:=eY (hb _ m0)
 have bD:g_ a<=4294967296:=hp _ m0
 clear hp hb
 apply vE (I5 gH ot a fun y=>Lf [.one (.sl .dG y)] [.one (.sl .dG a)])
 exact l5 bD (aH _)
def TF:=bB (α:=(List bM)×(List bM)) (qC (qL .dG) (q1 (qL .dG))) [.ro,.ro] (fun _=>[]) (fun(a,b)=>⟨[dO (decide (a=b))],[],[]⟩)
def Rz(a:List bM)(b:List bM):Int×Unit->Prop:=GF a b
def Rc(a:List bM)(b:List bM):Int×Unit->Nat:=FX a
def aiy:AX TF:=fun(a,b)=>bh [(4,aB [iI 5] (fun _=>Rz a b) (Rc a b))]
def agO:HH:=hF TF func187 [af4] aiy fun x hp hb=>by
 obtain⟨a,b⟩:=x
 have cF:L9 a.length:=eY (hb _ m0)
 have tG:L9 b.length:=eY (hb _ m1)
 clear hp hb
 apply vE (HG ot a b)
 exact lx cF
def Ue:=bB (α:=(List bM)×Int) (qC (qL .dG) (q1 qI)) [.wr,.ro] (fun(a,k)=>[0<=k,k+fk a<=4611686018427387904]) (fun(a,k)=>⟨[dI (k+fk a)],[],[dL .dG (ga a k)]⟩)
def Ai(a:List bM)(k:Int):List bM×Int×Int×Unit->Prop:=fun(row,kk,i,_)=>0<=i/\i<=a.length/\row=(gx fR dq a k).take i.toNat++a.drop i.toNat/\kk=k+eI dq (a.take i.toNat)
def zp(a:List bM)(k:Int):List bM×Int×Int×Unit->Nat:=fun(row,kk,i,_)=>a.length-i.toNat
def ai0:AX Ue:=fun(a,k)=>bh [(2,aB [.slot 0 (2000000,0) (.own .dG true),iI 1,iI 5] (fun _=>Ai a k) (zp a k))]
def ahs:HH:=hF Ue func124 [pV] ai0 fun x hp hb=>by
 obtain⟨a,k⟩:=x
 have cF:L9 a.length:=eY (hb _ m0)
 have lc:=iK (n:=k) (hb _ m1)
 have bD:0<=k:=hp _ m0
 have gb:k+fk a<=4611686018427387904:=hp _ m1
 clear hp hb
 apply vE (Ai a k (a,k,0,())/\∀(y:List bM×Int×Int×PUnit),let x0:=y.2.2.1.toNat;let x5:=wrap i64 (y.2.1+1);let x6:=y.1.modify x0 fun(x:bM)=>{Name:=au y.2.1,V:=x.V:bM};let x3:=x6.modify x0 fun(x:bM)=>{Name:=x.Name,V:={K:=x5,N:=x.V.N,S:=x.V.S:aZ}:bM};let x4:=wrap i64 (x5+1);let x1:=x3.modify x0 fun(x:bM)=>{Name:=x.Name,V:={K:=x.V.K,N:=x4,S:=x.V.S:aZ}:bM};let x2:=wrap i64 (x4+1);Ai a k y->bif decide (y.2.2.1<(y.1.length:Int)) then y.2.1<=4611686018427387903/\0<=y.2.2.1/\x0<y.1.length/\x0<y.1.length/\0<=y.2.2.1/\x0<x6.length/\x0<x6.length/\0<=y.2.2.1/\x0<x3.length/\x0<x3.length/\x2<=4611686018427387903/\0<=y.2.2.1/\x0<x1.length/\x0<x1.length/\Ai a k (x1.modify x0 fun(x:bM)=>{Name:=x.Name,V:={K:=x.V.K,N:=x.V.N,S:=au x2:aZ}:bM},wrap i64 (x2+1),wrap i64 (y.2.2.1+1),())/\zp a k (x1.modify x0 fun(x:bM)=>{Name:=x.Name,V:={K:=x.V.K,N:=x.V.N,S:=au x2:aZ}:bM},wrap i64 (x2+1),wrap i64 (y.2.2.1+1),())<zp a k y else fz [VI y.2.1]=fz [VI (k+(↑(fk a):Int))]/\fz [VL .dG y.1]=fz [VL .dG (ga a k)])
 dsimp only
 refine⟨⟨by omega,by omega,by simp,by simp[eI]⟩,?_⟩
 rintro⟨row,kk,i,⟨⟩⟩ ⟨h1,h2,rfl,rfl⟩
 simp only
 have hl:=nM fR dq a k h1 h2
 refine aa ?_ ?_<;>intro hc
 ·have hc:i<a.length:=by have hc:=yT hc;omega
  have ky:=dB dq a ot h1 hc
  have hle:=cm dq a (i+1).toNat
  have hg:=fC _ a ot (mH fR dq a k h1 h2) h1 hc
  have hM:=fun F hF=>jB fR dq a ot k (i:=i) F h1 hc hF
  have hq:(fk a:Int)=eI dq a:=rfl
  generalize List.getD a i.toNat ot=x at*
  generalize lT:k+(eI dq (a.take i.toNat):Int)=kk at*
  generalize List.take i.toNat (gx fR dq a k)++a.drop i.toNat=R at*
  simp only[dq] at ky
  simp(disch:=first|omega|(simp only[sz];omega)) only[sz,wrap_i64,getD_modify,cw,hg,hl]
  repeat' (first|refine And.intro (by omega) ?_|fail)
  exact⟨⟨by omega,by omega,hM _ (by first|rfl|(simp only[fR,gI];rw[Hx (by omega)];rfl)),by omega⟩,by simp only[zp];omega⟩
 ·have hc:a.length<=i:=by have hc:=yF hc;omega
  rw[jf fR dq a k hc,eW dq a hc]
  exact⟨rfl,rfl⟩
def Ub:=bB (α:=(List bM)×Int) (qC (qL .dG) (q1 qI)) [.ro,.ro] (fun(a,k)=>[0<=k,k+fk a<=4611686018427387904]) (fun(a,k)=>⟨[dI (if ga a k=a then k+fk a else-1)],[],[]⟩)
def Af(a:List bM)(k:Int):Int×Int×Unit->Prop:=fun(kk,i,_)=>0<=i/\i<=a.length/\kk=k+eI dq (a.take i.toNat)/\(gx fR dq (a.drop i.toNat) kk=a.drop i.toNat↔gx fR dq a k=a)
def zm(a:List bM)(k:Int):Int×Int×Unit->Nat:=fun(kk,i,_)=>a.length-i.toNat
def aiX:AX Ub:=fun(a,k)=>bh [(2,aB [iI 1,iI 5] (fun _=>Af a k) (zm a k))]
def ahp:HH:=hF Ub func127 [pV] aiX fun x hp hb=>by
 obtain⟨a,k⟩:=x
 have cF:L9 a.length:=eY (hb _ m0)
 have lc:=iK (n:=k) (hb _ m1)
 have bD:0<=k:=hp _ m0
 have gb:k+fk a<=4611686018427387904:=hp _ m1
 clear hp hb
 apply vE (let q0:=if ga a k=a then k+(↑(fk a):Int) else(-1);let q1:=Li (-1) q0;Af a k (k,0,())/\∀(y:Int×Int×PUnit),let x3:=y.2.1.toNat;let x4:=wrap i64 (wrap i64 (y.1+1)+1);let x1:=wrap i64 (x4+1);let x2:=a.getD x3 ot;let x0:=x2.V;let q2:=(wrap i64 (x1+1),wrap i64 (y.2.1+1),());Af a k y->bif decide (y.2.1<(a.length:Int)) then 0<=y.2.1/\x3<a.length/\y.1<=4611686018427387903/\bif !x2.Name.toList==(au y.1).toList then q1 else 0<=y.2.1/\x3<a.length/\bif x0.K !=wrap i64 (y.1+1) then q1 else 0<=y.2.1/\x3<a.length/\bif x0.N !=x4 then q1 else 0<=y.2.1/\x3<a.length/\x1<=4611686018427387903/\bif !x0.S.toList==(au x1).toList then q1 else Af a k q2/\zm a k q2<zm a k y else Li y.1 q0)
 dsimp only
 refine⟨⟨by omega,by omega,by simp[eI],by simp⟩,?_⟩
 rintro⟨kk,i,⟨⟩⟩ ⟨h1,h2,lT,hR⟩
 simp only
 simp only[ga]
 refine aa ?_ ?_<;>intro hc
 ·have hc:i<a.length:=by have hc:=yT hc;omega
  have ky:=dB dq a ot h1 hc
  have hle:=cm dq a (i+1).toNat
  have hq:(fk a:Int)=eI dq a:=rfl
  rw[cW a ot h1 hc] at hR
  generalize List.getD a i.toNat ot=x at*
  simp only[gx,Lo] at hR
  have e:kk+(dq x:Int)=kk+1+1+1+1:=by first|(simp only[dq];done)|(simp only[dq];omega)
  rw[e] at hR
  simp only[fR,dq] at hR ky
  simp(disch:=omega) only[wrap_i64,nv,bt]
  obtain⟨Lv,⟨FL,FJ,FI⟩⟩:=x
  simp only[bM.mk.injEq,aZ.mk.injEq] at*
  repeat' (first|refine And.intro (by omega) ?_|fail)
  refine aa (fun h=>e_ (fun hh=> ?_)) (fun h=> ?_)
  ·have hh:=hR.2 hh;simp_all
  have h:Lv=au (kk):=by simpa using h
  subst Lv
  repeat' (first|refine And.intro (by omega) ?_|fail)
  refine aa (fun h=>e_ (fun hh=> ?_)) (fun h=> ?_)
  ·have hh:=hR.2 hh;simp_all
  have h:FL=kk+1:=by simpa using h
  subst FL
  repeat' (first|refine And.intro (by omega) ?_|fail)
  refine aa (fun h=>e_ (fun hh=> ?_)) (fun h=> ?_)
  ·have hh:=hR.2 hh;simp_all
  have h:FJ=kk+1+1:=by simpa using h
  subst FJ
  repeat' (first|refine And.intro (by omega) ?_|fail)
  refine aa (fun h=>e_ (fun hh=> ?_)) (fun h=> ?_)
  ·have hh:=hR.2 hh;simp_all
  have h:FI=au (kk+1+1+1):=by simpa using h
  subst FI
  exact⟨⟨by omega,by omega,by omega,by simpa using hR⟩,by simp only[zm];omega⟩
 ·have hc:a.length<=i:=by have hc:=yF hc;omega
  rw[bZ a hc] at hR
  exact n9 (hR.1 rfl) (by rw[lT,eW _ _ hc];rfl)
def aes:=bB (α:=bo×Int) (qC (qA .jR) (q1 qI)) [.ro,.ro] (fun(a,left)=>[0<=left]) (fun(a,left)=>⟨[dI (dR left (gG a))],[],[]⟩)
def agG:HH:=hF aes func196 [Ou] a0 fun x hp hb=>by
 obtain⟨a,left⟩:=x
 have bj:=G9 (x:=a) (hb _ m0)
 have sd:=bj.1
 have nU:=bj.2.1
 have sb:=bj.2.2.1
 have nT:=bj.2.2.2
 have cp:=iK (n:=left) (hb _ m1)
 have bD:0<=left:=hp _ m0
 clear hp hb
 apply vE (let x0:=dR (dR left (cY a.L)) (cY a.R);let q0:=dR left (gG a);0<=left/\bif decide (dR left (cY a.L)<0) then Li (-1) q0 else 0<=dR left (cY a.L)/\bif decide (x0<0) then Li (-1) q0 else Li x0 q0)
 dsimp only
 refine⟨by omega,aa (fun h=>cR (b_ ?_)) (fun h=> ?_)⟩
 ·have h:=eh h;simp only[gG];omega
 obtain⟨e0,h0⟩:=dH h
 rw[e0]
 refine⟨by omega,aa (fun h=>cR (b_ ?_)) (fun h=> ?_)⟩
 ·have h:=eh h;simp only[gG];omega
 obtain⟨e1,h1⟩:=dH h
 rw[e1]
 exact cR (by rw[<-gQ (by simp only[gG];omega)];simp only[gG];try omega)
def aeh:=bB (α:=bo) (q1 (qA .jR)) [.ro] (fun a=>[L4 (gG a)]) (fun a=>⟨[dA .de a],[],[]⟩)
def ags:HH:=hF aeh func214 [Oq] a0 fun(a:bo) hp hb=>by
 have bj:=G9 (x:=a) (hb _ m0)
 have sd:=bj.1
 have nU:=bj.2.1
 have sb:=bj.2.2.1
 have nT:=bj.2.2.2
 have bD:gG a<=4294967296:=hp _ m0
 clear hp hb
 apply vE (cY a.L<=4294967296/\L4 (cY a.R)/\Lf [DV.agg [CI a.Op,CI a.L.K,CS a.L.S,CI a.L.V.K,CI a.L.V.N,CS a.L.V.S,CI a.R.K,CS a.R.S,CI a.R.V.K,CI a.R.V.N,CS a.R.V.S]] [DV.agg [CI a.Op,CI a.L.K,CS a.L.S,CI a.L.V.K,CI a.L.V.N,CS a.L.V.S,CI a.R.K,CS a.R.S,CI a.R.V.K,CI a.R.V.N,CS a.R.V.S]])
 simp only[gG] at bD
 repeat' (first|exact aH _|(refine And.intro (by omega) ?_))
def ad0:=bB (α:=bo×bo) (qC (qA .de) (q1 (qA .de))) [.ro,.ro] (fun _=>[]) (fun(a,b)=>⟨[dO (decide (a=b))],[],[]⟩)
def af2:HH:=hF ad0 func247 [Oo] a0 fun x hp hb=>by
 obtain⟨a,b⟩:=x
 have bj:=Hd (x:=a) (hb _ m0)
 have sd:=bj.1
 have nU:=bj.2.1
 have sb:=bj.2.2.1
 have nT:=bj.2.2.2
 have er:=Hd (x:=b) (hb _ m1)
 have Nc:=er.1
 have Il:=er.2.1
 have Nb:=er.2.2.1
 have Ik:=er.2.2.2
 clear hp hb
 apply vE (let q0:=Lb false (decide (a=b));bif a.Op !=b.Op then q0 else bif !decide (a.L=b.L) then q0 else bif !decide (a.R=b.R) then q0 else Lb true (decide (a=b)))
 dsimp only
 obtain⟨aOp,aL,aR⟩:=a
 obtain⟨bOp,bL,bR⟩:=b
 repeat' (apply aa<;>intro _)
 all_goals (first|apply ol|apply mV)<;>simp_all
def T_:=bB (α:=(List bo)×Int) (qC (qL .jR) (q1 qI)) [.ro,.ro] (fun(a,left)=>[0<=left]) (fun(a,left)=>⟨[dI (dR left (j7 a))],[],[]⟩)
def RI(a:List bo)(left:Int):Int×Int×Unit->Prop:=Hz gG a (j7 a) left
def Rj(a:List bo)(left:Int):Int×Int×Unit->Nat:=tK a
def aiV:AX T_:=fun(a,left)=>bh [(5,aB [iI 1,iI 5] (fun _=>RI a left) (Rj a left))]
def ahn:HH:=hF T_ func129 [agG] aiV fun x hp hb=>by
 obtain⟨a,left⟩:=x
 have cF:L9 a.length:=eY (hb _ m0)
 have cp:=iK (n:=left) (hb _ m1)
 have bD:0<=left:=hp _ m0
 clear hp hb
 apply vE (HL gG mB a (j7 a) left)
 exact l6 rfl bD cp cF
def TR:=bB (α:=List bo) (q1 (qL .jR)) [.ro] (fun a=>[L4 (j7 a)]) (fun a=>⟨[dL .de a],[],[]⟩)
def RE(a:List bo):List bo×Int×Unit->Prop:=Hy mB a
def Rf(a:List bo):List bo×Int×Unit->Nat:=tK a
def aiK:AX TR:=fun a=>bh [(3,aB [iO 3 .de,iI 4] (fun _=>RE a) (Rf a))]
def ag7:HH:=hF TR func155 [ags] aiK fun(a:List bo) hp hb=>by
 have cF:L9 a.length:=eY (hb _ m0)
 have bD:j7 a<=4294967296:=hp _ m0
 clear hp hb
 apply vE (I5 gG mB a fun y=>Lf [.one (.sl .de y)] [.one (.sl .de a)])
 exact l5 bD (aH _)
def TC:=bB (α:=(List bo)×(List bo)) (qC (qL .de) (q1 (qL .de))) [.ro,.ro] (fun _=>[]) (fun(a,b)=>⟨[dO (decide (a=b))],[],[]⟩)
def Rw(a:List bo)(b:List bo):Int×Unit->Prop:=GF a b
def Q_(a:List bo)(b:List bo):Int×Unit->Nat:=FX a
def aiv:AX TC:=fun(a,b)=>bh [(4,aB [iI 5] (fun _=>Rw a b) (Q_ a b))]
def agL:HH:=hF TC func191 [af2] aiv fun x hp hb=>by
 obtain⟨a,b⟩:=x
 have cF:L9 a.length:=eY (hb _ m0)
 have tG:L9 b.length:=eY (hb _ m1)
 clear hp hb
 apply vE (HG mB a b)
 exact lx cF
def Ui:=bB (α:=(List bo)×Int) (qC (qL .de) (q1 qI)) [.wr,.ro] (fun(a,k)=>[0<=k,k+lz a<=4611686018427387904]) (fun(a,k)=>⟨[dI (k+lz a)],[],[dL .de (sJ a k)]⟩)
def Am(a:List bo)(k:Int):List bo×Int×Int×Unit->Prop:=fun(row,kk,i,_)=>0<=i/\i<=a.length/\row=(gx mK im a k).take i.toNat++a.drop i.toNat/\kk=k+eI im (a.take i.toNat)
def zu(a:List bo)(k:Int):List bo×Int×Int×Unit->Nat:=fun(row,kk,i,_)=>a.length-i.toNat
def ai4:AX Ui:=fun(a,k)=>bh [(2,aB [.slot 0 (2000000,0) (.own .de true),iI 1,iI 5] (fun _=>Am a k) (zu a k))]
def ahw:HH:=hF Ui func120 [pV] ai4 fun x hp hb=>by
 obtain⟨a,k⟩:=x
 have cF:L9 a.length:=eY (hb _ m0)
 have lc:=iK (n:=k) (hb _ m1)
 have bD:0<=k:=hp _ m0
 have gb:k+lz a<=4611686018427387904:=hp _ m1
 clear hp hb
 apply vE (Am a k (a,k,0,())/\∀(y:List bo×Int×Int×PUnit),let x0:=y.2.2.1.toNat;let O7:=wrap i64 (y.2.1+1);let O6:=y.1.modify x0 fun(x:bo)=>{Op:=y.2.1,L:=x.L,R:=x.R:bo};let BX:=wrap i64 (O7+1);let OM:=O6.modify x0 fun(x:bo)=>{Op:=x.Op,L:={K:=O7,S:=x.L.S,V:=x.L.V:bU},R:=x.R:bo};let ZG:=wrap i64 (wrap i64 (BX+1)+1);let x9:=OM.modify x0 fun(x:bo)=>{Op:=x.Op,L:={K:=x.L.K,S:=au BX,V:=x.L.V:bU},R:=x.R:bo};let ya:=wrap i64 (ZG+1);let x7:=x9.modify x0 fun(x:bo)=>{Op:=x.Op,L:={K:=x.L.K,S:=x.L.S,V:={K:=wrap i64 (BX+1),N:=x.L.V.N,S:=x.L.V.S:aZ}:bU},R:=x.R:bo};let rz:=wrap i64 (wrap i64 (ya+1)+1);let ZH:=wrap i64 (wrap i64 (rz+1)+1);let x6:=x7.modify x0 fun(x:bo)=>{Op:=x.Op,L:={K:=x.L.K,S:=x.L.S,V:={K:=x.L.V.K,N:=ZG,S:=x.L.V.S:aZ}:bU},R:=x.R:bo};let x8:=wrap i64 (ZH+1);let x5:=x6.modify x0 fun(x:bo)=>{Op:=x.Op,L:={K:=x.L.K,S:=x.L.S,V:={K:=x.L.V.K,N:=x.L.V.N,S:=au ya:aZ}:bU},R:=x.R:bo};let x4:=x5.modify x0 fun(x:bo)=>{Op:=x.Op,L:=x.L,R:={K:=wrap i64 (ya+1),S:=x.R.S,V:=x.R.V:bU}:bo};let x3:=x4.modify x0 fun(x:bo)=>{Op:=x.Op,L:=x.L,R:={K:=x.R.K,S:=au rz,V:=x.R.V:bU}:bo};let x2:=x3.modify x0 fun(x:bo)=>{Op:=x.Op,L:=x.L,R:={K:=x.R.K,S:=x.R.S,V:={K:=wrap i64 (rz+1),N:=x.R.V.N,S:=x.R.V.S:aZ}:bU}:bo};let x1:=x2.modify x0 fun(x:bo)=>{Op:=x.Op,L:=x.L,R:={K:=x.R.K,S:=x.R.S,V:={K:=x.R.V.K,N:=ZH,S:=x.R.V.S:aZ}:bU}:bo};Am a k y->bif decide (y.2.2.1<(y.1.length:Int)) then 0<=y.2.2.1/\x0<y.1.length/\x0<y.1.length/\0<=y.2.2.1/\x0<O6.length/\x0<O6.length/\BX<=4611686018427387903/\0<=y.2.2.1/\x0<OM.length/\x0<OM.length/\0<=y.2.2.1/\x0<x9.length/\x0<x9.length/\0<=y.2.2.1/\x0<x7.length/\x0<x7.length/\ya<=4611686018427387903/\0<=y.2.2.1/\x0<x6.length/\x0<x6.length/\0<=y.2.2.1/\x0<x5.length/\x0<x5.length/\rz<=4611686018427387903/\0<=y.2.2.1/\x0<x4.length/\x0<x4.length/\0<=y.2.2.1/\x0<x3.length/\x0<x3.length/\0<=y.2.2.1/\x0<x2.length/\x0<x2.length/\x8<=4611686018427387903/\0<=y.2.2.1/\x0<x1.length/\x0<x1.length/\Am a k (x1.modify x0 fun(x:bo)=>{Op:=x.Op,L:=x.L,R:={K:=x.R.K,S:=x.R.S,V:={K:=x.R.V.K,N:=x.R.V.N,S:=au x8:aZ}:bU}:bo},wrap i64 (x8+1),wrap i64 (y.2.2.1+1),())/\zu a k (x1.modify x0 fun(x:bo)=>{Op:=x.Op,L:=x.L,R:={K:=x.R.K,S:=x.R.S,V:={K:=x.R.V.K,N:=x.R.V.N,S:=au x8:aZ}:bU}:bo},wrap i64 (x8+1),wrap i64 (y.2.2.1+1),())<zu a k y else fz [VI y.2.1]=fz [VI (k+(↑(lz a):Int))]/\fz [VL .de y.1]=fz [VL .de (sJ a k)])
 dsimp only
 refine⟨⟨by omega,by omega,by simp,by simp[eI]⟩,?_⟩
 rintro⟨row,kk,i,⟨⟩⟩ ⟨h1,h2,rfl,rfl⟩
 simp only
 have hl:=nM mK im a k h1 h2
 refine aa ?_ ?_<;>intro hc
 ·have hc:i<a.length:=by have hc:=yT hc;omega
  have ky:=dB im a mB h1 hc
  have hle:=cm im a (i+1).toNat
  have hg:=fC _ a mB (mH mK im a k h1 h2) h1 hc
  have hM:=fun F hF=>jB mK im a mB k (i:=i) F h1 hc hF
  have hq:(lz a:Int)=eI im a:=rfl
  generalize List.getD a i.toNat mB=x at*
  generalize lT:k+(eI im (a.take i.toNat):Int)=kk at*
  generalize List.take i.toNat (gx mK im a k)++a.drop i.toNat=R at*
  simp only[im] at ky
  simp(disch:=first|omega|(simp only[sz];omega)) only[sz,wrap_i64,getD_modify,cw,hg,hl]
  repeat' (first|refine And.intro (by omega) ?_|fail)
  exact⟨⟨by omega,by omega,hM _ (by first|rfl|(simp only[mK,gI];rw[Hx (by omega)];rfl)),by omega⟩,by simp only[zu];omega⟩
 ·have hc:a.length<=i:=by have hc:=yF hc;omega
  rw[jf mK im a k hc,eW im a hc]
  exact⟨rfl,rfl⟩
def adM:=bB (α:=bC×Int) (qC (qA .jQ) (q1 qI)) [.ro,.ro] (fun(a,left)=>[0<=left]) (fun(a,left)=>⟨[dI (dR left (fL a))],[],[]⟩)
def afD:HH:=hF adM func279 [Ou] a0 fun x hp hb=>by
 obtain⟨a,left⟩:=x
 have bj:=G8 (x:=a) (hb _ m0)
 have Jp:=bj.1
 have sd:=bj.2.1
 have nU:=bj.2.2.1
 have sb:=bj.2.2.2.1
 have nT:=bj.2.2.2.2
 have cp:=iK (n:=left) (hb _ m1)
 have bD:0<=left:=hp _ m0
 clear hp hb
 apply vE (let x1:=wrap i64 (left-(↑(a.Op.size):Int));let x0:=dR x1 (cY a.L);let q0:=Li (-1) (dR left (fL a));bif decide (x1<0) then q0 else 0<=x1/\bif decide (x0<0) then q0 else 0<=x0/\bif decide (dR x0 (cY a.R)<0) then q0 else Li (dR x0 (cY a.R)) (dR left (fL a)))
 dsimp only
 rw[wi]
 refine aa (fun h=>cR (b_ ?_)) (fun h=> ?_)
 ·have h:=yT h;simp only[fL];omega
 have h0:=yF h
 refine⟨by omega,aa (fun h=>cR (b_ ?_)) (fun h=> ?_)⟩
 ·have h:=eh h;simp only[fL];omega
 obtain⟨e1,h1⟩:=dH h
 rw[e1]
 refine⟨by omega,aa (fun h=>cR (b_ ?_)) (fun h=> ?_)⟩
 ·have h:=eh h;simp only[fL];omega
 obtain⟨e2,h2⟩:=dH h
 rw[e2]
 exact cR (by rw[<-gQ (by simp only[fL];omega)];simp only[fL];try omega)
def adJ:=bB (α:=bC) (q1 (qA .jQ)) [.ro] (fun a=>[L4 (fL a)]) (fun a=>⟨[dA .fc a],[],[]⟩)
def afA:HH:=hF adJ func283 [Oq] a0 fun(a:bC) hp hb=>by
 have bj:=G8 (x:=a) (hb _ m0)
 have Jp:=bj.1
 have sd:=bj.2.1
 have nU:=bj.2.2.1
 have sb:=bj.2.2.2.1
 have nT:=bj.2.2.2.2
 have bD:fL a<=4294967296:=hp _ m0
 clear hp hb
 apply vE (cY a.L<=4294967296/\L4 (cY a.R)/\Lf [DV.agg [CS a.Op,CI a.L.K,CS a.L.S,CI a.L.V.K,CI a.L.V.N,CS a.L.V.S,CI a.R.K,CS a.R.S,CI a.R.V.K,CI a.R.V.N,CS a.R.V.S]] [DV.agg [CS a.Op,CI a.L.K,CS a.L.S,CI a.L.V.K,CI a.L.V.N,CS a.L.V.S,CI a.R.K,CS a.R.S,CI a.R.V.K,CI a.R.V.N,CS a.R.V.S]])
 simp only[fL] at bD
 repeat' (first|exact aH _|(refine And.intro (by omega) ?_))
def adC:=bB (α:=bC×bC) (qC (qA .fc) (q1 (qA .fc))) [.ro,.ro] (fun _=>[]) (fun(a,b)=>⟨[dO (decide (a=b))],[],[]⟩)
def afv:HH:=hF adC func292 [Oo] a0 fun x hp hb=>by
 obtain⟨a,b⟩:=x
 have bj:=Hc (x:=a) (hb _ m0)
 have Jp:=bj.1
 have sd:=bj.2.1
 have nU:=bj.2.2.1
 have sb:=bj.2.2.2.1
 have nT:=bj.2.2.2.2
 have er:=Hc (x:=b) (hb _ m1)
 have ajc:=er.1
 have Nc:=er.2.1
 have Il:=er.2.2.1
 have Nb:=er.2.2.2.1
 have Ik:=er.2.2.2.2
 clear hp hb
 apply vE (let q0:=Lb false (decide (a=b));bif !a.Op.toList==b.Op.toList then q0 else bif !decide (a.L=b.L) then q0 else bif !decide (a.R=b.R) then q0 else Lb true (decide (a=b)))
 dsimp only
 obtain⟨aOp,aL,aR⟩:=a
 obtain⟨bOp,bL,bR⟩:=b
 repeat' (apply aa<;>intro _)
 all_goals (first|apply ol|apply mV)<;>simp_all
def Td:=bB (α:=(List bC)×Int) (qC (qL .jQ) (q1 qI)) [.ro,.ro] (fun(a,left)=>[0<=left]) (fun(a,left)=>⟨[dI (dR left (jr a))],[],[]⟩)
def Rr(a:List bC)(left:Int):Int×Int×Unit->Prop:=Hz fL a (jr a) left
def Q5(a:List bC)(left:Int):Int×Int×Unit->Nat:=tK a
def ah8:AX Td:=fun(a,left)=>bh [(5,aB [iI 1,iI 5] (fun _=>Rr a left) (Q5 a left))]
def afZ:HH:=hF Td func251 [afD] ah8 fun x hp hb=>by
 obtain⟨a,left⟩:=x
 have cF:L9 a.length:=eY (hb _ m0)
 have cp:=iK (n:=left) (hb _ m1)
 have bD:0<=left:=hp _ m0
 clear hp hb
 apply vE (HL fL ke a (jr a) left)
 exact l6 rfl bD cp cF
def S6:=bB (α:=List bC) (q1 (qL .jQ)) [.ro] (fun a=>[L4 (jr a)]) (fun a=>⟨[dL .fc a],[],[]⟩)
def Ro(a:List bC):List bC×Int×Unit->Prop:=Hy ke a
def Q3(a:List bC):List bC×Int×Unit->Nat:=tK a
def ah0:AX S6:=fun a=>bh [(3,aB [iO 3 .fc,iI 4] (fun _=>Ro a) (Q3 a))]
def afN:HH:=hF S6 func265 [afA] ah0 fun(a:List bC) hp hb=>by
 have cF:L9 a.length:=eY (hb _ m0)
 have bD:jr a<=4294967296:=hp _ m0
 clear hp hb
 apply vE (I5 fL ke a fun y=>Lf [.one (.sl .fc y)] [.one (.sl .fc a)])
 exact l5 bD (aH _)
def SX:=bB (α:=(List bC)×(List bC)) (qC (qL .fc) (q1 (qL .fc))) [.ro,.ro] (fun _=>[]) (fun(a,b)=>⟨[dO (decide (a=b))],[],[]⟩)
def Rm(a:List bC)(b:List bC):Int×Unit->Prop:=GF a b
def Q0(a:List bC)(b:List bC):Int×Unit->Nat:=FX a
def ahS:AX SX:=fun(a,b)=>bh [(4,aB [iI 5] (fun _=>Rm a b) (Q0 a b))]
def afE:HH:=hF SX func278 [afv] ahS fun x hp hb=>by
 obtain⟨a,b⟩:=x
 have cF:L9 a.length:=eY (hb _ m0)
 have tG:L9 b.length:=eY (hb _ m1)
 clear hp hb
 apply vE (HG ke a b)
 exact lx cF
def Tz:=bB (α:=(List bC)×Int) (qC (qL .fc) (q1 qI)) [.wr,.ro] (fun(a,k)=>[0<=k,k+kP a<=4611686018427387904]) (fun(a,k)=>⟨[dI (k+kP a)],[],[dL .fc (sI a k)]⟩)
def zU(a:List bC)(k:Int):List bC×Int×Int×Unit->Prop:=fun(row,kk,i,_)=>0<=i/\i<=a.length/\row=(gx mJ il a k).take i.toNat++a.drop i.toNat/\kk=k+eI il (a.take i.toNat)
def y_(a:List bC)(k:Int):List bC×Int×Int×Unit->Nat:=fun(row,kk,i,_)=>a.length-i.toNat
def ais:AX Tz:=fun(a,k)=>bh [(2,aB [.slot 0 (2000000,0) (.own .fc true),iI 1,iI 5] (fun _=>zU a k) (y_ a k))]
def agI:HH:=hF Tz func194 [pV] ais fun x hp hb=>by
 obtain⟨a,k⟩:=x
 have cF:L9 a.length:=eY (hb _ m0)
 have lc:=iK (n:=k) (hb _ m1)
 have bD:0<=k:=hp _ m0
 have gb:k+kP a<=4611686018427387904:=hp _ m1
 clear hp hb
 apply vE (zU a k (a,k,0,())/\∀(y:List bC×Int×Int×PUnit),let x0:=y.2.2.1.toNat;let O7:=y.1.modify x0 fun(x:bC)=>{Op:=au y.2.1,L:=x.L,R:=x.R:bC};let O6:=wrap i64 (y.2.1+1);let BX:=wrap i64 (O6+1);let OM:=O7.modify x0 fun(x:bC)=>{Op:=x.Op,L:={K:=O6,S:=x.L.S,V:=x.L.V:bU},R:=x.R:bC};let ZH:=wrap i64 (wrap i64 (BX+1)+1);let x9:=OM.modify x0 fun(x:bC)=>{Op:=x.Op,L:={K:=x.L.K,S:=au BX,V:=x.L.V:bU},R:=x.R:bC};let ya:=wrap i64 (ZH+1);let x7:=x9.modify x0 fun(x:bC)=>{Op:=x.Op,L:={K:=x.L.K,S:=x.L.S,V:={K:=wrap i64 (BX+1),N:=x.L.V.N,S:=x.L.V.S:aZ}:bU},R:=x.R:bC};let rz:=wrap i64 (wrap i64 (ya+1)+1);let ZG:=wrap i64 (wrap i64 (rz+1)+1);let x6:=x7.modify x0 fun(x:bC)=>{Op:=x.Op,L:={K:=x.L.K,S:=x.L.S,V:={K:=x.L.V.K,N:=ZH,S:=x.L.V.S:aZ}:bU},R:=x.R:bC};let x8:=wrap i64 (ZG+1);let x5:=x6.modify x0 fun(x:bC)=>{Op:=x.Op,L:={K:=x.L.K,S:=x.L.S,V:={K:=x.L.V.K,N:=x.L.V.N,S:=au ya:aZ}:bU},R:=x.R:bC};let x4:=x5.modify x0 fun(x:bC)=>{Op:=x.Op,L:=x.L,R:={K:=wrap i64 (ya+1),S:=x.R.S,V:=x.R.V:bU}:bC};let x3:=x4.modify x0 fun(x:bC)=>{Op:=x.Op,L:=x.L,R:={K:=x.R.K,S:=au rz,V:=x.R.V:bU}:bC};let x2:=x3.modify x0 fun(x:bC)=>{Op:=x.Op,L:=x.L,R:={K:=x.R.K,S:=x.R.S,V:={K:=wrap i64 (rz+1),N:=x.R.V.N,S:=x.R.V.S:aZ}:bU}:bC};let x1:=x2.modify x0 fun(x:bC)=>{Op:=x.Op,L:=x.L,R:={K:=x.R.K,S:=x.R.S,V:={K:=x.R.V.K,N:=ZG,S:=x.R.V.S:aZ}:bU}:bC};zU a k y->bif decide (y.2.2.1<(y.1.length:Int)) then y.2.1<=4611686018427387903/\0<=y.2.2.1/\x0<y.1.length/\x0<y.1.length/\0<=y.2.2.1/\x0<O7.length/\x0<O7.length/\BX<=4611686018427387903/\0<=y.2.2.1/\x0<OM.length/\x0<OM.length/\0<=y.2.2.1/\x0<x9.length/\x0<x9.length/\0<=y.2.2.1/\x0<x7.length/\x0<x7.length/\ya<=4611686018427387903/\0<=y.2.2.1/\x0<x6.length/\x0<x6.length/\0<=y.2.2.1/\x0<x5.length/\x0<x5.length/\rz<=4611686018427387903/\0<=y.2.2.1/\x0<x4.length/\x0<x4.length/\0<=y.2.2.1/\x0<x3.length/\x0<x3.length/\0<=y.2.2.1/\x0<x2.length/\x0<x2.length/\x8<=4611686018427387903/\0<=y.2.2.1/\x0<x1.length/\x0<x1.length/\zU a k (x1.modify x0 fun(x:bC)=>{Op:=x.Op,L:=x.L,R:={K:=x.R.K,S:=x.R.S,V:={K:=x.R.V.K,N:=x.R.V.N,S:=au x8:aZ}:bU}:bC},wrap i64 (x8+1),wrap i64 (y.2.2.1+1),())/\y_ a k (x1.modify x0 fun(x:bC)=>{Op:=x.Op,L:=x.L,R:={K:=x.R.K,S:=x.R.S,V:={K:=x.R.V.K,N:=x.R.V.N,S:=au x8:aZ}:bU}:bC},wrap i64 (x8+1),wrap i64 (y.2.2.1+1),())<y_ a k y else fz [VI y.2.1]=fz [VI (k+(↑(kP a):Int))]/\fz [VL .fc y.1]=fz [VL .fc (sI a k)])
 dsimp only
 refine⟨⟨by omega,by omega,by simp,by simp[eI]⟩,?_⟩
 rintro⟨row,kk,i,⟨⟩⟩ ⟨h1,h2,rfl,rfl⟩
 simp only
 have hl:=nM mJ il a k h1 h2
 refine aa ?_ ?_<;>intro hc
 ·have hc:i<a.length:=by have hc:=yT hc;omega
  have ky:=dB il a ke h1 hc
  have hle:=cm il a (i+1).toNat
  have hg:=fC _ a ke (mH mJ il a k h1 h2) h1 hc
  have hM:=fun F hF=>jB mJ il a ke k (i:=i) F h1 hc hF
  have hq:(kP a:Int)=eI il a:=rfl
  generalize List.getD a i.toNat ke=x at*
  generalize lT:k+(eI il (a.take i.toNat):Int)=kk at*
  generalize List.take i.toNat (gx mJ il a k)++a.drop i.toNat=R at*
  simp only[il] at ky
  simp(disch:=first|omega|(simp only[sz];omega)) only[sz,wrap_i64,getD_modify,cw,hg,hl]
  repeat' (first|refine And.intro (by omega) ?_|fail)
  exact⟨⟨by omega,by omega,hM _ (by first|rfl|(simp only[mJ,gI];rw[Hx (by omega)];rfl)),by omega⟩,by simp only[y_];omega⟩
 ·have hc:a.length<=i:=by have hc:=yF hc;omega
  rw[jf mJ il a k hc,eW il a hc]
  exact⟨rfl,rfl⟩
def aer:=bB (α:=cC×Int) (qC (qA .nR) (q1 qI)) [.ro,.ro] (fun(a,left)=>[0<=left]) (fun(a,left)=>⟨[dI (dR left (ib a))],[],[]⟩)
def agF:HH:=hF aer func197 [afZ] a0 fun x hp hb=>by
 obtain⟨a,left⟩:=x
 have bj:=JD (x:=a) (hb _ m0)
 have hH:=bj.1
 have pM:=bj.2.1
 have pK:=bj.2.2
 have cp:=iK (n:=left) (hb _ m1)
 have bD:0<=left:=hp _ m0
 clear hp hb
 apply vE (let x1:=wrap i64 (left-(↑(a.Name.size):Int));let x0:=wrap i64 (dR x1 (jr a.aU)-(↑(a.cq.size):Int));let q0:=Li (-1) (dR left (ib a));bif decide (x1<0) then q0 else 0<=x1/\bif decide (dR x1 (jr a.aU)<0) then q0 else bif decide (x0<0) then q0 else Li x0 (dR left (ib a)))
 dsimp only
 rw[wi]
 refine aa (fun h=>cR (b_ ?_)) (fun h=> ?_)
 ·have h:=yT h;simp only[ib];omega
 have h0:=yF h
 refine⟨by omega,aa (fun h=>cR (b_ ?_)) (fun h=> ?_)⟩
 ·have h:=eh h;simp only[ib];omega
 obtain⟨e1,h1⟩:=dH h
 rw[e1]
 rw[wi]
 refine aa (fun h=>cR (b_ ?_)) (fun h=> ?_)
 ·have h:=yT h;simp only[ib];omega
 have h2:=yF h
 exact cR (by rw[<-gQ (by simp only[ib];omega)];simp only[ib];try omega)
def aeg:=bB (α:=cC) (q1 (qA .nR)) [.ro] (fun a=>[L4 (ib a)]) (fun a=>⟨[dA .fV a],[],[]⟩)
def agr:HH:=hF aeg func215 [afN] a0 fun(a:cC) hp hb=>by
 have bj:=JD (x:=a) (hb _ m0)
 have hH:=bj.1
 have pM:=bj.2.1
 have pK:=bj.2.2
 have bD:ib a<=4294967296:=hp _ m0
 clear hp hb
 apply vE (jr a.aU<=4294967296/\Lf [DV.agg [CI a.Kind,CS a.Name,CL .fc a.aU,CI a.N,CS a.cq]] [DV.agg [CI a.Kind,CS a.Name,CL .fc a.aU,CI a.N,CS a.cq]])
 simp only[ib] at bD
 repeat' (first|exact aH _|(refine And.intro (by omega) ?_))
def adZ:=bB (α:=cC×cC) (qC (qA .fV) (q1 (qA .fV))) [.ro,.ro] (fun _=>[]) (fun(a,b)=>⟨[dO (decide (a=b))],[],[]⟩)
def af1:HH:=hF adZ func248 [afE] a0 fun x hp hb=>by
 obtain⟨a,b⟩:=x
 have bj:=JG (x:=a) (hb _ m0)
 have hH:=bj.1
 have pM:=bj.2.1
 have pK:=bj.2.2
 have er:=JG (x:=b) (hb _ m1)
 have w4:=er.1
 have KJ:=er.2.1
 have KH:=er.2.2
 clear hp hb
 apply vE (let q0:=Lb false (decide (a=b));bif a.Kind !=b.Kind then q0 else bif !a.Name.toList==b.Name.toList then q0 else bif !decide (a.aU=b.aU) then q0 else bif a.N !=b.N then q0 else bif !a.cq.toList==b.cq.toList then q0 else Lb true (decide (a=b)))
 dsimp only
 obtain⟨SR,Od,acv,aN,acu⟩:=a
 obtain⟨SO,N6,acm,bN,ack⟩:=b
 repeat' (apply aa<;>intro _)
 all_goals (first|apply ol|apply mV)<;>simp_all
def T':=bB (α:=(List cC)×Int) (qC (qL .nR) (q1 qI)) [.ro,.ro] (fun(a,left)=>[0<=left]) (fun(a,left)=>⟨[dI (dR left (kC a))],[],[]⟩)
def RH(a:List cC)(left:Int):Int×Int×Unit->Prop:=Hz ib a (kC a) left
def Ri(a:List cC)(left:Int):Int×Int×Unit->Nat:=tK a
def aiU:AX T':=fun(a,left)=>bh [(5,aB [iI 1,iI 5] (fun _=>RH a left) (Ri a left))]
def ahm:HH:=hF T' func130 [agF] aiU fun x hp hb=>by
 obtain⟨a,left⟩:=x
 have cF:L9 a.length:=eY (hb _ m0)
 have cp:=iK (n:=left) (hb _ m1)
 have bD:0<=left:=hp _ m0
 clear hp hb
 apply vE (HL ib fK a (kC a) left)
 exact l6 rfl bD cp cF
def TQ:=bB (α:=List cC) (q1 (qL .nR)) [.ro] (fun a=>[L4 (kC a)]) (fun a=>⟨[dL .fV a],[],[]⟩)
def RC(a:List cC):List cC×Int×Unit->Prop:=Hy fK a
def Re(a:List cC):List cC×Int×Unit->Nat:=tK a
def aiJ:AX TQ:=fun a=>bh [(3,aB [iO 3 .fV,iI 4] (fun _=>RC a) (Re a))]
def ag6:HH:=hF TQ func156 [agr] aiJ fun(a:List cC) hp hb=>by
 have cF:L9 a.length:=eY (hb _ m0)
 have bD:kC a<=4294967296:=hp _ m0
 clear hp hb
 apply vE (I5 ib fK a fun y=>Lf [.one (.sl .fV y)] [.one (.sl .fV a)])
 exact l5 bD (aH _)
def TB:=bB (α:=(List cC)×(List cC)) (qC (qL .fV) (q1 (qL .fV))) [.ro,.ro] (fun _=>[]) (fun(a,b)=>⟨[dO (decide (a=b))],[],[]⟩)
def Rv(a:List cC)(b:List cC):Int×Unit->Prop:=GF a b
def Q9(a:List cC)(b:List cC):Int×Unit->Nat:=FX a
def aiu:AX TB:=fun(a,b)=>bh [(4,aB [iI 5] (fun _=>Rv a b) (Q9 a b))]
def agK:HH:=hF TB func192 [af1] aiu fun x hp hb=>by
 obtain⟨a,b⟩:=x
 have cF:L9 a.length:=eY (hb _ m0)
 have tG:L9 b.length:=eY (hb _ m1)
 clear hp hb
 apply vE (HG fK a b)
 exact lx cF
def Uh:=bB (α:=(List cC)×Int) (qC (qL .fV) (q1 qI)) [.wr,.ro] (fun(a,k)=>[0<=k,k+oV a<=4611686018427387904]) (fun(a,k)=>⟨[dI (k+oV a)],[],[dL .fV (r_ a k)]⟩)
def Al(a:List cC)(k:Int):List cC×Int×Int×Unit->Prop:=fun(row,kk,i,_)=>0<=i/\i<=a.length/\row=(gx oG jZ a k).take i.toNat++a.drop i.toNat/\kk=k+eI jZ (a.take i.toNat)
def zt(a:List cC)(k:Int):List cC×Int×Int×Unit->Nat:=fun(row,kk,i,_)=>a.length-i.toNat
def ai3:AX Uh:=fun(a,k)=>bh [(2,aB [.slot 0 (2000000,0) (.own .fV true),iI 1,iI 5] (fun _=>Al a k) (zt a k))]
def ahv:HH:=hF Uh func121 [pV,agI] ai3 fun x hp hb=>by
 obtain⟨a,k⟩:=x
 have cF:L9 a.length:=eY (hb _ m0)
 have lc:=iK (n:=k) (hb _ m1)
 have bD:0<=k:=hp _ m0
 have gb:k+oV a<=4611686018427387904:=hp _ m1
 clear hp hb
 apply vE (Al a k (a,k,0,())/\∀(y:List cC×Int×Int×PUnit),let x3:=y.2.2.1.toNat;let x7:=wrap i64 (y.2.1+1);let x8:=y.1.modify x3 fun(x:cC)=>{Kind:=y.2.1,Name:=x.Name,aU:=x.aU,N:=x.N,cq:=x.cq:cC};let x5:=x8.modify x3 fun(x:cC)=>{Kind:=x.Kind,Name:=au x7,aU:=x.aU,N:=x.N,cq:=x.cq:cC};let x6:=wrap i64 (x7+1);let x2:=x6+(↑(kP (x5.getD x3 fK).aU):Int);let x4:=x5.modify x3 fun(x:cC)=>{Kind:=x.Kind,Name:=x.Name,aU:=sI (x5.getD x3 fK).aU x6,N:=x.N,cq:=x.cq:cC};let x0:=x4.modify x3 fun(x:cC)=>{Kind:=x.Kind,Name:=x.Name,aU:=x.aU,N:=x2,cq:=x.cq:cC};let x1:=wrap i64 (x2+1);Al a k y->bif decide (y.2.2.1<(y.1.length:Int)) then 0<=y.2.2.1/\x3<y.1.length/\x3<y.1.length/\x7<=4611686018427387903/\0<=y.2.2.1/\x3<x8.length/\x3<x8.length/\0<=y.2.2.1/\x3<x5.length/\x3<x5.length/\x3<x5.length/\0<=x6/\x2<=4611686018427387904/\0<=y.2.2.1/\x3<x4.length/\x3<x4.length/\x1<=4611686018427387903/\0<=y.2.2.1/\x3<x0.length/\x3<x0.length/\Al a k (x0.modify x3 fun(x:cC)=>{Kind:=x.Kind,Name:=x.Name,aU:=x.aU,N:=x.N,cq:=au x1:cC},wrap i64 (x1+1),wrap i64 (y.2.2.1+1),())/\zt a k (x0.modify x3 fun(x:cC)=>{Kind:=x.Kind,Name:=x.Name,aU:=x.aU,N:=x.N,cq:=au x1:cC},wrap i64 (x1+1),wrap i64 (y.2.2.1+1),())<zt a k y else fz [VI y.2.1]=fz [VI (k+(↑(oV a):Int))]/\fz [VL .fV y.1]=fz [VL .fV (r_ a k)])
 dsimp only
 refine⟨⟨by omega,by omega,by simp,by simp[eI]⟩,?_⟩
 rintro⟨row,kk,i,⟨⟩⟩ ⟨h1,h2,rfl,rfl⟩
 simp only
 have hl:=nM oG jZ a k h1 h2
 refine aa ?_ ?_<;>intro hc
 ·have hc:i<a.length:=by have hc:=yT hc;omega
  have ky:=dB jZ a fK h1 hc
  have hle:=cm jZ a (i+1).toNat
  have hg:=fC _ a fK (mH oG jZ a k h1 h2) h1 hc
  have hM:=fun F hF=>jB oG jZ a fK k (i:=i) F h1 hc hF
  have hq:(oV a:Int)=eI jZ a:=rfl
  generalize List.getD a i.toNat fK=x at*
  generalize lT:k+(eI jZ (a.take i.toNat):Int)=kk at*
  generalize List.take i.toNat (gx oG jZ a k)++a.drop i.toNat=R at*
  simp only[jZ] at ky
  simp(disch:=first|omega|(simp only[sz];omega)) only[sz,wrap_i64,getD_modify,cw,hg,hl]
  repeat' (first|refine And.intro (by omega) ?_|fail)
  exact⟨⟨by omega,by omega,hM _ (by first|rfl|(simp only[oG,gI];rw[Hx (by omega)];rfl)),by omega⟩,by simp only[zt];omega⟩
 ·have hc:a.length<=i:=by have hc:=yF hc;omega
  rw[jf oG jZ a k hc,eW jZ a hc]
  exact⟨rfl,rfl⟩
def ank:=bB (α:=aM×Int) (qC (qA .jP) (q1 qI)) [.ro,.ro] (fun(a,left)=>[0<=left]) (fun(a,left)=>⟨[dI (dR left (dy a))],[],[]⟩)
def an9:HH:=hF ank func61 [aho,ahn,ahm] a0 fun x hp hb=>by
 obtain⟨a,left⟩:=x
 have bj:=G5 (x:=a) (hb _ m0)
 have hH:=bj.1
 have CP:=bj.2.1
 have Bi:=bj.2.2.1
 have CQ:=bj.2.2.2
 have cp:=iK (n:=left) (hb _ m1)
 have bD:0<=left:=hp _ m0
 clear hp hb
 apply vE (let x2:=wrap i64 (left-(↑(a.Name.size):Int));let x1:=dR x2 (iM a.aG);let x0:=dR x1 (j7 a.bO);let q0:=Li (-1) (dR left (dy a));bif decide (x2<0) then q0 else 0<=x2/\bif decide (x1<0) then q0 else 0<=x1/\bif decide (x0<0) then q0 else 0<=x0/\bif decide (dR x0 (kC a.cA)<0) then q0 else Li (dR x0 (kC a.cA)) (dR left (dy a)))
 dsimp only
 rw[wi]
 refine aa (fun h=>cR (b_ ?_)) (fun h=> ?_)
 ·have h:=yT h;simp only[dy];omega
 have h0:=yF h
 refine⟨by omega,aa (fun h=>cR (b_ ?_)) (fun h=> ?_)⟩
 ·have h:=eh h;simp only[dy];omega
 obtain⟨e1,h1⟩:=dH h
 rw[e1]
 refine⟨by omega,aa (fun h=>cR (b_ ?_)) (fun h=> ?_)⟩
 ·have h:=eh h;simp only[dy];omega
 obtain⟨e2,h2⟩:=dH h
 rw[e2]
 refine⟨by omega,aa (fun h=>cR (b_ ?_)) (fun h=> ?_)⟩
 ·have h:=eh h;simp only[dy];omega
 obtain⟨e3,h3⟩:=dH h
 rw[e3]
 exact cR (by rw[<-gQ (by simp only[dy];omega)];simp only[dy];try omega)
def anb:=bB (α:=aM) (q1 (qA .jP)) [.ro] (fun a=>[L4 (dy a)]) (fun a=>⟨[dA .cy a],[],[]⟩)
def anP:HH:=hF anb func86 [ag8,ag7,ag6] a0 fun(a:aM) hp hb=>by
 have bj:=G5 (x:=a) (hb _ m0)
 have hH:=bj.1
 have CP:=bj.2.1
 have Bi:=bj.2.2.1
 have CQ:=bj.2.2.2
 have bD:dy a<=4294967296:=hp _ m0
 clear hp hb
 apply vE (iM a.aG<=4294967296/\L4 (j7 a.bO)/\L4 (kC a.cA)/\Lf [DV.agg [CS a.Name,CI a.pt,CL .fU a.aG,CL .de a.bO,CL .fV a.cA]] [DV.agg [CS a.Name,CI a.pt,CL .fU a.aG,CL .de a.bO,CL .fV a.cA]])
 simp only[dy] at bD
 repeat' (first|exact aH _|(refine And.intro (by omega) ?_))
def ae6:=bB (α:=aM×aM) (qC (qA .cy) (q1 (qA .cy))) [.ro,.ro] (fun _=>[]) (fun(a,b)=>⟨[dO (decide (a=b))],[],[]⟩)
def ahy:HH:=hF ae6 func118 [agM,agL,agK] a0 fun x hp hb=>by
 obtain⟨a,b⟩:=x
 have bj:=mR (x:=a) (hb _ m0)
 have hH:=bj.1
 have CP:=bj.2.1
 have Bi:=bj.2.2.1
 have CQ:=bj.2.2.2
 have er:=mR (x:=b) (hb _ m1)
 have w4:=er.1
 have Zi:=er.2.1
 have XB:=er.2.2.1
 have Zj:=er.2.2.2
 clear hp hb
 apply vE (let q0:=Lb false (decide (a=b));bif !a.Name.toList==b.Name.toList then q0 else bif a.pt !=b.pt then q0 else bif !decide (a.aG=b.aG) then q0 else bif !decide (a.bO=b.bO) then q0 else bif !decide (a.cA=b.cA) then q0 else Lb true (decide (a=b)))
 dsimp only
 obtain⟨Od,aqa,apR,am3,apT⟩:=a
 obtain⟨N6,ap6,apN,amN,apP⟩:=b
 repeat' (apply aa<;>intro _)
 all_goals (first|apply ol|apply mV)<;>simp_all
def aez:=bB (α:=(List aM)×Int) (qC (qL .jP) (q1 qI)) [.ro,.ro] (fun(a,left)=>[0<=left]) (fun(a,left)=>⟨[dI (dR left (gB a))],[],[]⟩)
def Y0(a:List aM)(left:Int):Int×Int×Unit->Prop:=Hz dy a (gB a) left
def YI(a:List aM)(left:Int):Int×Int×Unit->Nat:=tK a
def apE:AX aez:=fun(a,left)=>bh [(5,aB [iI 1,iI 5] (fun _=>Y0 a left) (YI a left))]
def aoH:HH:=hF aez func18 [an9] apE fun x hp hb=>by
 obtain⟨a,left⟩:=x
 have cF:L9 a.length:=eY (hb _ m0)
 have cp:=iK (n:=left) (hb _ m1)
 have bD:0<=left:=hp _ m0
 clear hp hb
 apply vE (HL dy cO a (gB a) left)
 exact l6 rfl bD cp cF
def adD:=bB (α:=List aM) (q1 (qL .jP)) [.ro] (fun a=>[L4 (gB a)]) (fun a=>⟨[dL .cy a],[],[]⟩)
def YV(a:List aM):List aM×Int×Unit->Prop:=Hy cO a
def YD(a:List aM):List aM×Int×Unit->Nat:=tK a
def apz:AX adD:=fun a=>bh [(3,aB [iO 3 .cy,iI 4] (fun _=>YV a) (YD a))]
def aoy:HH:=hF adD func29 [anP] apz fun(a:List aM) hp hb=>by
 have cF:L9 a.length:=eY (hb _ m0)
 have bD:gB a<=4294967296:=hp _ m0
 clear hp hb
 apply vE (I5 dy cO a fun y=>Lf [.one (.sl .cy y)] [.one (.sl .cy a)])
 exact l5 bD (aH _)
def adp:=bB (α:=(List aM)×(List aM)) (qC (qL .cy) (q1 (qL .cy))) [.ro,.ro] (fun _=>[]) (fun(a,b)=>⟨[dO (decide (a=b))],[],[]⟩)
def YM(a:List aM)(b:List aM):Int×Unit->Prop:=GF a b
def Yu(a:List aM)(b:List aM):Int×Unit->Nat:=FX a
def apq:AX adp:=fun(a,b)=>bh [(4,aB [iI 5] (fun _=>YM a b) (Yu a b))]
def aoj:HH:=hF adp func46 [ahy] apq fun x hp hb=>by
 obtain⟨a,b⟩:=x
 have cF:L9 a.length:=eY (hb _ m0)
 have tG:L9 b.length:=eY (hb _ m1)
 clear hp hb
 apply vE (HG cO a b)
 exact lx cF
def ado:=bB (α:=(List aM)×Int) (qC (qL .cy) (q1 qI)) [.wr,.ro] (fun(a,k)=>[0<=k,k+ly a<=4611686018427387904]) (fun(a,k)=>⟨[dI (k+ly a)],[],[dL .cy (sH a k)]⟩)
def Fw(a:List aM)(k:Int):List aM×Int×Int×Unit->Prop:=fun(row,kk,i,_)=>0<=i/\i<=a.length/\row=(gx mI ik a k).take i.toNat++a.drop i.toNat/\kk=k+eI ik (a.take i.toNat)
def ET(a:List aM)(k:Int):List aM×Int×Int×Unit->Nat:=fun(row,kk,i,_)=>a.length-i.toNat
def app:AX ado:=fun(a,k)=>bh [(2,aB [.slot 0 (2000000,0) (.own .cy true),iI 1,iI 5] (fun _=>Fw a k) (ET a k))]
def aoi:HH:=hF ado func47 [pV,ahx,ahw,ahv] app fun x hp hb=>by
 obtain⟨a,k⟩:=x
 have cF:L9 a.length:=eY (hb _ m0)
 have lc:=iK (n:=k) (hb _ m1)
 have bD:0<=k:=hp _ m0
 have gb:k+ly a<=4611686018427387904:=hp _ m1
 clear hp hb
 apply vE (Fw a k (a,k,0,())/\∀(y:List aM×Int×Int×PUnit),let x4:=y.2.2.1.toNat;let x7:=y.1.modify x4 fun(x:aM)=>{Name:=au y.2.1,pt:=x.pt,aG:=x.aG,bO:=x.bO,cA:=x.cA:aM};let x8:=wrap i64 (y.2.1+1);let x5:=x7.modify x4 fun(x:aM)=>{Name:=x.Name,pt:=x8,aG:=x.aG,bO:=x.bO,cA:=x.cA:aM};let x6:=wrap i64 (x8+1);let x2:=x5.modify x4 fun(x:aM)=>{Name:=x.Name,pt:=x.pt,aG:=u9 (x5.getD x4 cO).aG x6,bO:=x.bO,cA:=x.cA:aM};let x3:=x6+(↑(my (x5.getD x4 cO).aG):Int);let x0:=x2.modify x4 fun(x:aM)=>{Name:=x.Name,pt:=x.pt,aG:=x.aG,bO:=sJ (x2.getD x4 cO).bO x3,cA:=x.cA:aM};let x1:=x3+(↑(lz (x2.getD x4 cO).bO):Int);let x9:=x1+(↑(oV (x0.getD x4 cO).cA):Int);Fw a k y->bif decide (y.2.2.1<(y.1.length:Int)) then y.2.1<=4611686018427387903/\0<=y.2.2.1/\x4<y.1.length/\x4<y.1.length/\0<=y.2.2.1/\x4<x7.length/\x4<x7.length/\0<=y.2.2.1/\x4<x5.length/\x4<x5.length/\x4<x5.length/\0<=x6/\x3<=4611686018427387904/\0<=y.2.2.1/\x4<x2.length/\x4<x2.length/\x4<x2.length/\0<=x3/\x1<=4611686018427387904/\0<=y.2.2.1/\x4<x0.length/\x4<x0.length/\x4<x0.length/\0<=x1/\x9<=4611686018427387904/\Fw a k (x0.modify x4 fun(x:aM)=>{Name:=x.Name,pt:=x.pt,aG:=x.aG,bO:=x.bO,cA:=r_ (x0.getD x4 cO).cA x1:aM},x9,wrap i64 (y.2.2.1+1),())/\ET a k (x0.modify x4 fun(x:aM)=>{Name:=x.Name,pt:=x.pt,aG:=x.aG,bO:=x.bO,cA:=r_ (x0.getD x4 cO).cA x1:aM},x9,wrap i64 (y.2.2.1+1),())<ET a k y else fz [VI y.2.1]=fz [VI (k+(↑(ly a):Int))]/\fz [VL .cy y.1]=fz [VL .cy (sH a k)])
 dsimp only
 refine⟨⟨by omega,by omega,by simp,by simp[eI]⟩,?_⟩
 rintro⟨row,kk,i,⟨⟩⟩ ⟨h1,h2,rfl,rfl⟩
 simp only
 have hl:=nM mI ik a k h1 h2
 refine aa ?_ ?_<;>intro hc
 ·have hc:i<a.length:=by have hc:=yT hc;omega
  have ky:=dB ik a cO h1 hc
  have hle:=cm ik a (i+1).toNat
  have hg:=fC _ a cO (mH mI ik a k h1 h2) h1 hc
  have hM:=fun F hF=>jB mI ik a cO k (i:=i) F h1 hc hF
  have hq:(ly a:Int)=eI ik a:=rfl
  generalize List.getD a i.toNat cO=x at*
  generalize lT:k+(eI ik (a.take i.toNat):Int)=kk at*
  generalize List.take i.toNat (gx mI ik a k)++a.drop i.toNat=R at*
  simp only[ik] at ky
  simp(disch:=first|omega|(simp only[sz];omega)) only[sz,wrap_i64,getD_modify,cw,hg,hl]
  repeat' (first|refine And.intro (by omega) ?_|fail)
  exact⟨⟨by omega,by omega,hM _ (by first|rfl|(simp only[mI,gI];rw[Hx (by omega)];rfl)),by omega⟩,by simp only[ET];omega⟩
 ·have hc:a.length<=i:=by have hc:=yF hc;omega
  rw[jf mI ik a k hc,eW ik a hc]
  exact⟨rfl,rfl⟩
def Zk4:=bB (α:=cr×Int) (qC (qA .pd) (q1 qI)) [.ro,.ro] (fun(a,left)=>[0<=left]) (fun(a,left)=>⟨[dI (dR left (ct a))],[],[]⟩)
def Zh4:HH:=hF Zk4 func4 [aoH] a0 fun x hp hb=>by
 obtain⟨a,left⟩:=x
 have bj:=Ek (x:=a) (hb _ m0)
 have hH:=bj.1
 have um:=bj.2
 have cp:=iK (n:=left) (hb _ m1)
 have bD:0<=left:=hp _ m0
 clear hp hb
 apply vE (let x0:=wrap i64 (left-(↑(a.Name.size):Int));let q0:=dR left (ct a);bif decide (x0<0) then Li (-1) q0 else 0<=x0/\bif decide (dR x0 (gB a.aT)<0) then Li (-1) q0 else Li (dR x0 (gB a.aT)) q0)
 dsimp only
 rw[wi]
 refine aa (fun h=>cR (b_ ?_)) (fun h=> ?_)
 ·have h:=yT h;simp only[ct];omega
 have h0:=yF h
 refine⟨by omega,aa (fun h=>cR (b_ ?_)) (fun h=> ?_)⟩
 ·have h:=eh h;simp only[ct];omega
 obtain⟨e1,h1⟩:=dH h
 rw[e1]
 exact cR (by rw[<-gQ (by simp only[ct];omega)];simp only[ct];try omega)
def Zk7:=bB (α:=cr) (q1 (qA .pd)) [.ro] (fun a=>[L4 (ct a)]) (fun a=>⟨[dA .kN a],[],[]⟩)
def Zh7:HH:=hF Zk7 func7 [aoy] a0 fun(a:cr) hp hb=>by
 have bj:=Ek (x:=a) (hb _ m0)
 have hH:=bj.1
 have um:=bj.2
 have bD:ct a<=4294967296:=hp _ m0
 clear hp hb
 apply vE (gB a.aT<=4294967296/\Lf [DV.agg [CS a.Name,CL .cy a.aT]] [DV.agg [CS a.Name,CL .cy a.aT]])
 simp only[ct] at bD
 repeat' (first|exact aH _|(refine And.intro (by omega) ?_))
def anE:=bB (α:=cr×cr) (qC (qA .kN) (q1 (qA .kN))) [.ro,.ro] (fun _=>[]) (fun(a,b)=>⟨[dO (decide (a=b))],[],[]⟩)
def aoN:HH:=hF anE func12 [aoj] a0 fun x hp hb=>by
 obtain⟨a,b⟩:=x
 have bj:=lB (x:=a) (hb _ m0)
 have hH:=bj.1
 have um:=bj.2
 have er:=lB (x:=b) (hb _ m1)
 have w4:=er.1
 have Xy:=er.2
 clear hp hb
 apply vE (bif !a.Name.toList==b.Name.toList then Lb false (decide (a=b)) else bif !decide (a.aT=b.aT) then Lb false (decide (a=b)) else Lb true (decide (a=b)))
 obtain⟨Od,amZ⟩:=a
 obtain⟨N6,amJ⟩:=b
 repeat' (apply aa<;>intro _)
 all_goals (first|apply ol|apply mV)<;>simp_all
def anD:=bB (α:=cr×Int) (qC (qA .kN) (q1 qI)) [.wr,.ro] (fun(a,k)=>[0<=k,k+vN a<=4611686018427387904]) (fun(a,k)=>⟨[dI (k+vN a)],[],[dA .kN (Mx a k)]⟩)
def aoM:HH:=hF anD func13 [aoi] a0 fun x hp hb=>by
 obtain⟨a,k⟩:=x
 have bj:=lB (x:=a) (hb _ m0)
 have hH:=bj.1
 have um:=bj.2
 have lc:=iK (n:=k) (hb _ m1)
 have bD:0<=k:=hp _ m0
 have gb:k+vN a<=4611686018427387904:=hp _ m1
 clear hp hb
 apply vE (0<=k/\k+(↑(ly a.aT):Int)<=4611686018427387904/\fz [VI (k+(↑(ly a.aT):Int))]=fz [VI (k+(↑(vN a):Int))]/\fz [DV.agg [CS a.Name,CL .cy (sH a.aT k)]]=fz [DV.agg [CS ((Mx a k).Name),CL .cy (Mx a k).aT]])
 simp only[vN] at gb
 repeat' (first|refine And.intro (by omega) ?_|fail)
 exact⟨by simp only[vN,Int.natCast_add,Int.add_assoc],rfl⟩
def anj:=bB (α:=aE×Int) (qC (qA .gL) (q1 qI)) [.ro,.ro] (fun(a,left)=>[0<=left]) (fun(a,left)=>⟨[dI (dR left (dt a))],[],[]⟩)
def an7:HH:=hF anj func63 [ahk,ahj] a0 fun x hp hb=>by
 obtain⟨a,left⟩:=x
 have bj:=Dh (x:=a) (hb _ m0)
 have Gw:=bj.1
 have Bj:=bj.2
 have cp:=iK (n:=left) (hb _ m1)
 have bD:0<=left:=hp _ m0
 clear hp hb
 apply vE (let x0:=dR (dR left (eM a.li)) (g_ a.dV);let q0:=dR left (dt a);0<=left/\bif decide (dR left (eM a.li)<0) then Li (-1) q0 else 0<=dR left (eM a.li)/\bif decide (x0<0) then Li (-1) q0 else Li x0 q0)
 dsimp only
 refine⟨by omega,aa (fun h=>cR (b_ ?_)) (fun h=> ?_)⟩
 ·have h:=eh h;simp only[dt];omega
 obtain⟨e0,h0⟩:=dH h
 rw[e0]
 refine⟨by omega,aa (fun h=>cR (b_ ?_)) (fun h=> ?_)⟩
 ·have h:=eh h;simp only[dt];omega
 obtain⟨e1,h1⟩:=dH h
 rw[e1]
 exact cR (by rw[<-gQ (by simp only[dt];omega)];simp only[dt];try omega)
def ana:=bB (α:=aE) (q1 (qA .gL)) [.ro] (fun a=>[L4 (dt a)]) (fun a=>⟨[dA .aI a],[],[]⟩)
def anN:HH:=hF ana func88 [ag4,ag3] a0 fun(a:aE) hp hb=>by
 have bj:=Dh (x:=a) (hb _ m0)
 have Gw:=bj.1
 have Bj:=bj.2
 have bD:dt a<=4294967296:=hp _ m0
 clear hp hb
 apply vE (eM a.li<=4294967296/\L4 (g_ a.dV)/\Lf [DV.agg [CI a.gF,CL .int a.li,CL .dG a.dV]] [DV.agg [CI a.gF,CL .int a.li,CL .dG a.dV]])
 simp only[dt] at bD
 repeat' (first|exact aH _|(refine And.intro (by omega) ?_))
def ae_:=bB (α:=aE×aE) (qC (qA .aI) (q1 (qA .aI))) [.ro,.ro] (fun _=>[]) (fun(a,b)=>⟨[dO (decide (a=b))],[],[]⟩)
def ahC:HH:=hF ae_ func113 [agP,agO] a0 fun x hp hb=>by
 obtain⟨a,b⟩:=x
 have bj:=Dj (x:=a) (hb _ m0)
 have Gw:=bj.1
 have Bj:=bj.2
 have er:=Dj (x:=b) (hb _ m1)
 have abT:=er.1
 have XC:=er.2
 clear hp hb
 apply vE (let q0:=Lb false (decide (a=b));bif a.gF !=b.gF then q0 else bif !decide (a.li=b.li) then q0 else bif !decide (a.dV=b.dV) then q0 else Lb true (decide (a=b)))
 dsimp only
 obtain⟨apQ,aqc,am4⟩:=a
 obtain⟨apM,ap9,amO⟩:=b
 repeat' (apply aa<;>intro _)
 all_goals (first|apply ol|apply mV)<;>simp_all
def aep:=bB (α:=(List aE)×Int) (qC (qL .gL) (q1 qI)) [.ro,.ro] (fun(a,left)=>[0<=left]) (fun(a,left)=>⟨[dI (dR left (cQ a))],[],[]⟩)
def YZ(a:List aE)(left:Int):Int×Int×Unit->Prop:=Hz dt a (cQ a) left
def YH(a:List aE)(left:Int):Int×Int×Unit->Nat:=tK a
def apD:AX aep:=fun(a,left)=>bh [(5,aB [iI 1,iI 5] (fun _=>YZ a left) (YH a left))]
def aoF:HH:=hF aep func20 [an7] apD fun x hp hb=>by
 obtain⟨a,left⟩:=x
 have cF:L9 a.length:=eY (hb _ m0)
 have cp:=iK (n:=left) (hb _ m1)
 have bD:0<=left:=hp _ m0
 clear hp hb
 apply vE (HL dt cj a (cQ a) left)
 exact l6 rfl bD cp cF
def adx:=bB (α:=List aE) (q1 (qL .gL)) [.ro] (fun a=>[L4 (cQ a)]) (fun a=>⟨[dL .aI a],[],[]⟩)
def YU(a:List aE):List aE×Int×Unit->Prop:=Hy cj a
def YC(a:List aE):List aE×Int×Unit->Nat:=tK a
def apy:AX adx:=fun a=>bh [(3,aB [iO 3 .aI,iI 4] (fun _=>YU a) (YC a))]
def aow:HH:=hF adx func31 [anN] apy fun(a:List aE) hp hb=>by
 have cF:L9 a.length:=eY (hb _ m0)
 have bD:cQ a<=4294967296:=hp _ m0
 clear hp hb
 apply vE (I5 dt cj a fun y=>Lf [.one (.sl .aI y)] [.one (.sl .aI a)])
 exact l5 bD (aH _)
def adt:=bB (α:=(List aE)×(List aE)) (qC (qL .aI) (q1 (qL .aI))) [.ro,.ro] (fun _=>[]) (fun(a,b)=>⟨[dO (decide (a=b))],[],[]⟩)
def YQ(a:List aE)(b:List aE):Int×Unit->Prop:=GF a b
def Yy(a:List aE)(b:List aE):Int×Unit->Nat:=FX a
def apu:AX adt:=fun(a,b)=>bh [(4,aB [iI 5] (fun _=>YQ a b) (Yy a b))]
def aoo:HH:=hF adt func41 [ahC] apu fun x hp hb=>by
 obtain⟨a,b⟩:=x
 have cF:L9 a.length:=eY (hb _ m0)
 have tG:L9 b.length:=eY (hb _ m1)
 clear hp hb
 apply vE (HG cj a b)
 exact lx cF
def adn:=bB (α:=(List aE)×Int) (qC (qL .aI) (q1 qI)) [.wr,.ro] (fun(a,k)=>[0<=k,k+cX a<=4611686018427387904]) (fun(a,k)=>⟨[dI (k+cX a)],[],[dL .aI (fw a k)]⟩)
def Fv(a:List aE)(k:Int):List aE×Int×Int×Unit->Prop:=fun(row,kk,i,_)=>0<=i/\i<=a.length/\row=(gx eO cJ a k).take i.toNat++a.drop i.toNat/\kk=k+eI cJ (a.take i.toNat)
def ES(a:List aE)(k:Int):List aE×Int×Int×Unit->Nat:=fun(row,kk,i,_)=>a.length-i.toNat
def apo:AX adn:=fun(a,k)=>bh [(2,aB [.slot 0 (2000000,0) (.own .aI true),iI 1,iI 5] (fun _=>Fv a k) (ES a k))]
def aog:HH:=hF adn func49 [aht,ahs] apo fun x hp hb=>by
 obtain⟨a,k⟩:=x
 have cF:L9 a.length:=eY (hb _ m0)
 have lc:=iK (n:=k) (hb _ m1)
 have bD:0<=k:=hp _ m0
 have gb:k+cX a<=4611686018427387904:=hp _ m1
 clear hp hb
 apply vE (Fv a k (a,k,0,())/\∀(y:List aE×Int×Int×PUnit),let x2:=y.2.2.1.toNat;let x3:=wrap i64 (y.2.1+1);let x4:=y.1.modify x2 fun(x:aE)=>{gF:=y.2.1,li:=x.li,dV:=x.dV:aE};let x0:=x4.modify x2 fun(x:aE)=>{gF:=x.gF,li:=iN (x4.getD x2 cj).li x3,dV:=x.dV:aE};let x1:=x3+(↑(fI (x4.getD x2 cj).li):Int);let x5:=x1+(↑(fk (x0.getD x2 cj).dV):Int);Fv a k y->bif decide (y.2.2.1<(y.1.length:Int)) then 0<=y.2.2.1/\x2<y.1.length/\x2<y.1.length/\0<=y.2.2.1/\x2<x4.length/\x2<x4.length/\x2<x4.length/\0<=x3/\x1<=4611686018427387904/\0<=y.2.2.1/\x2<x0.length/\x2<x0.length/\x2<x0.length/\0<=x1/\x5<=4611686018427387904/\Fv a k (x0.modify x2 fun(x:aE)=>{gF:=x.gF,li:=x.li,dV:=ga (x0.getD x2 cj).dV x1:aE},x5,wrap i64 (y.2.2.1+1),())/\ES a k (x0.modify x2 fun(x:aE)=>{gF:=x.gF,li:=x.li,dV:=ga (x0.getD x2 cj).dV x1:aE},x5,wrap i64 (y.2.2.1+1),())<ES a k y else fz [VI y.2.1]=fz [VI (k+(↑(cX a):Int))]/\fz [VL .aI y.1]=fz [VL .aI (fw a k)])
 dsimp only
 refine⟨⟨by omega,by omega,by simp,by simp[eI]⟩,?_⟩
 rintro⟨row,kk,i,⟨⟩⟩ ⟨h1,h2,rfl,rfl⟩
 simp only
 have hl:=nM eO cJ a k h1 h2
 refine aa ?_ ?_<;>intro hc
 ·have hc:i<a.length:=by have hc:=yT hc;omega
  have ky:=dB cJ a cj h1 hc
  have hle:=cm cJ a (i+1).toNat
  have hg:=fC _ a cj (mH eO cJ a k h1 h2) h1 hc
  have hM:=fun F hF=>jB eO cJ a cj k (i:=i) F h1 hc hF
  have hq:(cX a:Int)=eI cJ a:=rfl
  generalize List.getD a i.toNat cj=x at*
  generalize lT:k+(eI cJ (a.take i.toNat):Int)=kk at*
  generalize List.take i.toNat (gx eO cJ a k)++a.drop i.toNat=R at*
  simp only[cJ] at ky
  simp(disch:=first|omega|(simp only[sz];omega)) only[sz,wrap_i64,getD_modify,cw,hg,hl]
  repeat' (first|refine And.intro (by omega) ?_|fail)
  exact⟨⟨by omega,by omega,hM _ (by first|rfl|(simp only[eO,gI];rw[Hx (by omega)];rfl)),by omega⟩,by simp only[ES];omega⟩
 ·have hc:a.length<=i:=by have hc:=yF hc;omega
  rw[jf eO cJ a k hc,eW cJ a hc]
  exact⟨rfl,rfl⟩
def adh:=bB (α:=(List aE)×Int) (qC (qL .aI) (q1 qI)) [.ro,.ro] (fun(a,k)=>[0<=k,k+cX a<=4611686018427387904]) (fun(a,k)=>⟨[dI (if fw a k=a then k+cX a else-1)],[],[]⟩)
def Fo(a:List aE)(k:Int):Int×Int×Unit->Prop:=fun(kk,i,_)=>0<=i/\i<=a.length/\kk=k+eI cJ (a.take i.toNat)/\(gx eO cJ (a.drop i.toNat) kk=a.drop i.toNat↔gx eO cJ a k=a)
def EM(a:List aE)(k:Int):Int×Int×Unit->Nat:=fun(kk,i,_)=>a.length-i.toNat
def api:AX adh:=fun(a,k)=>bh [(2,aB [iI 1,iI 5] (fun _=>Fo a k) (EM a k))]
def aob:HH:=hF adh func56 [ahq,ahp] api fun x hp hb=>by
 obtain⟨a,k⟩:=x
 have cF:L9 a.length:=eY (hb _ m0)
 have lc:=iK (n:=k) (hb _ m1)
 have bD:0<=k:=hp _ m0
 have gb:k+cX a<=4611686018427387904:=hp _ m1
 clear hp hb
 apply vE (let x0:=(-1);let q0:=if fw a k=a then k+(↑(cX a):Int) else x0;Fo a k (k,0,())/\∀(y:Int×Int×PUnit),let x6:=y.2.1.toNat;let x7:=wrap i64 (y.1+1);let x5:=a.getD x6 cj;let x3:=x5.dV;let x4:=x5.li;let x2:=if iN x4 x7=x4 then x7+(↑(fI x4):Int) else x0;let x1:=if ga x3 x2=x3 then x2+(↑(fk x3):Int) else x0;Fo a k y->bif decide (y.2.1<(a.length:Int)) then 0<=y.2.1/\x6<a.length/\bif x5.gF !=y.1 then Li x0 q0 else 0<=y.2.1/\x6<a.length/\0<=x7/\x7+(↑(fI x4):Int)<=4611686018427387904/\bif decide (x2<0) then Li x0 q0 else 0<=y.2.1/\x6<a.length/\0<=x2/\x2+(↑(fk x3):Int)<=4611686018427387904/\bif decide (x1<0) then Li x0 q0 else Fo a k (x1,wrap i64 (y.2.1+1),())/\EM a k (x1,wrap i64 (y.2.1+1),())<EM a k y else Li y.1 q0)
 dsimp only
 refine⟨⟨by omega,by omega,by simp[eI],by simp⟩,?_⟩
 rintro⟨kk,i,⟨⟩⟩ ⟨h1,h2,lT,hR⟩
 simp only
 simp only[fw]
 refine aa ?_ ?_<;>intro hc
 ·have hc:i<a.length:=by have hc:=yT hc;omega
  have ky:=dB cJ a cj h1 hc
  have hle:=cm cJ a (i+1).toNat
  have hq:(cX a:Int)=eI cJ a:=rfl
  rw[cW a cj h1 hc] at hR
  generalize List.getD a i.toNat cj=x at*
  simp only[gx,Lo] at hR
  have e:kk+(cJ x:Int)=kk+1+(fI x.li:Int)+(fk x.dV:Int):=by first|(simp only[cJ];done)|(simp only[cJ];omega)
  rw[e] at hR
  simp only[eO,cJ] at hR ky
  simp(disch:=omega) only[wrap_i64,nv,bt]
  obtain⟨Lu,Lw,I1⟩:=x
  simp only[aE.mk.injEq] at*
  repeat' (first|refine And.intro (by omega) ?_|fail)
  refine aa (fun h=>e_ (fun hh=> ?_)) (fun h=> ?_)
  ·have hh:=hR.2 hh;simp_all
  have h:Lu=kk:=by simpa using h
  subst Lu
  repeat' (first|refine And.intro (by omega) ?_|fail)
  by_cases hm:iN Lw (kk+1)=Lw
  rotate_left
  ·simp only[if_neg hm];rw[iW (by decide)]
   exact e_ (fun hh=>hm (by have hh:=hR.2 hh;simp_all))
  simp only[if_pos hm]
  refine aa (fun h=>absurd (yT h) (by omega)) (fun h=> ?_)
  simp only[hm] at hR
  clear hm
  repeat' (first|refine And.intro (by omega) ?_|fail)
  by_cases hm:ga I1 (kk+1+fI Lw)=I1
  rotate_left
  ·simp only[if_neg hm];rw[iW (by decide)]
   exact e_ (fun hh=>hm (by have hh:=hR.2 hh;simp_all))
  simp only[if_pos hm]
  refine aa (fun h=>absurd (yT h) (by omega)) (fun h=> ?_)
  simp only[hm] at hR
  clear hm
  exact⟨⟨by omega,by omega,by omega,by simpa using hR⟩,by simp only[EM];omega⟩
 ·have hc:a.length<=i:=by have hc:=yF hc;omega
  rw[bZ a hc] at hR
  exact n9 (hR.1 rfl) (by rw[lT,eW _ _ hc];rfl)
def ano:=bB (α:=ci×ci) (qC (qA .cu) (q1 (qA .cu))) [.ro,.ro] (fun _=>[]) (fun(a,b)=>⟨[dO (decide (a=b))],[],[]⟩)
def aok:HH:=hF ano func45 [Ht] a0 fun x hp hb=>by
 obtain⟨a,b⟩:=x
 have bj:=He (x:=a) (hb _ m0)
 have Bh:=bj.1
 have fa:=bj.2.1
 have dQ:=bj.2.2
 have er:=He (x:=b) (hb _ m1)
 have Nd:=er.1
 have oJ:=er.2.1
 have mq:=er.2.2
 clear hp hb
 apply vE (let q0:=Lb false (decide (a=b));bif !a.Key.toList==b.Key.toList then q0 else bif !decide (a.F=b.F) then q0 else bif a.Try !=b.Try then q0 else Lb true (decide (a=b)))
 dsimp only
 obtain⟨am0,aF,ap_⟩:=a
 obtain⟨amK,bF,ap5⟩:=b
 repeat' (apply aa<;>intro _)
 all_goals (first|apply ol|apply mV)<;>simp_all
def afc:=bB (α:=(List ci)×(List ci)) (qC (qL .cu) (q1 (qL .cu))) [.ro,.ro] (fun _=>[]) (fun(a,b)=>⟨[dO (decide (a=b))],[],[]⟩)
def Y1(a:List ci)(b:List ci):Int×Unit->Prop:=GF a b
def YJ(a:List ci)(b:List ci):Int×Unit->Nat:=FX a
def apH:AX afc:=fun(a,b)=>bh [(4,aB [iI 5] (fun _=>Y1 a b) (YJ a b))]
def aoO:HH:=hF afc func11 [aok] apH fun x hp hb=>by
 obtain⟨a,b⟩:=x
 have cF:L9 a.length:=eY (hb _ m0)
 have tG:L9 b.length:=eY (hb _ m1)
 clear hp hb
 apply vE (HG pz a b)
 exact lx cF
def aeT:=bB (α:=(List ci)×Int) (qC (qL .cu) (q1 qI)) [.wr,.ro] (fun(a,k)=>[0<=k,k+fW a<=4611686018427387904]) (fun(a,k)=>⟨[dI (k+fW a)],[],[dL .cu (iP a k)]⟩)
def Fy(a:List ci)(k:Int):List ci×Int×Int×Unit->Prop:=fun(row,kk,i,_)=>0<=i/\i<=a.length/\row=(gx fQ dn a k).take i.toNat++a.drop i.toNat/\kk=k+eI dn (a.take i.toNat)
def EV(a:List ci)(k:Int):List ci×Int×Int×Unit->Nat:=fun(row,kk,i,_)=>a.length-i.toNat
def apG:AX aeT:=fun(a,k)=>bh [(2,aB [.slot 0 (2000000,0) (.own .cu true),iI 1,iI 5] (fun _=>Fy a k) (EV a k))]
def aoK:HH:=hF aeT func15 [pV,Om] apG fun x hp hb=>by
 obtain⟨a,k⟩:=x
 have cF:L9 a.length:=eY (hb _ m0)
 have lc:=iK (n:=k) (hb _ m1)
 have bD:0<=k:=hp _ m0
 have gb:k+fW a<=4611686018427387904:=hp _ m1
 clear hp hb
 apply vE (Fy a k (a,k,0,())/\∀(y:List ci×Int×Int×PUnit),let x2:=y.2.2.1.toNat;let x5:=wrap i64 (y.2.1+1);let x6:=y.1.modify x2 fun(x:ci)=>{Key:=au y.2.1,F:=x.F,Try:=x.Try:ci};let x3:=x6.modify x2 fun(x:ci)=>{Key:=x.Key,F:={Kind:=au x5,ae:=x.F.ae:aA},Try:=x.Try:ci};let x4:=wrap i64 (x5+1);let x0:=x4+(↑(bI (x3.getD x2 pz).F.ae):Int);let x1:=x3.modify x2 fun(x:ci)=>{Key:=x.Key,F:={Kind:=x.F.Kind,ae:=cx (x3.getD x2 pz).F.ae x4:aA},Try:=x.Try:ci};Fy a k y->bif decide (y.2.2.1<(y.1.length:Int)) then y.2.1<=4611686018427387903/\0<=y.2.2.1/\x2<y.1.length/\x2<y.1.length/\x5<=4611686018427387903/\0<=y.2.2.1/\x2<x6.length/\x2<x6.length/\0<=y.2.2.1/\x2<x3.length/\x2<x3.length/\x2<x3.length/\0<=x4/\x0<=4611686018427387904/\0<=y.2.2.1/\x2<x1.length/\x2<x1.length/\Fy a k (x1.modify x2 fun(x:ci)=>{Key:=x.Key,F:=x.F,Try:=x0:ci},wrap i64 (x0+1),wrap i64 (y.2.2.1+1),())/\EV a k (x1.modify x2 fun(x:ci)=>{Key:=x.Key,F:=x.F,Try:=x0:ci},wrap i64 (x0+1),wrap i64 (y.2.2.1+1),())<EV a k y else fz [VI y.2.1]=fz [VI (k+(↑(fW a):Int))]/\fz [VL .cu y.1]=fz [VL .cu (iP a k)])
 dsimp only
 refine⟨⟨by omega,by omega,by simp,by simp[eI]⟩,?_⟩
 rintro⟨row,kk,i,⟨⟩⟩ ⟨h1,h2,rfl,rfl⟩
 simp only
 have hl:=nM fQ dn a k h1 h2
 refine aa ?_ ?_<;>intro hc
 ·have hc:i<a.length:=by have hc:=yT hc;omega
  have ky:=dB dn a pz h1 hc
  have hle:=cm dn a (i+1).toNat
  have hg:=fC _ a pz (mH fQ dn a k h1 h2) h1 hc
  have hM:=fun F hF=>jB fQ dn a pz k (i:=i) F h1 hc hF
  have hq:(fW a:Int)=eI dn a:=rfl
  generalize List.getD a i.toNat pz=x at*
  generalize lT:k+(eI dn (a.take i.toNat):Int)=kk at*
  generalize List.take i.toNat (gx fQ dn a k)++a.drop i.toNat=R at*
  simp only[dn] at ky
  simp(disch:=first|omega|(simp only[sz];omega)) only[sz,wrap_i64,getD_modify,cw,hg,hl]
  repeat' (first|refine And.intro (by omega) ?_|fail)
  exact⟨⟨by omega,by omega,hM _ (by first|rfl|(simp only[fQ,gI];rw[Hx (by omega)];rfl)),by omega⟩,by simp only[EV];omega⟩
 ·have hc:a.length<=i:=by have hc:=yF hc;omega
  rw[jf fQ dn a k hc,eW dn a hc]
  exact⟨rfl,rfl⟩
def aeG:=bB (α:=(List ci)×Int) (qC (qL .cu) (q1 qI)) [.ro,.ro] (fun(a,k)=>[0<=k,k+fW a<=4611686018427387904]) (fun(a,k)=>⟨[dI (if iP a k=a then k+fW a else-1)],[],[]⟩)
def Fx(a:List ci)(k:Int):Int×Int×Unit->Prop:=fun(kk,i,_)=>0<=i/\i<=a.length/\kk=k+eI dn (a.take i.toNat)/\(gx fQ dn (a.drop i.toNat) kk=a.drop i.toNat↔gx fQ dn a k=a)
def EU(a:List ci)(k:Int):Int×Int×Unit->Nat:=fun(kk,i,_)=>a.length-i.toNat
def apF:AX aeG:=fun(a,k)=>bh [(2,aB [iI 1,iI 5] (fun _=>Fx a k) (EU a k))]
def aoI:HH:=hF aeG func17 [pV,Ol] apF fun x hp hb=>by
 obtain⟨a,k⟩:=x
 have cF:L9 a.length:=eY (hb _ m0)
 have lc:=iK (n:=k) (hb _ m1)
 have bD:0<=k:=hp _ m0
 have gb:k+fW a<=4611686018427387904:=hp _ m1
 clear hp hb
 apply vE (let q0:=if iP a k=a then k+(↑(fW a):Int) else(-1);let q1:=Li (-1) q0;Fx a k (k,0,())/\∀(y:Int×Int×PUnit),let x3:=y.2.1.toNat;let x5:=wrap i64 (y.1+1);let x2:=a.getD x3 pz;let x4:=wrap i64 (x5+1);let x1:=x2.F.ae;let x0:=if cx x1 x4=x1 then x4+(↑(bI x1):Int) else(-1);Fx a k y->bif decide (y.2.1<(a.length:Int)) then 0<=y.2.1/\x3<a.length/\y.1<=4611686018427387903/\bif !x2.Key.toList==(au y.1).toList then q1 else 0<=y.2.1/\x3<a.length/\x5<=4611686018427387903/\bif !x2.F.Kind.toList==(au x5).toList then q1 else 0<=y.2.1/\x3<a.length/\0<=x4/\x4+(↑(bI x1):Int)<=4611686018427387904/\bif decide (x0<0) then q1 else 0<=y.2.1/\x3<a.length/\bif x2.Try !=x0 then q1 else Fx a k (wrap i64 (x0+1),wrap i64 (y.2.1+1),())/\EU a k (wrap i64 (x0+1),wrap i64 (y.2.1+1),())<EU a k y else Li y.1 q0)
 dsimp only
 refine⟨⟨by omega,by omega,by simp[eI],by simp⟩,?_⟩
 rintro⟨kk,i,⟨⟩⟩ ⟨h1,h2,lT,hR⟩
 simp only
 simp only[iP]
 refine aa ?_ ?_<;>intro hc
 ·have hc:i<a.length:=by have hc:=yT hc;omega
  have ky:=dB dn a pz h1 hc
  have hle:=cm dn a (i+1).toNat
  have hq:(fW a:Int)=eI dn a:=rfl
  rw[cW a pz h1 hc] at hR
  generalize List.getD a i.toNat pz=x at*
  simp only[gx,Lo] at hR
  have e:kk+(dn x:Int)=kk+1+1+(bI x.F.ae:Int)+1:=by first|(simp only[dn];done)|(simp only[dn];omega)
  rw[e] at hR
  simp only[fQ,dn] at hR ky
  simp(disch:=omega) only[wrap_i64,nv,bt]
  obtain⟨FM,⟨hU,cL⟩,RX⟩:=x
  simp only[ci.mk.injEq,aA.mk.injEq] at*
  repeat' (first|refine And.intro (by omega) ?_|fail)
  refine aa (fun h=>e_ (fun hh=> ?_)) (fun h=> ?_)
  ·have hh:=hR.2 hh;simp_all
  have h:FM=au (kk):=by simpa using h
  subst FM
  repeat' (first|refine And.intro (by omega) ?_|fail)
  refine aa (fun h=>e_ (fun hh=> ?_)) (fun h=> ?_)
  ·have hh:=hR.2 hh;simp_all
  have h:hU=au (kk+1):=by simpa using h
  subst hU
  repeat' (first|refine And.intro (by omega) ?_|fail)
  by_cases hm:cx cL (kk+1+1)=cL
  rotate_left
  ·simp only[if_neg hm];rw[iW (by decide)]
   exact e_ (fun hh=>hm (by have hh:=hR.2 hh;simp_all))
  simp only[if_pos hm]
  refine aa (fun h=>absurd (yT h) (by omega)) (fun h=> ?_)
  simp only[hm] at hR
  clear hm
  repeat' (first|refine And.intro (by omega) ?_|fail)
  refine aa (fun h=>e_ (fun hh=> ?_)) (fun h=> ?_)
  ·have hh:=hR.2 hh;simp_all
  have h:RX=kk+1+1+bI cL:=by simpa using h
  subst RX
  exact⟨⟨by omega,by omega,by omega,by simpa using hR⟩,by simp only[EU];omega⟩
 ·have hc:a.length<=i:=by have hc:=yF hc;omega
  rw[bZ a hc] at hR
  exact n9 (hR.1 rfl) (by rw[lT,eW _ _ hc];rfl)
def Zk5:=bB (α:=aj×Int) (qC (qA .kG) (q1 qI)) [.ro,.ro] (fun(a,left)=>[0<=left]) (fun(a,left)=>⟨[dI (dR left (bQ a))],[],[]⟩)
def Zh5:HH:=hF Zk5 func5 [aoG,aoF,aoE,aoD,aoC] a0 fun x hp hb=>by
 obtain⟨a,left⟩:=x
 have bj:=BH (x:=a) (hb _ m0)
 have ns:=bj.1
 have ql:=bj.2.1
 have qj:=bj.2.2.1
 have oK:=bj.2.2.2.1
 have qi:=bj.2.2.2.2
 have cp:=iK (n:=left) (hb _ m1)
 have bD:0<=left:=hp _ m0
 clear hp hb
 apply vE (let x2:=dR (dR left (dr a.S)) (cQ a.av);let x1:=dR x2 (bz a.ai);let x0:=dR x1 (ca a.ah);let q0:=Li (-1) (dR left (bQ a));0<=left/\bif decide (dR left (dr a.S)<0) then q0 else 0<=dR left (dr a.S)/\bif decide (x2<0) then q0 else 0<=x2/\bif decide (x1<0) then q0 else 0<=x1/\bif decide (x0<0) then q0 else 0<=x0/\bif decide (dR x0 (bx a.ao)<0) then q0 else Li (dR x0 (bx a.ao)) (dR left (bQ a)))
 dsimp only
 refine⟨by omega,aa (fun h=>cR (b_ ?_)) (fun h=> ?_)⟩
 ·have h:=eh h;simp only[bQ];omega
 obtain⟨e0,h0⟩:=dH h
 rw[e0]
 refine⟨by omega,aa (fun h=>cR (b_ ?_)) (fun h=> ?_)⟩
 ·have h:=eh h;simp only[bQ];omega
 obtain⟨e1,h1⟩:=dH h
 rw[e1]
 refine⟨by omega,aa (fun h=>cR (b_ ?_)) (fun h=> ?_)⟩
 ·have h:=eh h;simp only[bQ];omega
 obtain⟨e2,h2⟩:=dH h
 rw[e2]
 refine⟨by omega,aa (fun h=>cR (b_ ?_)) (fun h=> ?_)⟩
 ·have h:=eh h;simp only[bQ];omega
 obtain⟨e3,h3⟩:=dH h
 rw[e3]
 refine⟨by omega,aa (fun h=>cR (b_ ?_)) (fun h=> ?_)⟩
 ·have h:=eh h;simp only[bQ];omega
 obtain⟨e4,h4⟩:=dH h
 rw[e4]
 exact cR (by rw[<-gQ (by simp only[bQ];omega)];simp only[bQ];try omega)
def Zk8:=bB (α:=aj) (q1 (qA .kG)) [.ro] (fun a=>[L4 (bQ a)]) (fun a=>⟨[dA .cz a],[],[]⟩)
def Zh8:HH:=hF Zk8 func8 [aox,aow,aov,aou,aot] a0 fun(a:aj) hp hb=>by
 have bj:=BH (x:=a) (hb _ m0)
 have ns:=bj.1
 have ql:=bj.2.1
 have qj:=bj.2.2.1
 have oK:=bj.2.2.2.1
 have qi:=bj.2.2.2.2
 have bD:bQ a<=4294967296:=hp _ m0
 clear hp hb
 apply vE (dr a.S<=4294967296/\L4 (cQ a.av)/\L4 (bz a.ai)/\L4 (ca a.ah)/\L4 (bx a.ao)/\Lf [DV.agg (br a)] [DV.agg (br a)])
 simp only[bQ] at bD
 repeat' (first|exact aH _|(refine And.intro (by omega) ?_))
def anF:=bB (α:=aj×aj) (qC (qA .cz) (q1 (qA .cz))) [.ro,.ro] (fun _=>[]) (fun(a,b)=>⟨[dO (decide (a=b))],[],[]⟩)
def aoP:HH:=hF anF func10 [aop,aoo,aon,aom,aol] a0 fun x hp hb=>by
 obtain⟨a,b⟩:=x
 have bj:=kQ (x:=a) (hb _ m0)
 have ns:=bj.1
 have ql:=bj.2.1
 have qj:=bj.2.2.1
 have oK:=bj.2.2.2.1
 have qi:=bj.2.2.2.2
 have er:=kQ (x:=b) (hb _ m1)
 have Qu:=er.1
 have XA:=er.2.1
 have Xw:=er.2.2.1
 have Sr:=er.2.2.2.1
 have Xv:=er.2.2.2.2
 clear hp hb
 apply vE (let q0:=Lb false (decide (a=b));bif !decide (a.S=b.S) then q0 else bif !decide (a.av=b.av) then q0 else bif !decide (a.ai=b.ai) then q0 else bif !decide (a.ah=b.ah) then q0 else bif !decide (a.ao=b.ao) then q0 else bif a.State !=b.State then q0 else bif a.ez !=b.ez then q0 else Lb true (decide (a=b)))
 dsimp only
 obtain⟨aS,am2,amY,aji,amW,Yp,qM⟩:=a
 obtain⟨bS,amM,amI,ajg,amG,Yn,ap7⟩:=b
 repeat' (apply aa<;>intro _)
 all_goals (first|apply ol|apply mV)<;>simp_all
def anC:=bB (α:=aj×Int) (qC (qA .cz) (q1 qI)) [.wr,.ro] (fun(a,k)=>[0<=k,k+gW a<=4611686018427387904]) (fun(a,k)=>⟨[dI (k+gW a)],[],[dA .cz (jg a k)]⟩)
def aoL:HH:=hF anC func14 [aoh,aog,aof,aoe,aod] a0 fun x hp hb=>by
 obtain⟨a,k⟩:=x
 have bj:=kQ (x:=a) (hb _ m0)
 have ns:=bj.1
 have ql:=bj.2.1
 have qj:=bj.2.2.1
 have oK:=bj.2.2.2.1
 have qi:=bj.2.2.2.2
 have lc:=iK (n:=k) (hb _ m1)
 have bD:0<=k:=hp _ m0
 have gb:k+gW a<=4611686018427387904:=hp _ m1
 clear hp hb
 apply vE (let x3:=k+(↑(dz a.S):Int);let x2:=x3+(↑(cX a.av):Int);let x1:=x2+(↑(ec a.ai):Int);let x0:=x1+(↑(d_ a.ah):Int);0<=k/\x3<=4611686018427387904/\0<=x3/\x2<=4611686018427387904/\0<=x2/\x1<=4611686018427387904/\0<=x1/\x0<=4611686018427387904/\0<=x0/\x0+(↑(fi a.ao):Int)<=4611686018427387904/\fz [VI (x0+(↑(fi a.ao):Int))]=fz [VI (k+(↑(gW a):Int))]/\fz [DV.agg [CL .aP (iG a.S k).ab,CI a.S.Next,CL .aI (fw a.av x3),CL .aw (f_ a.ai x2),CL .ax (fv a.ah x1),CL .aW (gC a.ao x0),CI a.State,CI a.ez]]=fz [DV.agg (br (jg a k))])
 dsimp only
 simp only[gW] at gb
 repeat' (first|refine And.intro (by omega) ?_|fail)
 exact⟨by simp only[gW,Int.natCast_add,Int.add_assoc],rfl⟩
def anB:=bB (α:=aj×Int) (qC (qA .cz) (q1 qI)) [.ro,.ro] (fun(a,k)=>[0<=k,k+gW a<=4611686018427387904]) (fun(a,k)=>⟨[dI (if jg a k=a then k+gW a else-1)],[],[]⟩)
def aoJ:HH:=hF anB func16 [aoc,aob,aoa,an_,an'] a0 fun x hp hb=>by
 obtain⟨a,k⟩:=x
 have bj:=kQ (x:=a) (hb _ m0)
 have ns:=bj.1
 have ql:=bj.2.1
 have qj:=bj.2.2.1
 have oK:=bj.2.2.2.1
 have qi:=bj.2.2.2.2
 have lc:=iK (n:=k) (hb _ m1)
 have bD:0<=k:=hp _ m0
 have gb:k+gW a<=4611686018427387904:=hp _ m1
 clear hp hb
 apply vE (let x5:=(-1);let x4:=if iG a.S k=a.S then k+(↑(dz a.S):Int) else x5;let x3:=if fw a.av x4=a.av then x4+(↑(cX a.av):Int) else x5;let x2:=if f_ a.ai x3=a.ai then x3+(↑(ec a.ai):Int) else x5;let x1:=if fv a.ah x2=a.ah then x2+(↑(d_ a.ah):Int) else x5;let x0:=if gC a.ao x1=a.ao then x1+(↑(fi a.ao):Int) else x5;let q0:=if jg a k=a then k+(↑(gW a):Int) else x5;0<=k/\k+(↑(dz a.S):Int)<=4611686018427387904/\bif decide (x4<0) then Li x5 q0 else 0<=x4/\x4+(↑(cX a.av):Int)<=4611686018427387904/\bif decide (x3<0) then Li x5 q0 else 0<=x3/\x3+(↑(ec a.ai):Int)<=4611686018427387904/\bif decide (x2<0) then Li x5 q0 else 0<=x2/\x2+(↑(d_ a.ah):Int)<=4611686018427387904/\bif decide (x1<0) then Li x5 q0 else 0<=x1/\x1+(↑(fi a.ao):Int)<=4611686018427387904/\bif decide (x0<0) then Li x5 q0 else Li x0 q0)
 dsimp only
 simp only[gW] at gb
 repeat' (first|refine And.intro (by omega) ?_|fail)
 by_cases Be:iG a.S (k)=a.S
 rotate_left
 ·simp only[if_neg Be];rw[iW (by decide)]
  exact e_ (fun hh=>Be (congrArg (fun t:aj=>t.S) hh))
 simp only[if_pos Be]
 refine aa (fun h=>absurd (yT h) (by omega)) (fun h=> ?_)
 repeat' (first|refine And.intro (by omega) ?_|fail)
 by_cases Bc:fw a.av (k+dz a.S)=a.av
 rotate_left
 ·simp only[if_neg Bc];rw[iW (by decide)]
  exact e_ (fun hh=>Bc (congrArg (fun t:aj=>t.av) hh))
 simp only[if_pos Bc]
 refine aa (fun h=>absurd (yT h) (by omega)) (fun h=> ?_)
 repeat' (first|refine And.intro (by omega) ?_|fail)
 by_cases hm3:f_ a.ai (k+dz a.S+cX a.av)=a.ai
 rotate_left
 ·simp only[if_neg hm3];rw[iW (by decide)]
  exact e_ (fun hh=>hm3 (congrArg (fun t:aj=>t.ai) hh))
 simp only[if_pos hm3]
 refine aa (fun h=>absurd (yT h) (by omega)) (fun h=> ?_)
 repeat' (first|refine And.intro (by omega) ?_|fail)
 by_cases hm4:fv a.ah (k+dz a.S+cX a.av+ec a.ai)=a.ah
 rotate_left
 ·simp only[if_neg hm4];rw[iW (by decide)]
  exact e_ (fun hh=>hm4 (congrArg (fun t:aj=>t.ah) hh))
 simp only[if_pos hm4]
 refine aa (fun h=>absurd (yT h) (by omega)) (fun h=> ?_)
 repeat' (first|refine And.intro (by omega) ?_|fail)
 by_cases hm5:gC a.ao (k+dz a.S+cX a.av+ec a.ai+d_ a.ah)=a.ao
 rotate_left
 ·simp only[if_neg hm5];rw[iW (by decide)]
  exact e_ (fun hh=>hm5 (congrArg (fun t:aj=>t.ao) hh))
 simp only[if_pos hm5]
 refine aa (fun h=>absurd (yT h) (by omega)) (fun h=> ?_)
 exact n9 (by simp only[jg,Be,Bc,hm3,hm4,hm5]) (by simp only[gW];try omega)
theorem Br{d:cr}{s:List bf}{m:aE}(h1:pQ d m=true)(h2:m.dV.length=0)(h3:m.li.length=eg (d.aT.getD m.gF.toNat cO).aG):jj d s m=m.li.all (ko s):=by
 simp only[jj,h1,decide_eq_true h2,decide_eq_true h3,B4]
theorem nt(x:aj):bq x.S.ab<=bQ x:=by
 simp only[bQ,dr];omega
theorem vp{d:cr}{m:aE}(h:pQ d m=true):0<=m.gF/\m.gF<(d.aT.length:Int):=by
 simpa[pQ] using h
theorem CB{d:cr}{m:aE}(h:pQ d m=true):eg (d.aT.getD m.gF.toNat cO).aG<=ct d:=by
 obtain⟨h1,h2⟩:=vp h
 have hs:=dJ dy d.aT cO h1 h2
 have hle:eg (d.aT.getD m.gF.toNat cO).aG<=(d.aT.getD m.gF.toNat cO).aG.length:=O1 _ _
 simp only[dy,iM] at hs
 simp only[ct,gB,dy,iM];omega
def aeW:=bB (α:=cr×aE) (qC (qA .kN) (q1 (qA .aI))) [.ro,.ro] (fun _=>[]) (fun(d,m)=>⟨[dO (pQ d m)],[],[]⟩)
def ahe:HH:=hF aeW func144 [] a0 fun x hp hb=>by
 obtain⟨d,m⟩:=x
 clear hp hb
 apply vE (bif decide (m.gF≥0) then Lb (decide (m.gF<(d.aT.length:Int))) (pQ d m) else Lb false (pQ d m))
 simp only[pQ]
 refine bT (fun h=>cK ?_) (fun h=>cK ?_)
 ·rw[decide_eq_true (show 0<=m.gF from h),B4]
 ·rw[decide_eq_false (show¬0<=m.gF from h),rL]
def aeB:=bB (α:=cr×aE) (qC (qA .kN) (q1 (qA .aI))) [.ro,.ro] (fun _=>[]) (fun(d,m)=>⟨[dO (pQ d m)],[],[]⟩)
def agV:HH:=hF aeB func174 [] a0 fun x hp hb=>by
 obtain⟨d,m⟩:=x
 clear hp hb
 apply vE (bif decide (m.gF≥0) then Lb (decide (m.gF<(d.aT.length:Int))) (pQ d m) else Lb false (pQ d m))
 simp only[pQ]
 refine bT (fun h=>cK ?_) (fun h=>cK ?_)
 ·rw[decide_eq_true (show 0<=m.gF from h),B4]
 ·rw[decide_eq_false (show¬0<=m.gF from h),rL]
def ac1:=bB (α:=cr×aj) (qC (qA .kN) (q1 (qA .cz))) [.ro,.ro] (fun(d,x)=>[ct d<=4294967295,L4 (bq x.S.ab)]) (fun(d,x)=>⟨[dO (ii d x)],[],[]⟩)
def E6(d:cr)(x:aj):Int×T3×T0×Unit->Prop:=fun(i,b,g,_)=>b=(d.Name,d.aT,())/\g=(x.S.ab,x.S.Next,x.av,x.ai,x.ah,x.ao,x.State,x.ez,())/\0<=i/\i<=x.av.length/\(x.av.drop i.toNat).all (jj d x.S.ab)=x.av.all (jj d x.S.ab)
def Ex(d:cr)(x:aj):Int×T3×T0×Unit->Nat:=fun(i,b,g,_)=>x.av.length-i.toNat
def E5(d:cr)(x:aj):Int×Int×T3×T0×T11×Unit->Int×Int×T3×T0×T11×Unit->Prop:=fun(i0,k0,b0,g0,m0,_) (i,k,b,g,m,_)=>i=i0/\b=b0/\g=g0/\m=m0/\0<=k/\k<=(x.av.getD i.toNat cj).li.length/\((x.av.getD i.toNat cj).li.drop k.toNat).all (ko x.S.ab)=(x.av.getD i.toNat cj).li.all (ko x.S.ab)
def Ew(d:cr)(x:aj):Int×Int×T3×T0×T11×Unit->Nat:=fun(i,k,b,g,m,_)=>(x.av.getD i.toNat cj).li.length-k.toNat
def ao4:AX ac1:=fun(d,x)=>bh [(2,aB [iI 5,.box 2 (2,1024) [.lit .str,.shr .cy],.box 3 (3,1024) [.shr .aP,.lit (.int .i64),.shr .aI,.shr .aw,.shr .ax,.shr .aW,.lit (.int .i64),.lit (.int .i64)]] (fun _=>E6 d x) (Ex d x)),(8,aB [iI 5,iI 7,.box 2 (2,1024) [.lit .str,.shr .cy],.box 3 (3,1024) [.shr .aP,.lit (.int .i64),.shr .aI,.shr .aw,.shr .ax,.shr .aW,.lit (.int .i64),.lit (.int .i64)],.box 6 (6,1024) [.lit (.int .i64),.shr .int,.shr .dG]] (E5 d x) (Ew d x))]
def anW:HH:=hF ac1 func77 [ahe,UH,ahd] ao4 fun x hp hb=>by
 obtain⟨d,x⟩:=x
 have bj:=lB (x:=d) (hb _ m0)
 have ma:=bj.1
 have ld:=bj.2
 have er:=kQ (x:=x) (hb _ m1)
 have e9:=er.1
 have gO:=er.2.1
 have gN:=er.2.2.1
 have fS:=er.2.2.2.1
 have gM:=er.2.2.2.2
 have bD:ct d<=4294967295:=hp _ m0
 have gb:bq x.S.ab<=4294967296:=hp _ m1
 clear hp hb
 apply vE (let q0:=List bf×Int×List aE×List ag×List ap×List aQ×Int×Int×PUnit;let q1:=Lb false (ii d x);E6 d x (0,(d.Name,d.aT,()),(x.S.ab,x.S.Next,x.av,x.ai,x.ah,x.ao,x.State,x.ez,()),())/\∀(y:Int×T6×q0×PUnit),let x0:=y.2.2.1.2.2.1.getD y.1.toNat cj;let x2:=y.2.2.1.2.2.1.length;let x1:=(↑x2:Int);let q2:=(y.1,0,(y.2.1.1,y.2.1.2.1,()),(y.2.2.1.1,y.2.2.1.2.1,y.2.2.1.2.2.1,y.2.2.1.2.2.2.1,y.2.2.1.2.2.2.2.1,y.2.2.1.2.2.2.2.2.1,y.2.2.1.2.2.2.2.2.2.1,y.2.2.1.2.2.2.2.2.2.2.1,()),(x0.gF,x0.li,x0.dV,()),());E6 d x y->bif decide (y.1<x1) then 0<=y.1/\y.1.toNat<x2/\bif !pQ {Name:=y.2.1.1,aT:=y.2.1.2.1:cr} x0 then q1 else bif (x0.dV.length:Int) !=0 then q1 else 0<=x0.gF/\x0.gF.toNat<y.2.1.2.1.length/\bif (x0.li.length:Int) !=(↑(eg (y.2.1.2.1.getD x0.gF.toNat cO).aG):Int) then q1 else E5 d x q2 q2/\∀(aJ:Int×Int×T6×q0×(Int×List Int×List bM×PUnit)×PUnit),let x4:=aJ.2.2.2.2.1.2.1.length;let x5:=aJ.2.1.toNat;let x3:=(↑x4:Int);let q3:=(aJ.2.2.2.1.1,aJ.2.2.2.1.2.1,aJ.2.2.2.1.2.2.1,aJ.2.2.2.1.2.2.2.1,aJ.2.2.2.1.2.2.2.2.1,aJ.2.2.2.1.2.2.2.2.2.1,aJ.2.2.2.1.2.2.2.2.2.2.1,aJ.2.2.2.1.2.2.2.2.2.2.2.1,());let q4:=(aJ.1,wrap i64 (aJ.2.1+1),(aJ.2.2.1.1,aJ.2.2.1.2.1,()),q3,(aJ.2.2.2.2.1.1,aJ.2.2.2.2.1.2.1,aJ.2.2.2.2.1.2.2.1,()),());let q5:=(wrap i64 (aJ.1+1),(aJ.2.2.1.1,aJ.2.2.1.2.1,()),q3,());E5 d x q2 aJ->bif decide (aJ.2.1<x3) then 0<=aJ.2.1/\x5<x4/\L4 (bq aJ.2.2.2.1.1)/\bif !ko aJ.2.2.2.1.1 (aJ.2.2.2.2.1.2.1.getD x5 0) then q1 else E5 d x q2 q4/\Ew d x q4<Ew d x aJ else E6 d x q5/\Ex d x q5<Ex d x y else Lb (decide (x1<=1000)) (ii d x))
 dsimp only
 refine⟨⟨rfl,rfl,by omega,by omega,rfl⟩,?_⟩
 rintro⟨i,⟨b1,b2,⟨⟩⟩,⟨g1,g2,g3,g4,g5,g6,g7,g8,⟨⟩⟩,⟨⟩⟩ ⟨hb,hg,h1,h2,hR⟩
 cases hb
 cases hg
 simp only
 refine bT ?_ ?_<;>intro hc
 ·rw[ed _ _ cj h1 hc] at hR
  have hN:jj d x.S.ab (x.av.getD i.toNat cj)=false->ii d x=false:=fun h=>by simp only[ii,<-hR,h,rL,xt]
  refine⟨by omega,by omega,cB (fun a=>bG (hN ?_)) (fun a=>cB (fun b=>bG (hN ?_)) (fun b=> ?_))⟩
  ·have a:pQ d (x.av.getD i.toNat cj)=false:=a
   simp only[jj,a,rL]
  ·have b:¬(x.av.getD i.toNat cj).dV.length=0:=by simpa using b
   simp only[jj,decide_eq_false b,rL,xt]
  have a:pQ d (x.av.getD i.toNat cj)=true:=a
  have b:(x.av.getD i.toNat cj).dV.length=0:=by simpa using b
  obtain⟨r1,r2⟩:=vp a
  have hz:=CB a
  refine⟨r1,by omega,cB (fun c=>bG (hN ?_)) (fun c=>⟨⟨rfl,rfl,rfl,rfl,by omega,by omega,rfl⟩,?_⟩)⟩
  ·have c:¬(x.av.getD i.toNat cj).li.length=eg (d.aT.getD (x.av.getD i.toNat cj).gF.toNat cO).aG:=fun e=>by rw[e] at c;simp at c
   simp only[jj,decide_eq_false c,rL,xt]
  have c:(x.av.getD i.toNat cj).li.length=eg (d.aT.getD (x.av.getD i.toNat cj).gF.toNat cO).aG:=by
   have c:=eq_of_beq c
   omega
  have hM:=Br (s:=x.S.ab) a b c
  rintro⟨i',k,⟨b1,b2,⟨⟩⟩,⟨g1,g2,g3,g4,g5,g6,g7,g8,⟨⟩⟩,⟨m1,m2,m3,⟨⟩⟩,⟨⟩⟩ ⟨rfl,hb,hg,hm,k1,k2,kR⟩
  cases hb
  cases hg
  cases hm
  simp only
  refine bT ?_ ?_<;>intro hk
  ·rw[ed _ _ 0 k1 hk] at kR
   rw[wi (n:=k+1)]
   exact⟨by omega,by omega,gb,cB (fun e=>bG (hN (by rw[hM,<-kR,e,rL]))) (fun e=>⟨⟨rfl,rfl,rfl,rfl,by omega,by omega,by rw[<-kR,e,B4]⟩,by simp only[Ew];omega⟩)⟩
  ·rw[bZ _ (by omega)] at kR
   rw[wi (n:=i'+1)]
   exact⟨⟨rfl,rfl,by omega,by omega,by rw[<-hR,hM,<-kR];rfl⟩,by simp only[Ex];omega⟩
 ·rw[bZ _ (by omega)] at hR
  refine cK ?_
  simp only[ii,<-hR,RQ,Lc];exact decide_eq_decide.2 (by omega)
def Un:=bB (α:=cr×aj) (qC (qA .kN) (q1 (qA .cz))) [.ro,.ro] (fun(d,x)=>[ct d<=4294967295,L4 (bq x.S.ab)]) (fun(d,x)=>⟨[dO (ii d x)],[],[]⟩)
def Ap(d:cr)(x:aj):Int×T3×T0×Unit->Prop:=fun(i,b,g,_)=>b=(d.Name,d.aT,())/\g=(x.S.ab,x.S.Next,x.av,x.ai,x.ah,x.ao,x.State,x.ez,())/\x.av.length<=1000/\0<=i/\i<=x.av.length/\(x.av.drop i.toNat).all (jj d x.S.ab)=x.av.all (jj d x.S.ab)
def zx(d:cr)(x:aj):Int×T3×T0×Unit->Nat:=fun(i,b,g,_)=>x.av.length-i.toNat
def Ao(d:cr)(x:aj):Int×Int×T3×T0×Unit->Int×Int×T3×T0×Unit->Prop:=fun(i0,k0,b0,g0,_) (i,k,b,g,_)=>i=i0/\b=b0/\g=g0/\0<=k/\k<=(x.av.getD i.toNat cj).li.length/\((x.av.getD i.toNat cj).li.drop k.toNat).all (ko x.S.ab)=(x.av.getD i.toNat cj).li.all (ko x.S.ab)
def zw(d:cr)(x:aj):Int×Int×T3×T0×Unit->Nat:=fun(i,k,b,g,_)=>(x.av.getD i.toNat cj).li.length-k.toNat
def ai9:AX Un:=fun(d,x)=>bh [(4,aB [iI 18,.box 2 (2,1024) [.lit .str,.shr .cy],.box 3 (3,1024) [.shr .aP,.lit (.int .i64),.shr .aI,.shr .aw,.shr .ax,.shr .aW,.lit (.int .i64),.lit (.int .i64)]] (fun _=>Ap d x) (zx d x)),(9,aB [iI 18,iI 48,.box 2 (2,1024) [.lit .str,.shr .cy],.box 3 (3,1024) [.shr .aP,.lit (.int .i64),.shr .aI,.shr .aw,.shr .ax,.shr .aW,.lit (.int .i64),.lit (.int .i64)]] (Ao d x) (zw d x))]
def ahL:HH:=hF Un func103 [agV,Oy,agU] ai9 fun x hp hb=>by
 obtain⟨d,x⟩:=x
 have bj:=lB (x:=d) (hb _ m0)
 have ma:=bj.1
 have ld:=bj.2
 have er:=kQ (x:=x) (hb _ m1)
 have e9:=er.1
 have gO:=er.2.1
 have gN:=er.2.2.1
 have fS:=er.2.2.2.1
 have gM:=er.2.2.2.2
 have bD:ct d<=4294967295:=hp _ m0
 have gb:bq x.S.ab<=4294967296:=hp _ m1
 clear hp hb
 apply vE (let x0:=(x.av.length:Int);let q0:=List bf×Int×List aE×List ag×List ap×List aQ×Int×Int×PUnit;let q1:=Lb false (ii d x);bif decide (x0>1000) then q1 else Ap d x (0,(d.Name,d.aT,()),(x.S.ab,x.S.Next,x.av,x.ai,x.ah,x.ao,x.State,x.ez,()),())/\∀(y:Int×T6×q0×PUnit),let x2:=x.av.getD y.1.toNat cj;let x1:=(x2.li.length:Int);let q2:=(y.1,0,(y.2.1.1,y.2.1.2.1,()),(y.2.2.1.1,y.2.2.1.2.1,y.2.2.1.2.2.1,y.2.2.1.2.2.2.1,y.2.2.1.2.2.2.2.1,y.2.2.1.2.2.2.2.2.1,y.2.2.1.2.2.2.2.2.2.1,y.2.2.1.2.2.2.2.2.2.2.1,()),());Ap d x y->bif decide (y.1<x0) then 0<=y.1/\y.1.toNat<x.av.length/\bif !pQ {Name:=y.2.1.1,aT:=y.2.1.2.1:cr} x2 then q1 else bif (x2.dV.length:Int) !=0 then q1 else 0<=x2.gF/\x2.gF.toNat<y.2.1.2.1.length/\bif x1 !=(↑(eg (y.2.1.2.1.getD x2.gF.toNat cO).aG):Int) then q1 else Ao d x q2 q2/\∀(aJ:Int×Int×T6×q0×PUnit),let x3:=aJ.2.1.toNat;let q3:=(aJ.2.2.2.1.1,aJ.2.2.2.1.2.1,aJ.2.2.2.1.2.2.1,aJ.2.2.2.1.2.2.2.1,aJ.2.2.2.1.2.2.2.2.1,aJ.2.2.2.1.2.2.2.2.2.1,aJ.2.2.2.1.2.2.2.2.2.2.1,aJ.2.2.2.1.2.2.2.2.2.2.2.1,());let q4:=(aJ.1,wrap i64 (aJ.2.1+1),(aJ.2.2.1.1,aJ.2.2.1.2.1,()),q3,());let q5:=(wrap i64 (aJ.1+1),(aJ.2.2.1.1,aJ.2.2.1.2.1,()),q3,());Ao d x q2 aJ->bif decide (aJ.2.1<x1) then 0<=aJ.2.1/\x3<x2.li.length/\L4 (bq aJ.2.2.2.1.1)/\bif !ko aJ.2.2.2.1.1 (x2.li.getD x3 0) then q1 else Ao d x q2 q4/\zw d x q4<zw d x aJ else Ap d x q5/\zx d x q5<zx d x y else Lb true (ii d x))
 dsimp only
 refine bT (fun a=>bG ?_) (fun a=>⟨⟨rfl,rfl,by omega,by omega,by omega,rfl⟩,?_⟩)
 ·simp only[ii];rw[decide_eq_false (p:=x.av.length<=1000) (by omega),rL]
 rintro⟨i,⟨b1,b2,⟨⟩⟩,⟨g1,g2,g3,g4,g5,g6,g7,g8,⟨⟩⟩,⟨⟩⟩ ⟨hb,hg,a0,h1,h2,hR⟩
 cases hb
 cases hg
 simp only
 refine bT ?_ ?_<;>intro hc
 ·rw[ed _ _ cj h1 hc] at hR
  have hN:jj d x.S.ab (x.av.getD i.toNat cj)=false->ii d x=false:=fun h=>by simp only[ii,<-hR,h,rL,xt]
  refine⟨by omega,by omega,cB (fun a=>bG (hN ?_)) (fun a=>cB (fun b=>bG (hN ?_)) (fun b=> ?_))⟩
  ·have a:pQ d (x.av.getD i.toNat cj)=false:=a
   simp only[jj,a,rL]
  ·have b:¬(x.av.getD i.toNat cj).dV.length=0:=by simpa using b
   simp only[jj,decide_eq_false b,rL,xt]
  have a:pQ d (x.av.getD i.toNat cj)=true:=a
  have b:(x.av.getD i.toNat cj).dV.length=0:=by simpa using b
  obtain⟨r1,r2⟩:=vp a
  have hz:=CB a
  refine⟨r1,by omega,cB (fun c=>bG (hN ?_)) (fun c=>⟨⟨rfl,rfl,rfl,by omega,by omega,rfl⟩,?_⟩)⟩
  ·have c:¬(x.av.getD i.toNat cj).li.length=eg (d.aT.getD (x.av.getD i.toNat cj).gF.toNat cO).aG:=fun e=>by rw[e] at c;simp at c
   simp only[jj,decide_eq_false c,rL,xt]
  have c:(x.av.getD i.toNat cj).li.length=eg (d.aT.getD (x.av.getD i.toNat cj).gF.toNat cO).aG:=by
   have c:=eq_of_beq c
   omega
  have hM:=Br (s:=x.S.ab) a b c
  rintro⟨i',k,⟨b1,b2,⟨⟩⟩,⟨g1,g2,g3,g4,g5,g6,g7,g8,⟨⟩⟩,⟨⟩⟩ ⟨rfl,hb,hg,k1,k2,kR⟩
  cases hb
  cases hg
  simp only
  refine bT ?_ ?_<;>intro hk
  ·rw[ed _ _ 0 k1 hk] at kR
   rw[wi (n:=k+1)]
   exact⟨by omega,by omega,gb,cB (fun e=>bG (hN (by rw[hM,<-kR,e,rL]))) (fun e=>⟨⟨rfl,rfl,rfl,by omega,by omega,by rw[<-kR,e,B4]⟩,by simp only[zw];omega⟩)⟩
  ·rw[bZ _ (by omega)] at kR
   rw[wi (n:=i'+1)]
   exact⟨⟨rfl,rfl,a0,by omega,by omega,by rw[<-hR,hM,<-kR];rfl⟩,by simp only[zx];omega⟩
 ·rw[bZ _ (by omega)] at hR
  refine pX ?_
  simp only[ii,<-hR,decide_eq_true a0];rfl
def aff:=bB (α:=(List ag)×(List (DA UU)->Option Value)) (qC (qL .aw) (q1 qF)) [.ro,.ro] (fun(l,p)=>[∀j:Nat,j<l.length->p [cb (l.getD j aq)]=some (.bool (bw (p [cb (l.getD j aq)])))]) (fun(l,p)=>⟨[dO (anyI l.length (fun j=>bw (p [cb (l.getD j aq)])))],[],[]⟩)
def ahK:HH:=hF aff func104 [JO] a0 fun x hp hb=>by
 obtain⟨l,p⟩:=x
 have bD:∀j:Nat,j<l.length->p [cb (l.getD j aq)]=some (.bool (bw (p [cb (l.getD j aq)]))):=hp _ m0
 clear hp hb
 apply vE (let x0:=ji (l.length) fun(j:Nat)=>bw (p [cb (l.getD j aq)]);(∀(j:Nat),j<l.length->p [cb (l.getD j aq)]=some (Value.bool (bw (p [cb (l.getD j aq)]))))/\Lb (decide (x0≥0)) (anyI (l.length) fun(j:Nat)=>bw (p [cb (l.getD j aq)])))
 dsimp only
 exact⟨bD,cK (by rw[<-yw])⟩
def ac0:=bB (α:=List ag) (q1 (qL .aw)) [.ro] (fun _=>[]) (fun l=>⟨[dO (nO l)],[],[]⟩)
def E4(l:List ag):Int×Unit->Prop:=fun(i,_)=>0<=i/\i<=l.length/\∀j:Nat,(j:Int)<i->iR (l.getD j aq)=false
def Ev(l:List ag):Int×Unit->Nat:=fun(i,_)=>l.length-i.toNat
def ao3:AX ac0:=fun l=>bh [(2,aB [iI 3] (fun _=>E4 l) (Ev l))]
def anV:HH:=hF ac0 func78 [] ao3 fun(l:List ag) hp hb=>by
 have la:L9 l.length:=eY (hb _ m0)
 clear hp hb
 apply vE (E4 l (0,())/\∀(y:Int×PUnit),let q0:=(wrap i64 (y.1+1),());E4 l y->bif decide (y.1<(l.length:Int)) then 0<=y.1/\y.1.toNat<l.length/\bif (l.getD y.1.toNat aq).State==1 then Lb true (nO l) else 0<=y.1/\y.1.toNat<l.length/\bif (l.getD y.1.toNat aq).State==2 then Lb true (nO l) else E4 l q0/\Ev l q0<Ev l y else Lb false (nO l))
 dsimp only
 refine⟨⟨by omega,by omega,by intro j hj;omega⟩,?_⟩
 rintro⟨i,⟨⟩⟩ ⟨h1,h2,hR⟩
 simp only
 refine bT ?_ ?_<;>intro hc
 ·rw[wi]
  have hY:iR (l.getD i.toNat aq)=true->nO l=true:=fun h=>ju (j:=i.toNat) (by omega) h
  refine⟨by omega,by omega,ix (fun h=>pX (hY (by simp only[iR];grind))) (fun h=>⟨by omega,by omega,ix (fun g=>pX (hY (by simp only[iR];grind))) (fun g=>⟨⟨by omega,by omega,ja (p:=fun j=>iR (l.getD j aq)) h1 hR (by simp only[iR];grind)⟩,by simp only[Ev];omega⟩)⟩)⟩
 ·exact bG (gr fun j hj=>hR j (by omega))
def anf:=bB (α:=aj) (q1 (qA .cz)) [.ro] (fun _=>[]) (fun x=>⟨[dO (lq x)],[],[]⟩)
def anU:HH:=hF anf func79 [] a0 fun(x:aj) hp hb=>by
 clear hp hb
 apply vE (bif x.State==3 then Lb true (lq x) else Lb (x.State==5) (lq x))
 simp only[lq]
 refine ix (fun h=>cK ?_) (fun h=>cK ?_)
 ·rw[decide_eq_true h,Bool.true_or]
 ·rw[decide_eq_false h,Hv]
  rw[FG];simp
def anx:=bB (α:=cr×aj) (qC (qA .kN) (q1 (qA .cz))) [.ro,.ro] (fun(d,x)=>[ct d<=4294967295,L4 (bq x.S.ab)]) (fun(d,x)=>⟨[dO (instOk d x)],[],[]⟩)
def aoA:HH:=hF anx func25 [an1,an0,anZ,anY,anX,rG,anW,afS,anV,anU] a0 fun x hp hb=>by
 obtain⟨d,x⟩:=x
 have bj:=lB (x:=d) (hb _ m0)
 have ma:=bj.1
 have ld:=bj.2
 have er:=kQ (x:=x) (hb _ m1)
 have e9:=er.1
 have gO:=er.2.1
 have gN:=er.2.2.1
 have fS:=er.2.2.2.1
 have gM:=er.2.2.2.2
 have bD:ct d<=4294967295:=hp _ m0
 have gb:bq x.S.ab<=4294967296:=hp _ m1
 clear hp hb
 apply vE (let q0:=Lb false (instOk d x);let q1:=bif !lq x then Lb true (instOk d x) else Lb (decide ((x.ao.length:Int)>0)) (instOk d x);ct d<=4294967295/\bif !kO d then q0 else bif !bP x.S then q0 else bif !aO x.ai then q0 else bif !dx x.ah then q0 else bif !eV x.ao then q0 else bif !decide (1<=x.State/\x.State<=6) then q0 else bif !decide (0<=x.ez/\x.ez<=1000000000) then q0 else ct d<=4294967295/\L4 (bq x.S.ab)/\bif !ii d x then q0 else bif decide (x.State=2\/x.State=4\/x.State=6) then bif nO x.ai then q0 else bif decide ((x.ah.length:Int)>0) then q0 else q1 else q1)
 dsimp only
 refine⟨bD,?_⟩
 have ht:decide ((x.ah.length:Int)>0)=decide (0<x.ah.length):=decide_eq_decide.2 (by omega)
 have hu:decide ((x.ao.length:Int)>0)=decide (0<x.ao.length):=decide_eq_decide.2 (by omega)
 simp only[instOk,Bv,ht,hu]
 repeat' (first|refine And.intro gb ?_|refine And.intro bD (And.intro gb ?_)|refine aa (fun h=> ?_) (fun h=> ?_))
 all_goals (refine cK ?_;grind)
def anq:=bB (α:=cr×aj) (qC (qA .kN) (q1 (qA .cz))) [.ro,.ro] (fun(d,x)=>[ct d<=4294967295,L4 (bq x.S.ab)]) (fun(d,x)=>⟨[dO (instOk d x)],[],[]⟩)
def aor:HH:=hF anq func38 [anH,anG,Y2,ahN,ahM,xo,JV,ahL,afn,ahK,Oz] a0 fun x hp hb=>by
 obtain⟨d,x⟩:=x
 have amw:eJ (U:=UU) (.agg [.lit (.string d.Name),.sl .cy d.aT]):=hb _ m0
 have bj:=lB (x:=d) (hb _ m0)
 have ma:=bj.1
 have ld:=bj.2
 have Nv:eJ (U:=UU) (.agg [.sl .aP x.S.ab,.lit (.int .i64 x.S.Next),.sl .aI x.av,.sl .aw x.ai,.sl .ax x.ah,.sl .aW x.ao,.lit (.int .i64 x.State),.lit (.int .i64 x.ez)]):=hb _ m1
 have er:=kQ (x:=x) (hb _ m1)
 have e9:=er.1
 have gO:=er.2.1
 have gN:=er.2.2.1
 have fS:=er.2.2.2.1
 have gM:=er.2.2.2.2
 have bD:ct d<=4294967295:=hp _ m0
 have gb:bq x.S.ab<=4294967296:=hp _ m1
 clear hp hb
 apply vE (let q0:=Lb false (instOk d x);let q1:=Lb (decide ((x.ao.length:Int)>0)) (instOk d x);bif !kO d then q0 else bif !bP x.S then q0 else bif !aO x.ai then q0 else bif !dx x.ah then q0 else bif !eV x.ao then q0 else bif !decide (1<=x.State/\x.State<=6) then q0 else bif !decide (0<=x.ez/\x.ez<=1000000000) then q0 else ct d<=4294967295/\L4 (bq x.S.ab)/\bif !ii d x then q0 else bif x.State==3 then q1 else bif x.State==5 then q1 else bif !decide (x.State=2\/x.State=4\/x.State=6) then Lb true (instOk d x) else bif (x.ah.length:Int)==0 then(∀(j:Nat),j<x.ai.length->eQ v7 [] [cb (x.ai.getD j aq)]=some (Value.bool (bw (eQ v7 [] [cb (x.ai.getD j aq)]))))/\Lb (!anyI (x.ai.length) fun(j:Nat)=>bw (eQ v7 [] [cb (x.ai.getD j aq)])) (instOk d x) else q0)
 dsimp only
 have hc:∀t:ag,eQ v7 [] [cb t]=some (.bool (iR t)):=fun t=>pT (x:=t) rfl rfl rfl rfl (by simp[v7])
 have hl:(anyI x.ai.length fun j=>bw (eQ v7 [] [cb (x.ai.getD j aq)]))=nO x.ai:=qJ fun j hj=>by rw[hc];rfl
 have gU:∀j:Nat,j<x.ai.length->eQ v7 [] [cb (x.ai.getD j aq)]=some (.bool (bw (eQ v7 [] [cb (x.ai.getD j aq)]))):=fun j hj=>by rw[hc];rfl
 have ht:((x.ah.length:Int)==0)= !decide (0<x.ah.length):=by rw[FG];simp
 have hu:decide ((x.ao.length:Int)>0)=decide (0<x.ao.length):=decide_eq_decide.2 (by omega)
 have h3:(x.State==3)=decide (x.State=3):=by rw[FG];simp
 have h5:(x.State==5)=decide (x.State=5):=by rw[FG];simp
 simp only[instOk,Bv,lq,ht,hu,h3,h5,hl]
 repeat' (first|refine And.intro gU ?_|refine And.intro bD (And.intro gb ?_)|refine And.intro gb ?_|refine aa (fun h=> ?_) (fun h=> ?_))
 all_goals (refine cK ?_;clear gU hc hl ht hu h3 h5 amw Nv;grind)
theorem ZS{v:aZ}(h:df v=true):v.S.size<=21:=by
 simp only[df] at h
 by_cases h1:v.K=1
 ·simp[h1] at h;rw[h.2];simp[ak]
 ·by_cases h2:v.K=2
  ·simp[h2] at h;omega
  ·simp[h1,h2] at h
theorem R0:∀{l:List aZ},l.all df=true->cU l<=22*l.length
 |[],_=>by simp[cU]
 |x::l,h=>by
  simp only[O2,eE] at h
  have h1:=R0 h.2
  have h2:=ZS h.1
  simp only[cU,n_,tI,JY,cS] at h1⊢
  omega
theorem tU{f:aA}(h:cg f=true):f.ae.length<=5/\bu f<=145:=by
 simp only[cg,b7,eE,decide_eq_true_eq] at h
 obtain⟨⟨⟨⟨⟨_,h1⟩,_⟩,_⟩,h2⟩,h3⟩:=h
 have:=R0 h3
 simp only[bu];omega
theorem J4{α:Type}(f:α->Nat)(B:Nat):∀(l:List α),(∀x∈l,f x<=B)->(l.map f).sum<=l.length*B
 |[],_=>by simp
 |x::l,h=>by
  have h1:=J4 f B l (fun y hy=>h y (bi _ hy))
  have h2:=h x dw
  simp only[tI,JY,n_,wD];omega
theorem vS{α:Type}{l:List α}{z:α}{p:Nat->Bool}{q:α->Prop}(h:allI l.length p=true)(hq:∀i,p i=true->q (l.getD i z)):∀x∈l,q x:=fun x hx=>by
 obtain⟨i,hi,rfl⟩:=tX hx
 have:=hq i (j6.1 h i hi)
 rwa[fY,gg hi] at this
theorem ZU{u:BA}(h:iu u=true):u.size<=12:=by
 simp only[iu,b7,B3,eE,decide_eq_true_eq] at h
 rcases h with rfl|h
 ·simp[ak]
 ·exact h.1.1.2
theorem Ib{a b:Int}{P Q:Prop}(h1:¬a=b->P)(h2:a=b->Q):bif a !=b then P else Q:=aa (fun h=>h1 (by simpa using h)) (fun h=>h2 (by simpa using h))
def u3(f:aA)(iL:BA)(now:Int):ag:=⟨f,iL,1,0,now,gh⟩
def qt(l:List ag)(f:aA):Bool:=anyI l.length fun k=>decide ((l.getD k aq).F=f)
def kZ(l:List ag)(f:aA)(iL:BA)(now:Int):List ag×Bool:=
 if qt l f=true then(l,true) else if 30<=l.length then(l,false) else(l++[u3 f iL now],true)
def mQ(l:List ag)(f:aA)(iL:BA)(now:Int):Bool:=aO l&&cg f&&iu iL&&decide (0<=now/\now<=1000000000)
def fq(l:List ag)(f:aA)(iL:BA)(now:Int):List ag×Bool:=if mQ l f iL now=true then kZ l f iL now else(l,false)
theorem H3(l:List ag)(f:aA):decide (0<=placeOf l f)=qt l f:=yw
theorem FT{l:List ag}(h:aO l=true):l.length<=30:=by
 simp only[aO,eE,decide_eq_true_eq] at h;exact h.1
def S9:=bB (α:=(List ag)×aA×BA×Int) (qC (qL .aw) (qC (qA .cP) (qC qS (q1 qI)))) [.mv,.ro,.ro,.ro] (fun(l,f,iL,now)=>[L4 f.ae.length]) (fun(l,f,iL,now)=>⟨[dL .aw ((kZ l f iL now).1),dO ((kZ l f iL now).2)],[],[]⟩)
def zG(l:List ag)(f:aA)(iL:BA)(now:Int):List ag×Int×T4×Unit->Prop:=fun(row,i,fb,_)=>row=l/\fb=(f.Kind,f.ae,())/\0<=i/\i<=l.length/\∀j:Nat,(j:Int)<i->decide ((l.getD j aq).F=f)=false
def yR(l:List ag)(f:aA)(iL:BA)(now:Int):List ag×Int×T4×Unit->Nat:=fun(row,i,fb,_)=>l.length-i.toNat
def ah3:AX S9:=fun(l,f,iL,now)=>bh [(2,aB [iO 0 .aw,iI 10,.box 5 (5,1024) [.lit .str,.shr .bm]] (fun _=>zG l f iL now) (yR l f iL now))]
def afQ:HH:=hF S9 func261 [JS,Cq] ah3 fun x hp hb=>by
 obtain⟨l,f,iL,now⟩:=x
 have la:L9 l.length:=eY (hb _ m0)
 have er:=mS (x:=f) (hb _ m1)
 have pJ:=er.1
 have mO:=er.2
 have Qr:=N3 (s:=iL) (hb _ m2)
 have pf:=iK (n:=now) (hb _ m3)
 have bD:f.ae.length<=4294967296:=hp _ m0
 clear hp hb
 apply vE (let q0:=kZ l f iL now;zG l f iL now (l,0,(f.Kind,f.ae,()),())/\∀(y:List ag×Int×T7×PUnit),let x1:={Kind:=y.2.2.1.1,ae:=y.2.2.1.2.1:aA};let x2:=y.2.1.toNat;let x3:=(y.1.length:Int);let x0:=[{F:=x1,cq:=iL,State:=(1:Int),bg:=(0:Int),jv:=now,V:={K:=(0:Int),N:=(0:Int),S:={data:= #[]:BA}:aZ}:ag}];let q1:=(y.1,wrap i64 (y.2.1+1),(y.2.2.1.1,y.2.2.1.2.1,()),());zG l f iL now y->bif decide (y.2.1<x3) then 0<=y.2.1/\x2<y.1.length/\x2<y.1.length/\x2<y.1.length/\bif decide ((y.1.getD x2 aq).F=x1) then Lf [VL .aw y.1,VB true] [VL .aw (q0.1),VB (q0.2)] else zG l f iL now q1/\yR l f iL now q1<yR l f iL now y else bif decide (x3≥30) then Lf [VL .aw y.1,VB false] [VL .aw (q0.1),VB (q0.2)] else L4 y.2.2.1.2.1.length/\L4 (y.1.length+x0.length)/\Lf [VL .aw (y.1++x0),VB true] [VL .aw (q0.1),VB (q0.2)])
 dsimp only
 refine⟨⟨rfl,rfl,by omega,by omega,by intro j hj;omega⟩,?_⟩
 rintro⟨row,i,fb,⟨⟩⟩ ⟨rfl,rfl,h1,h2,hR⟩
 simp only
 refine aa ?_ ?_<;>intro hc
 ·have hc:=yT hc
  rw[wi]
  repeat' (first|refine And.intro (by omega) ?_|refine aa (fun h=> ?_) (fun h=> ?_)|fail)
  ·have ha:qt row f=true:=ju (j:=i.toNat) (by omega) h
   simp only[kZ,if_pos ha];exact aH _
  ·exact⟨⟨rfl,rfl,by omega,by omega,ja h1 hR h⟩,by simp only[yR];omega⟩
 ·have hc:=yF hc
  have ha:¬qt row f=true:=by
   rw[uK];exact gr fun j hj=>hR j (by omega)
  refine aa ?_ ?_<;>intro h
  ·have h:=yT h
   simp only[kZ,if_neg ha,if_pos (show 30<=row.length by omega)];exact aH _
  ·have h:=yF h
   repeat' (first|refine And.intro (by first|omega|(simp;omega)) ?_|fail)
   simp only[kZ,if_neg ha,if_neg (show¬30<=row.length by omega)];exact aH _
def ad3:=bB (α:=(List ag)×aA×BA×Int) (qC (qL .aw) (qC (qA .cP) (qC qS (q1 qI)))) [.ro,.ro,.ro,.ro] (fun(l,f,iL,now)=>[L4 (bz l),L4 f.ae.length]) (fun(l,f,iL,now)=>⟨[dL .aw ((fq l f iL now).1),dO ((fq l f iL now).2)],[],[]⟩)
def af5:HH:=hF ad3 func244 [RL,Y2,Dn,Ov,JV,UF,wA] a0 fun x hp hb=>by
 obtain⟨l,f,iL,now⟩:=x
 have la:L9 l.length:=eY (hb _ m0)
 have er:=mS (x:=f) (hb _ m1)
 have pJ:=er.1
 have mO:=er.2
 have Qr:=N3 (s:=iL) (hb _ m2)
 have pf:=iK (n:=now) (hb _ m3)
 have bD:bz l<=4294967296:=hp _ m0
 have gb:f.ae.length<=4294967296:=hp _ m1
 clear hp hb
 apply vE (let x0:=[{F:=f,cq:=iL,State:=(1:Int),bg:=(0:Int),jv:=now,V:={K:=(0:Int),N:=(0:Int),S:={data:= #[]:BA}:aZ}:ag}];let q0:=Lf [VL .aw l,VB false] [VL .aw ((fq l f iL now).1),VB ((fq l f iL now).2)];let q1:=fq l f iL now;L4 (bz l)/\bif !aO l then q0 else bif !cg f then q0 else bif !iu iL then q0 else bif !decide (0<=now/\now<=1000000000) then q0 else bif decide (placeOf l f≥0) then Lf [VL .aw l,VB true] [VL .aw (q1.1),VB (q1.2)] else bif (l.length:Int)==30 then q0 else L4 f.ae.length/\L4 (l.length+x0.length)/\Lf [VL .aw (l++x0),VB true] [VL .aw (q1.1),VB (q1.2)])
 dsimp only
 refine⟨bD,?_⟩
 have hN:mQ l f iL now=false->Lf [.one (.sl .aw l),.one (.lit (.bool false))] [.one (.sl .aw (fq l f iL now).1),.one (.lit (.bool (fq l f iL now).2))]:=fun h=>by
  simp only[fq,h];exact aH _
 have yB:decide (placeOf l f≥0)=qt l f:=H3 l f
 rw[yB]
 repeat' (first|refine And.intro (by first|omega|(simp;omega)) ?_|refine aa (fun h=> ?_) (fun h=> ?_)|fail)
 all_goals first
  |(refine hN ?_;simp only[mQ];grind)
  |(have hy:mQ l f iL now=true:=by simp only[mQ];grind
    have hlen:=FT (l:=l) (by simp only[mQ] at hy;grind)
    simp only[fq,hy,if_true,kZ]
    first
     |(rw[if_pos (by assumption)];exact aH _)
     |(rw[if_neg (by simp_all),if_pos (by(try simp_all);omega)];exact aH _)
     |(rw[if_neg (by simp_all),if_neg (by simp_all;omega)];exact⟨by simp;omega,aH _⟩))
theorem lm{l:List ag}:aO l=true↔l.length<=30/\(∀t∈l,gj t=true)/\(l.map ag.F).Nodup:=by
 have hg:∀{i:Nat}(h:i<l.length),l.getD i aq=l[i]:=fun{i} h=>by rw[fY,gg h];rfl
 simp only[aO,eE,decide_eq_true_eq]
 refine and_congr_right fun _=> ?_
 rw[Hl]
 constructor
 ·intro h
  refine⟨fun t ht=> ?_,?_⟩
  ·obtain⟨i,hi,rfl⟩:=tX ht
   have:=h i hi
   simp only[jd,eE] at this
   rw[<-hg hi];exact this.1
  ·rw[List.Nodup,RT]
   intro i j hi hj BZ
   simp only[BV] at hi hj
   have:=h j hj
   simp only[jd,eE,rj] at this
   have:=mT.1 this.2 i BZ
   simp only[decide_eq_false_iff_not] at this
   rw[hg hi,hg hj] at this
   simpa using this
 ·rintro⟨h1,h2⟩ j hj
  simp only[jd,eE,rj]
  refine⟨by rw[hg hj];exact h1 _ (Hu hj),mT.2 fun i BZ=> ?_⟩
  have hi:i<l.length:=by omega
  rw[List.Nodup,RT] at h2
  have:=h2 i j (by simpa using hi) (by simpa using hj) BZ
  simp only[decide_eq_false_iff_not]
  rw[hg hi,hg hj]
  simpa using this
theorem xx{l:List ag}{f:ag->ag}(hF:∀t,(f t).F=t.F)(hf:∀t,gj t=true->gj (f t)=true)(h:aO l=true):aO (l.map f)=true:=by
 rw[lm] at h⊢
 refine⟨by simpa using h.1,fun t ht=> ?_,?_⟩
 ·obtain⟨t0,h0,rfl⟩:=lH.1 ht
  exact hf _ (h.2.1 _ h0)
 ·rw[List.map_map]
  have:ag.F∘f=ag.F:=funext hF
  rw[this];exact h.2.2
theorem jc{t:ag}:gj t=true↔cg t.F=true/\iu t.cq=true/\(1<=t.State/\t.State<=4)/\(0<=t.bg/\t.bg<=4)/\(0<=t.jv/\t.jv<=1000001000)/\(t.V=gh\/df t.V=true)/\((t.State=1->t.bg=0)/\(t.State=2->t.bg≠0)):=by
 simp only[gj,eE,B3,decide_eq_true_eq]
 constructor
 ·rintro⟨⟨⟨⟨⟨⟨h1,h2⟩,h3⟩,h4⟩,h5⟩,h6⟩,h7⟩;exact⟨h1,h2,h3,h4,h5,h6,h7⟩
 ·rintro⟨h1,h2,h3,h4,h5,h6,h7⟩;exact⟨⟨⟨⟨⟨⟨h1,h2⟩,h3⟩,h4⟩,h5⟩,h6⟩,h7⟩
theorem KW(t:ag):(fF t).F=t.F:=by unfold fF;split<;>rfl
theorem nG{l:List ag}(h:aO l=true):aO (giveUp l)=true:=by
 refine xx KW (fun t h=> ?_) h
 obtain⟨a1,a2,a3,a4,a5,a6,a7⟩:=jc.1 h
 unfold fF;split
 ·exact jc.2 ⟨a1,a2,by simp,a4,a5,a6,by simp⟩
 ·exact h
theorem Gz{l:List ag}{f:aA}:qt l f=true↔f∈l.map ag.F:=by
 simp only[qt,vR,decide_eq_true_eq,lH]
 constructor
 ·rintro⟨j,hj,rfl⟩
  rw[fY,gg hj]
  exact⟨l[j],Hu hj,rfl⟩
 ·rintro⟨t,ht,rfl⟩
  obtain⟨i,hi,rfl⟩:=tX ht
  exact⟨i,hi,by rw[fY,gg hi];rfl⟩
theorem B7{l:List ag}{f:aA}{u:BA}{now:Int}(h:aO l=true)(hf:cg f=true)(hu:iu u=true)(h0:0<=now)(h1:now<=1000001000):aO (kZ l f u now).1=true:=by
 unfold kZ;split
 ·exact h
 ·rename_i hn
  split
  ·exact h
  ·rename_i hl
   rw[lm] at h⊢
   refine⟨by simp only[wG,n_,om];omega,fun t ht=> ?_,?_⟩
   ·rcases kA.1 ht with ht|ht
    ·exact h.2.1 t ht
    ·rw[oa.1 ht]
     exact jc.2 ⟨hf,hu,by simp[u3],by simp[u3],by simp only[u3];omega,.inl rfl,by simp[u3]⟩
   ·rw[La,pu]
    refine⟨h.2.2,by simp,?_⟩
    intro x hx y hy e
    rw[Gz] at hn
    simp only[tI,List.map_nil,oa] at hy
    rw[hy] at e;rw[e] at hx;exact hn hx
theorem p9{l:List ag}(h:aO l=true):l.length<=30/\bz l<=6000:=by
 obtain⟨h1,h2,_⟩:=lm.1 h
 have:=J4 dK 180 l (fun t ht=>by
  obtain⟨a1,a2,_,_,_,a6,_⟩:=jc.1 (h2 t ht)
  have b1:=(tU a1).2
  have b2:=ZU a2
  have b3:cS t.V<=21:=by
   rcases a6 with e|e
   ·rw[e];decide
   ·exact ZS e
  simp only[dK];omega)
 simp only[bz];omega
theorem uR{l:List ap}(h:dx l=true):l.length<=30/\ca l<=6000:=by
 simp only[dx,eE,decide_eq_true_eq] at h
 have:=J4 dD 145 l (vS (z:=cD) h.2 fun i hi=>by
  simp only[jb,iD,eE] at hi
  exact(tU hi.1.2).2)
 simp only[ca];omega
theorem wL{l:List aQ}(h:eV l=true):l.length<=30/\(∀u∈l,cg u.F=true)/\bx l<=20000:=by
 simp only[eV,eE,decide_eq_true_eq] at h
 have hf:∀u∈l,cg u.F=true:=vS (z:=bX) h.2 fun i hi=>by
  simp only[jI,eE] at hi;exact hi.1.2
 have:=J4 dc 345 l (vS (z:=bX) h.2 fun i hi=>by
  simp only[jI,eE,decide_eq_true_eq] at hi
  have:=(tU hi.1.2).2
  simp only[dc];omega)
 refine⟨h.1,hf,?_⟩
 simp only[bx];omega
theorem ow{l:List aQ}(h:eV l=true)(hl:l≠[]):cg (bc l)=true:=by
 rw[bc,if_neg hl]
 have h0:l.length-1<l.length:=by have:=List.length_pos_iff.2 hl;omega
 rw[fY,gg h0]
 exact(wL h).2.1 _ (Hu h0)
def ux(x:aj)(st:Int):aj:=⟨x.S,x.av,giveUp x.ai,[],x.ao,st,x.ez⟩
def rU(l:List ag)(f:aA):List ag:=l.filter fun t=> !decide (t.F=f)
def vt(l:List ag)(f:aA):List ag:=if 30<=(rU l f).length then[] else rU l f
def rQ(x:aj):List ag:=(kZ (vt x.ai (bc x.ao)) (bc x.ao) ak x.ez).1
def gX(x:aj):aj:=if x.ao=[] then ux x (if x.State=5 then 6 else 4) else⟨x.S,x.av,rQ x,x.ah,x.ao,x.State,x.ez⟩
def nf(x:aj)(st:Int):aj:=gX (ux x st)
def ey(x:aj):Prop:=aO x.ai=true/\eV x.ao=true/\0<=x.ez/\x.ez<=1000000000
theorem CW{x:aj}(h:ey x)(st:Int):ey (ux x st):=⟨nG h.1,h.2⟩
theorem rN{l:List ag}(p:ag->Bool)(h:aO l=true):aO (l.filter p)=true:=by
 rw[lm] at h⊢
 refine⟨BU (O1 _ _) h.1,fun t ht=>h.2.1 t (BW.1 ht).1,?_⟩
 exact(List.filter_sublist.map ag.F).nodup h.2.2
theorem uV{l:List ag}(h:aO l=true)(f:aA):aO (vt l f)=true:=by
 unfold vt;split
 ·rfl
 ·exact rN _ h
theorem J5{x:aj}(h:ey x)(hu:x.ao≠[]):(fq (vt x.ai (bc x.ao)) (bc x.ao) ak x.ez).1=rQ x:=by
 have hc:mQ (vt x.ai (bc x.ao)) (bc x.ao) ak x.ez=true:=by
  simp only[mQ,uV h.1,ow h.2.1 hu,B4,eE,decide_eq_true_eq]
  exact⟨rfl,h.2.2⟩
 unfold fq rQ;rw[if_pos hc]
theorem Aw{x:aj}(h:ey x)(hu:x.ao≠[]):aO (rQ x)=true:=
 B7 (uV h.1 _) (ow h.2.1 hu) rfl h.2.2.1 (by have:=h.2.2.2;omega)
theorem Ax{α:Type}{l:List α}{i:Nat}(z:α)(h:i<l.length):l.take (i+1)=l.take i++[l.getD i z]:=by
 rw[ZC h,fY,gg h];rfl
theorem qy{α:Type}(q:α->Bool){l:List α}{i:Nat}(z:α)(h:i<l.length):(l.take (i+1)).filter q=(l.take i).filter q++(if q (l.getD i z)=true then[l.getD i z] else[]):=by
 rw[Ax z h,List.filter_append]
 congr 1
 generalize List.getD l i z=x
 by_cases hq:q x=true<;>simp[hq]
def Hq:=bB (α:=List Int) (q1 (qL .int)) [.ro] (fun l=>[L4 l.length]) (fun l=>⟨[dL .int l],[],[]⟩)
def OB:AX Hq:=fun l=>bh []
def Og:List (FuncId×jH UU):=[]
theorem acA:xO EE Og f219 Hq OB [] .int [] true=(Lf [VL .int []] [VL .int []]):=by kernel_rfl
theorem acx:xO EE Og f219 Hq OB [] .int [] true:=by
 rw[acA]
 exact aH _
theorem acJ:Holds EE (219,Hq):=by
 refine w3 sw func219 Hq (by kernel_rfl) rfl .int (fun x=>x) (fun _=>rfl) Og all_nil OB (fun(l:List Int) hp hb=> ?_)
 have la:L9 l.length:=eY (hb _ m0)
 have bD:l.length<=4294967296:=hp _ m0
 clear hp hb
 refine⟨?_,fun h0=> ?_⟩
 rotate_left
 ·subst h0;exact acx
 apply vE (0+l.length<=4294967296/\Lf [VL .int ([]++l)] [VL .int l])
 exact⟨by simp;omega,aH _⟩
def agn:HH:=⟨_,acJ⟩
def Hp:=bB (α:=List bM) (q1 (qL .dG)) [.ro] (fun l=>[L4 l.length]) (fun l=>⟨[dL .dG l],[],[]⟩)
def OA:AX Hp:=fun l=>bh []
def Of:List (FuncId×jH UU):=[]
theorem acz:xO EE Of f220 Hp OA [] .dG [] true=(Lf [VL .dG []] [VL .dG []]):=by kernel_rfl
theorem acw:xO EE Of f220 Hp OA [] .dG [] true:=by
 rw[acz]
 exact aH _
theorem acI:Holds EE (220,Hp):=by
 refine w3 sw func220 Hp (by kernel_rfl) rfl .dG (fun x=>x) (fun _=>rfl) Of all_nil OA (fun(l:List bM) hp hb=> ?_)
 have la:L9 l.length:=eY (hb _ m0)
 have bD:l.length<=4294967296:=hp _ m0
 clear hp hb
 refine⟨?_,fun h0=> ?_⟩
 rotate_left
 ·subst h0;exact acw
 apply vE (0+l.length<=4294967296/\Lf [VL .dG ([]++l)] [VL .dG l])
 exact⟨by simp;omega,aH _⟩
def agm:HH:=⟨_,acI⟩
def aeL:=bB (α:=aE) (q1 (qA .aI)) [.ro] (fun m=>[L4 m.li.length,L4 m.dV.length]) (fun m=>⟨[dA .aI m],[],[]⟩)
def ag2:HH:=hF aeL func163 [agn,agm] a0 fun(m:aE) hp hb=>by
 have bD:m.li.length<=4294967296:=hp _ m0
 have gb:m.dV.length<=4294967296:=hp _ m1
 clear hp hb
 apply vE (m.li.length<=4294967296/\L4 m.dV.length/\Lf [DV.agg [CI m.gF,CL .int m.li,CL .dG m.dV]] [DV.agg [CI m.gF,CL .int m.li,CL .dG m.dV]])
 exact⟨bD,gb,aH _⟩
theorem AD(s:List bf){i:Int}(h1:0<=i)(h2:i<s.length):(s.getD i.toNat a_).F.ae.length<=bq s/\s.length<=bq s:=by
 have hs:=dJ dh s a_ h1 h2
 simp only[dh,bu,cU] at hs
 simp only[bq,dh,bu,cU];omega
theorem AB(l:List aE){i:Int}(h1:0<=i)(h2:i<l.length):(l.getD i.toNat cj).li.length<=cQ l/\(l.getD i.toNat cj).dV.length<=cQ l/\l.length<=cQ l:=by
 have hs:=dJ dt l cj h1 h2
 simp only[dt,eM,g_] at hs
 simp only[cQ,dt,eM,g_];omega
def acT:=bB (α:=List aE) (q1 (qL .aI)) [.ro] (fun l=>[L4 (cQ l)]) (fun l=>⟨[dL .aI l],[],[]⟩)
def E1(l:List aE):List aE×Int×Unit->Prop:=fun(out,i,_)=>0<=i/\i<=l.length/\out=l.take i.toNat
def Es(l:List aE):List aE×Int×Unit->Nat:=fun(out,i,_)=>l.length-i.toNat
def aoW:AX acT:=fun l=>bh [(3,aB [iO 3 .aI,iI 8] (fun _=>E1 l) (Es l))]
def anI:HH:=hF acT func93 [ag2] aoW fun(l:List aE) hp hb=>by
 have la:L9 l.length:=eY (hb _ m0)
 have bD:cQ l<=4294967296:=hp _ m0
 clear hp hb
 apply vE (E1 l ([],0,())/\∀(y:List aE×Int×PUnit),let x1:=y.2.1.toNat;let x0:=l.getD x1 cj;let q0:=(y.1++[x0],wrap i64 (y.2.1+1),());E1 l y->bif decide (y.2.1<(l.length:Int)) then 0<=y.2.1/\x1<l.length/\L4 x0.li.length/\L4 x0.dV.length/\y.1.length+List.length [x0]<=4294967296/\E1 l q0/\Es l q0<Es l y else Lf [VL .aI y.1] [VL .aI l])
 dsimp only
 refine⟨⟨by omega,by omega,by simp⟩,?_⟩
 rintro⟨out,i,⟨⟩⟩ ⟨h1,h2,rfl⟩
 simp only
 refine bT ?_ ?_<;>intro hc
 ·obtain⟨s1,s2,s3⟩:=AB l h1 hc
  have hk:=dW l cj h1 hc
  rw[wi]
  repeat' (first|refine And.intro (by first|omega|(simp only[om];omega)) ?_|fail)
  exact⟨by simp only[od,n_,om];omega,⟨by omega,by omega,hk⟩,by simp only[Es];omega⟩
 ·rw[cT l (by omega)]
  exact aH _
def ac':=bB (α:=List aE) (q1 (qL .aI)) [.ro] (fun l=>[L4 (cQ l)]) (fun l=>⟨[dL .aI l],[],[]⟩)
def Fh(l:List aE):List aE×Int×Unit->Prop:=fun(out,i,_)=>0<=i/\i<=l.length/\out=l.take i.toNat
def EG(l:List aE):List aE×Int×Unit->Nat:=fun(out,i,_)=>l.length-i.toNat
def apb:AX ac':=fun l=>bh [(3,aB [iO 3 .aI,iI 4] (fun _=>Fh l) (EG l))]
def an2:HH:=hF ac' func68 [] apb fun(l:List aE) hp hb=>by
 have la:L9 l.length:=eY (hb _ m0)
 have bD:cQ l<=4294967296:=hp _ m0
 clear hp hb
 apply vE (Fh l ([],0,())/\∀(y:List aE×Int×PUnit),let x2:=y.2.1.toNat;let x1:=l.getD x2 cj;let x0:=[{gF:=x1.gF,li:=[]++x1.li,dV:=[]++x1.dV:aE}];let q0:=(y.1++x0,wrap i64 (y.2.1+1),());Fh l y->bif decide (y.2.1<(l.length:Int)) then 0<=y.2.1/\x2<l.length/\0<=y.2.1/\x2<l.length/\0+x1.li.length<=4294967296/\0<=y.2.1/\x2<l.length/\0+x1.dV.length<=4294967296/\L4 (y.1.length+x0.length)/\Fh l q0/\EG l q0<EG l y else Lf [VL .aI y.1] [VL .aI l])
 dsimp only
 refine⟨⟨by omega,by omega,by simp⟩,?_⟩
 rintro⟨out,i,⟨⟩⟩ ⟨h1,h2,rfl⟩
 simp only
 refine bT ?_ ?_<;>intro hc
 ·obtain⟨s1,s2,s3⟩:=AB l h1 hc
  have hk:=dW l cj h1 hc
  rw[wi]
  repeat' (first|refine And.intro (by first|omega|(simp only[om];omega)) ?_|fail)
  exact⟨by simp only[od,n_,om];omega,⟨by omega,by omega,hk⟩,by simp only[EG];omega⟩
 ·rw[cT l (by omega)]
  exact aH _
def acU:=bB (α:=az) (q1 (qA .di)) [.ro] (fun s=>[L4 (bq s.ab)]) (fun s=>⟨[dA .di s],[],[]⟩)
def E2(s:az):Int×T2×T2×T2×Unit->Prop:=fun(i,b,r,g,_)=>b=(s.ab,s.Next,())/\r=([],0,())/\0<=i/\i<=s.ab.length/\g=(s.ab.take i.toNat,s.Next,())
def Et(s:az):Int×T2×T2×T2×Unit->Nat:=fun(i,b,r,g,_)=>s.ab.length-i.toNat
def aoX:AX acU:=fun s=>bh [(3,aB [iI 12,.box 1 (1,1024) [.shr .aP,.lit (.int .i64)],.box 2 (2,1024) [.own .aP true,.lit (.int .i64)],.box 3 (3,1024) [.own .aP true,.lit (.int .i64)]] (fun _=>E2 s) (Et s))]
def anJ:HH:=hF acU func92 [wA] aoX fun(s:az) hp hb=>by
 have l9:=jt (x:=s) (hb _ m0)
 have bD:bq s.ab<=4294967296:=hp _ m0
 clear hp hb
 apply vE (let q0:=List bf×Int×PUnit;E2 s (0,(s.ab,s.Next,()),([],0,()),([],s.Next,()),())/\∀(y:Int×q0×q0×q0×PUnit),let x0:=[s.ab.getD y.1.toNat a_];let q1:=(wrap i64 (y.1+1),(y.2.1.1,y.2.1.2.1,()),(y.2.2.1.1,y.2.2.1.2.1,()),(y.2.2.2.1.1++x0,y.2.2.2.1.2.1,()),());E2 s y->bif decide (y.1<(s.ab.length:Int)) then 0<=y.1/\y.1.toNat<s.ab.length/\(s.ab.getD y.1.toNat a_).F.ae.length<=4294967296/\L4 (y.2.2.2.1.1.length+x0.length)/\E2 s q1/\Et s q1<Et s y else Lf [DV.agg [CL .aP y.2.2.2.1.1,CI y.2.2.2.1.2.1]] [DV.agg [CL .aP s.ab,CI s.Next]])
 dsimp only
 refine⟨⟨rfl,rfl,by omega,by omega,rfl⟩,?_⟩
 rintro⟨i,⟨b1,b2,⟨⟩⟩,⟨r1,r2,⟨⟩⟩,⟨g1,g2,⟨⟩⟩,⟨⟩⟩ ⟨hb,hr,h1,h2,hg⟩
 cases hb
 cases hr
 cases hg
 simp only
 refine bT ?_ ?_<;>intro hc
 ·obtain⟨s1,s2⟩:=AD s.ab h1 hc
  have hk:=dW s.ab a_ h1 hc
  rw[wi]
  repeat' (first|refine And.intro (by omega) ?_|fail)
  exact⟨by simp only[od,n_,om];omega,⟨rfl,rfl,by omega,by omega,by rw[<-hk]⟩,by simp only[Et];omega⟩
 ·rw[cT s.ab (by omega)]
  exact aH _
def ac_:=bB (α:=az) (q1 (qA .di)) [.ro] (fun s=>[L4 (bq s.ab)]) (fun s=>⟨[dA .di s],[],[]⟩)
def Fi(s:az):Int×T2×T2×T2×Unit->Prop:=fun(i,b,r,g,_)=>b=(s.ab,s.Next,())/\r=([],0,())/\0<=i/\i<=s.ab.length/\g=(s.ab.take i.toNat,s.Next,())
def EH(s:az):Int×T2×T2×T2×Unit->Nat:=fun(i,b,r,g,_)=>s.ab.length-i.toNat
def apc:AX ac_:=fun s=>bh [(3,aB [iI 4,.box 1 (1,1024) [.shr .aP,.lit (.int .i64)],.box 2 (2,1024) [.own .aP true,.lit (.int .i64)],.box 3 (3,1024) [.own .aP true,.lit (.int .i64)]] (fun _=>Fi s) (EH s))]
def an3:HH:=hF ac_ func67 [Cq] apc fun(s:az) hp hb=>by
 have l9:=jt (x:=s) (hb _ m0)
 have bD:bq s.ab<=4294967296:=hp _ m0
 clear hp hb
 apply vE (let q0:=List bf×Int×PUnit;Fi s (0,(s.ab,s.Next,()),([],0,()),([],s.Next,()),())/\∀(y:Int×q0×q0×q0×PUnit),let x1:=y.2.1.1.getD y.1.toNat a_;let x3:=y.2.1.1.length;let x0:=[x1];let x2:=(↑x3:Int);let q1:=(wrap i64 (y.1+1),(y.2.1.1,y.2.1.2.1,()),(y.2.2.1.1,y.2.2.1.2.1,()),(y.2.2.2.1.1++x0,y.2.2.2.1.2.1,()),());Fi s y->bif decide (y.1<x2) then 0<=y.1/\y.1.toNat<x3/\0<=y.1/\y.1.toNat<x3/\L4 x1.F.ae.length/\L4 (y.2.2.2.1.1.length+x0.length)/\Fi s q1/\EH s q1<EH s y else Lf [DV.agg [CL .aP y.2.2.2.1.1,CI y.2.2.2.1.2.1]] [DV.agg [CL .aP s.ab,CI s.Next]])
 dsimp only
 refine⟨⟨rfl,rfl,by omega,by omega,rfl⟩,?_⟩
 rintro⟨i,⟨b1,b2,⟨⟩⟩,⟨r1,r2,⟨⟩⟩,⟨g1,g2,⟨⟩⟩,⟨⟩⟩ ⟨hb,hr,h1,h2,hg⟩
 cases hb
 cases hr
 cases hg
 simp only
 refine bT ?_ ?_<;>intro hc
 ·obtain⟨s1,s2⟩:=AD s.ab h1 hc
  have hk:=dW s.ab a_ h1 hc
  rw[wi]
  repeat' (first|refine And.intro (by omega) ?_|fail)
  exact⟨by simp only[od,n_,om];omega,⟨rfl,rfl,by omega,by omega,by rw[<-hk]⟩,by simp only[EH];omega⟩
 ·rw[cT s.ab (by omega)]
  exact aH _
def ant:=bB (α:=aj) (q1 (qA .cz)) [.ro] (fun x=>[L4 (bQ x)]) (fun x=>⟨[dA .cz x],[],[]⟩)
def aos:HH:=hF ant func35 [anJ,anI,RL,afi,afh] a0 fun(x:aj) hp hb=>by
 have bD:bQ x<=4294967296:=hp _ m0
 clear hp hb
 apply vE (bq x.S.ab<=4294967296/\L4 (cQ x.av)/\L4 (bz x.ai)/\L4 (ca x.ah)/\L4 (bx x.ao)/\Lf [DV.agg (br x)] [DV.agg (br x)])
 simp only[bQ,dr] at bD
 repeat' (first|refine And.intro (by omega) ?_|fail)
 exact aH _
def anz:=bB (α:=aj) (q1 (qA .cz)) [.ro] (fun x=>[L4 (bQ x)]) (fun x=>⟨[dA .cz x],[],[]⟩)
def aoB:HH:=hF anz func24 [an3,an2,afm,afl,afk] a0 fun(x:aj) hp hb=>by
 have bD:bQ x<=4294967296:=hp _ m0
 clear hp hb
 apply vE (bq x.S.ab<=4294967296/\L4 (cQ x.av)/\L4 (bz x.ai)/\L4 (ca x.ah)/\L4 (bx x.ao)/\Lf [DV.agg (br x)] [DV.agg (br x)])
 simp only[bQ,dr] at bD
 repeat' (first|refine And.intro (by omega) ?_|fail)
 exact aH _
theorem uf{a b:aj}(h:a=b):fz [DV.box [.sl .aP a.S.ab,CI a.S.Next,.sl .aI a.av,.sl .aw a.ai,.sl .ax a.ah,.sl .aW a.ao,CI a.State,CI a.ez]]=fz [DV.box [.sl .aP b.S.ab,CI b.S.Next,.sl .aI b.av,.sl .aw b.ai,.sl .ax b.ah,.sl .aW b.ao,CI b.State,CI b.ez]]:=by rw[h]
theorem ajb{a a':List ag}(h:a=a'):Lf [.one (.sl .aw a)] [.one (.sl .aw a')]:=by subst h;exact aH _
def lR(p:List (DA UU)->Option Value)(t:ag):Bool:= !bw (p [cb t])
def Iy(l:List ag)(q:ag->Bool)(xs:List ag)(dd:Nat->Bool)(i j:Int):Prop:=0<=i/\i<j/\j<=l.length/\xs.length=l.length/\xs.take i.toNat=(l.take j.toNat).filter q/\(∀k,j.toNat<=k->k<l.length->xs.getD k aq=l.getD k aq)/\(∀k,k<i.toNat->dd k=false)/\(∀k,j.toNat<=k->dd k=false)
theorem filter_all{α:Type}(q:α->Bool)(l:List α)(z:α)(n:Nat)(h:∀k,k<n->k<l.length->q (l.getD k z)=true):(l.take n).filter q=l.take n:=by
 rw[List.filter_eq_self]
 intro a ha
 obtain⟨j,hj,rfl⟩:=List.mem_take_iff_getElem.1 ha
 have:=h j (by omega) (by omega)
 rwa[fY,gg (by omega)] at this
theorem NT{l:List ag}{p:List (DA UU)->Option Value}(h:¬(ji l.length fun j=>bw (p [cb (l.getD j aq)]))= -1):Iy l (lR p) l (fun _=>false) (ji l.length fun j=>bw (p [cb (l.getD j aq)])) ((ji l.length fun j=>bw (p [cb (l.getD j aq)]))+1):=by
 rcases jh l.length (fun j=>bw (p [cb (l.getD j aq)])) with⟨h1,_⟩|⟨i,h2,h1,h3,h4⟩
 ·exact absurd h1 h
 ·rw[h1]
  have e:((i:Int)+1).toNat=i+1:=by omega
  refine⟨by omega,by omega,by omega,rfl,?_,fun _ _ _=>rfl,fun _ _=>rfl,fun _ _=>rfl⟩
  rw[e,UM,qy _ aq h2]
  have hk:lR p (l.getD i aq)=false:=by simp only[lR];rw[h3];rfl
  rw[hk,filter_all (lR p) l aq i (fun k hk _=>by simp only[lR];rw[h4 k hk];rfl)];simp
theorem NR{l:List ag}{p:List (DA UU)->Option Value}(h:(ji l.length fun j=>bw (p [cb (l.getD j aq)]))= -1):l.filter (lR p)=l:=by
 rcases jh l.length (fun j=>bw (p [cb (l.getD j aq)])) with⟨_,h1⟩|⟨i,_,h1,_⟩
 ·have:=filter_all (lR p) l aq l.length (fun k hk _=>by simp only[lR];rw[h1 k hk];rfl)
  rwa[List.take_length] at this
 ·omega
theorem NS{l:List ag}{q:ag->Bool}{xs:List ag}{dd:Nat->Bool}{i j:Int}(h:Iy l q xs dd i j)(hj:j<l.length)(hq:q (l.getD j.toNat aq)=true):Iy l q (xs.set i.toNat (l.getD j.toNat aq)) (fun k=> !Nat.beq k i.toNat&&(Nat.beq k j.toNat||dd k)) (i+1) (j+1):=by
 obtain⟨g1,g2,g3,g4,g5,g6,g7,g8⟩:=h
 have ei:(i+1).toNat=i.toNat+1:=by omega
 have ej:(j+1).toNat=j.toNat+1:=by omega
 refine⟨by omega,by omega,by omega,by rw[IW];exact g4,?_,fun k h1 h2=> ?_,fun k hk=> ?_,fun k hk=> ?_⟩
 ·rw[ei,ej,qy _ aq (by omega),<-g5,hq,if_pos rfl,Ax aq (by rw[IW];omega)]
  congr 1
  ·rw[List.take_set_of_le (by omega)]
  ·rw[fY,Zz (by omega)];rfl
 ·rw[fY,zek (by omega),<-fY]
  exact g6 k (by omega) h2
 ·show(!Nat.beq k i.toNat&&(Nat.beq k j.toNat||dd k))=false
  by_cases XJ:k=i.toNat
  ·rw[XJ];simp
  ·rw[g7 k (by omega),O0,show Nat.beq k j.toNat=false by rw[<-uK,FF];omega,xt]
 ·show(!Nat.beq k i.toNat&&(Nat.beq k j.toNat||dd k))=false
  rw[g8 k (by omega),O0,show Nat.beq k j.toNat=false by rw[<-uK,FF];omega,xt]
theorem NQ{l:List ag}{q:ag->Bool}{xs:List ag}{dd:Nat->Bool}{i j:Int}(h:Iy l q xs dd i j)(hj:j<l.length)(hq:q (l.getD j.toNat aq)=false):Iy l q xs (fun k=>Nat.beq k j.toNat||dd k) i (j+1):=by
 obtain⟨g1,g2,g3,g4,g5,g6,g7,g8⟩:=h
 have ej:(j+1).toNat=j.toNat+1:=by omega
 refine⟨by omega,by omega,by omega,g4,?_,fun k h1 h2=>g6 k (by omega) h2,fun k hk=> ?_,fun k hk=> ?_⟩
 ·rw[ej,qy _ aq (by omega),<-g5,hq];simp
 ·show(Nat.beq k j.toNat||dd k)=false
  rw[g7 k hk,O0,show Nat.beq k j.toNat=false by rw[<-uK,FF];omega]
 ·show(Nat.beq k j.toNat||dd k)=false
  rw[g8 k (by omega),O0,show Nat.beq k j.toNat=false by rw[<-uK,FF];omega]
end
end AM
