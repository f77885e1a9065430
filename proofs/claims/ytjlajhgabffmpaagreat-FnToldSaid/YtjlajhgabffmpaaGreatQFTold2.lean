/- Functions of the program with their contracts: put together by gen/link.py for FnTold. -/
import Derived.Test.YtjlajhgabffmpaaGreatQAmLib
import Derived.Test.YtjlajhgabffmpaaGreatQFTold
import Derived.Lib.ItoaLen
import Derived.Lib.Join
namespace AM
open Go Go.Proofs.Tryz Go.IntKind
set_option linter.unusedVariables false
set_option linter.unusedSimpArgs false
set_option maxRecDepth 100000
noncomputable section
def ant:=cj (α:=(List ak)×(List (DA UU)->Option Value)) (qC (qL .az) (q1 qF)) [.ro,.ro] (fun(l,p)=>[∀j:Nat,j<l.length->p [cz (l.getD j aE)]=some (.bool (bJ (p [cz (l.getD j aE)])))]) (fun(l,p)=>⟨[dO (anyI l.length (fun j=>bJ (p [cz (l.getD j aE)])))],[],[]⟩)
def aoj:HH:=hF ant func32 [abl] a0 fun x hp hb=>by
 obtain⟨l,p⟩:=x
 have fF:L9 l.length:=iv (hb _ m0)
 have bo:∀j:Nat,j<l.length->p [cz (l.getD j aE)]=some (.bool (bJ (p [cz (l.getD j aE)]))):=hp _ m0
 clear hp hb
 apply vE (let x0:=j7 (l.length) fun(j:Nat)=>bJ (p [cz (l.getD j aE)]);(∀(j:Nat),j<l.length->p [cz (l.getD j aE)]=some (Value.bool (bJ (p [cz (l.getD j aE)]))))/\Lb (decide (x0≥0)) (anyI (l.length) fun(j:Nat)=>bJ (p [cz (l.getD j aE)])))
 dsimp only
 exact⟨bo,ck (by rw[<-BN])⟩
def aeT:=cj (α:=List ak) (q1 (qL .az)) [.ro] (fun _=>[]) (fun l=>⟨[dO (o6 l)],[],[]⟩)
def Jl(l:List ak):Int×Unit->Prop:=fun(i,_)=>0<=i/\i<=l.length/\∀j:Nat,(j:Int)<i->jU (l.getD j aE)=false
def IL(l:List ak):Int×Unit->Nat:=fun(i,_)=>l.length-i.toNat
def aoL:AX aeT:=fun l=>bW [(2,aU [iI 3] (fun _=>Jl l) (IL l))]
def an3:HH:=hF aeT func69 [] aoL fun(l:List ak) hp hb=>by
 have fF:L9 l.length:=iv (hb _ m0)
 clear hp hb
 apply vE (Jl l (0,())/\∀(y:Int×PUnit),let q0:=(wrap i64 (y.1+1),());Jl l y->bif decide (y.1<(l.length:Int)) then 0<=y.1/\y.1.toNat<l.length/\bif (l.getD y.1.toNat aE).State==1 then Lb true (o6 l) else 0<=y.1/\y.1.toNat<l.length/\bif (l.getD y.1.toNat aE).State==2 then Lb true (o6 l) else Jl l q0/\IL l q0<IL l y else Lb false (o6 l))
 dsimp only
 refine⟨⟨by omega,by omega,by intro j hj;omega⟩,?_⟩
 rintro⟨i,⟨⟩⟩ ⟨h1,h2,hR⟩
 simp only
 refine aQ ?_ ?_<;>intro hc
 ·rw[wi]
  have hY:jU (l.getD i.toNat aE)=true->o6 l=true:=fun h=>iJ (j:=i.toNat) (by omega) h
  refine⟨by omega,by omega,bi (fun h=>nv (hY (by simp only[jU];grind))) (fun h=>⟨by omega,by omega,bi (fun g=>nv (hY (by simp only[jU];grind))) (fun g=>⟨⟨by omega,by omega,jk (p:=fun j=>jU (l.getD j aE)) h1 hR (by simp only[jU];grind)⟩,by simp only[IL];omega⟩)⟩)⟩
 ·exact bD (gz fun j hj=>hR j (by omega))
def ane:=cj (α:=aq) (q1 (qA .ct)) [.ro] (fun _=>[]) (fun x=>⟨[dO (mH x)],[],[]⟩)
def an2:HH:=hF ane func70 [] a0 fun(x:aq) hp hb=>by
 have aS:=hH (x:=x) (hb _ m0)
 have bC:=aS.1
 have cg:=aS.2.1
 have cf:=aS.2.2.1
 have bN:=aS.2.2.2.1
 have cd:=aS.2.2.2.2
 clear hp hb
 apply vE (bif x.State==3 then Lb true (mH x) else Lb (x.State==5) (mH x))
 simp only[mH]
 refine bi (fun h=>ck ?_) (fun h=>ck ?_)
 ·rw[decide_eq_true h,Bool.true_or]
 ·rw[decide_eq_false h,Gl]
  rw[FM];simp
def anA:=cj (α:=bp×aq) (qC (qA .h_) (q1 (qA .ct))) [.ro,.ro] (fun(d,x)=>[cG d<=4294967295,L4 (bY x.S.ab)]) (fun(d,x)=>⟨[dO (instOk d x)],[],[]⟩)
def aor:HH:=hF anA func19 [agC,an6,an5,agB,agA,tF,an4,agz,an3,an2] a0 fun x hp hb=>by
 obtain⟨d,x⟩:=x
 have aS:=gI (x:=d) (hb _ m0)
 have e_:=aS.1
 have ew:=aS.2
 have dw:=hH (x:=x) (hb _ m1)
 have bC:=dw.1
 have cg:=dw.2.1
 have cf:=dw.2.2.1
 have bN:=dw.2.2.2.1
 have cd:=dw.2.2.2.2
 have bo:cG d<=4294967295:=hp _ m0
 have fw:bY x.S.ab<=4294967296:=hp _ m1
 clear hp hb
 apply vE (let q0:=Lb false (instOk d x);let q1:=bif !mH x then Lb true (instOk d x) else Lb (decide ((x.ay.length:Int)>0)) (instOk d x);cG d<=4294967295/\bif !fQ d then q0 else bif !br x.S then q0 else bif !aT x.ap then q0 else bif !dx x.ax then q0 else bif !dD x.ay then q0 else bif !decide (1<=x.State/\x.State<=6) then q0 else bif !decide (0<=x.cJ/\x.cJ<=1000000000) then q0 else cG d<=4294967295/\L4 (bY x.S.ab)/\bif !iU d x then q0 else bif decide (x.State=2\/x.State=4\/x.State=6) then bif o6 x.ap then q0 else bif decide ((x.ax.length:Int)>0) then q0 else q1 else q1)
 dsimp only
 refine⟨bo,?_⟩
 have ht:decide ((x.ax.length:Int)>0)=decide (0<x.ax.length):=decide_eq_decide.2 (by omega)
 have hu:decide ((x.ay.length:Int)>0)=decide (0<x.ay.length):=decide_eq_decide.2 (by omega)
 simp only[instOk,mP,ht,hu]
 repeat' (first|refine And.intro fw ?_|refine And.intro bo (And.intro fw ?_)|refine ae (fun h=> ?_) (fun h=> ?_))
 all_goals (refine ck ?_;grind)
def Zk9:=cj (α:=bp×aq) (qC (qA .h_) (q1 (qA .ct))) [.ro,.ro] (fun(d,x)=>[cG d<=4294967295,L4 (bY x.S.ab)]) (fun(d,x)=>⟨[dO (instOk d x)],[],[]⟩)
def Zh9:HH:=hF Zk9 func9 [aop,aoo,agH,aon,aom,FH,abt,aol,aok,aoj,agG] a0 fun x hp hb=>by
 obtain⟨d,x⟩:=x
 have amH:gh (U:=UU) (.agg [.lit (.string d.Name),.sl .bz d.aw]):=hb _ m0
 have aS:=gI (x:=d) (hb _ m0)
 have e_:=aS.1
 have ew:=aS.2
 have SJ:gh (U:=UU) (.agg [.sl .aH x.S.ab,.lit (.int .i64 x.S.Next),.sl .aB x.aC,.sl .az x.ap,.sl .aI x.ax,.sl .aW x.ay,.lit (.int .i64 x.State),.lit (.int .i64 x.cJ)]):=hb _ m1
 have dw:=hH (x:=x) (hb _ m1)
 have bC:=dw.1
 have cg:=dw.2.1
 have cf:=dw.2.2.1
 have bN:=dw.2.2.2.1
 have cd:=dw.2.2.2.2
 have bo:cG d<=4294967295:=hp _ m0
 have fw:bY x.S.ab<=4294967296:=hp _ m1
 clear hp hb
 apply vE (let q0:=Lb false (instOk d x);let q1:=Lb (decide ((x.ay.length:Int)>0)) (instOk d x);bif !fQ d then q0 else bif !br x.S then q0 else bif !aT x.ap then q0 else bif !dx x.ax then q0 else bif !dD x.ay then q0 else bif !decide (1<=x.State/\x.State<=6) then q0 else bif !decide (0<=x.cJ/\x.cJ<=1000000000) then q0 else cG d<=4294967295/\L4 (bY x.S.ab)/\bif !iU d x then q0 else bif x.State==3 then q1 else bif x.State==5 then q1 else bif !decide (x.State=2\/x.State=4\/x.State=6) then Lb true (instOk d x) else bif (x.ax.length:Int)==0 then(∀(j:Nat),j<x.ap.length->gL Jb [] [cz (x.ap.getD j aE)]=some (Value.bool (bJ (gL Jb [] [cz (x.ap.getD j aE)]))))/\Lb (!anyI (x.ap.length) fun(j:Nat)=>bJ (gL Jb [] [cz (x.ap.getD j aE)])) (instOk d x) else q0)
 dsimp only
 have hc:∀t:ak,gL Jb [] [cz t]=some (.bool (jU t)):=fun t=>uR (x:=t) rfl rfl rfl rfl (by simp[Jb])
 have hl:(anyI x.ap.length fun j=>bJ (gL Jb [] [cz (x.ap.getD j aE)]))=o6 x.ap:=nL fun j hj=>by rw[hc];rfl
 have iH:∀j:Nat,j<x.ap.length->gL Jb [] [cz (x.ap.getD j aE)]=some (.bool (bJ (gL Jb [] [cz (x.ap.getD j aE)]))):=fun j hj=>by rw[hc];rfl
 have ht:((x.ax.length:Int)==0)= !decide (0<x.ax.length):=by rw[FM];simp
 have hu:decide ((x.ay.length:Int)>0)=decide (0<x.ay.length):=decide_eq_decide.2 (by omega)
 have h3:(x.State==3)=decide (x.State=3):=by rw[FM];simp
 have h5:(x.State==5)=decide (x.State=5):=by rw[FM];simp
 simp only[instOk,mP,mH,ht,hu,h3,h5,hl]
 repeat' (first|refine And.intro iH ?_|refine And.intro bo (And.intro fw ?_)|refine And.intro fw ?_|refine ae (fun h=> ?_) (fun h=> ?_))
 all_goals (refine ck ?_;clear iH hc hl ht hu h3 h5 amH SJ;grind)
theorem Zb{v:a_}(h:bO v=true):v.S.size<=21:=by
 simp only[bO] at h
 by_cases h1:v.K=1
 ·simp[h1] at h;rw[h.2];simp[aj]
 ·by_cases h2:v.K=2
  ·simp[h2] at h;omega
  ·simp[h1,h2] at h
theorem WL:∀{l:List a_},l.all bO=true->eO l<=22*l.length
 |[],_=>by simp[eO]
 |x::l,h=>by
  simp only[QV,cO] at h
  have h1:=WL h.2
  have h2:=Zb h.1
  simp only[eO,fY,wb,Mr,nR] at h1⊢
  omega
theorem o7{f:aJ}(h:bw f=true):f.ah.length<=5/\dj f<=145:=by
 simp only[bw,bq,cO,decide_eq_true_eq] at h
 obtain⟨⟨⟨⟨⟨_,h1⟩,_⟩,_⟩,h2⟩,h3⟩:=h
 have:=WL h3
 simp only[dj];omega
theorem wL{α:Type}(f:α->Nat)(B:Nat):∀(l:List α),(∀x∈l,f x<=B)->(l.map f).sum<=l.length*B
 |[],_=>by simp
 |x::l,h=>by
  have h1:=wL f B l (fun y hy=>h y (cI _ hy))
  have h2:=h x gB
  simp only[wb,Mr,fY,xv];omega
theorem yR{α:Type}{l:List α}{z:α}{p:Nat->Bool}{q:α->Prop}(h:allI l.length p=true)(hq:∀i,p i=true->q (l.getD i z)):∀x∈l,q x:=fun x hx=>by
 obtain⟨i,hi,rfl⟩:=sn hx
 have:=hq i (gg.1 h i hi)
 rwa[eX,fH hi] at this
theorem WM{u:BA}(h:fB u=true):u.size<=12:=by
 simp only[fB,bq,FL,cO,decide_eq_true_eq] at h
 rcases h with rfl|h
 ·simp[aj]
 ·exact h.1.1.2
theorem mh{a b:Int}{P Q:Prop}(h1:¬a=b->P)(h2:a=b->Q):bif a !=b then P else Q:=ae (fun h=>h1 (by simpa using h)) (fun h=>h2 (by simpa using h))
def xT(f:aJ)(jr:BA)(now:Int):ak:=⟨f,jr,1,0,now,ee⟩
def sU(l:List ak)(f:aJ):Bool:=anyI l.length fun k=>decide ((l.getD k aE).F=f)
def fI(l:List ak)(f:aJ)(jr:BA)(now:Int):List ak×Bool:=
 if sU l f=true then(l,true) else if 30<=l.length then(l,false) else(l++[xT f jr now],true)
def oj(l:List ak)(f:aJ)(jr:BA)(now:Int):Bool:=aT l&&bw f&&fB jr&&decide (0<=now/\now<=1000000000)
def gr(l:List ak)(f:aJ)(jr:BA)(now:Int):List ak×Bool:=if oj l f jr now=true then fI l f jr now else(l,false)
theorem MU(l:List ak)(f:aJ):decide (0<=placeOf l f)=sU l f:=BN
theorem J9{l:List ak}(h:aT l=true):l.length<=30:=by
 simp only[aT,cO,decide_eq_true_eq] at h;exact h.1
def X8:=cj (α:=(List ak)×aJ×BA×Int) (qC (qL .az) (qC (qA .dk) (qC qS (q1 qI)))) [.mv,.ro,.ro,.ro] (fun(l,f,jr,now)=>[L4 f.ah.length]) (fun(l,f,jr,now)=>⟨[dL .az ((fI l f jr now).1),dO ((fI l f jr now).2)],[],[]⟩)
def Dm(l:List ak)(f:aJ)(jr:BA)(now:Int):List ak×Int×T7×Unit->Prop:=fun(row,i,fb,_)=>row=l/\fb=(f.Kind,f.ah,())/\0<=i/\i<=l.length/\∀j:Nat,(j:Int)<i->decide ((l.getD j aE).F=f)=false
def Cy(l:List ak)(f:aJ)(jr:BA)(now:Int):List ak×Int×T7×Unit->Nat:=fun(row,i,fb,_)=>l.length-i.toNat
def ai3:AX X8:=fun(l,f,jr,now)=>bW [(2,aU [iO 0 .az,iI 10,.box 5 (5,1024) [.lit .str,.shr .bc]] (fun _=>Dm l f jr now) (Cy l f jr now))]
def TW:HH:=hF X8 func142 [FI,sd] ai3 fun x hp hb=>by
 obtain⟨l,f,jr,now⟩:=x
 have fF:L9 l.length:=iv (hb _ m0)
 have dw:=eh (x:=f) (hb _ m1)
 have dW:=dw.1
 have cF:=dw.2
 have VU:=Bg (s:=jr) (hb _ m2)
 have w6:=tg (n:=now) (hb _ m3)
 have bo:f.ah.length<=4294967296:=hp _ m0
 clear hp hb
 apply vE (let q0:=fI l f jr now;Dm l f jr now (l,0,(f.Kind,f.ah,()),())/\∀(y:List ak×Int×WA×PUnit),let x1:={Kind:=y.2.2.1.1,ah:=y.2.2.1.2.1:aJ};let x2:=y.2.1.toNat;let x3:=(y.1.length:Int);let x0:=[{F:=x1,aR:=jr,State:=(1:Int),bt:=(0:Int),jF:=now,V:={K:=(0:Int),N:=(0:Int),S:={data:= #[]:BA}:a_}:ak}];let q1:=(y.1,wrap i64 (y.2.1+1),(y.2.2.1.1,y.2.2.1.2.1,()),());Dm l f jr now y->bif decide (y.2.1<x3) then 0<=y.2.1/\x2<y.1.length/\x2<y.1.length/\x2<y.1.length/\bif decide ((y.1.getD x2 aE).F=x1) then Lf [VL .az y.1,VB true] [VL .az (q0.1),VB (q0.2)] else Dm l f jr now q1/\Cy l f jr now q1<Cy l f jr now y else bif decide (x3≥30) then Lf [VL .az y.1,VB false] [VL .az (q0.1),VB (q0.2)] else L4 y.2.2.1.2.1.length/\L4 (y.1.length+x0.length)/\Lf [VL .az (y.1++x0),VB true] [VL .az (q0.1),VB (q0.2)])
 dsimp only
 refine⟨⟨rfl,rfl,by omega,by omega,by intro j hj;omega⟩,?_⟩
 rintro⟨row,i,fb,⟨⟩⟩ ⟨rfl,rfl,h1,h2,hR⟩
 simp only
 refine ae ?_ ?_<;>intro hc
 ·have hc:=yT hc
  rw[wi]
  repeat' (first|refine And.intro (by omega) ?_|refine ae (fun h=> ?_) (fun h=> ?_)|fail)
  ·have ha:sU row f=true:=iJ (j:=i.toNat) (by omega) h
   simp only[fI,if_pos ha];exact bf _
  ·exact⟨⟨rfl,rfl,by omega,by omega,jk h1 hR h⟩,by simp only[Cy];omega⟩
 ·have hc:=yF hc
  have ha:¬sU row f=true:=by
   rw[wl];exact gz fun j hj=>hR j (by omega)
  refine ae ?_ ?_<;>intro h
  ·have h:=yT h
   simp only[fI,if_neg ha,if_pos (show 30<=row.length by omega)];exact bf _
  ·have h:=yF h
   repeat' (first|refine And.intro (by first|omega|(simp;omega)) ?_|fail)
   simp only[fI,if_neg ha,if_neg (show¬30<=row.length by omega)];exact bf _
def afO:=cj (α:=(List ak)×aJ×BA×Int) (qC (qL .az) (qC (qA .dk) (qC qS (q1 qI)))) [.ro,.ro,.ro,.ro] (fun(l,f,jr,now)=>[L4 (cC l),L4 f.ah.length]) (fun(l,f,jr,now)=>⟨[dL .az ((gr l f jr now).1),dO ((gr l f jr now).2)],[],[]⟩)
def ahh:HH:=hF afO func194 [abr,agH,QJ,TX,abt,agx,Bp] a0 fun x hp hb=>by
 obtain⟨l,f,jr,now⟩:=x
 have fF:L9 l.length:=iv (hb _ m0)
 have dw:=eh (x:=f) (hb _ m1)
 have dW:=dw.1
 have cF:=dw.2
 have VU:=Bg (s:=jr) (hb _ m2)
 have w6:=tg (n:=now) (hb _ m3)
 have bo:cC l<=4294967296:=hp _ m0
 have fw:f.ah.length<=4294967296:=hp _ m1
 clear hp hb
 apply vE (let x0:=[{F:=f,aR:=jr,State:=(1:Int),bt:=(0:Int),jF:=now,V:={K:=(0:Int),N:=(0:Int),S:={data:= #[]:BA}:a_}:ak}];let q0:=Lf [VL .az l,VB false] [VL .az ((gr l f jr now).1),VB ((gr l f jr now).2)];let q1:=gr l f jr now;L4 (cC l)/\bif !aT l then q0 else bif !bw f then q0 else bif !fB jr then q0 else bif !decide (0<=now/\now<=1000000000) then q0 else bif decide (placeOf l f≥0) then Lf [VL .az l,VB true] [VL .az (q1.1),VB (q1.2)] else bif (l.length:Int)==30 then q0 else L4 f.ah.length/\L4 (l.length+x0.length)/\Lf [VL .az (l++x0),VB true] [VL .az (q1.1),VB (q1.2)])
 dsimp only
 refine⟨bo,?_⟩
 have hN:oj l f jr now=false->Lf [.one (.sl .az l),.one (.lit (.bool false))] [.one (.sl .az (gr l f jr now).1),.one (.lit (.bool (gr l f jr now).2))]:=fun h=>by
  simp only[gr,h];exact bf _
 have A7:decide (placeOf l f≥0)=sU l f:=MU l f
 rw[A7]
 repeat' (first|refine And.intro (by first|omega|(simp;omega)) ?_|refine ae (fun h=> ?_) (fun h=> ?_)|fail)
 all_goals first
  |(refine hN ?_;simp only[oj];grind)
  |(have hy:oj l f jr now=true:=by simp only[oj];grind
    have hlen:=J9 (l:=l) (by simp only[oj] at hy;grind)
    simp only[gr,hy,if_true,fI]
    first
     |(rw[if_pos (by assumption)];exact bf _)
     |(rw[if_neg (by simp_all),if_pos (by(try simp_all);omega)];exact bf _)
     |(rw[if_neg (by simp_all),if_neg (by simp_all;omega)];exact⟨by simp;omega,bf _⟩))
theorem mw{l:List ak}:aT l=true↔l.length<=30/\(∀t∈l,gq t=true)/\(l.map ak.F).Nodup:=by
 have hg:∀{i:Nat}(h:i<l.length),l.getD i aE=l[i]:=fun{i} h=>by rw[eX,fH h];rfl
 simp only[aT,cO,decide_eq_true_eq]
 refine and_congr_right fun _=> ?_
 rw[yS]
 constructor
 ·intro h
  refine⟨fun t ht=> ?_,?_⟩
  ·obtain⟨i,hi,rfl⟩:=sn ht
   have:=h i hi
   simp only[jS,cO] at this
   rw[<-hg hi];exact this.1
  ·rw[List.Nodup,UA]
   intro i j hi hj FQ
   simp only[xp] at hi hj
   have:=h j hj
   simp only[jS,cO,ra] at this
   have:=ol.1 this.2 i FQ
   simp only[decide_eq_false_iff_not] at this
   rw[hg hi,hg hj] at this
   simpa using this
 ·rintro⟨h1,h2⟩ j hj
  simp only[jS,cO,ra]
  refine⟨by rw[hg hj];exact h1 _ (FJ hj),ol.2 fun i FQ=> ?_⟩
  have hi:i<l.length:=by omega
  rw[List.Nodup,UA] at h2
  have:=h2 i j (by simpa using hi) (by simpa using hj) FQ
  simp only[decide_eq_false_iff_not]
  rw[hg hi,hg hj]
  simpa using this
theorem AN{l:List ak}{f:ak->ak}(hF:∀t,(f t).F=t.F)(hf:∀t,gq t=true->gq (f t)=true)(h:aT l=true):aT (l.map f)=true:=by
 rw[mw] at h⊢
 refine⟨by simpa using h.1,fun t ht=> ?_,?_⟩
 ·obtain⟨t0,h0,rfl⟩:=l_.1 ht
  exact hf _ (h.2.1 _ h0)
 ·rw[List.map_map]
  have:ak.F∘f=ak.F:=funext hF
  rw[this];exact h.2.2
theorem oE{α β:Type}(g:α->β)(f:α->α)(hg:∀x,g (f x)=g x):∀(l:List α)(k:Nat),(l.modify k f).map g=l.map g
 |[],k=>by simp
 |x::l,0=>by simp[hg]
 |x::l,k+1=>by simp[oE g f hg l k]
theorem gp{t:ak}:gq t=true↔bw t.F=true/\fB t.aR=true/\(1<=t.State/\t.State<=4)/\(0<=t.bt/\t.bt<=4)/\(0<=t.jF/\t.jF<=1000001000)/\(t.V=ee\/bO t.V=true)/\((t.State=1->t.bt=0)/\(t.State=2->t.bt≠0)):=by
 simp only[gq,cO,FL,decide_eq_true_eq]
 constructor
 ·rintro⟨⟨⟨⟨⟨⟨h1,h2⟩,h3⟩,h4⟩,h5⟩,h6⟩,h7⟩;exact⟨h1,h2,h3,h4,h5,h6,h7⟩
 ·rintro⟨h1,h2,h3,h4,h5,h6,h7⟩;exact⟨⟨⟨⟨⟨⟨h1,h2⟩,h3⟩,h4⟩,h5⟩,h6⟩,h7⟩
theorem Qi(t:ak):(gF t).F=t.F:=by unfold gF;split<;>rfl
theorem pu{l:List ak}(h:aT l=true):aT (giveUp l)=true:=by
 refine AN Qi (fun t h=> ?_) h
 obtain⟨a1,a2,a3,a4,a5,a6,a7⟩:=gp.1 h
 unfold gF;split
 ·exact gp.2 ⟨a1,a2,by simp,a4,a5,a6,by simp⟩
 ·exact h
theorem Lg{l:List ak}{f:aJ}:sU l f=true↔f∈l.map ak.F:=by
 simp only[sU,yQ,decide_eq_true_eq,l_]
 constructor
 ·rintro⟨j,hj,rfl⟩
  rw[eX,fH hj]
  exact⟨l[j],FJ hj,rfl⟩
 ·rintro⟨t,ht,rfl⟩
  obtain⟨i,hi,rfl⟩:=sn ht
  exact⟨i,hi,by rw[eX,fH hi];rfl⟩
theorem nQ{l:List ak}{f:aJ}{u:BA}{now:Int}(h:aT l=true)(hf:bw f=true)(hu:fB u=true)(h0:0<=now)(h1:now<=1000001000):aT (fI l f u now).1=true:=by
 unfold fI;split
 ·exact h
 ·rename_i hn
  split
  ·exact h
  ·rename_i hl
   rw[mw] at h⊢
   refine⟨by simp only[kI,fY,fG];omega,fun t ht=> ?_,?_⟩
   ·rcases jO.1 ht with ht|ht
    ·exact h.2.1 t ht
    ·rw[mF.1 ht]
     exact gp.2 ⟨hf,hu,by simp[xT],by simp[xT],by simp only[xT];omega,.inl rfl,by simp[xT]⟩
   ·rw[Mp,rz]
    refine⟨h.2.2,by simp,?_⟩
    intro x hx y hy e
    rw[Lg] at hn
    simp only[wb,List.map_nil,mF] at hy
    rw[hy] at e;rw[e] at hx;exact hn hx
theorem wK{l:List ak}(h:aT l=true):l.length<=30/\cC l<=6000:=by
 obtain⟨h1,h2,_⟩:=mw.1 h
 have:=wL ly 180 l (fun t ht=>by
  obtain⟨a1,a2,_,_,_,a6,_⟩:=gp.1 (h2 t ht)
  have b1:=(o7 a1).2
  have b2:=WM a2
  have b3:nR t.V<=21:=by
   rcases a6 with e|e
   ·rw[e];decide
   ·exact Zb e
  simp only[ly];omega)
 simp only[cC];omega
theorem BF{l:List aK}(h:dx l=true):l.length<=30/\cY l<=6000:=by
 simp only[dx,cO,decide_eq_true_eq] at h
 have:=wL ie 145 l (yR (z:=cS) h.2 fun i hi=>by
  simp only[jR,iN,cO] at hi
  exact(o7 hi.1.2).2)
 simp only[cY];omega
theorem zz{l:List bj}(h:dD l=true):l.length<=30/\(∀u∈l,bw u.F=true)/\cx l<=20000:=by
 simp only[dD,cO,decide_eq_true_eq] at h
 have hf:∀u∈l,bw u.F=true:=yR (z:=bP) h.2 fun i hi=>by
  simp only[jQ,cO] at hi;exact hi.1.2
 have:=wL dJ 345 l (yR (z:=bP) h.2 fun i hi=>by
  simp only[jQ,cO,decide_eq_true_eq] at hi
  have:=(o7 hi.1.2).2
  simp only[dJ];omega)
 refine⟨h.1,hf,?_⟩
 simp only[cx];omega
theorem qq{l:List bj}(h:dD l=true)(hl:l≠[]):bw (bm l)=true:=by
 rw[bm,if_neg hl]
 have h0:l.length-1<l.length:=by have:=List.length_pos_iff.2 hl;omega
 rw[eX,fH h0]
 exact(zz h).2.1 _ (FJ h0)
def rq(x:aq)(st:Int):aq:=⟨x.S,x.aC,giveUp x.ap,[],x.ay,st,x.cJ⟩
def uA(l:List ak)(f:aJ):List ak:=l.filter fun t=> !decide (t.F=f)
def yg(l:List ak)(f:aJ):List ak:=if 30<=(uA l f).length then[] else uA l f
def ur(x:aq):List ak:=(fI (yg x.ap (bm x.ay)) (bm x.ay) aj x.cJ).1
def im(x:aq):aq:=if x.ay=[] then rq x (if x.State=5 then 6 else 4) else⟨x.S,x.aC,ur x,x.ax,x.ay,x.State,x.cJ⟩
def gK(x:aq)(st:Int):aq:=im (rq x st)
def cW(x:aq):Prop:=aT x.ap=true/\dD x.ay=true/\0<=x.cJ/\x.cJ<=1000000000
theorem GW{x:aq}(h:cW x)(st:Int):cW (rq x st):=⟨pu h.1,h.2⟩
theorem ul{l:List ak}(p:ak->Bool)(h:aT l=true):aT (l.filter p)=true:=by
 rw[mw] at h⊢
 refine⟨xo (Mq _ _) h.1,fun t ht=>h.2.1 t (zr.1 ht).1,?_⟩
 exact(List.filter_sublist.map ak.F).nodup h.2.2
theorem xC{l:List ak}(h:aT l=true)(f:aJ):aT (yg l f)=true:=by
 unfold yg;split
 ·rfl
 ·exact ul _ h
theorem O_{x:aq}(h:cW x)(hu:x.ay≠[]):(gr (yg x.ap (bm x.ay)) (bm x.ay) aj x.cJ).1=ur x:=by
 have hc:oj (yg x.ap (bm x.ay)) (bm x.ay) aj x.cJ=true:=by
  simp only[oj,xC h.1,qq h.2.1 hu,wk,cO,decide_eq_true_eq]
  exact⟨rfl,h.2.2⟩
 unfold gr ur;rw[if_pos hc]
theorem DM{x:aq}(h:cW x)(hu:x.ay≠[]):aT (ur x)=true:=
 nQ (xC h.1 _) (qq h.2.1 hu) rfl h.2.2.1 (by have:=h.2.2.2;omega)
theorem xD{α:Type}{l:List α}{i:Nat}(z:α)(h:i<l.length):l.take (i+1)=l.take i++[l.getD i z]:=by
 rw[zcz h,eX,fH h];rfl
theorem mn{α:Type}(q:α->Bool){l:List α}{i:Nat}(z:α)(h:i<l.length):(l.take (i+1)).filter q=(l.take i).filter q++(if q (l.getD i z)=true then[l.getD i z] else[]):=by
 rw[xD z h,List.filter_append]
 congr 1
 generalize List.getD l i z=x
 by_cases hq:q x=true<;>simp[hq]
def L6:=cj (α:=List Int) (q1 (qL .int)) [.ro] (fun l=>[L4 l.length]) (fun l=>⟨[dL .int l],[],[]⟩)
def T':AX L6:=fun l=>bW []
def TH:List (FuncId×kz UU):=[]
theorem aeo:A_ EE TH f150 L6 T' [] .int [] true=(Lf [VL .int []] [VL .int []]):=by kernel_rfl
theorem ael:A_ EE TH f150 L6 T' [] .int [] true:=by
 rw[aeo]
 exact bf _
theorem aez:Holds EE (150,L6):=by
 refine zT qZ func150 L6 (by kernel_rfl) rfl .int (fun x=>x) (fun _=>rfl) TH all_nil T' (fun(l:List Int) hp hb=> ?_)
 have fF:L9 l.length:=iv (hb _ m0)
 have bo:l.length<=4294967296:=hp _ m0
 clear hp hb
 refine⟨?_,fun h0=> ?_⟩
 rotate_left
 ·subst h0;exact ael
 apply vE (0+l.length<=4294967296/\Lf [VL .int ([]++l)] [VL .int l])
 exact⟨by simp;omega,bf _⟩
def ahO:HH:=⟨_,aez⟩
def L5:=cj (α:=List bV) (q1 (qL .cv)) [.ro] (fun l=>[L4 l.length]) (fun l=>⟨[dL .cv l],[],[]⟩)
def TZ:AX L5:=fun l=>bW []
def TG:List (FuncId×kz UU):=[]
theorem aen:A_ EE TG f151 L5 TZ [] .cv [] true=(Lf [VL .cv []] [VL .cv []]):=by kernel_rfl
theorem aek:A_ EE TG f151 L5 TZ [] .cv [] true:=by
 rw[aen]
 exact bf _
theorem aey:Holds EE (151,L5):=by
 refine zT qZ func151 L5 (by kernel_rfl) rfl .cv (fun x=>x) (fun _=>rfl) TG all_nil TZ (fun(l:List bV) hp hb=> ?_)
 have fF:L9 l.length:=iv (hb _ m0)
 have bo:l.length<=4294967296:=hp _ m0
 clear hp hb
 refine⟨?_,fun h0=> ?_⟩
 rotate_left
 ·subst h0;exact aek
 apply vE (0+l.length<=4294967296/\Lf [VL .cv ([]++l)] [VL .cv l])
 exact⟨by simp;omega,bf _⟩
def ahN:HH:=⟨_,aey⟩
def ags:=cj (α:=au) (q1 (qA .aB)) [.ro] (fun m=>[L4 m.eH.length,L4 m.bu.length]) (fun m=>⟨[dA .aB m],[],[]⟩)
def aif:HH:=hF ags func101 [ahO,ahN] a0 fun(m:au) hp hb=>by
 have aS:=gQ (x:=m) (hb _ m0)
 have pJ:=aS.1
 have mi:=aS.2
 have bo:m.eH.length<=4294967296:=hp _ m0
 have fw:m.bu.length<=4294967296:=hp _ m1
 clear hp hb
 apply vE (m.eH.length<=4294967296/\L4 m.bu.length/\Lf [DV.agg [CI m.cL,CL .int m.eH,CL .cv m.bu]] [DV.agg [CI m.cL,CL .int m.eH,CL .cv m.bu]])
 exact⟨bo,fw,bf _⟩
theorem DW(s:List bL){i:Int}(h1:0<=i)(h2:i<s.length):(s.getD i.toNat aX).F.ah.length<=bY s/\s.length<=bY s:=by
 have hs:=er j0 s aX h1 h2
 simp only[j0,dj,eO] at hs
 simp only[bY,j0,dj,eO];omega
theorem DU(l:List au){i:Int}(h1:0<=i)(h2:i<l.length):(l.getD i.toNat aV).eH.length<=fm l/\(l.getD i.toNat aV).bu.length<=fm l/\l.length<=fm l:=by
 have hs:=er js l aV h1 h2
 simp only[js,rC,rD] at hs
 simp only[fm,js,rC,rD];omega
def ae8:=cj (α:=List au) (q1 (qL .aB)) [.ro] (fun l=>[L4 (fm l)]) (fun l=>⟨[dL .aB l],[],[]⟩)
def JB(l:List au):List au×Int×Unit->Prop:=fun(out,i,_)=>0<=i/\i<=l.length/\out=l.take i.toNat
def I0(l:List au):List au×Int×Unit->Nat:=fun(out,i,_)=>l.length-i.toNat
def ao1:AX ae8:=fun l=>bW [(3,aU [iO 3 .aB,iI 8] (fun _=>JB l) (I0 l))]
def aob:HH:=hF ae8 func48 [aif] ao1 fun(l:List au) hp hb=>by
 have fF:L9 l.length:=iv (hb _ m0)
 have bo:fm l<=4294967296:=hp _ m0
 clear hp hb
 apply vE (JB l ([],0,())/\∀(y:List au×Int×PUnit),let x1:=y.2.1.toNat;let x0:=l.getD x1 aV;let q0:=(y.1++[x0],wrap i64 (y.2.1+1),());JB l y->bif decide (y.2.1<(l.length:Int)) then 0<=y.2.1/\x1<l.length/\L4 x0.eH.length/\L4 x0.bu.length/\y.1.length+List.length [x0]<=4294967296/\JB l q0/\I0 l q0<I0 l y else Lf [VL .aB y.1] [VL .aB l])
 dsimp only
 refine⟨⟨by omega,by omega,by simp⟩,?_⟩
 rintro⟨out,i,⟨⟩⟩ ⟨h1,h2,rfl⟩
 simp only
 refine aQ ?_ ?_<;>intro hc
 ·obtain⟨s1,s2,s3⟩:=DU l h1 hc
  have hk:=dH l aV h1 hc
  rw[wi]
  repeat' (first|refine And.intro (by first|omega|(simp only[fG];omega)) ?_|fail)
  exact⟨by simp only[oz,fY,fG];omega,⟨by omega,by omega,hk⟩,by simp only[I0];omega⟩
 ·rw[cM l (by omega)]
  exact bf _
def ae3:=cj (α:=List au) (q1 (qL .aB)) [.ro] (fun l=>[L4 (fm l)]) (fun l=>⟨[dL .aB l],[],[]⟩)
def Jw(l:List au):List au×Int×Unit->Prop:=fun(out,i,_)=>0<=i/\i<=l.length/\out=l.take i.toNat
def IV(l:List au):List au×Int×Unit->Nat:=fun(out,i,_)=>l.length-i.toNat
def aoV:AX ae3:=fun l=>bW [(3,aU [iO 3 .aB,iI 4] (fun _=>Jw l) (IV l))]
def an7:HH:=hF ae3 func57 [] aoV fun(l:List au) hp hb=>by
 have fF:L9 l.length:=iv (hb _ m0)
 have bo:fm l<=4294967296:=hp _ m0
 clear hp hb
 apply vE (Jw l ([],0,())/\∀(y:List au×Int×PUnit),let x2:=y.2.1.toNat;let x1:=l.getD x2 aV;let x0:=[{cL:=x1.cL,eH:=[]++x1.eH,bu:=[]++x1.bu:au}];let q0:=(y.1++x0,wrap i64 (y.2.1+1),());Jw l y->bif decide (y.2.1<(l.length:Int)) then 0<=y.2.1/\x2<l.length/\0<=y.2.1/\x2<l.length/\0+x1.eH.length<=4294967296/\0<=y.2.1/\x2<l.length/\0+x1.bu.length<=4294967296/\L4 (y.1.length+x0.length)/\Jw l q0/\IV l q0<IV l y else Lf [VL .aB y.1] [VL .aB l])
 dsimp only
 refine⟨⟨by omega,by omega,by simp⟩,?_⟩
 rintro⟨out,i,⟨⟩⟩ ⟨h1,h2,rfl⟩
 simp only
 refine aQ ?_ ?_<;>intro hc
 ·obtain⟨s1,s2,s3⟩:=DU l h1 hc
  have hk:=dH l aV h1 hc
  rw[wi]
  repeat' (first|refine And.intro (by first|omega|(simp only[fG];omega)) ?_|fail)
  exact⟨by simp only[oz,fY,fG];omega,⟨by omega,by omega,hk⟩,by simp only[IV];omega⟩
 ·rw[cM l (by omega)]
  exact bf _
def ae9:=cj (α:=aF) (q1 (qA .c_)) [.ro] (fun s=>[L4 (bY s.ab)]) (fun s=>⟨[dA .c_ s],[],[]⟩)
def JC(s:aF):Int×T3×T3×T3×Unit->Prop:=fun(i,b,r,g,_)=>b=(s.ab,s.Next,())/\r=([],0,())/\0<=i/\i<=s.ab.length/\g=(s.ab.take i.toNat,s.Next,())
def I1(s:aF):Int×T3×T3×T3×Unit->Nat:=fun(i,b,r,g,_)=>s.ab.length-i.toNat
def ao2:AX ae9:=fun s=>bW [(3,aU [iI 12,.box 1 (1,1024) [.shr .aH,.lit (.int .i64)],.box 2 (2,1024) [.own .aH true,.lit (.int .i64)],.box 3 (3,1024) [.own .aH true,.lit (.int .i64)]] (fun _=>JC s) (I1 s))]
def aoc:HH:=hF ae9 func47 [Bp] ao2 fun(s:aF) hp hb=>by
 have eQ:=ii (x:=s) (hb _ m0)
 have bo:bY s.ab<=4294967296:=hp _ m0
 clear hp hb
 apply vE (let q0:=List bL×Int×PUnit;JC s (0,(s.ab,s.Next,()),([],0,()),([],s.Next,()),())/\∀(y:Int×q0×q0×q0×PUnit),let x0:=[s.ab.getD y.1.toNat aX];let q1:=(wrap i64 (y.1+1),(y.2.1.1,y.2.1.2.1,()),(y.2.2.1.1,y.2.2.1.2.1,()),(y.2.2.2.1.1++x0,y.2.2.2.1.2.1,()),());JC s y->bif decide (y.1<(s.ab.length:Int)) then 0<=y.1/\y.1.toNat<s.ab.length/\(s.ab.getD y.1.toNat aX).F.ah.length<=4294967296/\L4 (y.2.2.2.1.1.length+x0.length)/\JC s q1/\I1 s q1<I1 s y else Lf [DV.agg [CL .aH y.2.2.2.1.1,CI y.2.2.2.1.2.1]] [DV.agg [CL .aH s.ab,CI s.Next]])
 dsimp only
 refine⟨⟨rfl,rfl,by omega,by omega,rfl⟩,?_⟩
 rintro⟨i,⟨b1,b2,⟨⟩⟩,⟨r1,r2,⟨⟩⟩,⟨g1,g2,⟨⟩⟩,⟨⟩⟩ ⟨hb,hr,h1,h2,hg⟩
 cases hb
 cases hr
 cases hg
 simp only
 refine aQ ?_ ?_<;>intro hc
 ·obtain⟨s1,s2⟩:=DW s.ab h1 hc
  have hk:=dH s.ab aX h1 hc
  rw[wi]
  repeat' (first|refine And.intro (by omega) ?_|fail)
  exact⟨by simp only[oz,fY,fG];omega,⟨rfl,rfl,by omega,by omega,by rw[<-hk]⟩,by simp only[I1];omega⟩
 ·rw[cM s.ab (by omega)]
  exact bf _
def ae4:=cj (α:=aF) (q1 (qA .c_)) [.ro] (fun s=>[L4 (bY s.ab)]) (fun s=>⟨[dA .c_ s],[],[]⟩)
def Jx(s:aF):Int×T3×T3×T3×Unit->Prop:=fun(i,b,r,g,_)=>b=(s.ab,s.Next,())/\r=([],0,())/\0<=i/\i<=s.ab.length/\g=(s.ab.take i.toNat,s.Next,())
def IW(s:aF):Int×T3×T3×T3×Unit->Nat:=fun(i,b,r,g,_)=>s.ab.length-i.toNat
def aoW:AX ae4:=fun s=>bW [(3,aU [iI 4,.box 1 (1,1024) [.shr .aH,.lit (.int .i64)],.box 2 (2,1024) [.own .aH true,.lit (.int .i64)],.box 3 (3,1024) [.own .aH true,.lit (.int .i64)]] (fun _=>Jx s) (IW s))]
def an8:HH:=hF ae4 func56 [sd] aoW fun(s:aF) hp hb=>by
 have eQ:=ii (x:=s) (hb _ m0)
 have bo:bY s.ab<=4294967296:=hp _ m0
 clear hp hb
 apply vE (let q0:=List bL×Int×PUnit;Jx s (0,(s.ab,s.Next,()),([],0,()),([],s.Next,()),())/\∀(y:Int×q0×q0×q0×PUnit),let x1:=y.2.1.1.getD y.1.toNat aX;let x3:=y.2.1.1.length;let x0:=[x1];let x2:=(↑x3:Int);let q1:=(wrap i64 (y.1+1),(y.2.1.1,y.2.1.2.1,()),(y.2.2.1.1,y.2.2.1.2.1,()),(y.2.2.2.1.1++x0,y.2.2.2.1.2.1,()),());Jx s y->bif decide (y.1<x2) then 0<=y.1/\y.1.toNat<x3/\0<=y.1/\y.1.toNat<x3/\L4 x1.F.ah.length/\L4 (y.2.2.2.1.1.length+x0.length)/\Jx s q1/\IW s q1<IW s y else Lf [DV.agg [CL .aH y.2.2.2.1.1,CI y.2.2.2.1.2.1]] [DV.agg [CL .aH s.ab,CI s.Next]])
 dsimp only
 refine⟨⟨rfl,rfl,by omega,by omega,rfl⟩,?_⟩
 rintro⟨i,⟨b1,b2,⟨⟩⟩,⟨r1,r2,⟨⟩⟩,⟨g1,g2,⟨⟩⟩,⟨⟩⟩ ⟨hb,hr,h1,h2,hg⟩
 cases hb
 cases hr
 cases hg
 simp only
 refine aQ ?_ ?_<;>intro hc
 ·obtain⟨s1,s2⟩:=DW s.ab h1 hc
  have hk:=dH s.ab aX h1 hc
  rw[wi]
  repeat' (first|refine And.intro (by omega) ?_|fail)
  exact⟨by simp only[oz,fY,fG];omega,⟨rfl,rfl,by omega,by omega,by rw[<-hk]⟩,by simp only[IW];omega⟩
 ·rw[cM s.ab (by omega)]
  exact bf _
def anD:=cj (α:=aq) (q1 (qA .ct)) [.ro] (fun x=>[L4 (dy x)]) (fun x=>⟨[dA .ct x],[],[]⟩)
def aou:HH:=hF anD func15 [aoc,aob,abr,aoa,an_] a0 fun(x:aq) hp hb=>by
 have aS:=hH (x:=x) (hb _ m0)
 have bC:=aS.1
 have cg:=aS.2.1
 have cf:=aS.2.2.1
 have bN:=aS.2.2.2.1
 have cd:=aS.2.2.2.2
 have bo:dy x<=4294967296:=hp _ m0
 clear hp hb
 apply vE (bY x.S.ab<=4294967296/\L4 (fm x.aC)/\L4 (cC x.ap)/\L4 (cY x.ax)/\L4 (cx x.ay)/\Lf [DV.agg (aA x)] [DV.agg (aA x)])
 simp only[dy,j9] at bo
 repeat' (first|refine And.intro (by omega) ?_|fail)
 exact bf _
def anB:=cj (α:=aq) (q1 (qA .ct)) [.ro] (fun x=>[L4 (dy x)]) (fun x=>⟨[dA .ct x],[],[]⟩)
def aos:HH:=hF anB func18 [an8,an7,agD,abp,abo] a0 fun(x:aq) hp hb=>by
 have aS:=hH (x:=x) (hb _ m0)
 have bC:=aS.1
 have cg:=aS.2.1
 have cf:=aS.2.2.1
 have bN:=aS.2.2.2.1
 have cd:=aS.2.2.2.2
 have bo:dy x<=4294967296:=hp _ m0
 clear hp hb
 apply vE (bY x.S.ab<=4294967296/\L4 (fm x.aC)/\L4 (cC x.ap)/\L4 (cY x.ax)/\L4 (cx x.ay)/\Lf [DV.agg (aA x)] [DV.agg (aA x)])
 simp only[dy,j9] at bo
 repeat' (first|refine And.intro (by omega) ?_|fail)
 exact bf _
theorem nB{a b:aq}(h:a=b):dZ [DV.box [.sl .aH a.S.ab,CI a.S.Next,.sl .aB a.aC,.sl .az a.ap,.sl .aI a.ax,.sl .aW a.ay,CI a.State,CI a.cJ]]=dZ [DV.box [.sl .aH b.S.ab,CI b.S.Next,.sl .aB b.aC,.sl .az b.ap,.sl .aI b.ax,.sl .aW b.ay,CI b.State,CI b.cJ]]:=by rw[h]
theorem LfX{a a':aq}{b b':Bool}(h1:a=a')(h2:b=b'):Lf [.agg [.sl .aH a.S.ab,CI a.S.Next,.sl .aB a.aC,.sl .az a.ap,.sl .aI a.ax,.sl .aW a.ay,CI a.State,CI a.cJ],.one (.lit (.bool b))] [.agg [.sl .aH a'.S.ab,CI a'.S.Next,.sl .aB a'.aC,.sl .az a'.ap,.sl .aI a'.ax,.sl .aW a'.ay,CI a'.State,CI a'.cJ],.one (.lit (.bool b'))]:=by
 subst h1 h2;exact bf _
theorem ajn{a a':List ak}(h:a=a'):Lf [.one (.sl .az a)] [.one (.sl .az a')]:=by subst h;exact bf _
def ng(p:List (DA UU)->Option Value)(t:ak):Bool:= !bJ (p [cz t])
def Nz(l:List ak)(q:ak->Bool)(xs:List ak)(dd:Nat->Bool)(i j:Int):Prop:=0<=i/\i<j/\j<=l.length/\xs.length=l.length/\xs.take i.toNat=(l.take j.toNat).filter q/\(∀k,j.toNat<=k->k<l.length->xs.getD k aE=l.getD k aE)/\(∀k,k<i.toNat->dd k=false)/\(∀k,j.toNat<=k->dd k=false)
theorem filter_all{α:Type}(q:α->Bool)(l:List α)(z:α)(n:Nat)(h:∀k,k<n->k<l.length->q (l.getD k z)=true):(l.take n).filter q=l.take n:=by
 rw[List.filter_eq_self]
 intro a ha
 obtain⟨j,hj,rfl⟩:=List.mem_take_iff_getElem.1 ha
 have:=h j (by omega) (by omega)
 rwa[eX,fH (by omega)] at this
theorem Tc{l:List ak}{p:List (DA UU)->Option Value}(h:¬(j7 l.length fun j=>bJ (p [cz (l.getD j aE)]))= -1):Nz l (ng p) l (fun _=>false) (j7 l.length fun j=>bJ (p [cz (l.getD j aE)])) ((j7 l.length fun j=>bJ (p [cz (l.getD j aE)]))+1):=by
 rcases ik l.length (fun j=>bJ (p [cz (l.getD j aE)])) with⟨h1,_⟩|⟨i,h2,h1,h3,h4⟩
 ·exact absurd h1 h
 ·rw[h1]
  have e:((i:Int)+1).toNat=i+1:=by omega
  refine⟨by omega,by omega,by omega,rfl,?_,fun _ _ _=>rfl,fun _ _=>rfl,fun _ _=>rfl⟩
  rw[e,YW,mn _ aE h2]
  have hk:ng p (l.getD i aE)=false:=by simp only[ng];rw[h3];rfl
  rw[hk,filter_all (ng p) l aE i (fun k hk _=>by simp only[ng];rw[h4 k hk];rfl)];simp
theorem Ta{l:List ak}{p:List (DA UU)->Option Value}(h:(j7 l.length fun j=>bJ (p [cz (l.getD j aE)]))= -1):l.filter (ng p)=l:=by
 rcases ik l.length (fun j=>bJ (p [cz (l.getD j aE)])) with⟨_,h1⟩|⟨i,_,h1,_⟩
 ·have:=filter_all (ng p) l aE l.length (fun k hk _=>by simp only[ng];rw[h1 k hk];rfl)
  rwa[List.take_length] at this
 ·omega
theorem Tb{l:List ak}{q:ak->Bool}{xs:List ak}{dd:Nat->Bool}{i j:Int}(h:Nz l q xs dd i j)(hj:j<l.length)(hq:q (l.getD j.toNat aE)=true):Nz l q (xs.set i.toNat (l.getD j.toNat aE)) (fun k=> !Nat.beq k i.toNat&&(Nat.beq k j.toNat||dd k)) (i+1) (j+1):=by
 obtain⟨g1,g2,g3,g4,g5,g6,g7,g8⟩:=h
 have ei:(i+1).toNat=i.toNat+1:=by omega
 have ej:(j+1).toNat=j.toNat+1:=by omega
 refine⟨by omega,by omega,by omega,by rw[Md];exact g4,?_,fun k h1 h2=> ?_,fun k hk=> ?_,fun k hk=> ?_⟩
 ·rw[ei,ej,mn _ aE (by omega),<-g5,hq,if_pos rfl,xD aE (by rw[Md];omega)]
  congr 1
  ·rw[List.take_set_of_le (by omega)]
  ·rw[eX,zdp (by omega)];rfl
 ·rw[eX,zek (by omega),<-eX]
  exact g6 k (by omega) h2
 ·show(!Nat.beq k i.toNat&&(Nat.beq k j.toNat||dd k))=false
  by_cases VX:k=i.toNat
  ·rw[VX];simp
  ·rw[g7 k (by omega),QT,show Nat.beq k j.toNat=false by rw[<-wl,JU];omega,tI]
 ·show(!Nat.beq k i.toNat&&(Nat.beq k j.toNat||dd k))=false
  rw[g8 k (by omega),QT,show Nat.beq k j.toNat=false by rw[<-wl,JU];omega,tI]
theorem S_{l:List ak}{q:ak->Bool}{xs:List ak}{dd:Nat->Bool}{i j:Int}(h:Nz l q xs dd i j)(hj:j<l.length)(hq:q (l.getD j.toNat aE)=false):Nz l q xs (fun k=>Nat.beq k j.toNat||dd k) i (j+1):=by
 obtain⟨g1,g2,g3,g4,g5,g6,g7,g8⟩:=h
 have ej:(j+1).toNat=j.toNat+1:=by omega
 refine⟨by omega,by omega,by omega,g4,?_,fun k h1 h2=>g6 k (by omega) h2,fun k hk=> ?_,fun k hk=> ?_⟩
 ·rw[ej,mn _ aE (by omega),<-g5,hq];simp
 ·show(Nat.beq k j.toNat||dd k)=false
  rw[g7 k hk,QT,show Nat.beq k j.toNat=false by rw[<-wl,JU];omega]
 ·show(Nat.beq k j.toNat||dd k)=false
  rw[g8 k (by omega),QT,show Nat.beq k j.toNat=false by rw[<-wl,JU];omega]
theorem GV{d:bp}{x:aq}(h:instOk d x=true):cW x:=by
 simp only[instOk,cO,decide_eq_true_eq] at h
 exact⟨h.1.1.1.1.1.1.1.2,h.1.1.1.1.1.2,h.1.1.1.2⟩
def XH:=cj (α:=(List ak)×(List (DA UU)->Option Value)) (qC (qL .az) (q1 qF)) [.mv,.ro] (fun(l,p)=>[∀j:Nat,j<l.length->p [cz (l.getD j aE)]=some (.bool (bJ (p [cz (l.getD j aE)])))]) (fun(l,p)=>⟨[dL .az (l.filter (ng p))],[],[]⟩)
def y_(l:List ak)(p:(List (DA UU)->Option Value)):(List ak×(Nat->Bool))×Int×Int×Unit->Prop:=fun((xs,dd),i,j,_)=>Nz l (ng p) xs dd i j
def tm(l:List ak)(p:(List (DA UU)->Option Value)):(List ak×(Nat->Bool))×Int×Int×Unit->Nat:=fun((xs,dd),i,j,_)=>l.length-j.toNat
def aiC:AX XH:=fun(l,p)=>bW [(5,aU [.slot 0 (0,1024) (.part .az),iI 5,iI 6] (fun _=>y_ l p) (tm l p))]
def ahj:HH:=hF XH func192 [abl] aiC fun x hp hb=>by
 obtain⟨l,p⟩:=x
 have fF:L9 l.length:=iv (hb _ m0)
 have bo:∀j:Nat,j<l.length->p [cz (l.getD j aE)]=some (.bool (bJ (p [cz (l.getD j aE)]))):=hp _ m0
 clear hp hb
 apply vE (let x0:=j7 (l.length) fun(j:Nat)=>bJ (p [cz (l.getD j aE)]);(∀(j:Nat),j<l.length->p [cz (l.getD j aE)]=some (Value.bool (bJ (p [cz (l.getD j aE)]))))/\bif x0==(-1) then Lf [VL .az l] [VL .az (l.filter (ng p))] else y_ l p ((l,fun(x:Nat)=>false),x0,wrap i64 (x0+1),())/\∀(y:(List ak×(Nat->Bool))×Int×Int×PUnit),let x4:=y.2.2.1.toNat;let x5:=y.fst.1.length;let x6:=Option.getD (some y.2.1) 0;let x9:=y.2.1.toNat;let x2:=y.fst.1.getD x4 aE;let x3:=(↑x5:Int);let x8:=Option.getD (some y.2.1) x3;let x1:=bJ (p [{agg:=true,cs:=[CS x2.F.Kind,CL .bc x2.F.ah,CS x2.aR,CI x2.State,CI x2.bt,CI x2.jF,CI x2.V.K,CI x2.V.N,CS x2.V.S]:DA UU}]);let x7:=x8.toNat;let q0:=y.2.2.1+1;y_ l p y->bif decide (y.2.2.1<x3) then 0<=y.2.2.1/\x4<x5/\x4<x5/\y.fst.2 x4=false/\p [{agg:=true,cs:=[CS x2.F.Kind,CL .bc x2.F.ah,CS x2.aR,CI x2.State,CI x2.bt,CI x2.jF,CI x2.V.K,CI x2.V.N,CS x2.V.S]:DA UU}]=some (Value.bool x1)/\bif !x1 then 0<=y.2.1/\x9<x5/\x9<x5/\y_ l p ((y.fst.1.set x9 x2,fun(j:Nat)=> !Nat.beq j x9&&(Nat.beq j x4||y.fst.2 j)),wrap i64 (y.2.1+1),wrap i64 q0,())/\tm l p ((y.fst.1.set x9 x2,fun(j:Nat)=> !Nat.beq j x9&&(Nat.beq j x4||y.fst.2 j)),wrap i64 (y.2.1+1),wrap i64 q0,())<tm l p y else y_ l p ((y.fst.1,fun(j:Nat)=>Nat.beq j x4||y.fst.2 j),y.2.1,wrap i64 q0,())/\tm l p ((y.fst.1,fun(j:Nat)=>Nat.beq j x4||y.fst.2 j),y.2.1,wrap i64 q0,())<tm l p y else 0<=x6/\x6<=Option.getD none x3/\Option.getD none x3<=x3/\x6.toNat<=Int.toNat (Option.getD none x3)/\Int.toNat (Option.getD none x3)=x5/\0<=Option.getD none (0:Int)/\Option.getD none (0:Int)<=x8/\x8<=x3/\Nat.le x7 x5/\(∀(i:Nat),i<x7->(y.fst.2 i||Nat.ble x6.toNat i)=false)/\Lf [VL .az (y.fst.1.take x7)] [VL .az (l.filter (ng p))])
 dsimp only
 refine⟨bo,bi (fun h=> ?_) (fun h=> ?_)⟩
 ·exact ajn (Ta h).symm
 have hI:=Tc h
 have hI2:=hI
 obtain⟨h1,_,h2,_⟩:=hI2
 rw[wi]
 refine⟨hI,?_⟩
 clear hI h1 h2 h
 rintro⟨⟨xs,dd⟩,i,j,⟨⟩⟩ hI
 have hI:Nz l (ng p) xs dd i j:=hI
 have hI2:=hI
 obtain⟨g1,g2,g3,g4,g5,g6,g7,g8⟩:=hI2
 simp only[Gm,Uk]
 refine aQ ?_ ?_<;>intro hc
 ·have ej:xs.getD j.toNat aE=l.getD j.toNat aE:=g6 _ (tR _) (by omega)
  rw[ej,wi (n:=i+1),wi (n:=j+1)]
  refine⟨by omega,by omega,by omega,g8 _ (tR _),bo j.toNat (by omega),bE (fun g=> ?_) (fun g=> ?_)⟩
  ·have hq:ng p (l.getD j.toNat aE)=true:=by
    show(!bJ (p [cz (l.getD j.toNat aE)]))=true
    rw[show bJ (p [cz (l.getD j.toNat aE)])=false from g];rfl
   exact⟨g1,by omega,by omega,Tb hI (by omega) hq,by simp only[tm];omega⟩
  ·have hq:ng p (l.getD j.toNat aE)=false:=by
    show(!bJ (p [cz (l.getD j.toNat aE)]))=false
    rw[show bJ (p [cz (l.getD j.toNat aE)])=true from g];rfl
   exact⟨S_ hI (by omega) hq,by simp only[tm];omega⟩
 ·have e:l.take j.toNat=l:=Ul (by omega)
  rw[e] at g5
  refine⟨by omega,by omega,by omega,by omega,by omega,by omega,by omega,by omega,(show i.toNat<=xs.length by omega),fun k hk=> ?_,ajn g5⟩
  rw[g7 k hk,Gl,<-wl,QS];omega
def af5:=cj (α:=aq×Int) (qC (qX .ct) (q1 qI)) [.box true,.ro] (fun(x,state)=>[aT x.ap=true]) (fun(x,state)=>⟨[],[],[dX .ct (rq x state)]⟩)
def YC:HH:=hF af5 func153 [ahl] a0 fun x hp hb=>by
 obtain⟨x,state⟩:=x
 have aS:=fe (x:=x) (hb _ m0)
 have bC:=aS.1
 have cg:=aS.2.1
 have cf:=aS.2.2.1
 have bN:=aS.2.2.2.1
 have cd:=aS.2.2.2.2
 have EC:=tg (n:=state) (hb _ m1)
 have bo:aT x.ap=true:=hp _ m0
 clear hp hb
 apply vE (cC x.ap<=4294967296/\LM [] [] [DV.box [CL .aH x.S.ab,CI x.S.Next,CL .aB x.aC,CL .az (giveUp x.ap),CL .aI [],CL .aW x.ay,CI state,CI x.cJ]] [DV.box (aA (rq x state))])
 have:=(wK bo).2
 exact⟨by omega,rfl,rfl,rfl⟩
def Fv:kz UU where
 α:=ak×aJ
 md:=[.ro,.ro]
 of:=oC (oA .az) (o1 (oP .dk))
 ds:=fun x=>[dA .az x.1,dP .dk x.2]
 pre:=fun _=>[]
 pj:=fun(t,f)=>⟨[dO (decide (t.F=f))],[],[]⟩
 law:=lC (lA .az) (l1 (lP .dk))
def ahi:HH:=hF Fv func193 [Wx] a0 fun x hp hb=>by
 obtain⟨t,f⟩:=x
 have aS:=pY (x:=t) (hb _ m0)
 have mB:=aS.1
 have kc:=aS.2.1
 have pk:=aS.2.2.1
 have rL:=aS.2.2.2
 have dw:=Hm (x:=f) (hb _ m1)
 have dW:=dw.1
 have cF:=dw.2
 clear hp hb
 apply vE (Lb (decide (t.F=f)) (decide (t.F=f)))
 exact bf _
def af4:=cj (α:=aq) (q1 (qX .ct)) [.box true] (fun x=>[cW x,x.State=3\/x.State=5]) (fun x=>⟨[],[],[dX .ct (im x)]⟩)
def ahM:HH:=hF af4 func154 [ahk,YC,ahj,ahi,ahh] a0 fun(x:aq) hp hb=>by
 have aS:=fe (x:=x) (hb _ m0)
 have bC:=aS.1
 have cg:=aS.2.1
 have cf:=aS.2.2.1
 have bN:=aS.2.2.2.1
 have cd:=aS.2.2.2.2
 have bo:cW x:=hp _ m0
 have fw:x.State=3\/x.State=5:=hp _ m1
 clear hp hb
 apply vE (let x0:=x.ap.filter (ng (gL Fv [DV.ptr [CS ((bm x.ay).Kind),CL .bc (bm x.ay).ah]]));let q0:=bm x.ay;let q1:=aA (im x);L4 (cx x.ay)/\bif !decide ¬x.ay=[] then bif x.State==5 then aT x.ap=true/\LM [] [] [DV.box (aA (rq x 6))] [DV.box q1] else aT x.ap=true/\LM [] [] [DV.box (aA (rq x 4))] [DV.box q1] else(∀(j:Nat),j<x.ap.length->gL Fv [DV.ptr [CS (q0.Kind),CL .bc q0.ah]] [cz (x.ap.getD j aE)]=some (Value.bool (bJ (gL Fv [DV.ptr [CS (q0.Kind),CL .bc q0.ah]] [cz (x.ap.getD j aE)]))))/\bif decide ((x0.length:Int)≥30) then cC []<=4294967296/\L4 q0.ah.length/\LM [] [] [DV.box [CL .aH x.S.ab,CI x.S.Next,CL .aB x.aC,CL .az (gr [] {Kind:=q0.Kind,ah:=q0.ah:aJ} {data:= #[]:BA} x.cJ).1,CL .aI x.ax,CL .aW x.ay,CI x.State,CI x.cJ]] [DV.box q1] else L4 (cC x0)/\L4 q0.ah.length/\LM [] [] [DV.box [CL .aH x.S.ab,CI x.S.Next,CL .aB x.aC,CL .az (gr {τ:=Cd.az,xs:=x0:jh UU}.xs {Kind:=q0.Kind,ah:=q0.ah:aJ} {data:= #[]:BA} x.cJ).1,CL .aI x.ax,CL .aW x.ay,CI x.State,CI x.cJ]] [DV.box q1])
 dsimp only
 have Ur:=bo
 obtain⟨q1,q2,q3,q4⟩:=bo
 have k3:=(zz q2).2.2
 have hc:∀t:ak,gL Fv [.ptr [.lit (.string (bm x.ay).Kind),.sl .bc (bm x.ay).ah]] [cz t]=some (.bool (decide (t.F=bm x.ay))):=fun t=>uR (x:=(t,bm x.ay)) rfl rfl rfl rfl (by simp[Fv])
 have hx:x.ap.filter (ng (gL Fv [.ptr [.lit (.string (bm x.ay).Kind),.sl .bc (bm x.ay).ah]]))=uA x.ap (bm x.ay):=by
  unfold uA;congr 1;funext t;unfold ng;rw[hc];rfl
 simp only[hx]
 have hs:=(wK (ul (fun t=> !decide (t.F=bm x.ay)) q1)).2
 have hs:cC (uA x.ap (bm x.ay))<=6000:=hs
 refine⟨by omega,bE (fun h=> ?_) (fun h=> ?_)⟩
 ·have hu:x.ay=[]:=by simpa using h
  refine bi (fun g=>⟨q1,by trivial,by trivial,nB ?_⟩) (fun g=>⟨q1,by trivial,by trivial,nB ?_⟩)
  ·rw[im,if_pos hu,if_pos g]
  ·rw[im,if_pos hu,if_neg g]
 ·have hu:¬x.ay=[]:=by simpa using h
  have hf:=(o7 (qq q2 hu)).1
  have e:=O_ Ur hu
  have eb:im x=⟨x.S,x.aC,ur x,x.ax,x.ay,x.State,x.cJ⟩:=if_neg hu
  refine⟨fun j hj=>by rw[hc];rfl,aQ (fun g=> ?_) (fun g=> ?_)⟩
  ·rw[show yg x.ap (bm x.ay)=[] from if_pos (by omega)] at e
   exact⟨by simp[cC],by omega,by trivial,by trivial,nB (a:=⟨x.S,x.aC,(gr [] (bm x.ay) aj x.cJ).1,x.ax,x.ay,x.State,x.cJ⟩) (by rw[e,eb])⟩
  ·rw[show yg x.ap (bm x.ay)=uA x.ap (bm x.ay) from if_neg (by omega)] at e
   exact⟨by omega,by omega,by trivial,by trivial,nB (a:=⟨x.S,x.aC,(gr (uA x.ap (bm x.ay)) (bm x.ay) aj x.cJ).1,x.ax,x.ay,x.State,x.cJ⟩) (by rw[e,eb])⟩
def agq:=cj (α:=aq×Int) (qC (qX .ct) (q1 qI)) [.box true,.ro] (fun(x,state)=>[cW x,state=3\/state=5]) (fun(x,state)=>⟨[],[],[dX .ct (gK x state)]⟩)
def aie:HH:=hF agq func104 [YC,ahM] a0 fun x hp hb=>by
 obtain⟨x,state⟩:=x
 have aS:=fe (x:=x) (hb _ m0)
 have bC:=aS.1
 have cg:=aS.2.1
 have cf:=aS.2.2.1
 have bN:=aS.2.2.2.1
 have cd:=aS.2.2.2.2
 have EC:=tg (n:=state) (hb _ m1)
 have bo:cW x:=hp _ m0
 have fw:state=3\/state=5:=hp _ m1
 clear hp hb
 apply vE (aT x.ap=true/\cW (rq x state)/\((rq x state).State=3\/(rq x state).State=5)/\LM [] [] [DV.box (aA (im (rq x state)))] [DV.box (aA (gK x state))])
 exact⟨bo.1,GW bo _,fw,rfl,rfl,rfl⟩
def anh:=cj (α:=aq) (q1 (qX .ct)) [.box true] (fun x=>[cW x]) (fun x=>⟨[],[],[dX .ct (gK x 3)]⟩)
def an9:HH:=hF anh func55 [aie] a0 fun(x:aq) hp hb=>by
 have aS:=fe (x:=x) (hb _ m0)
 have bC:=aS.1
 have cg:=aS.2.1
 have cf:=aS.2.2.1
 have bN:=aS.2.2.2.1
 have cd:=aS.2.2.2.2
 have bo:cW x:=hp _ m0
 clear hp hb
 apply vE (cW x/\((3:Int)=(3:Int)\/(3:Int)=(5:Int))/\LM [] [] [DV.box (aA (gK x 3))] [DV.box (aA (gK x 3))])
 exact⟨bo,.inl rfl,rfl,rfl,rfl⟩
def af0:=cj (α:=aq×Int) (qC (qX .ct) (q1 qI)) [.box true,.ro] (fun(x,state)=>[aT x.ap=true]) (fun(x,state)=>⟨[],[],[dX .ct (rq x state)]⟩)
def YA:HH:=hF af0 func163 [YK] a0 fun x hp hb=>by
 obtain⟨x,state⟩:=x
 have aS:=fe (x:=x) (hb _ m0)
 have bC:=aS.1
 have cg:=aS.2.1
 have cf:=aS.2.2.1
 have bN:=aS.2.2.2.1
 have cd:=aS.2.2.2.2
 have EC:=tg (n:=state) (hb _ m1)
 have bo:aT x.ap=true:=hp _ m0
 clear hp hb
 apply vE (cC x.ap<=4294967296/\LM [] [] [DV.box [CL .aH x.S.ab,CI x.S.Next,CL .aB x.aC,CL .az (giveUp x.ap),CL .aI [],CL .aW x.ay,CI state,CI x.cJ]] [DV.box (aA (rq x state))])
 have:=(wK bo).2
 exact⟨by omega,rfl,rfl,rfl⟩
def Yg:=cj (α:=aq) (q1 (qX .ct)) [.box true] (fun x=>[cW x,x.State=3\/x.State=5]) (fun x=>⟨[],[],[dX .ct (im x)]⟩)
def zn(x:aq):List ak×Int×T7×(List bL×Int×List au×(List ak×(Nat->Bool))×List aK×List bj×Int×Int×Unit)×Unit->Prop:=fun(l,i,f,(gi,gn,gf,(gt,dd),gm,gu,gs,gw,_),_)=>f=((bm x.ay).Kind,(bm x.ay).ah,())/\(gi,gn,gf,gt,gm,gu,gs,gw)=(x.S.ab,x.S.Next,x.aC,x.ap,x.ax,x.ay,x.State,x.cJ)/\¬x.ay=[]/\0<=i/\i<=x.ap.length/\l=uA (x.ap.take i.toNat) (bm x.ay)/\∀k,i.toNat<=k->dd k=false
def tz(x:aq):List ak×Int×T7×(List bL×Int×List au×(List ak×(Nat->Bool))×List aK×List bj×Int×Int×Unit)×Unit->Nat:=fun(l,i,f,(gi,gn,gf,(gt,dd),gm,gu,gs,gw,_),_)=>x.ap.length-i.toNat
def ajc:AX Yg:=fun x=>bW [(7,aU [iO 4 .az,iI 5,.box 2 (2,1024) [.lit .str,.own .bc true],.box 0 (2000000,0) [.own .aH true,.lit (.int .i64),.own .aB true,.part .az,.own .aI true,.own .aW true,.lit (.int .i64),.lit (.int .i64)]] (fun _=>zn x) (tz x))]
def YJ:HH:=hF Yg func118 [ahF,YA,FI,TW] ajc fun(x:aq) hp hb=>by
 have aS:=fe (x:=x) (hb _ m0)
 have bC:=aS.1
 have cg:=aS.2.1
 have cf:=aS.2.2.1
 have bN:=aS.2.2.2.1
 have cd:=aS.2.2.2.2
 have bo:cW x:=hp _ m0
 have fw:x.State=3\/x.State=5:=hp _ m1
 clear hp hb
 apply vE (cx x.ay<=4294967296/\bif !decide ¬x.ay=[] then bif x.State==3 then aT x.ap=true/\LM [] [] [DV.box (aA (rq x 4))] [DV.box (aA (im x))] else aT x.ap=true/\LM [] [] [DV.box (aA (rq x 6))] [DV.box (aA (im x))] else zn x ([],0,((bm x.ay).Kind,(bm x.ay).ah,()),(x.S.ab,x.S.Next,x.aC,(x.ap,fun(x:Nat)=>false),x.ax,x.ay,x.State,x.cJ,()),())/\∀(y:List ak×Int×WA×(List bL×Int×List au×(List ak×(Nat->Bool))×List aK×List bj×Int×Int×PUnit)×PUnit),let x0:={Kind:=y.2.2.1.1,ah:={τ:=Cd.bc,xs:=y.2.2.1.2.1:jh UU}.xs:aJ};let x3:=y.2.1.toNat;let x5:=y.2.2.2.1.2.2.2.1.1.length;let x6:=wrap i64 (y.2.1+1);let x2:=y.2.2.2.1.2.2.2.1.1.getD x3 aE;let x4:=(↑x5:Int);let x1:=[x2];let q0:=(y.1,x6,(y.2.2.1.1,y.2.2.1.2.1,()),(y.2.2.2.1.1,y.2.2.2.1.2.1,y.2.2.2.1.2.2.1,(y.2.2.2.1.2.2.2.1.1,y.2.2.2.1.2.2.2.1.2),y.2.2.2.1.2.2.2.2.1,y.2.2.2.1.2.2.2.2.2.1,y.2.2.2.1.2.2.2.2.2.2.1,y.2.2.2.1.2.2.2.2.2.2.2.1,()),());zn x y->bif decide (y.2.1<x4) then 0<=y.2.1/\x3<x5/\x3<x5/\y.2.2.2.1.2.2.2.1.2 x3=false/\y.2.2.2.1.2.2.2.1.2 x3=false/\x3<x5/\bif !decide (x2.F={Kind:=y.2.2.1.1,ah:=y.2.2.1.2.1:aJ}) then 0<=y.2.1/\x3<x5/\x3<x5/\y.2.2.2.1.2.2.2.1.2 x3=false/\L4 (y.1.length+x1.length)/\zn x (y.1++x1,x6,(y.2.2.1.1,y.2.2.1.2.1,()),(y.2.2.2.1.1,y.2.2.2.1.2.1,y.2.2.2.1.2.2.1,(y.2.2.2.1.2.2.2.1.1,fun(j:Nat)=>Nat.beq j x3||y.2.2.2.1.2.2.2.1.2 j),y.2.2.2.1.2.2.2.2.1,y.2.2.2.1.2.2.2.2.2.1,y.2.2.2.1.2.2.2.2.2.2.1,y.2.2.2.1.2.2.2.2.2.2.2.1,()),())/\tz x (y.1++x1,x6,(y.2.2.1.1,y.2.2.1.2.1,()),(y.2.2.2.1.1,y.2.2.2.1.2.1,y.2.2.2.1.2.2.1,(y.2.2.2.1.2.2.2.1.1,fun(j:Nat)=>Nat.beq j x3||y.2.2.2.1.2.2.2.1.2 j),y.2.2.2.1.2.2.2.2.1,y.2.2.2.1.2.2.2.2.2.1,y.2.2.2.1.2.2.2.2.2.2.1,y.2.2.2.1.2.2.2.2.2.2.2.1,()),())<tz x y else zn x q0/\tz x q0<tz x y else bif decide ((y.1.length:Int)≥30) then L4 y.2.2.1.2.1.length/\LM [] [] [DV.box [CL .aH y.2.2.2.1.1,CI y.2.2.2.1.2.1,CL .aB y.2.2.2.1.2.2.1,CL .az (fI {τ:=Cd.az,xs:=[]:jh UU}.xs x0 {data:= #[]:BA} y.2.2.2.1.2.2.2.2.2.2.2.1).1,CL .aI y.2.2.2.1.2.2.2.2.1,CL .aW y.2.2.2.1.2.2.2.2.2.1,CI y.2.2.2.1.2.2.2.2.2.2.1,CI y.2.2.2.1.2.2.2.2.2.2.2.1]] [DV.box (aA (im x))] else L4 y.2.2.1.2.1.length/\LM [] [] [DV.box [CL .aH y.2.2.2.1.1,CI y.2.2.2.1.2.1,CL .aB y.2.2.2.1.2.2.1,CL .az (fI {τ:=Cd.az,xs:=y.1:jh UU}.xs x0 {data:= #[]:BA} y.2.2.2.1.2.2.2.2.2.2.2.1).1,CL .aI y.2.2.2.1.2.2.2.2.1,CL .aW y.2.2.2.1.2.2.2.2.2.1,CI y.2.2.2.1.2.2.2.2.2.2.1,CI y.2.2.2.1.2.2.2.2.2.2.2.1]] [DV.box (aA (im x))])
 dsimp only
 have Ur:=bo
 obtain⟨q1,q2,q3,q4⟩:=bo
 have k3:=(zz q2).2.2
 have k4:=(wK q1).1
 refine⟨by omega,bE (fun h=> ?_) (fun h=> ?_)⟩
 ·have hu:x.ay=[]:=by simpa using h
  refine bi (fun g=>⟨q1,by trivial,by trivial,nB ?_⟩) (fun g=>⟨q1,by trivial,by trivial,nB ?_⟩)
  ·rw[im,if_pos hu,if_neg (by omega)]
  ·rw[im,if_pos hu,if_pos (by omega)]
 have hu:¬x.ay=[]:=by simpa using h
 have hf:=(o7 (qq q2 hu)).1
 have eb:im x=⟨x.S,x.aC,ur x,x.ax,x.ay,x.State,x.cJ⟩:=if_neg hu
 refine⟨⟨rfl,rfl,hu,by omega,by omega,rfl,fun _ _=>rfl⟩,?_⟩
 rintro⟨l,i,⟨f1,f2,⟨⟩⟩,⟨gi,gn,gf,⟨gt,dd⟩,gm,gu,gs,gw,⟨⟩⟩,⟨⟩⟩ ⟨hF,hG,-,h1,h2,hl,hd⟩
 cases hF
 cases hG
 subst hl
 simp only
 refine aQ ?_ ?_<;>intro hc
 ·have hn:i.toNat<x.ap.length:=by omega
  have ei:(i+1).toNat=i.toNat+1:=by omega
  have qB:=mn (fun t:ak=> !decide (t.F=bm x.ay)) aE hn
  have hlen:(uA (x.ap.take i.toNat) (bm x.ay)).length<=i.toNat:=xo (Mq _ _) (by simp;omega)
  rw[wi (n:=i+1)]
  refine⟨h1,hn,hn,hd _ (tR _),hd _ (tR _),hn,bE (fun g=> ?_) (fun g=> ?_)⟩
  ·refine⟨h1,hn,hn,hd _ (tR _),by simp only[fY,fG];omega,⟨rfl,rfl,hu,by omega,by omega,?_,fun k hk=> ?_⟩,by simp only[tz];omega⟩
   ·rw[ei];refine Eq.trans ?_ qB.symm
    rw[if_pos (by rw[show decide ((x.ap.getD i.toNat aE).F=bm x.ay)=false from g];rfl)];rfl
   ·show(Nat.beq k i.toNat||dd k)=false
    rw[hd k (by omega),QT,<-wl,JU];omega
  ·refine⟨⟨rfl,rfl,hu,by omega,by omega,?_,fun k hk=>hd k (by omega)⟩,by simp only[tz];omega⟩
   rw[ei];refine Eq.trans ?_ qB.symm
   rw[if_neg (by rw[show decide ((x.ap.getD i.toNat aE).F=bm x.ay)=true from g];decide),xr];rfl
 ·rw[cM x.ap (by omega)]
  refine aQ (fun g=>⟨by omega,by trivial,by trivial,?_⟩) (fun g=>⟨by omega,by trivial,by trivial,?_⟩)
  ·refine nB (a:=⟨x.S,x.aC,(fI [] (bm x.ay) aj x.cJ).1,x.ax,x.ay,x.State,x.cJ⟩) ?_
   rw[eb,ur,show yg x.ap (bm x.ay)=[] from if_pos (by omega)]
  ·refine nB (a:=⟨x.S,x.aC,(fI (uA x.ap (bm x.ay)) (bm x.ay) aj x.cJ).1,x.ax,x.ay,x.State,x.cJ⟩) ?_
   rw[eb,ur,show yg x.ap (bm x.ay)=uA x.ap (bm x.ay) from if_neg (by omega)]
def anb:=cj (α:=aq×Int) (qC (qX .ct) (q1 qI)) [.box true,.ro] (fun(x,state)=>[cW x,state=3\/state=5]) (fun(x,state)=>⟨[],[],[dX .ct (gK x state)]⟩)
def TN:HH:=hF anb func74 [YK,YJ] a0 fun x hp hb=>by
 obtain⟨x,state⟩:=x
 have aS:=fe (x:=x) (hb _ m0)
 have bC:=aS.1
 have cg:=aS.2.1
 have cf:=aS.2.2.1
 have bN:=aS.2.2.2.1
 have cd:=aS.2.2.2.2
 have EC:=tg (n:=state) (hb _ m1)
 have bo:cW x:=hp _ m0
 have fw:state=3\/state=5:=hp _ m1
 clear hp hb
 apply vE (let x1:={S:=x.S,aC:=x.aC,ap:=giveUp x.ap,ax:=[],ay:=x.ay,State:=state,cJ:=x.cJ:aq};let x0:=im x1;L4 (cC x.ap)/\cW x1/\(state=3\/state=5)/\LM [] [] [DV.box (aA x0)] [DV.box (aA (gK x state))])
 dsimp only
 have:=(wK bo.1).2
 exact⟨by omega,GW bo state,fw,rfl,rfl,rfl⟩
def rcs(l:List Value):List (AC UU):=l.map fun v=> .c (.lit v)
theorem ajk{a b:Int}(h:a=b):dZ [DV.one (Cell.lit (Value.int .i64 a))]=dZ [DV.one (Cell.lit (Value.int .i64 b))]:=by rw[h]
def bZ(s:aF)(f:aJ):aF×Int:=if¬iS s.ab f=0 then(s,iS s.ab f) else if 40<=s.ab.length\/s.Next=1000000 then(s,0) else(⟨s.ab++[⟨s.Next,f⟩],s.Next+1⟩,s.Next)
theorem jH{s:aF}(h:br s=true):1<=s.Next/\s.Next<=1000000/\s.ab.length<=40/\(∀x∈s.ab,bw x.F=true/\1<=x.Id):=by
 simp only[br,cO,decide_eq_true_eq] at h
 refine⟨h.1.1.1,h.1.1.2,h.1.2,yR (z:=aX) h.2 fun i hi=> ?_⟩
 simp only[oH,jX,cO,decide_eq_true_eq] at hi
 exact⟨hi.1.1.1.1,hi.1.1.1.2⟩
theorem Oc{s:aF}(h:br s=true)(f:aJ):0<=iS s.ab f:=by
 unfold iS;split
 ·omega
 ·rename_i hn
  rcases ik s.ab.length (fun k=>decide ((s.ab.getD k aX).F=f)) with⟨h1,_⟩|⟨i,h2,h1,_,_⟩
  ·exact absurd h1 hn
  ·have e:Ex s.ab f=(i:Int):=h1
   rw[e,YW,eX,fH h2]
   have:=((jH h).2.2.2 _ (FJ h2)).2
   show 0<=(s.ab[i]).Id
   omega
theorem Bj{s:aF}(h:br s=true){f:aJ}(h0:(bZ s f).2=0):(bZ s f).1=s:=by
 unfold bZ at h0⊢
 split
 ·rfl
 ·rename_i h1
  rw[if_neg h1] at h0
  split
  ·rfl
  ·rename_i h2
   rw[if_neg h2] at h0
   have:=(jH h).1
   simp only at h0;omega
def tK(x:aq)(s:aF):aq:=⟨s,x.aC,x.ap,x.ax,x.ay,x.State,x.cJ⟩
def du(x:aq)(f:aJ):aq:=if(bZ x.S f).2=0 then gK x 3 else tK x (bZ x.S f).1
def iy(d:bp)(x:aq)(f:aJ):Bool:=decide (x.State=1)&&bw f&&instOk d x
def lx(d:bp)(x:aq)(f:aJ):aq:=if iy d x f then du x f else x
theorem vk{d:bp}{x:aq}{f:aJ}(h:iy d x f=false):Lf [.agg [.sl .aH x.S.ab,CI x.S.Next,.sl .aB x.aC,.sl .az x.ap,.sl .aI x.ax,.sl .aW x.ay,CI x.State,CI x.cJ],.one (.lit (.bool false))] [.agg [.sl .aH (lx d x f).S.ab,CI ((lx d x f).S.Next),.sl .aB (lx d x f).aC,.sl .az (lx d x f).ap,.sl .aI (lx d x f).ax,.sl .aW (lx d x f).ay,CI ((lx d x f).State),CI ((lx d x f).cJ)],.one (.lit (.bool (iy d x f)))]:=
 LfX (by rw[lx,h];rfl) h.symm
theorem DR{d:bp}{x:aq}(h:instOk d x=true):br x.S=true:=by
 simp only[instOk,cO] at h
 exact h.1.1.1.1.1.1.1.1.2
def agu:=cj (α:=aF×aJ) (qC (qA .c_) (q1 (qA .dk))) [.ro,.ro] (fun _=>[]) (fun(s,f)=>⟨[dI (iS s.ab f)],[],[]⟩)
def JP(s:aF)(f:aJ):Int×T3×T7×Unit->Prop:=fun(i,b,g,_)=>b=(s.ab,s.Next,())/\g=(f.Kind,f.ah,())/\0<=i/\i<=s.ab.length/\∀j:Nat,(j:Int)<i->decide ((s.ab.getD j aX).F=f)=false
def Ja(s:aF)(f:aJ):Int×T3×T7×Unit->Nat:=fun(i,b,g,_)=>s.ab.length-i.toNat
def apf:AX agu:=fun(s,f)=>bW [(2,aU [iI 10,.box 2 (2,1024) [.shr .aH,.lit (.int .i64)],.box 3 (3,1024) [.lit .str,.shr .bc]] (fun _=>JP s f) (Ja s f))]
def aih:HH:=hF agu func10 [Wx] apf fun x hp hb=>by
 obtain⟨s,f⟩:=x
 have eQ:=ii (x:=s) (hb _ m0)
 have dw:=eh (x:=f) (hb _ m1)
 have dW:=dw.1
 have cF:=dw.2
 clear hp hb
 apply vE (JP s f (0,(s.ab,s.Next,()),(f.Kind,f.ah,()),())/\∀(y:Int×NJ×WA×PUnit),let q0:=(wrap i64 (y.1+1),(y.2.1.1,y.2.1.2.1,()),(y.2.2.1.1,y.2.2.1.2.1,()),());JP s f y->bif decide (y.1<(s.ab.length:Int)) then 0<=y.1/\y.1.toNat<s.ab.length/\bif decide ((s.ab.getD y.1.toNat aX).F={Kind:=y.2.2.1.1,ah:=y.2.2.1.2.1:aJ}) then Li ((s.ab.getD y.1.toNat aX).Id) (iS s.ab f) else JP s f q0/\Ja s f q0<Ja s f y else Li 0 (iS s.ab f))
 dsimp only
 refine⟨⟨rfl,rfl,by omega,by omega,by intro j hj;omega⟩,?_⟩
 rintro⟨i,⟨b1,b2,⟨⟩⟩,⟨g1,g2,⟨⟩⟩,⟨⟩⟩ ⟨rP,hg,h1,h2,hR⟩
 cases rP
 cases hg
 simp only
 refine aQ ?_ ?_<;>intro hc
 ·rw[wi]
  refine⟨by omega,by omega,aQ (fun h=>oT ?_) (fun h=>⟨⟨rfl,rfl,by omega,by omega,jk (p:=fun j=>decide ((s.ab.getD j aX).F=f)) h1 hR (decide_eq_false h)⟩,by simp only[Ja];omega⟩)⟩
  have e:Ex s.ab f=(i.toNat:Int):=fL (i:=i.toNat) (by omega) (decide_eq_true h) (fun j hj=>hR j (by omega))
  rw[iS,e,if_neg (by omega),YW]
 ·refine oT ?_
  have e:Ex s.ab f= -1:=jx (fun j hj=>hR j (by omega))
  rw[iS,if_pos e]
def abj:=aad 6 0 (α:=aF×aJ) (qC (qX .c_) (q1 (qA .dk))) [.box true,.ro] (fun(s,f)=>[br s=true,L4 f.ah.length]) (fun(s,f)=>⟨[dI ((bZ s f).2),dO (decide (¬(bZ s f).2=0))],[],[dX .c_ ((bZ s f).1)]⟩)
def aoX:AX abj:=fun(s,f)=>bW []
def amW:=us [aih,Bp]
theorem amX:Holds EE (54,abj):=by
 refine zS qZ func54 abj (by kernel_rfl) rfl amW (xz _) aoX (fun x hp hb rest lG=> ?_)
 obtain⟨s,f⟩:=x
 have eQ:=nJ (x:=s) (hb _ m0)
 have dw:=eh (x:=f) (hb _ m1)
 have dW:=dw.1
 have cF:=dw.2
 have bo:br s=true:=hp _ m0
 have fw:f.ah.length<=4294967296:=hp _ m1
 clear hp hb
 have lG:rest.length=6:=lG
 match rest,lG with
 |[r0,r1,r2,r3,r4,r5],_=>
 apply vE (let q0:=dZ [DV.box [CL .aH s.ab,CI s.Next]]=dZ [DV.box [CL .aH (bZ s f).1.ab,CI ((bZ s f).1.Next)]];let q1:=rcs [r0,r1,r2,r3,r4,r5];let q2:=decide ¬(bZ s f).2=0;let q3:=dZ [VI 0,VB false]=dZ [VI ((bZ s f).2),VB q2]/\q0;bif iS s.ab f !=0 then List.length (α:=AC UU) q1=List.length [r0,r1,r2,r3,r4,r5]/\q1=List.map (fun(v:Value)=>(AC.c (Cell.lit v):AC UU)) [r0,r1,r2,r3,r4,r5]/\dZ [VI (iS s.ab f),VB true]=dZ [VI ((bZ s f).2),VB q2]/\q0 else bif decide ((s.ab.length:Int)≥40) then List.length (α:=AC UU) q1=List.length [r0,r1,r2,r3,r4,r5]/\q1=List.map (fun(v:Value)=>(AC.c (Cell.lit v):AC UU)) [r0,r1,r2,r3,r4,r5]/\q3 else bif s.Next==1000000 then List.length (α:=AC UU) q1=List.length [r0,r1,r2,r3,r4,r5]/\q1=List.map (fun(v:Value)=>(AC.c (Cell.lit v):AC UU)) [r0,r1,r2,r3,r4,r5]/\q3 else L4 f.ah.length/\s.ab.length+List.length [{Id:=s.Next,F:=f:bL}]<=4294967296/\List.length (α:=AC UU) q1=List.length [r0,r1,r2,r3,r4,r5]/\q1=List.map (fun(v:Value)=>(AC.c (Cell.lit v):AC UU)) [r0,r1,r2,r3,r4,r5]/\dZ [VI (wrap i64 (wrap i64 (s.Next+1)-1)),VB true]=dZ [VI ((bZ s f).2),VB q2]/\dZ [DV.box [CL .aH (s.ab++[{Id:=s.Next,F:=f:bL}]),CI (wrap i64 (s.Next+1))]]=dZ [DV.box [CL .aH (bZ s f).1.ab,CI ((bZ s f).1.Next)]])
 dsimp only
 obtain⟨s1,s2,s3,s4⟩:=jH bo
 refine mh (fun h=>⟨rfl,rfl,?_⟩) (fun h=>aQ (fun h2=>⟨rfl,rfl,?_⟩) (fun h2=>bi (fun h3=>⟨rfl,rfl,?_⟩) (fun h3=> ?_)))
 ·have e:bZ s f=(s,iS s.ab f):=if_pos h
  rw[e,decide_eq_true h];exact⟨rfl,rfl⟩
 ·have e:bZ s f=(s,0):=(if_neg (by omega)).trans (if_pos (.inl (by omega)))
  rw[e];exact⟨rfl,rfl⟩
 ·have e:bZ s f=(s,0):=(if_neg (by omega)).trans (if_pos (.inr h3))
  rw[e];exact⟨rfl,rfl⟩
 ·have e:bZ s f=(⟨s.ab++[⟨s.Next,f⟩],s.Next+1⟩,s.Next):=(if_neg (by omega)).trans (if_neg (by omega))
  rw[e,wi (n:=s.Next+1),wi,show s.Next+1-1=s.Next by omega,decide_eq_true (show¬(s.Next=0) by omega)]
  exact⟨fw,by simp only[fY,fG];omega,rfl,rfl,rfl,rfl⟩
def an':HH:=⟨_,amX⟩
def NI:=aad 6 0 (α:=aF×aJ) (qC (qX .c_) (q1 (qA .dk))) [.box true,.ro] (fun(s,f)=>[br s=true,L4 f.ah.length]) (fun(s,f)=>⟨[dI ((bZ s f).2)],[],[dX .c_ ((bZ s f).1)]⟩)
def abw:AX NI:=fun(s,f)=>bW []
def abh:=us [OY,sd]
theorem abi:Holds EE (73,NI):=by
 refine zS qZ func73 NI (by kernel_rfl) rfl abh (xz _) abw (fun x hp hb rest lG=> ?_)
 obtain⟨s,f⟩:=x
 have eQ:=nJ (x:=s) (hb _ m0)
 have dw:=eh (x:=f) (hb _ m1)
 have dW:=dw.1
 have cF:=dw.2
 have bo:br s=true:=hp _ m0
 have fw:f.ah.length<=4294967296:=hp _ m1
 clear hp hb
 have lG:rest.length=6:=lG
 match rest,lG with
 |[r0,r1,r2,r3,r4,r5],_=>
 apply vE (let q0:=dZ [DV.box [CL .aH s.ab,CI s.Next]]=dZ [DV.box [CL .aH (bZ s f).1.ab,CI ((bZ s f).1.Next)]];let q1:=rcs [r0,r1,r2,r3,r4,r5];let q2:=bZ s f;let q3:=dZ [VI 0]=dZ [VI (q2.2)]/\q0;bif decide (iS s.ab f>0) then List.length (α:=AC UU) q1=List.length [r0,r1,r2,r3,r4,r5]/\q1=List.map (fun(v:Value)=>(AC.c (Cell.lit v):AC UU)) [r0,r1,r2,r3,r4,r5]/\dZ [VI (iS s.ab f)]=dZ [VI (q2.2)]/\q0 else bif decide ((s.ab.length:Int)≥40) then List.length (α:=AC UU) q1=List.length [r0,r1,r2,r3,r4,r5]/\q1=List.map (fun(v:Value)=>(AC.c (Cell.lit v):AC UU)) [r0,r1,r2,r3,r4,r5]/\q3 else bif decide (s.Next≥1000000) then List.length (α:=AC UU) q1=List.length [r0,r1,r2,r3,r4,r5]/\q1=List.map (fun(v:Value)=>(AC.c (Cell.lit v):AC UU)) [r0,r1,r2,r3,r4,r5]/\q3 else L4 f.ah.length/\s.ab.length+List.length [{Id:=s.Next,F:=f:bL}]<=4294967296/\List.length (α:=AC UU) q1=List.length [r0,r1,r2,r3,r4,r5]/\q1=List.map (fun(v:Value)=>(AC.c (Cell.lit v):AC UU)) [r0,r1,r2,r3,r4,r5]/\dZ [VI (wrap i64 (wrap i64 (s.Next+1)-1))]=dZ [VI (q2.2)]/\dZ [DV.box [CL .aH (s.ab++[{Id:=s.Next,F:=f:bL}]),CI (wrap i64 (s.Next+1))]]=dZ [DV.box [CL .aH q2.1.ab,CI (q2.1.Next)]])
 dsimp only
 obtain⟨s1,s2,s3,s4⟩:=jH bo
 have h0:=Oc bo f
 refine aQ (fun h=>⟨rfl,rfl,?_⟩) (fun h=>aQ (fun h2=>⟨rfl,rfl,?_⟩) (fun h2=>aQ (fun h3=>⟨rfl,rfl,?_⟩) (fun h3=> ?_)))
 ·have e:bZ s f=(s,iS s.ab f):=if_pos (by omega)
  rw[e];exact⟨rfl,rfl⟩
 ·have e:bZ s f=(s,0):=(if_neg (by omega)).trans (if_pos (.inl (by omega)))
  rw[e];exact⟨rfl,rfl⟩
 ·have e:bZ s f=(s,0):=(if_neg (by omega)).trans (if_pos (.inr (by omega)))
  rw[e];exact⟨rfl,rfl⟩
 ·have e:bZ s f=(⟨s.ab++[⟨s.Next,f⟩],s.Next+1⟩,s.Next):=(if_neg (by omega)).trans (if_neg (by omega))
  rw[e,wi (n:=s.Next+1),wi,show s.Next+1-1=s.Next by omega]
  exact⟨fw,by simp only[fY,fG];omega,rfl,rfl,rfl,rfl⟩
def abn:HH:=⟨_,abi⟩
def anC:=cj (α:=aq×aJ) (qC (qX .ct) (q1 (qA .dk))) [.box true,.ro] (fun(x,f)=>[cW x,br x.S=true,L4 f.ah.length]) (fun(x,f)=>⟨[],[],[dX .ct (du x f)]⟩)
def aot:HH:=hF anC func17 [an',an9] a0 fun x hp hb=>by
 obtain⟨x,f⟩:=x
 have aS:=fe (x:=x) (hb _ m0)
 have bC:=aS.1
 have cg:=aS.2.1
 have cf:=aS.2.2.1
 have bN:=aS.2.2.2.1
 have cd:=aS.2.2.2.2
 have dw:=eh (x:=f) (hb _ m1)
 have dW:=dw.1
 have cF:=dw.2
 have bo:cW x:=hp _ m0
 have fw:br x.S=true:=hp _ m1
 have JW:f.ah.length<=4294967296:=hp _ m2
 clear hp hb
 apply vE (let x1:={S:=(bZ {ab:={τ:=Cd.aH,xs:=x.S.ab:jh UU}.xs,Next:=x.S.Next:aF} {Kind:=f.Kind,ah:=f.ah:aJ}).1,aC:=x.aC,ap:=x.ap,ax:=x.ax,ay:=x.ay,State:=x.State,cJ:=x.cJ:aq};let x0:=gK x1 3;let q0:=bZ {ab:={τ:=Cd.aH,xs:=x.S.ab:jh UU}.xs,Next:=x.S.Next:aF} {Kind:=f.Kind,ah:=f.ah:aJ};br x.S=true/\L4 f.ah.length/\bif !decide ¬q0.2=0 then cW x1/\LM [] [] [DV.box (aA x0)] [DV.box (aA (du x f))] else LM [] [] [DV.box [CL .aH q0.1.ab,CI (q0.1.Next),CL .aB x.aC,CL .az x.ap,CL .aI x.ax,CL .aW x.ay,CI x.State,CI x.cJ]] [DV.box (aA (du x f))])
 dsimp only
 have hS:(⟨x.S.ab,x.S.Next⟩:aF)=x.S:=rfl
 have hF:(⟨f.Kind,f.ah⟩:aJ)=f:=rfl
 simp only[hS,hF]
 refine⟨fw,JW,bE (fun h=> ?_) (fun h=> ?_)⟩
 ·have h:(bZ x.S f).2=0:=by simpa using h
  have hz:=Bj fw h
  have e:du x f=gK x 3:=if_pos h
  rw[e,hz]
  exact⟨bo,by trivial,by trivial,rfl⟩
 ·have h:¬(bZ x.S f).2=0:=by simpa using h
  have e:du x f=tK x (bZ x.S f).1:=if_neg h
  rw[e]
  exact⟨by trivial,by trivial,rfl⟩
def anx:=cj (α:=aq×aJ) (qC (qX .ct) (q1 (qA .dk))) [.box true,.ro] (fun(x,f)=>[cW x,br x.S=true,L4 f.ah.length]) (fun(x,f)=>⟨[],[],[dX .ct (du x f)]⟩)
def QI:HH:=hF anx func21 [abn,TN] a0 fun x hp hb=>by
 obtain⟨x,f⟩:=x
 have aS:=fe (x:=x) (hb _ m0)
 have bC:=aS.1
 have cg:=aS.2.1
 have cf:=aS.2.2.1
 have bN:=aS.2.2.2.1
 have cd:=aS.2.2.2.2
 have dw:=eh (x:=f) (hb _ m1)
 have dW:=dw.1
 have cF:=dw.2
 have bo:cW x:=hp _ m0
 have fw:br x.S=true:=hp _ m1
 have JW:f.ah.length<=4294967296:=hp _ m2
 clear hp hb
 apply vE (let x1:={S:=(bZ {ab:={τ:=Cd.aH,xs:=x.S.ab:jh UU}.xs,Next:=x.S.Next:aF} {Kind:=f.Kind,ah:=f.ah:aJ}).1,aC:=x.aC,ap:=x.ap,ax:=x.ax,ay:=x.ay,State:=x.State,cJ:=x.cJ:aq};let x0:=gK x1 3;let q0:=bZ {ab:={τ:=Cd.aH,xs:=x.S.ab:jh UU}.xs,Next:=x.S.Next:aF} {Kind:=f.Kind,ah:=f.ah:aJ};br x.S=true/\L4 f.ah.length/\bif q0.2==0 then cW x1/\((3:Int)=(3:Int)\/(3:Int)=(5:Int))/\LM [] [] [DV.box (aA x0)] [DV.box (aA (du x f))] else LM [] [] [DV.box [CL .aH q0.1.ab,CI (q0.1.Next),CL .aB x.aC,CL .az x.ap,CL .aI x.ax,CL .aW x.ay,CI x.State,CI x.cJ]] [DV.box (aA (du x f))])
 dsimp only
 have hS:(⟨x.S.ab,x.S.Next⟩:aF)=x.S:=rfl
 have hF:(⟨f.Kind,f.ah⟩:aJ)=f:=rfl
 simp only[hS,hF]
 refine⟨fw,JW,bi (fun h=> ?_) (fun h=> ?_)⟩
 ·have hz:=Bj fw h
  have e:du x f=gK x 3:=if_pos h
  rw[e,hz]
  exact⟨bo,.inl trivial,by trivial,by trivial,rfl⟩
 ·have e:du x f=tK x (bZ x.S f).1:=if_neg h
  rw[e]
  exact⟨by trivial,by trivial,rfl⟩
def Zk6:=cj (α:=bp×aq×aJ) (qC (qA .h_) (qC (qA .ct) (q1 (qA .dk)))) [.ro,.ro,.ro] (fun(d,x,f)=>[cG d<=4294967295,dy x<=4294967295]) (fun(d,x,f)=>⟨[dA .ct (lx d x f),dO (iy d x f)],[],[]⟩)
def Zh6:HH:=hF Zk6 func6 [aou,QJ,Zh9,aot] a0 fun x hp hb=>by
 obtain⟨d,x,f⟩:=x
 have aS:=gI (x:=d) (hb _ m0)
 have e_:=aS.1
 have ew:=aS.2
 have dw:=hH (x:=x) (hb _ m1)
 have bC:=dw.1
 have cg:=dw.2.1
 have cf:=dw.2.2.1
 have bN:=dw.2.2.2.1
 have cd:=dw.2.2.2.2
 have sM:=eh (x:=f) (hb _ m2)
 have dW:=sM.1
 have cF:=sM.2
 have bo:cG d<=4294967295:=hp _ m0
 have fw:dy x<=4294967295:=hp _ m1
 clear hp hb
 apply vE (let q0:=Lf [DV.agg (aA x),VB false] [DV.agg (aA (lx d x f)),VB (iy d x f)];L4 (dy x)/\bif x.State !=1 then q0 else bif !bw f then q0 else cG d<=4294967295/\L4 (bY x.S.ab)/\bif !instOk d x then q0 else cW x/\br x.S=true/\L4 f.ah.length/\Lf [DV.agg (aA (du x f)),VB true] [DV.agg (aA (lx d x f)),VB (iy d x f)])
 dsimp only
 have hi:=yG x
 refine⟨by omega,mh (fun h=>vk ?_) (fun h=>bE (fun g=>vk ?_) (fun g=>⟨bo,by omega,bE (fun k=>vk ?_) (fun k=> ?_)⟩))⟩
 ·rw[iy,decide_eq_false h];rfl
 ·rw[iy,show bw f=false from g,tI];rfl
 ·rw[iy,show instOk d x=false from k,tI]
 ·have e:iy d x f=true:=by rw[iy,decide_eq_true h,show instOk d x=true from k,show bw f=true from g];rfl
  exact⟨GV k,DR k,by have:=(o7 g).1;omega,LfX (by rw[lx,if_pos e]) e.symm⟩
def Zk7:=cj (α:=bp×aq×aJ) (qC (qA .h_) (qC (qA .ct) (q1 (qA .dk)))) [.ro,.ro,.ro] (fun(d,x,f)=>[cG d<=4294967295,dy x<=4294967295]) (fun(d,x,f)=>⟨[dA .ct (lx d x f),dO (iy d x f)],[],[]⟩)
def Zh7:HH:=hF Zk7 func7 [aos,aor,L_,QI] a0 fun x hp hb=>by
 obtain⟨d,x,f⟩:=x
 have aS:=gI (x:=d) (hb _ m0)
 have e_:=aS.1
 have ew:=aS.2
 have dw:=hH (x:=x) (hb _ m1)
 have bC:=dw.1
 have cg:=dw.2.1
 have cf:=dw.2.2.1
 have bN:=dw.2.2.2.1
 have cd:=dw.2.2.2.2
 have sM:=eh (x:=f) (hb _ m2)
 have dW:=sM.1
 have cF:=sM.2
 have bo:cG d<=4294967295:=hp _ m0
 have fw:dy x<=4294967295:=hp _ m1
 clear hp hb
 apply vE (let q0:=Lf [DV.agg (aA x),VB false] [DV.agg (aA (lx d x f)),VB (iy d x f)];L4 (dy x)/\cG d<=4294967295/\L4 (bY x.S.ab)/\bif !instOk d x then q0 else bif x.State !=1 then q0 else bif !bw f then q0 else cW x/\br x.S=true/\L4 f.ah.length/\Lf [DV.agg (aA (du x f)),VB true] [DV.agg (aA (lx d x f)),VB (iy d x f)])
 dsimp only
 have hi:=yG x
 refine⟨by omega,bo,by omega,bE (fun k=>vk ?_) (fun k=>mh (fun h=>vk ?_) (fun h=>bE (fun g=>vk ?_) (fun g=> ?_)))⟩
 ·rw[iy,show instOk d x=false from k,tI]
 ·rw[iy,decide_eq_false h];rfl
 ·rw[iy,show bw f=false from g,tI];rfl
 ·have e:iy d x f=true:=by rw[iy,decide_eq_true h,show instOk d x=true from k,show bw f=true from g];rfl
  exact⟨GV k,DR k,by have:=(o7 g).1;omega,LfX (by rw[lx,if_pos e]) e.symm⟩
def wA(n:Int):BA:=⟨(Go.Lib.itoa n).toArray⟩
def zN(l:List UInt8):BA:=⟨l.toArray⟩
theorem pf(a b:List UInt8):zN a++zN b=zN (a++b):=by
 apply ByteArray.ext
 simp[zN]
theorem R0(s:BA):zN (bs s)=s:=by
 apply ByteArray.ext
 simp[zN,bs]
theorem ju(l:List UInt8):(zN l).size=l.length:=by simp[zN,ByteArray.size]
theorem Wt(s:BA)(l:List UInt8):s++zN l=zN (bs s++l):=by rw[<-pf,R0]
def sq(v:a_):List UInt8:=if v.K=1 then Go.Lib.itoa v.N else 39::(bs v.S++[39])
def AJ(l:List a_):List UInt8:=40::(Go.Lib.join (l.map sq) [44]++[41])
def bQ(f:aJ):BA:=if bw f=true then zN (bs f.Kind++AJ f.ah) else aj
theorem pF(n:Int):wA n=zN (Go.Lib.itoa n):=rfl
theorem GM(l:List (List UInt8))(x sep:List UInt8):Go.Lib.join (l++[x]) sep=if l=[] then x else Go.Lib.join l sep++(sep++x):=by
 cases l with
 |nil=>simp[Go.Lib.join_one]
 |cons y r=>
  rw[zex,Go.Lib.join_cons,Go.Lib.join_cons,if_neg (by simp)]
  simp[Go.Lib.joinTail]
theorem AK{v:a_}(h:bO v=true):(v.K=1/\-1000000000<=v.N/\v.N<=1000000000)\/(v.K=2/\v.S.size<=20):=by
 simp only[bO] at h
 by_cases h1:v.K=1
 ·simp[h1] at h;exact .inl ⟨h1,h.1.1,h.1.2⟩
 ·by_cases h2:v.K=2
  ·simp[h2] at h;exact .inr ⟨h2,h.1.2⟩
  ·simp[h1,h2] at h
theorem DJ{v:a_}(h:bO v=true):(sq v).length<=22:=by
 rcases AK h with⟨h1,h2,h3⟩|⟨h1,h2⟩
 ·have:=Go.Lib.itoa_length_le v.N (by omega) (by omega)
  simp only[sq,if_pos h1];omega
 ·simp only[sq,if_neg (show¬v.K=1 by omega),fY,kI,te,fG];omega
theorem Ew:∀(l:List a_),l.all bO=true->(Go.Lib.join (l.map sq) [44]).length<=23*l.length
 |[],_=>by simp[Go.Lib.join_nil]
 |x::r,h=>by
  rw[wb,Go.Lib.join_cons]
  simp only[QV,cO] at h
  have h1:=DJ h.1
  have h2:∀r:List a_,r.all bO=true->(Go.Lib.joinTail [44] (r.map sq)).length<=23*r.length:=by
   intro r
   induction r with
   |nil=>intro _;simp[Go.Lib.joinTail]
   |cons y r ih=>
    intro h
    simp only[QV,cO] at h
    have h3:=DJ h.1
    have h4:=ih h.2
    simp only[Go.Lib.joinTail,wb,Ms,kI,fY,fG] at h4⊢
    omega
  have h3:=h2 r h.2
  simp only[kI,fY]
  omega
theorem ke{f:aJ}(h:bw f=true):f.ah.length<=5/\f.ah.all bO=true/\bq f.Kind=true/\f.Kind.size<=12:=by
 simp only[bw,cO,decide_eq_true_eq] at h
 have h2:=h.1.1
 simp only[bq,cO,decide_eq_true_eq] at h2
 exact⟨h.1.2,h.2,h.1.1,h2.1.1.2⟩
theorem Tz{α:Type}{p:α->Bool}{l:List α}(h:l.all p=true)(z:α){i:Int}(h0:0<=i)(hi:i<l.length):p (l.getD i.toNat z)=true:=
 sk.1 h _ (ye l z h0 hi)
theorem Tx{α:Type}{p:α->Bool}{l:List α}(h:l.all p=true)(n:Nat):(l.take n).all p=true:=by
 rw[sk] at h⊢
 exact fun x hx=>h x (List.mem_of_mem_take hx)
theorem Td{n:Int}(h:10<=n):Go.Lib.itoa n=Go.Lib.itoa (n/10)++[UInt8.ofNat (48+n.toNat%10)]:=by
 simp only[Go.Lib.itoa]
 rw[if_neg (by omega),if_neg (by omega)]
 have e:(n/10).toNat=n.toNat/10:=by omega
 rw[e,Go.Lib.decDigits,dif_neg (by omega)]
theorem Wk{n:Int}(h0:0<=n)(h:n<10):Go.Lib.itoa n=[UInt8.ofNat (48+n.toNat)]:=by
 simp only[Go.Lib.itoa]
 rw[if_neg (by omega),Go.Lib.decDigits_one (by omega)]
theorem Wl{n:Int}(h:n<0):Go.Lib.itoa n=45::Go.Lib.itoa (-n):=by
 simp only[Go.Lib.itoa]
 rw[if_pos h,if_neg (by omega)]
 have e:(-n).toNat=n.natAbs:=by omega
 rw[e]
theorem Tg{n:Int}(h0:0<=n)(h:n<=255):strOfNums (List.map (fun(x:Int)=>x) [n])=zN [UInt8.ofNat n.toNat]:=by
 simp[strOfNums,zN]
theorem wrap_u8'{n:Int}(h:0<=n)(h':n<=255):IntKind.wrap .u8 n=n:=by
 simp only[IntKind.wrap]
 simp[IntKind.bits,IntKind.signed]
 omega
def aZ(l:List ak)(key:BA):Int:=j7 l.length fun k=>decide (bQ (l.getD k aE).F=key)
def L2:=cj (α:=Int) (q1 qI) [.ro] (fun n=>[-1000000000<=n/\n<=1000000000]) (fun n=>⟨[dS (wA n)],[],[]⟩)
def aij:AX L2:=fun n=>bW []
def yV:Int->Nat:=fun n=>if n<0 then n.natAbs+1 else n.natAbs
def aet(rn:Nat):List (FuncId×kz UU):=[(236,L2.below yV rn)]
theorem aew:Holds EE (236,L2):=by
 refine GR (k:=L2) func236 (by kernel_rfl) yV (fun rn ih=> ?_)
 refine holds_of qZ func236 (L2.below yV (rn+1)) (by kernel_rfl) (aet rn) (all_cons ih all_nil) aij (fun(n:Int) hp hb=> ?_)
 have Sm:yV n<rn+1:=hp _ m0
 have PW:=tg (n:=n) (hb _ m0)
 have bo: -1000000000<=n/\n<=1000000000:=hp _ m1
 clear hp hb
 apply vE (let x0:=wrap i64 (0-n);let x1:=strOfNums (List.map (fun(x:Cd.T Cd.byte)=>x) [IntKind.wrap IntKind.u8 (wrap i64 (48+Int.tmod n 10))]);let x2:=wrap i64 (Int.tdiv n 10);bif decide (n<0) then yV x0<rn/\((-1000000000)<=x0/\x0<=1000000000)/\ByteArray.size {data:= #[(45:UInt8)]:BA}+ByteArray.size (wA x0)<=4611686018427387904/\Lf [VS ({data:= #[(45:UInt8)]:BA}++wA x0)] [VS (wA n)] else bif decide (n<10) then Lf [VS (strOfNums (List.map (fun(x:Cd.T Cd.byte)=>x) [IntKind.wrap IntKind.u8 (wrap i64 (48+n))]))] [VS (wA n)] else(10:Int)≠(0:Int)/\yV x2<rn/\((-1000000000)<=x2/\x2<=1000000000)/\(10:Int)≠(0:Int)/\ByteArray.size (wA x2)+ByteArray.size x1<=4611686018427387904/\Lf [VS (wA x2++x1)] [VS (wA n)])
 dsimp only
 simp only[yV] at Sm
 refine ae (fun h=> ?_) (fun h=>ae (fun h'=>Mc ?_) (fun h'=> ?_))
 ·have h:=yT h
  rw[if_pos h] at Sm
  rw[wi]
  have e:(0:Int)-n= -n:=by omega
  rw[e]
  have hl:=Go.Lib.itoa_length_le (-n) (by omega) (by omega)
  refine⟨?_,⟨by omega,by omega⟩,?_,Mc ?_⟩
  ·simp only[yV];rw[if_neg (by omega)];omega
  ·rw[pF,ju];show 1+_<=_;omega
  ·rw[pF,pF,Wl h];exact pf [45] _
 ·have h:=yF h
  have h':=yT h'
  rw[wi,wrap_u8' (by omega) (by omega),pF,Wk (by omega) h']
  refine(Tg (n:=48+n) (by omega) (by omega)).trans ?_
  have e:(48+n).toNat=48+n.toNat:=by omega
  rw[e]
 ·have h:=yF h
  have h':=yF h'
  rw[if_neg h] at Sm
  have t1:Int.tdiv n 10=n/10:=Int.tdiv_eq_ediv_of_nonneg (by omega)
  have t2:Int.tmod n 10=n%10:=zbp (by omega)
  rw[t1,t2,wi,wi,wrap_u8' (by omega) (by omega)]
  have hl:=Go.Lib.itoa_length_le (n/10) (by omega) (by omega)
  have hc:strOfNums (List.map (fun(x:Cd.T Cd.byte)=>x) [(48:Int)+n%10])=zN [UInt8.ofNat (48+n%10).toNat]:=Tg (n:=48+n%10) (by omega) (by omega)
  rw[hc]
  refine⟨by omega,?_,⟨by omega,by omega⟩,by omega,?_,Mc ?_⟩
  ·simp only[yV];rw[if_neg (by omega)];omega
  ·rw[pF,ju,ju];simp only[fY,fG];omega
  ·rw[pF,pF,Td (n:=n) (by omega),pf]
   have e:(48+n%10).toNat=48+n.toNat%10:=by omega
   rw[e]
def agO:HH:=⟨_,aew⟩
def aft:=cj (α:=a_) (q1 (qA .bc)) [.ro] (fun v=>[bO v=true]) (fun v=>⟨[dS (zN (sq v))],[],[]⟩)
def agV:HH:=hF aft func228 [agO] a0 fun(v:a_) hp hb=>by
 have w5:=jp (x:=v) (hb _ m0)
 have bo:bO v=true:=hp _ m0
 clear hp hb
 apply vE (let x0:={data:= #[(39:UInt8)]:BA};bif v.K==1 then((-1000000000)<=v.N/\v.N<=1000000000)/\Lf [VS (wA v.N)] [VS (zN (sq v))] else ByteArray.size x0+ByteArray.size v.S<=4611686018427387904/\ByteArray.size (x0++v.S)+ByteArray.size x0<=4611686018427387904/\Lf [VS (x0++v.S++x0)] [VS (zN (sq v))])
 dsimp only
 rcases AK bo with⟨h1,h2,h3⟩|⟨h1,h2⟩
 ·refine ae (fun h=>⟨⟨h2,h3⟩,Mc ?_⟩) (fun h=>absurd h (by simp[h1]))
  simp only[sq,if_pos h1];rfl
 ·refine ae (fun h=>absurd h (by simp[h1])) (fun h=> ?_)
  have e:({data:= #[(39:UInt8)]:BA}++v.S)=zN (39::bs v.S):=by
   conv=>lhs;rw[<-R0 v.S]
   exact pf [39] _
  rw[e]
  refine⟨?_,?_,Mc ?_⟩
  ·show 1+_<=_;omega
  ·rw[ju];show _+1<=_;simp only[fY,te];omega
  ·simp only[sq,if_neg (show¬v.K=1 by omega)];exact pf (39::bs v.S) [39]
def Xz:=cj (α:=List a_) (q1 (qL .bc)) [.ro] (fun l=>[l.length<=5,l.all bO=true]) (fun l=>⟨[dS (zN (AJ l))],[],[]⟩)
def y7(l:List a_):BA×Int×Unit->Prop:=fun(s,i,_)=>0<=i/\i<=l.length/\s=zN (40::Go.Lib.join ((l.take i.toNat).map sq) [44])
def th(l:List a_):BA×Int×Unit->Nat:=fun(s,i,_)=>l.length-i.toNat
def aiu:AX Xz:=fun l=>bW [(3,aU [.slot 3 (3,1024) (.lit .str),iI 4] (fun _=>y7 l) (th l))]
def ag4:HH:=hF Xz func218 [agV] aiu fun(l:List a_) hp hb=>by
 have fF:L9 l.length:=iv (hb _ m0)
 have bo:l.length<=5:=hp _ m0
 have fw:l.all bO=true:=hp _ m1
 clear hp hb
 apply vE (y7 l ({data:= #[(40:UInt8)]:BA},0,())/\∀(y:BA×Int×PUnit),let x2:=y.2.1.toNat;let x3:=y.1++{data:= #[(44:UInt8)]:BA};let x1:=l.getD x2 ee;let x0:=zN (sq x1);let q0:=(y.1++x0,wrap i64 (y.2.1+1),());let q1:=(x3++x0,wrap i64 (y.2.1+1),());y7 l y->bif decide (y.2.1<(l.length:Int)) then bif decide (y.2.1>0) then ByteArray.size y.1+ByteArray.size {data:= #[(44:UInt8)]:BA}<=4611686018427387904/\0<=y.2.1/\x2<l.length/\bO x1=true/\ByteArray.size x3+ByteArray.size x0<=4611686018427387904/\y7 l q1/\th l q1<th l y else 0<=y.2.1/\x2<l.length/\bO x1=true/\ByteArray.size y.1+ByteArray.size x0<=4611686018427387904/\y7 l q0/\th l q0<th l y else ByteArray.size y.1+ByteArray.size {data:= #[(41:UInt8)]:BA}<=4611686018427387904/\Lf [VS (y.1++{data:= #[(41:UInt8)]:BA})] [VS (zN (AJ l))])
 dsimp only
 refine⟨⟨by omega,by omega,rfl⟩,?_⟩
 rintro⟨s,i,⟨⟩⟩ ⟨h1,h2,rfl⟩
 simp only
 have hj:=Ew (l.take i.toNat) (Tx fw _)
 rw[oz] at hj
 refine ae ?_ ?_<;>intro hc
 ·have hc:i<l.length:=yT hc
  have hv:=Tz fw ee h1 hc
  have F9:=DJ hv
  rw[wi]
  have ht:(l.take (i+1).toNat).map sq=(l.take i.toNat).map sq++[sq (l.getD i.toNat ee)]:=by rw[<-dH l ee h1 hc,Mp];rfl
  refine ae ?_ ?_<;>intro h
  ·have h:=yT h
   have e:(zN (40::Go.Lib.join ((l.take i.toNat).map sq) [44])++{data:= #[(44:UInt8)]:BA})=zN (40::(Go.Lib.join ((l.take i.toNat).map sq) [44]++[44])):=pf _ [44]
   rw[e,pf]
   have hn:¬(l.take i.toNat).map sq=[]:=by
    intro h0
    have:=congrArg List.length h0
    rw[xp,oz,fG] at this
    omega
   refine⟨?_,h1,by omega,hv,?_,⟨by omega,by omega,?_⟩,by simp only[th];omega⟩
   ·rw[ju];show _+1<=_;simp only[fY];omega
   ·rw[ju,ju];simp only[fY,kI,fG];omega
   ·rw[ht,GM,if_neg hn];simp
  ·have h:=yF h
   have h0:i=0:=by omega
   subst h0
   rw[pf]
   refine⟨by omega,by omega,hv,?_,⟨by omega,by omega,?_⟩,by simp only[th];omega⟩
   ·rw[ju,ju];simp only[fY];omega
   ·rw[ht,GM];simp[Go.Lib.join_nil]
 ·have hc:¬i<l.length:=yF hc
  rw[cM l (by omega)]
  refine⟨?_,Mc ?_⟩
  ·rw[ju];show _+1<=_;simp only[fY];rw[cM l (by omega)] at hj;omega
  ·exact pf _ [41]
def afT:=cj (α:=aJ) (q1 (qA .dk)) [.ro] (fun _=>[]) (fun f=>⟨[dS (bQ f)],[],[]⟩)
def ahp:HH:=hF afT func185 [L_,ag4] a0 fun(f:aJ) hp hb=>by
 have aS:=eh (x:=f) (hb _ m0)
 have dW:=aS.1
 have cF:=aS.2
 clear hp hb
 apply vE (bif !bw f then Lf [VS ({data:= #[]:BA})] [VS (bQ f)] else f.ah.length<=5/\f.ah.all bO=true/\ByteArray.size f.Kind+ByteArray.size (zN (AJ f.ah))<=4611686018427387904/\Lf [VS (f.Kind++zN (AJ f.ah))] [VS (bQ f)])
 refine ae (fun h=>Mc ?_) (fun h=> ?_)
 ·have h:bw f=false:=by simpa using h
  simp only[bQ,h];rfl
 ·have h:bw f=true:=by simpa using h
  obtain⟨h1,h2,h3,h4⟩:=ke h
  have hj:=Ew f.ah h2
  refine⟨h1,h2,?_,Mc ?_⟩
  ·rw[ju];simp only[AJ,fY,kI,fG];omega
  ·simp only[bQ,h,if_true];exact Wt _ _
def af9:=cj (α:=aJ) (q1 (qA .dk)) [.ro] (fun _=>[]) (fun f=>⟨[dS (bQ f)],[],[]⟩)
def Ma:HH:=hF af9 func140 [ahp] a0 fun(f:aJ) hp hb=>by
 have aS:=eh (x:=f) (hb _ m0)
 have dW:=aS.1
 have cF:=aS.2
 clear hp hb
 apply vE (Lf [VS (bQ f)] [VS (bQ f)])
 exact bf _
def XL:=cj (α:=(List ak)×BA) (qC (qL .az) (q1 qS)) [.ro,.ro] (fun _=>[]) (fun(l,key)=>⟨[dI (aZ l key)],[],[]⟩)
def C8(l:List ak)(key:BA):Int×Unit->Prop:=fun(i,_)=>0<=i/\i<=l.length/\∀j:Nat,(j:Int)<i->decide (bQ (l.getD j aE).F=key)=false
def Cl(l:List ak)(key:BA):Int×Unit->Nat:=fun(i,_)=>l.length-i.toNat
def aiG:AX XL:=fun(l,key)=>bW [(2,aU [iI 5] (fun _=>C8 l key) (Cl l key))]
def TV:HH:=hF XL func182 [Ma] aiG fun x hp hb=>by
 obtain⟨l,key⟩:=x
 have fF:L9 l.length:=iv (hb _ m0)
 have Nd:=Bg (s:=key) (hb _ m1)
 clear hp hb
 apply vE (C8 l key (0,())/\∀(y:Int×PUnit),let q0:=(wrap i64 (y.1+1),());C8 l key y->bif decide (y.1<(l.length:Int)) then 0<=y.1/\y.1.toNat<l.length/\bif ByteArray.toList (bQ (l.getD y.1.toNat aE).F)==ByteArray.toList key then Li y.1 (aZ l key) else C8 l key q0/\Cl l key q0<Cl l key y else Li (-1) (aZ l key))
 dsimp only
 refine⟨⟨by omega,by omega,by intro j hj;omega⟩,?_⟩
 rintro⟨i,⟨⟩⟩ ⟨h1,h2,hR⟩
 simp only
 refine ae ?_ ?_<;>intro hc
 ·have hc:i<l.length:=yT hc
  simp(disch:=omega) only[wrap_i64,aM]
  refine⟨by omega,by omega,ae (fun h=>oT ?_) (fun h=>⟨⟨by omega,by omega,jk (p:=fun j=>decide (bQ (l.getD j aE).F=key)) h1 hR h⟩,by simp only[Cl];omega⟩)⟩
  rw[aZ,fL (i:=i.toNat) (by omega) h (fun j hj=>hR j (by omega))]
  omega
 ·have hc:¬i<l.length:=yF hc
  exact oT (jx (fun j hj=>hR j (by omega))).symm
def pZ(aG:Int):Nat->Int->Int
 |0,n=>n
 |k+1,n=>if n<aG then pZ aG k (2*n) else n
def mV(base k aG:Int):Int:=if 1<=base/\base<=100000/\1<=aG/\aG<=100000/\0<=k then(if pZ aG k.toNat base<aG then pZ aG k.toNat base else aG) else 0
theorem Tt{aG n:Int}(h:¬n<aG):∀k:Nat,pZ aG k n=n
 |0=>rfl
 |k+1=>by rw[pZ,if_neg h]
theorem ND{aG n k i:Int}(h0:0<=i)(h:i<k)(hn:n<aG):pZ aG (k-i).toNat n=pZ aG (k-(i+1)).toNat (2*n):=by
 obtain⟨m,hm⟩:∃m:Nat,(k-i).toNat=m+1:=⟨(k-i).toNat-1,by omega⟩
 have h2:(k-(i+1)).toNat=m:=by omega
 rw[hm,h2,pZ,if_pos hn]
theorem Qz{aG n k i:Int}(h:¬(i<k/\n<aG)):pZ aG (k-i).toNat n=n:=by
 by_cases hk:i<k
 ·exact Tt (fun hn=>h ⟨hk,hn⟩) _
 ·rw[show(k-i).toNat=0 by omega];rfl
def XJ:=cj (α:=Int×Int×Int) (qC qI (qC qI (q1 qI))) [.ro,.ro,.ro] (fun _=>[]) (fun(base,k,aG)=>⟨[dI (mV base k aG)],[],[]⟩)
def C7(base:Int)(k:Int)(aG:Int):Int×Int×Unit->Prop:=fun(n,i,_)=>0<=i/\i<=k/\1<=n/\n<=200000/\pZ aG (k-i).toNat n=pZ aG k.toNat base
def Ck(base:Int)(k:Int)(aG:Int):Int×Int×Unit->Nat:=fun(n,i,_)=>(k-i).toNat
def aiE:AX XJ:=fun(base,k,aG)=>bW [(5,aU [iI 7,iI 8] (fun _=>C7 base k aG) (Ck base k aG))]
def ahn:HH:=hF XJ func187 [tF] aiE fun x hp hb=>by
 obtain⟨base,k,aG⟩:=x
 have ajr:=tg (n:=base) (hb _ m0)
 have amq:=tg (n:=k) (hb _ m1)
 have vy:=tg (n:=aG) (hb _ m2)
 clear hp hb
 apply vE (let q0:=mV base k aG;bif !decide (1<=base/\base<=100000) then Li 0 q0 else bif !decide (1<=aG/\aG<=100000) then Li 0 q0 else bif decide (k<0) then Li 0 q0 else C7 base k aG (base,0,())/\∀(y:Int×Int×PUnit),let q1:=(wrap i64 (2*y.1),wrap i64 (y.2.1+1),());let q2:=bif decide (y.1>aG) then Li aG q0 else Li y.1 q0;C7 base k aG y->bif decide (y.2.1<k) then bif decide (y.1<aG) then C7 base k aG q1/\Ck base k aG q1<Ck base k aG y else q2 else q2)
 dsimp only
 have hN:¬(1<=base/\base<=100000/\1<=aG/\aG<=100000/\0<=k)->Lf [.one (.lit (.int .i64 0))] [.one (.lit (.int .i64 (mV base k aG)))]:=fun h=>oT (by rw[mV,if_neg h])
 refine ae (fun h=>hN ?_) (fun h=>ae (fun h2=>hN ?_) (fun h2=>ae (fun h3=>hN ?_) (fun h3=> ?_)))
 ·simp at h;omega
 ·simp at h2;omega
 ·simp at h3;omega
 have hg:1<=base/\base<=100000/\1<=aG/\aG<=100000/\0<=k:=by simp at h h2 h3;omega
 have hE:∀{n i:Int},pZ aG (k-i).toNat n=pZ aG k.toNat base->¬(i<k/\n<aG)->(if n<aG then n else aG)=mV base k aG:=fun hR hn=>by rw[mV,if_pos hg,<-hR,Qz hn]
 refine⟨⟨by omega,by omega,by omega,by omega,by rw[Int.sub_zero]⟩,?_⟩
 rintro⟨n,i,⟨⟩⟩ ⟨h4,h5,h6,h7,hR⟩
 simp only
 refine ae (fun hc=>ae (fun hd=> ?_) (fun hd=> ?_)) (fun hc=> ?_)
 ·have hc:=yT hc;have hd:=yT hd
  rw[wi,wi]
  refine⟨⟨by omega,by omega,by omega,by omega,?_⟩,by simp only[Ck];omega⟩
  rw[<-ND h4 hc hd];exact hR
 ·have hd:=yF hd
  have e:=hE hR (fun hh=>hd hh.2)
  refine ae (fun hm=>oT ?_) (fun hm=>oT ?_)
  ·have hm:=yT hm;rw[<-e];split<;>omega
  ·have hm:=yF hm;rw[<-e];split<;>omega
 ·have hc:=yF hc
  have e:=hE hR (fun hh=>hc hh.1)
  refine ae (fun hm=>oT ?_) (fun hm=>oT ?_)
  ·have hm:=yT hm;rw[<-e];split<;>omega
  ·have hm:=yF hm;rw[<-e];split<;>omega
def kS(l:List bj)(t:ak):Bool:=dD l&&bw t.F&&bq t.aR&& !uN l (bQ t.F)&& !decide (30<=l.length)
def cH(l:List bj)(t:ak):List bj×Bool:=if kS l t=true then(l++[⟨bQ t.F,⟨t.aR,t.F.ah⟩⟩],true) else(l,false)
def sG(ok:Bool)(v:a_)(t:ak):ak:=⟨t.F,t.aR,if ok=true then 3 else 4,t.bt,t.jF,v⟩
def bB(l:List ak)(key:BA)(ok:Bool)(v:a_):List ak×Int:=
 if aT l=true/\bO v=true/\0<=aZ l key/\(l.getD (aZ l key).toNat aE).State≠1 then
  (if(l.getD (aZ l key).toNat aE).State=2 then(l.modify (aZ l key).toNat (sG ok v),1) else(l,2)) else(l,3)
def due(now:Int)(t:ak):Bool:=jU t&&decide (t.jF<=now)
def f_(now:Int)(t:ak):ak:=if due now t=true then(if t.bt=4 then⟨t.F,t.aR,4,t.bt,t.jF,t.V⟩ else⟨t.F,t.aR,2,t.bt+1,now+mV 2 (t.bt+1) 60,t.V⟩) else t
def o8(now:Int)(t:ak):List p9:=if due now t=true/\t.bt≠4 then[⟨bQ t.F,t.F,t.bt+1⟩] else[]
def lJ(now:Int)(t:ak):List BA:=if due now t=true/\t.bt=4 then[bQ t.F] else[]
theorem J5{l:List bj}(h:dD l=true):l.length<=30:=by
 simp only[dD,cO,decide_eq_true_eq] at h;exact h.1
theorem Hz{l:List ak}(h:aT l=true):l.length<=30:=by
 simp only[aT,cO,decide_eq_true_eq] at h;exact h.1
theorem nz{l:List ak}(h:aT l=true){k:Nat}(hk:k<l.length):gq (l.getD k aE)=true:=by
 simp only[aT,cO] at h
 have:=yS.1 h.2 k hk
 simp only[jS,cO] at this
 exact this.1
theorem Gt{t:ak}(h:gq t=true):(1<=t.State/\t.State<=4)/\(0<=t.bt/\t.bt<=4)/\(0<=t.jF/\t.jF<=1000001000)/\((t.State=1->t.bt=0)/\(t.State=2->t.bt≠0))/\t.F.ah.length<=5:=by
 simp only[gq,cO,decide_eq_true_eq] at h
 obtain⟨⟨⟨⟨⟨⟨h1,h2⟩,h3⟩,h4⟩,h5⟩,h6⟩,h7⟩:=h
 refine⟨h3,h4,h5,h7,?_⟩
 simp only[bw,cO,decide_eq_true_eq] at h1
 first|exact h1.1.2|exact h1.2.1|omega
theorem pc{l:List ak}{key:BA}(h:0<=aZ l key):(aZ l key).toNat<l.length:=by
 unfold aZ at*
 rcases ik l.length (fun k=>decide (bQ (l.getD k aE).F=key)) with⟨h1,h2⟩|⟨i,h1,h2,h3,h4⟩
 ·rw[h1] at h;omega
 ·rw[h2];omega
theorem sF{l:List ak}{key:BA}{ok:Bool}{v:a_}(h:¬(aT l=true/\bO v=true/\0<=aZ l key/\(l.getD (aZ l key).toNat aE).State≠1)):bB l key ok v=(l,3):=if_neg h
theorem vp{l:List ak}{key:BA}{ok:Bool}{v:a_}(h:aT l=true/\bO v=true/\0<=aZ l key/\(l.getD (aZ l key).toNat aE).State≠1)(h2:(l.getD (aZ l key).toNat aE).State≠2):bB l key ok v=(l,2):=by rw[bB,if_pos h,if_neg h2]
theorem zG{l:List ak}{key:BA}{ok:Bool}{v:a_}(h:aT l=true/\bO v=true/\0<=aZ l key/\(l.getD (aZ l key).toNat aE).State≠1)(h2:(l.getD (aZ l key).toNat aE).State=2):bB l key ok v=(l.modify (aZ l key).toNat (sG ok v),1):=by rw[bB,if_pos h,if_pos h2]
theorem UL(l:List ak)(k:Nat)(v:a_):(((l.modify k fun x=>⟨x.F,x.aR,4,x.bt,x.jF,x.V⟩).modify k fun x=>⟨x.F,x.aR,3,x.bt,x.jF,x.V⟩).modify k fun x=>⟨x.F,x.aR,x.State,x.bt,x.jF,v⟩)=l.modify k (sG true v):=by
 rw[nT,nT];rfl
theorem UM(l:List ak)(k:Nat)(v:a_):((l.modify k fun x=>⟨x.F,x.aR,4,x.bt,x.jF,x.V⟩).modify k fun x=>⟨x.F,x.aR,x.State,x.bt,x.jF,v⟩)=l.modify k (sG false v):=by
 rw[nT];rfl
theorem vU{a a':List ak}(h:a=a'):dZ ([DV.one (Cell.sl Cd.az a)]:List (DV UU))=dZ ([DV.one (Cell.sl Cd.az a')]:List (DV UU)):=by rw[h]
theorem GX{α β:Type}(f:α->List β)(l:List α)(z:α){i:Int}(h0:0<=i)(h:i<l.length):(l.take i.toNat).flatMap f++f (l.getD i.toNat z)=(l.take (i+1).toNat).flatMap f:=by
 rw[<-dH l z h0 h,Ui];simp
theorem yj{α β:Type}(f:α->List β)(hf:∀x,(f x).length<=1):∀l:List α,(l.flatMap f).length<=l.length
 |[]=>by simp
 |x::l=>by
  rw[zt,kI]
  have h1:=yj f hf l
  have h2:=hf x
  simp only[fY];omega
theorem Qv(now:Int)(t:ak):(o8 now t).length<=1:=by unfold o8;split<;>simp
theorem G2(now:Int)(t:ak):(lJ now t).length<=1:=by unfold lJ;split<;>simp
theorem Hn(aG:Int):∀(k:Nat)(n:Int),0<=n->0<=pZ aG k n
 |0,n,h=>h
 |k+1,n,h=>by rw[pZ];split;exact Hn aG k (2*n) (by omega);exact h
theorem Fk(k:Int):0<=mV 2 k 60/\mV 2 k 60<=60:=by
 have:=Hn 60 k.toNat 2 (by omega)
 unfold mV
 split
 ·split<;>omega
 ·omega
def X6:=cj (α:=(List bj)×ak) (qC (qL .aW) (q1 (qA .az))) [.ro,.ro] (fun(l,t)=>[L4 (cx l),L4 t.F.ah.length]) (fun(l,t)=>⟨[dL .aW ((cH l t).1),dO ((cH l t).2)],[],[]⟩)
def Dl(l:List bj)(t:ak):List bj×Int×T20×Unit->Prop:=fun(row,i,fb,_)=>row=l/\fb=(t.F.Kind,t.F.ah,t.aR,t.State,t.bt,t.jF,t.V.K,t.V.N,t.V.S,())/\0<=i/\i<=l.length/\∀j:Nat,(j:Int)<i->decide ((l.getD j bP).Key=bQ t.F)=false
def Cx(l:List bj)(t:ak):List bj×Int×T20×Unit->Nat:=fun(row,i,fb,_)=>l.length-i.toNat
def ai1:AX X6:=fun(l,t)=>bW [(6,aU [iO 6 .aW,iI 8,.box 3 (3,1024) [.lit .str,.shr .bc,.lit .str,.lit (.int .i64),.lit (.int .i64),.lit (.int .i64),.lit (.int .i64),.lit (.int .i64),.lit .str]] (fun _=>Dl l t) (Cx l t))]
def YE:HH:=hF X6 func145 [abo,agA,L_,L8,Ma] ai1 fun x hp hb=>by
 obtain⟨l,t⟩:=x
 have fF:L9 l.length:=iv (hb _ m0)
 have dw:=pY (x:=t) (hb _ m1)
 have mB:=dw.1
 have kc:=dw.2.1
 have pk:=dw.2.2.1
 have rL:=dw.2.2.2
 have bo:cx l<=4294967296:=hp _ m0
 have fw:t.F.ah.length<=4294967296:=hp _ m1
 clear hp hb
 apply vE (let x0:=(l.length:Int);let q0:=Lf [VL .aW l,VB false] [VL .aW ((cH l t).1),VB ((cH l t).2)];L4 (cx l)/\bif !dD l then q0 else bif !bw t.F then q0 else bif !bq t.aR then q0 else bif decide (x0≥30) then q0 else Dl l t (l,0,(t.F.Kind,t.F.ah,t.aR,t.State,t.bt,t.jF,t.V.K,t.V.N,t.V.S,()),())/\∀(y:List bj×Int×(BA×List a_×BA×Int×Int×Int×Int×Int×BA×PUnit)×PUnit),let x1:=[{Key:=bQ t.F,F:={Kind:=y.2.2.1.2.2.1,ah:=[]++y.2.2.1.2.1:aJ}:bj}];let x2:=y.2.1.toNat;let q1:=(y.1,wrap i64 (y.2.1+1),(y.2.2.1.1,y.2.2.1.2.1,y.2.2.1.2.2.1,y.2.2.1.2.2.2.1,y.2.2.1.2.2.2.2.1,y.2.2.1.2.2.2.2.2.1,y.2.2.1.2.2.2.2.2.2.1,y.2.2.1.2.2.2.2.2.2.2.1,y.2.2.1.2.2.2.2.2.2.2.2.1,()),());Dl l t y->bif decide (y.2.1<x0) then 0<=y.2.1/\x2<l.length/\bif ByteArray.toList (l.getD x2 bP).Key==ByteArray.toList (bQ t.F) then Lf [VL .aW y.1,VB false] [VL .aW ((cH l t).1),VB ((cH l t).2)] else Dl l t q1/\Cx l t q1<Cx l t y else 0+y.2.2.1.2.1.length<=4294967296/\L4 (y.1.length+x1.length)/\Lf [VL .aW (y.1++x1),VB true] [VL .aW ((cH l t).1),VB ((cH l t).2)])
 dsimp only
 have hN:kS l t=false->Lf [.one (.sl .aW l),.one (.lit (.bool false))] [.one (.sl .aW (cH l t).1),.one (.lit (.bool (cH l t).2))]:=fun h=>by
  simp only[cH,h];exact bf _
 have hlen:dD l=true->l.length<=30:=J5
 refine⟨bo,ae (fun h1=>hN ?_) (fun h1=>ae (fun h2=>hN ?_) (fun h2=>ae (fun h3=>hN ?_) (fun h3=>ae (fun h4=>hN ?_) (fun h4=>⟨⟨rfl,rfl,by omega,by omega,by intro j hj;omega⟩,?_⟩))))⟩
 ·simp only[kS];grind
 ·simp only[kS];grind
 ·simp only[kS];grind
 ·simp only[kS];grind
 rintro⟨row,i,fb,⟨⟩⟩ ⟨rfl,rfl,h5,h6,hR⟩
 have h4:=yF h4
 simp only
 refine ae ?_ ?_<;>intro hc
 ·have hc:i<row.length:=yT hc
  simp(disch:=omega) only[wrap_i64,aM]
  refine⟨by omega,by omega,ae (fun h=> ?_) (fun h=>⟨⟨rfl,rfl,by omega,by omega,jk (p:=fun j=>decide ((row.getD j bP).Key=bQ t.F)) h5 hR h⟩,by simp only[Cx];omega⟩)⟩
  have ha:uN row (bQ t.F)=true:=iJ (j:=i.toNat) (by omega) h
  exact hN (by simp only[kS,ha];simp)
 ·have hc:¬i<row.length:=yF hc
  have ha:uN row (bQ t.F)=false:=gz fun j hj=>hR j (by omega)
  have hy:kS row t=true:=by simp only[kS,ha];grind
  refine⟨by simpa using fw,by simp;omega,?_⟩
  simp only[cH,hy,if_true,List.nil_append];exact bf _
def af8:=cj (α:=(List ak)×BA×Bool×a_) (qC (qL .az) (qC qS (qC qO (q1 (qA .bc))))) [.wr,.ro,.ro,.ro] (fun(l,key,ok,v)=>[aT l=true,bO v=true]) (fun(l,key,ok,v)=>⟨[dI ((bB l key ok v).2)],[],[dL .az ((bB l key ok v).1)]⟩)
def YF:HH:=hF af8 func144 [TV] a0 fun x hp hb=>by
 obtain⟨l,key,ok,v⟩:=x
 have fF:L9 l.length:=iv (hb _ m0)
 have Nd:=Bg (s:=key) (hb _ m1)
 have w5:=jp (x:=v) (hb _ m3)
 have bo:aT l=true:=hp _ m0
 have fw:bO v=true:=hp _ m1
 clear hp hb
 apply vE (let x0:=l.modify (Int.toNat (aZ l key)) fun(x:ak)=>{F:=x.F,aR:=x.aR,State:=(4:Int),bt:=x.bt,jF:=x.jF,V:=x.V:ak};let x1:=x0.modify (Int.toNat (aZ l key)) fun(x:ak)=>{F:=x.F,aR:=x.aR,State:=(3:Int),bt:=x.bt,jF:=x.jF,V:=x.V:ak};let q0:=bB l key ok v;let q1:=aZ l key;let q2:=dZ [VL .az l]=dZ [VL .az (q0.1)];let q3:=l.getD (Int.toNat q1) aE;let q4:=dZ [VI 3]=dZ [VI (q0.2)]/\q2;let q5:=dZ [VI 2]=dZ [VI (q0.2)]/\q2;bif decide (aZ l key<0) then q4 else 0<=aZ l key/\Int.toNat q1<l.length/\Int.toNat q1<l.length/\bif q3.State==3 then q5 else Int.toNat q1<l.length/\bif q3.State==4 then q5 else Int.toNat q1<l.length/\bif q3.bt==0 then q4 else Int.toNat q1<l.length/\bif ok then Int.toNat q1<x0.length/\Int.toNat q1<x1.length/\dZ [VI 1]=dZ [VI (q0.2)]/\dZ [VL .az (x1.modify (Int.toNat q1) fun(x:ak)=>{F:=x.F,aR:=x.aR,State:=x.State,bt:=x.bt,jF:=x.jF,V:=v:ak})]=dZ [VL .az (q0.1)] else Int.toNat q1<x0.length/\dZ [VI 1]=dZ [VI (q0.2)]/\dZ [VL .az (x0.modify (Int.toNat q1) fun(x:ak)=>{F:=x.F,aR:=x.aR,State:=x.State,bt:=x.bt,jF:=x.jF,V:=v:ak})]=dZ [VL .az (q0.1)])
 dsimp only
 refine ae ?_ ?_<;>intro h
 ·have h:=yT h
  rw[sF (fun hh=>absurd hh.2.2.1 (by omega))];exact⟨rfl,rfl⟩
 have h:=yF h
 have hk:=pc (l:=l) (key:=key) (by omega)
 obtain⟨s1,s2,s3,s4,s5⟩:=Gt (nz bo hk)
 refine⟨by omega,hk,hk,ae (fun h1=> ?_) (fun h1=>⟨hk,ae (fun h2=> ?_) (fun h2=>⟨hk,ae (fun h3=> ?_) (fun h3=>⟨hk,ae (fun h4=> ?_) (fun h4=> ?_)⟩)⟩)⟩)⟩
 ·have h1:=eq_of_beq h1
  rw[vp ⟨bo,fw,by omega,by omega⟩ (by omega)];exact⟨rfl,rfl⟩
 ·have h2:=eq_of_beq h2
  rw[vp ⟨bo,fw,by omega,by omega⟩ (by omega)];exact⟨rfl,rfl⟩
 ·have h3:=eq_of_beq h3
  simp only[beq_eq_false_iff_ne,ne_eq] at h1 h2
  rw[sF (fun hh=>absurd hh.2.2.2 (by omega))];exact⟨rfl,rfl⟩
 ·subst h4
  simp only[beq_eq_false_iff_ne,ne_eq] at h1 h2 h3
  rw[zG ⟨bo,fw,by omega,by omega⟩ (by omega)]
  exact⟨by simp only[Mg];exact hk,by simp only[Mg];exact hk,rfl,vU (UL _ _ _)⟩
 ·subst h4
  simp only[beq_eq_false_iff_ne,ne_eq] at h1 h2 h3
  rw[zG ⟨bo,fw,by omega,by omega⟩ (by omega)]
  exact⟨by simp only[Mg];exact hk,rfl,vU (UM _ _ _)⟩
def afS:=cj (α:=ak×Int) (qC (qA .az) (q1 qI)) [.ro,.ro] (fun _=>[]) (fun(t,now)=>⟨[dO (due now t)],[],[]⟩)
def aho:HH:=hF afS func186 [] a0 fun x hp hb=>by
 obtain⟨t,now⟩:=x
 have aS:=pY (x:=t) (hb _ m0)
 have mB:=aS.1
 have kc:=aS.2.1
 have pk:=aS.2.2.1
 have rL:=aS.2.2.2
 have w6:=tg (n:=now) (hb _ m1)
 clear hp hb
 apply vE (let q0:=Lb (decide (t.jF<=now)) (due now t);bif t.State==1 then q0 else bif t.State==2 then q0 else Lb false (due now t))
 dsimp only
 repeat' (refine ae (fun h=> ?_) (fun h=> ?_))
 all_goals (refine ck ?_;simp only[due,jU];grind)
def X7:=cj (α:=(List ak)×Int) (qC (qL .az) (q1 qI)) [.wr,.ro] (fun(l,now)=>[aT l=true,0<=now/\now<=1000000000]) (fun(l,now)=>⟨[dL .k8 (l.flatMap (o8 now)),dL .str (l.flatMap (lJ now))],[],[dL .az (l.map (f_ now))]⟩)
def v_(l:List ak)(now:Int):List ak×List p9×List BA×Int×Unit->Prop:=fun(out,calls,failed,i,_)=>0<=i/\i<=l.length/\out=(l.map (f_ now)).take i.toNat++l.drop i.toNat/\calls=(l.take i.toNat).flatMap (o8 now)/\failed=(l.take i.toNat).flatMap (lJ now)
def nX(l:List ak)(now:Int):List ak×List p9×List BA×Int×Unit->Nat:=fun(out,calls,failed,i,_)=>l.length-i.toNat
def ai2:AX X7:=fun(l,now)=>bW [(4,aU [.slot 0 (2000000,0) (.own .az true),iO 6 .k8,iO 7 .str,iI 8] (fun _=>v_ l now) (nX l now))]
def YG:HH:=hF X7 func143 [aho,Ma,ahn,sd] ai2 fun x hp hb=>by
 obtain⟨l,now⟩:=x
 have fF:L9 l.length:=iv (hb _ m0)
 have w6:=tg (n:=now) (hb _ m1)
 have bo:aT l=true:=hp _ m0
 have fw:0<=now/\now<=1000000000:=hp _ m1
 clear hp hb
 apply vE (v_ l now (l,[],[],0,())/\∀(y:List ak×List p9×List BA×Int×PUnit),let x3:=y.2.2.2.1.toNat;let x5:=y.1.modify x3 fun(x:ak)=>{F:=x.F,aR:=x.aR,State:=(4:Int),bt:=x.bt,jF:=x.jF,V:=x.V:ak};let x6:=y.1.modify x3 fun(x:ak)=>{F:=x.F,aR:=x.aR,State:=x.State,bt:=wrap i64 ((y.1.getD x3 aE).bt+1),jF:=x.jF,V:=x.V:ak};let x4:=x6.modify x3 fun(x:ak)=>{F:=x.F,aR:=x.aR,State:=(2:Int),bt:=x.bt,jF:=x.jF,V:=x.V:ak};let x2:=x4.modify x3 fun(x:ak)=>{F:=x.F,aR:=x.aR,State:=x.State,bt:=x.bt,jF:=wrap i64 (now+mV 2 (x4.getD x3 aE).bt 60),V:=x.V:ak};let x1:=(x2.getD x3 aE).F;let x0:=[{Key:=bQ x1,F:=x1,Try:=(x2.getD x3 aE).bt:p9}];let q0:=(x5,y.2.1,y.2.2.1++[bQ (x5.getD x3 aE).F],wrap i64 (y.2.2.2.1+1),());let q1:=(x2,y.2.1++x0,y.2.2.1,wrap i64 (y.2.2.2.1+1),());let q2:=(y.1,y.2.1,y.2.2.1,wrap i64 (y.2.2.2.1+1),());v_ l now y->bif decide (y.2.2.2.1<(y.1.length:Int)) then 0<=y.2.2.2.1/\x3<y.1.length/\x3<y.1.length/\x3<y.1.length/\bif !due now (y.1.getD x3 aE) then v_ l now q2/\nX l now q2<nX l now y else x3<y.1.length/\bif (y.1.getD x3 aE).bt==4 then x3<y.1.length/\x3<x5.length/\x3<x5.length/\y.2.2.1.length+List.length [bQ (x5.getD x3 aE).F]<=4294967296/\v_ l now q0/\nX l now q0<nX l now y else x3<y.1.length/\x3<y.1.length/\x3<x6.length/\x3<x4.length/\x3<x4.length/\x3<x2.length/\x3<x2.length/\x3<x2.length/\x3<x2.length/\L4 x1.ah.length/\x3<x2.length/\L4 (y.2.1.length+x0.length)/\v_ l now q1/\nX l now q1<nX l now y else dZ [VL .k8 y.2.1,VL .str y.2.2.1]=dZ [VL .k8 (List.flatMap (o8 now) l),VL .str (List.flatMap (lJ now) l)]/\dZ [VL .az y.1]=dZ [VL .az (l.map (f_ now))])
 dsimp only
 refine⟨⟨by omega,by omega,by simp,by simp,by simp⟩,?_⟩
 rintro⟨out,calls,failed,i,⟨⟩⟩ ⟨h1,h2,rfl,rfl,rfl⟩
 have hl:=HZ (f_ now) l h1 h2
 have hlen:=Hz bo
 have iH:=yj (o8 now) (Qv now) (l.take i.toNat)
 have Gd:=yj (lJ now) (G2 now) (l.take i.toNat)
 rw[oz] at iH Gd
 simp only
 refine ae ?_ ?_<;>intro hc
 ·have hc:=yT hc
  have hc:i<l.length:=by omega
  have hi:i.toNat<l.length:=by omega
  have hg:=BL _ l aE (M4 (f_ now) l h1 h2) h1 hc
  obtain⟨s1,s2,s3,s4,s5⟩:=Gt (nz bo hi)
  have Xf:=GX (o8 now) l aE h1 hc
  have hft:=GX (lJ now) l aE h1 hc
  have hM:=fun F hF=>BM (f_ now) l aE F h1 hc hF
  have hS:=fun hF=>Em (f_ now) l aE h1 hc hF
  have hb:=Fk ((l.getD i.toNat aE).bt+1)
  generalize hRR:(l.map (f_ now)).take i.toNat++l.drop i.toNat=R at*
  rw[wi (n:=i+1)]
  simp(disch:=first|omega|(simp only[Mg];omega)) only[getD_modify,nT,Mg,hl,hg]
  generalize hT:l.getD i.toNat aE=t at*
  simp(disch:=omega) only[wrap_i64,fY,fG]
  repeat' (first|refine And.intro (by omega) ?_|refine ae (fun h=> ?_) (fun h=> ?_)|fail)
  all_goals simp only[ra,Bool.not_eq_false',decide_eq_true_eq,decide_eq_false_iff_not,beq_iff_eq,beq_eq_false_iff_ne] at*
  all_goals first
   |(have hd:due now t=true:=by first|assumption|(simp only[due];grind)
     have e1:o8 now t=[]:=by simp only[o8];exact if_neg (by simp_all)
     have e2:lJ now t=[bQ t.F]:=by simp only[lJ];exact if_pos ⟨hd,by assumption⟩
     rw[e1,xr] at Xf
     rw[e2] at hft
     rw[hM _ (by simp only[f_,hd,if_true];rw[if_pos (by assumption)])]
     exact⟨⟨by omega,by omega,rfl,Xf,hft⟩,by simp only[nX];omega⟩)
   |(have hd:due now t=true:=by first|assumption|(simp only[due];grind)
     have e1:o8 now t=[⟨bQ t.F,t.F,t.bt+1⟩]:=by simp only[o8];exact if_pos ⟨hd,by assumption⟩
     have e2:lJ now t=[]:=by simp only[lJ];exact if_neg (by simp_all)
     rw[e2,xr] at hft
     rw[e1] at Xf
     rw[hM _ (by simp only[f_,hd,if_true];rw[if_neg (by assumption)])]
     exact⟨⟨by omega,by omega,rfl,Xf,hft⟩,by simp only[nX];omega⟩)
   |(have hd:due now t=false:=by first|assumption|(simp only[due];grind)
     have e1:o8 now t=[]:=by simp only[o8];exact if_neg (by simp_all)
     have e2:lJ now t=[]:=by simp only[lJ];exact if_neg (by simp_all)
     rw[e1,xr] at Xf
     rw[e2,xr] at hft
     have hs:=hS (by simp only[f_,hd];rfl)
     exact⟨⟨by omega,by omega,hs,Xf,hft⟩,by simp only[nX];omega⟩)
 ·have hc:=yF hc
  exact⟨by rw[cM l (by omega)];rfl,vU (En (i:=i) (f_ now) l (by omega))⟩
theorem DN{l:List ak}{f:ak->ak}{k:Nat}(hF:∀t,(f t).F=t.F)(hk:k<l.length)(hf:gq (f (l.getD k aE))=true)(h:aT l=true):aT (l.modify k f)=true:=by
 rw[mw] at h⊢
 refine⟨by simpa using h.1,fun t ht=> ?_,by rw[oE _ _ hF];exact h.2.2⟩
 obtain⟨i,hi,rfl⟩:=sn ht
 have qh:i<l.length:=by simpa using hi
 rw[List.getElem_modify]
 split
 ·rename_i VX
  subst VX
  rw[eX,fH hk] at hf
  exact hf
 ·exact h.2.1 _ (FJ qh)
theorem rc{l:List ak}{key:BA}{ok:Bool}{v:a_}(h:aT l=true):aT (bB l key ok v).1=true:=by
 unfold bB;split
 ·rename_i hc
  split
  ·have hk:=pc (l:=l) (key:=key) hc.2.2.1
   refine DN (fun _=>rfl) hk ?_ h
   obtain⟨a1,a2,a3,a4,a5,a6,a7⟩:=gp.1 (nz h hk)
   refine gp.2 ⟨a1,a2,?_,a4,a5,.inr hc.2.1,?_⟩
   ·simp only[sG];split<;>omega
   ·simp only[sG];split<;>simp
  ·exact h
 ·exact h
theorem wF(f:aJ):(bQ f).size<=200:=by
 unfold bQ;split
 ·rename_i h
  obtain⟨h1,h2,h3,h4⟩:=ke h
  have:=Ew f.ah h2
  rw[ju];simp only[kI,te,AJ,fY,fG];omega
 ·simp[aj]
theorem O8{l:List bj}{u:bj}(h:dD l=true)(hl:l.length<30)(hk:1<=u.Key.size/\u.Key.size<=200)(hf:bw u.F=true)(hn:uN l u.Key=false):dD (l++[u])=true:=by
 simp only[dD,cO,decide_eq_true_eq] at h⊢
 have hlen:(l++[u]).length=l.length+1:=by simp
 refine⟨by omega,yS.2 fun j hj=> ?_⟩
 have g:∀k,k<l.length->(l++[u]).getD k bP=l.getD k bP:=fun k hk=>by rw[eX,eX,xx hk]
 rcases pa j l.length with hjl|hjl
 ·have:=yS.1 h.2 j hjl
  unfold jQ at this⊢
  rw[g j hjl]
  rw[<-this]
  congr 2
  exact nL fun k hk=>by rw[g k (by omega)]
 ·have:j=l.length:=by omega
  subst this
  have gl:(l++[u]).getD l.length bP=u:=by rw[eX,zu (tR _)];simp
  unfold jQ
  rw[gl,hf]
  have:(anyI l.length fun k=>decide (((l++[u]).getD k bP).Key=u.Key))=false:=by
   rw[<-hn]
   exact nL fun k hk=>by rw[g k hk]
  rw[this]
  simp only[Uz,BE,decide_eq_true_eq];exact hk
theorem Im{f:aJ}(h:bw f=true):1<=(bQ f).size:=by
 rw[bQ,if_pos h,ju];simp only[kI,AJ,fY];omega
theorem Ky{l:List bj}{t:ak}(h:kS l t=true):dD (cH l t).1=true:=by
 rw[cH,if_pos h]
 simp only[kS,cO,ra,decide_eq_false_iff_not] at h
 obtain⟨⟨⟨⟨h1,h2⟩,h3⟩,h4⟩,h5⟩:=h
 have:=wF t.F
 have:=Im h2
 refine O8 h1 (by omega) ⟨by assumption,by assumption⟩ ?_ h4
 have h6:=h2
 simp only[bw,cO] at h6⊢
 exact⟨⟨h3,h6.1.2⟩,h6.2⟩
theorem xA{l:List bj}(n:Nat)(h:dD l=true):dD (l.take n)=true:=by
 simp only[dD,cO,decide_eq_true_eq] at h⊢
 have hg:∀k,k<(l.take n).length->(l.take n).getD k bP=l.getD k bP:=fun k hk=>by
  rw[eX,eX,qa,if_pos (by simp at hk;omega)]
 refine⟨by have:=h.1;simp only[oz];omega,gg.2 fun i hi=> ?_⟩
 have h2:=gg.1 h.2 i (by simp at hi;omega)
 simp only[jQ] at h2⊢
 rw[hg i hi,nL (q:=fun k=>decide ((l.getD k bP).Key=(l.getD i bP).Key)) fun k hk=>by rw[hg k (by omega)]]
 exact h2
def yd(x:aq):aq:=im ⟨x.S,x.aC,x.ap,x.ax,x.ay.take (x.ay.length-1),x.State,x.cJ⟩
theorem Qh{x:aq}(h:cW x):cW ⟨x.S,x.aC,x.ap,x.ax,x.ay.take (x.ay.length-1),x.State,x.cJ⟩:=⟨h.1,xA _ h.2.1,h.2.2⟩
def t_(f:aJ)(word:BA)(v:a_):aJ:=⟨f.Kind,[⟨2,0,word⟩,v]⟩
def bOk:BA:=⟨#[111,107]⟩
def bNo:BA:=⟨#[110,111]⟩
def J2(ok:Bool):BA:=if ok=true then bOk else bNo
def qn(x:aq)(l:List ak):aq:=⟨x.S,x.aC,l,x.ax,x.ay,x.State,x.cJ⟩
def DD(x:aq)(l:List bj):aq:=⟨x.S,x.aC,x.ap,x.ax,l,x.State,x.cJ⟩
def Gj(x:aq)(k:Nat)(ok:Bool)(v:a_):aq:=
 if x.State≠1 then yd x
 else if ok=true/\(x.ap.getD k aE).aR≠aj then
  (if(cH x.ay (x.ap.getD k aE)).2=true then du (DD x (cH x.ay (x.ap.getD k aE)).1) (t_ (x.ap.getD k aE).F (J2 ok) v) else gK x 3)
 else du x (t_ (x.ap.getD k aE).F (J2 ok) v)
def kg(x:aq)(key:BA)(ok:Bool)(v:a_):aq×Int:=
 if(bB x.ap key ok v).2=1 then(Gj (qn x (bB x.ap key ok v).1) (aZ (bB x.ap key ok v).1 key).toNat ok v,1) else(x,(bB x.ap key ok v).2)
theorem ON{x:aq}{k:Nat}{ok:Bool}{v:a_}(h:x.State=1):Gj x k ok v=if ok=true/\(x.ap.getD k aE).aR≠aj then
  (if(cH x.ay (x.ap.getD k aE)).2=true then du (DD x (cH x.ay (x.ap.getD k aE)).1) (t_ (x.ap.getD k aE).F (J2 ok) v) else gK x 3)
 else du x (t_ (x.ap.getD k aE).F (J2 ok) v):=if_neg (by omega)
theorem ES{x:aq}(h:cW x){t:ak}(hp:(cH x.ay t).2=true):cW (DD x (cH x.ay t).1):=by
 refine⟨h.1,?_,h.2.2⟩
 by_cases hc:kS x.ay t=true
 ·exact Ky hc
 ·rw[cH,if_neg hc] at hp;cases hp
theorem Lj{x:aq}{key:BA}{ok:Bool}{v:a_}(h:cW x):cW (qn x (bB x.ap key ok v).1):=⟨rc h.1,h.2⟩
theorem MK{l:List ak}{key:BA}{ok:Bool}{v:a_}(h:¬(bB l key ok v).2=1):(bB l key ok v).1=l:=by
 unfold bB at h⊢
 split
 ·rename_i h1
  rw[if_pos h1] at h
  split
  ·rename_i h2
   rw[if_pos h2] at h;exact absurd rfl h
  ·rfl
 ·rfl
theorem Kp{l:List ak}{key:BA}{ok:Bool}{v:a_}(h:(bB l key ok v).2=1):0<=aZ (bB l key ok v).1 key/\aZ (bB l key ok v).1 key<((bB l key ok v).1.length:Int):=by
 have h1:aT l=true/\bO v=true/\0<=aZ l key/\(l.getD (aZ l key).toNat aE).State≠1:=Classical.byContradiction fun c=>by rw[sF c] at h;simp at h
 have h2:(l.getD (aZ l key).toNat aE).State=2:=Classical.byContradiction fun c=>by rw[vp h1 c] at h;simp at h
 have e:=congrArg Prod.fst (zG (key:=key) (ok:=ok) (v:=v) h1 h2)
 have hk:=pc (l:=l) (key:=key) h1.2.2.1
 have e3:aZ (bB l key ok v).1 key=aZ l key:=by
  rw[e];unfold aZ
  rw[Mg]
  refine wW fun j hj=> ?_
  congr 2
  rw[eX,eX,YX,fH hj]
  show bQ (((if _=j then sG ok v l[j] else l[j])).F)=bQ (l[j]).F
  split<;>rfl
 rw[e3,e,Mg];omega
def afz:=cj (α:=aJ×BA×a_) (qC (qA .dk) (qC qS (q1 (qA .bc)))) [.ro,.ro,.ro] (fun _=>[]) (fun(f,word,v)=>⟨[dA .dk (t_ f word v)],[],[]⟩)
def Ys:HH:=hF afz func216 [] a0 fun x hp hb=>by
 obtain⟨f,word,v⟩:=x
 have aS:=eh (x:=f) (hb _ m0)
 have dW:=aS.1
 have cF:=aS.2
 have ajp:=Bg (s:=word) (hb _ m1)
 have w5:=jp (x:=v) (hb _ m2)
 clear hp hb
 apply vE (Lf [DV.agg [CS f.Kind,CL .bc [{K:=(2:Int),N:=(0:Int),S:=word:a_},v]]] [DV.agg [CS ((t_ f word v).Kind),CL .bc (t_ f word v).ah]])
 exact bf _
def afy:=cj (α:=aq) (q1 (qX .ct)) [.box true] (fun x=>[cW x,x.State=3\/x.State=5]) (fun x=>⟨[],[],[dX .ct (yd x)]⟩)
def Yr:HH:=hF afy func217 [agW,YJ] a0 fun(x:aq) hp hb=>by
 have aS:=fe (x:=x) (hb _ m0)
 have bC:=aS.1
 have cg:=aS.2.1
 have cf:=aS.2.2.1
 have bN:=aS.2.2.2.1
 have cd:=aS.2.2.2.2
 have bo:cW x:=hp _ m0
 have fw:x.State=3\/x.State=5:=hp _ m1
 clear hp hb
 apply vE (let x1:={S:=x.S,aC:=x.aC,ap:=x.ap,ax:=x.ax,ay:=x.ay.take (x.ay.length-1),State:=x.State,cJ:=x.cJ:aq};let x0:=im x1;L4 (cx x.ay)/\cW x1/\(x.State=3\/x.State=5)/\LM [] [] [DV.box (aA x0)] [DV.box (aA (yd x))])
 dsimp only
 have:=(zz bo.2.1).2.2
 exact⟨by omega,Qh bo,fw,rfl,rfl,rfl⟩
def afU:=cj (α:=aq×Int×Bool×a_) (qC (qX .ct) (qC qI (qC qO (q1 (qA .bc))))) [.box true,.ro,.ro,.ro] (fun(x,k,ok,v)=>[cW x,br x.S=true,0<=k/\k<x.ap.length,x.State=1\/x.State=3\/x.State=5]) (fun(x,k,ok,v)=>⟨[],[],[dX .ct (Gj x k.toNat ok v)]⟩)
def ahq:HH:=hF afU func184 [Yr,YE,TN,Ys,QI] a0 fun x hp hb=>by
 obtain⟨x,k,ok,v⟩:=x
 have aS:=fe (x:=x) (hb _ m0)
 have bC:=aS.1
 have cg:=aS.2.1
 have cf:=aS.2.2.1
 have bN:=aS.2.2.2.1
 have cd:=aS.2.2.2.2
 have amq:=tg (n:=k) (hb _ m1)
 have w5:=jp (x:=v) (hb _ m3)
 have bo:cW x:=hp _ m0
 have fw:br x.S=true:=hp _ m1
 have JW:0<=k/\k<x.ap.length:=hp _ m2
 have hp3:x.State=1\/x.State=3\/x.State=5:=hp _ m3
 clear hp hb
 apply vE (let x8:=x.ap.getD k.toNat aE;let x9:= !ByteArray.toList x8.aR==ByteArray.toList {data:= #[]:BA};let x2:={S:=x.S,aC:=x.aC,ap:=x.ap,ax:=x.ax,ay:=(cH {τ:=Cd.aW,xs:=x.ay:jh UU}.xs {F:={Kind:=x8.F.Kind,ah:={τ:=Cd.bc,xs:=(List.getD {τ:=Cd.az,xs:=x.ap:jh UU}.xs k.toNat (UU.fq {τ:=Cd.az,xs:=x.ap:jh UU}.τ)).F.ah:jh UU}.xs:aJ},aR:=x8.aR,State:=x8.State,bt:=x8.bt,jF:=x8.jF,V:={K:=x8.V.K,N:=x8.V.N,S:=x8.V.S:a_}:ak}).1,State:=x.State,cJ:=x.cJ:aq};let x5:= !(cH {τ:=Cd.aW,xs:=x.ay:jh UU}.xs {F:={Kind:=x8.F.Kind,ah:={τ:=Cd.bc,xs:=(List.getD {τ:=Cd.az,xs:=x.ap:jh UU}.xs k.toNat (UU.fq {τ:=Cd.az,xs:=x.ap:jh UU}.τ)).F.ah:jh UU}.xs:aJ},aR:=x8.aR,State:=x8.State,bt:=x8.bt,jF:=x8.jF,V:={K:=x8.V.K,N:=x8.V.N,S:=x8.V.S:a_}:ak}).2;let x6:=t_ x8.F {data:= #[(110:UInt8),(111:UInt8)]:BA} v;let x7:=t_ x8.F {data:= #[(111:UInt8),(107:UInt8)]:BA} v;let x0:=du x2 x7;let x1:=du x2 x6;let x3:=du x x6;let x4:=du x x7;let q0:=aA (Gj x k.toNat ok v);let q1:=k.toNat<x.ap.length/\cW x/\br x.S=true/\L4 x7.ah.length/\LM [] [] [DV.box (aA x4)] [DV.box q0];let q2:=k.toNat<x.ap.length/\cW x/\br x.S=true/\L4 x6.ah.length/\LM [] [] [DV.box (aA x3)] [DV.box q0];let q3:=cW x/\((3:Int)=(3:Int)\/(3:Int)=(5:Int))/\LM [] [] [DV.box (aA (gK x 3))] [DV.box q0];0<=k/\k.toNat<x.ap.length/\k.toNat<x.ap.length/\bif x.State !=1 then cW x/\(x.State=3\/x.State=5)/\LM [] [] [DV.box (aA (yd x))] [DV.box q0] else bif ok then bif ok then bif x9 then k.toNat<x.ap.length/\L4 (cx x.ay)/\L4 x8.F.ah.length/\bif x5 then q3 else k.toNat<x.ap.length/\cW x2/\br x.S=true/\L4 x7.ah.length/\LM [] [] [DV.box (aA x0)] [DV.box q0] else q1 else q1 else bif ok then bif x9 then k.toNat<x.ap.length/\L4 (cx x.ay)/\L4 x8.F.ah.length/\bif x5 then q3 else k.toNat<x.ap.length/\cW x2/\br x.S=true/\L4 x6.ah.length/\LM [] [] [DV.box (aA x1)] [DV.box q0] else q2 else q2)
 dsimp only
 have Ur:=bo
 obtain⟨q1,q2,q3,q4⟩:=bo
 have hk:k.toNat<x.ap.length:=by omega
 have k3:=(zz q2).2.2
 have Qc:=(o7 (gp.1 (nz q1 hk)).1).1
 rw[aM]
 refine⟨JW.1,hk,hk,mh (fun hs=>⟨Ur,by omega,by trivial,by trivial,nB ?_⟩) (fun hs=> ?_)⟩
 ·exact(if_pos hs).symm
 have e0:=ON (k:=k.toNat) (ok:=ok) (v:=v) hs
 cases ok with
 |false=>
  simp only[cond_false]
  exact⟨hk,Ur,fw,by simp[t_],by trivial,by trivial,nB (e0.trans (if_neg (by simp))).symm⟩
 |true=>
  simp only[cond_true]
  refine bE ?_ ?_<;>intro g
  ·have g:¬(x.ap.getD k.toNat aE).aR=aj:=yF g
   refine⟨hk,by omega,by omega,bE (fun p=> ?_) (fun p=> ?_)⟩
   ·have p:(cH x.ay (x.ap.getD k.toNat aE)).2=false:=p
    exact⟨Ur,.inl (by trivial),by trivial,by trivial,nB (e0.trans ((if_pos ⟨rfl,g⟩).trans (if_neg (by rw[p];decide)))).symm⟩
   ·have p:(cH x.ay (x.ap.getD k.toNat aE)).2=true:=p
    exact⟨hk,ES Ur p,fw,by simp[t_],by trivial,by trivial,nB (e0.trans ((if_pos ⟨rfl,g⟩).trans (if_pos p))).symm⟩
  ·have g:(x.ap.getD k.toNat aE).aR=aj:=yT g
   exact⟨hk,Ur,fw,by simp[t_],by trivial,by trivial,nB (e0.trans (if_neg (fun c=>c.2 g))).symm⟩
def af_:=cj (α:=aq×BA×Bool×a_) (qC (qX .ct) (qC qS (qC qO (q1 (qA .bc))))) [.box true,.ro,.ro,.ro] (fun(x,key,ok,v)=>[cW x,br x.S=true,bO v=true,(bB x.ap key ok v).2=1->x.State=1\/x.State=3\/x.State=5]) (fun(x,key,ok,v)=>⟨[dI ((kg x key ok v).2)],[],[dX .ct ((kg x key ok v).1)]⟩)
def ahU:HH:=hF af_ func139 [YF,TV,ahq] a0 fun x hp hb=>by
 obtain⟨x,key,ok,v⟩:=x
 have aS:=fe (x:=x) (hb _ m0)
 have bC:=aS.1
 have cg:=aS.2.1
 have cf:=aS.2.2.1
 have bN:=aS.2.2.2.1
 have cd:=aS.2.2.2.2
 have Nd:=Bg (s:=key) (hb _ m1)
 have w5:=jp (x:=v) (hb _ m3)
 have bo:cW x:=hp _ m0
 have fw:br x.S=true:=hp _ m1
 have JW:bO v=true:=hp _ m2
 have hp3:(bB x.ap key ok v).2=1->x.State=1\/x.State=3\/x.State=5:=hp _ m3
 clear hp hb
 apply vE (let x1:=aZ (bB {τ:=Cd.az,xs:=x.ap:jh UU}.xs key ok {K:=v.K,N:=v.N,S:=v.S:a_}).1 key;let x2:={S:=x.S,aC:=x.aC,ap:=(bB {τ:=Cd.az,xs:=x.ap:jh UU}.xs key ok {K:=v.K,N:=v.N,S:=v.S:a_}).1,ax:=x.ax,ay:=x.ay,State:=x.State,cJ:=x.cJ:aq};let x0:=Gj x2 x1.toNat ok v;let q0:=bB {τ:=Cd.az,xs:=x.ap:jh UU}.xs key ok {K:=v.K,N:=v.N,S:=v.S:a_};let q1:=kg x key ok v;aT x.ap=true/\bO v=true/\bif q0.2==1 then cW x2/\br x.S=true/\(0<=x1/\x1<(↑(q0.1.length):Int))/\(x.State=1\/x.State=3\/x.State=5)/\LM [VI (q0.2)] [VI (q1.2)] [DV.box (aA x0)] [DV.box [CL .aH q1.1.S.ab,CI (q1.1.S.Next),CL .aB q1.1.aC,CL .az q1.1.ap,CL .aI q1.1.ax,CL .aW q1.1.ay,CI (q1.1.State),CI (q1.1.cJ)]] else LM [VI (q0.2)] [VI (q1.2)] [DV.box [CL .aH x.S.ab,CI x.S.Next,CL .aB x.aC,CL .az q0.1,CL .aI x.ax,CL .aW x.ay,CI x.State,CI x.cJ]] [DV.box [CL .aH q1.1.S.ab,CI (q1.1.S.Next),CL .aB q1.1.aC,CL .az q1.1.ap,CL .aI q1.1.ax,CL .aW q1.1.ay,CI (q1.1.State),CI (q1.1.cJ)]])
 dsimp only
 have Ur:=bo
 have gZ:=Kp (l:=x.ap) (key:=key) (ok:=ok) (v:=v)
 refine⟨bo.1,JW,bi (fun h=> ?_) (fun h=> ?_)⟩
 ·have e:kg x key ok v=(Gj (qn x (bB x.ap key ok v).1) (aZ (bB x.ap key ok v).1 key).toNat ok v,1):=if_pos h
  exact⟨Lj Ur,fw,gZ h,hp3 h,by trivial,ajk (h.trans (congrArg Prod.snd e).symm),nB (congrArg Prod.fst e).symm⟩
 ·have e:kg x key ok v=(x,(bB x.ap key ok v).2):=if_neg h
  have e2:=MK (l:=x.ap) (key:=key) (ok:=ok) (v:=v) h
  exact⟨by trivial,ajk (congrArg Prod.snd e).symm,nB (a:=qn x (bB x.ap key ok v).1) ((congrArg (qn x) e2).trans (congrArg Prod.fst e).symm)⟩
def jd:List bV->BA->a_×Bool
 |[],_=>(ee,false)
 |b::l,n=>if b.Name=n then(b.V,true) else jd l n
theorem LP(l:List bV)(n:BA){i:Int}(h0:0<=i)(h:i<l.length):jd (l.drop i.toNat) n=if(l.getD i.toNat tJ).Name=n then((l.getD i.toNat tJ).V,true) else jd (l.drop (i+1).toNat) n:=by
 rw[fc l tJ h0 h];rfl
def cA(a:cN)(l:List bV):a_×Bool:=if a.K=2 then(a.V,true) else if a.K=1 then jd l a.S else(ee,false)
def RT(n:Int):a_:=⟨1,n,aj⟩
def mL(a b:a_):Bool:=decide (a.K=1)&&decide (b.K=1)&&bO a&&bO b
def je(a b:a_)(n:Int):Bool:=mL a b&&bO (RT n)
def m9(a b:a_)(n:Int):a_:=if je a b n then RT n else ee
theorem KU{a b:a_}(h:mL a b=true):(-1000000000<=a.N/\a.N<=1000000000)/\(-1000000000<=b.N/\b.N<=1000000000):=by
 simp only[mL,cO,decide_eq_true_eq] at h
 obtain⟨⟨⟨h1,h2⟩,h3⟩,h4⟩:=h
 simp only[bO,h1,h2,decide_true,cond_true,cO,decide_eq_true_eq] at h3 h4
 exact⟨h3.1,h4.1⟩
theorem DP(a b:a_)(n:Int)(h:mL a b=true->IntKind.wrap .i64 n=n):je a b (IntKind.wrap .i64 n)=je a b n:=by
 cases hi:mL a b with
 |false=>simp only[je,hi,p_]
 |true=>rw[h hi]
theorem Gw(a b:a_)(n:Int)(h:mL a b=true->IntKind.wrap .i64 n=n):m9 a b (IntKind.wrap .i64 n)=m9 a b n:=by
 cases hi:mL a b with
 |false=>simp only[m9,je,hi,p_];rfl
 |true=>rw[h hi]
def qK(e:cn)(l:List bV):a_×Bool:=
 if(cA e.L l).2=false then(ee,false) else if e.Op=aj then((cA e.L l).1,true) else if(cA e.R l).2=false then(ee,false)
 else if e.Op=Fl then(m9 (cA e.L l).1 (cA e.R l).1 ((cA e.L l).1.N+(cA e.R l).1.N),je (cA e.L l).1 (cA e.R l).1 ((cA e.L l).1.N+(cA e.R l).1.N))
 else if e.Op=xd then(m9 (cA e.L l).1 (cA e.R l).1 ((cA e.L l).1.N-(cA e.R l).1.N),je (cA e.L l).1 (cA e.R l).1 ((cA e.L l).1.N-(cA e.R l).1.N)) else(ee,false)
def uP(l:List bV)(e:cn):a_:=(qK e l).1
def uQ(l:List bV)(e:cn):Bool:=(qK e l).2
def mT(es:List cn)(l:List bV):Bool:=es.all (uQ l)
def mS(es:List cn)(l:List bV):List a_:=if mT es l then es.map (uP l) else[]
theorem YU{a a':a_}{b b':Bool}(h1:a=a')(h2:b=b'):Lf [.agg [CI a.K,CI a.N,.lit (.string a.S)],.one (.lit (.bool b))] [.agg [CI a'.K,CI a'.N,.lit (.string a'.S)],.one (.lit (.bool b'))]:=by
 subst h1 h2;exact bf _
theorem ajm{a a':List a_}{b b':Bool}(h1:a=a')(h2:b=b'):Lf [.one (.sl .bc a),.one (.lit (.bool b))] [.one (.sl .bc a'),.one (.lit (.bool b'))]:=by
 subst h1 h2;exact bf _
theorem DO{a b:a_}{n:Int}(h:je a b n=false):Lf [.agg [CI 0,CI 0,.lit (.string ⟨#[]⟩)],.one (.lit (.bool false))] [.agg [CI ((m9 a b n).K),CI ((m9 a b n).N),.lit (.string (m9 a b n).S)],.one (.lit (.bool (je a b n)))]:=
 YU (a:=ee) (by simp only[m9,h];rfl) h.symm
theorem UI{a b:a_}{n:Int}(h:je a b n=true):Lf [.agg [CI 1,CI n,.lit (.string ⟨#[]⟩)],.one (.lit (.bool true))] [.agg [CI ((m9 a b n).K),CI ((m9 a b n).N),.lit (.string (m9 a b n).S)],.one (.lit (.bool (je a b n)))]:=
 YU (a:=RT n) (by simp only[m9,h];rfl) h.symm
theorem LY{a b:a_}(h:mL a b=true):IntKind.wrap .i64 (a.N+b.N)=a.N+b.N:=by
 have:=KU h
 exact wi
theorem J_{a b:a_}(h:mL a b=true):IntKind.wrap .i64 (a.N-b.N)=a.N-b.N:=by
 have:=KU h
 exact wi
def Xp:=cj (α:=(List bV)×BA) (qC (qL .cv) (q1 qS)) [.ro,.ro] (fun _=>[]) (fun(l,name)=>⟨[dA .bc ((jd l name).1),dO ((jd l name).2)],[],[]⟩)
def CT(l:List bV)(name:BA):Int×T22×Unit->Prop:=fun(i,r,_)=>r=(0,0,aj,())/\0<=i/\i<=l.length/\jd (l.drop i.toNat) name=jd l name
def B9(l:List bV)(name:BA):Int×T22×Unit->Nat:=fun(i,r,_)=>l.length-i.toNat
def aii:AX Xp:=fun(l,name)=>bW [(2,aU [iI 6,.box 4 (4,1024) [.lit (.int .i64),.lit (.int .i64),.lit .str]] (fun _=>CT l name) (B9 l name))]
def Yp:HH:=hF Xp func240 [] aii fun x hp hb=>by
 obtain⟨l,name⟩:=x
 have fF:L9 l.length:=iv (hb _ m0)
 have vx:=Bg (s:=name) (hb _ m1)
 clear hp hb
 apply vE (let q0:=jd l name;CT l name (0,(0,0,{data:= #[]:BA},()),())/\∀(y:Int×(Int×Int×BA×PUnit)×PUnit),let x0:=(l.getD y.1.toNat tJ).V;let q1:=(wrap i64 (y.1+1),(y.2.1.1,y.2.1.2.1,y.2.1.2.2.1,()),());CT l name y->bif decide (y.1<(l.length:Int)) then 0<=y.1/\y.1.toNat<l.length/\bif ByteArray.toList (l.getD y.1.toNat tJ).Name==ByteArray.toList name then 0<=y.1/\y.1.toNat<l.length/\Lf [DV.agg [CI x0.K,CI x0.N,CS x0.S],VB true] [DV.agg [CI (q0.1.K),CI (q0.1.N),CS (q0.1.S)],VB (q0.2)] else CT l name q1/\B9 l name q1<B9 l name y else Lf [DV.agg [CI 0,CI 0,CS ({data:= #[]:BA})],VB false] [DV.agg [CI (q0.1.K),CI (q0.1.N),CS (q0.1.S)],VB (q0.2)])
 dsimp only
 refine⟨⟨rfl,by omega,by omega,rfl⟩,?_⟩
 rintro⟨i,⟨r1,r2,r3,⟨⟩⟩,⟨⟩⟩ ⟨hr,h1,h2,hR⟩
 cases hr
 simp only
 refine aQ ?_ ?_<;>intro hc
 ·rw[LP l name h1 hc] at hR
  rw[aM]
  refine⟨by omega,by omega,aQ (fun g=> ?_) (fun g=> ?_)⟩
  ·rw[if_pos g] at hR;rw[<-hR];exact⟨by omega,by omega,bf _⟩
  ·rw[if_neg g] at hR;rw[wi];exact⟨⟨rfl,by omega,by omega,hR⟩,by simp only[B9];omega⟩
 ·have e:l.drop i.toNat=[]:=List.drop_eq_nil_of_le (by omega)
  rw[e] at hR;rw[<-hR];exact bf _
def afk:=cj (α:=cN×(List bV)) (qC (qA .gH) (q1 (qL .cv))) [.ro,.ro] (fun _=>[]) (fun(a,l)=>⟨[dA .bc ((cA a l).1),dO ((cA a l).2)],[],[]⟩)
def Yo:HH:=hF afk func241 [Yp] a0 fun x hp hb=>by
 obtain⟨a,l⟩:=x
 have aS:=tf (x:=a) (hb _ m0)
 have rj:=aS.1
 have rM:=aS.2
 have fF:L9 l.length:=iv (hb _ m1)
 clear hp hb
 apply vE (let q0:=cA a l;bif a.K==2 then Lf [DV.agg [CI a.V.K,CI a.V.N,CS a.V.S],VB true] [DV.agg [CI (q0.1.K),CI (q0.1.N),CS (q0.1.S)],VB (q0.2)] else bif a.K==1 then Lf [DV.agg [CI ((jd l a.S).1.K),CI ((jd l a.S).1.N),CS ((jd l a.S).1.S)],VB ((jd l a.S).2)] [DV.agg [CI (q0.1.K),CI (q0.1.N),CS (q0.1.S)],VB (q0.2)] else Lf [DV.agg [CI 0,CI 0,CS ({data:= #[]:BA})],VB false] [DV.agg [CI (q0.1.K),CI (q0.1.N),CS (q0.1.S)],VB (q0.2)])
 dsimp only
 refine bi (fun h=> ?_) (fun h=>bi (fun h'=> ?_) (fun h'=> ?_))
 ·have e:cA a l=(a.V,true):=if_pos h
  rw[e];exact bf _
 ·have e:cA a l=jd l a.S:=(if_neg h).trans (if_pos h')
  rw[e];exact bf _
 ·have e:cA a l=(ee,false):=(if_neg h).trans (if_neg h')
  rw[e];exact bf _
def afg:=cj (α:=a_×a_×Int) (qC (qA .bc) (qC (qA .bc) (q1 qI))) [.ro,.ro,.ro] (fun _=>[]) (fun(a,b,n)=>⟨[dA .bc (m9 a b n),dO (je a b n)],[],[]⟩)
def Yn:HH:=hF afg func245 [OW] a0 fun x hp hb=>by
 obtain⟨a,b,n⟩:=x
 have rj:=jp (x:=a) (hb _ m0)
 have Nh:=jp (x:=b) (hb _ m1)
 have PW:=tg (n:=n) (hb _ m2)
 clear hp hb
 apply vE (let q0:=Lf [DV.agg [CI 0,CI 0,CS ({data:= #[]:BA})],VB false] [DV.agg [CI ((m9 a b n).K),CI ((m9 a b n).N),CS ((m9 a b n).S)],VB (je a b n)];bif a.K !=1 then q0 else bif b.K !=1 then q0 else bif !bO a then q0 else bif !bO b then q0 else bif !bO {K:=(1:Int),N:=n,S:={data:= #[]:BA}:a_} then q0 else Lf [DV.agg [CI 1,CI n,CS ({data:= #[]:BA})],VB true] [DV.agg [CI ((m9 a b n).K),CI ((m9 a b n).N),CS ((m9 a b n).S)],VB (je a b n)])
 dsimp only
 refine mh (fun h=>DO ?_) (fun h1=>mh (fun h=>DO ?_) (fun h2=>bE (fun h=>DO ?_) (fun h3=>bE (fun h=>DO ?_) (fun h4=>bE (fun h=>DO ?_) (fun h5=>UI ?_)))))
 ·simp only[je,mL,decide_eq_false h,p_]
 ·simp only[je,mL,decide_eq_false h,p_,tI]
 ·simp only[je,mL,show bO a=false from h,p_,tI]
 ·simp only[je,mL,show bO b=false from h,p_,tI]
 ·simp only[je,show bO (RT n)=false from h,tI]
 ·simp only[je,mL,show bO a=true from h3,show bO b=true from h4,show bO (RT n)=true from h5,decide_eq_true h1,decide_eq_true h2];rfl
def afj:=cj (α:=a_×a_) (qC (qA .bc) (q1 (qA .bc))) [.ro,.ro] (fun _=>[]) (fun(a,b)=>⟨[dA .bc (m9 a b (a.N+b.N)),dO (je a b (a.N+b.N))],[],[]⟩)
def agK:HH:=hF afj func242 [Yn] a0 fun x hp hb=>by
 obtain⟨a,b⟩:=x
 have rj:=jp (x:=a) (hb _ m0)
 have Nh:=jp (x:=b) (hb _ m1)
 clear hp hb
 apply vE (let x2:=a.N+b.N;let x0:=m9 a b (wrap i64 x2);let x1:=m9 a b x2;Lf [DV.agg [CI x0.K,CI x0.N,CS x0.S],VB (je a b (wrap i64 x2))] [DV.agg [CI x1.K,CI x1.N,CS x1.S],VB (je a b x2)])
 dsimp only
 rw[DP a b _ LY,Gw a b _ LY];exact bf _
def afi:=cj (α:=a_×a_) (qC (qA .bc) (q1 (qA .bc))) [.ro,.ro] (fun _=>[]) (fun(a,b)=>⟨[dA .bc (m9 a b (a.N-b.N)),dO (je a b (a.N-b.N))],[],[]⟩)
def agJ:HH:=hF afi func243 [Yn] a0 fun x hp hb=>by
 obtain⟨a,b⟩:=x
 have rj:=jp (x:=a) (hb _ m0)
 have Nh:=jp (x:=b) (hb _ m1)
 clear hp hb
 apply vE (let x2:=a.N-b.N;let x0:=m9 a b (wrap i64 x2);let x1:=m9 a b x2;Lf [DV.agg [CI x0.K,CI x0.N,CS x0.S],VB (je a b (wrap i64 x2))] [DV.agg [CI x1.K,CI x1.N,CS x1.S],VB (je a b x2)])
 dsimp only
 rw[DP a b _ J_,Gw a b _ J_];exact bf _
def afp:=cj (α:=cn×(List bV)) (qC (qA .bG) (q1 (qL .cv))) [.ro,.ro] (fun _=>[]) (fun(e,l)=>⟨[dA .bc (uP l e),dO (uQ l e)],[],[]⟩)
def agP:HH:=hF afp func235 [Yo,agK,agJ] a0 fun x hp hb=>by
 obtain⟨e,l⟩:=x
 have aS:=Fh (x:=e) (hb _ m0)
 have Oj:=aS.1
 have K3:=aS.2.1
 have EF:=aS.2.2.1
 have K0:=aS.2.2.2.1
 have ED:=aS.2.2.2.2
 have fF:L9 l.length:=iv (hb _ m1)
 clear hp hb
 apply vE (let x4:=(cA {K:=e.L.K,S:=e.L.S,V:={K:=e.L.V.K,N:=e.L.V.N,S:=e.L.V.S:a_}:cN} l).1.N;let x5:=(cA {K:=e.R.K,S:=e.R.S,V:={K:=e.R.V.K,N:=e.R.V.N,S:=e.R.V.S:a_}:cN} l).1.N;let x2:=x4-x5;let x3:=x4+x5;let x0:=m9 (cA {K:=e.L.K,S:=e.L.S,V:={K:=e.L.V.K,N:=e.L.V.N,S:=e.L.V.S:a_}:cN} l).1 (cA {K:=e.R.K,S:=e.R.S,V:={K:=e.R.V.K,N:=e.R.V.N,S:=e.R.V.S:a_}:cN} l).1 x2;let x1:=m9 (cA {K:=e.L.K,S:=e.L.S,V:={K:=e.L.V.K,N:=e.L.V.N,S:=e.L.V.S:a_}:cN} l).1 (cA {K:=e.R.K,S:=e.R.S,V:={K:=e.R.V.K,N:=e.R.V.N,S:=e.R.V.S:a_}:cN} l).1 x3;let q0:=Lf [DV.agg [CI 0,CI 0,CS ({data:= #[]:BA})],VB false] [DV.agg [CI ((uP l e).K),CI ((uP l e).N),CS ((uP l e).S)],VB (uQ l e)];let q1:=cA {K:=e.L.K,S:=e.L.S,V:={K:=e.L.V.K,N:=e.L.V.N,S:=e.L.V.S:a_}:cN} l;let q2:=cA {K:=e.R.K,S:=e.R.S,V:={K:=e.R.V.K,N:=e.R.V.N,S:=e.R.V.S:a_}:cN} l;let q3:=uP l e;bif !q1.2 then q0 else bif ByteArray.toList e.Op==ByteArray.toList {data:= #[]:BA} then Lf [DV.agg [CI (q1.1.K),CI x4,CS (q1.1.S)],VB true] [DV.agg [CI (q3.K),CI (q3.N),CS (q3.S)],VB (uQ l e)] else bif !q2.2 then q0 else bif ByteArray.toList e.Op==ByteArray.toList {data:= #[(43:UInt8)]:BA} then Lf [DV.agg [CI x1.K,CI x1.N,CS x1.S],VB (je q1.1 q2.1 x3)] [DV.agg [CI (q3.K),CI (q3.N),CS (q3.S)],VB (uQ l e)] else bif ByteArray.toList e.Op==ByteArray.toList {data:= #[(45:UInt8)]:BA} then Lf [DV.agg [CI x0.K,CI x0.N,CS x0.S],VB (je q1.1 q2.1 x2)] [DV.agg [CI (q3.K),CI (q3.N),CS (q3.S)],VB (uQ l e)] else q0)
 dsimp only
 have eL:(⟨e.L.K,e.L.S,⟨e.L.V.K,e.L.V.N,e.L.V.S⟩⟩:cN)=e.L:=rfl
 have eR:(⟨e.R.K,e.R.S,⟨e.R.V.K,e.R.V.N,e.R.V.S⟩⟩:cN)=e.R:=rfl
 simp only[eL,eR,aM]
 refine bE (fun h=> ?_) (fun h=>aQ (fun h1=> ?_) (fun h1=>bE (fun h2=> ?_) (fun h2=>aQ (fun h3=> ?_) (fun h3=>aQ (fun h4=> ?_) (fun h4=> ?_)))))
 all_goals have hn:(cA e.L l).2=false->qK e l=(ee,false):=fun h=>if_pos h
 ·have e1:=hn h
  exact YU (a:=ee) (congrArg Prod.fst e1).symm (congrArg Prod.snd e1).symm
 all_goals have h0:¬(cA e.L l).2=false:=by rw[h];decide
 ·have e1:qK e l=((cA e.L l).1,true):=(if_neg h0).trans (if_pos h1)
  exact YU (congrArg Prod.fst e1).symm (congrArg Prod.snd e1).symm
 ·have e1:qK e l=(ee,false):=(if_neg h0).trans ((if_neg h1).trans (if_pos h2))
  exact YU (a:=ee) (congrArg Prod.fst e1).symm (congrArg Prod.snd e1).symm
 all_goals have h5:¬(cA e.R l).2=false:=by rw[h2];decide
 ·have e1:qK e l=_:=(if_neg h0).trans ((if_neg h1).trans ((if_neg h5).trans (if_pos h3)))
  exact YU (congrArg Prod.fst e1).symm (congrArg Prod.snd e1).symm
 ·have e1:qK e l=_:=(if_neg h0).trans ((if_neg h1).trans ((if_neg h5).trans ((if_neg h3).trans (if_pos h4))))
  exact YU (congrArg Prod.fst e1).symm (congrArg Prod.snd e1).symm
 ·have e1:qK e l=(ee,false):=(if_neg h0).trans ((if_neg h1).trans ((if_neg h5).trans ((if_neg h3).trans (if_neg h4))))
  exact YU (a:=ee) (congrArg Prod.fst e1).symm (congrArg Prod.snd e1).symm
def Xv:=cj (α:=(List cn)×(List bV)) (qC (qL .bG) (q1 (qL .cv))) [.ro,.ro] (fun(es,l)=>[es.length<=4294967295]) (fun(es,l)=>⟨[dL .bc (mS es l),dO (mT es l)],[],[]⟩)
def CY(es:List cn)(l:List bV):List a_×Int×Unit->Prop:=fun(o,i,_)=>0<=i/\i<=es.length/\o=(es.take i.toNat).map (uP l)/\(es.drop i.toNat).all (uQ l)=es.all (uQ l)
def Cb(es:List cn)(l:List bV):List a_×Int×Unit->Nat:=fun(o,i,_)=>es.length-i.toNat
def aip:AX Xv:=fun(es,l)=>bW [(3,aU [iO 6 .bc,iI 7] (fun _=>CY es l) (Cb es l))]
def agY:HH:=hF Xv func225 [agP] aip fun x hp hb=>by
 obtain⟨es,l⟩:=x
 have adR:L9 es.length:=iv (hb _ m0)
 have fF:L9 l.length:=iv (hb _ m1)
 have bo:es.length<=4294967295:=hp _ m0
 clear hp hb
 apply vE (CY es l ([],0,())/\∀(y:List a_×Int×PUnit),let x2:=y.2.1.toNat;let x1:=es.getD x2 ff;let x0:=[uP l x1];let q0:=(y.1++x0,wrap i64 (y.2.1+1),());CY es l y->bif decide (y.2.1<(es.length:Int)) then 0<=y.2.1/\x2<es.length/\bif !uQ l x1 then Lf [VL .bc [],VB false] [VL .bc (mS es l),VB (mT es l)] else L4 (y.1.length+x0.length)/\CY es l q0/\Cb es l q0<Cb es l y else Lf [VL .bc y.1,VB true] [VL .bc (mS es l),VB (mT es l)])
 dsimp only
 refine⟨⟨by omega,by omega,by simp,rfl⟩,?_⟩
 rintro⟨o,i,⟨⟩⟩ ⟨h1,h2,rfl,hR⟩
 dsimp only
 refine aQ ?_ ?_<;>intro hc
 ·rw[en _ _ ff h1 hc] at hR
  refine⟨by omega,by omega,bE (fun g=> ?_) (fun g=> ?_)⟩
  ·have hf:mT es l=false:=by rw[mT,<-hR,show uQ l (es.getD i.toNat ff)=false from g];rfl
   exact ajm (by rw[mS,if_neg (by rw[hf];decide)];rfl) hf.symm
  ·rw[show uQ l (es.getD i.toNat ff)=true from g,wk] at hR
   have hm:(es.take i.toNat).map (uP l)++[uP l (es.getD i.toNat ff)]=(es.take (i+1).toNat).map (uP l):=by rw[<-dH es ff h1 hc,Mp];rfl
   rw[wi]
   exact⟨by simp only[xp,oz,fY,fG];omega,⟨by omega,by omega,hm,hR⟩,by simp only[Cb];omega⟩
 ·have e:es.drop i.toNat=[]:=List.drop_eq_nil_of_le (by omega)
  rw[e] at hR
  have hf:mT es l=true:=hR.symm
  rw[cM es (by omega)]
  exact ajm (by rw[mS,if_pos hf]) hf.symm
def vr(a b:a_):Bool:=if a.K=b.K then(if a.N=b.N then Op.bytesLess a.S.toList b.S.toList else decide (a.N<b.N)) else decide (a.K<b.K)
def zU(l:List bV)(c:dB):Bool:=(cA c.L l).2&&(cA c.R l).2&&(if c.Op=1 then decide ((cA c.L l).1=(cA c.R l).1) else if c.Op=2 then !decide ((cA c.L l).1=(cA c.R l).1) else if c.Op=3 then vr (cA c.L l).1 (cA c.R l).1 else false)
def sP(cs:List dB)(l:List bV):Bool:=cs.all (zU l)
def kM(out:List bV)(a:cN)(v:a_):Option (List bV):=
 if a.K=2 then(if a.V=v then some out else none) else if a.K=1 then(if(jd out a.S).2=true then(if(jd out a.S).1=v then some out else none) else some (out++[⟨a.S,v⟩])) else some out
def jv:List cN->List a_->List bV->Option (List bV)
 |[],_,out=>some out
 |a::al,v::vs,out=>match kM out a v with|some o=>jv al vs o|none=>none
 |_::_,[],_=>none
def fJ(p:cr)(f:aJ)(l:List bV):Option (List bV):=if f.Kind=p.Kind/\f.ah.length=p.av.length then jv p.av f.ah l else none
def Sv(p:cr)(l:List bV)(x:bL):Bool:=(fJ p x.F l).isSome
def Aq(s:List bL)(l:List bV)(p:cr):Bool:=p.Not&&s.any (Sv p l)
def pW(r:aY)(s:List bL)(l:List bV):Bool:=r.aD.any (Aq s l)
theorem F7{out:List bV}{a:cN}{v:a_}{o:List bV}(h:kM out a v=some o):o.length<=out.length+1:=by
 simp only[kM] at h
 repeat' (split at h)
 all_goals first|(cases h;simp)|cases h
theorem wz:∀{al:List cN}{vs:List a_}{out o:List bV},jv al vs out=some o->o.length<=out.length+al.length
 |[],_,out,o,h=>by simp only[jv,gJ] at h;subst h;simp
 |a::al,v::vs,out,o,h=>by
  simp only[jv] at h
  split at h
  ·rename_i o' he
   have:=F7 he
   have:=wz h
   simp only[fY];omega
  ·cases h
 |_::_,[],_,_,h=>by simp[jv] at h
theorem Ek{p:cr}{f:aJ}{l o:List bV}(h:fJ p f l=some o):o.length<=l.length+p.av.length:=by
 simp only[fJ] at h
 split at h
 ·exact wz h
 ·cases h
theorem El{al:List cN}{vs:List a_}(o:List bV){i:Int}(h0:0<=i)(h:i<al.length)(hl:vs.length=al.length):jv (al.drop i.toNat) (vs.drop i.toNat) o=match kM o (al.getD i.toNat mG) (vs.getD i.toNat ee) with|some o'=>jv (al.drop (i+1).toNat) (vs.drop (i+1).toNat) o'|none=>none:=by
 rw[fc al mG h0 h,fc vs ee h0 (by omega)];rfl
theorem VH{a b:a_}{P Q:Prop}(h1:¬a=b->P)(h2:a=b->Q):bif !(a.K==b.K&&(a.N==b.N&&(ByteArray.toList a.S==ByteArray.toList b.S&&true))) then P else Q:=by
 rw[gN];exact bE (fun h=>h1 (yF h)) (fun h=>h2 (yT h))
theorem Ob{a b:BA}{P Q:Prop}(h1:¬a=b->P)(h2:a=b->Q):bif !(ByteArray.toList a==ByteArray.toList b) then P else Q:=by
 rw[aM];exact bE (fun h=>h1 (yF h)) (fun h=>h2 (yT h))
def afh:=cj (α:=a_×a_) (qC (qA .bc) (q1 (qA .bc))) [.ro,.ro] (fun _=>[]) (fun(a,b)=>⟨[dO (vr a b)],[],[]⟩)
def agI:HH:=hF afh func244 [] a0 fun x hp hb=>by
 obtain⟨a,b⟩:=x
 have rj:=jp (x:=a) (hb _ m0)
 have Nh:=jp (x:=b) (hb _ m1)
 clear hp hb
 apply vE (bif a.K !=b.K then Lb (decide (a.K<b.K)) (vr a b) else bif a.N !=b.N then Lb (decide (a.N<b.N)) (vr a b) else Lb (Op.bytesLess (ByteArray.toList a.S) (ByteArray.toList b.S)) (vr a b))
 refine mh (fun h=>ck (if_neg h).symm) (fun h=>mh (fun g=>ck ?_) (fun g=>ck ?_))
 ·exact((if_pos h).trans (if_neg g)).symm
 ·exact((if_pos h).trans (if_pos g)).symm
def afm:=cj (α:=dB×(List bV)) (qC (qA .bT) (q1 (qL .cv))) [.ro,.ro] (fun _=>[]) (fun(c,l)=>⟨[dO (zU l c)],[],[]⟩)
def agL:HH:=hF afm func239 [Yo,agI] a0 fun x hp hb=>by
 obtain⟨c,l⟩:=x
 have aS:=Fj (x:=c) (hb _ m0)
 have K6:=aS.1
 have EH:=aS.2.1
 have K5:=aS.2.2.1
 have EG:=aS.2.2.2
 have fF:L9 l.length:=iv (hb _ m1)
 clear hp hb
 apply vE (let x0:=(cA {K:=c.L.K,S:=c.L.S,V:={K:=c.L.V.K,N:=c.L.V.N,S:=c.L.V.S:a_}:cN} l).1.K==(cA {K:=c.R.K,S:=c.R.S,V:={K:=c.R.V.K,N:=c.R.V.N,S:=c.R.V.S:a_}:cN} l).1.K&&((cA {K:=c.L.K,S:=c.L.S,V:={K:=c.L.V.K,N:=c.L.V.N,S:=c.L.V.S:a_}:cN} l).1.N==(cA {K:=c.R.K,S:=c.R.S,V:={K:=c.R.V.K,N:=c.R.V.N,S:=c.R.V.S:a_}:cN} l).1.N&&(ByteArray.toList (cA {K:=c.L.K,S:=c.L.S,V:={K:=c.L.V.K,N:=c.L.V.N,S:=c.L.V.S:a_}:cN} l).1.S==ByteArray.toList (cA {K:=c.R.K,S:=c.R.S,V:={K:=c.R.V.K,N:=c.R.V.N,S:=c.R.V.S:a_}:cN} l).1.S&&true));let q0:=cA {K:=c.L.K,S:=c.L.S,V:={K:=c.L.V.K,N:=c.L.V.N,S:=c.L.V.S:a_}:cN} l;let q1:=cA {K:=c.R.K,S:=c.R.S,V:={K:=c.R.V.K,N:=c.R.V.N,S:=c.R.V.S:a_}:cN} l;let q2:=zU l c;bif !q0.2 then Lb false q2 else bif !q1.2 then Lb false q2 else bif c.Op==1 then Lb x0 q2 else bif c.Op==2 then Lb (!x0) q2 else bif c.Op==3 then Lb (vr q0.1 q1.1) q2 else Lb false q2)
 dsimp only
 have eL:(⟨c.L.K,c.L.S,⟨c.L.V.K,c.L.V.N,c.L.V.S⟩⟩:cN)=c.L:=rfl
 have eR:(⟨c.R.K,c.R.S,⟨c.R.V.K,c.R.V.N,c.R.V.S⟩⟩:cN)=c.R:=rfl
 simp only[eL,eR,gN]
 refine bE (fun h=>ck ?_) (fun h=>bE (fun h1=>ck ?_) (fun h1=>bi (fun h2=>ck ?_) (fun h2=>bi (fun h3=>ck ?_) (fun h3=>bi (fun h4=>ck ?_) (fun h4=>ck ?_)))))
 all_goals (simp only[zU];grind)
def Xr:=cj (α:=(List dB)×(List bV)) (qC (qL .bT) (q1 (qL .cv))) [.ro,.ro] (fun _=>[]) (fun(cs,l)=>⟨[dO (sP cs l)],[],[]⟩)
def CU(cs:List dB)(l:List bV):Int×Unit->Prop:=fun(i,_)=>0<=i/\i<=cs.length/\(cs.drop i.toNat).all (zU l)=sP cs l
def B'(cs:List dB)(l:List bV):Int×Unit->Nat:=fun(i,_)=>cs.length-i.toNat
def ail:AX Xr:=fun(cs,l)=>bW [(2,aU [iI 5] (fun _=>CU cs l) (B' cs l))]
def agQ:HH:=hF Xr func233 [agL] ail fun x hp hb=>by
 obtain⟨cs,l⟩:=x
 have apj:L9 cs.length:=iv (hb _ m0)
 have fF:L9 l.length:=iv (hb _ m1)
 clear hp hb
 apply vE (CU cs l (0,())/\∀(y:Int×PUnit),let q0:=(wrap i64 (y.1+1),());CU cs l y->bif decide (y.1<(cs.length:Int)) then 0<=y.1/\y.1.toNat<cs.length/\bif !zU l (cs.getD y.1.toNat ql) then Lb false (sP cs l) else CU cs l q0/\B' cs l q0<B' cs l y else Lb true (sP cs l))
 dsimp only
 refine⟨⟨by omega,by omega,rfl⟩,?_⟩
 rintro⟨i,⟨⟩⟩ ⟨h1,h2,hR⟩
 simp only
 refine aQ ?_ ?_<;>intro hc
 ·rw[en _ _ ql h1 hc] at hR
  rw[wi]
  refine⟨by omega,by omega,bE (fun g=>bD (by rw[<-hR,g];rfl)) (fun g=>⟨⟨by omega,by omega,by rw[<-hR,g,wk]⟩,by simp only[B'];omega⟩)⟩
 ·rw[cy _ (by omega)] at hR
  exact nv hR.symm
def Xq:=cj (α:=cr×aJ×(List bV)) (qC (qA .dE) (qC (qA .dk) (q1 (qL .cv)))) [.ro,.ro,.ro] (fun(p,f,l)=>[l.length+p.av.length<=4294967295]) (fun(p,f,l)=>⟨[dL .cv ((fJ p f l).getD l),dO ((fJ p f l).isSome)],[],[]⟩)
def tB(p:cr)(f:aJ)(l:List bV):List bV×Int×O4×T7×Unit->Prop:=fun(o,i,b,g,_)=>b=(p.Kind,p.av,p.Not,())/\g=(f.Kind,f.ah,())/\0<=i/\i<=p.av.length/\o.length<=l.length+i/\jv (p.av.drop i.toNat) (f.ah.drop i.toNat) o=fJ p f l
def nW(p:cr)(f:aJ)(l:List bV):List bV×Int×O4×T7×Unit->Nat:=fun(o,i,b,g,_)=>p.av.length-i.toNat
def aik:AX Xq:=fun(p,f,l)=>bW [(5,aU [iO 8 .cv,iI 9,.box 3 (3,1024) [.lit .str,.shr .gH,.lit .bool],.box 4 (4,1024) [.lit .str,.shr .bc]] (fun _=>tB p f l) (nW p f l))]
def Yq:HH:=hF Xq func234 [Yp] aik fun x hp hb=>by
 obtain⟨p,f,l⟩:=x
 have aS:=B5 (x:=p) (hb _ m0)
 have zV:=aS.1
 have zW:=aS.2
 have dw:=eh (x:=f) (hb _ m1)
 have dW:=dw.1
 have cF:=dw.2
 have fF:L9 l.length:=iv (hb _ m2)
 have bo:l.length+p.av.length<=4294967295:=hp _ m0
 clear hp hb
 apply vE (let q0:=Lf [VL .cv ([]++l),VB false] [VL .cv (Option.getD (fJ p f l) l),VB (Option.isSome (fJ p f l))];let q1:=(0:Nat)+l.length<=4294967296/\q0;0+l.length<=4294967296/\bif !ByteArray.toList p.Kind==ByteArray.toList f.Kind then q0 else bif (p.av.length:Int) !=(f.ah.length:Int) then q0 else tB p f l ([]++l,0,(p.Kind,p.av,p.Not,()),(f.Kind,f.ah,()),())/\∀(y:List bV×Int×T18×WA×PUnit),let x3:=y.2.1.toNat;let x5:=y.2.2.1.2.1.length;let x0:=y.2.2.2.1.2.1.getD x3 ee;let x2:=y.2.2.1.2.1.getD x3 mG;let x4:=(↑x5:Int);let x1:=x2.V;let q2:=bif x2.K==1 then bif !(jd {τ:=Cd.cv,xs:=y.1:jh UU}.xs x2.S).2 then 0<=y.2.1/\x3<y.2.2.2.1.2.1.length/\y.1.length+List.length [{Name:=x2.S,V:=x0:bV}]<=4294967296/\tB p f l (y.1++[{Name:=x2.S,V:=x0:bV}],wrap i64 (y.2.1+1),(y.2.2.1.1,y.2.2.1.2.1,y.2.2.1.2.2.1,()),(y.2.2.2.1.1,y.2.2.2.1.2.1,()),())/\nW p f l (y.1++[{Name:=x2.S,V:=x0:bV}],wrap i64 (y.2.1+1),(y.2.2.1.1,y.2.2.1.2.1,y.2.2.1.2.2.1,()),(y.2.2.2.1.1,y.2.2.2.1.2.1,()),())<nW p f l y else tB p f l (y.1,wrap i64 (y.2.1+1),(y.2.2.1.1,y.2.2.1.2.1,y.2.2.1.2.2.1,()),(y.2.2.2.1.1,y.2.2.2.1.2.1,()),())/\nW p f l (y.1,wrap i64 (y.2.1+1),(y.2.2.1.1,y.2.2.1.2.1,y.2.2.1.2.2.1,()),(y.2.2.2.1.1,y.2.2.2.1.2.1,()),())<nW p f l y else tB p f l (y.1,wrap i64 (y.2.1+1),(y.2.2.1.1,y.2.2.1.2.1,y.2.2.1.2.2.1,()),(y.2.2.2.1.1,y.2.2.2.1.2.1,()),())/\nW p f l (y.1,wrap i64 (y.2.1+1),(y.2.2.1.1,y.2.2.1.2.1,y.2.2.1.2.2.1,()),(y.2.2.2.1.1,y.2.2.2.1.2.1,()),())<nW p f l y;let q3:=bif x2.K==1 then bif (jd {τ:=Cd.cv,xs:=y.1:jh UU}.xs x2.S).2 then 0<=y.2.1/\x3<y.2.2.2.1.2.1.length/\bif !((jd {τ:=Cd.cv,xs:=y.1:jh UU}.xs x2.S).1.K==x0.K&&((jd {τ:=Cd.cv,xs:=y.1:jh UU}.xs x2.S).1.N==x0.N&&(ByteArray.toList (jd {τ:=Cd.cv,xs:=y.1:jh UU}.xs x2.S).1.S==ByteArray.toList x0.S&&true))) then q1 else q2 else q2 else q2;tB p f l y->bif decide (y.2.1<x4) then 0<=y.2.1/\x3<x5/\bif x2.K==2 then 0<=y.2.1/\x3<y.2.2.2.1.2.1.length/\bif !(x1.K==x0.K&&(x1.N==x0.N&&(ByteArray.toList x1.S==ByteArray.toList x0.S&&true))) then q1 else q3 else q3 else Lf [VL .cv y.1,VB true] [VL .cv (Option.getD (fJ p f l) l),VB (Option.isSome (fJ p f l))])
 dsimp only
 have hF:fJ p f l=none->Lf [.one (.sl .cv l),.one (.lit (.bool false))] [.one (.sl .cv ((fJ p f l).getD l)),.one (.lit (.bool (fJ p f l).isSome))]:=fun e=>by rw[e];exact bf _
 refine⟨by show 0+l.length<=_;omega,Ob (fun hk=>hF (if_neg (fun e=>hk e.1.symm))) (fun hk=>mh (fun hl=>hF (if_neg (by omega))) (fun hl=> ?_))⟩
 have hl:f.ah.length=p.av.length:=by omega
 have hM:fJ p f l=jv p.av f.ah l:=if_pos ⟨hk.symm,hl⟩
 refine⟨⟨rfl,rfl,by omega,by omega,by show((l.length:Nat):Int)<=_;omega,hM.symm⟩,?_⟩
 rintro⟨o,i,⟨b1,b2,b3,⟨⟩⟩,⟨g1,g2,⟨⟩⟩,⟨⟩⟩
 rintro⟨hb,hg,h1,h2,h3,hR⟩
 cases hb
 cases hg
 refine aQ ?_ ?_<;>intro hc
 ·have hc:i<p.av.length:=hc
  rw[El o h1 hc hl] at hR
  have hN:kM o (p.av.getD i.toNat mG) (f.ah.getD i.toNat ee)=none->fJ p f l=none:=fun e=>by rw[<-hR,e]
  have hS:∀o',kM o (p.av.getD i.toNat mG) (f.ah.getD i.toNat ee)=some o'->jv (p.av.drop (i+1).toNat) (f.ah.drop (i+1).toNat) o'=fJ p f l:=fun o' e=>by rw[<-hR,e]
  clear hR
  have hs:∀o',o'.length<=o.length+1->kM o (p.av.getD i.toNat mG) (f.ah.getD i.toNat ee)=some o'->tB p f l (o',IntKind.wrap .i64 (i+1),(p.Kind,p.av,p.Not,()),(f.Kind,f.ah,()),())/\nW p f l (o',IntKind.wrap .i64 (i+1),(p.Kind,p.av,p.Not,()),(f.Kind,f.ah,()),())<nW p f l (o,i,(p.Kind,p.av,p.Not,()),(f.Kind,f.ah,()),()):=fun o' h4 e=>by
   rw[wi]
   exact⟨⟨rfl,rfl,by omega,by omega,by omega,hS o' e⟩,by simp only[nW];omega⟩
  clear hS
  have q1:(0:Int)<=i/\i.toNat<p.av.length:=by omega
  have q2:(0:Int)<=i/\i.toNat<f.ah.length:=by omega
  have q3:l.length<=4294967296:=by omega
  have q4:o.length+1<=4294967296:=by omega
  have q5:(0:Nat)+l.length<=4294967296:=by omega
  refine⟨q1.1,q1.2,?_⟩
  repeat' (first|refine And.intro q2.1 (And.intro q2.2 ?_)|refine And.intro q5 ?_|refine And.intro q4 ?_|refine bi (fun _=> ?_) (fun _=> ?_)|refine VH (fun _=> ?_) (fun _=> ?_)|refine bE (fun _=> ?_) (fun _=> ?_)|refine ae (fun _=> ?_) (fun _=> ?_))
  all_goals first|exact hF (hN (by(try simp only at*);simp only[kM];grind))|exact hs _ (by simp) (by(try simp only at*);simp only[kM];grind)
 ·rw[cy p.av (by have hc:¬i<p.av.length:=hc;omega)] at hR
  have hR:fJ p f l=some o:=hR.symm
  rw[hR];exact bf _
def Xs:=cj (α:=aY×aF×(List bV)) (qC (qA .bz) (qC (qA .c_) (q1 (qL .cv)))) [.ro,.ro,.ro] (fun(r,s,l)=>[∀p,p∈r.aD->l.length+p.av.length<=4294967295]) (fun(r,s,l)=>⟨[dO (pW r s.ab l)],[],[]⟩)
def y6(r:aY)(s:aF)(l:List bV):Int×T1×T3×Unit->Prop:=fun(i,b,g,_)=>b=(r.Name,r.jq,r.aD,r.aO,r.bH,())/\g=(s.ab,s.Next,())/\0<=i/\i<=r.aD.length/\(r.aD.drop i.toNat).any (Aq s.ab l)=pW r s.ab l
def vW(r:aY)(s:aF)(l:List bV):Int×T1×T3×Unit->Nat:=fun(i,b,g,_)=>r.aD.length-i.toNat
def CV(r:aY)(s:aF)(l:List bV):Int×Int×T1×T3×Unit->Int×Int×T1×T3×Unit->Prop:=fun(i0,k0,b0,g0,_) (i,k,b,g,_)=>i=i0/\b=b0/\g=g0/\0<=k/\k<=s.ab.length/\((r.aD.getD i.toNat cD).Not=false->k=0)/\(s.ab.drop k.toNat).any (Sv (r.aD.getD i.toNat cD) l)=s.ab.any (Sv (r.aD.getD i.toNat cD) l)
def B_(r:aY)(s:aF)(l:List bV):Int×Int×T1×T3×Unit->Nat:=fun(i,k,b,g,_)=>s.ab.length-k.toNat
def aim:AX Xs:=fun(r,s,l)=>bW [(2,aU [iI 7,.box 3 (3,1024) [.lit .str,.lit (.int .i64),.shr .dE,.shr .bT,.shr .dG],.box 4 (4,1024) [.shr .aH,.lit (.int .i64)]] (fun _=>y6 r s l) (vW r s l)),(5,aU [iI 7,iI 8,.box 3 (3,1024) [.lit .str,.lit (.int .i64),.shr .dE,.shr .bT,.shr .dG],.box 4 (4,1024) [.shr .aH,.lit (.int .i64)]] (CV r s l) (B_ r s l))]
def agR:HH:=hF Xs func232 [Yq] aim fun x hp hb=>by
 obtain⟨r,s,l⟩:=x
 have aS:=jE (x:=r) (hb _ m0)
 have iF:=aS.1
 have iE:=aS.2.1
 have gT:=aS.2.2.1
 have iG:=aS.2.2.2
 have eQ:=ii (x:=s) (hb _ m1)
 have fF:L9 l.length:=iv (hb _ m2)
 have bo:∀p,p∈r.aD->l.length+p.av.length<=4294967295:=hp _ m0
 clear hp hb
 apply vE (let q0:=BA×Int×List cr×List dB×List eK×PUnit;y6 r s l (0,(r.Name,r.jq,r.aD,r.aO,r.bH,()),(s.ab,s.Next,()),())/\∀(y:Int×q0×NJ×PUnit),let x0:=(y.2.1.2.2.1.length:Int);let q1:=(y.1,0,(y.2.1.1,y.2.1.2.1,y.2.1.2.2.1,y.2.1.2.2.2.1,y.2.1.2.2.2.2.1,()),(y.2.2.1.1,y.2.2.1.2.1,()),());y6 r s l y->bif decide (y.1<x0) then CV r s l q1 q1/\∀(aL:Int×Int×q0×NJ×PUnit),let x1:=aL.2.2.1.2.2.1.getD aL.1.toNat cD;let x3:=aL.2.2.2.1.1.length;let x4:=aL.2.1.toNat;let x2:=(↑x3:Int);let q2:=(wrap i64 (aL.1+1),(aL.2.2.1.1,aL.2.2.1.2.1,aL.2.2.1.2.2.1,aL.2.2.1.2.2.2.1,aL.2.2.1.2.2.2.2.1,()),(aL.2.2.2.1.1,aL.2.2.2.1.2.1,()),());let q3:=(aL.1,wrap i64 (aL.2.1+1),(aL.2.2.1.1,aL.2.2.1.2.1,aL.2.2.1.2.2.1,aL.2.2.1.2.2.2.1,aL.2.2.1.2.2.2.2.1,()),(aL.2.2.2.1.1,aL.2.2.2.1.2.1,()),());let q4:=y6 r s l q2/\vW r s l q2<vW r s l y;CV r s l q1 aL->bif decide (aL.2.1<x2) then 0<=aL.1/\aL.1.toNat<aL.2.2.1.2.2.1.length/\bif x1.Not then 0<=aL.1/\aL.1.toNat<aL.2.2.1.2.2.1.length/\0<=aL.2.1/\x4<x3/\l.length+x1.av.length<=4294967295/\bif Option.isSome (fJ x1 (aL.2.2.2.1.1.getD x4 aX).F l) then Lb true (pW r s.ab l) else CV r s l q1 q3/\B_ r s l q3<B_ r s l aL else q4 else q4 else Lb false (pW r s.ab l))
 dsimp only
 refine⟨⟨rfl,rfl,by omega,by omega,rfl⟩,?_⟩
 rintro⟨i,⟨b1,b2,b3,b4,b5,⟨⟩⟩,⟨g1,g2,⟨⟩⟩,⟨⟩⟩ ⟨hb,hg,h1,h2,hR⟩
 cases hb
 cases hg
 simp only
 refine aQ ?_ ?_<;>intro hc
 ·rw[yP _ _ cD h1 hc] at hR
  have hm:r.aD.getD i.toNat cD∈r.aD:=by rw[eX,fH (by omega)];exact FJ _
  have hp:=bo _ hm
  refine⟨⟨rfl,rfl,rfl,by omega,by omega,fun _=>rfl,rfl⟩,?_⟩
  rintro⟨i',k,⟨b1,b2,b3,b4,b5,⟨⟩⟩,⟨g1,g2,⟨⟩⟩,⟨⟩⟩ ⟨rfl,hb,hg,k1,k2,k3,kR⟩
  cases hb
  cases hg
  simp only
  have next:Aq s.ab l (r.aD.getD i'.toNat cD)=false->y6 r s l (wrap i64 (i'+1),(r.Name,r.jq,r.aD,r.aO,r.bH,()),(s.ab,s.Next,()),())/\vW r s l (wrap i64 (i'+1),(r.Name,r.jq,r.aD,r.aO,r.bH,()),(s.ab,s.Next,()),())<vW r s l (i',(r.Name,r.jq,r.aD,r.aO,r.bH,()),(s.ab,s.Next,()),()):=fun e=>by
   rw[wi]
   exact⟨⟨rfl,rfl,by omega,by omega,by rw[<-hR,e,Gl]⟩,by simp only[vW];omega⟩
  refine aQ (fun hk=>⟨by omega,by omega,ae (fun g=>⟨by omega,by omega,by omega,by omega,hp,ae (fun g'=>nv ?_) (fun g'=> ?_)⟩) (fun g=>next (by rw[Aq,g];rfl))⟩) (fun hk=>next ?_)
  ·rw[yP _ _ aX k1 hk,show Sv (r.aD.getD i'.toNat cD) l (s.ab.getD k.toNat aX)=true from g'] at kR
   rw[<-hR,Aq,g,<-kR];rfl
  ·rw[yP _ _ aX k1 hk,show Sv (r.aD.getD i'.toNat cD) l (s.ab.getD k.toNat aX)=false from g',Gl] at kR
   rw[wi (n:=k+1)]
   exact⟨⟨rfl,rfl,rfl,by omega,by omega,fun e=>absurd g (by rw[e];decide),kR⟩,by simp only[B_];omega⟩
  ·rw[cy _ (by omega)] at kR
   rw[Aq,<-kR];exact tI _
 ·rw[cy _ (by omega)] at hR
  exact bD hR.symm
def mE(r:aY):List cr:=r.aD.filter fun p=> !p.Not
def pw(r:aY)(s:List bL):List cr->List Int->List bV->List au
 |[],ids,l=>if(!pW r s l&&sP r.aO l)=true then[⟨0,ids,l⟩] else[]
 |p::ps,ids,l=>s.flatMap fun x=>match fJ p x.F l with|some more=>pw r s ps (ids++[x.Id]) more|none=>[]
def kD(r:aY)(s:List bL)(ids:List Int)(l:List bV):List au:=pw r s ((mE r).drop ids.length) ids l
def px(r:aY)(s:List bL)(ids:List Int)(l:List bV)(x:bL):List au:=match fJ ((mE r).getD ids.length cD) x.F l with|some more=>kD r s (ids++[x.Id]) more|none=>[]
theorem MF{r:aY}(s:List bL){ids:List Int}(l:List bV)(h:ids.length=cR r.aD):kD r s ids l=if(!pW r s l&&sP r.aO l)=true then[⟨0,ids,l⟩] else[]:=by
 have e:(mE r).drop ids.length=[]:=List.drop_eq_nil_of_le (by rw[h];exact tR _)
 simp only[kD,e,pw]
theorem AT{r:aY}(s:List bL){ids:List Int}(l:List bV)(h:ids.length<cR r.aD):kD r s ids l=s.flatMap (px r s ids l):=by
 have h:ids.length<(mE r).length:=h
 have e:(mE r).drop ids.length=(mE r).getD ids.length cD::(mE r).drop (ids.length+1):=by
  rw[Uj h,eX,fH h];rfl
 simp only[kD,e,pw]
 congr 1
 funext x
 simp only[px,kD,kI,fY,fG,vf]
theorem Ll{α β:Type}(q:α->List β)(l:List α)(z:α){i:Int}(h0:0<=i)(h:i<l.length):(l.take (i+1).toNat).flatMap q=(l.take i.toNat).flatMap q++q (l.getD i.toNat z):=by
 rw[<-dH l z h0 h,Ui];simp
theorem SR{α β:Type}(q:α->List β)(l:List α)(n:Nat):((l.take n).flatMap q).length<=(l.flatMap q).length:=by
 conv=>rhs;rw[<-UB n l,Ui,kI]
 exact Nat.le_add_right _ _
theorem Ae{α β:Type}(q:α->List β)(c:Nat):∀(l:List α),(∀x,x∈l->(q x).length<=c)->(l.flatMap q).length<=l.length*c
 |[],_=>by simp
 |x::l,h=>by
  have h1:=h x (by simp)
  have h2:=Ae q c l (fun y hy=>h y (by simp[hy]))
  rw[zt,kI,fY,Nat.succ_mul];omega
theorem zF(r:aY)(s:List bL):∀(ps:List cr)(ids:List Int)(l:List bV),(pw r s ps ids l).length<=s.length^ps.length
 |[],ids,l=>by simp only[pw];split<;>simp
 |p::ps,ids,l=>by
  simp only[pw,fY,Nat.pow_succ]
  rw[Uy]
  refine Ae _ _ _ (fun x _=> ?_)
  split
  ·exact zF r s ps _ _
  ·simp
structure ux(r:aY)(s:List bL)(n:Nat)(ids:List Int)(l:List bV):Prop where
 le:ids.length<=cR r.aD
 three:cR r.aD<=3
 fv:r.aD.length<=6
 args:∀p,p∈r.aD->p.av.length<=5
 items:s.length<=40
 binds:l.length<=5*ids.length
 room:n+(kD r s ids l).length<=4294967295
theorem KC{r:aY}{k:Nat}(h:k<cR r.aD):(mE r).getD k cD∈r.aD:=by
 have h:k<(mE r).length:=h
 rw[eX,fH h]
 exact(zr.1 (FJ h)).1
theorem Km{r:aY}{s:List bL}{n:Nat}{ids:List Int}{l more:List bV}{i:Int}(h:ux r s n ids l)(hk:ids.length<cR r.aD)(h0:0<=i)(hi:i<s.length)(hm:fJ ((mE r).getD ids.length cD) (s.getD i.toNat aX).F l=some more):ux r s (n+((s.take i.toNat).flatMap (px r s ids l)).length) (ids++[(s.getD i.toNat aX).Id]) more where
 le:=by rw[kI];simp only[fY,fG];omega
 three:=h.three
 fv:=h.fv
 args:=h.args
 items:=h.items
 binds:=by
  have h1:=Ek hm
  have h2:=h.args _ (KC hk)
  have h3:=h.binds
  rw[kI];simp only[fY,fG];omega
 room:=by
  have h1:=h.room
  rw[AT s l hk] at h1
  have h2:=SR (px r s ids l) s (i+1).toNat
  rw[Ll _ s aX h0 hi,kI] at h2
  have e:px r s ids l (s.getD i.toNat aX)=kD r s (ids++[(s.getD i.toNat aX).Id]) more:=by simp only[px,hm]
  rw[e] at h2;omega
theorem N9{a b:List au}(h:a=b):dZ [DV.box [.sl .aB a]]=dZ [DV.box [.sl .aB b]]:=by subst h;rfl
theorem MD{r:aY}{s:List bL}{ids:List Int}{l more:List bV}{x:bL}(hm:fJ ((mE r).getD ids.length cD) x.F l=some more):px r s ids l x=kD r s (ids++[x.Id]) more:=by simp only[px,hm]
theorem ME{r:aY}{s:List bL}{ids:List Int}{l:List bV}{x:bL}(hm:fJ ((mE r).getD ids.length cD) x.F l=none):px r s ids l x=[]:=by simp only[px,hm]
def j6(r:aY)(s:List bL):List au:=kD r s [] []
def N0(i:Int)(m:au):au:=⟨i,m.eH,m.bu⟩
def LX(rs:List aY)(s:List bL)(n:Nat):List au:=(List.range n).flatMap fun i=>(j6 (rs.getD i cq) s).map (N0 i)
def allM(rs:List aY)(s:List bL):List au:=LX rs s rs.length
theorem QC(rs:List aY)(s:List bL){i:Int}(h0:0<=i):LX rs s (i+1).toNat=LX rs s i.toNat++(j6 (rs.getD i.toNat cq) s).map (N0 i):=by
 have e:(i+1).toNat=i.toNat+1:=by omega
 have e2:((i.toNat:Nat):Int)=i:=by omega
 rw[e]
 simp only[LX,List.range_succ,Ui,zt,zen,xr,e2]
structure mI(r:aY):Prop where
 three:cR r.aD<=3
 fv:r.aD.length<=6
 args:∀p,p∈r.aD->p.av.length<=5
def nG(r:aY):Prop:=∀k,k<cR r.aD->r.aD.getD k cD=(mE r).getD k cD
theorem M3{r:aY}{s:List bL}(h:mI r)(hs:s.length<=40):ux r s 0 [] [] where
 le:=Nat.zero_le _
 three:=h.three
 fv:=h.fv
 args:=h.args
 items:=hs
 binds:=Nat.zero_le _
 room:=by
  have h1:=zF r s (mE r) [] []
  have h2:(mE r).length<=3:=h.three
  have h3:s.length^(mE r).length<=40^3:=xo (Nat.pow_le_pow_left hs _) (Nat.pow_le_pow_right (by omega) h2)
  show 0+(pw r s (mE r) [] []).length<=_
  have:(40:Nat)^3=64000:=rfl
  omega
theorem A3{r:aY}{s:List bL}(h:mI r)(hs:s.length<=40):(j6 r s).length<=64000:=by
 have h1:=zF r s (mE r) [] []
 have h2:(mE r).length<=3:=h.three
 have h3:s.length^(mE r).length<=40^3:=xo (Nat.pow_le_pow_left hs _) (Nat.pow_le_pow_right (by omega) h2)
 show(pw r s (mE r) [] []).length<=_
 have:(40:Nat)^3=64000:=rfl
 omega
theorem gP{α:Type}{l:List α}{z:α}{i:Nat}(h:i<l.length):l.getD i z∈l:=by
 rw[eX,fH h];exact FJ _
theorem TB{rs:List aY}{s:List bL}(h:∀r,r∈rs->mI r)(hs:s.length<=40){n:Nat}(hn:n<=rs.length):(LX rs s n).length<=n*64000:=by
 have:=Ae (fun i:Nat=>(j6 (rs.getD i cq) s).map (N0 i)) 64000 (List.range n) (fun x hx=>by
  rw[xp];exact A3 (h _ (gP (by have:=pq.1 hx;omega))) hs)
 rwa[List.length_range] at this
theorem mod_self{α:Type}{l:List α}{k:Nat}(f:α->α){z:α}(h:k<l.length):(l.modify k f).getD k z=f (l.getD k z):=by
 rw[eX,eX,YX,fH h];simp
theorem aaa{α:Type}{l:List α}{k j:Nat}(f:α->α){z:α}(h:k≠j):(l.modify k f).getD j z=l.getD j z:=by
 rw[eX,eX,YX];simp[h]
theorem Am{dd:Nat->Bool}{k:Int}(h0:0<=k)(h:∀j:Nat,k<=(j:Int)->dd j=false):∀j:Nat,k+1<=(j:Int)->(Nat.beq j k.toNat||dd j)=false:=fun j hj=>by
 rw[h j (by omega),QT,<-wl,JU];omega
def L3:kz UU where
 α:=(List au)×aY×aF×(List Int)×(List bV)
 md:=[.box true,.ro,.ro,.ro,.ro]
 of:=fun|[.box [.sl .aB a0],.agg [.lit (.string a1),.lit (.int .i64 a2),.sl .dE a3,.sl .bT a4,.sl .dG a5],.agg [.sl .aH a6,.lit (.int .i64 a7)],.one (.sl .int a8),.one (.sl .cv a9)]=>some (a0,⟨a1,a2,a3,a4,a5⟩,⟨a6,a7⟩,a8,a9)|_=>none
 ds:=fun(out,r,s,ids,l)=>[.box [.sl .aB out],.agg [.lit (.string r.Name),.lit (.int .i64 r.jq),.sl .dE r.aD,.sl .bT r.aO,.sl .dG r.bH],.agg [.sl .aH s.ab,.lit (.int .i64 s.Next)],.one (.sl .int ids),.one (.sl .cv l)]
 pre:=fun(out,r,s,ids,l)=>[ux r s.ab out.length ids l,nG r]
 pj:=fun(out,r,s,ids,l)=>⟨[],[],[.box [.sl .aB (out++kD r s.ab ids l)]]⟩
 law:=by intro l x h;(try simp only at h);split at h<;>cases h;rfl
def tC(out:List au)(r:aY)(s:aF)(ids:List Int)(l:List bV):Int×T1×T3×(List au×Unit)×Unit->Prop:=fun(i,b,g,o,_)=>b=(r.Name,r.jq,r.aD,r.aO,r.bH,())/\g=(s.ab,s.Next,())/\0<=i/\i<=s.ab.length/\o=(out++(s.ab.take i.toNat).flatMap (px r s.ab ids l),())
def yX(out:List au)(r:aY)(s:aF)(ids:List Int)(l:List bV):Int×T1×T3×(List au×Unit)×Unit->Nat:=fun(i,b,g,o,_)=>s.ab.length-i.toNat
def aiq:AX L3:=fun(out,r,s,ids,l)=>bW [(5,aU [iI 10,.box 6 (6,1024) [.lit .str,.lit (.int .i64),.shr .dE,.shr .bT,.shr .dG],.box 7 (7,1024) [.shr .aH,.lit (.int .i64)],.box 0 (2000000,0) [.own .aB true]] (fun _=>tC out r s ids l) (yX out r s ids l))]
def Hr:(List au)×aY×aF×(List Int)×(List bV)->Nat:=fun(out,r,s,ids,l)=>cR r.aD-ids.length
def aeu(rn:Nat):List (FuncId×kz UU):=(223,L3.below Hr rn)::us [Mb,agR,agQ,Yq]
theorem aex:Holds EE (223,L3):=by
 refine GR (k:=L3) func223 (by kernel_rfl) Hr (fun rn ih=> ?_)
 refine holds_of qZ func223 (L3.below Hr (rn+1)) (by kernel_rfl) (aeu rn) (all_cons ih (xz _)) aiq (fun x hp hb=> ?_)
 obtain⟨out,r,s,ids,l⟩:=x
 have Sm:Hr (out,r,s,ids,l)<rn+1:=hp _ gB
 have aaZ:gh (U:=UU) (.box [.sl .aB out]):=hb _ (gB)
 have amp:L9 out.length:=Bd.len (U:=UU) (τ:=.aB) (xs:=out) (aaZ _ (by simp))
 have Ig:gh (U:=UU) (.agg [.lit (.string r.Name),.lit (.int .i64 r.jq),.sl .dE r.aD,.sl .bT r.aO,.sl .dG r.bH]):=hb _ (cI _ (gB))
 have iF:L9 r.Name.size:=Bd.str (Ig _ (by simp))
 have iE:L9 r.aD.length:=Bd.len (U:=UU) (τ:=.dE) (xs:=r.aD) (Ig _ (by simp))
 have gT:L9 r.aO.length:=Bd.len (U:=UU) (τ:=.bT) (xs:=r.aO) (Ig _ (by simp))
 have iG:L9 r.bH.length:=Bd.len (U:=UU) (τ:=.dG) (xs:=r.bH) (Ig _ (by simp))
 have amF:gh (U:=UU) (.agg [.sl .aH s.ab,.lit (.int .i64 s.Next)]):=hb _ (cI _ (cI _ (gB)))
 have eQ:L9 s.ab.length:=Bd.len (U:=UU) (τ:=.aH) (xs:=s.ab) (amF _ (by simp))
 have aa0:gh (U:=UU) (.one (.sl .int ids)):=hb _ (cI _ (cI _ (cI _ (gB))))
 have amr:L9 ids.length:=Bd.len aa0
 have amG:gh (U:=UU) (.one (.sl .cv l)):=hb _ (cI _ (cI _ (cI _ (cI _ (gB)))))
 have fF:L9 l.length:=Bd.len amG
 have bo:ux r s.ab out.length ids l:=hp _ (cI _ (gB))
 have fw:nG r:=hp _ (cI _ (cI _ (gB)))
 clear hp hb
 apply vE (let x1:List Int:=[]++ids;let x0:=[{cL:=(0:Int),eH:=x1,bu:=[]++l:au}];let q0:=LM [] [] [DV.box [CL .aB out]] [DV.box [CL .aB (out++kD r s.ab ids l)]];let q1:=(ids.length:Int);bif q1==(↑(cR r.aD):Int) then(∀(p:cr),p∈r.aD->l.length+p.av.length<=4294967295)/\bif !pW r s.ab l then bif sP r.aO l then 0+ids.length<=4294967296/\0+l.length<=4294967296/\L4 (out.length+x0.length)/\LM [] [] [DV.box [CL .aB (out++x0)]] [DV.box [CL .aB (out++kD r s.ab ids l)]] else q0 else q0 else tC out r s ids l (0,(r.Name,r.jq,r.aD,r.aO,r.bH,()),(s.ab,s.Next,()),(out,()),())/\∀(y:Int×YT×NJ×(List au×PUnit)×PUnit),let x2:={Name:=y.2.1.1,jq:=y.2.1.2.1,aD:=y.2.1.2.2.1,aO:=y.2.1.2.2.2.1,bH:=y.2.1.2.2.2.2.1:aY};let x6:=y.2.2.1.1.getD y.1.toNat aX;let x8:=y.2.2.1.1.length;let x9:=y.2.1.2.2.1.getD (Int.toNat q1) cD;let x3:=Option.getD (fJ x9 x6.F l) l;let x5:=[x6.Id];let x7:=(↑x8:Int);let x4:=x1++x5;let q2:=(y.2.1.1,y.2.1.2.1,y.2.1.2.2.1,y.2.1.2.2.2.1,y.2.1.2.2.2.2.1,());let q3:=(wrap i64 (y.1+1),q2,(y.2.2.1.1,y.2.2.1.2.1,()),(y.2.2.2.1.1++kD x2 y.2.2.1.1 x4 x3,()),());let q4:=(wrap i64 (y.1+1),q2,(y.2.2.1.1,y.2.2.1.2.1,()),(y.2.2.2.1.1,()),());tC out r s ids l y->bif decide (y.1<x7) then 0<=q1/\Int.toNat q1<y.2.1.2.2.1.length/\0<=y.1/\y.1.toNat<x8/\l.length+x9.av.length<=4294967295/\bif Option.isSome (fJ x9 x6.F l) then 0+ids.length<=4294967296/\0<=y.1/\y.1.toNat<x8/\L4 (x1.length+x5.length)/\Hr (y.2.2.2.1.1,x2,{ab:=y.2.2.1.1,Next:=y.2.2.1.2.1:aF},x4,x3)<rn/\ux x2 y.2.2.1.1 (y.2.2.2.1.1.length) x4 x3/\nG x2/\tC out r s ids l q3/\yX out r s ids l q3<yX out r s ids l y else tC out r s ids l q4/\yX out r s ids l q4<yX out r s ids l y else LM [] [] [DV.box [CL .aB y.2.2.2.1.1]] [DV.box [CL .aB (out++kD r s.ab ids l)]])
 dsimp only
 simp only[Hr] at Sm
 have hle:=bo.le
 have h3:=bo.three
 have hpt:=bo.fv
 have hbd:=bo.binds
 have hA:∀p,p∈r.aD->l.length+p.av.length<=4294967295:=fun p hm=>by have:=bo.args p hm;omega
 have hrm:=bo.room
 have A7:(mE r).length=cR r.aD:=rfl
 have hpn:cR r.aD<=r.aD.length:=Mq _ _
 refine bi (fun h=>⟨hA,?_⟩) (fun h=> ?_)
 ·have h:ids.length=cR r.aD:=by omega
  have e:=MF s.ab l h
  have q1:(0:Nat)+ids.length<=4294967296:=by omega
  have q2:(0:Nat)+l.length<=4294967296:=by omega
  refine bE (fun g=>ae (fun g'=>⟨q1,q2,?_,rfl,by trivial,N9 ?_⟩) (fun g'=>⟨rfl,by trivial,N9 ?_⟩)) (fun g=>⟨rfl,by trivial,N9 ?_⟩)
  ·rw[e,g,g'] at hrm;simp at hrm;simp only[fY,fG];omega
  ·rw[e,g,g'];rfl
  ·rw[e,g,g'];simp
  ·rw[e,g];simp
 ·have h:ids.length<cR r.aD:=by omega
  have e:=AT s.ab l h
  refine⟨⟨rfl,rfl,by omega,by omega,by simp⟩,?_⟩
  rintro⟨i,⟨b1,b2,b3,b4,b5,⟨⟩⟩,⟨g1,g2,⟨⟩⟩,⟨o,⟨⟩⟩,⟨⟩⟩ ⟨hb,hg,h1,h2,ho⟩
  cases hb
  cases hg
  cases ho
  refine aQ (fun hc=> ?_) (fun hc=>⟨by trivial,by trivial,N9 ?_⟩)
  ·have hc:i<s.ab.length:=hc
   have hs:=Ll (px r s.ab ids l) s.ab aX h1 hc
   have hi:ids.length<(mE r).length:=h
   have hm:=hA _ (KC h)
   have et:Int.toNat (ids.length:Int)=ids.length:=by omega
   have eP:r.aD.getD (Int.toNat (ids.length:Int)) cD=(mE r).getD ids.length cD:=by rw[et];exact fw _ h
   have q0:(0:Int)<=(ids.length:Int)/\Int.toNat (ids.length:Int)<r.aD.length:=by omega
   have q1:(0:Int)<=i/\i.toNat<s.ab.length:=by omega
   have q2:(0:Nat)+ids.length<=4294967296:=by omega
   have q3:ids.length+1<=4294967296:=by omega
   refine⟨q0.1,q0.2,q1.1,q1.2,by rw[eP];exact hm,?_⟩
   simp only[eP]
   refine ae ?_ ?_<;>intro g
   ·obtain⟨more,hM⟩:=m8.1 g
    have qB:=Km bo h h1 hc hM
    rw[MD hM] at hs
    have hw:IntKind.wrap .i64 (i+1)=i+1:=wi
    have amf:ux r s.ab (out++(s.ab.take i.toNat).flatMap (px r s.ab ids l)).length (ids++[(s.ab.getD i.toNat aX).Id]) ((fJ ((mE r).getD ids.length cD) (s.ab.getD i.toNat aX).F l).getD l):=by rw[hM,Gm,kI];exact qB
    have hmu:cR r.aD-(ids++[(s.ab.getD i.toNat aX).Id]).length<rn:=by rw[kI];simp only[fY,fG];omega
    have hI:tC out r s ids l (IntKind.wrap .i64 (i+1),(r.Name,r.jq,r.aD,r.aO,r.bH,()),(s.ab,s.Next,()),((out++(s.ab.take i.toNat).flatMap (px r s.ab ids l))++kD r s.ab (ids++[(s.ab.getD i.toNat aX).Id]) ((fJ ((mE r).getD ids.length cD) (s.ab.getD i.toNat aX).F l).getD l),()),()):=by
     rw[hw,hM,Gm]
     exact⟨rfl,rfl,by omega,by omega,by rw[hs,xw]⟩
    have hd:s.ab.length-(IntKind.wrap .i64 (i+1)).toNat<s.ab.length-i.toNat:=by rw[hw];omega
    exact⟨q2,q1.1,q1.2,q3,hmu,amf,fw,hI,hd⟩
   ·have hM:fJ ((mE r).getD ids.length cD) (s.ab.getD i.toNat aX).F l=none:=Option.isNone_iff_eq_none.1 (by rw[<-Option.not_isSome,show Option.isSome (fJ ((mE r).getD ids.length cD) (s.ab.getD i.toNat aX).F l)=false from g];rfl)
    rw[ME hM,xr] at hs
    have hw:IntKind.wrap .i64 (i+1)=i+1:=wi
    have hI:tC out r s ids l (IntKind.wrap .i64 (i+1),(r.Name,r.jq,r.aD,r.aO,r.bH,()),(s.ab,s.Next,()),(out++(s.ab.take i.toNat).flatMap (px r s.ab ids l),()),()):=by
     rw[hw];exact⟨rfl,rfl,by omega,by omega,by rw[hs]⟩
    have hd:s.ab.length-(IntKind.wrap .i64 (i+1)).toNat<s.ab.length-i.toNat:=by rw[hw];omega
    exact⟨hI,hd⟩
  ·have hc:¬i<(s.ab.length:Int):=hc
   rw[cM s.ab (by omega),e]
def ag0:HH:=⟨_,aex⟩
def afB:=cj (α:=aY×aF) (qC (qA .bz) (q1 (qA .c_))) [.ro,.ro] (fun(r,s)=>[mI r,s.ab.length<=40,nG r]) (fun(r,s)=>⟨[dL .aB (j6 r s.ab)],[],[]⟩)
def ag8:HH:=hF afB func212 [ag0] a0 fun x hp hb=>by
 obtain⟨r,s⟩:=x
 have aS:=jE (x:=r) (hb _ m0)
 have iF:=aS.1
 have iE:=aS.2.1
 have gT:=aS.2.2.1
 have iG:=aS.2.2.2
 have eQ:=ii (x:=s) (hb _ m1)
 have bo:mI r:=hp _ m0
 have fw:s.ab.length<=40:=hp _ m1
 have JW:nG r:=hp _ m2
 clear hp hb
 apply vE (ux r s.ab (0) [] []/\nG r/\Lf [VL .aB ([]++kD r s.ab [] [])] [VL .aB (j6 r s.ab)])
 exact⟨M3 bo fw,JW,bf _⟩
def XO:=cj (α:=bp×aF) (qC (qA .h_) (q1 (qA .c_))) [.ro,.ro] (fun(d,s)=>[∀r,r∈d.aw->mI r,s.ab.length<=40/\d.aw.length<=12,∀r,r∈d.aw->nG r]) (fun(d,s)=>⟨[dL .aB (allM d.aw s.ab)],[],[]⟩)
def C_(d:bp)(s:aF):List au×Int×T2×T3×Unit->Prop:=fun(o,i,b,g,_)=>b=(d.Name,d.aw,())/\g=(s.ab,s.Next,())/\0<=i/\i<=d.aw.length/\o=LX d.aw s.ab i.toNat
def Co(d:bp)(s:aF):List au×Int×T2×T3×Unit->Nat:=fun(o,i,b,g,_)=>d.aw.length-i.toNat
def C'(d:bp)(s:aF):List au×Int×Int×(List au×(Nat->Bool))×T2×T3×Unit->List au×Int×Int×(List au×(Nat->Bool))×T2×T3×Unit->Prop:=fun(o0,i0,k0,p0,b0,g0,_) (o,i,k,p,b,g,_)=>i=i0/\b=b0/\g=g0/\p.1.length=p0.1.length/\0<=k/\k<=p0.1.length/\(∀j:Nat,k<=(j:Int)->p.2 j=false/\p.1.getD j aV=p0.1.getD j aV)/\o=o0++(p0.1.take k.toNat).map (N0 i)
def Cn(d:bp)(s:aF):List au×Int×Int×(List au×(Nat->Bool))×T2×T3×Unit->Nat:=fun(o,i,k,p,b,g,_)=>p.1.length-k.toNat
def aiJ:AX XO:=fun(d,s)=>bW [(3,aU [iO 5 .aB,iI 6,.box 2 (2,1024) [.lit .str,.shr .bz],.box 3 (3,1024) [.shr .aH,.lit (.int .i64)]] (fun _=>C_ d s) (Co d s)),(7,aU [iO 5 .aB,iI 6,iI 8,.slot 7 (7,1024) (.part .aB),.box 2 (2,1024) [.lit .str,.shr .bz],.box 3 (3,1024) [.shr .aH,.lit (.int .i64)]] (C' d s) (Cn d s))]
def ahv:HH:=hF XO func178 [ag8] aiJ fun x hp hb=>by
 obtain⟨d,s⟩:=x
 have aS:=gI (x:=d) (hb _ m0)
 have e_:=aS.1
 have ew:=aS.2
 have eQ:=ii (x:=s) (hb _ m1)
 have bo:∀r,r∈d.aw->mI r:=hp _ m0
 have fw:s.ab.length<=40/\d.aw.length<=12:=hp _ m1
 have JW:∀r,r∈d.aw->nG r:=hp _ m2
 clear hp hb
 apply vE (C_ d s ([],0,(d.Name,d.aw,()),(s.ab,s.Next,()),())/\∀(y:List au×Int×T9×NJ×PUnit),let x2:=y.2.2.1.2.1.length;let x3:=y.2.1.toNat;let x0:=y.2.2.1.2.1.getD x3 cq;let x1:=(↑x2:Int);let q0:=(y.2.2.2.1.1,y.2.2.2.1.2.1,());let q1:=(y.2.2.1.1,y.2.2.1.2.1,());C_ d s y->bif decide (y.2.1<x1) then 0<=y.2.1/\x3<x2/\mI x0/\y.2.2.2.1.1.length<=40/\nG x0/\C' d s (y.1,y.2.1,0,(j6 x0 y.2.2.2.1.1,fun(x:Nat)=>false),q1,q0,()) (y.1,y.2.1,0,(j6 x0 y.2.2.2.1.1,fun(x:Nat)=>false),q1,q0,())/\∀(aL:List au×Int×Int×(List au×(Nat->Bool))×T9×NJ×PUnit),let x5:=aL.2.2.1.toNat;let x7:=aL.2.2.2.fst.1.length;let x4:=aL.2.2.2.fst.1.modify x5 fun(x:au)=>{cL:=aL.2.1,eH:=x.eH,bu:=x.bu:au};let x6:=(↑x7:Int);let q2:=(aL.1,wrap i64 (aL.2.1+1),(aL.2.2.2.2.1.1,aL.2.2.2.2.1.2.1,()),(aL.2.2.2.2.2.1.1,aL.2.2.2.2.2.1.2.1,()),());let q3:=(aL.2.2.2.2.2.1.1,aL.2.2.2.2.2.1.2.1,());let q4:=(aL.2.2.2.2.1.1,aL.2.2.2.2.1.2.1,());C' d s (y.1,y.2.1,0,(j6 x0 y.2.2.2.1.1,fun(x:Nat)=>false),q1,q0,()) aL->bif decide (aL.2.2.1<x6) then 0<=aL.2.2.1/\x5<x7/\x5<x7/\aL.2.2.2.fst.2 x5=false/\0<=aL.2.2.1/\x5<x4.length/\x5<x4.length/\aL.2.2.2.fst.2 x5=false/\aL.1.length+List.length [x4.getD x5 aV]<=4294967296/\C' d s (y.1,y.2.1,0,(j6 x0 y.2.2.2.1.1,fun(x:Nat)=>false),q1,q0,()) (aL.1++[x4.getD x5 aV],aL.2.1,wrap i64 (aL.2.2.1+1),(x4,fun(j:Nat)=>Nat.beq j x5||aL.2.2.2.fst.2 j),q4,q3,())/\Cn d s (aL.1++[x4.getD x5 aV],aL.2.1,wrap i64 (aL.2.2.1+1),(x4,fun(j:Nat)=>Nat.beq j x5||aL.2.2.2.fst.2 j),q4,q3,())<Cn d s aL else C_ d s q2/\Co d s q2<Co d s y else Lf [VL .aB y.1] [VL .aB (allM d.aw s.ab)])
 dsimp only
 obtain⟨hS,hD⟩:=fw
 refine⟨⟨rfl,rfl,by omega,by omega,rfl⟩,?_⟩
 rintro⟨o,i,⟨b1,b2,⟨⟩⟩,⟨g1,g2,⟨⟩⟩,⟨⟩⟩ ⟨hb,hg,h1,h2,rfl⟩
 cases hb
 cases hg
 simp only
 refine aQ ?_ ?_<;>intro hc
 ·have hm:d.aw.getD i.toNat cq∈d.aw:=gP (by omega)
  have hs:=bo _ hm
  have hl:=A3 hs hS
  have hn:=TB bo hS (n:=i.toNat) (by omega)
  have qB:=QC d.aw s.ab h1
  refine⟨by omega,by omega,hs,hS,JW _ hm,⟨rfl,rfl,rfl,rfl,by omega,by omega,fun _ _=>⟨rfl,rfl⟩,by simp⟩,?_⟩
  rintro⟨o',i',k,⟨xs,dd⟩,⟨b1,b2,⟨⟩⟩,⟨g1,g2,⟨⟩⟩,⟨⟩⟩ ⟨hi,hb,hg,hx,k1,k2,kd,ho⟩
  cases hb
  cases hg
  cases hi
  cases ho
  simp only at k2 kd hx⊢
  refine aQ ?_ ?_<;>intro hk
  ·have ht:=dH (j6 (d.aw.getD i.toNat cq) s.ab) aV k1 (by omega)
   have hd:=kd k.toNat (by omega)
   rw[wi (n:=k+1)]
   refine⟨k1,by omega,by omega,hd.1,k1,by rw[Mg];omega,by rw[Mg];omega,hd.1,?_,⟨rfl,rfl,rfl,by rw[Mg];exact hx,by omega,by simp only;omega,fun j hj=>⟨Am k1 (fun j hj=>(kd j hj).1) j hj,?_⟩,?_⟩,by simp only[Cn,Mg];omega⟩
   ·simp only[kI,xp,oz,fY,fG];omega
   ·rw[aaa _ (by omega)];exact(kd j (by omega)).2
   ·rw[mod_self _ (by omega),hd.2]
    simp only[<-ht,Mp,xw];rfl
  ·rw[cM _ (by omega),<-qB,wi (n:=i+1)]
   exact⟨⟨rfl,rfl,by omega,by omega,rfl⟩,by simp only[Co];omega⟩
 ·have e:i.toNat=d.aw.length:=by omega
  rw[e];exact bf _
theorem nk{α:Type}{a b:List α}(z:α){i:Int}(h1:0<=i)(ha:i<a.length)(hb:i<b.length)(hR:a.drop i.toNat=b.drop i.toNat↔a=b)(h:a.getD i.toNat z≠b.getD i.toNat z):a≠b:=by
 rw[fc a z h1 ha,fc b z h1 hb] at hR
 exact fun e=>h (List.cons.inj (hR.2 e)).1
theorem pR{α:Type}{a b:List α}(z:α){i:Int}(h1:0<=i)(ha:i<a.length)(hb:i<b.length)(hR:a.drop i.toNat=b.drop i.toNat↔a=b)(h:a.getD i.toNat z=b.getD i.toNat z):(a.drop (i+1).toNat=b.drop (i+1).toNat↔a=b):=by
 rw[fc a z h1 ha,fc b z h1 hb,h] at hR
 rw[<-hR];simp
theorem mo{α:Type}{a b:List α}{i:Int}(ha:a.length<=i)(hb:b.length<=i)(hR:a.drop i.toNat=b.drop i.toNat↔a=b):a=b:=by
 rw[cy a ha,cy b hb] at hR
 exact hR.1 rfl
theorem uJ{α:Type}{a b:List α}(h:((a.length:Int) !=(b.length:Int))=false):a.length=b.length:=by
 have h:(a.length:Int)=b.length:=by simpa using h
 omega
theorem rh{α:Type}{a b:List α}(h:¬(a.length:Int)=b.length):a≠b:=fun e=>h (by rw[e])
def GL:List Int->List Int->Bool
 |a::l,b::m=>if a=b then GL l m else decide (a<b)
 |_,_=>false
def uI(a b:au):Bool:=if a.cL=b.cL then(if a.eH.length=b.eH.length then GL a.eH b.eH else decide (a.eH.length<b.eH.length)) else decide (a.cL<b.cL)
def nf(d:bp)(m:au):Int:=(d.aw.getD m.cL.toNat cq).jq
def nP(d:bp)(a b:au):Bool:=ko d a&&ko d b&&(decide (nf d b<nf d a)||(decide (nf d a=nf d b)&&uI a b))
def NZ(m x:au):Bool:=decide (x.cL=m.cL/\x.eH=m.eH)
def og(l:List au)(m:au):Bool:=l.any (NZ m)
def sX(d:bp)(bS:List au)(m:au):Bool:=ko d m&& !og bS m
def ga(d:bp)(bS:List au)(o:Option au)(m:au):Option au:=
 if(sX d bS m&&(match o with|none=>true|some b=>nP d m b))=true then some m else o
def jI(d:bp)(set bS:List au):Option au:=set.foldl (ga d bS) none
def AZ(o:Option au):au:=match o with|some m=>m|none=>aV
theorem Pu(d:bp)(bS l:List au)(o:Option au){i:Int}(h0:0<=i)(h:i<l.length):(l.drop i.toNat).foldl (ga d bS) o=(l.drop (i+1).toNat).foldl (ga d bS) (ga d bS o (l.getD i.toNat aV)):=by
 rw[fc l aV h0 h];rfl
theorem KD{d:bp}{bS:List au}{o:Option au}{m:au}(h:sX d bS m=false):ga d bS o m=o:=by unfold ga;rw[h,p_];rfl
theorem MV{d:bp}{bS:List au}{m:au}(h:sX d bS m=true):ga d bS none m=some m:=by unfold ga;rw[h];rfl
theorem Pv{d:bp}{bS:List au}{m b:au}(h:sX d bS m=true)(g:nP d m b=true):ga d bS (some b) m=some m:=by simp only[ga,h,g];rfl
theorem Pw{d:bp}{bS:List au}{m b:au}(g:nP d m b=false):ga d bS (some b) m=some b:=by simp only[ga,g,tI];rfl
def XD:=cj (α:=(List Int)×(List Int)) (qC (qL .int) (q1 (qL .int))) [.ro,.ro] (fun _=>[]) (fun(a,b)=>⟨[dO (decide (a=b))],[],[]⟩)
def C4(a:List Int)(b:List Int):Int×Unit->Prop:=fun(i,_)=>0<=i/\i<=a.length/\a.length=b.length/\(a.drop i.toNat=b.drop i.toNat↔a=b)
def Ch(a:List Int)(b:List Int):Int×Unit->Nat:=fun(i,_)=>a.length-i.toNat
def aiy:AX XD:=fun(a,b)=>bW [(4,aU [iI 5] (fun _=>C4 a b) (Ch a b))]
def ahc:HH:=hF XD func201 [] aiy fun x hp hb=>by
 obtain⟨a,b⟩:=x
 have P5:L9 a.length:=iv (hb _ m0)
 have P0:L9 b.length:=iv (hb _ m1)
 clear hp hb
 apply vE (bif (a.length:Int) !=(b.length:Int) then Lb false (decide (a=b)) else C4 a b (0,())/\∀(y:Int×PUnit),let q0:=(wrap i64 (y.1+1),());C4 a b y->bif decide (y.1<(a.length:Int)) then 0<=y.1/\y.1.toNat<a.length/\0<=y.1/\y.1.toNat<b.length/\bif a.getD y.1.toNat 0 !=b.getD y.1.toNat 0 then Lb false (decide (a=b)) else C4 a b q0/\Ch a b q0<Ch a b y else Lb true (decide (a=b)))
 dsimp only
 refine ae (fun h=>m7 (rh (by simpa using h))) (fun h=>⟨⟨by omega,by omega,(uJ (a:=a) (b:=b) (by assumption)),by simp⟩,?_⟩)
 rintro⟨i,⟨⟩⟩ ⟨h1,h2,h3,hR⟩
 simp only
 refine ae ?_ ?_<;>intro hc
 ·have hc:i<a.length:=yT hc
  rw[wi]
  try simp only[gN]
  try simp only[aM]
  have hz:True:=trivial
  repeat' (first|refine And.intro (by omega) ?_|refine ae (fun h=> ?_) (fun h=> ?_))
  all_goals first|exact m7 (nk (0:Int) h1 hc (by omega) hR (by first|grind|(rw[hz];grind)))|exact⟨⟨by omega,by omega,h3,pR (0:Int) h1 hc (by omega) hR (by first|grind|(rw[hz];grind))⟩,by simp only[Ch];omega⟩
 ·have hc:a.length<=i:=by have:=yF hc;omega
  exact NK (mo hc (by omega) hR)
def afZ:=cj (α:=au×au) (qC (qA .aB) (q1 (qA .aB))) [.ro,.ro] (fun _=>[]) (fun(a,b)=>⟨[dO (decide (a.cL=b.cL/\a.eH=b.eH))],[],[]⟩)
def Yz:HH:=hF afZ func166 [ahc] a0 fun x hp hb=>by
 obtain⟨a,b⟩:=x
 have aS:=gQ (x:=a) (hb _ m0)
 have La:=aS.1
 have EJ:=aS.2
 have dw:=gQ (x:=b) (hb _ m1)
 have K8:=dw.1
 have EI:=dw.2
 clear hp hb
 apply vE (let q0:=decide (a.cL=b.cL/\a.eH=b.eH);bif a.cL==b.cL then Lb (decide (a.eH=b.eH)) q0 else Lb false q0)
 dsimp only
 refine ae (fun h=>ck ?_) (fun h=>ck ?_)<;>grind
def Xw:=cj (α:=au×au) (qC (qA .aB) (q1 (qA .aB))) [.ro,.ro] (fun _=>[]) (fun(a,b)=>⟨[dO (uI a b)],[],[]⟩)
def CZ(a:au)(b:au):Int×T8×T8×Unit->Prop:=fun(i,p,q,_)=>p=(a.cL,a.eH,a.bu,())/\q=(b.cL,b.eH,b.bu,())/\0<=i/\i<=a.eH.length/\a.eH.length=b.eH.length/\GL (a.eH.drop i.toNat) (b.eH.drop i.toNat)=GL a.eH b.eH
def Cc(a:au)(b:au):Int×T8×T8×Unit->Nat:=fun(i,p,q,_)=>a.eH.length-i.toNat
def air:AX Xw:=fun(a,b)=>bW [(6,aU [iI 5,.box 2 (2,1024) [.lit (.int .i64),.shr .int,.shr .cv],.box 3 (3,1024) [.lit (.int .i64),.shr .int,.shr .cv]] (fun _=>CZ a b) (Cc a b))]
def ag1:HH:=hF Xw func222 [] air fun x hp hb=>by
 obtain⟨a,b⟩:=x
 have aS:=gQ (x:=a) (hb _ m0)
 have La:=aS.1
 have EJ:=aS.2
 have dw:=gQ (x:=b) (hb _ m1)
 have K8:=dw.1
 have EI:=dw.2
 clear hp hb
 apply vE (let x0:=(a.eH.length:Int);let x1:=(b.eH.length:Int);bif a.cL !=b.cL then Lb (decide (a.cL<b.cL)) (uI a b) else bif x0 !=x1 then Lb (decide (x0<x1)) (uI a b) else CZ a b (0,(a.cL,a.eH,a.bu,()),(b.cL,b.eH,b.bu,()),())/\∀(y:Int×YR×YR×PUnit),let x2:=y.2.2.1.2.1.getD y.1.toNat 0;let x3:=y.2.1.2.1.getD y.1.toNat 0;let x5:=y.2.1.2.1.length;let x4:=(↑x5:Int);let q0:=(wrap i64 (y.1+1),(y.2.1.1,y.2.1.2.1,y.2.1.2.2.1,()),(y.2.2.1.1,y.2.2.1.2.1,y.2.2.1.2.2.1,()),());CZ a b y->bif decide (y.1<x4) then 0<=y.1/\y.1.toNat<x5/\0<=y.1/\y.1.toNat<y.2.2.1.2.1.length/\bif x3 !=x2 then 0<=y.1/\y.1.toNat<x5/\0<=y.1/\y.1.toNat<y.2.2.1.2.1.length/\Lb (decide (x3<x2)) (uI a b) else CZ a b q0/\Cc a b q0<Cc a b y else Lb false (uI a b))
 dsimp only
 refine mh (fun h=>ck (if_neg h).symm) (fun h=>mh (fun g=>ck ?_) (fun g=> ?_))
 ·rw[uI,if_pos h,if_neg (by omega),decide_eq_decide];omega
 have g:a.eH.length=b.eH.length:=by omega
 have eM:uI a b=GL a.eH b.eH:=by rw[uI,if_pos h,if_pos g]
 refine⟨⟨rfl,rfl,by omega,by omega,g,rfl⟩,?_⟩
 rintro⟨i,⟨p1,p2,p3,⟨⟩⟩,⟨q1,q2,q3,⟨⟩⟩,⟨⟩⟩ ⟨hp,hq,h1,h2,h3,hR⟩
 cases hp
 cases hq
 simp only
 rw[eM]
 refine aQ ?_ ?_<;>intro hc
 ·rw[fc a.eH (0:Int) h1 hc,fc b.eH (0:Int) h1 (by omega)] at hR
  simp only[GL] at hR
  rw[wi]
  refine⟨by omega,by omega,by omega,by omega,mh (fun e=>⟨by omega,by omega,by omega,by omega,ck ?_⟩) (fun e=> ?_)⟩
  ·rw[if_neg e] at hR;exact hR
  ·rw[if_pos e] at hR;exact⟨⟨rfl,rfl,by omega,by omega,h3,hR⟩,by simp only[Cc];omega⟩
 ·rw[cy a.eH (by omega)] at hR
  exact bD hR.symm
def afD:=cj (α:=bp×au×au) (qC (qA .h_) (qC (qA .aB) (q1 (qA .aB)))) [.ro,.ro,.ro] (fun _=>[]) (fun(d,a,b)=>⟨[dO (nP d a b)],[],[]⟩)
def ag9:HH:=hF afD func210 [OX,ag1] a0 fun x hp hb=>by
 obtain⟨d,a,b⟩:=x
 have aS:=gI (x:=d) (hb _ m0)
 have e_:=aS.1
 have ew:=aS.2
 have dw:=gQ (x:=a) (hb _ m1)
 have La:=dw.1
 have EJ:=dw.2
 have sM:=gQ (x:=b) (hb _ m2)
 have K8:=sM.1
 have EI:=sM.2
 clear hp hb
 apply vE (let x0:=(d.aw.getD b.cL.toNat cq).jq;let x1:=(d.aw.getD a.cL.toNat cq).jq;let q0:=nP d a b;bif !ko d a then Lb false q0 else bif !ko d b then Lb false q0 else 0<=a.cL/\a.cL.toNat<d.aw.length/\0<=b.cL/\b.cL.toNat<d.aw.length/\bif decide (x1>x0) then Lb true q0 else bif x1==x0 then Lb (uI a b) q0 else Lb false q0)
 dsimp only
 refine bE (fun h=>bD ?_) (fun h=>bE (fun h'=>bD ?_) (fun h'=> ?_))
 ·have h:ko d a=false:=h
  rw[nP,h];rfl
 ·have h':ko d b=false:=h'
  rw[nP,h',tI];rfl
 have h:ko d a=true:=h
 have h':ko d b=true:=h'
 obtain⟨a1,a2⟩:=oe h
 obtain⟨b1,b2⟩:=oe h'
 have e:nP d a b=(decide (nf d b<nf d a)||(decide (nf d a=nf d b)&&uI a b)):=by rw[nP,h,h'];rfl
 refine⟨a1,by omega,b1,by omega,aQ (fun g=>nv ?_) (fun g=>bi (fun g'=>ck ?_) (fun g'=>bD ?_))⟩
 ·rw[e,decide_eq_true (show nf d b<nf d a from g)];rfl
 ·rw[e,decide_eq_false (show¬nf d b<nf d a from g),decide_eq_true (show nf d a=nf d b from g')];rfl
 ·rw[e,decide_eq_false (show¬nf d b<nf d a from g),decide_eq_false (show¬nf d a=nf d b from g')];rfl
def XC:=cj (α:=(List au)×au) (qC (qL .aB) (q1 (qA .aB))) [.ro,.ro] (fun _=>[]) (fun(l,m)=>⟨[dO (og l m)],[],[]⟩)
def C3(l:List au)(m:au):Int×T8×Unit->Prop:=fun(i,b,_)=>b=(m.cL,m.eH,m.bu,())/\0<=i/\i<=l.length/\(l.drop i.toNat).any (NZ m)=og l m
def Cg(l:List au)(m:au):Int×T8×Unit->Nat:=fun(i,b,_)=>l.length-i.toNat
def aix:AX XC:=fun(l,m)=>bW [(2,aU [iI 5,.box 3 (3,1024) [.lit (.int .i64),.shr .int,.shr .cv]] (fun _=>C3 l m) (Cg l m))]
def ag':HH:=hF XC func209 [Yz] aix fun x hp hb=>by
 obtain⟨l,m⟩:=x
 have fF:L9 l.length:=iv (hb _ m0)
 have dw:=gQ (x:=m) (hb _ m1)
 have pJ:=dw.1
 have mi:=dw.2
 clear hp hb
 apply vE (C3 l m (0,(m.cL,m.eH,m.bu,()),())/\∀(y:Int×YR×PUnit),let q0:=(wrap i64 (y.1+1),(y.2.1.1,y.2.1.2.1,y.2.1.2.2.1,()),());C3 l m y->bif decide (y.1<(l.length:Int)) then 0<=y.1/\y.1.toNat<l.length/\bif decide ((l.getD y.1.toNat aV).cL=y.2.1.1/\(l.getD y.1.toNat aV).eH=y.2.1.2.1) then Lb true (og l m) else C3 l m q0/\Cg l m q0<Cg l m y else Lb false (og l m))
 dsimp only
 refine⟨⟨rfl,by omega,by omega,rfl⟩,?_⟩
 rintro⟨i,⟨b1,b2,b3,⟨⟩⟩,⟨⟩⟩ ⟨hb,h1,h2,hR⟩
 cases hb
 simp only
 refine aQ ?_ ?_<;>intro hc
 ·rw[yP _ _ aV h1 hc] at hR
  rw[wi]
  refine⟨by omega,by omega,ae (fun g=>nv ?_) (fun g=>⟨⟨rfl,by omega,by omega,?_⟩,by simp only[Cg];omega⟩)⟩
  ·rw[<-hR,show NZ m (l.getD i.toNat aV)=true from g,Bool.true_or]
  ·rw[<-hR,show NZ m (l.getD i.toNat aV)=false from g,Gl]
 ·rw[cy _ (by omega)] at hR
  exact bD hR.symm
def afC:=cj (α:=au) (q1 (qA .aB)) [.ro] (fun m=>[L4 m.eH.length,L4 m.bu.length]) (fun m=>⟨[dA .aB m],[],[]⟩)
def Yt:HH:=hF afC func211 [] a0 fun(m:au) hp hb=>by
 have aS:=gQ (x:=m) (hb _ m0)
 have pJ:=aS.1
 have mi:=aS.2
 have bo:m.eH.length<=4294967296:=hp _ m0
 have fw:m.bu.length<=4294967296:=hp _ m1
 clear hp hb
 apply vE (0+m.eH.length<=4294967296/\0+m.bu.length<=4294967296/\Lf [DV.agg [CI m.cL,CL .int ([]++m.eH),CL .cv ([]++m.bu)]] [DV.agg [CI m.cL,CL .int m.eH,CL .cv m.bu]])
 have q1:(0:Nat)+m.eH.length<=4294967296:=by omega
 have q2:(0:Nat)+m.bu.length<=4294967296:=by omega
 exact⟨q1,q2,bf _⟩
def XP:=cj (α:=bp×(List au)×(List au)) (qC (qA .h_) (qC (qL .aB) (q1 (qL .aB)))) [.ro,.ro,.ro] (fun(d,set,bS)=>[∀m,m∈set->L4 m.eH.length/\L4 m.bu.length]) (fun(d,set,bS)=>⟨[dA .aB (AZ (jI d set bS)),dO ((jI d set bS).isSome)],[],[]⟩)
def v9(d:bp)(set:List au)(bS:List au):Int×Int×T2×T8×Unit->Prop:=fun(e,i,b,q,_)=>b=(d.Name,d.aw,())/\0<=i/\i<=set.length/\e<set.length/\-1<=e/\(set.drop i.toNat).foldl (ga d bS) (if e<0 then none else some (set.getD e.toNat aV))=jI d set bS
def qT(d:bp)(set:List au)(bS:List au):Int×Int×T2×T8×Unit->Nat:=fun(e,i,b,q,_)=>set.length-i.toNat
def aiK:AX XP:=fun(d,set,bS)=>bW [(3,aU [iI 8,iI 9,.box 3 (3,1024) [.lit .str,.shr .bz],.box 6 (6,1024) [.lit (.int .i64),.own .int true,.own .cv true]] (fun _=>v9 d set bS) (qT d set bS))]
def ahw:HH:=hF XP func177 [OX,ag',ag9,Yt] aiK fun x hp hb=>by
 obtain⟨d,set,bS⟩:=x
 have aS:=gI (x:=d) (hb _ m0)
 have e_:=aS.1
 have ew:=aS.2
 have amn:L9 set.length:=iv (hb _ m1)
 have adP:L9 bS.length:=iv (hb _ m2)
 have bo:∀m,m∈set->m.eH.length<=4294967296/\m.bu.length<=4294967296:=hp _ m0
 clear hp hb
 apply vE (let q0:=AZ (jI d set bS);v9 d set bS ((-1),0,(d.Name,d.aw,()),(0,[],[],()),())/\∀(y:Int×Int×T9×YR×PUnit),let x0:={Name:=y.2.2.1.1,aw:=y.2.2.1.2.1:bp};let x2:=y.2.1.toNat;let x3:=set.getD y.1.toNat aV;let x4:=decide (y.1<0);let x1:=set.getD x2 aV;let q1:=v9 d set bS (y.1,wrap i64 (y.2.1+1),(y.2.2.1.1,y.2.2.1.2.1,()),(y.2.2.2.1.1,y.2.2.2.1.2.1,y.2.2.2.1.2.2.1,()),())/\qT d set bS (y.1,wrap i64 (y.2.1+1),(y.2.2.1.1,y.2.2.1.2.1,()),(y.2.2.2.1.1,y.2.2.2.1.2.1,y.2.2.2.1.2.2.1,()),())<qT d set bS y;let q2:=(y.2.1,wrap i64 (y.2.1+1),(y.2.2.1.1,y.2.2.1.2.1,()),(y.2.2.2.1.1,y.2.2.2.1.2.1,y.2.2.2.1.2.2.1,()),());let q3:=v9 d set bS q2/\qT d set bS q2<qT d set bS y;v9 d set bS y->bif decide (y.2.1<(set.length:Int)) then 0<=y.2.1/\x2<set.length/\bif ko x0 x1 then 0<=y.2.1/\x2<set.length/\bif !og bS x1 then bif x4 then q3 else 0<=y.2.1/\x2<set.length/\0<=y.1/\y.1.toNat<set.length/\bif nP x0 x1 x3 then q3 else q1 else q1 else q1 else bif x4 then Lf [DV.agg [CI 0,CL .int [],CL .cv []],VB false] [DV.agg [CI (q0.cL),CL .int q0.eH,CL .cv q0.bu],VB (Option.isSome (jI d set bS))] else 0<=y.1/\y.1.toNat<set.length/\L4 x3.eH.length/\L4 x3.bu.length/\Lf [DV.agg [CI x3.cL,CL .int x3.eH,CL .cv x3.bu],VB true] [DV.agg [CI (q0.cL),CL .int q0.eH,CL .cv q0.bu],VB (Option.isSome (jI d set bS))])
 dsimp only
 refine⟨⟨rfl,by omega,by omega,by omega,by omega,rfl⟩,?_⟩
 rintro⟨e,i,⟨b1,b2,⟨⟩⟩,⟨q1,q2,q3,⟨⟩⟩,⟨⟩⟩ ⟨hb,h1,h2,h3,h4,hR⟩
 cases hb
 simp only at h1 h2 h3 h4 hR⊢
 refine aQ ?_ ?_<;>intro hc
 ·rw[Pu d bS set _ h1 hc] at hR
  have nxt:∀e':Int,e'<set.length->-1<=e'->ga d bS (if e<0 then none else some (set.getD e.toNat aV)) (set.getD i.toNat aV)=(if e'<0 then none else some (set.getD e'.toNat aV))->v9 d set bS (e',IntKind.wrap .i64 (i+1),(d.Name,d.aw,()),(q1,q2,q3,()),())/\qT d set bS (e',IntKind.wrap .i64 (i+1),(d.Name,d.aw,()),(q1,q2,q3,()),())<qT d set bS (e,i,(d.Name,d.aw,()),(q1,q2,q3,()),()):=fun e' k1 k2 g=>by
   rw[wi]
   exact⟨⟨rfl,by omega,by omega,k1,k2,by rw[<-g];exact hR⟩,by simp only[qT];omega⟩
  have own:(if i<0 then none else some (set.getD i.toNat aV))=some (set.getD i.toNat aV):=if_neg (by omega)
  refine⟨h1,by omega,ae (fun g=>⟨h1,by omega,bE (fun g'=> ?_) (fun g'=>nxt e h3 h4 (KD (by rw[sX,show og bS (set.getD i.toNat aV)=true from g',WG,tI])))⟩) (fun g=>nxt e h3 h4 (KD (by rw[sX,show ko d (set.getD i.toNat aV)=false from g];rfl)))⟩
  have od:sX d bS (set.getD i.toNat aV)=true:=by rw[sX,show ko d (set.getD i.toNat aV)=true from g,show og bS (set.getD i.toNat aV)=false from g'];rfl
  refine aQ (fun k=>nxt i (by omega) (by omega) ?_) (fun k=>⟨h1,by omega,by omega,by omega,ae (fun g3=>nxt i (by omega) (by omega) ?_) (fun g3=>nxt e h3 h4 ?_)⟩)
  ·rw[own,if_pos k,MV od]
  ·rw[own,if_neg k,Pv od g3]
  ·rw[if_neg k,Pw g3]
 ·rw[cy _ (by omega)] at hR
  refine aQ ?_ ?_<;>intro k
  ·rw[if_pos k] at hR
   have hR:none=jI d set bS:=hR
   rw[<-hR];exact bf _
  ·rw[if_neg k] at hR
   have hR:some (set.getD e.toNat aV)=jI d set bS:=hR
   have qg:set.getD e.toNat aV∈set:=gP (by omega)
   rw[<-hR]
   exact⟨by omega,by omega,(bo _ qg).1,(bo _ qg).2,bf _⟩
theorem Ba:∀(ps:List cr),(∀i,i<ps.length->jt ps i=decide (cR ps<=i))->∀k,k<cR ps->ps.getD k cD=(ps.filter fun p=> !p.Not).getD k cD
 |[],_,k,hk=>by simp[cR] at hk
 |p::ps,h,k,hk=>by
  have h0:=h 0 (by simp)
  have e0:jt (p::ps) 0=p.Not:=rfl
  rw[e0,rG] at h0
  cases hp:p.Not with
  |true=>
   rw[hp] at h0
   have h0:=yT h0.symm
   rw[rG,hp] at hk
   simp only[if_true] at h0 hk;omega
  |false=>
   have ef:(p::ps).filter (fun p=> !p.Not)=p::ps.filter fun p=> !p.Not:=by rw[List.filter_cons,hp];rfl
   rw[ef]
   cases k with
   |zero=>rfl
   |succ k=>
    rw[rG,hp] at hk
    refine Ba ps (fun i hi=> ?_) k (by simp only[xt,if_false] at hk;omega)
    have:=h (i+1) (by simpa using hi)
    rw[rG,hp] at this
    show jt ps i=_
    refine(show jt ps i=jt (p::ps) (i+1) from rfl).trans (this.trans ?_)
    rw[decide_eq_decide];simp only[xt,if_false];omega
theorem wN{r:aY}(h:fT r=true):mI r/\nG r:=by
 simp only[fT,cO] at h
 have hp:iq r.aD=true:=by rw[pB];exact h.1.1.2
 simp only[iq,cO,decide_eq_true_eq,gg,mc,fR,beq_iff_eq] at hp
 obtain⟨⟨h1,h2⟩,h3⟩:=hp
 refine⟨⟨h2.2,h1.2,fun p hp=> ?_⟩,fun k hk=>Ba r.aD (fun i hi=>(h3 i hi).2) k hk⟩
 obtain⟨j,hj,rfl⟩:=sn hp
 have:=(h3 j hj).1.1.2
 rwa[eX,fH hj] at this
theorem vF{d:bp}(h:fQ d=true):(∀r,r∈d.aw->mI r/\nG r)/\d.aw.length<=12:=by
 simp only[fQ,cO,decide_eq_true_eq,gg,jD] at h
 refine⟨fun r hr=> ?_,h.1.2.2⟩
 obtain⟨j,hj,rfl⟩:=sn hr
 have:=(h.2 j hj).1
 rw[eX,fH hj] at this
 exact wN this
theorem AS(r:aY)(s:List bL):∀(ps:List cr)(ids:List Int)(l:List bV),(∀p,p∈ps->p.av.length<=5)->∀m,m∈pw r s ps ids l->m.eH.length=ids.length+ps.length/\m.bu.length<=l.length+5*ps.length
 |[],ids,l,_,m,hm=>by
  simp only[pw] at hm
  split at hm
  ·rw[mF] at hm;subst hm;simp
  ·cases hm
 |p::ps,ids,l,h,m,hm=>by
  simp only[pw,ow] at hm
  obtain⟨x,hx,hm⟩:=hm
  split at hm
  ·rename_i more he
   have h1:=AS r s ps _ _ (fun q hq=>h q (by simp[hq])) m hm
   have h2:=Ek he
   have h3:=h p (by simp)
   simp only[kI,fY,fG] at h1⊢
   omega
  ·cases hm
theorem F6{r:aY}{s:List bL}(h:mI r){m:au}(hm:m∈j6 r s):m.eH.length<=3/\m.bu.length<=15:=by
 have h2:(mE r).length<=3:=h.three
 have h1:=AS r s (mE r) [] [] (fun p hp=>h.args p (zr.1 hp).1) m hm
 simp only[fG] at h1
 omega
theorem Hq{rs:List aY}{s:List bL}(h:∀r,r∈rs->mI r){m:au}(hm:m∈allM rs s):m.eH.length<=3/\m.bu.length<=15:=by
 simp only[allM,LX,ow,l_,pq] at hm
 obtain⟨i,hi,m',vw,rfl⟩:=hm
 exact F6 (m:=m') (h _ (gP hi)) vw
theorem Vm(d:bp)(bS:List au)(o:Option au)(x:au):ga d bS o x=o\/ga d bS o x=some x:=by
 unfold ga
 generalize (sX d bS x&&_)=b
 cases b<;>simp
theorem KE{d:bp}{bS:List au}:∀{l:List au}{o:Option au}{m:au},l.foldl (ga d bS) o=some m->m∈l\/o=some m
 |[],o,m,h=> .inr h
 |x::l,o,m,h=>by
  rcases KE (l:=l) h with h|h
  ·exact .inl (by simp[h])
  ·rcases Vm d bS o x with e|e
   ·exact .inr (e.symm.trans h)
   ·rw[e] at h;cases h;exact .inl (by simp)
theorem GH{d:bp}{set bS:List au}{m:au}(h:jI d set bS=some m):m∈set:=by
 rcases KE h with h|h
 ·exact h
 ·cases h
def aga:=cj (α:=bp×aq) (qC (qA .h_) (q1 (qA .ct))) [.ro,.ro] (fun(d,x)=>[fQ d=true,x.S.ab.length<=40]) (fun(d,x)=>⟨[dA .aB (AZ (jI d (allM d.aw x.S.ab) x.aC)),dO ((jI d (allM d.aw x.S.ab) x.aC).isSome)],[],[]⟩)
def ahX:HH:=hF aga func136 [ahv,ahw] a0 fun x hp hb=>by
 obtain⟨d,x⟩:=x
 have aS:=gI (x:=d) (hb _ m0)
 have e_:=aS.1
 have ew:=aS.2
 have dw:=hH (x:=x) (hb _ m1)
 have bC:=dw.1
 have cg:=dw.2.1
 have cf:=dw.2.2.1
 have bN:=dw.2.2.2.1
 have cd:=dw.2.2.2.2
 have bo:fQ d=true:=hp _ m0
 have fw:x.S.ab.length<=40:=hp _ m1
 clear hp hb
 apply vE (let x0:=AZ (jI d (allM d.aw x.S.ab) x.aC);let q0:=Option.isSome (jI d (allM d.aw x.S.ab) x.aC);(∀(r:aY),r∈d.aw->mI r)/\(x.S.ab.length<=40/\d.aw.length<=12)/\(∀(r:aY),r∈d.aw->nG r)/\(∀(m:au),m∈allM d.aw x.S.ab->L4 m.eH.length/\L4 m.bu.length)/\Lf [DV.agg [CI x0.cL,CL .int x0.eH,CL .cv x0.bu],VB q0] [DV.agg [CI x0.cL,CL .int x0.eH,CL .cv x0.bu],VB q0])
 dsimp only
 have h:=vF bo
 exact⟨fun r hr=>(h.1 r hr).1,⟨fw,h.2⟩,fun r hr=>(h.1 r hr).2,fun m hm=>by have:=Hq (fun r hr=>(h.1 r hr).1) hm;omega,bf _⟩
def Ts(f:aJ):Bool:=decide (f.Kind=aj)&&decide (f.ah.length=0)
def ez(e:cX):Bool:=
 bif decide (e.Kind=1) then bw e.F&&decide (e.Id=0)&&decide (e.N=0)&&decide (e.aR=aj)
 else bif decide (e.Kind=2) then Ts e.F&&decide (1<=e.Id)&&decide (e.N=0)&&decide (e.aR=aj)
 else bif decide (e.Kind=3) then bw e.F&&decide (e.Id=0)&&decide (e.N=0)&&fB e.aR
 else bif decide (e.Kind=4) then bw e.F&&decide (e.Id=0)&&decide (0<=e.N/\e.N<=100000)&&decide (e.aR=aj)
 else bif decide (e.Kind=5)||decide (e.Kind=6) then Ts e.F&&decide (e.Id=0)&&decide (e.N=0)&&decide (e.aR=aj) else false
def rS(m:au)(a:eK):cX:=if a.Kind=2 then⟨a.Kind,ui,m.eH.getD a.N.toNat 0,0,a.aR⟩ else⟨a.Kind,⟨a.Name,mS a.av m.bu⟩,0,if a.Kind=4 then a.N else 0,a.aR⟩
def HU(m:au)(a:eK):Bool:=(decide (a.Kind=2)||mT a.av m.bu)&&ez (rS m a)
def eY(d:bp)(m:au):List eK:=(d.aw.getD m.cL.toNat cq).bH
def Ej(d:bp)(m:au):Bool:=ko d m&&decide (m.eH.length=cR (d.aw.getD m.cL.toNat cq).aD)
def lM(d:bp)(m:au):Bool:=fQ d&&Ej d m&&(eY d m).all (HU m)
def na(d:bp)(m:au):List cX:=if lM d m then(eY d m).map (rS m) else[]
theorem N1{d:bp}{m:au}(h:fQ d=true)(h2:ko d m=true):fT (d.aw.getD m.cL.toNat cq)=true:=by
 obtain⟨r1,r2⟩:=oe h2
 simp only[fQ,cO,gg] at h
 have:=h.2 m.cL.toNat (by omega)
 simp only[jD,cO] at this
 exact this.1
theorem OQ{d:bp}{m:au}(h:fQ d=true)(h2:Ej d m=true):(eY d m).length<=6/\∀i:Int,0<=i->i<(eY d m).length->dl ((eY d m).getD i.toNat dq)=true/\(((eY d m).getD i.toNat dq).Kind=2->0<=((eY d m).getD i.toNat dq).N/\((eY d m).getD i.toNat dq).N<m.eH.length):=by
 simp only[Ej,cO,decide_eq_true_eq] at h2
 have hr:=N1 h h2.1
 simp only[fT,lq,cO,decide_eq_true_eq] at hr
 obtain⟨⟨_,_⟩,⟨⟨_,hl⟩,ha⟩⟩:=hr
 refine⟨hl,fun i h0 hi=> ?_⟩
 rw[sk] at ha
 have hm:(eY d m).getD i.toNat dq∈eY d m:=by rw[eX,fH (by omega)];exact FJ _
 have hk:=ha _ hm
 generalize List.getD (eY d m) i.toNat dq=a at*
 simp only[nr,cO] at hk
 refine⟨hk.1.1,fun e=> ?_⟩
 have hd:=hk.1.2
 have hp:=hk.1.1
 simp only[ib,e,decide_true,wk,ra,decide_eq_false_iff_not] at hd
 simp only[dl,e,show¬((2:Int)=1) by decide,decide_false,cond_false,decide_true,cond_true,cO,decide_eq_true_eq] at hp
 omega
theorem LfE{a a':cX}{b b':Bool}(h1:a=a')(h2:b=b'):Lf [.agg [CI a.Kind,.lit (.string a.F.Kind),.sl .bc a.F.ah,CI a.Id,CI a.N,.lit (.string a.aR)],.one (.lit (.bool b))] [.agg [CI a'.Kind,.lit (.string a'.F.Kind),.sl .bc a'.F.ah,CI a'.Id,CI a'.N,.lit (.string a'.aR)],.one (.lit (.bool b'))]:=by
 subst h1 h2;exact bf _
theorem ajo{a a':List cX}{b b':Bool}(h1:a=a')(h2:b=b'):Lf [.one (.sl .eD a),.one (.lit (.bool b))] [.one (.sl .eD a'),.one (.lit (.bool b'))]:=by
 subst h1 h2;exact bf _
def afv:=cj (α:=cX) (q1 (qA .eD)) [.ro] (fun _=>[]) (fun e=>⟨[dO (ez e)],[],[]⟩)
def agZ:HH:=hF afv func224 [L_,L8,tF] a0 fun(e:cX) hp hb=>by
 have aS:=Fi (x:=e) (hb _ m0)
 have K4:=aS.1
 have Gc:=aS.2.1
 have PX:=aS.2.2
 clear hp hb
 apply vE (let x0:=e.Kind==5;let x1:=ByteArray.toList e.aR==ByteArray.toList {data:= #[]:BA};let x2:=e.Id==0;let x3:=(e.F.ah.length:Int)==0;let q0:=Lb false (ez e);let q1:=bif x2 then bif e.N==0 then Lb x1 (ez e) else q0 else q0;let q2:=bif bw e.F then bif x2 then bif e.N==0 then bif x1 then Lb true (ez e) else Lb (bq e.aR) (ez e) else q0 else q0 else q0;let q3:=bif bw e.F then bif x2 then bif decide (0<=e.N/\e.N<=100000) then Lb x1 (ez e) else q0 else q0 else q0;bif ByteArray.toList e.F.Kind==ByteArray.toList {data:= #[]:BA} then bif e.Kind==1 then bif bw e.F then q1 else q0 else bif e.Kind==3 then q2 else bif e.Kind==4 then q3 else bif e.Kind==2 then bif x3 then bif decide (e.Id≥1) then bif e.N==0 then Lb x1 (ez e) else q0 else q0 else q0 else bif x0 then bif x0 then bif x3 then q1 else q0 else q0 else bif e.Kind==6 then bif x3 then q1 else q0 else q0 else bif e.Kind==1 then bif bw e.F then q1 else q0 else bif e.Kind==3 then q2 else bif e.Kind==4 then q3 else bif e.Kind==2 then q0 else bif x0 then bif x0 then q0 else q0 else bif e.Kind==6 then q0 else q0)
 dsimp only
 have e1:∀s:BA,(ByteArray.toList s==ByteArray.toList {data:= #[]})=decide (s=aj):=fun s=>aM _ _
 have e2:((e.F.ah.length:Int)==0)=decide (e.F.ah.length=0):=by rw[FM];simp
 simp only[e1,e2,ez,Ts,fB]
 repeat' (refine ae (fun h=> ?_) (fun h=> ?_))
 all_goals (refine ck ?_;grind)
def afA:=cj (α:=eK×au) (qC (qA .dG) (q1 (qA .aB))) [.ro,.ro] (fun(a,m)=>[a.Kind=2->0<=a.N/\a.N<m.eH.length,a.av.length<=4294967295]) (fun(a,m)=>⟨[dA .eD (rS m a),dO (HU m a)],[],[]⟩)
def ag7:HH:=hF afA func213 [agZ,agY] a0 fun x hp hb=>by
 obtain⟨a,m⟩:=x
 have aS:=B6 (x:=a) (hb _ m0)
 have rN:=aS.1
 have zY:=aS.2.1
 have zX:=aS.2.2
 have dw:=gQ (x:=m) (hb _ m1)
 have pJ:=dw.1
 have mi:=dw.2
 have bo:a.Kind=2->0<=a.N/\a.N<m.eH.length:=hp _ m0
 have fw:a.av.length<=4294967295:=hp _ m1
 clear hp hb
 apply vE (let q0:=(rS m a).F.Kind;let q1:=mS a.av m.bu;let q2:=(rS m a).Kind;let q3:=(rS m a).aR;let q4:=(rS m a).Id;let q5:=(rS m a).N;bif a.Kind==2 then 0<=a.N/\a.N.toNat<m.eH.length/\Lf [DV.agg [CI a.Kind,CS ({data:= #[]:BA}),CL .bc [],CI (m.eH.getD a.N.toNat 0),CI 0,CS a.aR],VB (ez {Kind:=a.Kind,F:={Kind:={data:= #[]:BA},ah:=[]:aJ},Id:=m.eH.getD a.N.toNat 0,N:=(0:Int),aR:=a.aR:cX})] [DV.agg [CI q2,CS q0,CL .bc (rS m a).F.ah,CI q4,CI q5,CS q3],VB (HU m a)] else bif a.Kind==4 then a.av.length<=4294967295/\bif mT a.av m.bu then Lf [DV.agg [CI a.Kind,CS a.Name,CL .bc q1,CI 0,CI a.N,CS a.aR],VB (ez {Kind:=a.Kind,F:={Kind:=a.Name,ah:=mS a.av m.bu:aJ},Id:=(0:Int),N:=a.N,aR:=a.aR:cX})] [DV.agg [CI q2,CS q0,CL .bc (rS m a).F.ah,CI q4,CI q5,CS q3],VB (HU m a)] else Lf [DV.agg [CI a.Kind,CS a.Name,CL .bc q1,CI 0,CI a.N,CS a.aR],VB false] [DV.agg [CI q2,CS q0,CL .bc (rS m a).F.ah,CI q4,CI q5,CS q3],VB (HU m a)] else a.av.length<=4294967295/\bif mT a.av m.bu then Lf [DV.agg [CI a.Kind,CS a.Name,CL .bc q1,CI 0,CI 0,CS a.aR],VB (ez {Kind:=a.Kind,F:={Kind:=a.Name,ah:=mS a.av m.bu:aJ},Id:=(0:Int),N:=(0:Int),aR:=a.aR:cX})] [DV.agg [CI q2,CS q0,CL .bc (rS m a).F.ah,CI q4,CI q5,CS q3],VB (HU m a)] else Lf [DV.agg [CI a.Kind,CS a.Name,CL .bc q1,CI 0,CI 0,CS a.aR],VB false] [DV.agg [CI q2,CS q0,CL .bc (rS m a).F.ah,CI q4,CI q5,CS q3],VB (HU m a)])
 dsimp only
 refine bi (fun h=> ?_) (fun h=>bi (fun h4=>⟨fw,ae (fun g=> ?_) (fun g=> ?_)⟩) (fun h4=>⟨fw,ae (fun g=> ?_) (fun g=> ?_)⟩))
 ·have e:rS m a=⟨a.Kind,ui,m.eH.getD a.N.toNat 0,0,a.aR⟩:=if_pos h
  exact⟨(bo h).1,by have:=bo h;omega,LfE (a:=⟨a.Kind,ui,m.eH.getD a.N.toNat 0,0,a.aR⟩) e.symm (by simp only[HU,decide_eq_true h,Bool.true_or,wk,e];rfl)⟩
 all_goals have e0:rS m a=⟨a.Kind,⟨a.Name,mS a.av m.bu⟩,0,if a.Kind=4 then a.N else 0,a.aR⟩:=if_neg h
 all_goals first|rw[if_pos h4] at e0|rw[if_neg h4] at e0
 ·exact LfE (a:=⟨a.Kind,⟨a.Name,mS a.av m.bu⟩,0,a.N,a.aR⟩) e0.symm (by simp only[HU,decide_eq_false h,show mT a.av m.bu=true from g,Bool.or_true,wk,e0])
 ·exact LfE (a:=⟨a.Kind,⟨a.Name,mS a.av m.bu⟩,0,a.N,a.aR⟩) e0.symm (by simp only[HU,decide_eq_false h,show mT a.av m.bu=false from g,QT,p_])
 ·exact LfE (a:=⟨a.Kind,⟨a.Name,mS a.av m.bu⟩,0,0,a.aR⟩) e0.symm (by simp only[HU,decide_eq_false h,show mT a.av m.bu=true from g,Bool.or_true,wk,e0])
 ·exact LfE (a:=⟨a.Kind,⟨a.Name,mS a.av m.bu⟩,0,0,a.aR⟩) e0.symm (by simp only[HU,decide_eq_false h,show mT a.av m.bu=false from g,QT,p_])
theorem Ip{d:bp}{m:au}(h:lM d m=false):Lf [.one (.sl .eD []),.one (.lit (.bool false))] [.one (.sl .eD (na d m)),.one (.lit (.bool (lM d m)))]:=
 ajo (by rw[na,h];rfl) h.symm
theorem Ow{d:bp}{m:au}(h:Ej d m=false):lM d m=false:=by rw[lM,h];simp
theorem Wi{d:bp}{m:au}(h:(eY d m).all (HU m)=false):lM d m=false:=by rw[lM,h];simp
theorem TD{d:bp}{m:au}(h:ko d m=true){i:Int}(h1:0<=i)(h2:i<(eY d m).length):((eY d m).getD i.toNat dq).av.length<=cG d:=by
 obtain⟨r1,r2⟩:=oe h
 have hs:=er eg d.aw cq r1 r2
 have ht:=er hU (eY d m) dq h1 h2
 have e:(d.aw.getD m.cL.toNat cq).bH=eY d m:=rfl
 simp only[eg,e] at hs
 simp only[hU,kK] at ht
 have e2:rE (eY d m)=(eY d m).length+((eY d m).map hU).sum:=rfl
 simp only[cG,j_]
 omega
def XN:=cj (α:=bp×au) (qC (qA .h_) (q1 (qA .aB))) [.ro,.ro] (fun(d,m)=>[cG d<=4294967295]) (fun(d,m)=>⟨[dL .eD (na d m),dO (lM d m)],[],[]⟩)
def C9(d:bp)(m:au):List cX×Int×T2×T8×Unit->Prop:=fun(o,i,b,g,_)=>b=(d.Name,d.aw,())/\g=(m.cL,m.eH,m.bu,())/\Ej d m=true/\0<=i/\i<=(eY d m).length/\o=((eY d m).take i.toNat).map (rS m)/\((eY d m).drop i.toNat).all (HU m)=(eY d m).all (HU m)
def Cm(d:bp)(m:au):List cX×Int×T2×T8×Unit->Nat:=fun(o,i,b,g,_)=>(eY d m).length-i.toNat
def aiI:AX XN:=fun(d,m)=>bW [(6,aU [iO 6 .eD,iI 8,.box 2 (2,1024) [.lit .str,.shr .bz],.box 3 (3,1024) [.lit (.int .i64),.shr .int,.shr .cv]] (fun _=>C9 d m) (Cm d m))]
def ahu:HH:=hF XN func179 [agC,OX,Mb,ag7] aiI fun x hp hb=>by
 obtain⟨d,m⟩:=x
 have aS:=gI (x:=d) (hb _ m0)
 have e_:=aS.1
 have ew:=aS.2
 have dw:=gQ (x:=m) (hb _ m1)
 have pJ:=dw.1
 have mi:=dw.2
 have bo:cG d<=4294967295:=hp _ m0
 clear hp hb
 apply vE (let x0:=(d.aw.getD m.cL.toNat cq).bH;let q0:=Lf [VL .eD [],VB false] [VL .eD (na d m),VB (lM d m)];cG d<=4294967295/\bif !fQ d then q0 else bif !ko d m then q0 else 0<=m.cL/\m.cL.toNat<d.aw.length/\bif (m.eH.length:Int) !=(↑(cR (d.aw.getD m.cL.toNat cq).aD):Int) then q0 else 0<=m.cL/\m.cL.toNat<d.aw.length/\C9 d m ([],0,(d.Name,d.aw,()),(m.cL,m.eH,m.bu,()),())/\∀(y:List cX×Int×T9×YR×PUnit),let x2:={cL:=y.2.2.2.1.1,eH:=y.2.2.2.1.2.1,bu:=y.2.2.2.1.2.2.1:au};let x4:=y.2.1.toNat;let x3:=x0.getD x4 dq;let x1:=[rS x2 x3];let q1:=(y.1++x1,wrap i64 (y.2.1+1),(y.2.2.1.1,y.2.2.1.2.1,()),(y.2.2.2.1.1,y.2.2.2.1.2.1,y.2.2.2.1.2.2.1,()),());C9 d m y->bif decide (y.2.1<(x0.length:Int)) then 0<=y.2.1/\x4<x0.length/\(x3.Kind=2->0<=x3.N/\x3.N<(y.2.2.2.1.2.1.length:Int))/\x3.av.length<=4294967295/\bif !HU x2 x3 then q0 else L4 (y.1.length+x1.length)/\C9 d m q1/\Cm d m q1<Cm d m y else Lf [VL .eD y.1,VB true] [VL .eD (na d m),VB (lM d m)])
 dsimp only
 refine⟨bo,bE (fun h=>Ip (by rw[lM,show fQ d=false from h];rfl)) (fun hd=>bE (fun h=>Ip (Ow (by rw[Ej,show ko d m=false from h];rfl))) (fun hr=> ?_))⟩
 obtain⟨r1,r2⟩:=oe hr
 refine⟨r1,by omega,mh (fun h=>Ip (Ow (by rw[Ej,decide_eq_false (show¬m.eH.length=cR (d.aw.getD m.cL.toNat cq).aD by omega)];simp))) (fun hl=> ?_)⟩
 have VT:Ej d m=true:=by rw[Ej,show ko d m=true from hr,decide_eq_true (show m.eH.length=cR (d.aw.getD m.cL.toNat cq).aD by omega)];rfl
 obtain⟨ha1,ha2⟩:=OQ hd VT
 refine⟨r1,by omega,⟨rfl,rfl,VT,by omega,by omega,by simp,rfl⟩,?_⟩
 rintro⟨o,i,⟨b1,b2,⟨⟩⟩,⟨g1,g2,g3,⟨⟩⟩,⟨⟩⟩ ⟨hb,hg,-,h1,h2,rfl,hR⟩
 cases hb
 cases hg
 have hx:(d.aw.getD m.cL.toNat cq).bH=eY d m:=rfl
 simp only[hx]
 refine aQ ?_ ?_<;>intro hc
 ·obtain⟨a1,a2⟩:=ha2 i h1 hc
  have has:=TD hr h1 hc
  rw[en _ _ dq h1 hc] at hR
  refine⟨h1,by omega,a2,by omega,bE (fun g=> ?_) (fun g=> ?_)⟩
  ·exact Ip (Wi (by rw[<-hR,show HU m ((eY d m).getD i.toNat dq)=false from g];rfl))
  ·have g':HU m ((eY d m).getD i.toNat dq)=true:=g
   rw[g',wk] at hR
   have hm:((eY d m).take i.toNat).map (rS m)++[rS m ((eY d m).getD i.toNat dq)]=((eY d m).take (i+1).toNat).map (rS m):=by rw[<-dH (eY d m) dq h1 hc,Mp];rfl
   rw[wi]
   exact⟨by simp only[xp,oz,fY,fG];omega,⟨rfl,rfl,VT,by omega,by omega,hm,hR⟩,by simp only[Cm];omega⟩
 ·have e:(eY d m).drop i.toNat=[]:=List.drop_eq_nil_of_le (by omega)
  rw[e] at hR
  have hf:lM d m=true:=by rw[lM,VT,<-hR,show fQ d=true from hd];rfl
  rw[cM (eY d m) (by omega)]
  exact ajo (by rw[na,if_pos hf]) hf.symm
def qi(now:Int)(l:List aK):List aK:=l.filter fun x=>decide (x.At<=now)
def Pk(now:Int)(l:List aK):List aK:=l.filter fun x=> !decide (x.At<=now)
theorem Bb{α:Type}(p:α->Bool)(l:List α)(z:α){i:Int}(h1:0<=i)(h2:i<l.length):
  (l.take (i+1).toNat).filter p=(l.take i.toNat).filter p++(if p (l.getD i.toNat z) then[l.getD i.toNat z] else[]):=by
 rw[<-dH l z h1 h2,List.filter_append]
 congr 1
 simp only[List.filter_cons,List.filter_nil]
theorem wD{α:Type}(p:α->Bool)(l:List α)(n:Nat):((l.take n).filter p).length<=n:=
 xo (Mq _ _) (by simp;omega)
def XM:=cj (α:=(List aK)×Int) (qC (qL .aI) (q1 qI)) [.ro,.ro] (fun(l,now)=>[L4 (cY l)]) (fun(l,now)=>⟨[dL .aI (qi now l),dL .aI (Pk now l)],[],[]⟩)
def zb(l:List aK)(now:Int):(List aK×(Nat->Bool))×Int×List aK×List aK×Unit->Prop:=fun((xs,dd),i,due,oth,_)=>0<=i/\i<=l.length/\l=xs/\(∀j,i.toNat<=j->dd j=false)/\due=qi now (l.take i.toNat)/\oth=Pk now (l.take i.toNat)
def tq(l:List aK)(now:Int):(List aK×(Nat->Bool))×Int×List aK×List aK×Unit->Nat:=fun((xs,dd),i,due,oth,_)=>l.length-i.toNat
def aiH:AX XM:=fun(l,now)=>bW [(5,aU [.slot 8 (8,1024) (.part .aI),iI 9,iO 6 .aI,iO 7 .aI] (fun _=>zb l now) (tq l now))]
def ahs:HH:=hF XM func181 [abp] aiH fun x hp hb=>by
 obtain⟨l,now⟩:=x
 have fF:L9 l.length:=iv (hb _ m0)
 have w6:=tg (n:=now) (hb _ m1)
 have bo:cY l<=4294967296:=hp _ m0
 clear hp hb
 apply vE (cY l<=4294967296/\zb l now ((l,fun(x:Nat)=>false),0,[],[],())/\∀(y:(List aK×(Nat->Bool))×Int×List aK×List aK×PUnit),let x1:=y.2.1.toNat;let x2:=wrap i64 (y.2.1+1);let x5:=y.fst.1.getD x1 cS;let x6:=y.fst.1.length;let x0:=[x5];let x3:=x5.At;let x4:=(↑x6:Int);zb l now y->bif decide (y.2.1<x4) then 0<=y.2.1/\x1<x6/\x1<x6/\y.fst.2 x1=false/\bif decide (x3<=now) then 0<=y.2.1/\x1<x6/\x1<x6/\y.fst.2 x1=false/\L4 (y.2.2.1.length+x0.length)/\zb l now ((y.fst.1,fun(j:Nat)=>Nat.beq j x1||y.fst.2 j),x2,y.2.2.1++x0,y.2.2.2.1,())/\tq l now ((y.fst.1,fun(j:Nat)=>Nat.beq j x1||y.fst.2 j),x2,y.2.2.1++x0,y.2.2.2.1,())<tq l now y else 0<=y.2.1/\x1<x6/\x1<x6/\y.fst.2 x1=false/\L4 (y.2.2.2.1.length+x0.length)/\zb l now ((y.fst.1,fun(j:Nat)=>Nat.beq j x1||y.fst.2 j),x2,y.2.2.1,y.2.2.2.1++x0,())/\tq l now ((y.fst.1,fun(j:Nat)=>Nat.beq j x1||y.fst.2 j),x2,y.2.2.1,y.2.2.2.1++x0,())<tq l now y else Lf [VL .aI y.2.2.1,VL .aI y.2.2.2.1] [VL .aI (qi now l),VL .aI (Pk now l)])
 dsimp only
 refine⟨bo,⟨by omega,by omega,rfl,fun _ _=>rfl,rfl,rfl⟩,?_⟩
 rintro⟨⟨xs,dd⟩,i,due,oth,⟨⟩⟩ ⟨h1,h2,rfl,hd,rfl,rfl⟩
 simp only
 refine ae ?_ ?_<;>intro hc
 ·have hc:=yT hc
  have gZ:i.toNat<l.length:=by omega
  have Ld:=hd i.toNat (tR _)
  have hl:l.length<=4294967296:=by simp only[cY] at bo;omega
  have hw:IntKind.i64.wrap (i+1)=i+1:=wi
  have g1:=Bb (fun x:aK=>decide (x.At<=now)) l cS h1 hc
  have g2:=Bb (fun x:aK=> !decide (x.At<=now)) l cS h1 hc
  have e1:(qi now (l.take i.toNat)).length<=i.toNat:=wD _ _ _
  have e2:(Pk now (l.take i.toNat)).length<=i.toNat:=wD _ _ _
  have kY:∀j,(i+1).toNat<=j->(Nat.beq j i.toNat||dd j)=false:=fun j hj=>by
   rw[hd j (by omega),QT,<-wl,JU];omega
  rw[hw]
  refine⟨h1,gZ,gZ,Ld,ae (fun ha=> ?_) (fun ha=> ?_)⟩
  ·refine⟨h1,gZ,gZ,Ld,by simp;omega,⟨by omega,by omega,rfl,kY,?_,?_⟩,by simp only[tq];omega⟩
   ·show _=List.filter _ _
    rw[g1,if_pos ha];rfl
   ·show _=List.filter _ _
    rw[g2,if_neg (by rw[ha];decide),xr];rfl
  ·refine⟨h1,gZ,gZ,Ld,by simp;omega,⟨by omega,by omega,rfl,kY,?_,?_⟩,by simp only[tq];omega⟩
   ·show _=List.filter _ _
    rw[g1,if_neg (by rw[ha];decide),xr];rfl
   ·show _=List.filter _ _
    rw[g2,if_pos (by rw[ha];decide)];rfl
 ·have hc:=yF hc
  rw[cM l (by omega)]
  exact bf _
def tV(l:List aK)(a:Int):Nat->Nat
 |0=>0
 |n+1=>if(l.getD n cS).At>a then tV l a n else n+1
theorem N6(l:List aK)(a:Int):∀n,tV l a n<=n
 |0=>tR _
 |n+1=>by have:=N6 l a n;simp only[tV];split<;>omega
def mX(l:List aK)(x:aK):Bool:=dx l&&iN x&&decide (l.length<30)
def rv(l:List aK)(x:aK):List aK:=if mX l x then l.take (tV l x.At l.length)++x::l.drop (tV l x.At l.length) else l
def ob(l:List aK)(k:Nat)(d:aK):List aK:=l.take k++d::l.drop k
theorem PT(l:List aK){k:Nat}(h:k<=l.length)(d:aK):(ob l k d).length=l.length+1:=by
 simp[ob];omega
theorem Sn(l:List aK){k j:Nat}(h:k<=l.length)(hj:j<k)(d:aK):(ob l k d).getD j cS=l.getD j cS:=by
 simp only[ob,eX]
 rw[xx (by simp;omega),qa,if_pos hj]
theorem GQ(l:List aK){k:Nat}(h:k<=l.length)(d x:aK):(ob l k d).set k x=ob l k x:=by
 unfold ob
 rw[List.set_append_right _ _ (by simp;omega)]
 have:k-(l.take k).length=0:=by simp;omega
 rw[this];rfl
theorem KV(l:List aK){k:Nat}(h0:0<k)(h:k<=l.length):ob l k (l.getD (k-1) cS)=ob l (k-1) (l.getD (k-1) cS):=by
 unfold ob
 obtain⟨n,rfl⟩:∃n,k=n+1:=⟨k-1,by omega⟩
 have hn:n<l.length:=by omega
 simp only[Nat.add_sub_cancel]
 have e:l.getD n cS=l[n]:=by rw[eX,fH hn];rfl
 rw[e,zcz hn,xw,<-Uj hn]
 rfl
theorem LfT{a a':List aK}{b b':Bool}(h1:a=a')(h2:b=b'):Lf [.one (.sl .aI a),.one (.lit (.bool b))] [.one (.sl .aI a'),.one (.lit (.bool b'))]:=by
 subst h1 h2;exact bf _
def XA:=cj (α:=(List aK)×aK) (qC (qL .aI) (q1 (qA .aI))) [.ro,.ro] (fun(l,x)=>[L4 (cY l),L4 (ie x)]) (fun(l,x)=>⟨[dL .aI (rv l x),dO (mX l x)],[],[]⟩)
def C2(l:List aK)(x:aK):(List aK×(Nat->Bool))×Int×T19×Unit->Prop:=fun((xs,dd),k,b,_)=>0<=k/\k<=l.length/\(∃d,xs=ob l k.toNat d)/\(∀j,j<l.length+1->j≠k.toNat->dd j=false)/\tV l x.At k.toNat=tV l x.At l.length/\b=(x.At,x.F.Kind,x.F.ah,())
def Cf(l:List aK)(x:aK):(List aK×(Nat->Bool))×Int×T19×Unit->Nat:=fun((xs,dd),k,b,_)=>k.toNat
def aiv:AX XA:=fun(l,x)=>bW [(7,aU [.slot 6 (6,1024) (.part .aI),iI 7,.box 3 (3,1024) [.lit (.int .i64),.lit .str,.own .bc true]] (fun _=>C2 l x) (Cf l x))]
def ag5:HH:=hF XA func215 [abp,agB,YL,sd] aiv fun x hp hb=>by
 obtain⟨l,x⟩:=x
 have fF:L9 l.length:=iv (hb _ m0)
 have dw:=Ar (x:=x) (hb _ m1)
 have uL:=dw.1
 have ri:=dw.2
 have bo:cY l<=4294967296:=hp _ m0
 have fw:ie x<=4294967296:=hp _ m1
 clear hp hb
 apply vE (let q0:=Lf [VL .aI l,VB false] [VL .aI (rv l x),VB (mX l x)];L4 (cY l)/\bif !dx l then q0 else bif !iN x then q0 else bif decide ((l.length:Int)≥30) then q0 else L4 x.F.ah.length/\l.length+(List.replicate 1 cS).length<=4294967296/\C2 l x ((l++List.replicate 1 cS,fun(i:Nat)=>Nat.ble (l.length) i),(l.length:Int),(x.At,x.F.Kind,x.F.ah,()),())/\∀(y:(List aK×(Nat->Bool))×Int×T21×PUnit),let x1:=y.2.1.toNat;let x3:=wrap i64 (y.2.1-1);let x6:=y.fst.1.length;let x0:=y.fst.1.set x1 {At:=y.2.2.1.1,F:={Kind:=y.2.2.1.2.1,ah:=y.2.2.1.2.2.1:aJ}:aK};let x2:=x3.toNat;let x5:=y.fst.1.getD x2 cS;let x4:=x5.At;let q1:=Lf [VL .aI x0,VB true] [VL .aI (rv l x),VB (mX l x)];let q2:=(y.2.2.1.1,y.2.2.1.2.1,y.2.2.1.2.2.1,());C2 l x y->bif decide (y.2.1>0) then 0<=x3/\x2<x6/\x2<x6/\y.fst.2 x2=false/\bif decide (x4>y.2.2.1.1) then 0<=x3/\x2<x6/\x2<x6/\y.fst.2 x2=false/\0<=y.2.1/\x1<x6/\x1<x6/\C2 l x ((y.fst.1.set x1 x5,fun(j:Nat)=> !Nat.beq j x1&&(Nat.beq j x2||y.fst.2 j)),x3,q2,())/\Cf l x ((y.fst.1.set x1 x5,fun(j:Nat)=> !Nat.beq j x1&&(Nat.beq j x2||y.fst.2 j)),x3,q2,())<Cf l x y else 0<=y.2.1/\x1<x6/\x1<x6/\(∀(i:Nat),i<x0.length->(!Nat.beq i x1&&y.fst.2 i)=false)/\q1 else 0<=y.2.1/\x1<x6/\x1<x6/\(∀(i:Nat),i<x0.length->(!Nat.beq i x1&&y.fst.2 i)=false)/\q1)
 dsimp only
 refine⟨bo,ae (fun h=> ?_) (fun h=>ae (fun h'=> ?_) (fun h'=>ae (fun oK=> ?_) (fun oK=> ?_)))⟩
 ·have hf:mX l x=false:=by simp only[mX];simp at h;simp[h]
  exact LfT (by rw[rv,hf];rfl) hf.symm
 ·have hf:mX l x=false:=by simp only[mX];simp at h';simp[h']
  exact LfT (by rw[rv,hf];rfl) hf.symm
 ·have hf:mX l x=false:=by simp only[mX];have oK:=yT oK;rw[decide_eq_false (by omega)];simp
  exact LfT (by rw[rv,hf];rfl) hf.symm
 have h3:=yF oK
 have ho:mX l x=true:=by simp only[mX];simp at h h';rw[h,h',decide_eq_true (by omega)];rfl
 have hT:rv l x=ob l (tV l x.At l.length) x:=by rw[rv,if_pos ho];rfl
 refine⟨?_,by simp;omega,⟨by omega,by omega,⟨cS,by simp[ob]⟩,fun j hj ug=> ?_,rfl,rfl⟩,?_⟩
 ·simp only[ie,dj,eO] at fw;omega
 ·show Nat.ble l.length j=false
  rw[<-wl,QS];omega
 rintro⟨⟨xs,dd⟩,k,⟨bA,bK,bF,⟨⟩⟩,⟨⟩⟩ ⟨h1,h2,⟨d,rfl⟩,hd,PS,hb⟩
 cases hb
 simp only
 have hlen:=PT l (k:=k.toNat) (by omega) d
 have fin:tV l x.At k.toNat=k.toNat->0<=k/\k.toNat<(ob l k.toNat d).length/\k.toNat<(ob l k.toNat d).length/\
   (∀i,i<((ob l k.toNat d).set k.toNat x).length->(!Nat.beq i k.toNat&&dd i)=false)/\
   Lf [.one (.sl .aI ((ob l k.toNat d).set k.toNat x)),.one (.lit (.bool true))] [.one (.sl .aI (rv l x)),.one (.lit (.bool (mX l x)))]:=by
  intro hk
  refine⟨h1,by rw[hlen];omega,by rw[hlen];omega,fun i hi=> ?_,LfT ?_ ho.symm⟩
  ·rw[Md,hlen] at hi
   by_cases hik:i=k.toNat
   ·subst hik;simp
   ·rw[hd i hi hik];simp
  ·rw[GQ l (by omega),hT,<-PS,hk]
 refine ae ?_ ?_<;>intro hc
 ·have hc:=yT hc
  have hw:IntKind.i64.wrap (k-1)=k-1:=wi
  have ek:(k-1).toNat=k.toNat-1:=by omega
  obtain⟨n,hn⟩:∃n,k.toNat=n+1:=⟨k.toNat-1,by omega⟩
  have hlo:=Sn l (k:=k.toNat) (j:=k.toNat-1) (by omega) (by omega) d
  have Xe:=hd (k.toNat-1) (by omega) (by omega)
  rw[hw,ek,hlo]
  refine⟨by omega,by rw[hlen];omega,by rw[hlen];omega,Xe,ae (fun hg=> ?_) (fun hg=> ?_)⟩
  ·have hg:=yT hg
   refine⟨by omega,by rw[hlen];omega,by rw[hlen];omega,Xe,by omega,by rw[hlen];omega,by rw[hlen];omega,⟨by omega,by omega,⟨l.getD (k.toNat-1) cS,?_⟩,fun j hj ug=> ?_,?_,rfl⟩,by simp only[Cf];omega⟩
   ·rw[GQ l (by omega),ek]
    exact KV l (by omega) (by omega)
   ·show(!Nat.beq j k.toNat&&(Nat.beq j (k.toNat-1)||dd j))=false
    rw[ek] at ug
    have e1:Nat.beq j (k.toNat-1)=false:=by rw[<-wl,JU];exact ug
    by_cases hjk:j=k.toNat
    ·subst hjk;simp
    ·rw[e1,hd j hj hjk];simp
   ·rw[<-PS,ek,hn]
    rw[hn] at hg
    simp only[Nat.add_sub_cancel] at hg⊢
    rw[tV,if_pos hg]
  ·have hg:=yF hg
   refine fin ?_
   rw[hn] at hg⊢
   simp only[Nat.add_sub_cancel] at hg
   rw[tV,if_neg hg]
 ·have hc:=yF hc
  refine fin ?_
  have:k.toNat=0:=by omega
  rw[this,tV]
structure ag where
 b:List Int
 i:Int
 h:Int
def dU (c : ag) : DV UU := .box [.sl .byte c.b, .lit (.int .i64 c.i), .lit (.int .i64 c.h)]
def oU : DV UU -> Option ag := fun | .box [.sl .byte b, .lit (.int .i64 i), .lit (.int .i64 h)] => some ⟨b, i, h⟩ | _ => none
theorem lU (d : DV UU) (x : ag) (h : oU d = some x) : dU x = d := by
  unfold oU at h
  split at h <;> cases h
  rfl
theorem tQ {x : ag} (h : gh (dU x)) : x.b.length <= 9223372036854775807 := Bd.len (U := UU) (τ := .byte) (xs := x.b) (h _ List.mem_cons_self)
def qU:Q1 ag:=⟨dU,oU,lU⟩
abbrev bU(x:ag):DV UU:=.box [.sl .byte x.b,.lit (.int .i64 x.i),.lit (.int .i64 x.h)]
def Vz(h:Int)(x:Int):Int:=IntKind.wrap .i64 (((BitVec.ofInt (IntKind.bits .i64) (IntKind.wrap .i64 (IntKind.wrap .i64 (IntKind.wrap .i64 (h*137)+IntKind.wrap .i64 x)+11))&&&BitVec.ofInt (IntKind.bits .i64) 1073741823).toNat:Nat):Int)
def ab6(code:List Int):Int:=(code.take 4000).foldl Vz (354354+code.length)
def ij(code:List Int):ag:=⟨code,0,ab6 code⟩
def KL(h:Int):Int:=IntKind.wrap .i64 (IntKind.wrap .i64 (h*6364136223846793005)+1442695040888963407)
def Au(x:Int):Int:=IntKind.wrap .i64 (((BitVec.ofInt (IntKind.bits .i64) x&&&BitVec.ofInt (IntKind.bits .i64) 255).toNat:Nat):Int)
def Vy(h:Int):Int:=Au (IntKind.wrap .i64 (((BitVec.ofInt (IntKind.bits .i64) (Int.fdiv h ((2:Int)^min (Int.toNat 33) (IntKind.bits .i64)))^^^BitVec.ofInt (IntKind.bits .i64) (Int.fdiv h ((2:Int)^min (Int.toNat 47) (IntKind.bits .i64)))).toNat:Nat):Int))
def iW(c:ag):Int:=if c.i<c.b.length then Au (IntKind.wrap .i64 (Vy (KL c.h)+IntKind.wrap .i64 (c.b.getD c.i.toNat 0))) else Vy (KL c.h)
def eJ(c:ag):ag:=⟨c.b,if c.i<c.b.length then c.i+1 else c.i,KL c.h⟩
theorem Hp(x:Int):0<=Au x/\Au x<=255:=by
 unfold Au
 have h:(BitVec.ofInt 64 x&&&BitVec.ofInt 64 255).toNat<=255:=by
  rw[BitVec.toNat_and]
  exact xo Nat.and_le_right (by decide)
 have h':(BitVec.ofInt (IntKind.bits .i64) x&&&BitVec.ofInt (IntKind.bits .i64) 255).toNat<=255:=h
 rw[wi]
 omega
theorem rV(c:ag):0<=iW c/\iW c<=255:=by
 unfold iW
 split
 ·exact Hp _
 ·exact Hp _
theorem tc{c:ag}(h:0<=c.i):0<=(eJ c).i:=by
 simp only[eJ];split<;>omega
def af(c:ag)(n:Int):Int:=if n<=0 then 0 else if n<=256 then Int.tmod (iW c) n else Int.tmod (iW c*65536+iW (eJ c)*256+iW (eJ (eJ c))) n
def aa(c:ag)(n:Int):ag:=if n<=0 then c else if n<=256 then eJ c else eJ (eJ (eJ c))
theorem Tr{c:ag}(h:0<=c.i)(n:Int):0<=(aa c n).i:=by
 unfold aa
 split
 ·exact h
 ·split
  ·exact tc h
  ·exact tc (tc (tc h))
theorem bx{c:ag}{n:Int}(h:0<n):0<=af c n/\af c n<n:=by
 have h1:=rV c;have h2:=rV (eJ c);have h3:=rV (eJ (eJ c))
 unfold af
 rw[if_neg (by omega)]
 split
 ·rw[zbp (by omega)];exact⟨Int.emod_nonneg _ (by omega),Int.emod_lt_of_pos _ h⟩
 ·rw[zbp (by omega)];exact⟨Int.emod_nonneg _ (by omega),Int.emod_lt_of_pos _ h⟩
end
end AM
