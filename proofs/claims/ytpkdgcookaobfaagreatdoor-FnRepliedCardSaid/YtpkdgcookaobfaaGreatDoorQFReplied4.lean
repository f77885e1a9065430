/- Functions of the program with their contracts: put together by gen/link.py for FnReplied. -/
import Derived.Test.YtpkdgcookaobfaaGreatDoorQAmLib
import Derived.Test.YtpkdgcookaobfaaGreatDoorQFReplied3
import Derived.Lib.ItoaLen
import Derived.Lib.Join
import Derived.Test.YtpkdgcookaobfaaGreatDoorQShelf
namespace AM
open Go Go.Proofs.Tryz Go.IntKind
set_option linter.unusedVariables false
set_option linter.unusedSimpArgs false
set_option maxRecDepth 100000
noncomputable section
theorem uH:∀(k:Nat)(s:aF)(c:ai),Kr s->Kr (ld k s c)
 |0,_,_,h=>h
 |k+1,s,c,h=>by
  rw[ld];split
  ·exact uH k _ _ fun x hx=>h x (zA.1 hx).1
  ·exact uH k _ _ (AW h (p6 (oy _)).2)
theorem Lk:∀(k:Nat){s:aF},sS s->Kr s->s.ab.length+k<=40->Kr (tW k s)/\(tW k s).ab.length<=40
 |0,s,_,h,hl=>⟨h,by simp only[tW];omega⟩
 |k+1,s,hn,h,hl=>by
  have e:=uX hn
  refine Lk k (Et hn) (AW h (by show LR.size+eu [⟨1,_,ao⟩]<=145;exact(by decide:(4+(1+0):Nat)<=145))) ?_
  rw[e];simp only[ko,fK,fv];omega
theorem yr{s:aF}(h:Kr s)(hl:s.ab.length<=40):jU s<=6000:=by
 have:=wN jR 145 s.ab (fun x hx=>h x hx)
 simp only[jU,cd];omega
theorem Km{c:ai}(h:bh c):jU (lf c)<=6000:=by
 have h1:=D2 c
 have h2:Kr (c_ c):=uH _ _ _ (by intro x hx;simp at hx)
 unfold lf
 split
 ·exact yr (s:=⟨(c_ c).ab,gU (Kn c) R_⟩) h2 (by show(c_ c).ab.length<=40;omega)
 ·split
  ·refine yr (fun x hx=> ?_) (by simp only[ko,fK,fv];omega)
   rcases jC.1 hx with hx|hx
   ·exact h2 x hx
   ·rw[mI.1 hx];exact yp (Fm _)
  ·split
   ·obtain⟨g1,g2⟩:=Lk (40-(c_ c).ab.length) (wx c) h2 (by omega)
    exact yr g1 g2
   ·exact yr h2 (by omega)
def OJ(c:ai)(m:Int):Int:=af (instDC c m) 16
def vW(c:ai)(m:Int):ai:=aa (instDC c m) 16
def Ia:List Int:=[-1,1000000000,1000000001]
noncomputable def instA(c:ai)(m:Int):aq:=
 if OJ c m=0 then⟨(instD c m).S,(instD c m).ay,(instD c m).ag,(instD c m).ap,(instD c m).av,af (vW c m) 8,(instD c m).bR⟩
 else if OJ c m=1 then Gn (instD c m) (gU (vW c m) Ia)
 else if OJ c m=2 then tR (instD c m) (lf (vW c m))
 else if OJ c m=3 then mK (instD c m) (sn (vW c m))
 else if OJ c m=4 then DL (instD c m) (sk (vW c m))
 else if OJ c m=5 then DM (instD c m) ((instD c m).ay++[ln (vW c m)])
 else instD c m
def tm(c:ai)(m:Int):br:=if OJ c m=6 then qy (vW c m) else cD c
noncomputable def instAC(c:ai)(m:Int):ai:=
 if OJ c m=0 then aa (vW c m) 8 else if OJ c m=1 then ku (vW c m) Ia else if OJ c m=2 then j_ (vW c m) else if OJ c m=3 then po (vW c m)
 else if OJ c m=4 then nA (vW c m) else if OJ c m=5 then n8 (vW c m) else if OJ c m=6 then jz (vW c m) else vW c m
theorem Qr{l:List Int}{p:Int->Bool}{i:Int}(h0:0<=i)(h:i<l.length):(l.drop i.toNat).any p=(p (l.getD i.toNat 0)||(l.drop (i+1).toNat).any p):=by
 have e:(i+1).toNat=i.toNat+1:=by omega
 rw[Ui (by omega),UA,e,ez,fw (by omega)];rfl
theorem ap1{a a':List aw}(h:a=a'):Lf [.one (.sl .aE a)] [.one (.sl .aE a')]:=by subst h;exact aX _
def XE:=bV (α:=(List Int)×Int) (qC (qL .int) (q1 qI)) [.ro,.ro] (fun _=>[]) (fun(l,n)=>⟨[dO (yg l n)],[],[]⟩)
def C3(l:List Int)(n:Int):Int×Unit->Prop:=fun(i,_)=>0<=i/\i<=l.length/\(l.drop i.toNat).any (fun x=>decide (x=n))=yg l n
def Cg(l:List Int)(n:Int):Int×Unit->Nat:=fun(i,_)=>l.length-i.toNat
def ai9:AX XE:=fun(l,n)=>b_ [(2,aY [iI 5] (fun _=>C3 l n) (Cg l n))]
def ahw:HH:=hF XE func252 [] ai9 fun x hp hb=>by
 obtain⟨l,n⟩:=x
 have j8:L9 l.length:=lu (hb _ m0)
 have ane:=Hs (n:=n) (hb _ m1)
 clear hp hb
 apply vE (C3 l n (0,())/\∀(y:Int×PUnit),let q0:=(wrap i64 (y.1+1),());C3 l n y->bif decide (y.1<(l.length:Int)) then 0<=y.1/\y.1.toNat<l.length/\bif l.getD y.1.toNat 0==n then Lb true (yg l n) else C3 l n q0/\Cg l n q0<Cg l n y else Lb false (yg l n))
 dsimp only
 refine⟨⟨by omega,by omega,rfl⟩,?_⟩
 rintro⟨i,⟨⟩⟩ ⟨h1,h2,hR⟩
 simp only
 refine aV ?_ ?_<;>intro hc
 ·rw[Qr h1 hc] at hR
  rw[wi]
  refine⟨by omega,by omega,bo (fun g=>nE ?_) (fun g=>⟨⟨by omega,by omega,?_⟩,by simp only[Cg];omega⟩)⟩
  ·rw[<-hR,decide_eq_true g,Bool.true_or]
  ·rw[<-hR,decide_eq_false g,Gk]
 ·rw[cy _ (by omega)] at hR
  exact bG hR.symm
def XK:=bV (α:=(List aw)×Int) (qC (qL .aE) (q1 qI)) [.ro,.ro] (fun(l,id)=>[l.length<=4294967295,∀m∈l,m.ee.length<=4294967295/\m.bz.length<=4294967295]) (fun(l,id)=>⟨[dL .aE (ym l id)],[],[]⟩)
def zd(l:List aw)(id:Int):List aw×Int×Unit->Prop:=fun(out,i,_)=>0<=i/\i<=l.length/\out=(l.take i.toNat).filter (fun m=> !yg m.ee id)
def tu(l:List aw)(id:Int):List aw×Int×Unit->Nat:=fun(out,i,_)=>l.length-i.toNat
def aje:AX XK:=fun(l,id)=>b_ [(3,aY [iO 5 .aE,iI 6] (fun _=>zd l id) (tu l id))]
def ahF:HH:=hF XK func239 [ahw,YG] aje fun x hp hb=>by
 obtain⟨l,id⟩:=x
 have j8:L9 l.length:=lu (hb _ m0)
 have Oc:=Hs (n:=id) (hb _ m1)
 have bp:l.length<=4294967295:=hp _ m0
 have eN:∀m∈l,m.ee.length<=4294967295/\m.bz.length<=4294967295:=hp _ m1
 clear hp hb
 apply vE (zd l id ([],0,())/\∀(y:List aw×Int×PUnit),let x1:=y.2.1.toNat;let x0:=l.getD x1 aZ;let q0:=(y.1++[x0],wrap i64 (y.2.1+1),());let q1:=(y.1,wrap i64 (y.2.1+1),());zd l id y->bif decide (y.2.1<(l.length:Int)) then 0<=y.2.1/\x1<l.length/\bif !yg x0.ee id then 0<=y.2.1/\x1<l.length/\L4 x0.ee.length/\L4 x0.bz.length/\y.1.length+List.length [x0]<=4294967296/\zd l id q0/\tu l id q0<tu l id y else zd l id q1/\tu l id q1<tu l id y else Lf [VL .aE y.1] [VL .aE (ym l id)])
 dsimp only
 refine⟨⟨by omega,by omega,rfl⟩,?_⟩
 rintro⟨out,i,⟨⟩⟩ ⟨h1,h2,rfl⟩
 simp only
 refine aV ?_ ?_<;>intro hc
 ·have hn:i.toNat<l.length:=by omega
  have hs:=mw (fun m:aw=> !yg m.ee id) (l:=l) (i:=i.toNat) aZ hn
  have e:(i+1).toNat=i.toNat+1:=by omega
  have hm:=eN _ (gJ (z:=aZ) hn)
  have hle:=Mq (fun m:aw=> !yg m.ee id) (l.take i.toNat)
  rw[oc] at hle
  rw[wi]
  refine⟨by omega,by omega,bC (fun g=> ?_) (fun g=> ?_)⟩
  ·have g':(!yg (l.getD i.toNat aZ).ee id)=true:=by rw[show yg (l.getD i.toNat aZ).ee id=false from g];rfl
   exact⟨by omega,by omega,by omega,by omega,by simp only[fK,fv];omega,⟨by omega,by omega,by rw[e,hs,if_pos g']⟩,by simp only[tu];omega⟩
  ·have g':¬(!yg (l.getD i.toNat aZ).ee id)=true:=by rw[show yg (l.getD i.toNat aZ).ee id=true from g];decide
   exact⟨⟨by omega,by omega,by rw[e,hs,if_neg g',xu]⟩,by simp only[tu];omega⟩
 ·rw[cE l (by omega)]
  exact ap1 rfl
def TJ:=aav 6 0 (α:=aF×Int) (qC (qX .cT) (q1 qI)) [.box true,.ro] (fun(s,id)=>[s.ab.length<=1000]) (fun(s,id)=>⟨[dO (decide ((uQ s id).ab.length<s.ab.length))],[],[dX .cT (uQ s id)]⟩)
def zo(s:aF)(id:Int):List bN×Int×((List bN×(Nat->Bool))×Int×Value×Value×Value×Value×Value×Value×Unit)×Unit->List bN×Int×((List bN×(Nat->Bool))×Int×Value×Value×Value×Value×Value×Value×Unit)×Unit->Prop:=fun(o0,i0,p0,_) (o,i,p,_)=>p.1.1=s.ab/\p.2.1=s.Next/\p.2.2=p0.2.2/\0<=i/\i<=s.ab.length/\(∀j:Nat,i<=(j:Int)->p.1.2 j=false)/\o=(s.ab.take i.toNat).filter (pN id)
def tF(s:aF)(id:Int):List bN×Int×((List bN×(Nat->Bool))×Int×Value×Value×Value×Value×Value×Value×Unit)×Unit->Nat:=fun(o,i,p,_)=>s.ab.length-i.toNat
def ajL:AX TJ:=fun(s,id)=>b_ [(3,aY [iO 5 .aJ,iI 6,.box 0 (2000000,0) [.part .aJ,.lit (.int .i64),.lit .any,.lit .any,.lit .any,.lit .any,.lit .any,.lit .any]] (zo s id) (tF s id))]
def aeZ:List (FuncId×jY UU):=[]
theorem ae7:Holds EE (163,TJ):=by
 refine zX rm func163 TJ (by kernel_rfl) rfl aeZ all_nil ajL (fun x hp hb rest lJ=> ?_)
 obtain⟨s,id⟩:=x
 have jK:=Fi (x:=s) (hb _ m0)
 have Oc:=Hs (n:=id) (hb _ m1)
 have bp:s.ab.length<=1000:=hp _ m0
 clear hp hb
 have lJ:rest.length=6:=lJ
 match rest,lJ with
 |[r0,r1,r2,r3,r4,r5],_=>
 apply vE (zo s id ([],0,((s.ab,fun(x:Nat)=>false),s.Next,r0,r1,r2,r3,r4,r5,()),()) ([],0,((s.ab,fun(x:Nat)=>false),s.Next,r0,r1,r2,r3,r4,r5,()),())/\∀(y:List bN×Int×((List bN×(Nat->Bool))×Int×Value×Value×Value×Value×Value×Value×PUnit)×PUnit),let x1:=y.2.1.toNat;let x3:=y.2.2.1.1.1.getD x1 a_;let x4:=y.2.2.1.1.1.length;let x5:=wrap i64 (y.2.1+1);let x0:=(↑x4:Int);let x2:=[x3];let q0:=(y.1,x5,((y.2.2.1.1.1,y.2.2.1.1.2),y.2.2.1.2.1,y.2.2.1.2.2.1,y.2.2.1.2.2.2.1,y.2.2.1.2.2.2.2.1,y.2.2.1.2.2.2.2.2.1,y.2.2.1.2.2.2.2.2.2.1,y.2.2.1.2.2.2.2.2.2.2.1,()),());zo s id ([],0,((s.ab,fun(x:Nat)=>false),s.Next,r0,r1,r2,r3,r4,r5,()),()) y->bif decide (y.2.1<x0) then 0<=y.2.1/\x1<x4/\x1<x4/\y.2.2.1.1.2 x1=false/\bif x3.Id !=id then 0<=y.2.1/\x1<x4/\x1<x4/\y.2.2.1.1.2 x1=false/\L4 (y.1.length+x2.length)/\zo s id ([],0,((s.ab,fun(x:Nat)=>false),s.Next,r0,r1,r2,r3,r4,r5,()),()) (y.1++x2,x5,((y.2.2.1.1.1,fun(j:Nat)=>Nat.beq j x1||y.2.2.1.1.2 j),y.2.2.1.2.1,y.2.2.1.2.2.1,y.2.2.1.2.2.2.1,y.2.2.1.2.2.2.2.1,y.2.2.1.2.2.2.2.2.1,y.2.2.1.2.2.2.2.2.2.1,y.2.2.1.2.2.2.2.2.2.2.1,()),())/\tF s id (y.1++x2,x5,((y.2.2.1.1.1,fun(j:Nat)=>Nat.beq j x1||y.2.2.1.1.2 j),y.2.2.1.2.1,y.2.2.1.2.2.1,y.2.2.1.2.2.2.1,y.2.2.1.2.2.2.2.1,y.2.2.1.2.2.2.2.2.1,y.2.2.1.2.2.2.2.2.2.1,y.2.2.1.2.2.2.2.2.2.2.1,()),())<tF s id y else zo s id ([],0,((s.ab,fun(x:Nat)=>false),s.Next,r0,r1,r2,r3,r4,r5,()),()) q0/\tF s id q0<tF s id y else List.length (α:=AC UU) [AC.c (Cell.lit y.2.2.1.2.2.1),AC.c (Cell.lit y.2.2.1.2.2.2.1),AC.c (Cell.lit y.2.2.1.2.2.2.2.1),AC.c (Cell.lit y.2.2.1.2.2.2.2.2.1),AC.c (Cell.lit y.2.2.1.2.2.2.2.2.2.1),AC.c (Cell.lit y.2.2.1.2.2.2.2.2.2.2.1)]=List.length [r0,r1,r2,r3,r4,r5]/\[AC.c (Cell.lit y.2.2.1.2.2.1),AC.c (Cell.lit y.2.2.1.2.2.2.1),AC.c (Cell.lit y.2.2.1.2.2.2.2.1),AC.c (Cell.lit y.2.2.1.2.2.2.2.2.1),AC.c (Cell.lit y.2.2.1.2.2.2.2.2.2.1),AC.c (Cell.lit y.2.2.1.2.2.2.2.2.2.2.1)]=List.map (fun(v:Value)=>(AC.c (Cell.lit v):AC UU)) [r0,r1,r2,r3,r4,r5]/\dJ [VB (decide ((y.1.length:Int)<x0))]=dJ [VB (decide ((uQ s id).ab.length<s.ab.length))]/\dJ [DV.box [CL .aJ y.1,CI y.2.2.1.2.1]]=dJ [DV.box [CL .aJ (uQ s id).ab,CI ((uQ s id).Next)]])
 dsimp only
 refine⟨⟨rfl,rfl,rfl,by omega,by omega,fun _ _=>rfl,by simp⟩,?_⟩
 rintro⟨o,i,⟨⟨xs,dd⟩,nx,s0,s1,s2,s3,s4,s5,⟨⟩⟩,⟨⟩⟩ ⟨hx,hn,hr,h1,h2,hd,ho⟩
 simp only at hx hn hr h1 h2 hd ho⊢
 cases hr
 subst hx hn ho
 refine aV ?_ ?_<;>intro hc
 ·have hs:=mw (pN id) (l:=s.ab) (i:=i.toNat) a_ (by omega)
  have e:(i+1).toNat=i.toNat+1:=by omega
  have Xo:=hd i.toNat (by omega)
  have hle:((s.ab.take i.toNat).filter (pN id)).length<=(s.ab.take i.toNat).length:=Mq _ _
  rw[oc] at hle
  rw[wi]
  refine⟨h1,by omega,by omega,Xo,jk (fun g=>⟨h1,by omega,by omega,Xo,by simp only[fK,fv];omega,⟨rfl,rfl,rfl,by omega,by omega,Aq h1 hd,?_⟩,by simp only[tF];omega⟩) (fun g=>⟨⟨rfl,rfl,rfl,by omega,by omega,fun j hj=>hd j (by omega),?_⟩,by simp only[tF];omega⟩)⟩
  ·rw[e,hs,if_pos (show pN id (s.ab.getD i.toNat a_)=true by rw[pN,decide_eq_false g];rfl)]
  ·rw[e,hs,if_neg (show¬pN id (s.ab.getD i.toNat a_)=true by rw[pN,decide_eq_true g];decide),xu]
 ·rw[cE s.ab (by omega)]
  have e:decide (((s.ab.filter (pN id)).length:Int)<(s.ab.length:Int))=decide ((uQ s id).ab.length<s.ab.length):=by rw[decide_eq_decide];simp only[uQ];omega
  rw[e]
  repeat' (first|exact rfl|trivial|refine And.intro (by first|rfl|trivial) ?_)
def aiu:HH:=⟨_,ae7⟩
abbrev TI:=List bN×Int×List aw×List aj×List aN×List bq×Int×Int×Unit
def instT(p:TI):aq:=⟨⟨p.1,p.2.1⟩,p.2.2.1,p.2.2.2.1,p.2.2.2.2.1,p.2.2.2.2.2.1,p.2.2.2.2.2.2.1,p.2.2.2.2.2.2.2.1⟩
def HF(x:aq):TI:=(x.S.ab,x.S.Next,x.ay,x.ag,x.ap,x.av,x.State,x.bR,())
def KP(x:aq):Prop:=∃d,cH d x
theorem uJ{d:br}{x:aq}(h:cH d x):KP x:=⟨d,h⟩
theorem Qc{d:br}{x:aq}(h:coreX d x):x.ay.length<=4294967295/\∀m∈x.ay,m.ee.length<=4294967295/\m.bz.length<=4294967295:=by
 refine⟨by have:=h.Lo;omega,fun m hm=> ?_⟩
 obtain⟨h1,h2⟩:=GP h.p_ (h.bY m hm)
 rw[h2];exact⟨by omega,by simp⟩
theorem Lv{e:de}(h:dZ e=true)(hk:e.Kind=1\/e.Kind=3\/e.Kind=4):bD e.F=true:=by
 simp only[dZ] at h
 rcases hk with hk|hk|hk
 ·simp only[hk,decide_true,cond_true,cJ] at h;exact h.1.1.1
 ·simp only[hk,show decide ((3:Int)=1)=false from rfl,show decide ((3:Int)=2)=false from rfl,decide_true,cond_true,cond_false,cJ] at h;exact h.1.1.1
 ·simp only[hk,show decide ((4:Int)=1)=false from rfl,show decide ((4:Int)=2)=false from rfl,show decide ((4:Int)=3)=false from rfl,decide_true,cond_true,cond_false,cJ] at h;exact h.1.1.1
theorem S6{e:de}(h:dZ e=true):0<=e.N/\e.N<=100000:=by
 simp only[dZ] at h
 by_cases h1:e.Kind=1
 ·simp only[h1,decide_true,cond_true,cJ,decide_eq_true_eq] at h;omega
 by_cases h2:e.Kind=2
 ·simp only[h2,show decide ((2:Int)=1)=false from rfl,decide_true,cond_true,cond_false,cJ,decide_eq_true_eq] at h;omega
 by_cases h3:e.Kind=3
 ·simp only[h3,show decide ((3:Int)=1)=false from rfl,show decide ((3:Int)=2)=false from rfl,decide_true,cond_true,cond_false,cJ,decide_eq_true_eq] at h;omega
 by_cases h4:e.Kind=4
 ·simp only[h4,show decide ((4:Int)=1)=false from rfl,show decide ((4:Int)=2)=false from rfl,show decide ((4:Int)=3)=false from rfl,decide_true,cond_true,cond_false,cJ,decide_eq_true_eq] at h;omega
 ·simp only[h1,h2,h3,h4,decide_false,cond_false] at h
  cases hc:(decide (e.Kind=5)||decide (e.Kind=6))<;>rw[hc] at h
  ·cases h
  ·simp only[cond_true,cJ,decide_eq_true_eq] at h;omega
theorem yC{l:List de}{x:aq}{i:Int}(h0:0<=i)(h:i<l.length):jT (l.drop i.toNat) x=if x.State=1 then jT (l.drop (i+1).toNat) (g_ x (l.getD i.toNat vo)) else x:=by
 have e:(i+1).toNat=i.toNat+1:=by omega
 rw[Ui (by omega),jT,e,ez,fw (by omega)];rfl
def agk:=bV (α:=aq×de) (qC (qX .cf) (q1 (qA .eo))) [.box true,.ro] (fun(x,e)=>[KP x,dZ e=true]) (fun(x,e)=>⟨[],[],[dX .cf (g_ x e)]⟩)
def ah1:HH:=hF agk func206 [Ma,aiu,ahF,TS,ahE,YI,Md] a0 fun x hp hb=>by
 obtain⟨x,e⟩:=x
 have bp:KP x:=hp _ m0
 have eN:dZ e=true:=hp _ m1
 clear hp hb
 apply vE (let x3:={S:=x.S,ay:=x.ay,ag:=(fC {τ:=Cd.ax,xs:=x.ag:fu UU}.xs {Kind:=e.F.Kind,ah:=e.F.ah:aK} e.aR x.bR).1,ap:=x.ap,av:=x.av,State:=x.State,bR:=x.bR:aq};let x6:=wrap i64 (x.bR+e.N);let x7:={S:=x.S,ay:=x.ay,ag:=x.ag,ap:=rI x.ap {At:=(1000000000:Int),F:=e.F:aN},av:=x.av,State:=x.State,bR:=x.bR:aq};let x8:={ab:={τ:=Cd.aJ,xs:=x.S.ab:fu UU}.xs,Next:=x.S.Next:aF};let x0:=gq x3 3;let x2:=gq x7 3;let x5:={At:=x6,F:=e.F:aN};let x4:={S:=x.S,ay:=x.ay,ag:=x.ag,ap:=rI x.ap x5,av:=x.av,State:=x.State,bR:=x.bR:aq};let x1:=gq x4 3;let q0:=aG (g_ x e);let q1:=fC {τ:=Cd.ax,xs:=x.ag:fu UU}.xs {Kind:=e.F.Kind,ah:=e.F.ah:aK} e.aR x.bR;let q2:=(3:Int)=(3:Int)\/(3:Int)=(5:Int);let q3:=uQ x.S e.Id;bif e.Kind==1 then cz x/\bm x.S=true/\L4 e.F.ah.length/\LM [] [] [DV.box (aG (dj x e.F))] [DV.box q0] else bif e.Kind==2 then x.S.ab.length<=1000/\bif decide (q3.ab.length<x.S.ab.length) then x.ay.length<=4294967295/\(∀(m:aw),m∈x.ay->m.ee.length<=4294967295/\m.bz.length<=4294967295)/\LM [] [] [DV.box [CL .aJ q3.ab,CI (q3.Next),CL .aE (ym x.ay e.Id),CL .ax x.ag,CL .aI x.ap,CL .aL x.av,CI x.State,CI x.bR]] [DV.box q0] else LM [] [] [DV.box [CL .aJ q3.ab,CI (q3.Next),CL .aE x.ay,CL .ax x.ag,CL .aI x.ap,CL .aL x.av,CI x.State,CI x.bR]] [DV.box q0] else bif e.Kind==3 then L4 e.F.ah.length/\bif !q1.2 then cz x3/\q2/\LM [] [] [DV.box (aG x0)] [DV.box q0] else LM [] [] [DV.box [CL .aJ x.S.ab,CI x.S.Next,CL .aE x.ay,CL .ax q1.1,CL .aI x.ap,CL .aL x.av,CI x.State,CI x.bR]] [DV.box q0] else bif e.Kind==4 then bif decide (x6>1000000000) then L4 (cR x.ap)/\h_ {At:=(1000000000:Int),F:=e.F:aN}<=4294967296/\bif !m_ x.ap {At:=(1000000000:Int),F:=e.F:aN} then cz x7/\q2/\LM [] [] [DV.box (aG x2)] [DV.box q0] else LM [] [] [DV.box [CL .aJ x.S.ab,CI x.S.Next,CL .aE x.ay,CL .ax x.ag,CL .aI (rI x.ap {At:=(1000000000:Int),F:=e.F:aN}),CL .aL x.av,CI x.State,CI x.bR]] [DV.box q0] else L4 (cR x.ap)/\L4 (h_ x5)/\bif !m_ x.ap x5 then cz x4/\q2/\LM [] [] [DV.box (aG x1)] [DV.box q0] else LM [] [] [DV.box [CL .aJ x.S.ab,CI x.S.Next,CL .aE x.ay,CL .ax x.ag,CL .aI (rI x.ap x5),CL .aL x.av,CI x.State,CI x.bR]] [DV.box q0] else bif e.Kind==5 then aW x.ag=true/\LM [] [] [DV.box (aG (rF x 2))] [DV.box q0] else cz x/\q2/\LM [] [] [DV.box (aG (gq x 3))] [DV.box q0])
 dsimp only
 obtain⟨d,hX⟩:=bp
 have hg:=hX.good
 have hf:=Lv eN
 have hN:=S6 eN
 have Of:=Qc hX.tocoreX
 have h40:=(ju hX.store).2.2.1
 have aeb:=hX.now
 have hS:(⟨x.S.ab,x.S.Next⟩:aF)=x.S:=rfl
 have hF:(⟨e.F.Kind,e.F.ah⟩:aK)=e.F:=rfl
 simp only[hS,hF]
 refine bo (fun k=> ?_) (fun k1=>bo (fun k=> ?_) (fun k2=>bo (fun k=> ?_) (fun k3=>bo (fun k=> ?_) (fun k4=>bo (fun k=> ?_) (fun k5=> ?_)))))
 ·have e1:g_ x e=dj x e.F:=if_pos k
  exact⟨hg,hX.store,by have:=(p6 (hf (.inl k))).1;omega,by trivial,by trivial,ll e1.symm⟩
 ·have e1:g_ x e=Hh x e.Id:=(if_neg k1).trans (if_pos k)
  refine⟨by omega,aV (fun g=>⟨Of.1,Of.2,by trivial,by trivial,ll (a:=DM (tR x (uQ x.S e.Id)) (ym x.ay e.Id)) (e1.trans (if_pos g)).symm⟩) (fun g=>⟨by trivial,by trivial,ll (a:=tR x (uQ x.S e.Id)) (e1.trans (if_neg g)).symm⟩)⟩
 ·have e1:g_ x e=NM x e:=(if_neg k1).trans ((if_neg k2).trans (if_pos k))
  have hu:fj e.aR=true:=by
   simp only[dZ,k,show decide ((3:Int)=1)=false from rfl,show decide ((3:Int)=2)=false from rfl,decide_true,cond_true,cond_false,cJ] at eN;exact eN.2
  have hT:aW (fC x.ag e.F e.aR x.bR).1=true:=nV hX.jt (hf (.inr (.inl k))) hu aeb.1 (by omega)
  refine⟨by have:=(p6 (hf (.inr (.inl k)))).1;omega,bC (fun g=>⟨⟨hT,hg.2⟩,.inl trivial,by trivial,by trivial,ll (e1.trans (if_neg (by rw[show(fC x.ag e.F e.aR x.bR).2=false from g];decide))).symm⟩) (fun g=>⟨by trivial,by trivial,ll (a:=mK x (fC x.ag e.F e.aR x.bR).1) (e1.trans (if_pos g)).symm⟩)⟩
 ·have e1:g_ x e=HG x e:=(if_neg k1).trans ((if_neg k2).trans ((if_neg k3).trans (if_pos k)))
  have hfx:=(p6 (hf (.inr (.inr k)))).2
  have hts:=(BM hX.timers).2
  rw[wi (n:=x.bR+e.N)]
  have key:∀t:aN,ux x e=t->t.F=e.F->cR x.ap<=4294967296/\h_ t<=4294967296/\bif !m_ x.ap t then cz ⟨x.S,x.ay,x.ag,rI x.ap t,x.av,x.State,x.bR⟩/\(True\/(3:Int)=5)/\LM [] [] [DV.box (aG (gq ⟨x.S,x.ay,x.ag,rI x.ap t,x.av,x.State,x.bR⟩ 3))] [DV.box (aG (g_ x e))] else LM [] [] [DV.box (aG (NI x (rI x.ap t)))] [DV.box (aG (g_ x e))]:=by
   rintro t rfl wo
   refine⟨by omega,by simp only[h_,wo];omega,bC (fun g=>⟨hg,.inl trivial,by trivial,by trivial,ll (e1.trans (if_neg (by rw[show m_ x.ap (ux x e)=false from g];decide))).symm⟩) (fun g=>⟨by trivial,by trivial,ll (e1.trans (if_pos g)).symm⟩)⟩
  refine aV ?_ ?_<;>intro g
  ·exact key ⟨1000000000,e.F⟩ (by unfold ux;rw[if_pos (by omega)]) rfl
  ·exact key ⟨x.bR+e.N,e.F⟩ (by unfold ux;rw[if_neg (by omega)]) rfl
 ·have e1:g_ x e=rF x 2:=(if_neg k1).trans ((if_neg k2).trans ((if_neg k3).trans ((if_neg k4).trans (if_pos k))))
  rw[e1]
  repeat' (first|exact hX.jt|exact rfl|trivial|refine And.intro (by first|exact hX.jt|rfl|trivial) ?_)
 ·have e1:g_ x e=gq x 3:=(if_neg k1).trans ((if_neg k2).trans ((if_neg k3).trans ((if_neg k4).trans (if_neg k5))))
  rw[e1]
  exact⟨hg,.inl trivial,by trivial,by trivial,rfl⟩
def Yh:=bV (α:=br×aq×aw) (qC (qA .hH) (qC (qX .cf) (q1 (qA .aE)))) [.ro,.box true,.ro] (fun(d,x,m)=>[cH d x,x.State=1,yk x.S.ab m,m.ee.length<=4294967295]) (fun(d,x,m)=>⟨[],[],[dX .cf (pY d x m)]⟩)
def zr(d:br)(x:aq)(m:aw):Int×List de×T0×Unit->Prop:=fun(i,l,p,_)=>l=nj d m/\0<=i/\i<=l.length/\cH d (instT p)/\jT ((nj d m).drop i.toNat) (instT p)=pY d x m
def y_(d:br)(x:aq)(m:aw):Int×List de×T0×Unit->Nat:=fun(i,l,p,_)=>l.length-i.toNat
def ajO:AX Yh:=fun(d,x,m)=>b_ [(6,aY [iI 8,iO 6 .eo,.box 1 (2000001,0) [.own .aJ true,.lit (.int .i64),.own .aE true,.own .ax true,.own .aI true,.own .aL true,.lit (.int .i64),.lit (.int .i64)]] (fun _=>zr d x m) (y_ d x m))]
def aiw:HH:=hF Yh func158 [ah2,Md,ah1] ajO fun x hp hb=>by
 obtain⟨d,x,m⟩:=x
 have eV:=kQ (x:=d) (hb _ m0)
 have jX:=eV.1
 have iS:=eV.2
 have gZ:=nP (x:=x) (hb _ m1)
 have e8:=gZ.1
 have gO:=gZ.2.1
 have gN:=gZ.2.2.1
 have fM:=gZ.2.2.2.1
 have gM:=gZ.2.2.2.2
 have xw:=si (x:=m) (hb _ m2)
 have La:=xw.1
 have EM:=xw.2
 have bp:cH d x:=hp _ m0
 have eN:x.State=1:=hp _ m1
 have GS:yk x.S.ab m:=hp _ m2
 have hp3:m.ee.length<=4294967295:=hp _ m3
 clear hp hb
 apply vE (let x0:=[{cG:=m.cG,ee:=[]++m.ee,bz:=[]:aw}];let q0:=cz x/\((3:Int)=(3:Int)\/(3:Int)=(5:Int))/\LM [] [] [DV.box (aG (gq x 3))] [DV.box (aG (pY d x m))];cB d<=4294967295/\bif !lQ d m then q0 else bif decide ((x.ay.length:Int)≥1000) then q0 else 0+m.ee.length<=4294967296/\L4 (x.ay.length+x0.length)/\zr d x m (0,nj d m,(x.S.ab,x.S.Next,x.ay++x0,x.ag,x.ap,x.av,x.State,x.bR,()),())/\∀(y:Int×List de×T14×PUnit),let x2:={S:={ab:=y.2.2.1.1,Next:=y.2.2.1.2.1:aF},ay:=y.2.2.1.2.2.1,ag:=y.2.2.1.2.2.2.1,ap:=y.2.2.1.2.2.2.2.1,av:=y.2.2.1.2.2.2.2.2.1,State:=y.2.2.1.2.2.2.2.2.2.1,bR:=y.2.2.1.2.2.2.2.2.2.2.1:aq};let x3:=y.2.1.getD y.1.toNat vo;let x5:=y.2.1.length;let x1:=g_ x2 x3;let x4:=(↑x5:Int);let q1:=LM [] [] [DV.box [CL .aJ y.2.2.1.1,CI y.2.2.1.2.1,CL .aE y.2.2.1.2.2.1,CL .ax y.2.2.1.2.2.2.1,CL .aI y.2.2.1.2.2.2.2.1,CL .aL y.2.2.1.2.2.2.2.2.1,CI y.2.2.1.2.2.2.2.2.2.1,CI y.2.2.1.2.2.2.2.2.2.2.1]] [DV.box (aG (pY d x m))];let q2:=(wrap i64 (y.1+1),y.2.1,(x1.S.ab,x1.S.Next,x1.ay,x1.ag,x1.ap,x1.av,x1.State,x1.bR,()),());zr d x m y->bif decide (y.1<x4) then bif y.2.2.1.2.2.2.2.2.2.1==1 then 0<=y.1/\y.1.toNat<x5/\y.1.toNat<x5/\y.1.toNat<x5/\KP x2/\dZ x3=true/\zr d x m q2/\y_ d x m q2<y_ d x m y else q1 else q1)
 dsimp only
 have hz:=aeI bp.p_
 have hg:=bp.good
 refine⟨by omega,bC (fun h=> ?_) (fun h=>aV (fun g=> ?_) (fun g=> ?_))⟩
 ·have e1:pY d x m=gq x 3:=if_neg (fun c=>by rw[show lQ d m=false from h] at c;exact absurd c.1 (by decide))
  rw[e1];exact⟨hg,.inl rfl,rfl,rfl,rfl⟩
 ·have e1:pY d x m=gq x 3:=if_neg (fun c=>by have:=c.2;omega)
  rw[e1];exact⟨hg,.inl rfl,rfl,rfl,rfl⟩
 ·have hf:lQ d m=true:=h
  have e1:pY d x m=jT (nj d m) (Iu x m):=if_pos ⟨hf,by omega⟩
  have hR:=kD (E8 bp.tocoreX (by omega) hf GS) eN
  have h6:(nj d m).length<=6:=by
   have hm:Eu d m=true:=by simp only[lQ,cJ] at hf;exact hf.1.2
   rw[nj,if_pos hf,xt];exact(OL bp.p_ hm).1
  refine⟨by omega,by simp only[fK,fv];omega,⟨rfl,by omega,by omega,hR,e1.symm⟩,?_⟩
  clear e1 hR
  rintro⟨i,l,p,⟨⟩⟩ ⟨rfl,h1,h2,hX,hE⟩
  have h1:0<=i:=h1
  have h2:i<=(nj d m).length:=h2
  have hX:cH d (instT p):=hX
  have hE:jT ((nj d m).drop i.toNat) (instT p)=pY d x m:=hE
  refine aV (fun hc=>bo (fun hs=> ?_) (fun hs=> ?_)) (fun hc=> ?_)
  ·have hc:i<(nj d m).length:=hc
   have hs:(instT p).State=1:=hs
   have hn:i.toNat<(nj d m).length:=by omega
   have he:=On (d:=d) (m:=m) _ (gJ (z:=vo) hn)
   rw[yC h1 hc,if_pos hs] at hE
   have fin:∀j,j=i+1->zr d x m (j,nj d m,HF (g_ (instT p) ((nj d m).getD i.toNat vo)),())/\y_ d x m (j,nj d m,HF (g_ (instT p) ((nj d m).getD i.toNat vo)),())<y_ d x m (i,nj d m,p,()):=by
    rintro j rfl
    exact⟨⟨rfl,by omega,by omega,xN hX.tocoreX hs he,hE⟩,by show(nj d m).length-(i+1).toNat<(nj d m).length-i.toNat;omega⟩
   exact⟨h1,hn,hn,hn,uJ hX,he,fin _ (wi)⟩
  ·have hc:i<(nj d m).length:=hc
   have hs:¬(instT p).State=1:=hs
   rw[yC h1 hc,if_neg hs] at hE
   exact⟨rfl,rfl,ll hE⟩
  ·have hc:¬i<(nj d m).length:=hc
   rw[List.drop_eq_nil_of_le (by omega)] at hE
   exact⟨rfl,rfl,ll (a:=instT p) hE⟩
theorem K0{l:List aN}{x:aq}{i:Int}(h0:0<=i)(h:i<l.length):kH (l.drop i.toNat) x=if x.State=1 then kH (l.drop (i+1).toNat) (dj x (l.getD i.toNat cO).F) else x:=by
 have e:(i+1).toNat=i.toNat+1:=by omega
 rw[Ui (by omega),kH,e,ez,fw (by omega)];rfl
theorem Bl{st:Int}{l:List aK}{x:aq}{i:Int}(h0:0<=i)(h:i<l.length):gy st (l.drop i.toNat) x=if x.State=st then gy st (l.drop (i+1).toNat) (if st=1 then dj x (lZ (l.getD i.toNat ur) bNo N3) else qT x) else x:=by
 have e:(i+1).toNat=i.toNat+1:=by omega
 rw[Ui (by omega),gy,e,ez,fw (by omega)];rfl
theorem M4{x:aq}{l:List aN}(h:¬x.State=1):kH l x=x:=by
 cases l with
 |nil=>rfl
 |cons t l=>rw[kH,if_neg h]
theorem Ni{st:Int}{x:aq}{l:List aK}(h:¬x.State=st):gy st l x=x:=by
 cases l with
 |nil=>rfl
 |cons t l=>rw[gy,if_neg h]
def XT:=bV (α:=aq×(List BA)×(List aK)) (qC (qX .cf) (qC (qL .str) (q1 (qL .dc)))) [.box true,.ro,.ro] (fun(x,failed,facts)=>[KP x,failed.length=facts.length,∀f∈facts,bu f.Kind=true,facts≠[]->x.State=1\/x.State=3\/x.State=5]) (fun(x,failed,facts)=>⟨[],[],[dX .cf (gy x.State facts x)]⟩)
def wb(x:aq)(failed:List BA)(facts:List aK):Int×Int×T0×Unit->Prop:=fun(st,i,p,_)=>st=x.State/\0<=i/\i<=facts.length/\KP (instT p)/\gy x.State (facts.drop i.toNat) (instT p)=gy x.State facts x
def tx(x:aq)(failed:List BA)(facts:List aK):Int×Int×T0×Unit->Nat:=fun(st,i,p,_)=>facts.length-i.toNat
def ajn:AX XT:=fun(x,failed,facts)=>b_ [(2,aY [iI 6,iI 7,.box 0 (2000000,0) [.own .aJ true,.lit (.int .i64),.own .aE true,.own .ax true,.own .aI true,.own .aL true,.lit (.int .i64),.lit (.int .i64)]] (fun _=>wb x failed facts) (tx x failed facts))]
def ahZ:HH:=hF XT func208 [YY,Ma,Y0] ajn fun x hp hb=>by
 obtain⟨x,failed,facts⟩:=x
 have eV:=nP (x:=x) (hb _ m0)
 have e8:=eV.1
 have gO:=eV.2.1
 have gN:=eV.2.2.1
 have fM:=eV.2.2.2.1
 have gM:=eV.2.2.2.2
 have abZ:L9 failed.length:=lu (hb _ m1)
 have aeh:L9 facts.length:=lu (hb _ m2)
 have bp:KP x:=hp _ m0
 have eN:failed.length=facts.length:=hp _ m1
 have GS:∀f∈facts,bu f.Kind=true:=hp _ m2
 have hp3:facts≠[]->x.State=1\/x.State=3\/x.State=5:=hp _ m3
 clear hp hb
 apply vE (let q0:=aG (gy x.State facts x);wb x failed facts (x.State,0,(x.S.ab,x.S.Next,x.ay,x.ag,x.ap,x.av,x.State,x.bR,()),())/\∀(y:Int×Int×T14×PUnit),let x3:={ab:=y.2.2.1.1,Next:=y.2.2.1.2.1:aF};let x5:=wrap i64 (y.2.1+1);let x6:=y.2.1.toNat;let x2:={S:=x3,ay:=y.2.2.1.2.2.1,ag:=y.2.2.1.2.2.2.1,ap:=y.2.2.1.2.2.2.2.1,av:=y.2.2.1.2.2.2.2.2.1,State:=y.2.2.1.2.2.2.2.2.2.1,bR:=y.2.2.1.2.2.2.2.2.2.2.1:aq};let x4:=lZ (facts.getD x6 ur) {data:= #[(110:UInt8),(111:UInt8)]:BA} {K:=(1:Int),N:=(0:Int),S:={data:= #[]:BA}:aS};let x0:=dj x2 x4;let x1:=qT x2;let q1:=LM [] [] [DV.box [CL .aJ y.2.2.1.1,CI y.2.2.1.2.1,CL .aE y.2.2.1.2.2.1,CL .ax y.2.2.1.2.2.2.1,CL .aI y.2.2.1.2.2.2.2.1,CL .aL y.2.2.1.2.2.2.2.2.1,CI y.2.2.1.2.2.2.2.2.2.1,CI y.2.2.1.2.2.2.2.2.2.2.1]] [DV.box q0];let q2:=(y.1,x5,(x0.S.ab,x0.S.Next,x0.ay,x0.ag,x0.ap,x0.av,x0.State,x0.bR,()),());let q3:=(y.1,x5,(x1.S.ab,x1.S.Next,x1.ay,x1.ag,x1.ap,x1.av,x1.State,x1.bR,()),());wb x failed facts y->bif decide (y.2.1<(failed.length:Int)) then bif y.2.2.1.2.2.2.2.2.2.1==y.1 then bif y.1==1 then 0<=y.2.1/\x6<facts.length/\cz x2/\bm x3=true/\L4 x4.ah.length/\wb x failed facts q2/\tx x failed facts q2<tx x failed facts y else cz x2/\(y.2.2.1.2.2.2.2.2.2.1=3\/y.2.2.1.2.2.2.2.2.2.1=5)/\wb x failed facts q3/\tx x failed facts q3<tx x failed facts y else q1 else q1)
 dsimp only
 obtain⟨d0,hX0⟩:=bp
 refine⟨⟨rfl,by omega,by omega,uJ hX0,rfl⟩,?_⟩
 rintro⟨st,i,p,⟨⟩⟩ ⟨rfl,h1,h2,hX,hE⟩
 obtain⟨d,hX⟩:KP (instT p):=hX
 have h1:0<=i:=h1
 have h2:i<=facts.length:=h2
 have hE:gy x.State (facts.drop i.toNat) (instT p)=gy x.State facts x:=hE
 have nx:∀(z:aq)(j:Int),j=i+1->i<facts.length->KP z->gy x.State (facts.drop (i+1).toNat) z=gy x.State facts x->wb x failed facts (x.State,j,HF z,())/\tx x failed facts (x.State,j,HF z,())<tx x failed facts (x.State,i,p,()):=by
  rintro z j rfl hi hz xw
  exact⟨⟨rfl,by omega,by omega,hz,xw⟩,by show facts.length-(i+1).toNat<facts.length-i.toNat;omega⟩
 refine aV (fun hc=>bo (fun hs=>bo (fun g=> ?_) (fun g=> ?_)) (fun hs=> ?_)) (fun hc=> ?_)
 ·have hc:i<(failed.length:Int):=hc
  have hn:i.toNat<facts.length:=by omega
  have hs:(instT p).State=x.State:=hs
  have g:x.State=1:=g
  rw[Bl h1 (by omega),if_pos hs,if_pos g] at hE
  have hm:=xa (w:=bNo) (v:=N3) (GS _ (gJ (z:=ur) hn)) Ts KS
  exact⟨h1,hn,hX.good,hX.store,by simp[lZ],nx _ _ (wi (n:=i+1)) (by omega) ⟨d,jv hX.tocoreX (hs.trans g) hm⟩ hE⟩
 ·have hc:i<(failed.length:Int):=hc
  have hs:(instT p).State=x.State:=hs
  have g:¬x.State=1:=g
  rw[Bl h1 (by omega),if_pos hs,if_neg g] at hE
  have h3:=hp3 (by intro e;rw[e] at eN;simp only[fv] at eN;omega)
  have h35:(instT p).State=3\/(instT p).State=5:=by omega
  exact⟨hX.good,h35,nx _ _ (wi (n:=i+1)) (by omega) ⟨d,wS hX.tocoreX h35⟩ hE⟩
 ·have hc:i<(failed.length:Int):=hc
  have hs:¬(instT p).State=x.State:=hs
  rw[Ni hs] at hE
  exact⟨rfl,rfl,ll hE⟩
 ·have hc:¬i<(failed.length:Int):=hc
  rw[List.drop_eq_nil_of_le (by omega)] at hE
  exact⟨rfl,rfl,ll (a:=instT p) hE⟩
def vg:=bV (α:=aq×Int) (qC (qX .cf) (q1 qI)) [.box true,.ro] (fun(x,now)=>[KP x,0<=now/\now<=1000000000]) (fun(x,now)=>⟨[dL .k8 (AP x now)],[],[dX .cf (og x now)]⟩)
def zq(x:aq)(now:Int):Int×List aN×T0×Unit->Prop:=fun(i,l,p,_)=>l=qx now x.ap/\0<=i/\i<=l.length/\KP (instT p)/\kH ((qx now x.ap).drop i.toNat) (instT p)=dG x now
def y9(x:aq)(now:Int):Int×List aN×T0×Unit->Nat:=fun(i,l,p,_)=>l.length-i.toNat
def vj(x:aq)(now:Int):Int×List qj×List BA×List aK×T0×Unit->Prop:=fun(i,calls,failed,facts,p,_)=>calls=AP x now/\failed=jp (dG x now) now/\0<=i/\i<=failed.length/\facts=((jp (dG x now) now).take i.toNat).map (G7 (pg (dG x now) now).ag)/\instT p=pg (dG x now) now
def ve(x:aq)(now:Int):Int×List qj×List BA×List aK×T0×Unit->Nat:=fun(i,calls,failed,facts,p,_)=>failed.length-i.toNat
def OU:AX vg:=fun(x,now)=>b_ [(6,aY [iI 7,iO 5 .aI,.box 0 (2000000,0) [.own .aJ true,.lit (.int .i64),.own .aE true,.own .ax true,.own .aI true,.own .aL true,.lit (.int .i64),.lit (.int .i64)]] (fun _=>zq x now) (y9 x now)),(12,aY [iI 11,iO 8 .k8,iO 9 .str,iO 10 .dc,.box 0 (2000000,0) [.own .aJ true,.lit (.int .i64),.own .aE true,.own .ax true,.own .aI true,.own .aL true,.lit (.int .i64),.lit (.int .i64)]] (fun _=>vj x now) (ve x now))]
def OO:=us [ah0,Ma,YR,abL,sw,ahZ]
def gp(x:aq)(now:Int):Int×T0×Unit->Prop:=fun(nw,p,_)=>nw=now/\instT p=dG x now
def kN:vg.α->ul UU:=fun(x,now)=>aY [iI 1,.box 0 (2000000,0) [.own .aJ true,.lit (.int .i64),.own .aE true,.own .ax true,.own .aI true,.own .aL true,.lit (.int .i64),.lit (.int .i64)]] (fun _=>gp x now) (fun _=>0)
theorem aeU(x:aq)(now:Int)(y:Int×T0×Unit):mR EE OO f159 vg OU (x,now) 9 (kN (x,now)) y=(aW y.2.1.2.2.2.1=true/\
 ((0:Int)<=y.1/\y.1<=(1000000000:Int))/\
  vj x now ((0:Int),List.flatMap (pj y.1) y.2.1.2.2.2.1,List.flatMap (lM y.1) y.2.1.2.2.2.1,[],(y.2.1.1,y.2.1.2.1,y.2.1.2.2.1,y.2.1.2.2.2.1.map (fU y.1),y.2.1.2.2.2.2.1,y.2.1.2.2.2.2.2.1,y.2.1.2.2.2.2.2.2.1,y.2.1.2.2.2.2.2.2.2.1,PUnit.unit),PUnit.unit)/\
   ∀(y:Int×List qj×List BA×List aK×T14×PUnit),
    let x1:={S:={ab:=y.2.2.2.2.1.1,Next:=y.2.2.2.2.1.2.1:aF},ay:=y.2.2.2.2.1.2.2.1,ag:=y.2.2.2.2.1.2.2.2.1,ap:=y.2.2.2.2.1.2.2.2.2.1,av:=y.2.2.2.2.1.2.2.2.2.2.1,State:=y.2.2.2.2.1.2.2.2.2.2.2.1,bR:=y.2.2.2.2.1.2.2.2.2.2.2.2.1:aq};
    let x5:=aC y.2.2.2.2.1.2.2.2.1 (y.2.2.1.getD (Int.toNat y.1) ao);
    let x6:=y.2.2.1.length;
    let x7:=y.2.2.2.1.length;
    let x0:=gy y.2.2.2.2.1.2.2.2.2.2.2.1 y.2.2.2.1 x1;
    let x4:=Int.toNat x5;
    let x3:=(y.2.2.2.2.1.2.2.2.1.getD x4 aD).F;
    let x2:=[x3];
    vj x now y->bif decide (y.1<(↑x6:Int)) then(0:Int)<=y.1/\Int.toNat y.1<x6/\Int.toNat y.1<x6/\(0:Int)<=x5/\x4<y.2.2.2.2.1.2.2.2.1.length/\x4<y.2.2.2.2.1.2.2.2.1.length/\x4<y.2.2.2.2.1.2.2.2.1.length/\x3.ah.length<=(4294967296:Nat)/\x7+x2.length<=(4294967296:Nat)/\vj x now (wrap i64 (y.1+(1:Int)),y.2.1,y.2.2.1,y.2.2.2.1++x2,(y.2.2.2.2.1.1,y.2.2.2.2.1.2.1,y.2.2.2.2.1.2.2.1,y.2.2.2.2.1.2.2.2.1,y.2.2.2.2.1.2.2.2.2.1,y.2.2.2.2.1.2.2.2.2.2.1,y.2.2.2.2.1.2.2.2.2.2.2.1,y.2.2.2.2.1.2.2.2.2.2.2.2.1,PUnit.unit),PUnit.unit)/\ve x now (wrap i64 (y.1+(1:Int)),y.2.1,y.2.2.1,y.2.2.2.1++x2,(y.2.2.2.2.1.1,y.2.2.2.2.1.2.1,y.2.2.2.2.1.2.2.1,y.2.2.2.2.1.2.2.2.1,y.2.2.2.2.1.2.2.2.2.1,y.2.2.2.2.1.2.2.2.2.2.1,y.2.2.2.2.1.2.2.2.2.2.2.1,y.2.2.2.2.1.2.2.2.2.2.2.2.1,PUnit.unit),PUnit.unit)<ve x now y else KP x1/\x6=x7/\(∀(f:aK),f∈y.2.2.2.1->bu f.Kind=true)/\(y.2.2.2.1≠[]->y.2.2.2.2.1.2.2.2.2.2.2.1=(1:Int)\/y.2.2.2.2.1.2.2.2.2.2.2.1=(3:Int)\/y.2.2.2.2.1.2.2.2.2.2.2.1=(5:Int))/\(0:Nat)=(0:Nat)/\dJ [DV.one (Cell.sl Cd.k8 y.2.1)]=dJ [DV.one (Cell.sl Cd.k8 (AP x now))]/\dJ [DV.box [Cell.sl Cd.aJ x0.S.ab,Cell.lit (Value.int IntKind.i64 x0.S.Next),Cell.sl Cd.aE x0.ay,Cell.sl Cd.ax x0.ag,Cell.sl Cd.aI x0.ap,Cell.sl Cd.aL x0.av,Cell.lit (Value.int IntKind.i64 x0.State),Cell.lit (Value.int IntKind.i64 x0.bR)]]=dJ [DV.box [Cell.sl Cd.aJ (og x now).S.ab,Cell.lit (Value.int IntKind.i64 (og x now).S.Next),Cell.sl Cd.aE (og x now).ay,Cell.sl Cd.ax (og x now).ag,Cell.sl Cd.aI (og x now).ap,Cell.sl Cd.aL (og x now).av,Cell.lit (Value.int IntKind.i64 (og x now).State),Cell.lit (Value.int IntKind.i64 (og x now).bR)]]):=by kernel_rfl
theorem Bz(x:aq)(now:Int)(y:Int×T0×Unit)(hp:∀p∈vg.pre (x,now),p)(hb:∀d∈vg.ds (x,now),gW d)(hy:gp x now y):mR EE OO f159 vg OU (x,now) 9 (kN (x,now)) y:=by
 have eV:=nP (x:=x) (hb _ m0)
 have e8:=eV.1
 have gO:=eV.2.1
 have gN:=eV.2.2.1
 have fM:=eV.2.2.2.1
 have gM:=eV.2.2.2.2
 have Ig:=Hs (n:=now) (hb _ m1)
 have bp:KP x:=hp _ m0
 have eN:0<=now/\now<=1000000000:=hp _ m1
 clear hp hb
 rw[aeU x now y]
 dsimp only
 obtain⟨d,hX⟩:=bp
 have hT:=A0 hX eN.1 eN.2
 have hS:=Ed hT eN.1 eN.2
 obtain⟨nw,p,⟨⟩⟩:=y
 obtain⟨rfl,hp⟩:=hy
 have hp:instT p=dG x nw:=hp
 have e1:p.2.2.2.1=(dG x nw).ag:=congrArg aq.ag hp
 have eC:p.2.2.2.1.flatMap (pj nw)=AP x nw:=by rw[e1];rfl
 have eF:p.2.2.2.1.flatMap (lM nw)=jp (dG x nw) nw:=by rw[e1];rfl
 have eS:instT (p.1,p.2.1,p.2.2.1,p.2.2.2.1.map (fU nw),p.2.2.2.2.1,p.2.2.2.2.2.1,p.2.2.2.2.2.2.1,p.2.2.2.2.2.2.2.1,())=pg (dG x nw) nw:=congrArg (fun z=>pg z nw) hp
 have Gd:(jp (dG x nw) nw).length<=30:=xr (yo _ (G8 nw) _) (uA hT.jt).1
 refine⟨by show aW p.2.2.2.1=true;rw[e1];exact hT.jt,eN,⟨eC,eF,by omega,by omega,rfl,eS⟩,?_⟩
 clear eS eF eC e1
 clear hp
 rintro⟨i,calls,failed,facts,q,⟨⟩⟩ ⟨hc,hf,h1,h2,Of,hq⟩
 have hc:calls=AP x nw:=hc
 have hf:failed=jp (dG x nw) nw:=hf
 have h1:0<=i:=h1
 have h2:i<=(failed.length:Int):=h2
 have Of:facts=((jp (dG x nw) nw).take i.toNat).map (G7 (pg (dG x nw) nw).ag):=Of
 have hq:instT q=pg (dG x nw) nw:=hq
 subst hc hf
 have e2:q.2.2.2.1=(pg (dG x nw) nw).ag:=congrArg aq.ag hq
 have e3:q.2.2.2.2.2.2.1=(dG x nw).State:=congrArg aq.State hq
 refine aV ?_ ?_<;>intro g
 ·have g:i<((jp (dG x nw) nw).length:Int):=g
  have hn:i.toNat<(jp (dG x nw) nw).length:=by omega
  have hk:=gJ (z:=ao) hn
  obtain⟨k1,k2⟩:=EY hk
  have P4:=Ak hT.jt eN.1 eN.2 hk
  have hl:=(p6 P4).1
  have key:∀l:List aj,l=(pg (dG x nw) nw).ag->0<=aC l ((jp (dG x nw) nw).getD i.toNat ao)/\(aC l ((jp (dG x nw) nw).getD i.toNat ao)).toNat<l.length/\(l.getD (aC l ((jp (dG x nw) nw).getD i.toNat ao)).toNat aD).F.ah.length<=4294967296/\(l.getD (aC l ((jp (dG x nw) nw).getD i.toNat ao)).toNat aD).F=G7 (pg (dG x nw) nw).ag ((jp (dG x nw) nw).getD i.toNat ao):=by
   rintro l rfl
   refine⟨k1,?_,?_,rfl⟩
   ·have:aC (pg (dG x nw) nw).ag ((jp (dG x nw) nw).getD i.toNat ao)<((pg (dG x nw) nw).ag.length:Int):=k2
    have h0:0<=aC (pg (dG x nw) nw).ag ((jp (dG x nw) nw).getD i.toNat ao):=k1
    omega
   ·exact xr hl (by omega)
  obtain⟨a1,a2,a3,a4⟩:=key _ e2
  have ank:facts.length<=30:=by rw[Of,xt,oc];omega
  have qR:=xH (l:=jp (dG x nw) nw) ao hn
  have e:(i+1).toNat=i.toNat+1:=by omega
  have nx:∀(j:Int)(fs:List aK),j=i+1->fs=((jp (dG x nw) nw).take (i+1).toNat).map (G7 (pg (dG x nw) nw).ag)->vj x nw (j,AP x nw,jp (dG x nw) nw,fs,q,())/\ve x nw (j,AP x nw,jp (dG x nw) nw,fs,q,())<ve x nw (i,AP x nw,jp (dG x nw) nw,facts,q,()):=by
   rintro j fs rfl rfl
   exact⟨⟨rfl,rfl,by omega,by omega,rfl,hq⟩,by show(jp (dG x nw) nw).length-(i+1).toNat<(jp (dG x nw) nw).length-i.toNat;omega⟩
  exact⟨h1,hn,hn,a1,a2,a2,a2,a3,by simp only[fK,fv];omega,nx _ _ (wi (n:=i+1)) (by rw[a4,Of,e,qR,J9];rfl)⟩
 ·have g:¬i<((jp (dG x nw) nw).length:Int):=g
  have ht:(jp (dG x nw) nw).take i.toNat=jp (dG x nw) nw:=Uj (by omega)
  rw[ht] at Of
  have rY:gy q.2.2.2.2.2.2.1 facts (instT q)=og x nw:=by rw[e3,Of,hq];rfl
  refine⟨by show KP (instT q);rw[hq];exact uJ hS,by rw[Of,xt],fun f hm=> ?_,fun eZ=> ?_,rfl,rfl,ll rY⟩
  ·rw[Of] at hm
   obtain⟨k,hk,rfl⟩:=mf.1 hm
   exact zS (Ak hT.jt eN.1 eN.2 hk)
  ·show q.2.2.2.2.2.2.1=1\/q.2.2.2.2.2.2.1=3\/q.2.2.2.2.2.2.1=5
   rw[e3]
   exact GK hT (now:=nw) (fun e=>eZ (by rw[Of,e];rfl))
theorem By(x:aq)(now:Int)(hp:∀p∈vg.pre (x,now),p)(hb:∀d∈vg.ds (x,now),gW d):rC EE OO f159 vg OU (x,now) 9 (kN (x,now)):=by
 have eV:=nP (x:=x) (hb _ m0)
 have e8:=eV.1
 have gO:=eV.2.1
 have gN:=eV.2.2.1
 have fM:=eV.2.2.2.1
 have gM:=eV.2.2.2.2
 have Ig:=Hs (n:=now) (hb _ m1)
 have bp:KP x:=hp _ m0
 have eN:0<=now/\now<=1000000000:=hp _ m1
 clear hp hb
 apply vE (bif x.State==1 then L4 (cR x.ap)/\zq x now (0,qx now x.ap,(x.S.ab,x.S.Next,x.ay,x.ag,Pe now x.ap,x.av,x.State,now,()),())/\∀(y:Int×List aN×T14×PUnit),let x2:={ab:=y.2.2.1.1,Next:=y.2.2.1.2.1:aF};let x3:=(y.2.1.getD y.1.toNat cO).F;let x5:=y.2.1.length;let x1:={S:=x2,ay:=y.2.2.1.2.2.1,ag:=y.2.2.1.2.2.2.1,ap:=y.2.2.1.2.2.2.2.1,av:=y.2.2.1.2.2.2.2.2.1,State:=y.2.2.1.2.2.2.2.2.2.1,bR:=y.2.2.1.2.2.2.2.2.2.2.1:aq};let x4:=(↑x5:Int);let x0:=dj x1 x3;let q0:=gp x now (now,(y.2.2.1.1,y.2.2.1.2.1,y.2.2.1.2.2.1,y.2.2.1.2.2.2.1,y.2.2.1.2.2.2.2.1,y.2.2.1.2.2.2.2.2.1,y.2.2.1.2.2.2.2.2.2.1,y.2.2.1.2.2.2.2.2.2.2.1,()),());let q1:=(wrap i64 (y.1+1),y.2.1,(x0.S.ab,x0.S.Next,x0.ay,x0.ag,x0.ap,x0.av,x0.State,x0.bR,()),());zq x now y->bif decide (y.1<x4) then bif y.2.2.1.2.2.2.2.2.2.1==1 then 0<=y.1/\y.1.toNat<x5/\y.1.toNat<x5/\y.1.toNat<x5/\cz x1/\bm x2=true/\L4 x3.ah.length/\zq x now q1/\y9 x now q1<y9 x now y else q0 else q0 else gp x now (now,(x.S.ab,x.S.Next,x.ay,x.ag,x.ap,x.av,x.State,now,()),()))
 dsimp only
 have hX:=bp
 obtain⟨d,hX⟩:=hX
 have hts:=(BM hX.timers).2
 have fin:∀z:aq,z=dG x now->gp x now (now,HF z,()):=fun z hz=>⟨rfl,hz⟩
 refine bo (fun hs=>⟨by omega,⟨rfl,by omega,by omega,?_,?_⟩,?_⟩) (fun hs=> ?_)
 ·exact uJ (kD (d:=d) (x:=aeH x now) ⟨hX.p_,hX.store,hX.jt,ww _ hX.timers,hX.pf,eN,hX.Lo,hX.bY⟩ hs)
 ·exact(if_pos hs).symm
 ·have h30:(qx now x.ap).length<=30:=xr (Mq _ _) (BM hX.timers).1
  have P4:∀t∈qx now x.ap,bD t.F=true:=fun t ht=>by
   have:=(pF.1 hX.timers).2.1 t (zA.1 ht).1
   simp only[iB,cJ] at this
   exact this.2
  rintro⟨i,l,p,⟨⟩⟩ ⟨rfl,h1,h2,hY,hE⟩
  obtain⟨d',hY⟩:KP (instT p):=hY
  have h1:0<=i:=h1
  have h2:i<=(qx now x.ap).length:=h2
  have hE:kH ((qx now x.ap).drop i.toNat) (instT p)=dG x now:=hE
  refine aV (fun hc=>bo (fun g=> ?_) (fun g=> ?_)) (fun hc=> ?_)
  ·have hc:i<((qx now x.ap).length:Int):=hc
   have hn:i.toNat<(qx now x.ap).length:=by omega
   have g:(instT p).State=1:=g
   have hf:=P4 _ (gJ (z:=cO) hn)
   rw[K0 h1 hc,if_pos g] at hE
   have nx:∀j,j=i+1->zq x now (j,qx now x.ap,HF (dj (instT p) ((qx now x.ap).getD i.toNat cO).F),())/\y9 x now (j,qx now x.ap,HF (dj (instT p) ((qx now x.ap).getD i.toNat cO).F),())<y9 x now (i,qx now x.ap,p,()):=by
    rintro j rfl
    exact⟨⟨rfl,by omega,by omega,⟨d',jv hY.tocoreX g hf⟩,hE⟩,by show(qx now x.ap).length-(i+1).toNat<(qx now x.ap).length-i.toNat;omega⟩
   exact⟨h1,hn,hn,hn,hY.good,hY.store,xr (p6 hf).1 (by omega),nx _ (wi (n:=i+1))⟩
  ·have g:¬(instT p).State=1:=g
   rw[M4 g] at hE
   exact fin _ hE
  ·have hc:¬i<((qx now x.ap).length:Int):=hc
   rw[List.drop_eq_nil_of_le (by omega)] at hE
   exact fin (instT p) hE
 ·exact fin (Gn x now) (if_neg hs).symm
attribute [local irreducible] rC mR in
theorem ae8:Holds EE (159,vg):=by
 refine vx rm func159 vg (by kernel_rfl) OO (xD _) OU 9 kN (by kernel_rfl) (fun x hp hb=> ?_)
 obtain⟨x,now⟩:=x
 refine⟨By x now hp hb,fun(y:Int×T0×Unit) hy=> ?_⟩
 have hy:gp x now y:=hy
 exact Bz x now y hp hb hy
def aiv:HH:=⟨_,ae8⟩
def np(code:List Int)(aM:Int):Int:=if 3+(code.length:Int)/12>aM then aM else 3+(code.length:Int)/12
theorem Ko(code:List Int)(aM:Int):np code aM<=aM:=by unfold np;split<;>omega
theorem xU{c c':ai}{a b:aq}(h1:c=c')(h2:a=b):dJ [DV.box [.sl .byte c.b,CI c.i,CI c.h],DV.box [.sl .aJ a.S.ab,CI a.S.Next,.sl .aE a.ay,.sl .ax a.ag,.sl .aI a.ap,.sl .aL a.av,CI a.State,CI a.bR]]=dJ [DV.box [.sl .byte c'.b,CI c'.i,CI c'.h],DV.box [.sl .aJ b.S.ab,CI b.S.Next,.sl .aE b.ay,.sl .ax b.ag,.sl .aI b.ap,.sl .aL b.av,CI b.State,CI b.bR]]:=by rw[h1,h2]
theorem J4{a a':br}{x x':aq}{c c':ai}(h1:a=a')(h2:x=x')(h3:c=c'):dJ [DV.agg [.lit (.string a.Name),.sl .bE a.aA],DV.agg [.sl .aJ x.S.ab,CI x.S.Next,.sl .aE x.ay,.sl .ax x.ag,.sl .aI x.ap,.sl .aL x.av,CI x.State,CI x.bR]]=dJ [DV.agg [.lit (.string a'.Name),.sl .bE a'.aA],DV.agg [.sl .aJ x'.S.ab,CI x'.S.Next,.sl .aE x'.ay,.sl .ax x'.ag,.sl .aI x'.ap,.sl .aL x'.av,CI x'.State,CI x'.bR]]/\dJ [DV.box [.sl .byte c.b,CI c.i,CI c.h]]=dJ [DV.box [.sl .byte c'.b,CI c'.i,CI c'.h]]:=by subst h1 h2 h3;exact⟨rfl,rfl⟩
abbrev TC:=List Int×Int×Int×Unit
def lr(p:TC):ai:=⟨p.1,p.2.1,p.2.2.1⟩
def UH(c:ai):TC:=(c.b,c.i,c.h,())
theorem zQ{d:br}{x:aq}(hd:fJ d=true)(h:(jw d (allM d.aA x.S.ab) x.ay).isSome=true):wC d x=pY d x (A4 (jw d (allM d.aA x.S.ab) x.ay))/\yk x.S.ab (A4 (jw d (allM d.aA x.S.ab) x.ay))/\(A4 (jw d (allM d.aA x.S.ab) x.ay)).ee.length<=4294967295:=by
 unfold wC
 cases hp:jw d (allM d.aA x.S.ab) x.ay with
 |none=>rw[hp] at h;cases h
 |some m=>
  have:=Hw (fun r hr=>((vG hd).1 r hr).1) (GH hp)
  exact⟨rfl,GG hp,by show m.ee.length<=_;omega⟩
theorem PC{d:br}{x:aq}(h:(jw d (allM d.aA x.S.ab) x.ay).isSome=false):wC d x=x:=by
 unfold wC
 cases hp:jw d (allM d.aA x.S.ab) x.ay with
 |none=>rfl
 |some m=>rw[hp] at h;cases h
theorem Lr{d:br}{x:aq}{c:ai}{i:Int}(h:0<i):n_ d i.toNat x c=n_ d (i-1).toNat (gP d x c) (gQ x c)/\tj d i.toNat x c=tj d (i-1).toNat (gP d x c) (gQ x c):=by
 have e:i.toNat=(i-1).toNat+1:=by omega
 rw[e];exact⟨rfl,rfl⟩
def aou:=bV (α:=(List Int)×Int) (qC (qL .byte) (q1 qI)) [.ro,.ro] (fun(code,aM)=>[L4 code.length]) (fun(code,aM)=>⟨[dI (np code aM)],[],[]⟩)
def apj:HH:=hF aou func14 [] a0 fun x hp hb=>by
 obtain⟨code,aM⟩:=x
 have Od:L9 code.length:=lu (hb _ m0)
 have Ih:=Hs (n:=aM) (hb _ m1)
 have bp:code.length<=4294967296:=hp _ m0
 clear hp hb
 apply vE (let x0:=wrap i64 (3+wrap i64 (Int.tdiv (code.length:Int) 12));(12:Int)≠(0:Int)/\bif decide (x0>aM) then Li aM (np code aM) else Li x0 (np code aM))
 dsimp only
 have e:Int.tdiv (code.length:Int) 12=(code.length:Int)/12:=Int.tdiv_eq_ediv_of_nonneg (by omega)
 rw[e,wi (n:=(code.length:Int)/12),wi]
 refine⟨by decide,aV (fun h=>oM ?_) (fun h=>oM ?_)⟩
 ·rw[np,if_pos h]
 ·rw[np,if_neg h]
def anP:=bV (α:=ai×br×aq) (qC qU (qC (qA .hH) (q1 (qX .cf)))) [.box false,.ro,.box true] (fun(c,d,x)=>[bh c,cH d x,x.bR+30<=1000000000]) (fun(c,d,x)=>⟨[],[],[dU (gQ x c),dX .cf (gP d x c)]⟩)
def aox:HH:=hF anP func99 [nb,L_,Ma,aix,aiw,ag_,FD,aiv,Hy,xo,L8,ahL] a0 fun x hp hb=>by
 obtain⟨c,d,x⟩:=x
 have pU:=QG (x:=c) (hb _ m0)
 have gZ:=kQ (x:=d) (hb _ m1)
 have jX:=gZ.1
 have iS:=gZ.2
 have xw:=nP (x:=x) (hb _ m2)
 have e8:=xw.1
 have gO:=xw.2.1
 have gN:=xw.2.2.1
 have fM:=xw.2.2.2.1
 have gM:=xw.2.2.2.2
 have bp:bh c:=hp _ m0
 have eN:cH d x:=hp _ m1
 have GS:x.bR+30<=1000000000:=hp _ m2
 clear hp hb
 apply vE (let x7:={S:={ab:={τ:=Cd.aJ,xs:=x.S.ab:fu UU}.xs,Next:=x.S.Next:aF},ay:={τ:=Cd.aE,xs:=x.ay:fu UU}.xs,ag:={τ:=Cd.ax,xs:=x.ag:fu UU}.xs,ap:={τ:=Cd.aI,xs:=x.ap:fu UU}.xs,av:={τ:=Cd.aL,xs:=x.av:fu UU}.xs,State:=x.State,bR:=x.bR:aq};let x8:=dj x (cV (aa c 8));let pE:=[0,1,5,30];let NH:=A4 (jw d (allM d.aA x.S.ab) x.ay);let Mh:=(x.ag.length:Int);let x3:=pY d x NH;let qk:=pE.length;let gK:=aa (aa c 8) Mh;let vp:=bg (x.ag.getD (Int.toNat (af (aa c 8) Mh)) aD).F;let mG:=aa gK 3;let ly:=(↑qk:Int);let x2:=wrap i64 (x.bR+pE.getD (Int.toNat (af (aa c 8) ly)) 0);let x4:=aa (aa c 8) ly;let x6:=ed mG;let x9:=gL mG;let x0:=og x x2;let x5:={K:=x6.K,N:=x6.N,S:=x6.S:aS};let x1:=(cm x7 vp (!bP gK 3) x5).1.S;let q0:=(0:Nat)=(0:Nat)/\LM [] [] [bU x9,DV.box [CL .aJ x1.ab,CI x1.Next,CL .aE (cm x7 vp (!bP gK 3) x5).1.ay,CL .ax (cm x7 vp (!bP gK 3) x5).1.ag,CL .aI (cm x7 vp (!bP gK 3) x5).1.ap,CL .aL (cm x7 vp (!bP gK 3) x5).1.av,CI ((cm x7 vp (!bP gK 3) x5).1.State),CI ((cm x7 vp (!bP gK 3) x5).1.bR)]] [bU (gQ x c),DV.box (aG (gP d x c))];let q1:=bif !decide (x.State=2\/x.State=4\/x.State=6) then 0<=(aa c 8).i/\(aa c 8).b.length<=4294967296/\1<=qk/\KP x/\(0<=x2/\x2<=1000000000)/\(0:Nat)=(0:Nat)/\LM [] [] [bU x4,DV.box (aG x0)] [bU (gQ x c),DV.box (aG (gP d x c))] else(0:Nat)=(0:Nat)/\LM [] [] [bU (aa c 8),DV.box (aG x)] [bU (gQ x c),DV.box (aG (gP d x c))];let q2:=bif x.State==1 then fJ d=true/\x.S.ab.length<=40/\bif Option.isSome (jw d (allM d.aA x.S.ab) x.ay) then cH d x/\x.State=1/\yk x.S.ab NH/\NH.ee.length<=4294967295/\(0:Nat)=(0:Nat)/\LM [] [] [bU (aa c 8),DV.box (aG x3)] [bU (gQ x c),DV.box (aG (gP d x c))] else(0:Nat)=(0:Nat)/\LM [] [] [bU (aa c 8),DV.box (aG x)] [bU (gQ x c),DV.box (aG (gP d x c))] else(0:Nat)=(0:Nat)/\LM [] [] [bU (aa c 8),DV.box (aG x)] [bU (gQ x c),DV.box (aG (gP d x c))];let q3:=(0:Nat)=(0:Nat)/\LM [] [] [bU (aa c 8),DV.box (aG x)] [bU (gQ x c),DV.box (aG (gP d x c))];let q4:=(aB x7.ag vp (!bP gK 3) x5).2=1->x.State=1\/x.State=3\/x.State=5;let q5:=bif af c (8:Int)==(5:Int) then bif af c (8:Int)==(5:Int) then q1 else bif decide (Mh>0) then 0<=(aa c 8).i/\(aa c 8).b.length<=4294967296/\0<=af (aa c 8) Mh/\Int.toNat (af (aa c 8) Mh)<x.ag.length/\Int.toNat (af (aa c 8) Mh)<x.ag.length/\Int.toNat (af (aa c 8) Mh)<x.ag.length/\bh gK/\bh mG/\cz x/\bm x.S=true/\bB x6=true/\q4/\q0 else q3 else bif af c (8:Int)==(6:Int) then q1 else bif decide (Mh>0) then 0<=(aa c 8).i/\(aa c 8).b.length<=4294967296/\0<=af (aa c 8) Mh/\Int.toNat (af (aa c 8) Mh)<x.ag.length/\Int.toNat (af (aa c 8) Mh)<x.ag.length/\Int.toNat (af (aa c 8) Mh)<x.ag.length/\bh gK/\bh mG/\cz x/\bm x.S=true/\bB x6=true/\q4/\q0 else q3;let q6:=bif x.State==1 then bh (aa c 8)/\cz x/\bm x.S=true/\(cV (aa c 8)).ah.length<=4294967296/\(0:Nat)=(0:Nat)/\LM [] [] [bU (cW (aa c 8)),DV.box (aG x8)] [bU (gQ x c),DV.box (aG (gP d x c))] else q3;let q7:=bif af c (8:Int)==(2:Int) then bif af c (8:Int)==(2:Int) then q2 else q5 else bif af c (8:Int)==(3:Int) then bif af c (8:Int)==(3:Int) then q2 else q5 else bif af c (8:Int)==(4:Int) then q2 else q5;0<=c.i/\L4 c.b.length/\bif af c (8:Int)==(0:Int) then bif af c (8:Int)==(0:Int) then q6 else q7 else bif af c (8:Int)==(1:Int) then q6 else q7)
 dsimp only
 have hb:=bx (c:=c) (n:=8) (by omega)
 have h8:=au bp 8
 have hg:=eN.good
 have hf:=(p6 (oy (aa c 8))).1
 have h40:=(ju eN.store).2.2.1
 have ht:=NL (aa c 8)
 have aeb:=eN.now
 have hw:∀n:Int,n=gU (aa c 8) sU->IntKind.wrap .i64 (x.bR+n)=x.bR+gU (aa c 8) sU:=by
  rintro n rfl;exact wi
 have hk:0<x.ag.length->0<=af (aa c 8) x.ag.length/\(af (aa c 8) x.ag.length).toNat<x.ag.length:=fun h=>by
  have:=bx (c:=aa c 8) (n:=x.ag.length) (by omega);omega
 have hd1:=au h8 x.ag.length
 have hd2:=au hd1 3
 have hv:=pz (aa (aa (aa c 8) x.ag.length) 3)
 have jo:∀key ok v,(aB x.ag key ok v).2=1->x.State=1\/x.State=3\/x.State=5:=fun key ok v h=>pP (pA.2 eN) h
 refine⟨bp.1,bp.2,?_⟩
 by_cases k1:af c 8=0\/af c 8=1
 ·have e1:gP d x c=if x.State=1 then dj x (cV (aa c 8)) else x:=if_pos k1
  have e2:gQ x c=if x.State=1 then cW (aa c 8) else aa c 8:=if_pos k1
  repeat' (refine bo (fun _=> ?_) (fun _=> ?_))
  all_goals first
   |(exfalso;omega)
   |(rename_i hs;rw[if_pos hs] at e1 e2;exact⟨h8,hg,eN.store,by omega,rfl,rfl,rfl,xU e2.symm e1.symm⟩)
   |(rename_i hs;rw[if_neg hs] at e1 e2;exact⟨rfl,rfl,rfl,xU e2.symm e1.symm⟩)
 by_cases k2:af c 8=2\/af c 8=3\/af c 8=4
 ·have e1:gP d x c=if x.State=1 then wC d x else x:=(if_neg k1).trans (if_pos k2)
  have e2:gQ x c=aa c 8:=(if_neg k1).trans (if_pos k2)
  repeat' (refine bo (fun _=> ?_) (fun _=> ?_))
  all_goals first
   |(exfalso;omega)
   |(rename_i hs;rw[if_pos hs] at e1
     exact⟨eN.p_,by omega,ae (fun h=>⟨eN,hs,(zQ eN.p_ h).2.1,(zQ eN.p_ h).2.2,rfl,rfl,rfl,xU e2.symm ((zQ eN.p_ h).1.symm.trans e1.symm)⟩) (fun h=>⟨rfl,rfl,rfl,xU e2.symm ((PC h).symm.trans e1.symm)⟩)⟩)
   |(rename_i hs;rw[if_neg hs] at e1;exact⟨rfl,rfl,rfl,xU e2.symm e1.symm⟩)
 by_cases k3:af c 8=5\/af c 8=6
 ·have e1:gP d x c=if mS x=true then x else og x (x.bR+gU (aa c 8) sU):=(if_neg k1).trans ((if_neg k2).trans (if_pos k3))
  have e2:gQ x c=if mS x=true then aa c 8 else ku (aa c 8) sU:=(if_neg k1).trans ((if_neg k2).trans (if_pos k3))
  repeat' (refine bo (fun _=> ?_) (fun _=> ?_))
  all_goals first
   |(exfalso;omega)
   |(refine bC ?_ ?_<;>intro h
     ·rw[if_neg (by rw[show mS x=false from h];decide)] at e1 e2
      exact⟨h8.1,h8.2,by decide,uJ eN,(by rw[hw (List.getD [0,1,5,30] (af (aa c 8) (([0,1,5,30]:List Int).length:Int)).toNat 0) rfl];omega),rfl,rfl,rfl,xU e2.symm ((congrArg (og x) (hw _ rfl)).trans e1.symm)⟩
     ·rw[if_pos (show mS x=true from h)] at e1 e2
      exact⟨rfl,rfl,rfl,xU e2.symm e1.symm⟩)
 ·have e1:gP d x c=if 0<x.ag.length then(cm x (Xt x (aa c 8)) (!bP (Qe x (aa c 8)) 3) (ed (aa (Qe x (aa c 8)) 3))).1 else x:=(if_neg k1).trans ((if_neg k2).trans (if_neg k3))
  have e2:gQ x c=if 0<x.ag.length then gL (aa (Qe x (aa c 8)) 3) else aa c 8:=(if_neg k1).trans ((if_neg k2).trans (if_neg k3))
  repeat' (refine bo (fun _=> ?_) (fun _=> ?_))
  all_goals first
   |(exfalso;omega)
   |(refine aV ?_ ?_<;>intro h
     ·have h:0<x.ag.length:=by omega
      rw[if_pos h] at e1 e2
      obtain⟨j1,j2⟩:=hk h
      exact⟨h8.1,h8.2,j1,j2,j2,j2,hd1,hd2,hg,eN.store,hv,jo _ _ _,rfl,rfl,rfl,xU e2.symm e1.symm⟩
     ·rw[if_neg (by omega)] at e1 e2
      exact⟨rfl,rfl,rfl,xU e2.symm e1.symm⟩)
def afF:=bV (α:=ai×Int) (qC qU (q1 qI)) [.box false,.ro] (fun(c,aM)=>[bh c,aM<=1000]) (fun(c,aM)=>⟨[dA .hH (cD c),dA .cf (instD c aM)],[false,true],[dU (instDC c aM)]⟩)
def Fz(c:ai)(aM:Int):Int×T2×T0×T2×T0×T4×Unit->Prop:=fun(i,r,q,d,p,cu,_)=>d=((cD c).Name,(cD c).aA,())/\0<=i/\i<=1000/\bh ⟨cu.1,cu.2.1,cu.2.2.1⟩/\cH (cD c) (instT p)/\(instT p).bR+30*i<=1000000000/\n_ (cD c) i.toNat (instT p) ⟨cu.1,cu.2.1,cu.2.2.1⟩=Ao c aM/\tj (cD c) i.toNat (instT p) ⟨cu.1,cu.2.1,cu.2.2.1⟩=Iz c aM
def Fs(c:ai)(aM:Int):Int×T2×T0×T2×T0×T4×Unit->Nat:=fun(i,r,q,d,p,cu,_)=>i.toNat
def apQ:AX afF:=fun(c,aM)=>b_ [(4,aY [iI 8,.box 4 (4,1024) [.lit .str,.own .bE true],.box 5 (5,1024) [.own .aJ true,.lit (.int .i64),.own .aE true,.own .ax true,.own .aI true,.own .aL true,.lit (.int .i64),.lit (.int .i64)],.box 6 (6,1024) [.lit .str,.shr .bE],.box 7 (7,1024) [.own .aJ true,.lit (.int .i64),.own .aE true,.own .ax true,.own .aI true,.own .aL true,.lit (.int .i64),.lit (.int .i64)],.box 0 (2000000,0) [.shr .byte,.lit (.int .i64),.lit (.int .i64)]] (fun _=>Fz c aM) (Fs c aM))]
def ao7:HH:=hF afF func40 [ag7,aoy,FD,nb,aox,xo,Md] apQ fun x hp hb=>by
 obtain⟨c,aM⟩:=x
 have pU:=QG (x:=c) (hb _ m0)
 have Ih:=Hs (n:=aM) (hb _ m1)
 have bp:bh c:=hp _ m0
 have eN:aM<=1000:=hp _ m1
 clear hp hb
 apply vE (let x1:=List.length [0,0,7];let x0:=aa (jq c) (↑x1:Int);let q0:=instNew (List.getD [0,0,7] (Int.toNat (af (jq c) (↑x1:Int))) 0);let q1:=List bN×Int×List aw×List aj×List aN×List bq×Int×Int×PUnit;let q2:=aG (instD c aM);bh c/\0<=(jq c).i/\(jq c).b.length<=4294967296/\1<=x1/\0<=x0.i/\L4 x0.b.length/\Fz c aM (af x0 aM,({data:= #[]:BA},[],()),([],0,[],[],[],[],0,0,()),((cD c).Name,(cD c).aA,()),(q0.S.ab,q0.S.Next,q0.ay,q0.ag,q0.ap,q0.av,q0.State,q0.bR,()),((aa x0 aM).b,(aa x0 aM).i,(aa x0 aM).h,()),())/\∀(y:Int×T9×q1×T9×q1×OX×PUnit),let x4:={S:={ab:=y.2.2.2.2.1.1,Next:=y.2.2.2.2.1.2.1:aF},ay:=y.2.2.2.2.1.2.2.1,ag:=y.2.2.2.2.1.2.2.2.1,ap:=y.2.2.2.2.1.2.2.2.2.1,av:=y.2.2.2.2.1.2.2.2.2.2.1,State:=y.2.2.2.2.1.2.2.2.2.2.2.1,bR:=y.2.2.2.2.1.2.2.2.2.2.2.2.1:aq};let x5:={b:=y.2.2.2.2.2.1.1,i:=y.2.2.2.2.2.1.2.1,h:=y.2.2.2.2.2.1.2.2.1:ai};let x6:={Name:=y.2.2.2.1.1,aA:=y.2.2.2.1.2.1:br};let x2:=gP x6 x4 x5;let x3:=gq x4 5;let q3:=(wrap i64 (y.1-1),(y.2.1.1,y.2.1.2.1,()),(y.2.2.1.1,y.2.2.1.2.1,y.2.2.1.2.2.1,y.2.2.1.2.2.2.1,y.2.2.1.2.2.2.2.1,y.2.2.1.2.2.2.2.2.1,y.2.2.1.2.2.2.2.2.2.1,y.2.2.1.2.2.2.2.2.2.2.1,()),(y.2.2.2.1.1,y.2.2.2.1.2.1,()),(x2.S.ab,x2.S.Next,x2.ay,x2.ag,x2.ap,x2.av,x2.State,x2.bR,()),((gQ x4 x5).b,(gQ x4 x5).i,(gQ x4 x5).h,()),());Fz c aM y->bif decide (y.1>0) then bh x5/\cH x6 x4/\y.2.2.2.2.1.2.2.2.2.2.2.2.1+(30:Int)<=(1000000000:Int)/\Fz c aM q3/\Fs c aM q3<Fs c aM y else bif y.2.2.2.2.1.2.2.2.2.2.2.1==1 then bh x5/\bif bP x5 10 then cz x4/\((5:Int)=(3:Int)\/(5:Int)=(5:Int))/\LM [DV.agg [CS y.2.2.2.1.1,CL .bE y.2.2.2.1.2.1],DV.agg (aG x3)] [DV.agg [CS ((cD c).Name),CL .bE (cD c).aA],DV.agg q2] [bU (aa x5 10)] [bU (instDC c aM)] else LM [DV.agg [CS y.2.2.2.1.1,CL .bE y.2.2.2.1.2.1],DV.agg [CL .aJ y.2.2.2.2.1.1,CI y.2.2.2.2.1.2.1,CL .aE y.2.2.2.2.1.2.2.1,CL .ax y.2.2.2.2.1.2.2.2.1,CL .aI y.2.2.2.2.1.2.2.2.2.1,CL .aL y.2.2.2.2.1.2.2.2.2.2.1,CI y.2.2.2.2.1.2.2.2.2.2.2.1,CI y.2.2.2.2.1.2.2.2.2.2.2.2.1]] [DV.agg [CS ((cD c).Name),CL .bE (cD c).aA],DV.agg q2] [bU (aa x5 10)] [bU (instDC c aM)] else LM [DV.agg [CS y.2.2.2.1.1,CL .bE y.2.2.2.1.2.1],DV.agg [CL .aJ y.2.2.2.2.1.1,CI y.2.2.2.2.1.2.1,CL .aE y.2.2.2.2.1.2.2.1,CL .ax y.2.2.2.2.1.2.2.2.1,CL .aI y.2.2.2.2.1.2.2.2.2.1,CL .aL y.2.2.2.2.1.2.2.2.2.2.1,CI y.2.2.2.2.1.2.2.2.2.2.2.1,CI y.2.2.2.2.1.2.2.2.2.2.2.2.1]] [DV.agg [CS ((cD c).Name),CL .bE (cD c).aA],DV.agg q2] [DV.box [CL .byte y.2.2.2.2.2.1.1,CI y.2.2.2.2.2.1.2.1,CI y.2.2.2.2.2.1.2.2.1]] [bU (instDC c aM)])
 dsimp only
 have hk:=yO bp
 have h1:=Oz bp
 have h2:=au h1 aM
 have hn:=QS c
 have hb:0<=af (Ap c) aM/\af (Ap c) aM<=1000:=by
  by_cases h:0<aM
  ·have:=bx (c:=Ap c) h;omega
  ·unfold af;rw[if_pos (by omega)];omega
 refine⟨bp,hk.1,hk.2,by decide,h1.1,h1.2,⟨rfl,hb.1,hb.2,h2,Kw c,?_,rfl,rfl⟩,?_⟩
 ·show(Lz c).bR+30*af (Ap c) aM<=1000000000
  omega
 clear hk h1 h2 hn hb
 rintro⟨i,r,q,d,p,cu,⟨⟩⟩ ⟨hd,g1,g2,gc,gX,gn,gE,gC⟩
 have hd:d=((cD c).Name,(cD c).aA,()):=hd
 subst hd
 have g1:0<=i:=g1
 have g2:i<=1000:=g2
 have gc:bh (lr cu):=gc
 have gX:cH (cD c) (instT p):=gX
 have gn:(instT p).bR+30*i<=1000000000:=gn
 have gE:n_ (cD c) i.toNat (instT p) (lr cu)=Ao c aM:=gE
 have gC:tj (cD c) i.toNat (instT p) (lr cu)=Iz c aM:=gC
 refine aV ?_ ?_<;>intro hc
 ·have hc:0<i:=hc
  obtain⟨e1,e2,e3⟩:=A2 (c:=lr cu) gX (by omega)
  have es:=Lr (d:=cD c) (x:=instT p) (c:=lr cu) hc
  rw[es.1] at gE
  rw[es.2] at gC
  have nx:∀j,j=i-1->Fz c aM (j,r,q,((cD c).Name,(cD c).aA,()),HF (gP (cD c) (instT p) (lr cu)),UH (gQ (instT p) (lr cu)),())/\Fs c aM (j,r,q,((cD c).Name,(cD c).aA,()),HF (gP (cD c) (instT p) (lr cu)),UH (gQ (instT p) (lr cu)),())<Fs c aM (i,r,q,((cD c).Name,(cD c).aA,()),p,cu,()):=by
   rintro j rfl
   exact⟨⟨rfl,by omega,by omega,Ho gc,e1,by show(gP (cD c) (instT p) (lr cu)).bR+30*(i-1)<=1000000000;omega,gE,gC⟩,by show(i-1).toNat<i.toNat;omega⟩
  exact⟨gc,gX,by show(instT p).bR+30<=1000000000;omega,nx _ (wi (n:=i-1))⟩
 ·have hc:¬0<i:=hc
  have e:i.toNat=0:=by omega
  rw[e] at gE gC
  have gE:instT p=Ao c aM:=gE
  have gC:lr cu=Iz c aM:=gC
  have fin:∀(x':aq)(c':ai),x'=instD c aM->c'=instDC c aM->dJ [DV.agg [.lit (.string (cD c).Name),.sl .bE (cD c).aA],DV.agg [.sl .aJ x'.S.ab,.lit (.int .i64 x'.S.Next),.sl .aE x'.ay,.sl .ax x'.ag,.sl .aI x'.ap,.sl .aL x'.av,.lit (.int .i64 x'.State),.lit (.int .i64 x'.bR)]]=dJ [DV.agg [.lit (.string (cD c).Name),.sl .bE (cD c).aA],DV.agg [.sl .aJ (instD c aM).S.ab,.lit (.int .i64 (instD c aM).S.Next),.sl .aE (instD c aM).ay,.sl .ax (instD c aM).ag,.sl .aI (instD c aM).ap,.sl .aL (instD c aM).av,.lit (.int .i64 (instD c aM).State),.lit (.int .i64 (instD c aM).bR)]]/\dJ [DV.box [.sl .byte c'.b,.lit (.int .i64 c'.i),.lit (.int .i64 c'.h)]]=dJ [DV.box [.sl .byte (instDC c aM).b,.lit (.int .i64 (instDC c aM).i),.lit (.int .i64 (instDC c aM).h)]]:=fun _ _ h1 h2=>J4 rfl h1 h2
  refine bo (fun hs=>⟨gc,ae (fun ho=>⟨gX.good,.inr rfl,rfl,?_⟩) (fun ho=>⟨rfl,?_⟩)⟩) (fun hs=>⟨rfl,?_⟩)
  ·have hs:(Ao c aM).State=1:=by rw[<-gE];exact hs
   have ho:bP (Iz c aM) 10=true:=by rw[<-gC];exact ho
   exact fin (gq (instT p) 5) (aa (lr cu) 10) (by rw[instD,if_pos ⟨hs,ho⟩,gE]) (by rw[instDC,if_pos hs,gC])
  ·have hs:(Ao c aM).State=1:=by rw[<-gE];exact hs
   have ho:¬bP (Iz c aM) 10=true:=by rw[<-gC];exact fun c=>absurd (ho.symm.trans c) (by decide)
   exact fin (instT p) (aa (lr cu) 10) (by rw[instD,if_neg (fun c=>ho c.2),gE]) (by rw[instDC,if_pos hs,gC])
  ·have hs:¬(Ao c aM).State=1:=by rw[<-gE];exact hs
   exact fin (instT p) (lr cu) (by rw[instD,if_neg (fun c=>hs c.1),gE]) (by rw[instDC,if_neg hs,gC])
def Yc:=bV (α:=ai) (q1 qU) [.box false] (fun c=>[bh c]) (fun c=>⟨[dA .du (qq c)],[],[dU (qN c)]⟩)
def Dq(c:ai):OY×OY×T4×Unit->Prop:=fun(r,p,cu,_)=>p.1=(um c).Kind/\p.2.2.1=(um c).Not/\bh ⟨cu.1,cu.2.1,cu.2.2.1⟩/\p.2.1.length<=6/\mE p.2.1 ⟨cu.1,cu.2.1,cu.2.2.1⟩=mE (um c).az (FN c)
def Ji(c:ai):OY×OY×T4×Unit->Nat:=fun(r,p,cu,_)=>6-p.2.1.length
def ajI:AX Yc:=fun c=>b_ [(8,aY [.box 2 (2,1024) [.lit .str,.own .gB true,.lit .bool],.box 3 (3,1024) [.lit .str,.own .gB true,.lit .bool],.box 0 (2000000,0) [.shr .byte,.lit (.int .i64),.lit (.int .i64)]] (fun _=>Dq c) (Ji c))]
def ait:HH:=hF Yc func166 [xo,YK,nb,rJ,OQ] ajI fun(c:ai) hp hb=>by
 have bp:bh c:=hp _ m0
 clear hp hb
 apply vE (let x7:=pt (bP c 3) (aa c 3);let x9:={data:= #[]:BA};let mG:=jx (aa c 3);let x3:=[x9,{data:= #[(120:UInt8)]:BA},{data:= #[(88:UInt8)]:BA}];let x4:=[x9,{data:= #[(65:UInt8)]:BA},{data:= #[(120:UInt8)]:BA}];let x5:=aa mG 10;let x6:=x7.az;let x8:=af mG 10;let x0:=bT (aa x5 5) x3;let x1:=bT x5 x4;let x2:=[{K:=af x5 5,S:=cx (aa x5 5) x3,V:={K:=(0:Int),N:=(0:Int),S:=x9:aS}:cI}];let q0:=(qq c).Kind;bh c/\bh (aa c 3)/\0<=mG.i/\L4 mG.b.length/\bif x8==0 then bh x5/\1<=x4.length/\LM [DV.agg [CS (cx x5 x4),CL .gB x6,CO x7.Not]] [DV.agg [CS q0,CL .gB (qq c).az,CO ((qq c).Not)]] [bU x1] [bU (qN c)] else bif x8==1 then 0<=x5.i/\L4 x5.b.length/\bh (aa x5 5)/\1<=x3.length/\L4 (x6.length+x2.length)/\LM [DV.agg [CS x7.Kind,CL .gB (x6++x2),CO x7.Not]] [DV.agg [CS q0,CL .gB (qq c).az,CO ((qq c).Not)]] [bU x0] [bU (qN c)] else bif x8==2 then Dq c ((x9,[],false,()),(x7.Kind,x6,x7.Not,()),(x5.b,x5.i,x5.h,()),())/\∀(y:T18×T18×OX×PUnit),let gK:={b:=y.2.2.1.1,i:=y.2.2.1.2.1,h:=y.2.2.1.2.2.1:ai};let vp:=y.2.1.2.1.length;let ly:=aa gK 2;let qk:=wrap i64 (5+af gK 2);let pE:=(↑vp:Int);let q1:=((y.1.1,y.1.2.1,y.1.2.2.1,()),(y.2.1.1,y.2.1.2.1++[ij ly],y.2.1.2.2.1,()),((gV ly).b,(gV ly).i,(gV ly).h,()),());Dq c y->0<=y.2.2.1.2.1/\L4 y.2.2.1.1.length/\bif decide (pE<qk) then bh ly/\vp+List.length [ij ly]<=4294967296/\Dq c q1/\Ji c q1<Ji c y else LM [DV.agg [CS y.2.1.1,CL .gB y.2.1.2.1,CO y.2.1.2.2.1]] [DV.agg [CS q0,CL .gB (qq c).az,CO ((qq c).Not)]] [bU ly] [bU (qN c)] else LM [DV.agg [CS x7.Kind,CL .gB x6,CO x7.Not]] [DV.agg [CS q0,CL .gB (qq c).az,CO ((qq c).Not)]] [bU x5] [bU (qN c)])
 dsimp only
 have h3:=au bp 3
 have hk:=qc h3
 have he:=ID bp
 have hpo:=(wW (xT (bP c 3) (aa c 3))).1
 have Bb:(um c).az.length<=5:=hpo
 refine⟨bp,h3,hk.1,hk.2,bo (fun k=> ?_) (fun k0=>bo (fun k=> ?_) (fun k1=>bo (fun k=> ?_) (fun k2=> ?_)))⟩
 ·have e1:qq c=⟨cx (FN c) tZ,(um c).az,(um c).Not⟩:=if_pos k
  have e2:qN c=bT (FN c) tZ:=if_pos k
  exact⟨he,by decide,rfl,LdP e1.symm e2.symm⟩
 ·have e1:qq c=⟨(um c).Kind,(um c).az++[paA c],(um c).Not⟩:=(if_neg k0).trans (if_pos k)
  have e2:qN c=bT (aa (FN c) 5) Q8:=(if_neg k0).trans (if_pos k)
  exact⟨he.1,he.2,au he 5,by decide,by simp only[fK,fv];omega,rfl,LdP e1.symm e2.symm⟩
 ·have e1:qq c=⟨(um c).Kind,(mE (um c).az (FN c)).1,(um c).Not⟩:=(if_neg k0).trans ((if_neg k1).trans (if_pos k))
  have e2:qN c=(mE (um c).az (FN c)).2:=(if_neg k0).trans ((if_neg k1).trans (if_pos k))
  refine⟨⟨rfl,rfl,he,by show(um c).az.length<=6;omega,rfl⟩,?_⟩
  rintro⟨r,p,cu,⟨⟩⟩ ⟨hK,hN,Ge,hlen,hF⟩
  have hK:p.1=(um c).Kind:=hK
  have hN:p.2.2.1=(um c).Not:=hN
  have Ge:bh (lr cu):=Ge
  have hlen:p.2.1.length<=6:=hlen
  have hF:mE p.2.1 (lr cu)=mE (um c).az (FN c):=hF
  have hb:=bx (c:=lr cu) (n:=2) (by omega)
  have hw:IntKind.wrap .i64 (5+af (lr cu) 2)=5+af (lr cu) 2:=wi
  refine⟨Ge.1,Ge.2,aV (fun g=> ?_) (fun g=> ?_)⟩
  ·have g:(p.2.1.length:Int)<5+af (lr cu) 2:=hw▸g
   rw[G6 g] at hF
   exact⟨au Ge 2,by show p.2.1.length+1<=4294967296;omega,⟨hK,hN,ra (au Ge 2),by show(p.2.1++[ij (aa (lr cu) 2)]).length<=6;simp only[ko,fK,fv];omega,hF⟩,by show 6-(p.2.1++[ij (aa (lr cu) 2)]).length<6-p.2.1.length;simp only[ko,fK,fv];omega⟩
  ·have g:¬(p.2.1.length:Int)<5+af (lr cu) 2:=hw▸g
   rw[Ln g] at hF
   exact⟨rfl,LdP (a:=⟨p.1,p.2.1,p.2.2.1⟩) (d:=aa (lr cu) 2) (by rw[e1,<-hF,hK,hN]) (by rw[e2,<-hF])⟩
 ·have e1:qq c=um c:=(if_neg k0).trans ((if_neg k1).trans (if_neg k2))
  have e2:qN c=FN c:=(if_neg k0).trans ((if_neg k1).trans (if_neg k2))
  exact⟨rfl,LdP e1.symm e2.symm⟩
def o6(c:ai):dy:=yM c
def A'(c:ai):ai:=rG c
def aaw(p:Int×Int×BA×Int×Int×BA×Int×BA×Int×Int×BA×Unit):dy:=⟨p.1,⟨p.2.1,p.2.2.1,⟨p.2.2.2.1,p.2.2.2.2.1,p.2.2.2.2.2.1⟩⟩,⟨p.2.2.2.2.2.2.1,p.2.2.2.2.2.2.2.1,⟨p.2.2.2.2.2.2.2.2.1,p.2.2.2.2.2.2.2.2.2.1,p.2.2.2.2.2.2.2.2.2.2.1⟩⟩⟩
def akk(x:dy):Int×Int×BA×Int×Int×BA×Int×BA×Int×Int×BA×Unit:=(x.Op,x.L.K,x.L.S,x.L.V.K,x.L.V.N,x.L.V.S,x.R.K,x.R.S,x.R.V.K,x.R.V.N,x.R.V.S,())
theorem WM{a a':dy}{d d':ai}(h1:a=a')(h2:d=d'):dJ [DV.agg [CI a.Op,CI a.L.K,.lit (.string a.L.S),CI a.L.V.K,CI a.L.V.N,.lit (.string a.L.V.S),CI a.R.K,.lit (.string a.R.S),CI a.R.V.K,CI a.R.V.N,.lit (.string a.R.V.S)]]=dJ [DV.agg [CI a'.Op,CI a'.L.K,.lit (.string a'.L.S),CI a'.L.V.K,CI a'.L.V.N,.lit (.string a'.L.V.S),CI a'.R.K,.lit (.string a'.R.S),CI a'.R.V.K,CI a'.R.V.N,.lit (.string a'.R.V.S)]]/\dJ [DV.box [.sl .byte d.b,CI d.i,CI d.h]]=dJ [DV.box [.sl .byte d'.b,CI d'.i,CI d'.h]]:=by subst h1 h2;exact⟨rfl,rfl⟩
def agm:=bV (α:=ai) (q1 qU) [.box false] (fun c=>[bh c]) (fun c=>⟨[dA .ca (o6 c)],[],[dU (A' c)]⟩)
def ah6:HH:=hF agm func200 [nb,TO] a0 fun(c:ai) hp hb=>by
 have bp:bh c:=hp _ m0
 clear hp hb
 apply vE (let x1:=(eg (aa c 3)).V;let x2:=eg (cY (aa c 3));let x3:=cY (cY (aa c 3));let x0:=x2.V;let q0:=aa c 3;0<=c.i/\L4 c.b.length/\bh q0/\bh (cY q0)/\LM [DV.agg [CI (wrap i64 (1+af c 3)),CI ((eg q0).K),CS ((eg q0).S),CI x1.K,CI x1.N,CS x1.S,CI x2.K,CS x2.S,CI x0.K,CI x0.N,CS x0.S]] [DV.agg [CI ((o6 c).Op),CI ((o6 c).L.K),CS ((o6 c).L.S),CI ((o6 c).L.V.K),CI ((o6 c).L.V.N),CS ((o6 c).L.V.S),CI ((o6 c).R.K),CS ((o6 c).R.S),CI ((o6 c).R.V.K),CI ((o6 c).R.V.N),CS ((o6 c).R.V.S)]] [bU x3] [bU (A' c)])
 dsimp only
 have hb:=bx (c:=c) (n:=3) (by omega)
 have h3:=au bp 3
 rw[wi]
 exact⟨bp.1,bp.2,h3,qb h3,by trivial,rfl,rfl⟩
def vf:=bV (α:=ai) (q1 qU) [.box false] (fun c=>[bh c]) (fun c=>⟨[dA .ca (dt c)],[],[dU (io c)]⟩)
def OT:AX vf:=fun c=>b_ []
def ON:=us [ah6,nb,OQ]
def kU(c:ai):T6×T6×T4×Unit->Prop:=fun(r,p,cu,_)=>aaw p=o6 c/\lr cu=A' c
def mU:vf.α->ul UU:=fun c=>aY [.box 2 (2,1024) [.lit (.int .i64),.lit (.int .i64),.lit .str,.lit (.int .i64),.lit (.int .i64),.lit .str,.lit (.int .i64),.lit .str,.lit (.int .i64),.lit (.int .i64),.lit .str],.box 3 (3,1024) [.lit (.int .i64),.lit (.int .i64),.lit .str,.lit (.int .i64),.lit (.int .i64),.lit .str,.lit (.int .i64),.lit .str,.lit (.int .i64),.lit (.int .i64),.lit .str],.box 0 (2000000,0) [.shr .byte,.lit (.int .i64),.lit (.int .i64)]] (fun _=>kU c) (fun _=>0)
theorem aeT(c:ai)(y:T6×T6×T4×Unit):mR EE ON f167 vf OT c 2 (mU c) y=(let x2:={b:=y.2.2.1.1,i:=y.2.2.1.2.1,h:=y.2.2.1.2.2.1:ai};
let x0:=aa x2 (8:Int);
let x1:=af x2 (8:Int);
(0:Int)<=y.2.2.1.2.1/\y.2.2.1.1.length<=(4294967296:Nat)/\bif x1==(0:Int) then(0:Int)<=x0.i/\x0.b.length<=(4294967296:Nat)/\(0:Nat)=(0:Nat)/\dJ [DV.agg [Cell.lit (Value.int IntKind.i64 (af x0 (6:Int))),Cell.lit (Value.int IntKind.i64 y.2.1.2.1),Cell.lit (Value.string y.2.1.2.2.1),Cell.lit (Value.int IntKind.i64 y.2.1.2.2.2.1),Cell.lit (Value.int IntKind.i64 y.2.1.2.2.2.2.1),Cell.lit (Value.string y.2.1.2.2.2.2.2.1),Cell.lit (Value.int IntKind.i64 y.2.1.2.2.2.2.2.2.1),Cell.lit (Value.string y.2.1.2.2.2.2.2.2.2.1),Cell.lit (Value.int IntKind.i64 y.2.1.2.2.2.2.2.2.2.2.1),Cell.lit (Value.int IntKind.i64 y.2.1.2.2.2.2.2.2.2.2.2.1),Cell.lit (Value.string y.2.1.2.2.2.2.2.2.2.2.2.2.1)]]=dJ [DV.agg [Cell.lit (Value.int IntKind.i64 (dt c).Op),Cell.lit (Value.int IntKind.i64 (dt c).L.K),Cell.lit (Value.string (dt c).L.S),Cell.lit (Value.int IntKind.i64 (dt c).L.V.K),Cell.lit (Value.int IntKind.i64 (dt c).L.V.N),Cell.lit (Value.string (dt c).L.V.S),Cell.lit (Value.int IntKind.i64 (dt c).R.K),Cell.lit (Value.string (dt c).R.S),Cell.lit (Value.int IntKind.i64 (dt c).R.V.K),Cell.lit (Value.int IntKind.i64 (dt c).R.V.N),Cell.lit (Value.string (dt c).R.V.S)]]/\dJ [DV.box [Cell.sl Cd.byte (aa x0 (6:Int)).b,Cell.lit (Value.int IntKind.i64 (aa x0 (6:Int)).i),Cell.lit (Value.int IntKind.i64 (aa x0 (6:Int)).h)]]=dJ [DV.box [Cell.sl Cd.byte (io c).b,Cell.lit (Value.int IntKind.i64 (io c).i),Cell.lit (Value.int IntKind.i64 (io c).h)]] else bif x1==(1:Int) then bh x0/\(0:Nat)=(0:Nat)/\dJ [DV.agg [Cell.lit (Value.int IntKind.i64 y.2.1.1),Cell.lit (Value.int IntKind.i64 (ij x0).K),Cell.lit (Value.string (ij x0).S),Cell.lit (Value.int IntKind.i64 (ij x0).V.K),Cell.lit (Value.int IntKind.i64 (ij x0).V.N),Cell.lit (Value.string (ij x0).V.S),Cell.lit (Value.int IntKind.i64 y.2.1.2.2.2.2.2.2.1),Cell.lit (Value.string y.2.1.2.2.2.2.2.2.2.1),Cell.lit (Value.int IntKind.i64 y.2.1.2.2.2.2.2.2.2.2.1),Cell.lit (Value.int IntKind.i64 y.2.1.2.2.2.2.2.2.2.2.2.1),Cell.lit (Value.string y.2.1.2.2.2.2.2.2.2.2.2.2.1)]]=dJ [DV.agg [Cell.lit (Value.int IntKind.i64 (dt c).Op),Cell.lit (Value.int IntKind.i64 (dt c).L.K),Cell.lit (Value.string (dt c).L.S),Cell.lit (Value.int IntKind.i64 (dt c).L.V.K),Cell.lit (Value.int IntKind.i64 (dt c).L.V.N),Cell.lit (Value.string (dt c).L.V.S),Cell.lit (Value.int IntKind.i64 (dt c).R.K),Cell.lit (Value.string (dt c).R.S),Cell.lit (Value.int IntKind.i64 (dt c).R.V.K),Cell.lit (Value.int IntKind.i64 (dt c).R.V.N),Cell.lit (Value.string (dt c).R.V.S)]]/\dJ [DV.box [Cell.sl Cd.byte (gV x0).b,Cell.lit (Value.int IntKind.i64 (gV x0).i),Cell.lit (Value.int IntKind.i64 (gV x0).h)]]=dJ [DV.box [Cell.sl Cd.byte (io c).b,Cell.lit (Value.int IntKind.i64 (io c).i),Cell.lit (Value.int IntKind.i64 (io c).h)]] else bif x1==(2:Int) then(0:Int)<=x0.i/\x0.b.length<=(4294967296:Nat)/\(0:Nat)=(0:Nat)/\dJ [DV.agg [Cell.lit (Value.int IntKind.i64 y.2.1.1),Cell.lit (Value.int IntKind.i64 y.2.1.2.1),Cell.lit (Value.string y.2.1.2.2.1),Cell.lit (Value.int IntKind.i64 y.2.1.2.2.2.1),Cell.lit (Value.int IntKind.i64 y.2.1.2.2.2.2.1),Cell.lit (Value.string y.2.1.2.2.2.2.2.1),Cell.lit (Value.int IntKind.i64 (af x0 (5:Int))),Cell.lit (Value.string {data:= #[]:BA}),Cell.lit (Value.int IntKind.i64 (0:Int)),Cell.lit (Value.int IntKind.i64 (0:Int)),Cell.lit (Value.string {data:= #[]:BA})]]=dJ [DV.agg [Cell.lit (Value.int IntKind.i64 (dt c).Op),Cell.lit (Value.int IntKind.i64 (dt c).L.K),Cell.lit (Value.string (dt c).L.S),Cell.lit (Value.int IntKind.i64 (dt c).L.V.K),Cell.lit (Value.int IntKind.i64 (dt c).L.V.N),Cell.lit (Value.string (dt c).L.V.S),Cell.lit (Value.int IntKind.i64 (dt c).R.K),Cell.lit (Value.string (dt c).R.S),Cell.lit (Value.int IntKind.i64 (dt c).R.V.K),Cell.lit (Value.int IntKind.i64 (dt c).R.V.N),Cell.lit (Value.string (dt c).R.V.S)]]/\dJ [DV.box [Cell.sl Cd.byte (aa x0 (5:Int)).b,Cell.lit (Value.int IntKind.i64 (aa x0 (5:Int)).i),Cell.lit (Value.int IntKind.i64 (aa x0 (5:Int)).h)]]=dJ [DV.box [Cell.sl Cd.byte (io c).b,Cell.lit (Value.int IntKind.i64 (io c).i),Cell.lit (Value.int IntKind.i64 (io c).h)]] else(0:Nat)=(0:Nat)/\dJ [DV.agg [Cell.lit (Value.int IntKind.i64 y.2.1.1),Cell.lit (Value.int IntKind.i64 y.2.1.2.1),Cell.lit (Value.string y.2.1.2.2.1),Cell.lit (Value.int IntKind.i64 y.2.1.2.2.2.1),Cell.lit (Value.int IntKind.i64 y.2.1.2.2.2.2.1),Cell.lit (Value.string y.2.1.2.2.2.2.2.1),Cell.lit (Value.int IntKind.i64 y.2.1.2.2.2.2.2.2.1),Cell.lit (Value.string y.2.1.2.2.2.2.2.2.2.1),Cell.lit (Value.int IntKind.i64 y.2.1.2.2.2.2.2.2.2.2.1),Cell.lit (Value.int IntKind.i64 y.2.1.2.2.2.2.2.2.2.2.2.1),Cell.lit (Value.string y.2.1.2.2.2.2.2.2.2.2.2.2.1)]]=dJ [DV.agg [Cell.lit (Value.int IntKind.i64 (dt c).Op),Cell.lit (Value.int IntKind.i64 (dt c).L.K),Cell.lit (Value.string (dt c).L.S),Cell.lit (Value.int IntKind.i64 (dt c).L.V.K),Cell.lit (Value.int IntKind.i64 (dt c).L.V.N),Cell.lit (Value.string (dt c).L.V.S),Cell.lit (Value.int IntKind.i64 (dt c).R.K),Cell.lit (Value.string (dt c).R.S),Cell.lit (Value.int IntKind.i64 (dt c).R.V.K),Cell.lit (Value.int IntKind.i64 (dt c).R.V.N),Cell.lit (Value.string (dt c).R.V.S)]]/\dJ [DV.box [Cell.sl Cd.byte x0.b,Cell.lit (Value.int IntKind.i64 x0.i),Cell.lit (Value.int IntKind.i64 x0.h)]]=dJ [DV.box [Cell.sl Cd.byte (io c).b,Cell.lit (Value.int IntKind.i64 (io c).i),Cell.lit (Value.int IntKind.i64 (io c).h)]]):=by kernel_rfl
theorem FW(c:ai)(y:T6×T6×T4×Unit)(hp:∀p∈vf.pre c,p)(hb:∀d∈vf.ds c,gW d)(hy:kU c y):mR EE ON f167 vf OT c 2 (mU c) y:=by
 have pU:=QG (x:=c) (hb _ m0)
 have bp:bh c:=hp _ m0
 clear hp hb
 rw[aeT c y]
 dsimp only
 obtain⟨r,p,cu,⟨⟩⟩:=y
 obtain⟨hp,Ge⟩:=hy
 have hp:aaw p=o6 c:=hp
 have Ge:lr cu=A' c:=Ge
 have ep:p=akk (aaw p):=rfl
 have ec:cu=UH (lr cu):=rfl
 rw[hp] at ep
 rw[Ge] at ec
 subst ep ec
 have hk:bh (A' c):=Au bp
 have he:bh (J8 c):=OA bp
 refine⟨hk.1,hk.2,bo (fun k=> ?_) (fun k0=>bo (fun k=> ?_) (fun k1=>bo (fun k=> ?_) (fun k2=> ?_)))⟩
 ·have e1:dt c=⟨af (J8 c) 6,(Mo c).L,(Mo c).R⟩:=if_pos k
  have e2:io c=aa (J8 c) 6:=if_pos k
  exact⟨he.1,he.2,rfl,WM e1.symm e2.symm⟩
 ·have e1:dt c=⟨(Mo c).Op,ij (J8 c),(Mo c).R⟩:=(if_neg k0).trans (if_pos k)
  have e2:io c=gV (J8 c):=(if_neg k0).trans (if_pos k)
  exact⟨he,rfl,WM e1.symm e2.symm⟩
 ·have e1:dt c=⟨(Mo c).Op,(Mo c).L,⟨af (J8 c) 5,ao,dE⟩⟩:=(if_neg k0).trans ((if_neg k1).trans (if_pos k))
  have e2:io c=aa (J8 c) 5:=(if_neg k0).trans ((if_neg k1).trans (if_pos k))
  exact⟨he.1,he.2,rfl,WM e1.symm e2.symm⟩
 ·have e1:dt c=Mo c:=(if_neg k0).trans ((if_neg k1).trans (if_neg k2))
  have e2:io c=J8 c:=(if_neg k0).trans ((if_neg k1).trans (if_neg k2))
  exact⟨rfl,WM e1.symm e2.symm⟩
theorem FV(c:ai)(hp:∀p∈vf.pre c,p)(hb:∀d∈vf.ds c,gW d):rC EE ON f167 vf OT c 2 (mU c):=by
 have pU:=QG (x:=c) (hb _ m0)
 have bp:bh c:=hp _ m0
 clear hp hb
 apply vE (let x0:={data:= #[]:BA};bh c/\kU c ((0,0,x0,0,0,x0,0,x0,0,0,x0,()),((o6 c).Op,(o6 c).L.K,(o6 c).L.S,(o6 c).L.V.K,(o6 c).L.V.N,(o6 c).L.V.S,(o6 c).R.K,(o6 c).R.S,(o6 c).R.V.K,(o6 c).R.V.N,(o6 c).R.V.S,()),((A' c).b,(A' c).i,(A' c).h,()),()))
 dsimp only
 exact⟨bp,rfl,rfl⟩
attribute [local irreducible] rC mR in
theorem ae6:Holds EE (167,vf):=by
 refine vx rm func167 vf (by kernel_rfl) ON (xD _) OT 2 mU (by kernel_rfl) (fun(c:ai) hp hb=> ?_)
 refine⟨FV c hp hb,fun(y:T6×T6×T4×Unit) hy=> ?_⟩
 have hy:kU c y:=hy
 exact FW c y hp hb hy
def ais:HH:=⟨_,ae6⟩
def agx:=bV (α:=ai) (q1 qU) [.box false] (fun c=>[bh c]) (fun c=>⟨[dA .dx (pc c)],[],[dU (nC c)]⟩)
def air:HH:=hF agx func168 [YJ,nb,rJ,FD,OQ] a0 fun(c:ai) hp hb=>by
 have bp:bh c:=hp _ m0
 clear hp hb
 apply vE (let x2:=aa (qg 2 c) 10;let x3:=[{data:= #[]:BA},{data:= #[(65:UInt8)]:BA},{data:= #[(120:UInt8)]:BA}];let x8:=[{data:= #[]:BA},{data:= #[(42:UInt8)]:BA}];let x9:=af (qg 2 c) 10;let qk:=[(-1),7,8,100001];let x1:=bT x2 x3;let x7:=bT x2 x8;let ly:=qk.length;let x6:=gV x7;let mG:=(↑ly:Int);let x0:=[{Op:=cx x2 x8,L:=ij x7,R:=ij x6:ct}];let x4:=aa x2 mG;let x5:=gV x6;let q0:=xj 2 c;let q1:=(pc c).Kind;let q2:=(pc c).Name;let q3:=(pc c).aR;let q4:=(pc c).N;bh c/\0<=(qg 2 c).i/\(qg 2 c).b.length<=4294967296/\bif x9==0 then 0<=x2.i/\L4 x2.b.length/\LM [DV.agg [CI (af x2 8),CS (q0.Name),CL .bJ q0.az,CI (q0.N),CS (q0.aR)]] [DV.agg [CI q1,CS q2,CL .bJ (pc c).az,CI q4,CS q3]] [bU (aa x2 8)] [bU (nC c)] else bif x9==1 then bh x2/\1<=x3.length/\LM [DV.agg [CI (q0.Kind),CS (cx x2 x3),CL .bJ q0.az,CI (q0.N),CS (q0.aR)]] [DV.agg [CI q1,CS q2,CL .bJ (pc c).az,CI q4,CS q3]] [bU x1] [bU (nC c)] else bif x9==2 then 0<=x2.i/\L4 x2.b.length/\1<=ly/\LM [DV.agg [CI (q0.Kind),CS (q0.Name),CL .bJ q0.az,CI (qk.getD (Int.toNat (af x2 mG)) 0),CS (q0.aR)]] [DV.agg [CI q1,CS q2,CL .bJ (pc c).az,CI q4,CS q3]] [bU x4] [bU (nC c)] else bif x9==3 then bh x2/\1<=x3.length/\LM [DV.agg [CI (q0.Kind),CS (q0.Name),CL .bJ q0.az,CI (q0.N),CS (cx x2 x3)]] [DV.agg [CI q1,CS q2,CL .bJ (pc c).az,CI q4,CS q3]] [bU x1] [bU (nC c)] else bif x9==4 then bh x2/\1<=x8.length/\bh x7/\bh x6/\L4 (q0.az.length+x0.length)/\LM [DV.agg [CI (q0.Kind),CS (q0.Name),CL .bJ (q0.az++x0),CI (q0.N),CS (q0.aR)]] [DV.agg [CI q1,CS q2,CL .bJ (pc c).az,CI q4,CS q3]] [bU x5] [bU (nC c)] else LM [DV.agg [CI (q0.Kind),CS (q0.Name),CL .bJ q0.az,CI (q0.N),CS (q0.aR)]] [DV.agg [CI q1,CS q2,CL .bJ (pc c).az,CI q4,CS q3]] [bU x2] [bU (nC c)])
 dsimp only
 have hk:=yP 2 bp
 have he:=OB bp
 have hl:=(LZ c).2.2.2.2
 have hl:(xj 2 c).az.length<=2:=hl
 refine⟨bp,hk.1,hk.2,bo (fun k=> ?_) (fun k0=>bo (fun k=> ?_) (fun k1=>bo (fun k=> ?_) (fun k2=>bo (fun k=> ?_) (fun k3=>bo (fun k=> ?_) (fun k4=> ?_)))))⟩
 ·have e1:pc c=⟨af (Fq c) 8,(pd c).Name,(pd c).az,(pd c).N,(pd c).aR⟩:=if_pos k
  have e2:nC c=aa (Fq c) 8:=if_pos k
  exact⟨he.1,he.2,rfl,sA e1.symm e2.symm⟩
 ·have e1:pc c=⟨(pd c).Kind,cx (Fq c) tZ,(pd c).az,(pd c).N,(pd c).aR⟩:=(if_neg k0).trans (if_pos k)
  have e2:nC c=bT (Fq c) tZ:=(if_neg k0).trans (if_pos k)
  exact⟨he,by decide,rfl,sA e1.symm e2.symm⟩
 ·have e1:pc c=⟨(pd c).Kind,(pd c).Name,(pd c).az,gU (Fq c) VN,(pd c).aR⟩:=(if_neg k0).trans ((if_neg k1).trans (if_pos k))
  have e2:nC c=ku (Fq c) VN:=(if_neg k0).trans ((if_neg k1).trans (if_pos k))
  exact⟨he.1,he.2,by decide,rfl,sA e1.symm e2.symm⟩
 ·have e1:pc c=⟨(pd c).Kind,(pd c).Name,(pd c).az,(pd c).N,cx (Fq c) tZ⟩:=(if_neg k0).trans ((if_neg k1).trans ((if_neg k2).trans (if_pos k)))
  have e2:nC c=bT (Fq c) tZ:=(if_neg k0).trans ((if_neg k1).trans ((if_neg k2).trans (if_pos k)))
  exact⟨he,by decide,rfl,sA e1.symm e2.symm⟩
 ·have e1:pc c=⟨(pd c).Kind,(pd c).Name,(pd c).az++[acX c],(pd c).N,(pd c).aR⟩:=(if_neg k0).trans ((if_neg k1).trans ((if_neg k2).trans ((if_neg k3).trans (if_pos k))))
  have e2:nC c=gV (gV (Qz c)):=(if_neg k0).trans ((if_neg k1).trans ((if_neg k2).trans ((if_neg k3).trans (if_pos k))))
  exact⟨he,by decide,dw he _,ra (dw he _),by simp only[fK,fv];omega,rfl,sA e1.symm e2.symm⟩
 ·have e1:pc c=pd c:=(if_neg k0).trans ((if_neg k1).trans ((if_neg k2).trans ((if_neg k3).trans (if_neg k4))))
  have e2:nC c=Fq c:=(if_neg k0).trans ((if_neg k1).trans ((if_neg k2).trans ((if_neg k3).trans (if_neg k4))))
  exact⟨rfl,sA e1.symm e2.symm⟩
def ag2:=bV (α:=ai×bf) (qC qU (q1 (qA .bE))) [.box false,.ro] (fun(c,r)=>[bh c,1<=r.aH.length/\r.aH.length<=4294967200,r.aU.length<=4294967200,r.bI.length<=4294967200]) (fun(c,r)=>⟨[dA .bE (mX r c)],[false],[dU (gh c)]⟩)
def Y4:HH:=hF ag2 func108 [nb,rJ,FD,ait,ais,air] a0 fun x hp hb=>by
 obtain⟨c,r⟩:=x
 have pU:=QG (x:=c) (hb _ m0)
 have gZ:=lV (x:=r) (hb _ m1)
 have kL:=gZ.1
 have kK:=gZ.2.1
 have jL:=gZ.2.2.1
 have kM:=gZ.2.2.2
 have bp:bh c:=hp _ m0
 have eN:1<=r.aH.length/\r.aH.length<=4294967200:=hp _ m1
 have GS:r.aU.length<=4294967200:=hp _ m2
 have hp3:r.bI.length<=4294967200:=hp _ m3
 clear hp hb
 apply vE (let x1:=[{data:= #[]:BA},{data:= #[(65:UInt8)]:BA},{data:= #[(120:UInt8)]:BA}];let x3:List cr:=[]++r.aH;let x6:=[(-101),101,100];let x7:=Option.getD (some 0) (r.bI.length:Int);let x8:List dy:=[]++r.aU;let x9:List ew:=[]++r.bI;let x0:=bT (aa c 10) x1;let x5:=x6.length;let x4:=(↑x5:Int);let x2:=aa (aa c 10) x4;let q0:=mX r c;let q1:=aa c 10;0+r.aH.length<=4294967296/\0<=c.i/\L4 c.b.length/\bif af c (10:Int)==(0:Int) then bh q1/\1<=x1.length/\LM [DV.agg [CS (cx q1 x1),CI r.je,CL .du x3,CL .ca r.aU,CL .dx r.bI]] [DV.agg [CS (q0.Name),CI (q0.je),CL .du q0.aH,CL .ca q0.aU,CL .dx q0.bI]] [bU x0] [bU (gh c)] else bif af c (10:Int)==(1:Int) then 0<=q1.i/\L4 q1.b.length/\1<=x5/\LM [DV.agg [CS r.Name,CI (x6.getD (Int.toNat (af q1 x4)) 0),CL .du x3,CL .ca r.aU,CL .dx r.bI]] [DV.agg [CS (q0.Name),CI (q0.je),CL .du q0.aH,CL .ca q0.aU,CL .dx q0.bI]] [bU x2] [bU (gh c)] else bif af c (10:Int)==(2:Int) then bh q1/\x3.length+List.length [qq q1]<=4294967296/\LM [DV.agg [CS r.Name,CI r.je,CL .du (x3++[qq q1]),CL .ca r.aU,CL .dx r.bI]] [DV.agg [CS (q0.Name),CI (q0.je),CL .du q0.aH,CL .ca q0.aU,CL .dx q0.bI]] [bU (qN q1)] [bU (gh c)] else bif af c (10:Int)==(3:Int) then 0+r.aU.length<=4294967296/\bh q1/\x8.length+List.length [dt q1]<=4294967296/\LM [DV.agg [CS r.Name,CI r.je,CL .du x3,CL .ca (x8++[dt q1]),CL .dx r.bI]] [DV.agg [CS (q0.Name),CI (q0.je),CL .du q0.aH,CL .ca q0.aU,CL .dx q0.bI]] [bU (io q1)] [bU (gh c)] else bif af c (10:Int)==(4:Int) then 0+r.bI.length<=4294967296/\bh q1/\x9.length+List.length [pc q1]<=4294967296/\LM [DV.agg [CS r.Name,CI r.je,CL .du x3,CL .ca r.aU,CL .dx (x9++[pc q1])]] [DV.agg [CS (q0.Name),CI (q0.je),CL .du q0.aH,CL .ca q0.aU,CL .dx q0.bI]] [bU (nC q1)] [bU (gh c)] else bif af c (10:Int)==(5:Int) then(0:Int)<=(0:Int)/\Int.toNat 0<x3.length/\nat_lit 0<x3.length/\LM [DV.agg [CS r.Name,CI r.je,CL .du (x3.modify (nat_lit 0) fun(x:cr)=>{Kind:=x.Kind,az:=x.az,Not:=true:cr}),CL .ca r.aU,CL .dx r.bI]] [DV.agg [CS (q0.Name),CI (q0.je),CL .du q0.aH,CL .ca q0.aU,CL .dx q0.bI]] [bU q1] [bU (gh c)] else bif af c (10:Int)==(6:Int) then 0<=Option.getD none (0:Int)/\Option.getD none (0:Int)<=x7/\x7<=(r.bI.length:Int)/\LM [DV.agg [CS r.Name,CI r.je,CL .du x3,CL .ca r.aU,CL .dx []]] [DV.agg [CS (q0.Name),CI (q0.je),CL .du q0.aH,CL .ca q0.aU,CL .dx q0.bI]] [bU q1] [bU (gh c)] else LM [DV.agg [CS r.Name,CI r.je,CL .du x3,CL .ca r.aU,CL .dx r.bI]] [DV.agg [CS (q0.Name),CI (q0.je),CL .du q0.aH,CL .ca q0.aU,CL .dx q0.bI]] [bU q1] [bU (gh c)])
 dsimp only
 have he:=au bp 10
 refine⟨by show 0+r.aH.length<=4294967296;omega,bp.1,bp.2,bo (fun k=> ?_) (fun k0=>bo (fun k=> ?_) (fun k1=>bo (fun k=> ?_) (fun k2=>bo (fun k=> ?_) (fun k3=>bo (fun k=> ?_) (fun k4=>bo (fun k=> ?_) (fun k5=>bo (fun k=> ?_) (fun k6=> ?_)))))))⟩
 ·have e1:mX r c=⟨cx (aa c 10) tZ,r.je,r.aH,r.aU,r.bI⟩:=if_pos k
  have e2:gh c=bT (aa c 10) tZ:=if_pos k
  exact⟨he,by decide,rfl,Ue e1.symm e2.symm⟩
 ·have e1:mX r c=⟨r.Name,gU (aa c 10) VM,r.aH,r.aU,r.bI⟩:=(if_neg k0).trans (if_pos k)
  have e2:gh c=ku (aa c 10) VM:=(if_neg k0).trans (if_pos k)
  exact⟨he.1,he.2,by decide,rfl,Ue e1.symm e2.symm⟩
 ·have e1:mX r c=⟨r.Name,r.je,r.aH++[qq (aa c 10)],r.aU,r.bI⟩:=(if_neg k0).trans ((if_neg k1).trans (if_pos k))
  have e2:gh c=qN (aa c 10):=(if_neg k0).trans ((if_neg k1).trans (if_pos k))
  exact⟨he,by show r.aH.length+1<=4294967296;omega,rfl,Ue e1.symm e2.symm⟩
 ·have e1:mX r c=⟨r.Name,r.je,r.aH,r.aU++[dt (aa c 10)],r.bI⟩:=(if_neg k0).trans ((if_neg k1).trans ((if_neg k2).trans (if_pos k)))
  have e2:gh c=io (aa c 10):=(if_neg k0).trans ((if_neg k1).trans ((if_neg k2).trans (if_pos k)))
  exact⟨by show 0+r.aU.length<=4294967296;omega,he,by show r.aU.length+1<=4294967296;omega,rfl,Ue e1.symm e2.symm⟩
 ·have e1:mX r c=⟨r.Name,r.je,r.aH,r.aU,r.bI++[pc (aa c 10)]⟩:=(if_neg k0).trans ((if_neg k1).trans ((if_neg k2).trans ((if_neg k3).trans (if_pos k))))
  have e2:gh c=nC (aa c 10):=(if_neg k0).trans ((if_neg k1).trans ((if_neg k2).trans ((if_neg k3).trans (if_pos k))))
  exact⟨by show 0+r.bI.length<=4294967296;omega,he,by show r.bI.length+1<=4294967296;omega,rfl,Ue e1.symm e2.symm⟩
 ·have e1:mX r c=⟨r.Name,r.je,r.aH.modify 0 (fun p=>⟨p.Kind,p.az,true⟩),r.aU,r.bI⟩:=(if_neg k0).trans ((if_neg k1).trans ((if_neg k2).trans ((if_neg k3).trans ((if_neg k4).trans (if_pos k)))))
  have e2:gh c=aa c 10:=(if_neg k0).trans ((if_neg k1).trans ((if_neg k2).trans ((if_neg k3).trans (if_neg k4))))
  exact⟨by decide,eN.1,eN.1,rfl,Ue e1.symm e2.symm⟩
 ·have e1:mX r c=⟨r.Name,r.je,r.aH,r.aU,[]⟩:=(if_neg k0).trans ((if_neg k1).trans ((if_neg k2).trans ((if_neg k3).trans ((if_neg k4).trans ((if_neg k5).trans (if_pos k))))))
  have e2:gh c=aa c 10:=(if_neg k0).trans ((if_neg k1).trans ((if_neg k2).trans ((if_neg k3).trans (if_neg k4))))
  exact⟨by decide,by show(0:Int)<=(0:Int);decide,by show(0:Int)<=(r.bI.length:Int);omega,rfl,Ue e1.symm e2.symm⟩
 ·have e1:mX r c=r:=(if_neg k0).trans ((if_neg k1).trans ((if_neg k2).trans ((if_neg k3).trans ((if_neg k4).trans ((if_neg k5).trans (if_neg k6))))))
  have e2:gh c=aa c 10:=(if_neg k0).trans ((if_neg k1).trans ((if_neg k2).trans ((if_neg k3).trans (if_neg k4))))
  exact⟨rfl,Ue e1.symm e2.symm⟩
theorem Gy{r:bf}(h:fO r=true):1<=r.aH.length/\r.aH.length<=6/\r.aU.length<=6/\r.bI.length<=6:=by
 simp only[fO,mi,kI,lx,cJ,decide_eq_true_eq] at h
 exact⟨h.1.1.2.1.1,h.1.1.2.1.2,h.1.2.1,h.2.1.2⟩
def ag3:=bV (α:=ai) (q1 qU) [.box false] (fun c=>[bh c]) (fun c=>⟨[dA .bE (lE c)],[false],[dU (oW c)]⟩)
def aiX:HH:=hF ag3 func107 [rJ,YU,xo,Y4] a0 fun(c:ai) hp hb=>by
 have bp:bh c:=hp _ m0
 clear hp hb
 apply vE (let x5:=[{data:= #[(114:UInt8),(49:UInt8)]:BA},{data:= #[(114:UInt8),(50:UInt8)]:BA},{data:= #[(115:UInt8),(104:UInt8),(105:UInt8),(112:UInt8)]:BA}];let x4:=bT c x5;let x1:=mB (cx c x5) x4;let x3:=nG x4;let x2:=aa x3 3;let x0:=mX x1 x2;bh c/\1<=x5.length/\bh x4/\bh x3/\bif bP x3 3 then bh x2/\(1<=x1.aH.length/\x1.aH.length<=4294967200)/\x1.aU.length<=4294967200/\x1.bI.length<=4294967200/\LM [DV.agg [CS x0.Name,CI x0.je,CL .du x0.aH,CL .ca x0.aU,CL .dx x0.bI]] [DV.agg [CS ((lE c).Name),CI ((lE c).je),CL .du (lE c).aH,CL .ca (lE c).aU,CL .dx (lE c).bI]] [bU (gh x2)] [bU (oW c)] else LM [DV.agg [CS x1.Name,CI x1.je,CL .du x1.aH,CL .ca x1.aU,CL .dx x1.bI]] [DV.agg [CS ((lE c).Name),CI ((lE c).je),CL .du (lE c).aH,CL .ca (lE c).aU,CL .dx (lE c).bI]] [bU x2] [bU (oW c)])
 dsimp only
 have h1:=dw bp oV
 have h2:=yN h1
 have h3:=au h2 3
 obtain⟨q1,q2,q3,q4⟩:=Gy (Kt c)
 refine⟨bp,by decide,h1,h2,ae (fun k=> ?_) (fun k=> ?_)⟩
 ·have e1:lE c=mX (mB (cx c oV) (bT c oV)) (aa (nG (bT c oV)) 3):=if_pos k
  have e2:oW c=gh (aa (nG (bT c oV)) 3):=if_pos k
  exact⟨h3,⟨q1,xr q2 (by omega)⟩,xr q3 (by omega),xr q4 (by omega),rfl,Ue e1.symm e2.symm⟩
 ·have k:¬bP (nG (bT c oV)) 3=true:=fun e=>absurd (k.symm.trans e) (by decide)
  have e1:lE c=mB (cx c oV) (bT c oV):=if_neg k
  have e2:oW c=aa (nG (bT c oV)) 3:=if_neg k
  exact⟨rfl,Ue e1.symm e2.symm⟩
def Ft:=bV (α:=ai) (q1 qU) [.box false] (fun c=>[bh c]) (fun c=>⟨[dA .hH (qy c)],[false],[dU (jz c)]⟩)
def WI:AX Ft:=fun c=>b_ []
def WA:=us [ag7,nb,rJ,aiX,Y4]
def kk(c:ai):T2×T2×T4×Unit->Prop:=fun(r,p,cu,_)=>p.1=(cD c).Name/\p.2.1=(cD c).aA/\lr cu=jq c
def l9:Ft.α->ul UU:=fun c=>aY [.box 2 (2,1024) [.lit .str,.own .bE true],.box 3 (3,1024) [.lit .str,.own .bE false],.box 0 (2000000,0) [.shr .byte,.lit (.int .i64),.lit (.int .i64)]] (fun _=>kk c) (fun _=>0)
theorem anN(c:ai)(y:T2×T2×T4×Unit):mR EE WA f47 Ft WI c 2 (l9 c) y=(let x2:={b:=y.2.2.1.1,i:=y.2.2.1.2.1,h:=y.2.2.1.2.2.1:ai};
let x3:=y.2.1.2.1.length;
let x4:=y.2.1.2.1.getD (nat_lit 0) cq;
let x6:=[{data:= #[]:BA},{data:= #[(65:UInt8)]:BA}];
let x0:=aa x2 (10:Int);
let x1:=af x2 (10:Int);
let x5:=bT x0 x6;
(0:Int)<=y.2.2.1.2.1/\y.2.2.1.1.length<=(4294967296:Nat)/\bif x1==(0:Int) then bh x0/\(1:Nat)<=x6.length/\(0:Nat)=(0:Nat)/\dJ [DV.agg [Cell.lit (Value.string (cx x0 x6)),Cell.sl Cd.bE y.2.1.2.1]]=dJ [DV.agg [Cell.lit (Value.string (qy c).Name),Cell.sl Cd.bE (qy c).aA]]/\dJ [DV.box [Cell.sl Cd.byte x5.b,Cell.lit (Value.int IntKind.i64 x5.i),Cell.lit (Value.int IntKind.i64 x5.h)]]=dJ [DV.box [Cell.sl Cd.byte (jz c).b,Cell.lit (Value.int IntKind.i64 (jz c).i),Cell.lit (Value.int IntKind.i64 (jz c).h)]] else bif x1==(1:Int) then bh x0/\x3+List.length [lE x0]<=(4294967296:Nat)/\(0:Nat)=(0:Nat)/\dJ [DV.agg [Cell.lit (Value.string y.2.1.1),Cell.sl Cd.bE (y.2.1.2.1++[lE x0])]]=dJ [DV.agg [Cell.lit (Value.string (qy c).Name),Cell.sl Cd.bE (qy c).aA]]/\dJ [DV.box [Cell.sl Cd.byte (oW x0).b,Cell.lit (Value.int IntKind.i64 (oW x0).i),Cell.lit (Value.int IntKind.i64 (oW x0).h)]]=dJ [DV.box [Cell.sl Cd.byte (jz c).b,Cell.lit (Value.int IntKind.i64 (jz c).i),Cell.lit (Value.int IntKind.i64 (jz c).h)]] else bif x1==(2:Int) then(0:Int)<=(0:Int)/\Int.toNat (0:Int)<x3/\nat_lit 0<x3/\bh x0/\((1:Nat)<=x4.aH.length/\x4.aH.length<=(4294967200:Nat))/\x4.aU.length<=(4294967200:Nat)/\x4.bI.length<=(4294967200:Nat)/\(0:Int)<=(0:Int)/\Int.toNat (0:Int)<x3/\nat_lit 0<x3/\(0:Nat)=(0:Nat)/\dJ [DV.agg [Cell.lit (Value.string y.2.1.1),Cell.sl Cd.bE (y.2.1.2.1.set (nat_lit 0) (mX x4 x0))]]=dJ [DV.agg [Cell.lit (Value.string (qy c).Name),Cell.sl Cd.bE (qy c).aA]]/\dJ [DV.box [Cell.sl Cd.byte (gh x0).b,Cell.lit (Value.int IntKind.i64 (gh x0).i),Cell.lit (Value.int IntKind.i64 (gh x0).h)]]=dJ [DV.box [Cell.sl Cd.byte (jz c).b,Cell.lit (Value.int IntKind.i64 (jz c).i),Cell.lit (Value.int IntKind.i64 (jz c).h)]] else bif x1==(3:Int) then(0:Int)<=Option.getD none (0:Int)/\Option.getD none (0:Int)<=Option.getD (some (0:Int)) (↑x3:Int)/\Option.getD (some (0:Int)) (↑x3:Int)<=(↑x3:Int)/\Nat.le (nat_lit 0) x3/\(0:Nat)=(0:Nat)/\dJ [DV.agg [Cell.lit (Value.string y.2.1.1),Cell.sl Cd.bE []]]=dJ [DV.agg [Cell.lit (Value.string (qy c).Name),Cell.sl Cd.bE (qy c).aA]]/\dJ [DV.box [Cell.sl Cd.byte x0.b,Cell.lit (Value.int IntKind.i64 x0.i),Cell.lit (Value.int IntKind.i64 x0.h)]]=dJ [DV.box [Cell.sl Cd.byte (jz c).b,Cell.lit (Value.int IntKind.i64 (jz c).i),Cell.lit (Value.int IntKind.i64 (jz c).h)]] else(0:Nat)=(0:Nat)/\dJ [DV.agg [Cell.lit (Value.string y.2.1.1),Cell.sl Cd.bE y.2.1.2.1]]=dJ [DV.agg [Cell.lit (Value.string (qy c).Name),Cell.sl Cd.bE (qy c).aA]]/\dJ [DV.box [Cell.sl Cd.byte x0.b,Cell.lit (Value.int IntKind.i64 x0.i),Cell.lit (Value.int IntKind.i64 x0.h)]]=dJ [DV.box [Cell.sl Cd.byte (jz c).b,Cell.lit (Value.int IntKind.i64 (jz c).i),Cell.lit (Value.int IntKind.i64 (jz c).h)]]):=by kernel_rfl
theorem DQ(c:ai)(y:T2×T2×T4×Unit)(hp:∀p∈Ft.pre c,p)(hb:∀d∈Ft.ds c,gW d)(hy:kk c y):mR EE WA f47 Ft WI c 2 (l9 c) y:=by
 have pU:=QG (x:=c) (hb _ m0)
 have bp:bh c:=hp _ m0
 clear hp hb
 rw[anN c y]
 dsimp only
 obtain⟨r,⟨dn,dr,⟨⟩⟩,cu,⟨⟩⟩:=y
 obtain⟨h1,h2,h3⟩:=hy
 have h1:dn=(cD c).Name:=h1
 have h2:dr=(cD c).aA:=h2
 have h3:lr cu=jq c:=h3
 have ec:cu=UH (lr cu):=rfl
 rw[h3] at ec
 subst h1 h2 ec
 have hk:bh (jq c):=yO bp
 have he:=IE bp
 have hd:=E5 c
 have hr:fO ((cD c).aA.getD 0 cq)=true:=hd.2.2 _ (gJ (z:=cq) (show 0<(cD c).aA.length by omega))
 obtain⟨q1,q2,q3,q4⟩:=Gy hr
 refine⟨hk.1,hk.2,bo (fun k=> ?_) (fun k0=>bo (fun k=> ?_) (fun k1=>bo (fun k=> ?_) (fun k2=>bo (fun k=> ?_) (fun k3=> ?_))))⟩
 ·have e1:qy c=⟨cx (Hj c) O_,(cD c).aA⟩:=if_pos k
  have e2:jz c=bT (Hj c) O_:=if_pos k
  exact⟨he,by decide,rfl,LdD e1.symm e2.symm⟩
 ·have e1:qy c=⟨(cD c).Name,(cD c).aA++[lE (Hj c)]⟩:=(if_neg k0).trans (if_pos k)
  have e2:jz c=oW (Hj c):=(if_neg k0).trans (if_pos k)
  exact⟨he,by show(cD c).aA.length+1<=4294967296;omega,rfl,LdD e1.symm e2.symm⟩
 ·have e1:qy c=⟨(cD c).Name,(cD c).aA.set 0 (mX ((cD c).aA.getD 0 cq) (Hj c))⟩:=(if_neg k0).trans ((if_neg k1).trans (if_pos k))
  have e2:jz c=gh (Hj c):=(if_neg k0).trans ((if_neg k1).trans (if_pos k))
  exact⟨by decide,hd.1,hd.1,he,⟨q1,xr q2 (by omega)⟩,xr q3 (by omega),xr q4 (by omega),by decide,hd.1,hd.1,rfl,LdD e1.symm e2.symm⟩
 ·have e1:qy c=⟨(cD c).Name,[]⟩:=(if_neg k0).trans ((if_neg k1).trans ((if_neg k2).trans (if_pos k)))
  have e2:jz c=Hj c:=(if_neg k0).trans ((if_neg k1).trans (if_neg k2))
  exact⟨by decide,by show(0:Int)<=(0:Int);decide,by show(0:Int)<=((cD c).aA.length:Int);omega,Nat.zero_le _,rfl,LdD e1.symm e2.symm⟩
 ·have e1:qy c=cD c:=(if_neg k0).trans ((if_neg k1).trans ((if_neg k2).trans (if_neg k3)))
  have e2:jz c=Hj c:=(if_neg k0).trans ((if_neg k1).trans (if_neg k2))
  exact⟨rfl,LdD e1.symm e2.symm⟩
theorem DO(c:ai)(hp:∀p∈Ft.pre c,p)(hb:∀d∈Ft.ds c,gW d):rC EE WA f47 Ft WI c 2 (l9 c):=by
 have pU:=QG (x:=c) (hb _ m0)
 have bp:bh c:=hp _ m0
 clear hp hb
 apply vE (bh c/\kk c (({data:= #[]:BA},[],()),((cD c).Name,(cD c).aA,()),((jq c).b,(jq c).i,(jq c).h,()),()))
 exact⟨bp,rfl,rfl,rfl⟩
attribute [local irreducible] rC mR in
theorem anO:Holds EE (47,Ft):=by
 refine vx rm func47 Ft (by kernel_rfl) WA (xD _) WI 2 l9 (by kernel_rfl) (fun(c:ai) hp hb=> ?_)
 refine⟨DO c hp hb,fun(y:T2×T2×T4×Unit) hy=> ?_⟩
 have hy:kk c y:=hy
 exact DQ c y hp hb hy
def ao2:HH:=⟨_,anO⟩
theorem Bd.u8{n:Int}(h:Bd (U:=UU) (.lit (.int .u8 n))):0<=n/\n<=255:=by
 cases h with
 |lit _ h=>exact h.2
theorem uC:∀(k:Nat)(s:aF)(c:ai),0<=s.Next->0<=(ld k s c).Next/\(ld k s c).Next<=s.Next+k
 |0,s,_,h=>⟨h,by simp only[ld];omega⟩
 |k+1,s,c,h=>by
  rw[ld];split
  ·have:=uC k (p8 s (s.ab.getD (af (aa c 5) s.ab.length).toNat a_).Id) (aa (aa c 5) s.ab.length) h
   simp only[p8] at this⊢
   omega
  ·have h2:=(u6 s (cV (aa c 5))).2
   have:=uC k (cp s (cV (aa c 5))) (cW (aa c 5)) (by omega)
   omega
theorem Kl(c:ai):0<=(c_ c).Next/\(c_ c).Next<=10:=by
 have hb:=bx (c:=c) (n:=9) (by omega)
 have:=uC (af c 9).toNat ⟨[],1⟩ (aa c 9) (by decide)
 simp only[c_] at this⊢
 omega
theorem KT{s:aF}(h:sS s):(cp s (nu s.ab.length)).ab.length=s.ab.length+1/\(cp s (nu s.ab.length)).Next=s.Next+1:=by
 rw[uX h];exact⟨by simp,rfl⟩
def abJ:=bV (α:=aF×aK) (qC (qX .cT) (q1 (qA .dc))) [.box true,.ro] (fun(s,f)=>[0<=s.Next/\s.Next<=1000/\s.ab.length<=39,L4 f.ah.length]) (fun(s,f)=>⟨[dI (l_ s f)],[],[dX .cT (cp s f)]⟩)
def abU:HH:=hF abJ func104 [OS,sw] a0 fun x hp hb=>by
 obtain⟨s,f⟩:=x
 have bp:0<=s.Next/\s.Next<=1000/\s.ab.length<=39:=hp _ m0
 have eN:f.ah.length<=4294967296:=hp _ m1
 clear hp hb
 apply vE (let q0:=LM [VI 0] [VI (l_ s f)] [DV.box [CL .aJ s.ab,CI s.Next]] [DV.box [CL .aJ (cp s f).ab,CI ((cp s f).Next)]];bif decide (ib s.ab f>0) then LM [VI (ib s.ab f)] [VI (l_ s f)] [DV.box [CL .aJ s.ab,CI s.Next]] [DV.box [CL .aJ (cp s f).ab,CI ((cp s f).Next)]] else bif decide ((s.ab.length:Int)≥40) then q0 else bif decide (s.Next≥1000000) then q0 else L4 f.ah.length/\s.ab.length+List.length [{Id:=s.Next,F:=f:bN}]<=4294967296/\LM [VI (wrap i64 (wrap i64 (s.Next+1)-1))] [VI (l_ s f)] [DV.box [CL .aJ (s.ab++[{Id:=s.Next,F:=f:bN}]),CI (wrap i64 (s.Next+1))]] [DV.box [CL .aJ (cp s f).ab,CI ((cp s f).Next)]])
 dsimp only
 obtain⟨s1,s2,s3⟩:=bp
 refine aV (fun h=>⟨by trivial,?_⟩) (fun h=>aV (fun h2=>absurd h2 (by omega)) (fun h2=>aV (fun h3=>absurd h3 (by omega)) (fun h3=> ?_)))
 ·have e1:cp s f=s:=if_pos h
  have e2:l_ s f=ib s.ab f:=if_pos h
  rw[e1,e2];exact⟨rfl,rfl⟩
 ·have e1:cp s f=⟨s.ab++[⟨s.Next,f⟩],s.Next+1⟩:=if_neg h
  have e2:l_ s f=s.Next:=if_neg h
  rw[e1,e2,wi (n:=s.Next+1),wi,show s.Next+1-1=s.Next by omega]
  exact⟨eN,by simp only[fK,fv];omega,by trivial,rfl,rfl⟩
def afE:=bV (α:=ai) (q1 qU) [.box false] (fun c=>[bh c]) (fun c=>⟨[dA .cT (lf c)],[],[dU (j_ c)]⟩)
def JQ(c:ai):T3×T3×T4×Unit->Prop:=fun(r,p,cu,_)=>lr cu=Kn c/\sS ⟨p.1,p.2.1⟩/\p.1.length<=40/\0<=p.2.1/\p.2.1+(40-p.1.length)<=1000/\tW (40-p.1.length) ⟨p.1,p.2.1⟩=tW (40-(c_ c).ab.length) (c_ c)
def Ny(c:ai):T3×T3×T4×Unit->Nat:=fun(r,p,cu,_)=>40-p.1.length
def apP:AX afE:=fun c=>b_ [(8,aY [.box 2 (2,1024) [.own .aJ true,.lit (.int .i64)],.box 3 (3,1024) [.own .aJ true,.lit (.int .i64)],.box 0 (2000000,0) [.shr .byte,.lit (.int .i64),.lit (.int .i64)]] (fun _=>JQ c) (Ny c))]
def ao6:HH:=hF afE func43 [ai1,nb,FD,TV,abU] apP fun(c:ai) hp hb=>by
 have bp:bh c:=hp _ m0
 clear hp hb
 apply vE (let x1:=aa (kA c) 12;let x4:=[0,1,1000000,1000001];let x5:=[{Id:=af x1 9,F:=pb (aa x1 9):bN}];let x3:=x4.length;let x2:=(↑x3:Int);let x0:=aa x1 x2;let q0:=(lf c).Next;bh c/\0<=(kA c).i/\(kA c).b.length<=4294967296/\bif af (kA c) (12:Int)==(0:Int) then 0<=x1.i/\L4 x1.b.length/\1<=x3/\LM [DV.agg [CL .aJ (c_ c).ab,CI (x4.getD (Int.toNat (af x1 x2)) 0)]] [DV.agg [CL .aJ (lf c).ab,CI q0]] [bU x0] [bU (j_ c)] else bif af (kA c) (12:Int)==(1:Int) then 0<=x1.i/\L4 x1.b.length/\bh (aa x1 9)/\(c_ c).ab.length+x5.length<=4294967296/\LM [DV.agg [CL .aJ ((c_ c).ab++x5),CI ((c_ c).Next)]] [DV.agg [CL .aJ (lf c).ab,CI q0]] [bU (kg (aa x1 9))] [bU (j_ c)] else bif af (kA c) (12:Int)==(2:Int) then JQ c (([],0,()),((c_ c).ab,(c_ c).Next,()),(x1.b,x1.i,x1.h,()),())/\∀(y:NB×NB×OX×PUnit),let x8:=y.2.1.1.length;let x7:=(↑x8:Int);let x9:=[{K:=(1:Int),N:=x7,S:={data:= #[]:BA}:aS}];let x6:=cp {ab:=y.2.1.1,Next:=y.2.1.2.1:aF} {Kind:={data:= #[(102:UInt8),(117:UInt8),(108:UInt8),(108:UInt8)]:BA},ah:=x9:aK};let q1:=((y.1.1,y.1.2.1,()),(x6.ab,x6.Next,()),(y.2.2.1.1,y.2.2.1.2.1,y.2.2.1.2.2.1,()),());JQ c y->bif decide (x7<40) then(0<=y.2.1.2.1/\y.2.1.2.1<=1000/\x8<=39)/\L4 x9.length/\JQ c q1/\Ny c q1<Ny c y else LM [DV.agg [CL .aJ y.2.1.1,CI y.2.1.2.1]] [DV.agg [CL .aJ (lf c).ab,CI q0]] [DV.box [CL .byte y.2.2.1.1,CI y.2.2.1.2.1,CI y.2.2.1.2.2.1]] [bU (j_ c)] else LM [DV.agg [CL .aJ (c_ c).ab,CI ((c_ c).Next)]] [DV.agg [CL .aJ (lf c).ab,CI q0]] [bU x1] [bU (j_ c)])
 dsimp only
 have hk:=E_ bp
 have he:=Ot bp
 have hl:=D2 c
 have hn:=Kl c
 refine⟨bp,hk.1,hk.2,bo (fun k=> ?_) (fun k0=>bo (fun k=> ?_) (fun k1=>bo (fun k=> ?_) (fun k2=> ?_)))⟩
 ·have e1:lf c=⟨(c_ c).ab,gU (Kn c) R_⟩:=if_pos k
  have e2:j_ c=ku (Kn c) R_:=if_pos k
  exact⟨he.1,he.2,by decide,rfl,LdS e1.symm e2.symm⟩
 ·have e1:lf c=⟨(c_ c).ab++[⟨af (Kn c) 9,pb (aa (Kn c) 9)⟩],(c_ c).Next⟩:=(if_neg k0).trans (if_pos k)
  have e2:j_ c=kg (aa (Kn c) 9):=(if_neg k0).trans (if_pos k)
  exact⟨he.1,he.2,au he 9,by simp only[fK,fv];omega,rfl,LdS e1.symm e2.symm⟩
 ·have e1:lf c=tW (40-(c_ c).ab.length) (c_ c):=(if_neg k0).trans ((if_neg k1).trans (if_pos k))
  have e2:j_ c=Kn c:=(if_neg k0).trans (if_neg k1)
  refine⟨⟨rfl,wx c,by show(c_ c).ab.length<=40;omega,hn.1,by show(c_ c).Next+(40-((c_ c).ab.length:Int))<=1000;omega,rfl⟩,?_⟩
  rintro⟨r,p,cu,⟨⟩⟩ ⟨Ge,hF,h40,h0,h1,hE⟩
  have Ge:lr cu=Kn c:=Ge
  have hF:sS ⟨p.1,p.2.1⟩:=hF
  have h40:p.1.length<=40:=h40
  have h0:0<=p.2.1:=h0
  have h1:p.2.1+(40-(p.1.length:Int))<=1000:=h1
  have hE:tW (40-p.1.length) ⟨p.1,p.2.1⟩=tW (40-(c_ c).ab.length) (c_ c):=hE
  refine aV ?_ ?_<;>intro g
  ·have g:(p.1.length:Int)<40:=g
   have e:40-p.1.length=(40-(p.1.length+1))+1:=by omega
   obtain⟨s1,s2⟩:=KT hF
   have s1:(cp ⟨p.1,p.2.1⟩ (nu p.1.length)).ab.length=p.1.length+1:=s1
   have s2:(cp ⟨p.1,p.2.1⟩ (nu p.1.length)).Next=p.2.1+1:=s2
   rw[e] at hE
   have hE:tW (40-(p.1.length+1)) (cp ⟨p.1,p.2.1⟩ (nu p.1.length))=tW (40-(c_ c).ab.length) (c_ c):=hE
   rw[<-s1] at hE
   refine⟨⟨h0,by show p.2.1<=1000;omega,by show p.1.length<=39;omega⟩,by simp,⟨Ge,Et hF,?_,?_,?_,hE⟩,?_⟩
   ·show(cp ⟨p.1,p.2.1⟩ (nu p.1.length)).ab.length<=40
    omega
   ·show 0<=(cp ⟨p.1,p.2.1⟩ (nu p.1.length)).Next
    omega
   ·show(cp ⟨p.1,p.2.1⟩ (nu p.1.length)).Next+(40-((cp ⟨p.1,p.2.1⟩ (nu p.1.length)).ab.length:Int))<=1000
    omega
   ·show 40-(cp ⟨p.1,p.2.1⟩ (nu p.1.length)).ab.length<40-p.1.length
    omega
  ·have g:¬(p.1.length:Int)<40:=g
   have e:40-p.1.length=0:=by omega
   rw[e] at hE
   exact⟨rfl,LdS (a:=⟨p.1,p.2.1⟩) (d:=lr cu) (hE.trans e1.symm) (Ge.trans e2.symm)⟩
 ·have e1:lf c=c_ c:=(if_neg k0).trans ((if_neg k1).trans (if_neg k2))
  have e2:j_ c=Kn c:=(if_neg k0).trans (if_neg k1)
  exact⟨rfl,LdS e1.symm e2.symm⟩
theorem B9{c:ai}(h:bh c)(m:Int):bh (vW c m):=au (Hm h m) 16
theorem Qp{c:ai}(h:bh c)(m:Int):bh (instAC c m):=by
 have he:=B9 h m
 unfold instAC
 split
 ·exact au he _
 ·split
  ·exact iG he _
  ·split
   ·exact Ns he
   ·split
    ·exact(OI he).1
    ·split
     ·exact(OH he).1
     ·split
      ·exact Nt he
      ·split
       ·exact Ti he
       ·exact he
theorem Qf{c:ai}(h:bh c)(m:Int):cB (tm c m)<=70000:=by
 unfold tm;split
 ·exact Qg (B9 h m)
 ·have:=(E6 c).2.2;omega
theorem KX(c:ai):jg (ln c)<=3:=by
 have hb:=bx (c:=aa c 3) (n:=4) (by omega)
 have h2:(ln c).ee.length=(af (aa c 3) 4).toNat:=by
  show(mD aau PD _ [] _).length=_
  rw[mC];simp
 have e:rO (ln c).bz=0:=rfl
 simp only[jg,rN,e];omega
theorem instA_size{c:ai}{m:Int}(h:bh c)(hm:m<=1000):cK (instA c m)<=60000:=by
 have h0:=Ec (Ee (c:=c) hm).tocoreX
 have he:=B9 h m
 simp only[cK] at h0
 unfold instA
 split
 ·simp only[cK];omega
 ·split
  ·simp only[cK,Gn];omega
  ·split
   ·have:=Km he
    simp only[cK,tR];omega
   ·split
    ·obtain⟨_,h2,h3⟩:=OI he
     have:=Mx h2
     simp only[cK,mK];omega
    ·split
     ·obtain⟨_,h2,h3⟩:=OH he
      have:=DT h2
      simp only[cK,DL];omega
     ·split
      ·have h2:e_ ((instD c m).ay++[ln (vW c m)])=e_ (instD c m).ay+(1+jg (ln (vW c m))):=rM jg _ _
       have:=KX (vW c m)
       simp only[cK,DM];omega
      ·simp only[cK];omega
def aov:=bV (α:=ai×Int) (qC qU (q1 qI)) [.box false,.ro] (fun(c,aM)=>[bh c,aM<=1000]) (fun(c,aM)=>⟨[dA .hH (tm c aM),dA .cf (instA c aM)],[false,false],[dU (instAC c aM)]⟩)
def apk:HH:=hF aov func13 [ao7,nb,FD,ao6,ao5,ao4,ao3,ao2] a0 fun x hp hb=>by
 obtain⟨c,aM⟩:=x
 have bp:bh c:=hp _ m0
 have eN:aM<=1000:=hp _ m1
 clear hp hb
 apply vE (let x3:=[(-1),1000000000,1000000001];let x4:=aa (aa (instDC c aM) 16) 8;let x2:=x3.length;let x1:=(↑x2:Int);let x0:=aa (aa (instDC c aM) 16) x1;let q0:=aa (instDC c aM) 16;let q1:=instD c aM;let q2:=aG (instA c aM);let q3:=tm c aM;let q4:=instDC c aM;let q5:=instAC c aM;let q6:=(cD c).Name;bh c/\aM<=1000/\0<=q4.i/\L4 q4.b.length/\bif af q4 (16:Int)==(0:Int) then 0<=q0.i/\L4 q0.b.length/\LM [DV.agg [CS q6,CL .bE (cD c).aA],DV.agg [CL .aJ q1.S.ab,CI (q1.S.Next),CL .aE q1.ay,CL .ax q1.ag,CL .aI q1.ap,CL .aL q1.av,CI (af q0 8),CI (q1.bR)]] [DV.agg [CS (q3.Name),CL .bE q3.aA],DV.agg q2] [bU x4] [bU q5] else bif af q4 (16:Int)==(1:Int) then 0<=q0.i/\L4 q0.b.length/\1<=x2/\LM [DV.agg [CS q6,CL .bE (cD c).aA],DV.agg [CL .aJ q1.S.ab,CI (q1.S.Next),CL .aE q1.ay,CL .ax q1.ag,CL .aI q1.ap,CL .aL q1.av,CI (q1.State),CI (x3.getD (Int.toNat (af q0 x1)) 0)]] [DV.agg [CS (q3.Name),CL .bE q3.aA],DV.agg q2] [bU x0] [bU q5] else bif af q4 (16:Int)==(2:Int) then bh q0/\LM [DV.agg [CS q6,CL .bE (cD c).aA],DV.agg [CL .aJ (lf q0).ab,CI ((lf q0).Next),CL .aE q1.ay,CL .ax q1.ag,CL .aI q1.ap,CL .aL q1.av,CI (q1.State),CI (q1.bR)]] [DV.agg [CS (q3.Name),CL .bE q3.aA],DV.agg q2] [bU (j_ q0)] [bU q5] else bif af q4 (16:Int)==(3:Int) then bh q0/\LM [DV.agg [CS q6,CL .bE (cD c).aA],DV.agg [CL .aJ q1.S.ab,CI (q1.S.Next),CL .aE q1.ay,CL .ax (sn q0),CL .aI q1.ap,CL .aL q1.av,CI (q1.State),CI (q1.bR)]] [DV.agg [CS (q3.Name),CL .bE q3.aA],DV.agg q2] [bU (po q0)] [bU q5] else bif af q4 (16:Int)==(4:Int) then bh q0/\LM [DV.agg [CS q6,CL .bE (cD c).aA],DV.agg [CL .aJ q1.S.ab,CI (q1.S.Next),CL .aE q1.ay,CL .ax q1.ag,CL .aI q1.ap,CL .aL (sk q0),CI (q1.State),CI (q1.bR)]] [DV.agg [CS (q3.Name),CL .bE q3.aA],DV.agg q2] [bU (nA q0)] [bU q5] else bif af q4 (16:Int)==(5:Int) then bh q0/\q1.ay.length+List.length [ln q0]<=4294967296/\LM [DV.agg [CS q6,CL .bE (cD c).aA],DV.agg [CL .aJ q1.S.ab,CI (q1.S.Next),CL .aE (q1.ay++[ln q0]),CL .ax q1.ag,CL .aI q1.ap,CL .aL q1.av,CI (q1.State),CI (q1.bR)]] [DV.agg [CS (q3.Name),CL .bE q3.aA],DV.agg q2] [bU (n8 q0)] [bU q5] else bif af q4 (16:Int)==(6:Int) then bh q0/\LM [DV.agg [CS ((qy q0).Name),CL .bE (qy q0).aA],DV.agg (aG q1)] [DV.agg [CS (q3.Name),CL .bE q3.aA],DV.agg q2] [bU (jz q0)] [bU q5] else LM [DV.agg [CS q6,CL .bE (cD c).aA],DV.agg (aG q1)] [DV.agg [CS (q3.Name),CL .bE q3.aA],DV.agg q2] [bU q0] [bU q5])
 dsimp only
 have hd:=Hm bp aM
 have he:=B9 bp aM
 have hF:=(Ee (c:=c) eN).tocoreX.Lo
 refine⟨bp,eN,hd.1,hd.2,bo (fun k=> ?_) (fun k0=>bo (fun k=> ?_) (fun k1=>bo (fun k=> ?_) (fun k2=>bo (fun k=> ?_) (fun k3=>bo (fun k=> ?_) (fun k4=>bo (fun k=> ?_) (fun k5=>bo (fun k=> ?_) (fun k6=> ?_)))))))⟩
 ·have e1:instA c aM=⟨(instD c aM).S,(instD c aM).ay,(instD c aM).ag,(instD c aM).ap,(instD c aM).av,af (vW c aM) 8,(instD c aM).bR⟩:=if_pos k
  have e2:instAC c aM=aa (vW c aM) 8:=if_pos k
  have e3:tm c aM=cD c:=if_neg (fun g=>absurd (k.symm.trans g) (by decide))
  exact⟨he.1,he.2,rfl,J4 e3.symm e1.symm e2.symm⟩
 ·have e1:instA c aM=Gn (instD c aM) (gU (vW c aM) Ia):=(if_neg k0).trans (if_pos k)
  have e2:instAC c aM=ku (vW c aM) Ia:=(if_neg k0).trans (if_pos k)
  have e3:tm c aM=cD c:=if_neg (fun g=>absurd (k.symm.trans g) (by decide))
  exact⟨he.1,he.2,by decide,rfl,J4 e3.symm e1.symm e2.symm⟩
 ·have e1:instA c aM=tR (instD c aM) (lf (vW c aM)):=(if_neg k0).trans ((if_neg k1).trans (if_pos k))
  have e2:instAC c aM=j_ (vW c aM):=(if_neg k0).trans ((if_neg k1).trans (if_pos k))
  have e3:tm c aM=cD c:=if_neg (fun g=>absurd (k.symm.trans g) (by decide))
  exact⟨he,rfl,J4 e3.symm e1.symm e2.symm⟩
 ·have e1:instA c aM=mK (instD c aM) (sn (vW c aM)):=(if_neg k0).trans ((if_neg k1).trans ((if_neg k2).trans (if_pos k)))
  have e2:instAC c aM=po (vW c aM):=(if_neg k0).trans ((if_neg k1).trans ((if_neg k2).trans (if_pos k)))
  have e3:tm c aM=cD c:=if_neg (fun g=>absurd (k.symm.trans g) (by decide))
  exact⟨he,rfl,J4 e3.symm e1.symm e2.symm⟩
 ·have e1:instA c aM=DL (instD c aM) (sk (vW c aM)):=(if_neg k0).trans ((if_neg k1).trans ((if_neg k2).trans ((if_neg k3).trans (if_pos k))))
  have e2:instAC c aM=nA (vW c aM):=(if_neg k0).trans ((if_neg k1).trans ((if_neg k2).trans ((if_neg k3).trans (if_pos k))))
  have e3:tm c aM=cD c:=if_neg (fun g=>absurd (k.symm.trans g) (by decide))
  exact⟨he,rfl,J4 e3.symm e1.symm e2.symm⟩
 ·have e1:instA c aM=DM (instD c aM) ((instD c aM).ay++[ln (vW c aM)]):=(if_neg k0).trans ((if_neg k1).trans ((if_neg k2).trans ((if_neg k3).trans ((if_neg k4).trans (if_pos k)))))
  have e2:instAC c aM=n8 (vW c aM):=(if_neg k0).trans ((if_neg k1).trans ((if_neg k2).trans ((if_neg k3).trans ((if_neg k4).trans (if_pos k)))))
  have e3:tm c aM=cD c:=if_neg (fun g=>absurd (k.symm.trans g) (by decide))
  exact⟨he,by show(instD c aM).ay.length+1<=4294967296;omega,rfl,J4 e3.symm e1.symm e2.symm⟩
 ·have e1:instA c aM=instD c aM:=(if_neg k0).trans ((if_neg k1).trans ((if_neg k2).trans ((if_neg k3).trans ((if_neg k4).trans (if_neg k5)))))
  have e2:instAC c aM=jz (vW c aM):=(if_neg k0).trans ((if_neg k1).trans ((if_neg k2).trans ((if_neg k3).trans ((if_neg k4).trans ((if_neg k5).trans (if_pos k))))))
  have e3:tm c aM=qy (vW c aM):=if_pos k
  exact⟨he,rfl,J4 e3.symm e1.symm e2.symm⟩
 ·have e1:instA c aM=instD c aM:=(if_neg k0).trans ((if_neg k1).trans ((if_neg k2).trans ((if_neg k3).trans ((if_neg k4).trans (if_neg k5)))))
  have e2:instAC c aM=vW c aM:=(if_neg k0).trans ((if_neg k1).trans ((if_neg k2).trans ((if_neg k3).trans ((if_neg k4).trans ((if_neg k5).trans (if_neg k6))))))
  have e3:tm c aM=cD c:=if_neg k6
  exact⟨rfl,J4 e3.symm e1.symm e2.symm⟩
def AT:List BA:=[⟨#[111,114,100,101,114,40,49,41]⟩,⟨#[112,97,105,100,40,39,97,39,41]⟩,⟨#[]⟩,⟨#[120]⟩]
def wZ(c:ai)(l:List aj):BA:=if 0<l.length then(if bP c 4=true then cx (aa c 4) AT else bg (l.getD (af (aa c 4) l.length).toNat aD).F) else cx c AT
def uc(c:ai)(l:List aj):ai:=if 0<l.length then(if bP c 4=true then bT (aa c 4) AT else aa (aa c 4) l.length) else bT c AT
theorem Ws{c:ai}{l:List aj}(h:bh c):bh (uc c l):=by
 unfold uc;split
 ·split
  ·exact dw (au h 4) _
  ·exact au (au h 4) _
 ·exact dw h _
def aoa:=bV (α:=ai×(List aj)) (qC qU (q1 (qL .ax))) [.box false,.ro] (fun(c,l)=>[bh c]) (fun(c,l)=>⟨[dS (wZ c l)],[],[dU (uc c l)]⟩)
def ao1:HH:=hF aoa func48 [xo,nb,Hy,rJ] a0 fun x hp hb=>by
 obtain⟨c,l⟩:=x
 have bp:bh c:=hp _ m0
 clear hp hb
 apply vE (let x0:=[{data:= #[(111:UInt8),(114:UInt8),(100:UInt8),(101:UInt8),(114:UInt8),(40:UInt8),(49:UInt8),(41:UInt8)]:BA},{data:= #[(112:UInt8),(97:UInt8),(105:UInt8),(100:UInt8),(40:UInt8),(39:UInt8),(97:UInt8),(39:UInt8),(41:UInt8)]:BA},{data:= #[]:BA},{data:= #[(120:UInt8)]:BA}];let x2:=(l.length:Int);let x3:=bT (aa c 4) x0;let x1:=aa (aa c 4) x2;let q0:=aa c 4;bif decide (x2>0) then bh c/\bif !bP c 4 then 0<=q0.i/\L4 q0.b.length/\0<=af q0 x2/\Int.toNat (af q0 x2)<l.length/\LM [VS (bg (l.getD (Int.toNat (af q0 x2)) aD).F)] [VS (wZ c l)] [bU x1] [bU (uc c l)] else bh q0/\1<=x0.length/\LM [VS (cx q0 x0)] [VS (wZ c l)] [bU x3] [bU (uc c l)] else bh c/\1<=x0.length/\LM [VS (cx c x0)] [VS (wZ c l)] [bU (bT c x0)] [bU (uc c l)])
 dsimp only
 have h4:=au bp 4
 refine ae ?_ ?_<;>intro h
 ·have h:=yT h
  have hl:0<l.length:=by omega
  have hb:=bx (c:=aa c 4) (n:=l.length) (by omega)
  refine⟨bp,ae (fun ho=> ?_) (fun ho=> ?_)⟩
  ·have ho:bP c 4=false:=by simpa using ho
   have e1:wZ c l=bg (l.getD (af (aa c 4) l.length).toNat aD).F:=by rw[wZ,if_pos hl,if_neg (by rw[ho];simp)]
   have e2:uc c l=aa (aa c 4) l.length:=by rw[uc,if_pos hl,if_neg (by rw[ho];simp)]
   rw[e1,e2]
   exact⟨h4.1,h4.2,hb.1,by omega,by trivial,rfl,rfl⟩
  ·have ho:bP c 4=true:=by simpa using ho
   have e1:wZ c l=cx (aa c 4) AT:=by rw[wZ,if_pos hl,if_pos ho]
   have e2:uc c l=bT (aa c 4) AT:=by rw[uc,if_pos hl,if_pos ho]
   rw[e1,e2]
   exact⟨h4,by simp,by trivial,rfl,rfl⟩
 ·have h:=yF h
  have hl:¬0<l.length:=by omega
  have e1:wZ c l=cx c AT:=by rw[wZ,if_neg hl]
  have e2:uc c l=bT c AT:=by rw[uc,if_neg hl]
  rw[e1,e2]
  exact⟨bp,by simp,by trivial,rfl,rfl⟩
noncomputable def fz(code:List Int):aq:=instA (lm code) (np code 20)
noncomputable def rkC(code:List Int):ai:=instAC (lm code) (np code 20)
noncomputable def FM(code:List Int):BA:=wZ (rkC code) (fz code).ag
noncomputable def UP(code:List Int):ai:=uc (rkC code) (fz code).ag
def aot:=bV (α:=ai×aq) (qC qU (q1 (qA .cf))) [.box false,.ro] (fun(c,x)=>[bh c]) (fun(c,x)=>⟨[dS (wZ c x.ag)],[],[dU (uc c x.ag)]⟩)
def api:HH:=hF aot func15 [ao1] a0 fun x hp hb=>by
 obtain⟨c,x⟩:=x
 have bp:bh c:=hp _ m0
 clear hp hb
 apply vE (bh c/\LM [VS (wZ c x.ag)] [VS (wZ c x.ag)] [bU (uc c x.ag)] [bU (uc c x.ag)])
 exact⟨bp,by trivial,rfl,rfl⟩
def Zk5:=bV (α:=List Int) (q1 (qL .byte)) [.ro] (fun code=>[L4 code.length]) (fun code=>⟨[dA .hH (tm (lm code) (np code 20)),dA .cf (fz code),dS (FM code),dO (!bP (UP code) 3),dA .bc (gF (aa (UP code) 3))],[false,false,false,false,false],[]⟩)
def Zh5:HH:=hF Zk5 func5 [apl,apj,apk,api,xo,abS] a0 fun(code:List Int) hp hb=>by
 have bp:code.length<=4294967296:=hp _ m0
 clear hp hb
 apply vE (let x0:=gF (aa (uc (instAC (lm code) (np code 20)) (instA (lm code) (np code 20)).ag) 3);let x1:=gF (aa (UP code) 3);let q0:=np code 20;let q1:=lm code;let q2:=uc (instAC q1 q0) (instA q1 q0).ag;L4 code.length/\L4 code.length/\bh q1/\np code (20:Int)<=(1000:Int)/\bh (instAC q1 q0)/\bh q2/\bh (aa q2 3)/\Lf [DV.agg [CS ((tm q1 q0).Name),CL .bE (tm q1 q0).aA],DV.agg (aG (instA q1 q0)),VS (wZ (instAC q1 q0) (instA q1 q0).ag),VB (!bP q2 3),DV.agg [CI x0.K,CI x0.N,CS x0.S]] [DV.agg [CS ((tm q1 q0).Name),CL .bE (tm q1 q0).aA],DV.agg (aG (fz code)),VS (FM code),VB (!bP (UP code) 3),DV.agg [CI x1.K,CI x1.N,CS x1.S]])
 dsimp only
 have hs:=Ko code 20
 have h1:bh (rkC code):=Qp (B8 bp) _
 have h2:bh (UP code):=Ws h1
 exact⟨bp,bp,B8 bp,by omega,h1,h2,au h2 3,aX _⟩
theorem R'{s:aF}(h:bm s=true){f:aK}(h0:ib s.ab f=0):ib (s.ab++[⟨s.Next,f⟩]) f=s.Next:=by
 have hn:=GQ h h0
 have e:EH (s.ab++[⟨s.Next,f⟩]) f=(s.ab.length:Int):=by
  refine fE (by simp) ?_ fun j hj=> ?_
  ·simp[ez]
  ·have:List.getD (s.ab++[⟨s.Next,f⟩]) j a_=s.ab.getD j a_:=by
    rw[ez,ez,xA hj]
   simp only[this]
   exact decide_eq_false (hn _ (gJ hj))
 unfold ib
 rw[e,if_neg (by omega)]
 simp[ez]
theorem IJ{s:aF}(h:bm s=true){f:aK}(h0:¬(bQ s f).2=0):0<ib (bQ s f).1.ab f:=by
 have hn:=N7 h f
 unfold bQ at h0⊢
 split
 ·rename_i g;show 0<ib s.ab f;omega
 ·rename_i g
  rw[if_neg g] at h0
  split
  ·rename_i k;rw[if_pos k] at h0;exact absurd rfl h0
  ·show 0<ib (s.ab++[⟨s.Next,f⟩]) f
   rw[R' h (by omega)]
   have:=(ju h).1;omega
theorem AO(x:aq):(gq x 3).State≠1:=by
 unfold gq gD
 split
 ·show(if(rF x 3).State=5 then(6:Int) else 4)≠1
  split<;>decide
 ·show(3:Int)≠1;decide
theorem GM{x:aq}{f:aK}(h:(dj x f).State=1):¬(bQ x.S f).2=0/\dj x f=tR x (bQ x.S f).1:=by
 unfold dj at h⊢
 by_cases g:(bQ x.S f).2=0
 ·rw[if_pos g] at h;exact absurd h (AO x)
 ·exact⟨g,if_neg g⟩
theorem wY{l:List aj}{key:BA}{ok:Bool}{v:aS}{k:Nat}:aC (l.modify k (kE ok v)) key=aC l key:=by
 unfold aC
 rw[Gm]
 refine pS fun j hj=> ?_
 congr 2
 rw[ez,ez,Uz,fw hj]
 show bg (((if k=j then kE ok v l[j] else l[j])).F)=bg (l[j]).F
 split<;>rfl
theorem zR{l:List aj}{key:BA}{ok:Bool}{v:aS}(h:(aB l key ok v).2=1):0<=aC l key/\(aC l key).toNat<l.length/\bB v=true/\aW l=true/\(aB l key ok v).1=l.modify (aC l key).toNat (kE ok v):=by
 have h1:aW l=true/\bB v=true/\0<=aC l key/\(l.getD (aC l key).toNat aD).State≠1:=Classical.byContradiction fun c=>by rw[iQ c] at h;simp at h
 have h2:(l.getD (aC l key).toNat aD).State=2:=Classical.byContradiction fun c=>by rw[nH h1 c] at h;simp at h
 have e:=congrArg Prod.fst (pB (key:=key) (ok:=ok) (v:=v) h1 h2)
 have hk:=kz (l:=l) (key:=key) h1.2.2.1
 exact⟨h1.2.2.1,by omega,h1.2.1,h1.1,e⟩
theorem Bi{l:List aj}{k:Nat}(hk:k<l.length)(f:aj->aj):(l.modify k f).getD k aD=f (l.getD k aD):=by
 rw[ez,ez,Uz,fw hk]
 simp
theorem Qv{l:List aj}{key:BA}{ok:Bool}{v:aS}(h:(aB l key ok v).2=1)(ok':Bool):aB (aB l key ok v).1 key ok' v=((aB l key ok v).1,2):=by
 obtain⟨a,b,c,d,e⟩:=zR h
 have hT:=nW (key:=key) (ok:=ok) (v:=v) d
 rw[e] at hT⊢
 have hg:=Bi b (kE ok v)
 have hs:((l.modify (aC l key).toNat (kE ok v)).getD (aC (l.modify (aC l key).toNat (kE ok v)) key).toNat aD).State=if ok=true then 3 else 4:=by rw[wY,hg];rfl
 refine nH ⟨hT,c,by rw[wY];exact a,?_⟩ ?_
 ·rw[hs];split<;>decide
 ·rw[hs];split<;>decide
theorem Qs{x:aq}{k:Nat}{ok:Bool}{v:aS}(hs:x.State=1)(hy:(yX x k ok v).State=1):∃us,yX x k ok v=⟨(bQ x.S (lZ (x.ag.getD k aD).F (uu ok) v)).1,x.ay,x.ag,x.ap,us,x.State,x.bR⟩/\¬(bQ x.S (lZ (x.ag.getD k aD).F (uu ok) v)).2=0:=by
 rw[B_ hs] at hy⊢
 by_cases c1:ok=true/\(x.ag.getD k aD).aR≠ao
 ·rw[if_pos c1] at hy⊢
  by_cases c2:(bH x.av (x.ag.getD k aD)).2=true
  ·rw[if_pos c2] at hy⊢
   obtain⟨g1,g2⟩:=GM hy
   exact⟨_,g2,g1⟩
  ·rw[if_neg c2] at hy;exact absurd hy (AO _)
 ·rw[if_neg c1] at hy⊢
  obtain⟨g1,g2⟩:=GM hy
  exact⟨_,g2,g1⟩
theorem Kx{d:br}{x:aq}(hx:cH d x){key:BA}{ok:Bool}{v:aS}(hr:(aB x.ag key ok v).2=1)(hs:x.State=1)(hy:(cm x key ok v).1.State=1):
  (∀ok',cm (cm x key ok v).1 key ok' v=((cm x key ok v).1,2))/\0<ib (cm x key ok v).1.S.ab (lZ (x.ag.getD (aC x.ag key).toNat aD).F (uu ok) v):=by
 obtain⟨a,b,c,_,e⟩:=zR hr
 have ho:=Qv hr
 have eR:(cm x key ok v).1=yX (mK x (aB x.ag key ok v).1) (aC (aB x.ag key ok v).1 key).toNat ok v:=by unfold cm;rw[if_pos hr]
 have ek:aC (aB x.ag key ok v).1 key=aC x.ag key:=by rw[e,wY]
 have eF:((aB x.ag key ok v).1.getD (aC x.ag key).toNat aD).F=(x.ag.getD (aC x.ag key).toNat aD).F:=by rw[e,Bi b];rfl
 rw[eR,ek] at hy⊢
 obtain⟨us,ey,en⟩:=Qs (x:=mK x (aB x.ag key ok v).1) hs hy
 rw[ey]
 have en:¬(bQ x.S (lZ ((aB x.ag key ok v).1.getD (aC x.ag key).toNat aD).F (uu ok) v)).2=0:=en
 have hk:=IJ hx.store en
 refine⟨fun ok'=> ?_,?_⟩
 ·have h2:=ho ok'
  unfold cm
  show(if(aB (aB x.ag key ok v).1 key ok' v).2=1 then _ else(_,(aB (aB x.ag key ok v).1 key ok' v).2))=_
  rw[h2]
  exact if_neg (show¬(2:Int)=1 by decide)
 ·rw[eF] at hk;show 0<ib (bQ x.S (lZ ((aB x.ag key ok v).1.getD (aC x.ag key).toNat aD).F (uu ok) v)).1.ab _
  rw[eF];exact hk
theorem LO(x:aq):(gD x).av=x.av:=by unfold gD;split<;>rfl
theorem FY{d:br}{x:aq}(hx:cH d x){key:BA}{ok:Bool}{v:aS}(hr:(aB x.ag key ok v).2=1)(hs:¬x.State=1):(cm x key ok v).1.av.length=x.av.length-1/\1<=x.av.length:=by
 have hl:=pP (pA.2 hx) hr
 have hu:=hx.HD (by omega)
 have eR:(cm x key ok v).1=qT (mK x (aB x.ag key ok v).1):=by
  unfold cm;rw[if_pos hr];exact if_pos hs
 refine⟨?_,Nat.pos_of_ne_zero fun e=>hu (FL e)⟩
 rw[eR,qT,LO]
 show(x.av.take (x.av.length-1)).length=_
 rw[oc];omega
theorem Wx(a b:cI):(a.K==b.K&&(ByteArray.toList a.S==ByteArray.toList b.S&&((a.V.K==b.V.K&&(a.V.N==b.V.N&&(ByteArray.toList a.V.S==ByteArray.toList b.V.S&&true)))&&true)))=decide (a=b):=by
 obtain⟨a1,a2,⟨a3,a4,a5⟩⟩:=a
 obtain⟨b6,b7,⟨b8,b9,b10⟩⟩:=b
 simp only[aQ,BL]
 rw[FJ]
 simp only[cJ,beq_iff_eq,decide_eq_true_eq,cI.mk.injEq,aS.mk.injEq]
theorem LC(a b:dy):(a.Op==b.Op&&((a.L.K==b.L.K&&(ByteArray.toList a.L.S==ByteArray.toList b.L.S&&((a.L.V.K==b.L.V.K&&(a.L.V.N==b.L.V.N&&(ByteArray.toList a.L.V.S==ByteArray.toList b.L.V.S&&true)))&&true)))&&((a.R.K==b.R.K&&(ByteArray.toList a.R.S==ByteArray.toList b.R.S&&((a.R.V.K==b.R.V.K&&(a.R.V.N==b.R.V.N&&(ByteArray.toList a.R.V.S==ByteArray.toList b.R.V.S&&true)))&&true)))&&true)))=decide (a=b):=by
 obtain⟨a11,⟨a12,a13,⟨a14,a15,a16⟩⟩,⟨a17,a18,⟨a19,a20,a21⟩⟩⟩:=a
 obtain⟨b22,⟨b23,b24,⟨b25,b26,b27⟩⟩,⟨b28,b29,⟨b30,b31,b32⟩⟩⟩:=b
 simp only[aQ,BL]
 rw[FJ]
 simp only[cJ,beq_iff_eq,decide_eq_true_eq,cI.mk.injEq,dy.mk.injEq,aS.mk.injEq]
theorem SY(a b:ct):(ByteArray.toList a.Op==ByteArray.toList b.Op&&((a.L.K==b.L.K&&(ByteArray.toList a.L.S==ByteArray.toList b.L.S&&((a.L.V.K==b.L.V.K&&(a.L.V.N==b.L.V.N&&(ByteArray.toList a.L.V.S==ByteArray.toList b.L.V.S&&true)))&&true)))&&((a.R.K==b.R.K&&(ByteArray.toList a.R.S==ByteArray.toList b.R.S&&((a.R.V.K==b.R.V.K&&(a.R.V.N==b.R.V.N&&(ByteArray.toList a.R.V.S==ByteArray.toList b.R.V.S&&true)))&&true)))&&true)))=decide (a=b):=by
 obtain⟨a33,⟨a34,a35,⟨a36,a37,a38⟩⟩,⟨a39,a40,⟨a41,a42,a43⟩⟩⟩:=a
 obtain⟨b44,⟨b45,b46,⟨b47,b48,b49⟩⟩,⟨b50,b51,⟨b52,b53,b54⟩⟩⟩:=b
 simp only[aQ,BL]
 rw[FJ]
 simp only[cJ,beq_iff_eq,decide_eq_true_eq,cI.mk.injEq,ct.mk.injEq,aS.mk.injEq]
theorem Tm(a b:bZ):(ByteArray.toList a.Name==ByteArray.toList b.Name&&((a.V.K==b.V.K&&(a.V.N==b.V.N&&(ByteArray.toList a.V.S==ByteArray.toList b.V.S&&true)))&&true))=decide (a=b):=by
 obtain⟨a55,⟨a56,a57,a58⟩⟩:=a
 obtain⟨b59,⟨b60,b61,b62⟩⟩:=b
 simp only[aQ,BL]
 rw[FJ]
 simp only[cJ,beq_iff_eq,decide_eq_true_eq,bZ.mk.injEq,aS.mk.injEq]
theorem abz(x y:cr):x=y↔x.Kind=y.Kind/\x.az=y.az/\x.Not=y.Not:=by cases x;cases y;simp[cr.mk.injEq]
theorem abA(x y:ew):x=y↔x.Kind=y.Kind/\x.Name=y.Name/\x.az=y.az/\x.N=y.N/\x.aR=y.aR:=by cases x;cases y;simp[ew.mk.injEq]
theorem S3(x y:aw):x=y↔x.cG=y.cG/\x.ee=y.ee/\x.bz=y.bz:=by cases x;cases y;simp[aw.mk.injEq]
theorem Wj(x y:bN):x=y↔x.Id=y.Id/\x.F=y.F:=by cases x;cases y;simp[bN.mk.injEq]
theorem S0(x y:aN):x=y↔x.At=y.At/\x.F=y.F:=by cases x;cases y;simp[aN.mk.injEq]
theorem Wh(x y:bq):x=y↔x.Key=y.Key/\x.F=y.F:=by cases x;cases y;simp[bq.mk.injEq]
theorem Wi(x y:aj):x=y↔x.F=y.F/\x.aR=y.aR/\x.State=y.State/\x.bi=y.bi/\x.ie=y.ie/\x.V=y.V:=by cases x;cases y;simp[aj.mk.injEq]
theorem Om(x y:bf):x=y↔x.Name=y.Name/\x.je=y.je/\x.aH=y.aH/\x.aU=y.aU/\x.bI=y.bI:=by cases x;cases y;simp[bf.mk.injEq]
theorem S4(x y:br):x=y↔x.Name=y.Name/\x.aA=y.aA:=by cases x;cases y;simp[br.mk.injEq]
theorem Wg(x y:sB):x=y↔x.Name=y.Name/\x.Def=y.Def/\x.X=y.X:=by cases x;cases y;simp[sB.mk.injEq]
theorem S1(x y:aF):x=y↔x.ab=y.ab/\x.Next=y.Next:=by cases x;cases y;simp[aF.mk.injEq]
theorem Wk(x y:aq):x=y↔x.S=y.S/\x.ay=y.ay/\x.ag=y.ag/\x.ap=y.ap/\x.av=y.av/\x.State=y.State/\x.bR=y.bR:=by cases x;cases y;simp[aq.mk.injEq]
theorem Wl(x y:k_):x=y↔x.oN=y.oN/\x.jB=y.jB/\x.bR=y.bR/\x.AH=y.AH:=by cases x;cases y;simp[k_.mk.injEq]
def Yp:=bV (α:=(List aj)×(List aj)) (qC (qL .ax) (q1 (qL .ax))) [.ro,.ro] (fun _=>[]) (fun(a,b)=>⟨[dO (decide (a=b))],[],[]⟩)
def Dz(a:List aj)(b:List aj):Int×Unit->Prop:=fun(i,_)=>0<=i/\i<=a.length/\a.length=b.length/\(a.drop i.toNat=b.drop i.toNat↔a=b)
def CM(a:List aj)(b:List aj):Int×Unit->Nat:=fun(i,_)=>a.length-i.toNat
def ajW:AX Yp:=fun(a,b)=>b_ [(4,aY [iI 5] (fun _=>Dz a b) (CM a b))]
def aiL:HH:=hF Yp func137 [FF] ajW fun x hp hb=>by
 obtain⟨a,b⟩:=x
 have PU:L9 a.length:=lu (hb _ m0)
 have PS:L9 b.length:=lu (hb _ m1)
 clear hp hb
 apply vE (let q0:=Lb false (decide (a=b));bif (a.length:Int) !=(b.length:Int) then q0 else Dz a b (0,())/\∀(y:Int×PUnit),let x0:=b.getD y.1.toNat aD;let x1:=a.getD y.1.toNat aD;let q1:=(wrap i64 (y.1+1),());Dz a b y->bif decide (y.1<(a.length:Int)) then 0<=y.1/\y.1.toNat<a.length/\0<=y.1/\y.1.toNat<b.length/\bif !decide (x1.F=x0.F) then q0 else bif !ByteArray.toList x1.aR==ByteArray.toList x0.aR then q0 else bif x1.State !=x0.State then q0 else bif x1.bi !=x0.bi then q0 else bif x1.ie !=x0.ie then q0 else bif !(x1.V.K==x0.V.K&&(x1.V.N==x0.V.N&&(ByteArray.toList x1.V.S==ByteArray.toList x0.V.S&&true))) then q0 else Dz a b q1/\CM a b q1<CM a b y else Lb true (decide (a=b)))
 dsimp only
 refine ae (fun h=>nd (rB (by simpa using h))) (fun h=>⟨⟨by omega,by omega,(uU (a:=a) (b:=b) (by assumption)),by simp⟩,?_⟩)
 rintro⟨i,⟨⟩⟩ ⟨h1,h2,h3,hR⟩
 simp only
 refine ae ?_ ?_<;>intro hc
 ·have hc:i<a.length:=yT hc
  rw[wi]
  try simp only[gG]
  try simp only[aQ]
  have hz:_:=Wi (a.getD i.toNat aD) (b.getD i.toNat aD)
  repeat' (first|refine And.intro (by omega) ?_|refine ae (fun h=> ?_) (fun h=> ?_))
  all_goals first|exact nd (nv aD h1 hc (by omega) hR (by first|grind|(rw[hz];grind)))|exact⟨⟨by omega,by omega,h3,p9 aD h1 hc (by omega) hR (by first|grind|(rw[hz];grind))⟩,by simp only[CM];omega⟩
 ·have hc:a.length<=i:=by have:=yF hc;omega
  exact NC (my hc (by omega) hR)
def X6:=bV (α:=(List cr)×(List cr)) (qC (qL .du) (q1 (qL .du))) [.ro,.ro] (fun _=>[]) (fun(a,b)=>⟨[dO (decide (a=b))],[],[]⟩)
def Dl(a:List cr)(b:List cr):Int×Unit->Prop:=fun(i,_)=>0<=i/\i<=a.length/\a.length=b.length/\(a.drop i.toNat=b.drop i.toNat↔a=b)
def v_(a:List cr)(b:List cr):Int×Unit->Nat:=fun(i,_)=>a.length-i.toNat
def Dk(a:List cr)(b:List cr):Int×Int×Unit->Int×Int×Unit->Prop:=fun(i0,k0,_) (i,k,_)=>i=i0/\0<=k/\k<=(a.getD i.toNat cC).az.length/\(a.getD i.toNat cC).az.length=(b.getD i.toNat cC).az.length/\((a.getD i.toNat cC).az.drop k.toNat=(b.getD i.toNat cC).az.drop k.toNat↔(a.getD i.toNat cC).az=(b.getD i.toNat cC).az)
def Cx(a:List cr)(b:List cr):Int×Int×Unit->Nat:=fun(i,k,_)=>(a.getD i.toNat cC).az.length-k.toNat
def ajA:AX X6:=fun(a,b)=>b_ [(4,aY [iI 5] (fun _=>Dl a b) (v_ a b)),(9,aY [iI 5,iI 6] (Dk a b) (Cx a b))]
def aib:HH:=hF X6 func185 [] ajA fun x hp hb=>by
 obtain⟨a,b⟩:=x
 have SI:gW (U:=UU) (.one (.sl .du a)):=hb _ m0
 have PU:L9 a.length:=lu (hb _ m0)
 have PS:L9 b.length:=lu (hb _ m1)
 clear hp hb
 apply vE (let q0:=Lb false (decide (a=b));bif (a.length:Int) !=(b.length:Int) then q0 else Dl a b (0,())/\∀(y:Int×PUnit),let x0:=b.getD y.1.toNat cC;let x1:=a.getD y.1.toNat cC;let q1:=(y.1,0,());Dl a b y->bif decide (y.1<(a.length:Int)) then 0<=y.1/\y.1.toNat<a.length/\0<=y.1/\y.1.toNat<b.length/\bif !ByteArray.toList x1.Kind==ByteArray.toList x0.Kind then q0 else 0<=y.1/\y.1.toNat<a.length/\0<=y.1/\y.1.toNat<b.length/\bif !x1.Not==x0.Not then q0 else 0<=y.1/\y.1.toNat<a.length/\0<=y.1/\y.1.toNat<b.length/\bif (x1.az.length:Int) !=(x0.az.length:Int) then q0 else Dk a b q1 q1/\∀(aO:Int×Int×PUnit),let x2:=aO.2.1.toNat;let x5:=(b.getD aO.1.toNat cC).az.getD x2 mJ;let x6:=(a.getD aO.1.toNat cC).az.getD x2 mJ;let x7:=(↑((a.getD aO.1.toNat cC).az.length):Int);let x3:=x6.V;let x4:=x5.V;let q2:=(aO.1,wrap i64 (aO.2.1+1),());let q3:=(wrap i64 (aO.1+1),());Dk a b q1 aO->0<=aO.1/\aO.1.toNat<a.length/\bif decide (aO.2.1<x7) then 0<=aO.1/\aO.1.toNat<a.length/\0<=aO.2.1/\x2<(a.getD aO.1.toNat cC).az.length/\0<=aO.1/\aO.1.toNat<b.length/\0<=aO.2.1/\x2<(b.getD aO.1.toNat cC).az.length/\bif !(x6.K==x5.K&&(ByteArray.toList x6.S==ByteArray.toList x5.S&&(x3.K==x4.K&&(x3.N==x4.N&&(ByteArray.toList x3.S==ByteArray.toList x4.S&&true))&&true))) then q0 else Dk a b q1 q2/\Cx a b q2<Cx a b aO else Dl a b q3/\v_ a b q3<v_ a b y else Lb true (decide (a=b)))
 dsimp only
 refine ae (fun h=>nd (rB (by simpa using h))) (fun h=>⟨⟨by omega,by omega,(uU (a:=a) (b:=b) (by assumption)),by simp⟩,?_⟩)
 rintro⟨i,⟨⟩⟩ ⟨h1,h2,h3,hR⟩
 simp only
 refine ae ?_ ?_<;>intro hc
 ·have hc:i<a.length:=yT hc
  have hm:v_ a b (i+1,PUnit.unit)<v_ a b (i,()):=by simp only[v_];omega
  try simp only[Wx]
  try simp only[aQ]
  have hz:_:=abz (a.getD i.toNat cC) (b.getD i.toNat cC)
  have hlA:(a.getD i.toNat cC).az.length<=9223372036854775807:=Bd.len (Bd.row SI (x:=a.getD i.toNat cC) (c:=.sl .gB (a.getD i.toNat cC).az) (yj a _ h1 hc) (.tail _ (.head _)))
  repeat' (first|refine And.intro (by omega) ?_|refine ae (fun h=>nd (nv cC h1 hc (by omega) hR (by first|grind|(rw[hz];grind)))) (fun h=> ?_))
  refine⟨⟨rfl,by omega,by omega,(uU (a:=(a.getD i.toNat cC).az) (b:=(b.getD i.toNat cC).az) (by assumption)),by simp⟩,?_⟩
  rintro⟨i,k,⟨⟩⟩ ⟨rfl,g1,g2,g3,gR⟩
  try simp only
  repeat' (refine And.intro (by omega) ?_)
  refine ae ?_ ?_<;>intro hk
  ·have hk:=yT hk
   simp(disch:=omega) only[wrap_i64]
   repeat' (first|refine And.intro (by omega) ?_|refine ae (fun h=> ?_) (fun h=> ?_))
   all_goals first|exact nd (nv cC h1 hc (by omega) hR (fun e=>absurd (by rw[e]) (nv mJ g1 hk (by omega) gR (by grind))))|exact⟨⟨rfl,by omega,by omega,g3,p9 mJ g1 hk (by omega) gR (by grind)⟩,by simp only[Cx];omega⟩
  ·have hk:(a.getD i.toNat cC).az.length<=k:=by have:=yF hk;omega
   have he:=my hk (by omega) gR
   simp(disch:=omega) only[wrap_i64]
   exact⟨⟨by omega,by omega,h3,p9 cC h1 hc (by omega) hR (by first|grind|(rw[hz];grind))⟩,hm⟩
 ·have hc:a.length<=i:=by have:=yF hc;omega
  exact NC (my hc (by omega) hR)
def Yo:=bV (α:=(List aw)×(List aw)) (qC (qL .aE) (q1 (qL .aE))) [.ro,.ro] (fun _=>[]) (fun(a,b)=>⟨[dO (decide (a=b))],[],[]⟩)
def Dy(a:List aw)(b:List aw):Int×Unit->Prop:=fun(i,_)=>0<=i/\i<=a.length/\a.length=b.length/\(a.drop i.toNat=b.drop i.toNat↔a=b)
def wa(a:List aw)(b:List aw):Int×Unit->Nat:=fun(i,_)=>a.length-i.toNat
def Dx(a:List aw)(b:List aw):Int×Int×Unit->Int×Int×Unit->Prop:=fun(i0,k0,_) (i,k,_)=>i=i0/\0<=k/\k<=(a.getD i.toNat aZ).bz.length/\(a.getD i.toNat aZ).bz.length=(b.getD i.toNat aZ).bz.length/\((a.getD i.toNat aZ).bz.drop k.toNat=(b.getD i.toNat aZ).bz.drop k.toNat↔(a.getD i.toNat aZ).bz=(b.getD i.toNat aZ).bz)
def CK(a:List aw)(b:List aw):Int×Int×Unit->Nat:=fun(i,k,_)=>(a.getD i.toNat aZ).bz.length-k.toNat
def ajV:AX Yo:=fun(a,b)=>b_ [(4,aY [iI 5] (fun _=>Dy a b) (wa a b)),(9,aY [iI 5,iI 6] (Dx a b) (CK a b))]
def aiK:HH:=hF Yo func138 [YO] ajV fun x hp hb=>by
 obtain⟨a,b⟩:=x
 have SI:gW (U:=UU) (.one (.sl .aE a)):=hb _ m0
 have PU:L9 a.length:=lu (hb _ m0)
 have PS:L9 b.length:=lu (hb _ m1)
 clear hp hb
 apply vE (let q0:=Lb false (decide (a=b));bif (a.length:Int) !=(b.length:Int) then q0 else Dy a b (0,())/\∀(y:Int×PUnit),let x0:=a.getD y.1.toNat aZ;let x1:=b.getD y.1.toNat aZ;let q1:=(y.1,0,());Dy a b y->bif decide (y.1<(a.length:Int)) then 0<=y.1/\y.1.toNat<a.length/\0<=y.1/\y.1.toNat<b.length/\bif !decide (x0.cG=x1.cG/\x0.ee=x1.ee) then q0 else 0<=y.1/\y.1.toNat<a.length/\0<=y.1/\y.1.toNat<b.length/\bif (x0.bz.length:Int) !=(x1.bz.length:Int) then q0 else Dx a b q1 q1/\∀(aO:Int×Int×PUnit),let x2:=aO.2.1.toNat;let x3:=((b.getD aO.1.toNat aZ).bz.getD x2 tQ).V;let x4:=((a.getD aO.1.toNat aZ).bz.getD x2 tQ).V;let x5:=(↑((a.getD aO.1.toNat aZ).bz.length):Int);let q2:=(aO.1,wrap i64 (aO.2.1+1),());let q3:=(wrap i64 (aO.1+1),());Dx a b q1 aO->0<=aO.1/\aO.1.toNat<a.length/\bif decide (aO.2.1<x5) then 0<=aO.1/\aO.1.toNat<a.length/\0<=aO.2.1/\x2<(a.getD aO.1.toNat aZ).bz.length/\0<=aO.1/\aO.1.toNat<b.length/\0<=aO.2.1/\x2<(b.getD aO.1.toNat aZ).bz.length/\bif !(ByteArray.toList ((a.getD aO.1.toNat aZ).bz.getD x2 tQ).Name==ByteArray.toList ((b.getD aO.1.toNat aZ).bz.getD x2 tQ).Name&&(x4.K==x3.K&&(x4.N==x3.N&&(ByteArray.toList x4.S==ByteArray.toList x3.S&&true))&&true)) then q0 else Dx a b q1 q2/\CK a b q2<CK a b aO else Dy a b q3/\wa a b q3<wa a b y else Lb true (decide (a=b)))
 dsimp only
 refine ae (fun h=>nd (rB (by simpa using h))) (fun h=>⟨⟨by omega,by omega,(uU (a:=a) (b:=b) (by assumption)),by simp⟩,?_⟩)
 rintro⟨i,⟨⟩⟩ ⟨h1,h2,h3,hR⟩
 simp only
 refine ae ?_ ?_<;>intro hc
 ·have hc:i<a.length:=yT hc
  have hm:wa a b (i+1,PUnit.unit)<wa a b (i,()):=by simp only[wa];omega
  try simp only[Tm]
  try simp only[aQ]
  have hz:_:=S3 (a.getD i.toNat aZ) (b.getD i.toNat aZ)
  have hlA:(a.getD i.toNat aZ).bz.length<=9223372036854775807:=Bd.len (Bd.row SI (x:=a.getD i.toNat aZ) (c:=.sl .cv (a.getD i.toNat aZ).bz) (yj a _ h1 hc) (.tail _ (.tail _ (.head _))))
  repeat' (first|refine And.intro (by omega) ?_|refine ae (fun h=>nd (nv aZ h1 hc (by omega) hR (by first|grind|(rw[hz];grind)))) (fun h=> ?_))
  refine⟨⟨rfl,by omega,by omega,(uU (a:=(a.getD i.toNat aZ).bz) (b:=(b.getD i.toNat aZ).bz) (by assumption)),by simp⟩,?_⟩
  rintro⟨i,k,⟨⟩⟩ ⟨rfl,g1,g2,g3,gR⟩
  try simp only
  repeat' (refine And.intro (by omega) ?_)
  refine ae ?_ ?_<;>intro hk
  ·have hk:=yT hk
   simp(disch:=omega) only[wrap_i64]
   repeat' (first|refine And.intro (by omega) ?_|refine ae (fun h=> ?_) (fun h=> ?_))
   all_goals first|exact nd (nv aZ h1 hc (by omega) hR (fun e=>absurd (by rw[e]) (nv tQ g1 hk (by omega) gR (by grind))))|exact⟨⟨rfl,by omega,by omega,g3,p9 tQ g1 hk (by omega) gR (by grind)⟩,by simp only[CK];omega⟩
  ·have hk:(a.getD i.toNat aZ).bz.length<=k:=by have:=yF hk;omega
   have he:=my hk (by omega) gR
   simp(disch:=omega) only[wrap_i64]
   exact⟨⟨by omega,by omega,h3,p9 aZ h1 hc (by omega) hR (by first|grind|(rw[hz];grind))⟩,hm⟩
 ·have hc:a.length<=i:=by have:=yF hc;omega
  exact NC (my hc (by omega) hR)
def X5:=bV (α:=(List ew)×(List ew)) (qC (qL .dx) (q1 (qL .dx))) [.ro,.ro] (fun _=>[]) (fun(a,b)=>⟨[dO (decide (a=b))],[],[]⟩)
def Dj(a:List ew)(b:List ew):Int×Unit->Prop:=fun(i,_)=>0<=i/\i<=a.length/\a.length=b.length/\(a.drop i.toNat=b.drop i.toNat↔a=b)
def v8(a:List ew)(b:List ew):Int×Unit->Nat:=fun(i,_)=>a.length-i.toNat
def zj(a:List ew)(b:List ew):Int×T7×T7×Int×Unit->Int×T7×T7×Int×Unit->Prop:=fun(i0,fx0,fy0,k0,_) (i,fx,fy,k,_)=>i=i0/\0<=k/\k<=(a.getD i.toNat dh).az.length/\(a.getD i.toNat dh).az.length=(b.getD i.toNat dh).az.length/\((a.getD i.toNat dh).az.drop k.toNat=(b.getD i.toNat dh).az.drop k.toNat↔(a.getD i.toNat dh).az=(b.getD i.toNat dh).az)/\fx=((a.getD i.toNat dh).Kind,(a.getD i.toNat dh).Name,(a.getD i.toNat dh).az,(a.getD i.toNat dh).N,(a.getD i.toNat dh).aR,())/\fy=((b.getD i.toNat dh).Kind,(b.getD i.toNat dh).Name,(b.getD i.toNat dh).az,(b.getD i.toNat dh).N,(b.getD i.toNat dh).aR,())
def y7(a:List ew)(b:List ew):Int×T7×T7×Int×Unit->Nat:=fun(i,fx,fy,k,_)=>(a.getD i.toNat dh).az.length-k.toNat
def ajz:AX X5:=fun(a,b)=>b_ [(4,aY [iI 5] (fun _=>Dj a b) (v8 a b)),(11,aY [iI 5,.box 6 (6,1024) [.lit (.int .i64),.lit .str,.shr .bJ,.lit (.int .i64),.lit .str],.box 7 (7,1024) [.lit (.int .i64),.lit .str,.shr .bJ,.lit (.int .i64),.lit .str],iI 8] (zj a b) (y7 a b))]
def aia:HH:=hF X5 func186 [] ajz fun x hp hb=>by
 obtain⟨a,b⟩:=x
 have SI:gW (U:=UU) (.one (.sl .dx a)):=hb _ m0
 have PU:L9 a.length:=lu (hb _ m0)
 have PS:L9 b.length:=lu (hb _ m1)
 clear hp hb
 apply vE (let q0:=Lb false (decide (a=b));let q1:=Int×BA×List ct×Int×BA×PUnit;bif (a.length:Int) !=(b.length:Int) then q0 else Dj a b (0,())/\∀(y:Int×PUnit),let x0:=a.getD y.1.toNat dh;let x1:=b.getD y.1.toNat dh;let q2:=(y.1,(x0.Kind,x0.Name,x0.az,x0.N,x0.aR,()),(x1.Kind,x1.Name,x1.az,x1.N,x1.aR,()),0,());Dj a b y->bif decide (y.1<(a.length:Int)) then 0<=y.1/\y.1.toNat<a.length/\0<=y.1/\y.1.toNat<b.length/\bif x0.Kind !=x1.Kind then q0 else bif !ByteArray.toList x0.Name==ByteArray.toList x1.Name then q0 else bif x0.N !=x1.N then q0 else bif !ByteArray.toList x0.aR==ByteArray.toList x1.aR then q0 else bif (x0.az.length:Int) !=(x1.az.length:Int) then q0 else zj a b q2 q2/\∀(aO:Int×q1×q1×Int×PUnit),let x7:=aO.2.2.2.1.toNat;let qk:=aO.2.1.2.2.1.getD x7 eY;let pE:=aO.2.1.2.2.1.length;let x6:=aO.2.2.1.2.2.1.getD x7 eY;let mG:=qk.L;let ly:=qk.R;let gK:=(↑pE:Int);let x4:=x6.R;let x5:=x6.L;let x8:=ly.V;let x9:=mG.V;let x2:=x5.V;let x3:=x4.V;let q3:=(aO.1,(aO.2.1.1,aO.2.1.2.1,aO.2.1.2.2.1,aO.2.1.2.2.2.1,aO.2.1.2.2.2.2.1,()),(aO.2.2.1.1,aO.2.2.1.2.1,aO.2.2.1.2.2.1,aO.2.2.1.2.2.2.1,aO.2.2.1.2.2.2.2.1,()),wrap i64 (aO.2.2.2.1+1),());let q4:=(wrap i64 (aO.1+1),());zj a b q2 aO->bif decide (aO.2.2.2.1<gK) then 0<=aO.2.2.2.1/\x7<pE/\0<=aO.2.2.2.1/\x7<aO.2.2.1.2.2.1.length/\bif !(ByteArray.toList qk.Op==ByteArray.toList x6.Op&&(mG.K==x5.K&&(ByteArray.toList mG.S==ByteArray.toList x5.S&&(x9.K==x2.K&&(x9.N==x2.N&&(ByteArray.toList x9.S==ByteArray.toList x2.S&&true))&&true))&&(ly.K==x4.K&&(ByteArray.toList ly.S==ByteArray.toList x4.S&&(x8.K==x3.K&&(x8.N==x3.N&&(ByteArray.toList x8.S==ByteArray.toList x3.S&&true))&&true))&&true))) then q0 else zj a b q2 q3/\y7 a b q3<y7 a b aO else Dj a b q4/\v8 a b q4<v8 a b y else Lb true (decide (a=b)))
 dsimp only
 refine ae (fun h=>nd (rB (by simpa using h))) (fun h=>⟨⟨by omega,by omega,(uU (a:=a) (b:=b) (by assumption)),by simp⟩,?_⟩)
 rintro⟨i,⟨⟩⟩ ⟨h1,h2,h3,hR⟩
 simp only
 refine ae ?_ ?_<;>intro hc
 ·have hc:i<a.length:=yT hc
  have hm:v8 a b (i+1,PUnit.unit)<v8 a b (i,()):=by simp only[v8];omega
  try simp only[SY]
  try simp only[aQ]
  have hz:_:=abA (a.getD i.toNat dh) (b.getD i.toNat dh)
  have hlA:(a.getD i.toNat dh).az.length<=9223372036854775807:=Bd.len (Bd.row SI (x:=a.getD i.toNat dh) (c:=.sl .bJ (a.getD i.toNat dh).az) (yj a _ h1 hc) (.tail _ (.tail _ (.head _))))
  repeat' (first|refine And.intro (by omega) ?_|refine ae (fun h=>nd (nv dh h1 hc (by omega) hR (by first|grind|(rw[hz];grind)))) (fun h=> ?_))
  refine⟨⟨rfl,by omega,by omega,(uU (a:=(a.getD i.toNat dh).az) (b:=(b.getD i.toNat dh).az) (by assumption)),by simp,rfl,rfl⟩,?_⟩
  rintro⟨i,fx,fy,k,⟨⟩⟩ ⟨rfl,g1,g2,g3,gR,rfl,rfl⟩
  try simp only
  repeat' (refine And.intro (by omega) ?_)
  refine ae ?_ ?_<;>intro hk
  ·have hk:=yT hk
   simp(disch:=omega) only[wrap_i64]
   repeat' (first|refine And.intro (by omega) ?_|refine ae (fun h=> ?_) (fun h=> ?_))
   all_goals first|exact nd (nv dh h1 hc (by omega) hR (fun e=>absurd (by rw[e]) (nv eY g1 hk (by omega) gR (by grind))))|exact⟨⟨rfl,by omega,by omega,g3,p9 eY g1 hk (by omega) gR (by grind),rfl,rfl⟩,by simp only[y7];omega⟩
  ·have hk:(a.getD i.toNat dh).az.length<=k:=by have:=yF hk;omega
   have he:=my hk (by omega) gR
   simp(disch:=omega) only[wrap_i64]
   exact⟨⟨by omega,by omega,h3,p9 dh h1 hc (by omega) hR (by first|grind|(rw[hz];grind))⟩,hm⟩
 ·have hc:a.length<=i:=by have:=yF hc;omega
  exact NC (my hc (by omega) hR)
def Yq:=bV (α:=aF×aF) (qC (qA .cT) (q1 (qA .cT))) [.ro,.ro] (fun _=>[]) (fun(a,b)=>⟨[dO (decide (a=b))],[],[]⟩)
def DB(a:aF)(b:aF):Int×T3×T3×Unit->Prop:=fun(i,fa,fb,_)=>fa=(a.ab,a.Next,())/\fb=(b.ab,b.Next,())/\0<=i/\i<=a.ab.length/\a.ab.length=b.ab.length/\(a.ab.drop i.toNat=b.ab.drop i.toNat↔a.ab=b.ab)
def CN(a:aF)(b:aF):Int×T3×T3×Unit->Nat:=fun(i,fa,fb,_)=>a.ab.length-i.toNat
def ajX:AX Yq:=fun(a,b)=>b_ [(4,aY [iI 5,.box 2 (2,1024) [.shr .aJ,.lit (.int .i64)],.box 3 (3,1024) [.shr .aJ,.lit (.int .i64)]] (fun _=>DB a b) (CN a b))]
def aiM:HH:=hF Yq func136 [FF] ajX fun x hp hb=>by
 obtain⟨a,b⟩:=x
 have aa5:=kP (x:=a) (hb _ m0)
 have aaX:=kP (x:=b) (hb _ m1)
 clear hp hb
 apply vE (let q0:=Lb false (decide (a=b));bif a.Next !=b.Next then q0 else bif (a.ab.length:Int) !=(b.ab.length:Int) then q0 else DB a b (0,(a.ab,a.Next,()),(b.ab,b.Next,()),())/\∀(y:Int×NB×NB×PUnit),let x0:=y.2.2.1.1.getD y.1.toNat a_;let x1:=y.2.1.1.getD y.1.toNat a_;let x3:=y.2.1.1.length;let x2:=(↑x3:Int);let q1:=(wrap i64 (y.1+1),(y.2.1.1,y.2.1.2.1,()),(y.2.2.1.1,y.2.2.1.2.1,()),());DB a b y->bif decide (y.1<x2) then 0<=y.1/\y.1.toNat<x3/\0<=y.1/\y.1.toNat<y.2.2.1.1.length/\bif x1.Id !=x0.Id then q0 else 0<=y.1/\y.1.toNat<x3/\0<=y.1/\y.1.toNat<y.2.2.1.1.length/\bif !decide (x1.F=x0.F) then q0 else DB a b q1/\CN a b q1<CN a b y else Lb true (decide (a=b)))
 dsimp only
 have hy:_:=S1 a b
 try simp only[gG]
 try simp only[aQ]
 repeat' (refine ae (fun h=>nd (by first|grind|(have:=@rB;rw[hy];grind))) (fun h=> ?_))
 refine⟨⟨rfl,rfl,by omega,by omega,by grind,by simp⟩,?_⟩
 rintro⟨i,fa,fb,⟨⟩⟩ ⟨rfl,rfl,h1,h2,h3,hR⟩
 simp only
 refine ae ?_ ?_<;>intro hc
 ·have hc:i<a.ab.length:=yT hc
  rw[wi]
  try simp only[gG]
  try simp only[aQ]
  have hz:_:=Wj (a.ab.getD i.toNat a_) (b.ab.getD i.toNat a_)
  repeat' (first|refine And.intro (by omega) ?_|refine ae (fun h=> ?_) (fun h=> ?_))
  all_goals first|exact nd (fun e=>absurd (by rw[e]) (nv a_ h1 hc (by omega) hR (by first|grind|(rw[hz];grind))))|exact⟨⟨rfl,rfl,by omega,by omega,h3,p9 a_ h1 hc (by omega) hR (by first|grind|(rw[hz];grind))⟩,by simp only[CN];omega⟩
 ·have hc:a.ab.length<=i:=by have:=yF hc;omega
  have nK:=my hc (by omega) hR
  clear hR h1 h2 h3 hc
  repeat' (refine ae (fun h=> ?_) (fun h=> ?_))
  all_goals (refine cj ?_;grind)
def Yr:=bV (α:=bf×bf) (qC (qA .bE) (q1 (qA .bE))) [.ro,.ro] (fun _=>[]) (fun(a,b)=>⟨[dO (decide (a=b))],[],[]⟩)
def DC(a:bf)(b:bf):Int×T1×T1×Unit->Prop:=fun(i,fa,fb,_)=>fa=(a.Name,a.je,a.aH,a.aU,a.bI,())/\fb=(b.Name,b.je,b.aH,b.aU,b.bI,())/\0<=i/\i<=a.aU.length/\a.aU.length=b.aU.length/\(a.aU.drop i.toNat=b.aU.drop i.toNat↔a.aU=b.aU)
def CP(a:bf)(b:bf):Int×T1×T1×Unit->Nat:=fun(i,fa,fb,_)=>a.aU.length-i.toNat
def ajY:AX Yr:=fun(a,b)=>b_ [(4,aY [iI 5,.box 2 (2,1024) [.lit .str,.lit (.int .i64),.shr .du,.shr .ca,.shr .dx],.box 3 (3,1024) [.lit .str,.lit (.int .i64),.shr .du,.shr .ca,.shr .dx]] (fun _=>DC a b) (CP a b))]
def aiN:HH:=hF Yr func135 [aib,aia] ajY fun x hp hb=>by
 obtain⟨a,b⟩:=x
 have eV:=lV (x:=a) (hb _ m0)
 have PT:=eV.1
 have ab3:=eV.2.1
 have aa7:=eV.2.2.1
 have ab5:=eV.2.2.2
 have gZ:=lV (x:=b) (hb _ m1)
 have PR:=gZ.1
 have ab0:=gZ.2.1
 have aaZ:=gZ.2.2.1
 have ab2:=gZ.2.2.2
 clear hp hb
 apply vE (let q0:=Lb false (decide (a=b));let q1:=BA×Int×List cr×List dy×List ew×PUnit;bif !ByteArray.toList a.Name==ByteArray.toList b.Name then q0 else bif a.je !=b.je then q0 else bif (a.aU.length:Int) !=(b.aU.length:Int) then q0 else DC a b (0,(a.Name,a.je,a.aH,a.aU,a.bI,()),(b.Name,b.je,b.aH,b.aU,b.bI,()),())/\∀(y:Int×q1×q1×PUnit),let x4:=y.2.2.1.2.2.2.1.getD y.1.toNat qB;let x9:=y.2.1.2.2.2.1.getD y.1.toNat qB;let ly:=y.2.1.2.2.2.1.length;let x2:=x4.L;let x3:=x4.R;let x7:=x9.L;let x8:=x9.R;let mG:=(↑ly:Int);let x0:=x3.V;let x1:=x2.V;let x5:=x8.V;let x6:=x7.V;let q2:=(wrap i64 (y.1+1),(y.2.1.1,y.2.1.2.1,y.2.1.2.2.1,y.2.1.2.2.2.1,y.2.1.2.2.2.2.1,()),(y.2.2.1.1,y.2.2.1.2.1,y.2.2.1.2.2.1,y.2.2.1.2.2.2.1,y.2.2.1.2.2.2.2.1,()),());DC a b y->bif decide (y.1<mG) then 0<=y.1/\y.1.toNat<ly/\0<=y.1/\y.1.toNat<y.2.2.1.2.2.2.1.length/\bif !(x9.Op==x4.Op&&(x7.K==x2.K&&(ByteArray.toList x7.S==ByteArray.toList x2.S&&(x6.K==x1.K&&(x6.N==x1.N&&(ByteArray.toList x6.S==ByteArray.toList x1.S&&true))&&true))&&(x8.K==x3.K&&(ByteArray.toList x8.S==ByteArray.toList x3.S&&(x5.K==x0.K&&(x5.N==x0.N&&(ByteArray.toList x5.S==ByteArray.toList x0.S&&true))&&true))&&true))) then q0 else DC a b q2/\CP a b q2<CP a b y else bif decide (y.2.1.2.2.1=y.2.2.1.2.2.1) then Lb (decide (y.2.1.2.2.2.2.1=y.2.2.1.2.2.2.2.1)) (decide (a=b)) else q0)
 dsimp only
 have hy:_:=Om a b
 try simp only[LC]
 try simp only[aQ]
 repeat' (refine ae (fun h=>nd (by first|grind|(have:=@rB;rw[hy];grind))) (fun h=> ?_))
 refine⟨⟨rfl,rfl,by omega,by omega,by grind,by simp⟩,?_⟩
 rintro⟨i,fa,fb,⟨⟩⟩ ⟨rfl,rfl,h1,h2,h3,hR⟩
 simp only
 refine ae ?_ ?_<;>intro hc
 ·have hc:i<a.aU.length:=yT hc
  rw[wi]
  try simp only[LC]
  try simp only[aQ]
  have hz:True:=trivial
  repeat' (first|refine And.intro (by omega) ?_|refine ae (fun h=> ?_) (fun h=> ?_))
  all_goals first|exact nd (fun e=>absurd (by rw[e]) (nv qB h1 hc (by omega) hR (by first|grind|(rw[hz];grind))))|exact⟨⟨rfl,rfl,by omega,by omega,h3,p9 qB h1 hc (by omega) hR (by first|grind|(rw[hz];grind))⟩,by simp only[CP];omega⟩
 ·have hc:a.aU.length<=i:=by have:=yF hc;omega
  have nK:=my hc (by omega) hR
  clear hR h1 h2 h3 hc
  repeat' (refine ae (fun h=> ?_) (fun h=> ?_))
  all_goals (refine cj ?_;grind)
def afj:=bV (α:=br×br) (qC (qA .hH) (q1 (qA .hH))) [.ro,.ro] (fun _=>[]) (fun(a,b)=>⟨[dO (decide (a=b))],[],[]⟩)
def Ju(a:br)(b:br):Int×T2×T2×Unit->Prop:=fun(i,fa,fb,_)=>fa=(a.Name,a.aA,())/\fb=(b.Name,b.aA,())/\0<=i/\i<=a.aA.length/\a.aA.length=b.aA.length/\(a.aA.drop i.toNat=b.aA.drop i.toNat↔a.aA=b.aA)
def IU(a:br)(b:br):Int×T2×T2×Unit->Nat:=fun(i,fa,fb,_)=>a.aA.length-i.toNat
def apu:AX afj:=fun(a,b)=>b_ [(4,aY [iI 5,.box 2 (2,1024) [.lit .str,.shr .bE],.box 3 (3,1024) [.lit .str,.shr .bE]] (fun _=>Ju a b) (IU a b))]
def aoJ:HH:=hF afj func81 [aiN] apu fun x hp hb=>by
 obtain⟨a,b⟩:=x
 have eV:=kQ (x:=a) (hb _ m0)
 have PT:=eV.1
 have aa4:=eV.2
 have gZ:=kQ (x:=b) (hb _ m1)
 have PR:=gZ.1
 have aaW:=gZ.2
 clear hp hb
 apply vE (let q0:=Lb false (decide (a=b));bif !ByteArray.toList a.Name==ByteArray.toList b.Name then q0 else bif (a.aA.length:Int) !=(b.aA.length:Int) then q0 else Ju a b (0,(a.Name,a.aA,()),(b.Name,b.aA,()),())/\∀(y:Int×T9×T9×PUnit),let x1:=y.2.1.2.1.length;let x0:=(↑x1:Int);let q1:=(wrap i64 (y.1+1),(y.2.1.1,y.2.1.2.1,()),(y.2.2.1.1,y.2.2.1.2.1,()),());Ju a b y->bif decide (y.1<x0) then 0<=y.1/\y.1.toNat<x1/\0<=y.1/\y.1.toNat<y.2.2.1.2.1.length/\bif !decide (y.2.1.2.1.getD y.1.toNat cq=y.2.2.1.2.1.getD y.1.toNat cq) then q0 else Ju a b q1/\IU a b q1<IU a b y else Lb true (decide (a=b)))
 dsimp only
 have hy:_:=S4 a b
 try simp only[gG]
 try simp only[aQ]
 repeat' (refine ae (fun h=>nd (by first|grind|(have:=@rB;rw[hy];grind))) (fun h=> ?_))
 refine⟨⟨rfl,rfl,by omega,by omega,by grind,by simp⟩,?_⟩
 rintro⟨i,fa,fb,⟨⟩⟩ ⟨rfl,rfl,h1,h2,h3,hR⟩
 simp only
 refine ae ?_ ?_<;>intro hc
 ·have hc:i<a.aA.length:=yT hc
  rw[wi]
  try simp only[gG]
  try simp only[aQ]
  have hz:_:=Om (a.aA.getD i.toNat cq) (b.aA.getD i.toNat cq)
  repeat' (first|refine And.intro (by omega) ?_|refine ae (fun h=> ?_) (fun h=> ?_))
  all_goals first|exact nd (fun e=>absurd (by rw[e]) (nv cq h1 hc (by omega) hR (by first|grind|(rw[hz];grind))))|exact⟨⟨rfl,rfl,by omega,by omega,h3,p9 cq h1 hc (by omega) hR (by first|grind|(rw[hz];grind))⟩,by simp only[IU];omega⟩
 ·have hc:a.aA.length<=i:=by have:=yF hc;omega
  have nK:=my hc (by omega) hR
  clear hR h1 h2 h3 hc
  repeat' (refine ae (fun h=> ?_) (fun h=> ?_))
  all_goals (refine cj ?_;grind)
def afi:=bV (α:=aq×aq) (qC (qA .cf) (q1 (qA .cf))) [.ro,.ro] (fun _=>[]) (fun(a,b)=>⟨[dO (decide (a=b))],[],[]⟩)
def Jt(a:aq)(b:aq):Int×T0×T0×Unit->Prop:=fun(i,fa,fb,_)=>fa=(a.S.ab,a.S.Next,a.ay,a.ag,a.ap,a.av,a.State,a.bR,())/\fb=(b.S.ab,b.S.Next,b.ay,b.ag,b.ap,b.av,b.State,b.bR,())/\0<=i/\i<=a.ap.length/\a.ap.length=b.ap.length/\(a.ap.drop i.toNat=b.ap.drop i.toNat↔a.ap=b.ap)
def IT(a:aq)(b:aq):Int×T0×T0×Unit->Nat:=fun(i,fa,fb,_)=>a.ap.length-i.toNat
def Js(a:aq)(b:aq):Int×T0×T0×Unit->Prop:=fun(i,fa,fb,_)=>fa=(a.S.ab,a.S.Next,a.ay,a.ag,a.ap,a.av,a.State,a.bR,())/\fb=(b.S.ab,b.S.Next,b.ay,b.ag,b.ap,b.av,b.State,b.bR,())/\0<=i/\i<=a.av.length/\a.av.length=b.av.length/\(a.av.drop i.toNat=b.av.drop i.toNat↔a.av=b.av)
def IS(a:aq)(b:aq):Int×T0×T0×Unit->Nat:=fun(i,fa,fb,_)=>a.av.length-i.toNat
def apt:AX afi:=fun(a,b)=>b_ [(4,aY [iI 5,.box 2 (2,1024) [.shr .aJ,.lit (.int .i64),.shr .aE,.shr .ax,.shr .aI,.shr .aL,.lit (.int .i64),.lit (.int .i64)],.box 3 (3,1024) [.shr .aJ,.lit (.int .i64),.shr .aE,.shr .ax,.shr .aI,.shr .aL,.lit (.int .i64),.lit (.int .i64)]] (fun _=>Jt a b) (IT a b)),(9,aY [iI 6,.box 2 (2,1024) [.shr .aJ,.lit (.int .i64),.shr .aE,.shr .ax,.shr .aI,.shr .aL,.lit (.int .i64),.lit (.int .i64)],.box 3 (3,1024) [.shr .aJ,.lit (.int .i64),.shr .aE,.shr .ax,.shr .aI,.shr .aL,.lit (.int .i64),.lit (.int .i64)]] (fun _=>Js a b) (IS a b))]
def aoI:HH:=hF afi func82 [aiM,aiL,aiK,FF] apt fun x hp hb=>by
 obtain⟨a,b⟩:=x
 have eV:=oD (x:=a) (hb _ m0)
 have V0:=eV.1
 have aa6:=eV.2.1
 have aa3:=eV.2.2.1
 have Xi:=eV.2.2.2.1
 have aa2:=eV.2.2.2.2
 have gZ:=oD (x:=b) (hb _ m1)
 have VZ:=gZ.1
 have aaY:=gZ.2.1
 have aaV:=gZ.2.2.1
 have Xh:=gZ.2.2.2.1
 have aaU:=gZ.2.2.2.2
 clear hp hb
 apply vE (let q0:=List bN×Int×List aw×List aj×List aN×List bq×Int×Int×PUnit;let q1:=Lb false (decide (a=b));bif a.State !=b.State then q1 else bif a.bR !=b.bR then q1 else bif !decide (a.S=b.S) then q1 else bif !decide (a.ag=b.ag) then q1 else bif !decide (a.ay=b.ay) then q1 else bif (a.ap.length:Int) !=(b.ap.length:Int) then q1 else bif (a.av.length:Int) !=(b.av.length:Int) then q1 else Jt a b (0,(a.S.ab,a.S.Next,a.ay,a.ag,a.ap,a.av,a.State,a.bR,()),(b.S.ab,b.S.Next,b.ay,b.ag,b.ap,b.av,b.State,b.bR,()),())/\∀(y:Int×q0×q0×PUnit),let x0:=y.2.2.1.2.2.2.2.1.getD y.1.toNat cO;let x1:=y.2.1.2.2.2.2.1.getD y.1.toNat cO;let x3:=y.2.1.2.2.2.2.1.length;let x2:=(↑x3:Int);Jt a b y->bif decide (y.1<x2) then 0<=y.1/\y.1.toNat<x3/\0<=y.1/\y.1.toNat<y.2.2.1.2.2.2.2.1.length/\bif x1.At !=x0.At then q1 else 0<=y.1/\y.1.toNat<x3/\0<=y.1/\y.1.toNat<y.2.2.1.2.2.2.2.1.length/\bif !decide (x1.F=x0.F) then q1 else Jt a b (wrap i64 (y.1+1),(y.2.1.1,y.2.1.2.1,y.2.1.2.2.1,y.2.1.2.2.2.1,y.2.1.2.2.2.2.1,y.2.1.2.2.2.2.2.1,y.2.1.2.2.2.2.2.2.1,y.2.1.2.2.2.2.2.2.2.1,()),(y.2.2.1.1,y.2.2.1.2.1,y.2.2.1.2.2.1,y.2.2.1.2.2.2.1,y.2.2.1.2.2.2.2.1,y.2.2.1.2.2.2.2.2.1,y.2.2.1.2.2.2.2.2.2.1,y.2.2.1.2.2.2.2.2.2.2.1,()),())/\IT a b (wrap i64 (y.1+1),(y.2.1.1,y.2.1.2.1,y.2.1.2.2.1,y.2.1.2.2.2.1,y.2.1.2.2.2.2.1,y.2.1.2.2.2.2.2.1,y.2.1.2.2.2.2.2.2.1,y.2.1.2.2.2.2.2.2.2.1,()),(y.2.2.1.1,y.2.2.1.2.1,y.2.2.1.2.2.1,y.2.2.1.2.2.2.1,y.2.2.1.2.2.2.2.1,y.2.2.1.2.2.2.2.2.1,y.2.2.1.2.2.2.2.2.2.1,y.2.2.1.2.2.2.2.2.2.2.1,()),())<IT a b y else Js a b (0,(y.2.1.1,y.2.1.2.1,y.2.1.2.2.1,y.2.1.2.2.2.1,y.2.1.2.2.2.2.1,y.2.1.2.2.2.2.2.1,y.2.1.2.2.2.2.2.2.1,y.2.1.2.2.2.2.2.2.2.1,()),(y.2.2.1.1,y.2.2.1.2.1,y.2.2.1.2.2.1,y.2.2.1.2.2.2.1,y.2.2.1.2.2.2.2.1,y.2.2.1.2.2.2.2.2.1,y.2.2.1.2.2.2.2.2.2.1,y.2.2.1.2.2.2.2.2.2.2.1,()),())/\∀(y:Int×q0×q0×PUnit),let x4:=y.2.2.1.2.2.2.2.2.1.getD y.1.toNat bS;let x5:=y.2.1.2.2.2.2.2.1.getD y.1.toNat bS;let x7:=y.2.1.2.2.2.2.2.1.length;let x6:=(↑x7:Int);let q2:=(wrap i64 (y.1+1),(y.2.1.1,y.2.1.2.1,y.2.1.2.2.1,y.2.1.2.2.2.1,y.2.1.2.2.2.2.1,y.2.1.2.2.2.2.2.1,y.2.1.2.2.2.2.2.2.1,y.2.1.2.2.2.2.2.2.2.1,()),(y.2.2.1.1,y.2.2.1.2.1,y.2.2.1.2.2.1,y.2.2.1.2.2.2.1,y.2.2.1.2.2.2.2.1,y.2.2.1.2.2.2.2.2.1,y.2.2.1.2.2.2.2.2.2.1,y.2.2.1.2.2.2.2.2.2.2.1,()),());Js a b y->bif decide (y.1<x6) then 0<=y.1/\y.1.toNat<x7/\0<=y.1/\y.1.toNat<y.2.2.1.2.2.2.2.2.1.length/\bif !ByteArray.toList x5.Key==ByteArray.toList x4.Key then q1 else 0<=y.1/\y.1.toNat<x7/\0<=y.1/\y.1.toNat<y.2.2.1.2.2.2.2.2.1.length/\bif !decide (x5.F=x4.F) then q1 else Js a b q2/\IS a b q2<IS a b y else Lb true (decide (a=b)))
 dsimp only
 have hy:_:=Wk a b
 try simp only[gG]
 try simp only[aQ]
 repeat' (refine ae (fun h=>nd (by first|grind|(have:=@rB;rw[hy];grind))) (fun h=> ?_))
 refine⟨⟨rfl,rfl,by omega,by omega,by grind,by simp⟩,?_⟩
 rintro⟨i,fa,fb,⟨⟩⟩ ⟨rfl,rfl,h1,h2,h3,hR⟩
 simp only
 refine ae ?_ ?_<;>intro hc
 ·have hc:i<a.ap.length:=yT hc
  rw[wi]
  try simp only[gG]
  try simp only[aQ]
  have hz:_:=S0 (a.ap.getD i.toNat cO) (b.ap.getD i.toNat cO)
  repeat' (first|refine And.intro (by omega) ?_|refine ae (fun h=> ?_) (fun h=> ?_))
  all_goals first|exact nd (fun e=>absurd (by rw[e]) (nv cO h1 hc (by omega) hR (by first|grind|(rw[hz];grind))))|exact⟨⟨rfl,rfl,by omega,by omega,h3,p9 cO h1 hc (by omega) hR (by first|grind|(rw[hz];grind))⟩,by simp only[IT];omega⟩
 ·have hc:a.ap.length<=i:=by have:=yF hc;omega
  have nK:=my hc (by omega) hR
  clear hR h1 h2 h3 hc
  refine⟨⟨rfl,rfl,by omega,by omega,by grind,by simp⟩,?_⟩
  rintro⟨i,fa,fb,⟨⟩⟩ ⟨rfl,rfl,h1,h2,h3,hR⟩
  simp only
  refine ae ?_ ?_<;>intro hc
  ·have hc:i<a.av.length:=yT hc
   rw[wi]
   try simp only[gG]
   try simp only[aQ]
   have hz:_:=Wh (a.av.getD i.toNat bS) (b.av.getD i.toNat bS)
   repeat' (first|refine And.intro (by omega) ?_|refine ae (fun h=> ?_) (fun h=> ?_))
   all_goals first|exact nd (fun e=>absurd (by rw[e]) (nv bS h1 hc (by omega) hR (by first|grind|(rw[hz];grind))))|exact⟨⟨rfl,rfl,by omega,by omega,h3,p9 bS h1 hc (by omega) hR (by first|grind|(rw[hz];grind))⟩,by simp only[IS];omega⟩
  ·have hc:a.av.length<=i:=by have:=yF hc;omega
   have V5:=my hc (by omega) hR
   clear hR h1 h2 h3 hc
   repeat' (refine ae (fun h=> ?_) (fun h=> ?_))
   all_goals (refine cj ?_;grind)
def af1:=bV (α:=k_×k_) (qC (qA .oz) (q1 (qA .oz))) [.ro,.ro] (fun _=>[]) (fun(a,b)=>⟨[dO (decide (a=b))],[],[]⟩)
def JY(a:k_)(b:k_):Int×Y9×Y9×Unit->Prop:=fun(i,fa,fb,_)=>fa=(a.oN,a.jB,a.bR,a.AH,())/\fb=(b.oN,b.jB,b.bR,b.AH,())/\0<=i/\i<=a.oN.length/\a.oN.length=b.oN.length/\(a.oN.drop i.toNat=b.oN.drop i.toNat↔a.oN=b.oN)
def Jh(a:k_)(b:k_):Int×Y9×Y9×Unit->Nat:=fun(i,fa,fb,_)=>a.oN.length-i.toNat
def JX(a:k_)(b:k_):Int×Y9×Y9×Unit->Prop:=fun(i,fa,fb,_)=>fa=(a.oN,a.jB,a.bR,a.AH,())/\fb=(b.oN,b.jB,b.bR,b.AH,())/\0<=i/\i<=a.jB.length/\a.jB.length=b.jB.length/\(a.jB.drop i.toNat=b.jB.drop i.toNat↔a.jB=b.jB)
def Jg(a:k_)(b:k_):Int×Y9×Y9×Unit->Nat:=fun(i,fa,fb,_)=>a.jB.length-i.toNat
def apY:AX af1:=fun(a,b)=>b_ [(4,aY [iI 5,.box 2 (2,1024) [.shr .hH,.shr .kZ,.lit (.int .i64),.lit (.int .i64)],.box 3 (3,1024) [.shr .hH,.shr .kZ,.lit (.int .i64),.lit (.int .i64)]] (fun _=>JY a b) (Jh a b)),(9,aY [iI 6,.box 2 (2,1024) [.shr .hH,.shr .kZ,.lit (.int .i64),.lit (.int .i64)],.box 3 (3,1024) [.shr .hH,.shr .kZ,.lit (.int .i64),.lit (.int .i64)]] (fun _=>JX a b) (Jg a b))]
def apd:HH:=hF af1 func24 [aoJ,aoI] apY fun x hp hb=>by
 obtain⟨a,b⟩:=x
 have eV:=LP (x:=a) (hb _ m0)
 have ab4:=eV.1
 have aa1:=eV.2
 have gZ:=LP (x:=b) (hb _ m1)
 have ab1:=gZ.1
 have aaT:=gZ.2
 clear hp hb
 apply vE (let q0:=Lb false (decide (a=b));let q1:=List br×List sB×Int×Int×PUnit;bif a.bR !=b.bR then q0 else bif a.AH !=b.AH then q0 else bif (a.oN.length:Int) !=(b.oN.length:Int) then q0 else bif (a.jB.length:Int) !=(b.jB.length:Int) then q0 else JY a b (0,(a.oN,a.jB,a.bR,a.AH,()),(b.oN,b.jB,b.bR,b.AH,()),())/\∀(y:Int×q1×q1×PUnit),let x1:=y.2.1.1.length;let x0:=(↑x1:Int);JY a b y->bif decide (y.1<x0) then 0<=y.1/\y.1.toNat<x1/\0<=y.1/\y.1.toNat<y.2.2.1.1.length/\bif !decide (y.2.1.1.getD y.1.toNat Mu=y.2.2.1.1.getD y.1.toNat Mu) then q0 else JY a b (wrap i64 (y.1+1),(y.2.1.1,y.2.1.2.1,y.2.1.2.2.1,y.2.1.2.2.2.1,()),(y.2.2.1.1,y.2.2.1.2.1,y.2.2.1.2.2.1,y.2.2.1.2.2.2.1,()),())/\Jh a b (wrap i64 (y.1+1),(y.2.1.1,y.2.1.2.1,y.2.1.2.2.1,y.2.1.2.2.2.1,()),(y.2.2.1.1,y.2.2.1.2.1,y.2.2.1.2.2.1,y.2.2.1.2.2.2.1,()),())<Jh a b y else JX a b (0,(y.2.1.1,y.2.1.2.1,y.2.1.2.2.1,y.2.1.2.2.2.1,()),(y.2.2.1.1,y.2.2.1.2.1,y.2.2.1.2.2.1,y.2.2.1.2.2.2.1,()),())/\∀(y:Int×q1×q1×PUnit),let x2:=y.2.2.1.2.1.getD y.1.toNat DK;let x3:=y.2.1.2.1.getD y.1.toNat DK;let x5:=y.2.1.2.1.length;let x4:=(↑x5:Int);let q2:=(wrap i64 (y.1+1),(y.2.1.1,y.2.1.2.1,y.2.1.2.2.1,y.2.1.2.2.2.1,()),(y.2.2.1.1,y.2.2.1.2.1,y.2.2.1.2.2.1,y.2.2.1.2.2.2.1,()),());JX a b y->bif decide (y.1<x4) then 0<=y.1/\y.1.toNat<x5/\0<=y.1/\y.1.toNat<y.2.2.1.2.1.length/\bif !ByteArray.toList x3.Name==ByteArray.toList x2.Name then q0 else bif !ByteArray.toList x3.Def==ByteArray.toList x2.Def then q0 else bif !decide (x3.X=x2.X) then q0 else JX a b q2/\Jg a b q2<Jg a b y else Lb true (decide (a=b)))
 dsimp only
 have hy:_:=Wl a b
 try simp only[gG]
 try simp only[aQ]
 repeat' (refine ae (fun h=>nd (by first|grind|(have:=@rB;rw[hy];grind))) (fun h=> ?_))
 refine⟨⟨rfl,rfl,by omega,by omega,by grind,by simp⟩,?_⟩
 rintro⟨i,fa,fb,⟨⟩⟩ ⟨rfl,rfl,h1,h2,h3,hR⟩
 simp only
 refine ae ?_ ?_<;>intro hc
 ·have hc:i<a.oN.length:=yT hc
  rw[wi]
  try simp only[gG]
  try simp only[aQ]
  have hz:_:=S4 (a.oN.getD i.toNat Mu) (b.oN.getD i.toNat Mu)
  repeat' (first|refine And.intro (by omega) ?_|refine ae (fun h=> ?_) (fun h=> ?_))
  all_goals first|exact nd (fun e=>absurd (by rw[e]) (nv Mu h1 hc (by omega) hR (by first|grind|(rw[hz];grind))))|exact⟨⟨rfl,rfl,by omega,by omega,h3,p9 Mu h1 hc (by omega) hR (by first|grind|(rw[hz];grind))⟩,by simp only[Jh];omega⟩
 ·have hc:a.oN.length<=i:=by have:=yF hc;omega
  have nK:=my hc (by omega) hR
  clear hR h1 h2 h3 hc
  refine⟨⟨rfl,rfl,by omega,by omega,by grind,by simp⟩,?_⟩
  rintro⟨i,fa,fb,⟨⟩⟩ ⟨rfl,rfl,h1,h2,h3,hR⟩
  simp only
  refine ae ?_ ?_<;>intro hc
  ·have hc:i<a.jB.length:=yT hc
   rw[wi]
   try simp only[gG]
   try simp only[aQ]
   have hz:_:=Wg (a.jB.getD i.toNat DK) (b.jB.getD i.toNat DK)
   repeat' (first|refine And.intro (by omega) ?_|refine ae (fun h=> ?_) (fun h=> ?_))
   all_goals first|exact nd (fun e=>absurd (by rw[e]) (nv DK h1 hc (by omega) hR (by first|grind|(rw[hz];grind))))|exact⟨⟨rfl,rfl,by omega,by omega,h3,p9 DK h1 hc (by omega) hR (by first|grind|(rw[hz];grind))⟩,by simp only[Jg];omega⟩
  ·have hc:a.jB.length<=i:=by have:=yF hc;omega
   have V5:=my hc (by omega) hR
   clear hR h1 h2 h3 hc
   repeat' (refine ae (fun h=> ?_) (fun h=> ?_))
   all_goals (refine cj ?_;grind)
theorem inst_eq(a b:aq):decide ((⟨[],[⟨ao,ao,a⟩],0,0⟩:k_)=⟨[],[⟨ao,ao,b⟩],0,0⟩)=decide (a=b):=by
 rw[decide_eq_decide];simp
def Zk8:=bV (α:=aq×aq) (qC (qA .cf) (q1 (qA .cf))) [.ro,.ro] (fun _=>[]) (fun(a,b)=>⟨[dO (decide (a=b))],[],[]⟩)
def Zh8:HH:=hF Zk8 func8 [apd] a0 fun x hp hb=>by
 obtain⟨a,b⟩:=x
 clear hp hb
 apply vE (let x0:={data:= #[]:BA};Lb (decide ({oN:=[],jB:=[{Name:=x0,Def:=x0,X:=a:sB}],bR:=(0:Int),AH:=(0:Int):k_}={oN:=[],jB:=[{Name:=x0,Def:=x0,X:=b:sB}],bR:=(0:Int),AH:=(0:Int):k_})) (decide (a=b)))
 dsimp only
 exact cj (inst_eq a b)
theorem UO{d:br}{x:aq}{key:BA}{ok:Bool}{v:aS}(h:¬(eH d x key ok v).2=1):(eH d x key ok v).1=x:=by
 unfold eH at h⊢
 split
 ·rename_i g
  rw[if_pos g] at h
  unfold cm at h⊢
  split
  ·rename_i k;rw[if_pos k] at h;exact absurd rfl h
  ·rfl
 ·rfl
theorem ZM{d:br}{x:aq}{key:BA}{ok:Bool}{v:aS}(h:(eH d x key ok v).2=1):instOk d x=true/\bB v=true/\(aB x.ag key ok v).2=1:=by
 unfold eH at h
 by_cases g:instOk d x=true/\bB v=true
 ·rw[if_pos g] at h
  refine⟨g.1,g.2,?_⟩
  unfold cm at h
  by_cases k:(aB x.ag key ok v).2=1
  ·exact k
  ·rw[if_neg k] at h;exact absurd h k
 ·rw[if_neg g] at h;simp at h
def jO:jY UU where
 α:=(List Int)
 md:=[.ro]
 of:=o1 (oL .byte)
 ds:=fun x=>[dL .byte x]
 pre:=fun _=>[]
 nY:=fun code=>⟨[dO true],[],[]⟩
 law:=l1 (lL .byte)
def xf:jO.α->Nat->Option (ul UU):=fun code=>b_ []
def wM:=us [Zh4,Zh5,Zh6,Zh7,Zh8,Zh9,abV,aiW]
theorem xV:Holds EE (3,jO):=by
 refine holds_of rm func3 jO (by kernel_rfl) wM (xD _) xf (fun(code:(List Int)) hp hb=> ?_)
 have Od:code.length<=9223372036854775807:=lu (hb _ m0)
 clear hp hb
 apply vE (let mG:=gF (aa (UP code) 3);let qk:=(List.getD (fz code).ag (Int.toNat (aC (fz code).ag (FM code))) aD).F.Kind;let gK:=tm (lm code) (np code 20);let pE:= !bP (UP code) 3;let x9:={K:=mG.K,N:=mG.N,S:=mG.S:aS};let ly:={Name:=gK.Name,aA:=gK.aA:br};let x4:=(eH ly {S:={ab:=(fz code).S.ab,Next:=(fz code).S.Next:aF},ay:=(fz code).ay,ag:=(fz code).ag,ap:=(fz code).ap,av:=(fz code).av,State:=(fz code).State,bR:=(fz code).bR:aq} (FM code) pE x9).1.State;let x5:=(eH ly {S:={ab:=(fz code).S.ab,Next:=(fz code).S.Next:aF},ay:=(fz code).ay,ag:=(fz code).ag,ap:=(fz code).ap,av:=(fz code).av,State:=(fz code).State,bR:=(fz code).bR:aq} (FM code) pE x9).1.S;let x6:=(eH ly {S:={ab:=(fz code).S.ab,Next:=(fz code).S.Next:aF},ay:=(fz code).ay,ag:=(fz code).ag,ap:=(fz code).ap,av:=(fz code).av,State:=(fz code).State,bR:=(fz code).bR:aq} (FM code) pE x9).1.av;let x2:=x5.ab;let x3:=x4 !=1;let x7:=ib x2 {Kind:=qk,ah:=[{K:=(2:Int),N:=(0:Int),S:={data:= #[(110:UInt8),(111:UInt8)]:BA}:aS},mG]:aK};let x8:=ib x2 {Kind:=qk,ah:=[{K:=(2:Int),N:=(0:Int),S:={data:= #[(111:UInt8),(107:UInt8)]:BA}:aS},mG]:aK};let x0:=decide ((eH ly {S:={ab:={τ:=Cd.aJ,xs:=x2:fu UU}.xs,Next:=x5.Next:aF},ay:={τ:=Cd.aE,xs:=(eH ly {S:={ab:=(fz code).S.ab,Next:=(fz code).S.Next:aF},ay:=(fz code).ay,ag:=(fz code).ag,ap:=(fz code).ap,av:=(fz code).av,State:=(fz code).State,bR:=(fz code).bR:aq} (FM code) pE x9).1.ay:fu UU}.xs,ag:={τ:=Cd.ax,xs:=(eH ly {S:={ab:=(fz code).S.ab,Next:=(fz code).S.Next:aF},ay:=(fz code).ay,ag:=(fz code).ag,ap:=(fz code).ap,av:=(fz code).av,State:=(fz code).State,bR:=(fz code).bR:aq} (FM code) pE x9).1.ag:fu UU}.xs,ap:={τ:=Cd.aI,xs:=(eH ly {S:={ab:=(fz code).S.ab,Next:=(fz code).S.Next:aF},ay:=(fz code).ay,ag:=(fz code).ag,ap:=(fz code).ap,av:=(fz code).av,State:=(fz code).State,bR:=(fz code).bR:aq} (FM code) pE x9).1.ap:fu UU}.xs,av:={τ:=Cd.aL,xs:=x6:fu UU}.xs,State:=x4,bR:=(eH ly {S:={ab:=(fz code).S.ab,Next:=(fz code).S.Next:aF},ay:=(fz code).ay,ag:=(fz code).ag,ap:=(fz code).ap,av:=(fz code).av,State:=(fz code).State,bR:=(fz code).bR:aq} (FM code) pE x9).1.bR:aq} (FM code) (!pE) x9).1=(eH ly {S:={ab:=(fz code).S.ab,Next:=(fz code).S.Next:aF},ay:=(fz code).ay,ag:=(fz code).ag,ap:=(fz code).ap,av:=(fz code).av,State:=(fz code).State,bR:=(fz code).bR:aq} (FM code) pE x9).1);let x1:=(eH ly {S:={ab:={τ:=Cd.aJ,xs:=x2:fu UU}.xs,Next:=x5.Next:aF},ay:={τ:=Cd.aE,xs:=(eH ly {S:={ab:=(fz code).S.ab,Next:=(fz code).S.Next:aF},ay:=(fz code).ay,ag:=(fz code).ag,ap:=(fz code).ap,av:=(fz code).av,State:=(fz code).State,bR:=(fz code).bR:aq} (FM code) pE x9).1.ay:fu UU}.xs,ag:={τ:=Cd.ax,xs:=(eH ly {S:={ab:=(fz code).S.ab,Next:=(fz code).S.Next:aF},ay:=(fz code).ay,ag:=(fz code).ag,ap:=(fz code).ap,av:=(fz code).av,State:=(fz code).State,bR:=(fz code).bR:aq} (FM code) pE x9).1.ag:fu UU}.xs,ap:={τ:=Cd.aI,xs:=(eH ly {S:={ab:=(fz code).S.ab,Next:=(fz code).S.Next:aF},ay:=(fz code).ay,ag:=(fz code).ag,ap:=(fz code).ap,av:=(fz code).av,State:=(fz code).State,bR:=(fz code).bR:aq} (FM code) pE x9).1.ap:fu UU}.xs,av:={τ:=Cd.aL,xs:=x6:fu UU}.xs,State:=x4,bR:=(eH ly {S:={ab:=(fz code).S.ab,Next:=(fz code).S.Next:aF},ay:=(fz code).ay,ag:=(fz code).ag,ap:=(fz code).ap,av:=(fz code).av,State:=(fz code).State,bR:=(fz code).bR:aq} (FM code) pE x9).1.bR:aq} (FM code) (!pE) x9).2==2;let q0:=eH ly {S:={ab:=(fz code).S.ab,Next:=(fz code).S.Next:aF},ay:=(fz code).ay,ag:=(fz code).ag,ap:=(fz code).ap,av:=(fz code).av,State:=(fz code).State,bR:=(fz code).bR:aq} (FM code) pE x9;let q1:=bif q0.2==q0.2 then Lb (decide (fz code=q0.1)) true else Lb false true;let q2:=Lb false true;let q3:=aC (fz code).ag (FM code);bif decide (code.length>1048576) then Lb true true else L4 code.length/\cB gK<=4294967295/\cK (fz code)<=4294967295/\cB gK<=4294967295/\cK (fz code)<=4294967295/\bif q0.2 !=q0.2 then q1 else bif q0.2 !=1 then q1 else cB gK<=4294967295/\L4 (cd x2)/\bif !instOk gK q0.1 then q2 else bif (fz code).State !=1 then Lb ((x6.length:Int)==wrap i64 ((↑(List.length (fz code).av):Int)-1)) true else cB gK<=4294967295/\cK q0.1<=4294967295/\bif pE then 0<=aC (fz code).ag (FM code)/\Int.toNat q3<List.length (fz code).ag/\bif x3 then Lb true true else bif x1 then bif x0 then Lb (decide (x8>0)) true else q2 else q2 else 0<=aC (fz code).ag (FM code)/\Int.toNat q3<List.length (fz code).ag/\bif x3 then Lb true true else bif x1 then bif x0 then Lb (decide (x7>0)) true else q2 else q2)
 dsimp only
 refine ae (fun h=>aX _) (fun h=> ?_)
 have ap5:=yF h
 have hl:code.length<=4294967296:=by omega
 have hs:=Ko code 20
 have h1:=Qf (B8 hl) (np code 20)
 have h2:cK (fz code)<=_:=instA_size (m:=np code 20) (B8 hl) (by omega)
 generalize tm (lm code) (np code 20)=d at h1⊢
 generalize FM code=key
 generalize (!bP (UP code) 3)=ok
 generalize gF (aa (UP code) 3)=v
 generalize fz code=x at h2⊢
 refine⟨hl,by omega,by omega,by omega,by omega,jk (fun h=>absurd rfl h) (fun _=>jk (fun g=>bo (fun _=>cj (decide_eq_true (UO g).symm)) (fun g=>absurd rfl g)) (fun g=> ?_))⟩
 obtain⟨hi,hv,hr⟩:=ZM g
 have e0:eH d x key ok v=cm x key ok v:=if_pos ⟨hi,hv⟩
 rw[e0]
 have hX:=pA.1 hi
 have hR:=A1 hX key ok hv
 have hz:=Ec hR.tocoreX
 have Un:=hz
 simp only[cK,jU] at Un
 have hu:=h2
 simp only[cK,bw] at hu
 refine⟨by omega,by omega,bC (fun k=>absurd (k.symm.trans (pA.2 hR)) (by decide)) (fun _=>jk (fun hs=> ?_) (fun hs=>⟨by omega,by omega,?_⟩))⟩
 ·obtain⟨u1,u2⟩:=FY hX hr hs
  exact cj (beq_iff_eq.2 (by rw[wi];omega))
 obtain⟨a,b,_⟩:=zR hr
 have adZ:(cm x key ok v).1.State=1->eH d ⟨⟨(cm x key ok v).1.S.ab,(cm x key ok v).1.S.Next⟩,(cm x key ok v).1.ay,(cm x key ok v).1.ag,(cm x key ok v).1.ap,(cm x key ok v).1.av,(cm x key ok v).1.State,(cm x key ok v).1.bR⟩ key (!ok) v=((cm x key ok v).1,2)/\0<ib (cm x key ok v).1.S.ab (lZ (List.getD x.ag (aC x.ag key).toNat aD).F (uu ok) v):=fun hy=>by
  obtain⟨k1,k2⟩:=Kx hX hr hs hy
  exact⟨(if_pos ⟨pA.2 hR,hv⟩).trans (k1 (!ok)),k2⟩
 cases ok
 ·simp only[cond_false]
  refine⟨a,b,jk (fun _=>aX _) (fun hy=> ?_)⟩
  obtain⟨k1,k2⟩:=adZ hy
  rw[k1]
  exact bo (fun _=>aV (fun _=>cj (decide_eq_true k2)) (fun g=>absurd rfl g)) (fun g=>absurd rfl g)
 ·simp only[cond_true]
  refine⟨a,b,jk (fun _=>aX _) (fun hy=> ?_)⟩
  obtain⟨k1,k2⟩:=adZ hy
  rw[k1]
  exact bo (fun _=>aV (fun _=>cj (decide_eq_true k2)) (fun g=>absurd rfl g)) (fun g=>absurd rfl g)
end
end AM
