/- Functions of the program with their contracts: put together by gen/link.py for FnWorks. -/
import Derived.Test.YtmlhlndkkidhoaaGreatQAmLib
import Derived.Test.YtmlhlndkkidhoaaGreatQFWorks
import Derived.Lib.ItoaLen
import Derived.Lib.Join
namespace AM
open Go Go.Proofs.Tryz
set_option linter.unusedVariables false
set_option linter.unusedSimpArgs false
set_option maxRecDepth 100000
noncomputable section
def aaj:bp UU where
 α:=aG×Int
 md:=[.ro,.ro]
 of:=oC (oA .bV) (o1 oI)
 ds:=fun x=>[dA .bV x.1,dI x.2]
 pre:=fun(s,id)=>[cQ s.ab<=4294967296]
 bT:=fun(s,id)=>⟨[dA .bP (n_ s.ab id),dO (jX s.ab id)],[],[]⟩
 law:=lC (lA .bV) (l1 lI)
def HB(s:aG)(id:Int):Int×T6×Unit->Prop:=fun(i,g,_)=>0<=i/\i<=s.ab.length/\∀j:Nat,(j:Int)<i->decide ((List.getD s.ab j bg).Id=id)=false
def Hd(s:aG)(id:Int):Int×T6×Unit->Nat:=fun(i,g,_)=>s.ab.length-i.toNat
def as6:aaj.α->Nat->Option (bY UU):=fun(s,id)=>aN [(2,bh [.slot 11 (11,1024) (.lit (.int .i64)),.box 4 (4,1024) [.lit .str,.own .aM true]] (fun _=>HB s id) (Hd s id))]
def apr:=us [ai5]
theorem aqQ:Holds EE (60,aaj):=by
 refine holds_of ax func60 aaj (by kernel_rfl) apr (aE _) as6 (fun x hp hb=> ?_)
 obtain⟨s,id⟩:=x
 have ga:=l6 (x:=s) (hb _ m0)
 have L6:=sL (n:=id) (hb _ m1)
 have bC:cQ s.ab<=4294967296:=hp _ m0
 clear hp hb
 apply @ve _ (let q0:=n_ s.ab id;HB s id (0,({data:= #[]:BA},[],()),())/\∀(y:Int×WW×PUnit),let q1:=List.getD s.ab y.1.toNat bg;let q2:=(IntKind.wrap IntKind.i64 (y.1+1),(y.2.1.1,y.2.1.2.1,()),());HB s id y->bif decide (y.1<(s.ab.length:Int)) then 0<=y.1/\y.1.toNat<s.ab.length/\bif q1.Id==id then List.length q1.F.aj<=4294967296/\Lf [DV.agg [CS (q1.F.Kind),CL .aM q1.F.aj],VB true] [DV.agg [CS (q0.Kind),CL .aM q0.aj],VB (jX s.ab id)] else HB s id q2/\Hd s id q2<Hd s id y else Lf [DV.agg [CS ({data:= #[]:BA}),CL .aM []],VB false] [DV.agg [CS (q0.Kind),CL .aM q0.aj],VB (jX s.ab id)]) (by kernel_rfl)
 dsimp only
 refine⟨⟨by omega,by omega,by intro j hj;omega⟩,?_⟩
 rintro⟨i,⟨g1,g2,⟨⟩⟩,⟨⟩⟩ ⟨h1,h2,hR⟩
 simp only
 refine aU (fun hc=> ?_) (fun hc=> ?_)
 ·rw[wrap_i64 (by omega) (by omega)]
  have hs:=gU mf s.ab bg h1 hc
  simp only[mf,eg,gy] at hs
  simp only[cQ,mf,eg,gy] at bC
  refine⟨by omega,by omega,bo (fun h=>⟨by omega,?_⟩) (fun h=>⟨⟨by omega,by omega,ju (p:=fun j=>decide ((List.getD s.ab j bg).Id=id)) h1 hR (decide_eq_false h)⟩,by simp only[Hd];omega⟩)⟩
  have e:ug s.ab id=(i.toNat:Int):=gH (i:=i.toNat) (by omega) (decide_eq_true h) (fun j hj=>hR j (by omega))
  have e1:n_ s.ab id=(List.getD s.ab i.toNat bg).F:=by rw[n_,e,if_neg (by omega),zeu]
  have e2:jX s.ab id=true:=ir (j:=i.toNat) (by omega) (decide_eq_true h)
  rw[e1,e2];exact bN _
 ·have e:ug s.ab id= -1:=jM (fun j hj=>hR j (by omega))
  have e1:n_ s.ab id=ta:=by rw[n_,if_pos e]
  have e2:jX s.ab id=false:=gg fun j hj=>hR j (by omega)
  rw[e1,e2];exact bN _
def arY:HH:=⟨_,aqQ⟩
def aaO:bp UU where
 α:=aG
 md:=[.ro]
 of:=o1 (oA .bV)
 ds:=fun x=>[dA .bV x]
 pre:=fun _=>[]
 bT:=fun s=>⟨[dO (bQ s)],[],[]⟩
 law:=l1 (lA .bV)
def D8(s:aG):Int×T4×Unit->Prop:=fun(i,b,_)=>b=(s.ab,s.Next,())/\0<=i/\i<=s.ab.length/\∀j:Nat,(j:Int)<i->nZ s j=true
def zp(s:aG):Int×T4×Unit->Nat:=fun(i,b,_)=>s.ab.length-i.toNat
def atz:aaO.α->Nat->Option (bY UU):=fun s=>aN [(4,bh [.slot 3 (3,1024) (.lit (.int .i64)),.box 1 (1,1024) [.shr .aX,.lit (.int .i64)]] (fun _=>D8 s) (zp s))]
def apW:=us [sC,Lu,Vx]
theorem arm:Holds EE (28,aaO):=by
 refine holds_of ax func28 aaO (by kernel_rfl) apW (aE _) atz (fun(s:aG) hp hb=> ?_)
 have ga:=l6 (x:=s) (hb _ m0)
 clear hp hb
 apply @ve _ (let q0:=Lb false (bQ s);bif !decide (1<=s.Next/\s.Next<=1000000) then q0 else bif decide ((s.ab.length:Int)>40) then q0 else D8 s (0,(s.ab,s.Next,()),())/\∀(y:Int×Oi×PUnit),let x1:Nat:=y.2.1.1.length;let x4:bH:=List.getD y.2.1.1 y.1.toNat bg;let x5:Nat:=Int.toNat (IntKind.wrap IntKind.i64 (y.1-1));let x0:Int:=x4.Id;let x2:Int:=(List.getD y.2.1.1 x5 bg).Id;let x3:aJ:=x4.F;let q1:=bif mn y.2.1.1 x3 !=x0 then q0 else D8 s (IntKind.wrap IntKind.i64 (y.1+1),(y.2.1.1,y.2.1.2.1,()),())/\zp s (IntKind.wrap IntKind.i64 (y.1+1),(y.2.1.1,y.2.1.2.1,()),())<zp s y;D8 s y->bif decide (y.1<(↑x1:Int)) then 0<=y.1/\y.1.toNat<x1/\bif !bI x3 then q0 else bif decide (x0<1) then q0 else bif decide (x0≥y.2.1.2.1) then q0 else bif decide (y.1>0) then 0<=IntKind.wrap IntKind.i64 (y.1-1)/\x5<x1/\bif decide (x2≥x0) then q0 else q1 else q1 else Lb true (bQ s)) (by kernel_rfl)
 dsimp only
 refine bO (fun a1=>bw (by simp only[bQ,a1,pF])) (fun a1=>aU (fun a2=>bw ?_) (fun a2=> ?_))
 ·simp only[bQ];rw[decide_eq_false (p:=s.ab.length<=40) (by omega),va,pF]
 refine⟨⟨rfl,by omega,by omega,by intro j hj;omega⟩,?_⟩
 rintro⟨i,⟨b1,b2,⟨⟩⟩,⟨⟩⟩ ⟨rP,h1,h2,hR⟩
 cases rP
 simp only
 refine aU (fun hc=> ?_) (fun hc=> ?_)
 ·have hN:nZ s i.toNat=false->bQ s=false:=fun h=>by
   have hf:allI s.ab.length (nZ s)=false:=gK (j:=i.toNat) (by omega) h
   simp only[bQ,hf,va]
  have e1:(i-1).toNat=i.toNat-1:=by omega
  simp(disch:=omega) only[wrap_i64]
  simp only[e1]
  have hi1:i>0->0<=i-1:=fun h=>by omega
  have gF:i.toNat<s.ab.length:=by omega
  have C4:i.toNat-1<s.ab.length:=by omega
  have We:nZ s i.toNat=true->D8 s (i+1,(s.ab,s.Next,PUnit.unit),PUnit.unit)/\zp s (i+1,(s.ab,s.Next,PUnit.unit),PUnit.unit)<zp s (i,(s.ab,s.Next,PUnit.unit),PUnit.unit):=fun h=>⟨⟨rfl,by omega,by omega,fW h1 hR h⟩,by simp only[zp];omega⟩
  have c3:decide (0<i.toNat)=decide (i>0):=decide_eq_decide.2 (by omega)
  simp only[nZ,jD,c3] at hN We
  generalize hA:List.getD s.ab i.toNat bg=a at*
  generalize hB:List.getD s.ab (i.toNat-1) bg=b at*
  generalize hQ:mn s.ab a.F=q at*
  generalize hO:bI a.F=o at*
  refine And.intro h1 (And.intro gF ?_)
  repeat' (first|refine bw (hN ?_)|refine We ?_|refine aU (fun h=> ?_) (fun h=> ?_)|refine bO (fun h=> ?_) (fun h=> ?_)|refine And.intro C4 ?_|refine And.intro (hi1 (by assumption)) ?_)
  all_goals (cases o<;>simp at* <;>omega)
 ·have hA:allI s.ab.length (nZ s)=true:=iu fun j hj=>hR j (by omega)
  refine mV ?_
  simp only[bQ,hA,a1,decide_eq_true (show s.ab.length<=40 by omega)];rfl
def asg:HH:=⟨_,arm⟩
def aaW:bp UU where
 α:=aG
 md:=[.ro]
 of:=o1 (oA .bV)
 ds:=fun x=>[dA .bV x]
 pre:=fun _=>[]
 bT:=fun s=>⟨[dO (bQ s)],[],[]⟩
 law:=l1 (lA .bV)
def D_(s:aG):Int×T4×Unit->Prop:=fun(i,b,_)=>b=(s.ab,s.Next,())/\0<=i/\i<=s.ab.length/\∀j:Nat,(j:Int)<i->iU s j=true
def wm(s:aG):Int×T4×Unit->Nat:=fun(i,b,_)=>s.ab.length-i.toNat
def wo(s:aG):Int×Int×T18×T4×Unit->Int×Int×T18×T4×Unit->Prop:=fun(i0,k0,x0,b0,_) (i,k,x,b,_)=>i=i0/\x=x0/\b=b0/\0<=k/\k<=i/\∀j:Nat,(j:Int)<k->decide ((List.getD s.ab i.toNat bg).F=(List.getD s.ab j bg).F)=false
def wl(s:aG):Int×Int×T18×T4×Unit->Nat:=fun(i,k,x,b,_)=>i.toNat-k.toNat
def atI:aaW.α->Nat->Option (bY UU):=fun s=>aN [(4,bh [.slot 20 (20,1024) (.lit (.int .i64)),.box 1 (1,1024) [.shr .aX,.lit (.int .i64)]] (fun _=>D_ s) (wm s)),(9,bh [.slot 20 (20,1024) (.lit (.int .i64)),.slot 59 (59,1024) (.lit (.int .i64)),.box 4 (4,1024) [.lit (.int .i64),.lit .str,.shr .aM],.box 1 (1,1024) [.shr .aX,.lit (.int .i64)]] (wo s) (wl s))]
def ap5:=us [Ec,Vy,ahR]
theorem arw:Holds EE (19,aaW):=by
 refine holds_of ax func19 aaW (by kernel_rfl) ap5 (aE _) atI (fun(s:aG) hp hb=> ?_)
 have ga:=l6 (x:=s) (hb _ m0)
 clear hp hb
 apply @ve _ (let x0:Int:=(s.ab.length:Int);let x1:Int:=Option.getD none (0:Int);let q0:=Lb false (bQ s);let q1:=List bH×Int×PUnit;bif decide (x0>40) then q0 else bif !decide (1<=s.Next/\s.Next<=1000000) then q0 else D_ s (0,(s.ab,s.Next,()),())/\∀(y:Int×q1×PUnit),let x8:Nat:=y.2.1.1.length;let x9:Int:=(List.getD s.ab y.1.toNat bg).Id;let pT:aJ:=(List.getD s.ab y.1.toNat bg).F;let rc:Nat:=Int.toNat (IntKind.wrap IntKind.i64 (y.1-1));let x4:Int:=(List.getD y.2.1.1 rc bg).Id;let x7:Int:=(↑x8:Int);let x3:Int:=Option.getD (some y.1) x7;let x6:List bH:=List.drop x1.toNat (List.take x3.toNat y.2.1.1);let x5:Nat:=x6.length;let x2:Int:=(↑x5:Int);let q2:=(y.1,0,(x9,pT.Kind,pT.aj,()),(y.2.1.1,y.2.1.2.1,()),());D_ s y->bif decide (y.1<x0) then 0<=y.1/\y.1.toNat<s.ab.length/\bif !bI pT then q0 else bif !decide (1<=x9/\x9<=IntKind.wrap IntKind.i64 (y.2.1.2.1-1)) then q0 else bif decide (y.1>0) then 0<=IntKind.wrap IntKind.i64 (y.1-1)/\rc<x8/\bif decide (x9<=x4) then q0 else 0<=x1/\x1<=x3/\x3<=x7/\wo s q2 q2/\∀(aS:Int×Int×T20×q1×PUnit),let yj:Nat:=aS.2.1.toNat;let q3:=(aS.1,IntKind.wrap IntKind.i64 (aS.2.1+1),(aS.2.2.1.1,aS.2.2.1.2.1,aS.2.2.1.2.2.1,()),(aS.2.2.2.1.1,aS.2.2.2.1.2.1,()),());let q4:=(IntKind.wrap IntKind.i64 (aS.1+1),(aS.2.2.2.1.1,aS.2.2.2.1.2.1,()),());wo s q2 aS->bif decide (aS.2.1<x2) then 0<=aS.2.1/\yj<x5/\bif decide ({Kind:=aS.2.2.1.2.1,aj:=aS.2.2.1.2.2.1:aJ}=(List.getD x6 yj bg).F) then q0 else wo s q2 q3/\wl s q3<wl s aS else D_ s q4/\wm s q4<wm s y else 0<=x1/\x1<=x3/\x3<=x7/\wo s q2 q2/\∀(aS:Int×Int×T20×q1×PUnit),let yj:Nat:=aS.2.1.toNat;let q5:=(aS.1,IntKind.wrap IntKind.i64 (aS.2.1+1),(aS.2.2.1.1,aS.2.2.1.2.1,aS.2.2.1.2.2.1,()),(aS.2.2.2.1.1,aS.2.2.2.1.2.1,()),());let q6:=(IntKind.wrap IntKind.i64 (aS.1+1),(aS.2.2.2.1.1,aS.2.2.2.1.2.1,()),());wo s q2 aS->bif decide (aS.2.1<x2) then 0<=aS.2.1/\yj<x5/\bif decide ({Kind:=aS.2.2.1.2.1,aj:=aS.2.2.1.2.2.1:aJ}=(List.getD x6 yj bg).F) then q0 else wo s q2 q5/\wl s q5<wl s aS else D_ s q6/\wm s q6<wm s y else Lb true (bQ s)) (by kernel_rfl)
 dsimp only
 have hF:(decide (1<=s.Next/\s.Next<=1000000)&&decide (s.ab.length<=40)&&allI s.ab.length (iU s))=bQ s:=by rw[Cm];rfl
 refine aU (fun a2=>bw ?_) (fun a2=>bO (fun a1=>bw (by simp only[bQ,a1,pF])) (fun a1=> ?_))
 ·simp only[bQ];rw[decide_eq_false (p:=s.ab.length<=40) (by omega),va,pF]
 have a3:=yT a1
 refine⟨⟨rfl,by omega,by omega,by intro j hj;omega⟩,?_⟩
 rintro⟨i,⟨b1,b2,⟨⟩⟩,⟨⟩⟩ ⟨rP,h1,h2,hR⟩
 cases rP
 simp only
 refine aU (fun hc=> ?_) (fun hc=> ?_)
 ·have hN:iU s i.toNat=false->bQ s=false:=fun h=>by
   have hf:allI s.ab.length (iU s)=false:=gK (j:=i.toNat) (by omega) h
   rw[<-hF,hf,va]
  have e1:(i-1).toNat=i.toNat-1:=by omega
  have c3:decide (0<i.toNat)=decide (i>0):=decide_eq_decide.2 (by omega)
  rw[wrap_i64 (n:=s.Next-1) (by omega) (by omega),wrap_i64 (n:=i-1) (by omega) (by omega),e1]
  have Oh:jD s i.toNat=false->bQ s=false:=fun h=>hN (by simp only[iU,h,pF])
  refine⟨by omega,by omega,bO (fun a=>bw (Oh (by simp only[jD,a,pF]))) (fun a=>bO (fun a'=>bw (Oh ?_)) (fun a'=>aU (fun p=>⟨by omega,by omega,aU (fun q=>bw (Oh ?_)) (fun q=> ?_)⟩) (fun p=> ?_)))⟩
  ·have a':=yF a'
   by_cases g:1<=(List.getD s.ab i.toNat bg).Id
   ·simp only[jD,decide_eq_false (show¬(List.getD s.ab i.toNat bg).Id<s.Next by omega),va,pF]
   ·simp only[jD,decide_eq_false g,va,pF]
  ·simp only[jD,c3,decide_eq_true p,decide_eq_true q,EL,zfa,va]
  ·have a':=yT a'
   have Jj:jD s i.toNat=true:=by
    simp only[jD,a,decide_eq_true a'.1,decide_eq_true (show(List.getD s.ab i.toNat bg).Id<s.Next by omega),decide_eq_false q,va,Tm,EL]
   refine⟨Int.le_refl 0,by simp only[Tp,FU];omega,by simp only[FU];omega,⟨rfl,rfl,rfl,by omega,by omega,by intro j hj;omega⟩,?_⟩
   rintro⟨i',k,⟨x1,x2,x3,⟨⟩⟩,⟨y1,y2,⟨⟩⟩,⟨⟩⟩ ⟨rfl,hx,hy,k1,k2,kR⟩
   cases hx
   cases hy
   simp only[Tp,FU,show Int.toNat 0=0 from rfl,List.drop_zero]
   have Zr:(List.take i'.toNat s.ab).length=i'.toNat:=by rw[oH];omega
   refine aU (fun hk=> ?_) (fun hk=> ?_)
   ·rw[Zr] at hk
    rw[yZ s.ab bg (show k.toNat<i'.toNat by omega),Zr,wrap_i64 (n:=k+1) (by omega) (by omega)]
    refine⟨k1,by omega,aU (fun e=>bw (hN ?_)) (fun e=>⟨⟨rfl,rfl,rfl,by omega,by omega,ju (p:=fun j=>decide ((List.getD s.ab i'.toNat bg).F=(List.getD s.ab j bg).F)) k1 kR (decide_eq_false e)⟩,by simp only[wl];omega⟩)⟩
    have ha:(anyI i'.toNat fun k=>decide ((List.getD s.ab i'.toNat bg).F=(List.getD s.ab k bg).F))=true:=ir (j:=k.toNat) (by omega) (decide_eq_true e)
    simp only[iU,ha,zfa,va]
   ·rw[Zr] at hk
    rw[wrap_i64 (n:=i'+1) (by omega) (by omega)]
    refine⟨⟨rfl,by omega,by omega,fW h1 hR ?_⟩,by simp only[wm];omega⟩
    have ha:(anyI i'.toNat fun k=>decide ((List.getD s.ab i'.toNat bg).F=(List.getD s.ab k bg).F))=false:=gg fun j hj=>kR j (by omega)
    simp only[iU,ha,Jj,Tm,EL]
  ·have a':=yT a'
   have Jj:jD s i.toNat=true:=by
    simp only[jD,c3,a,decide_eq_true a'.1,decide_eq_true (show(List.getD s.ab i.toNat bg).Id<s.Next by omega),decide_eq_false p,pF,Tm,EL]
   refine⟨Int.le_refl 0,by simp only[Tp,FU];omega,by simp only[FU];omega,⟨rfl,rfl,rfl,by omega,by omega,by intro j hj;omega⟩,?_⟩
   rintro⟨i',k,⟨x1,x2,x3,⟨⟩⟩,⟨y1,y2,⟨⟩⟩,⟨⟩⟩ ⟨rfl,hx,hy,k1,k2,kR⟩
   cases hx
   cases hy
   simp only[Tp,FU,show Int.toNat 0=0 from rfl,List.drop_zero]
   have Zr:(List.take i'.toNat s.ab).length=i'.toNat:=by rw[oH];omega
   refine aU (fun hk=> ?_) (fun hk=> ?_)
   ·rw[Zr] at hk
    rw[yZ s.ab bg (show k.toNat<i'.toNat by omega),Zr,wrap_i64 (n:=k+1) (by omega) (by omega)]
    refine⟨k1,by omega,aU (fun e=>bw (hN ?_)) (fun e=>⟨⟨rfl,rfl,rfl,by omega,by omega,ju (p:=fun j=>decide ((List.getD s.ab i'.toNat bg).F=(List.getD s.ab j bg).F)) k1 kR (decide_eq_false e)⟩,by simp only[wl];omega⟩)⟩
    have ha:(anyI i'.toNat fun k=>decide ((List.getD s.ab i'.toNat bg).F=(List.getD s.ab k bg).F))=true:=ir (j:=k.toNat) (by omega) (decide_eq_true e)
    simp only[iU,ha,zfa,va]
   ·rw[Zr] at hk
    rw[wrap_i64 (n:=i'+1) (by omega) (by omega)]
    refine⟨⟨rfl,by omega,by omega,fW h1 hR ?_⟩,by simp only[wm];omega⟩
    have ha:(anyI i'.toNat fun k=>decide ((List.getD s.ab i'.toNat bg).F=(List.getD s.ab k bg).F))=false:=gg fun j hj=>kR j (by omega)
    simp only[iU,ha,Jj,Tm,EL]
 ·have hA:allI s.ab.length (iU s)=true:=iu fun j hj=>hR j (by omega)
  refine mV ?_
  rw[<-hF,hA,a1,decide_eq_true (show s.ab.length<=40 by omega)];rfl
def aso:HH:=⟨_,arw⟩
theorem Dm{d:bB}{s:List bH}{m:av}(h1:jV d m=true)(h2:m.cr.length=0)(h3:m.eJ.length=cH (List.getD d.aw m.cN.toNat ct).aB):iK d s m=m.eJ.all (jX s):=by
 simp only[iK,h1,decide_eq_true h2,decide_eq_true h3,u_]
theorem nN{d:bB}{m:av}(h:jV d m=true):0<=m.cN/\m.cN<(d.aw.length:Int):=by
 simpa[jV] using h
theorem E4{d:bB}{m:av}(h:jV d m=true):cH (List.getD d.aw m.cN.toNat ct).aB<=cT d:=by
 obtain⟨h1,h2⟩:=nN h
 have hs:=gU dD d.aw ct h1 h2
 have hle:cH (List.getD d.aw m.cN.toNat ct).aB<=(List.getD d.aw m.cN.toNat ct).aB.length:=Kh _ _
 simp only[dD,j6] at hs
 simp only[cT,jJ,dD,j6];omega
def Z_:bp UU where
 α:=bB×av
 md:=[.ro,.ro]
 of:=oC (oA .dZ) (o1 (oA .az))
 ds:=fun x=>[dA .dZ x.1,dA .az x.2]
 pre:=fun _=>[]
 bT:=fun(d,m)=>⟨[dO (jV d m)],[],[]⟩
 law:=lC (lA .dZ) (l1 (lA .az))
def asW:Z_.α->Nat->Option (bY UU):=fun(d,m)=>aN []
def apg:List (FuncId×bp UU):=[]
theorem aqG:Holds EE (70,Z_):=by
 refine holds_of ax func70 Z_ (by kernel_rfl) apg all_nil asW (fun x hp hb=> ?_)
 obtain⟨d,m⟩:=x
 have bi:=iF (x:=d) (hb _ m0)
 have fE:=bi.1
 have ey:=bi.2
 have fg:=gZ (x:=m) (hb _ m1)
 have qN:=fg.1
 have m_:=fg.2
 clear hp hb
 apply @ve _ (bif decide (m.cN≥0) then Lb (decide (m.cN<(d.aw.length:Int))) (jV d m) else Lb false (jV d m)) (by kernel_rfl)
 simp only[jV]
 refine aU (fun h=>cj ?_) (fun h=>cj ?_)
 ·rw[decide_eq_true (show 0<=m.cN from h),u_]
 ·rw[decide_eq_false (show¬0<=m.cN from h),pF]
def Vv:HH:=⟨_,aqG⟩
def aal:bp UU where
 α:=bB×av
 md:=[.ro,.ro]
 of:=oC (oA .dZ) (o1 (oA .az))
 ds:=fun x=>[dA .dZ x.1,dA .az x.2]
 pre:=fun _=>[]
 bT:=fun(d,m)=>⟨[dO (jV d m)],[],[]⟩
 law:=lC (lA .dZ) (l1 (lA .az))
def as8:aal.α->Nat->Option (bY UU):=fun(d,m)=>aN []
def apt:List (FuncId×bp UU):=[]
theorem aqS:Holds EE (58,aal):=by
 refine holds_of ax func58 aal (by kernel_rfl) apt all_nil as8 (fun x hp hb=> ?_)
 obtain⟨d,m⟩:=x
 have bi:=iF (x:=d) (hb _ m0)
 have fE:=bi.1
 have ey:=bi.2
 have fg:=gZ (x:=m) (hb _ m1)
 have qN:=fg.1
 have m_:=fg.2
 clear hp hb
 apply @ve _ (bif decide (m.cN≥0) then Lb (decide (m.cN<(d.aw.length:Int))) (jV d m) else Lb false (jV d m)) (by kernel_rfl)
 simp only[jV]
 refine aU (fun h=>cj ?_) (fun h=>cj ?_)
 ·rw[decide_eq_true (show 0<=m.cN from h),u_]
 ·rw[decide_eq_false (show¬0<=m.cN from h),pF]
def arZ:HH:=⟨_,aqS⟩
def aaJ:bp UU where
 α:=bB×ao
 md:=[.ro,.ro]
 of:=oC (oA .dZ) (o1 (oA .bD))
 ds:=fun x=>[dA .dZ x.1,dA .bD x.2]
 pre:=fun(d,x)=>[cT d<=4294967295,cQ x.S.ab<=4294967296]
 bT:=fun(d,x)=>⟨[dO (iC d x)],[],[]⟩
 law:=lC (lA .dZ) (l1 (lA .bD))
def HK(d:bB)(x:ao):Int×T2×T1×Unit->Prop:=fun(i,b,g,_)=>b=(d.Name,d.aw,())/\g=(x.S.ab,x.S.Next,x.aD,x.au,x.aC,x.aL,x.State,x.dw,())/\0<=i/\i<=x.aD.length/\(x.aD.drop i.toNat).all (iK d x.S.ab)=x.aD.all (iK d x.S.ab)
def Hk(d:bB)(x:ao):Int×T2×T1×Unit->Nat:=fun(i,b,g,_)=>x.aD.length-i.toNat
def HJ(d:bB)(x:ao):Int×Int×T2×T1×T7×Unit->Int×Int×T2×T1×T7×Unit->Prop:=fun(i0,k0,b0,g0,m0,_) (i,k,b,g,m,_)=>i=i0/\b=b0/\g=g0/\m=m0/\0<=k/\k<=(List.getD x.aD i.toNat bM).eJ.length/\((List.getD x.aD i.toNat bM).eJ.drop k.toNat).all (jX x.S.ab)=(List.getD x.aD i.toNat bM).eJ.all (jX x.S.ab)
def Hj(d:bB)(x:ao):Int×Int×T2×T1×T7×Unit->Nat:=fun(i,k,b,g,m,_)=>(List.getD x.aD i.toNat bM).eJ.length-k.toNat
def atu:aaJ.α->Nat->Option (bY UU):=fun(d,x)=>aN [(2,bh [.slot 5 (5,1024) (.lit (.int .i64)),.box 2 (2,1024) [.lit .str,.shr .a_],.box 3 (3,1024) [.shr .aX,.lit (.int .i64),.shr .az,.shr .aA,.shr .aH,.shr .aT,.lit (.int .i64),.lit (.int .i64)]] (fun _=>HK d x) (Hk d x)),(8,bh [.slot 5 (5,1024) (.lit (.int .i64)),.slot 7 (7,1024) (.lit (.int .i64)),.box 2 (2,1024) [.lit .str,.shr .a_],.box 3 (3,1024) [.shr .aX,.lit (.int .i64),.shr .az,.shr .aA,.shr .aH,.shr .aT,.lit (.int .i64),.lit (.int .i64)],.box 6 (6,1024) [.lit (.int .i64),.shr .int,.shr .b_]] (HJ d x) (Hj d x))]
def apR:=us [Vv,SJ,arU]
theorem arh:Holds EE (33,aaJ):=by
 refine holds_of ax func33 aaJ (by kernel_rfl) apR (aE _) atu (fun x hp hb=> ?_)
 obtain⟨d,x⟩:=x
 have bi:=iF (x:=d) (hb _ m0)
 have fE:=bi.1
 have ey:=bi.2
 have fg:=nQ (x:=x) (hb _ m1)
 have cw:=fg.1
 have dh:=fg.2.1
 have df:=fg.2.2.1
 have cI:=fg.2.2.2.1
 have de:=fg.2.2.2.2
 have bC:cT d<=4294967295:=hp _ m0
 have fT:cQ x.S.ab<=4294967296:=hp _ m1
 clear hp hb
 apply @ve _ (let q0:=List bH×Int×List av×List ak×List aI×List bu×Int×Int×PUnit;let q1:=Lb false (iC d x);HK d x (0,(d.Name,d.aw,()),(x.S.ab,x.S.Next,x.aD,x.au,x.aC,x.aL,x.State,x.dw,()),())/\∀(y:Int×T9×q0×PUnit),let x0:av:=List.getD y.2.2.1.2.2.1 y.1.toNat bM;let x2:Nat:=y.2.2.1.2.2.1.length;let x1:Int:=(↑x2:Int);let q2:=(y.1,0,(y.2.1.1,y.2.1.2.1,()),(y.2.2.1.1,y.2.2.1.2.1,y.2.2.1.2.2.1,y.2.2.1.2.2.2.1,y.2.2.1.2.2.2.2.1,y.2.2.1.2.2.2.2.2.1,y.2.2.1.2.2.2.2.2.2.1,y.2.2.1.2.2.2.2.2.2.2.1,()),(x0.cN,x0.eJ,x0.cr,()),());HK d x y->bif decide (y.1<x1) then 0<=y.1/\y.1.toNat<x2/\bif !jV {Name:=y.2.1.1,aw:=y.2.1.2.1:bB} x0 then q1 else bif (x0.cr.length:Int) !=0 then q1 else 0<=x0.cN/\x0.cN.toNat<y.2.1.2.1.length/\bif (x0.eJ.length:Int) !=(↑(cH (List.getD y.2.1.2.1 x0.cN.toNat ct).aB):Int) then q1 else HJ d x q2 q2/\∀(aS:Int×Int×T9×q0×WX×PUnit),let x4:Nat:=aS.2.2.2.2.1.2.1.length;let x5:Nat:=aS.2.1.toNat;let x3:Int:=(↑x4:Int);let q3:=(aS.2.2.2.1.1,aS.2.2.2.1.2.1,aS.2.2.2.1.2.2.1,aS.2.2.2.1.2.2.2.1,aS.2.2.2.1.2.2.2.2.1,aS.2.2.2.1.2.2.2.2.2.1,aS.2.2.2.1.2.2.2.2.2.2.1,aS.2.2.2.1.2.2.2.2.2.2.2.1,());let q4:=(aS.1,IntKind.wrap IntKind.i64 (aS.2.1+1),(aS.2.2.1.1,aS.2.2.1.2.1,()),q3,(aS.2.2.2.2.1.1,aS.2.2.2.2.1.2.1,aS.2.2.2.2.1.2.2.1,()),());let q5:=(IntKind.wrap IntKind.i64 (aS.1+1),(aS.2.2.1.1,aS.2.2.1.2.1,()),q3,());HJ d x q2 aS->bif decide (aS.2.1<x3) then 0<=aS.2.1/\x5<x4/\cQ aS.2.2.2.1.1<=4294967296/\bif !jX aS.2.2.2.1.1 (List.getD aS.2.2.2.2.1.2.1 x5 0) then q1 else HJ d x q2 q4/\Hj d x q4<Hj d x aS else HK d x q5/\Hk d x q5<Hk d x y else Lb (decide (x1<=1000)) (iC d x)) (by kernel_rfl)
 dsimp only
 refine⟨⟨rfl,rfl,by omega,by omega,rfl⟩,?_⟩
 rintro⟨i,⟨b1,b2,⟨⟩⟩,⟨g1,g2,g3,g4,g5,g6,g7,g8,⟨⟩⟩,⟨⟩⟩ ⟨hb,hg,h1,h2,hR⟩
 cases hb
 cases hg
 simp only
 refine aU (fun hc=> ?_) (fun hc=> ?_)
 ·rw[dE _ _ bM h1 hc] at hR
  have hN:iK d x.S.ab (List.getD x.aD i.toNat bM)=false->iC d x=false:=fun h=>by simp only[iC,<-hR,h,pF,va]
  refine⟨by omega,by omega,bO (fun a=>bw (hN ?_)) (fun a=>bO (fun b=>bw (hN ?_)) (fun b=> ?_))⟩
  ·have a:jV d (List.getD x.aD i.toNat bM)=false:=a
   simp only[iK,a,pF]
  ·have b:¬(List.getD x.aD i.toNat bM).cr.length=0:=by simpa using b
   simp only[iK,decide_eq_false b,pF,va]
  have a:jV d (List.getD x.aD i.toNat bM)=true:=a
  have b:(List.getD x.aD i.toNat bM).cr.length=0:=by simpa using b
  obtain⟨r1,r2⟩:=nN a
  have hz:=E4 a
  refine⟨r1,by omega,bO (fun c=>bw (hN ?_)) (fun c=>⟨⟨rfl,rfl,rfl,rfl,by omega,by omega,rfl⟩,?_⟩)⟩
  ·have c:¬(List.getD x.aD i.toNat bM).eJ.length=cH (List.getD d.aw (List.getD x.aD i.toNat bM).cN.toNat ct).aB:=fun e=>by rw[e] at c;simp at c
   simp only[iK,decide_eq_false c,pF,va]
  have c:(List.getD x.aD i.toNat bM).eJ.length=cH (List.getD d.aw (List.getD x.aD i.toNat bM).cN.toNat ct).aB:=by
   have c:=eq_of_beq c
   omega
  have hM:=Dm (s:=x.S.ab) a b c
  rintro⟨i',k,⟨b1,b2,⟨⟩⟩,⟨g1,g2,g3,g4,g5,g6,g7,g8,⟨⟩⟩,⟨m1,m2,m3,⟨⟩⟩,⟨⟩⟩ ⟨rfl,hb,hg,hm,k1,k2,kR⟩
  cases hb
  cases hg
  cases hm
  simp only
  refine aU (fun hk=> ?_) (fun hk=> ?_)
  ·rw[dE _ _ 0 k1 hk] at kR
   rw[wrap_i64 (n:=k+1) (by omega) (by omega)]
   exact⟨by omega,by omega,fT,bO (fun e=>bw (hN (by rw[hM,<-kR,e,pF]))) (fun e=>⟨⟨rfl,rfl,rfl,rfl,by omega,by omega,by rw[<-kR,e,u_]⟩,by simp only[Hj];omega⟩)⟩
  ·rw[cg _ (by omega)] at kR
   rw[wrap_i64 (n:=i'+1) (by omega) (by omega)]
   exact⟨⟨rfl,rfl,by omega,by omega,by rw[<-hR,hM,<-kR];rfl⟩,by simp only[Hk];omega⟩
 ·rw[cg _ (by omega)] at hR
  refine cj ?_
  simp only[iC,<-hR,Oj,EL];exact decide_eq_decide.2 (by omega)
def ase:HH:=⟨_,arh⟩
def aaR:bp UU where
 α:=bB×ao
 md:=[.ro,.ro]
 of:=oC (oA .dZ) (o1 (oA .bD))
 ds:=fun x=>[dA .dZ x.1,dA .bD x.2]
 pre:=fun(d,x)=>[cT d<=4294967295,cQ x.S.ab<=4294967296]
 bT:=fun(d,x)=>⟨[dO (iC d x)],[],[]⟩
 law:=lC (lA .dZ) (l1 (lA .bD))
def HR(d:bB)(x:ao):Int×T2×T1×Unit->Prop:=fun(i,b,g,_)=>b=(d.Name,d.aw,())/\g=(x.S.ab,x.S.Next,x.aD,x.au,x.aC,x.aL,x.State,x.dw,())/\x.aD.length<=1000/\0<=i/\i<=x.aD.length/\(x.aD.drop i.toNat).all (iK d x.S.ab)=x.aD.all (iK d x.S.ab)
def Hp(d:bB)(x:ao):Int×T2×T1×Unit->Nat:=fun(i,b,g,_)=>x.aD.length-i.toNat
def HQ(d:bB)(x:ao):Int×Int×T2×T1×Unit->Int×Int×T2×T1×Unit->Prop:=fun(i0,k0,b0,g0,_) (i,k,b,g,_)=>i=i0/\b=b0/\g=g0/\0<=k/\k<=(List.getD x.aD i.toNat bM).eJ.length/\((List.getD x.aD i.toNat bM).eJ.drop k.toNat).all (jX x.S.ab)=(List.getD x.aD i.toNat bM).eJ.all (jX x.S.ab)
def Ho(d:bB)(x:ao):Int×Int×T2×T1×Unit->Nat:=fun(i,k,b,g,_)=>(List.getD x.aD i.toNat bM).eJ.length-k.toNat
def atD:aaR.α->Nat->Option (bY UU):=fun(d,x)=>aN [(4,bh [.slot 18 (18,1024) (.lit (.int .i64)),.box 2 (2,1024) [.lit .str,.shr .a_],.box 3 (3,1024) [.shr .aX,.lit (.int .i64),.shr .az,.shr .aA,.shr .aH,.shr .aT,.lit (.int .i64),.lit (.int .i64)]] (fun _=>HR d x) (Hp d x)),(9,bh [.slot 18 (18,1024) (.lit (.int .i64)),.slot 48 (48,1024) (.lit (.int .i64)),.box 2 (2,1024) [.lit .str,.shr .a_],.box 3 (3,1024) [.shr .aX,.lit (.int .i64),.shr .az,.shr .aA,.shr .aH,.shr .aT,.lit (.int .i64),.lit (.int .i64)]] (HQ d x) (Ho d x))]
def ap0:=us [arZ,aa8,arY]
theorem arq:Holds EE (24,aaR):=by
 refine holds_of ax func24 aaR (by kernel_rfl) ap0 (aE _) atD (fun x hp hb=> ?_)
 obtain⟨d,x⟩:=x
 have bi:=iF (x:=d) (hb _ m0)
 have fE:=bi.1
 have ey:=bi.2
 have fg:=nQ (x:=x) (hb _ m1)
 have cw:=fg.1
 have dh:=fg.2.1
 have df:=fg.2.2.1
 have cI:=fg.2.2.2.1
 have de:=fg.2.2.2.2
 have bC:cT d<=4294967295:=hp _ m0
 have fT:cQ x.S.ab<=4294967296:=hp _ m1
 clear hp hb
 apply @ve _ (let x0:Int:=(x.aD.length:Int);let q0:=List bH×Int×List av×List ak×List aI×List bu×Int×Int×PUnit;let q1:=Lb false (iC d x);bif decide (x0>1000) then q1 else HR d x (0,(d.Name,d.aw,()),(x.S.ab,x.S.Next,x.aD,x.au,x.aC,x.aL,x.State,x.dw,()),())/\∀(y:Int×T9×q0×PUnit),let x2:av:=List.getD x.aD y.1.toNat bM;let x1:Int:=(x2.eJ.length:Int);let q2:=(y.1,0,(y.2.1.1,y.2.1.2.1,()),(y.2.2.1.1,y.2.2.1.2.1,y.2.2.1.2.2.1,y.2.2.1.2.2.2.1,y.2.2.1.2.2.2.2.1,y.2.2.1.2.2.2.2.2.1,y.2.2.1.2.2.2.2.2.2.1,y.2.2.1.2.2.2.2.2.2.2.1,()),());HR d x y->bif decide (y.1<x0) then 0<=y.1/\y.1.toNat<x.aD.length/\bif !jV {Name:=y.2.1.1,aw:=y.2.1.2.1:bB} x2 then q1 else bif (x2.cr.length:Int) !=0 then q1 else 0<=x2.cN/\x2.cN.toNat<y.2.1.2.1.length/\bif x1 !=(↑(cH (List.getD y.2.1.2.1 x2.cN.toNat ct).aB):Int) then q1 else HQ d x q2 q2/\∀(aS:Int×Int×T9×q0×PUnit),let x3:Nat:=aS.2.1.toNat;let q3:=(aS.2.2.2.1.1,aS.2.2.2.1.2.1,aS.2.2.2.1.2.2.1,aS.2.2.2.1.2.2.2.1,aS.2.2.2.1.2.2.2.2.1,aS.2.2.2.1.2.2.2.2.2.1,aS.2.2.2.1.2.2.2.2.2.2.1,aS.2.2.2.1.2.2.2.2.2.2.2.1,());let q4:=(aS.1,IntKind.wrap IntKind.i64 (aS.2.1+1),(aS.2.2.1.1,aS.2.2.1.2.1,()),q3,());let q5:=(IntKind.wrap IntKind.i64 (aS.1+1),(aS.2.2.1.1,aS.2.2.1.2.1,()),q3,());HQ d x q2 aS->bif decide (aS.2.1<x1) then 0<=aS.2.1/\x3<x2.eJ.length/\cQ aS.2.2.2.1.1<=4294967296/\bif !jX aS.2.2.2.1.1 (List.getD x2.eJ x3 0) then q1 else HQ d x q2 q4/\Ho d x q4<Ho d x aS else HR d x q5/\Hp d x q5<Hp d x y else Lb true (iC d x)) (by kernel_rfl)
 dsimp only
 refine aU (fun a=>bw ?_) (fun a=>⟨⟨rfl,rfl,by omega,by omega,by omega,rfl⟩,?_⟩)
 ·simp only[iC];rw[decide_eq_false (p:=x.aD.length<=1000) (by omega),pF]
 rintro⟨i,⟨b1,b2,⟨⟩⟩,⟨g1,g2,g3,g4,g5,g6,g7,g8,⟨⟩⟩,⟨⟩⟩ ⟨hb,hg,a0,h1,h2,hR⟩
 cases hb
 cases hg
 simp only
 refine aU (fun hc=> ?_) (fun hc=> ?_)
 ·rw[dE _ _ bM h1 hc] at hR
  have hN:iK d x.S.ab (List.getD x.aD i.toNat bM)=false->iC d x=false:=fun h=>by simp only[iC,<-hR,h,pF,va]
  refine⟨by omega,by omega,bO (fun a=>bw (hN ?_)) (fun a=>bO (fun b=>bw (hN ?_)) (fun b=> ?_))⟩
  ·have a:jV d (List.getD x.aD i.toNat bM)=false:=a
   simp only[iK,a,pF]
  ·have b:¬(List.getD x.aD i.toNat bM).cr.length=0:=by simpa using b
   simp only[iK,decide_eq_false b,pF,va]
  have a:jV d (List.getD x.aD i.toNat bM)=true:=a
  have b:(List.getD x.aD i.toNat bM).cr.length=0:=by simpa using b
  obtain⟨r1,r2⟩:=nN a
  have hz:=E4 a
  refine⟨r1,by omega,bO (fun c=>bw (hN ?_)) (fun c=>⟨⟨rfl,rfl,rfl,by omega,by omega,rfl⟩,?_⟩)⟩
  ·have c:¬(List.getD x.aD i.toNat bM).eJ.length=cH (List.getD d.aw (List.getD x.aD i.toNat bM).cN.toNat ct).aB:=fun e=>by rw[e] at c;simp at c
   simp only[iK,decide_eq_false c,pF,va]
  have c:(List.getD x.aD i.toNat bM).eJ.length=cH (List.getD d.aw (List.getD x.aD i.toNat bM).cN.toNat ct).aB:=by
   have c:=eq_of_beq c
   omega
  have hM:=Dm (s:=x.S.ab) a b c
  rintro⟨i',k,⟨b1,b2,⟨⟩⟩,⟨g1,g2,g3,g4,g5,g6,g7,g8,⟨⟩⟩,⟨⟩⟩ ⟨rfl,hb,hg,k1,k2,kR⟩
  cases hb
  cases hg
  simp only
  refine aU (fun hk=> ?_) (fun hk=> ?_)
  ·rw[dE _ _ 0 k1 hk] at kR
   rw[wrap_i64 (n:=k+1) (by omega) (by omega)]
   exact⟨by omega,by omega,fT,bO (fun e=>bw (hN (by rw[hM,<-kR,e,pF]))) (fun e=>⟨⟨rfl,rfl,rfl,by omega,by omega,by rw[<-kR,e,u_]⟩,by simp only[Ho];omega⟩)⟩
  ·rw[cg _ (by omega)] at kR
   rw[wrap_i64 (n:=i'+1) (by omega) (by omega)]
   exact⟨⟨rfl,rfl,a0,by omega,by omega,by rw[<-hR,hM,<-kR];rfl⟩,by simp only[Hp];omega⟩
 ·rw[cg _ (by omega)] at hR
  refine mV ?_
  simp only[iC,<-hR,decide_eq_true a0];rfl
def asj:HH:=⟨_,arq⟩
def aaQ:bp UU where
 α:=(List ak)×(List (DA UU)->Option Value)
 md:=[.ro,.ro]
 of:=oC (oL .aA) (o1 oF)
 ds:=fun x=>[dL .aA x.1,dF x.2]
 pre:=fun(l,p)=>[∀j:Nat,j<l.length->p [eV (List.getD l j aR)]=some (.bool (cy (p [eV (List.getD l j aR)])))]
 bT:=fun(l,p)=>⟨[dO (anyI l.length (fun j=>cy (p [eV (List.getD l j aR)])))],[],[]⟩
 law:=lC (lL .aA) (l1 lF)
def atC:aaQ.α->Nat->Option (bY UU):=fun(l,p)=>aN []
def apZ:=us [ahQ]
theorem arp:Holds EE (25,aaQ):=by
 refine holds_of ax func25 aaQ (by kernel_rfl) apZ (aE _) atC (fun x hp hb=> ?_)
 obtain⟨l,p⟩:=x
 have gP:l.length<=9223372036854775807:=jO (hb _ m0)
 have bC:∀j:Nat,j<l.length->p [eV (List.getD l j aR)]=some (.bool (cy (p [eV (List.getD l j aR)]))):=hp _ m0
 clear hp hb
 apply @ve _ (let x0:Int:=kT (l.length) fun(j:Nat)=>cy (p [eV (List.getD l j aR)]);(∀(j:Nat),j<l.length->p [eV (List.getD l j aR)]=some (Value.bool (cy (p [eV (List.getD l j aR)]))))/\Lb (decide (x0≥0)) (anyI (l.length) fun(j:Nat)=>cy (p [eV (List.getD l j aR)]))) (by kernel_rfl)
 dsimp only
 exact⟨bC,cj (by rw[<-Gy])⟩
def asi:HH:=⟨_,arp⟩
def aaI:bp UU where
 α:=(List ak)
 md:=[.ro]
 of:=o1 (oL .aA)
 ds:=fun x=>[dL .aA x]
 pre:=fun _=>[]
 bT:=fun l=>⟨[dO (oj l)],[],[]⟩
 law:=l1 (lL .aA)
def HI(l:(List ak)):Int×Unit->Prop:=fun(i,_)=>0<=i/\i<=l.length/\∀j:Nat,(j:Int)<i->j8 (List.getD l j aR)=false
def Hi(l:(List ak)):Int×Unit->Nat:=fun(i,_)=>l.length-i.toNat
def att:aaI.α->Nat->Option (bY UU):=fun l=>aN [(2,bh [.slot 3 (3,1024) (.lit (.int .i64))] (fun _=>HI l) (Hi l))]
def apQ:List (FuncId×bp UU):=[]
theorem arf:Holds EE (34,aaI):=by
 refine holds_of ax func34 aaI (by kernel_rfl) apQ all_nil att (fun(l:(List ak)) hp hb=> ?_)
 have gP:l.length<=9223372036854775807:=jO (hb _ m0)
 clear hp hb
 apply @ve _ (HI l (0,())/\∀(y:Int×PUnit),let q0:=(IntKind.wrap IntKind.i64 (y.1+1),());HI l y->bif decide (y.1<(l.length:Int)) then 0<=y.1/\y.1.toNat<l.length/\bif (List.getD l y.1.toNat aR).State==1 then Lb true (oj l) else 0<=y.1/\y.1.toNat<l.length/\bif (List.getD l y.1.toNat aR).State==2 then Lb true (oj l) else HI l q0/\Hi l q0<Hi l y else Lb false (oj l)) (by kernel_rfl)
 dsimp only
 refine⟨⟨by omega,by omega,by intro j hj;omega⟩,?_⟩
 rintro⟨i,⟨⟩⟩ ⟨h1,h2,hR⟩
 simp only
 refine aU (fun hc=> ?_) (fun hc=> ?_)
 ·rw[wrap_i64 (by omega) (by omega)]
  have hY:j8 (List.getD l i.toNat aR)=true->oj l=true:=fun h=>ir (j:=i.toNat) (by omega) h
  refine⟨by omega,by omega,bo (fun h=>mV (hY (by simp only[j8];grind))) (fun h=>⟨by omega,by omega,bo (fun g=>mV (hY (by simp only[j8];grind))) (fun g=>⟨⟨by omega,by omega,ju (p:=fun j=>j8 (List.getD l j aR)) h1 hR (by simp only[j8];grind)⟩,by simp only[Hi];omega⟩)⟩)⟩
 ·exact bw (gg fun j hj=>hR j (by omega))
def asd:HH:=⟨_,arf⟩
def aaH:bp UU where
 α:=ao
 md:=[.ro]
 of:=o1 (oA .bD)
 ds:=fun x=>[dA .bD x]
 pre:=fun _=>[]
 bT:=fun x=>⟨[dO (mb x)],[],[]⟩
 law:=l1 (lA .bD)
def ats:aaH.α->Nat->Option (bY UU):=fun x=>aN []
def apP:List (FuncId×bp UU):=[]
theorem ard:Holds EE (35,aaH):=by
 refine holds_of ax func35 aaH (by kernel_rfl) apP all_nil ats (fun(x:ao) hp hb=> ?_)
 have bi:=nQ (x:=x) (hb _ m0)
 have cw:=bi.1
 have dh:=bi.2.1
 have df:=bi.2.2.1
 have cI:=bi.2.2.2.1
 have de:=bi.2.2.2.2
 clear hp hb
 apply @ve _ (bif x.State==3 then Lb true (mb x) else Lb (x.State==5) (mb x)) (by kernel_rfl)
 simp only[mb]
 refine bo (fun h=>cj ?_) (fun h=>cj ?_)
 ·rw[decide_eq_true h,Bool.true_or]
 ·rw[decide_eq_false h,FT]
  rw[H2];simp
def asc:HH:=⟨_,ard⟩
def aa5:bp UU where
 α:=bB×ao
 md:=[.ro,.ro]
 of:=oC (oA .dZ) (o1 (oA .bD))
 ds:=fun x=>[dA .dZ x.1,dA .bD x.2]
 pre:=fun(d,x)=>[cT d<=4294967295,cQ x.S.ab<=4294967296]
 bT:=fun(d,x)=>⟨[dO (instOk d x)],[],[]⟩
 law:=lC (lA .dZ) (l1 (lA .bD))
def atS:aa5.α->Nat->Option (bY UU):=fun(d,x)=>aN []
def aqc:=us [ahV,asg,asf,ahU,ahT,sC,ase,aba,asd,asc]
theorem arF:Holds EE (10,aa5):=by
 refine holds_of ax func10 aa5 (by kernel_rfl) aqc (aE _) atS (fun x hp hb=> ?_)
 obtain⟨d,x⟩:=x
 have bi:=iF (x:=d) (hb _ m0)
 have fE:=bi.1
 have ey:=bi.2
 have fg:=nQ (x:=x) (hb _ m1)
 have cw:=fg.1
 have dh:=fg.2.1
 have df:=fg.2.2.1
 have cI:=fg.2.2.2.1
 have de:=fg.2.2.2.2
 have bC:cT d<=4294967295:=hp _ m0
 have fT:cQ x.S.ab<=4294967296:=hp _ m1
 clear hp hb
 apply @ve _ (let q0:=Lb false (instOk d x);let q1:=bif !mb x then Lb true (instOk d x) else Lb (decide ((x.aL.length:Int)>0)) (instOk d x);cT d<=4294967295/\bif !fz d then q0 else bif !bQ x.S then q0 else bif !bc x.au then q0 else bif !cY x.aC then q0 else bif !db x.aL then q0 else bif !decide (1<=x.State/\x.State<=6) then q0 else bif !decide (0<=x.dw/\x.dw<=1000000000) then q0 else cT d<=4294967295/\cQ x.S.ab<=4294967296/\bif !iC d x then q0 else bif decide (x.State=2\/x.State=4\/x.State=6) then bif oj x.au then q0 else bif decide ((x.aC.length:Int)>0) then q0 else q1 else q1) (by kernel_rfl)
 dsimp only
 refine⟨bC,?_⟩
 have ht:decide ((x.aC.length:Int)>0)=decide (0<x.aC.length):=decide_eq_decide.2 (by omega)
 have hu:decide ((x.aL.length:Int)>0)=decide (0<x.aL.length):=decide_eq_decide.2 (by omega)
 simp only[instOk,mw,ht,hu]
 repeat' (first|refine And.intro fT ?_|refine And.intro bC (And.intro fT ?_)|refine af (fun h=> ?_) (fun h=> ?_))
 all_goals (refine cj ?_;grind)
def asr:HH:=⟨_,arF⟩
def Zk9:bp UU where
 α:=bB×ao
 md:=[.ro,.ro]
 of:=oC (oA .dZ) (o1 (oA .bD))
 ds:=fun x=>[dA .dZ x.1,dA .bD x.2]
 pre:=fun(d,x)=>[cT d<=4294967295,cQ x.S.ab<=4294967296]
 bT:=fun(d,x)=>⟨[dO (instOk d x)],[],[]⟩
 law:=lC (lA .dZ) (l1 (lA .bD))
def Za9:Zk9.α->Nat->Option (bY UU):=fun(d,x)=>aN []
def Zu9:=us [asp,aso,asn,asm,asl,Ec,aa9,asj,ai6,asi,ash]
theorem Zo9:Holds EE (9,Zk9):=by
 refine holds_of ax func9 Zk9 (by kernel_rfl) Zu9 (aE _) Za9 (fun x hp hb=> ?_)
 obtain⟨d,x⟩:=x
 have aox:gB (U:=UU) (.agg [.lit (.string d.Name),.sl .a_ d.aw]):=hb _ m0
 have bi:=iF (x:=d) (hb _ m0)
 have fE:=bi.1
 have ey:=bi.2
 have Qb:gB (U:=UU) (.agg [.sl .aX x.S.ab,.lit (.int .i64 x.S.Next),.sl .az x.aD,.sl .aA x.au,.sl .aH x.aC,.sl .aT x.aL,.lit (.int .i64 x.State),.lit (.int .i64 x.dw)]):=hb _ m1
 have fg:=nQ (x:=x) (hb _ m1)
 have cw:=fg.1
 have dh:=fg.2.1
 have df:=fg.2.2.1
 have cI:=fg.2.2.2.1
 have de:=fg.2.2.2.2
 have bC:cT d<=4294967295:=hp _ m0
 have fT:cQ x.S.ab<=4294967296:=hp _ m1
 clear hp hb
 apply @ve _ (let q0:=Lb false (instOk d x);let q1:=Lb (decide ((x.aL.length:Int)>0)) (instOk d x);bif !fz d then q0 else bif !bQ x.S then q0 else bif !bc x.au then q0 else bif !cY x.aC then q0 else bif !db x.aL then q0 else bif !decide (1<=x.State/\x.State<=6) then q0 else bif !decide (0<=x.dw/\x.dw<=1000000000) then q0 else cT d<=4294967295/\cQ x.S.ab<=4294967296/\bif !iC d x then q0 else bif x.State==3 then q1 else bif x.State==5 then q1 else bif !decide (x.State=2\/x.State=4\/x.State=6) then Lb true (instOk d x) else bif (x.aC.length:Int)==0 then(∀(j:Nat),j<x.au.length->ic DX [] [eV (List.getD x.au j aR)]=some (Value.bool (cy (ic DX [] [eV (List.getD x.au j aR)]))))/\Lb (!anyI (x.au.length) fun(j:Nat)=>cy (ic DX [] [eV (List.getD x.au j aR)])) (instOk d x) else q0) (by kernel_rfl)
 dsimp only
 have hc:∀t:ak,ic DX [] [eV t]=some (.bool (j8 t)):=fun t=>xA (x:=t) rfl rfl rfl rfl (by simp[DX])
 have hl:(anyI x.au.length fun j=>cy (ic DX [] [eV (List.getD x.au j aR)]))=oj x.au:=ng fun j hj=>by rw[hc];rfl
 have iq:∀j:Nat,j<x.au.length->ic DX [] [eV (List.getD x.au j aR)]=some (.bool (cy (ic DX [] [eV (List.getD x.au j aR)]))):=fun j hj=>by rw[hc];rfl
 have ht:((x.aC.length:Int)==0)= !decide (0<x.aC.length):=by rw[H2];simp
 have hu:decide ((x.aL.length:Int)>0)=decide (0<x.aL.length):=decide_eq_decide.2 (by omega)
 have h3:(x.State==3)=decide (x.State=3):=by rw[H2];simp
 have h5:(x.State==5)=decide (x.State=5):=by rw[H2];simp
 simp only[instOk,mw,mb,ht,hu,h3,h5,hl]
 repeat' (first|refine And.intro iq ?_|refine And.intro bC (And.intro fT ?_)|refine And.intro fT ?_|refine af (fun h=> ?_) (fun h=> ?_))
 all_goals (refine cj ?_;clear iq hc hl ht hu h3 h5 aox Qb;grind)
def Zh9:HH:=⟨_,Zo9⟩
theorem Xe{v:aQ}(h:bR v=true):v.S.size<=21:=by
 simp only[bR] at h
 by_cases h1:v.K=1
 ·simp[h1] at h;rw[h.2];simp[ai]
 ·by_cases h2:v.K=2
  ·simp[h2] at h;omega
  ·simp[h1,h2] at h
theorem VM:∀{l:List aQ},l.all bR=true->gy l<=22*l.length
 |[],_=>by simp[gy]
 |x::l,h=>by
  simp only[Om,cK] at h
  have h1:=VM h.2
  have h2:=Xe h.1
  simp only[gy,gv,uY,Ki,nq] at h1⊢
  omega
theorem qS{f:aJ}(h:bI f=true):f.aj.length<=5/\eg f<=145:=by
 simp only[bI,bm,cK,decide_eq_true_eq] at h
 obtain⟨⟨⟨⟨⟨_,h1⟩,_⟩,_⟩,h2⟩,h3⟩:=h
 have:=VM h3
 simp only[eg];omega
theorem vE{α:Type}(f:α->Nat)(B:Nat):∀(l:List α),(∀x∈l,f x<=B)->(l.map f).sum<=l.length*B
 |[],_=>by simp
 |x::l,h=>by
  have h1:=vE f B l (fun y hy=>h y (cA _ hy))
  have h2:=h x gj
  simp only[uY,Ki,gv,wz];omega
theorem xK{α:Type}{l:List α}{z:α}{p:Nat->Bool}{q:α->Prop}(h:allI l.length p=true)(hq:∀i,p i=true->q (List.getD l i z)):∀x∈l,q x:=fun x hx=>by
 obtain⟨i,hi,rfl⟩:=ri hx
 have:=hq i (fV.1 h i hi)
 rwa[eY,fo hi] at this
theorem VN{u:BA}(h:fH u=true):u.size<=12:=by
 simp only[fH,bm,Ee,cK,decide_eq_true_eq] at h
 rcases h with rfl|h
 ·simp[ai]
 ·exact h.1.1.2
theorem n7{a b:Int}{P Q:Prop}(h1:¬a=b->P)(h2:a=b->Q):bif a !=b then P else Q:=af (fun h=>h1 (by simpa using h)) (fun h=>h2 (by simpa using h))
def wY(f:aJ)(qm:BA)(now:Int):ak:=⟨f,qm,1,0,now,dx⟩
def w_(l:List ak)(f:aJ):Bool:=anyI l.length fun k=>decide ((List.getD l k aR).F=f)
def fZ(l:List ak)(f:aJ)(qm:BA)(now:Int):List ak×Bool:=
 if w_ l f=true then(l,true) else if 30<=l.length then(l,false) else(l++[wY f qm now],true)
def R6:bp UU where
 α:=(List ak)×aJ×BA×Int
 md:=[.mv,.ro,.ro,.ro]
 of:=oC (oL .aA) (oC (oA .bP) (oC oS (o1 oI)))
 ds:=fun x=>[dL .aA x.1,dA .bP x.2.1,dS x.2.2.1,dI x.2.2.2]
 pre:=fun(l,f,qm,now)=>[f.aj.length<=4294967296]
 bT:=fun(l,f,qm,now)=>⟨[dL .aA ((fZ l f qm now).1),dO ((fZ l f qm now).2)],[],[]⟩
 law:=lC (lL .aA) (lC (lA .bP) (lC lS (l1 lI)))
def BS(l:(List ak))(f:aJ)(qm:BA)(now:Int):List ak×Int×T6×Unit->Prop:=fun(row,i,fb,_)=>row=l/\fb=(f.Kind,f.aj,())/\0<=i/\i<=l.length/\∀j:Nat,(j:Int)<i->decide ((List.getD l j aR).F=f)=false
def Bc(l:(List ak))(f:aJ)(qm:BA)(now:Int):List ak×Int×T6×Unit->Nat:=fun(row,i,fb,_)=>l.length-i.toNat
def akk:R6.α->Nat->Option (bY UU):=fun(l,f,qm,now)=>aN [(2,bh [.slot 0 (0,1024) (.own .aA true),.slot 10 (10,1024) (.lit (.int .i64)),.box 5 (5,1024) [.lit .str,.shr .aM]] (fun _=>BS l f qm now) (Bc l f qm now))]
def afg:=us [Vw,sM]
theorem ag5:Holds EE (139,R6):=by
 refine holds_of ax func139 R6 (by kernel_rfl) afg (aE _) akk (fun x hp hb=> ?_)
 obtain⟨l,f,qm,now⟩:=x
 have gP:l.length<=9223372036854775807:=jO (hb _ m0)
 have fg:=fB (x:=f) (hb _ m1)
 have gb:=fg.1
 have eh:=fg.2
 have ak6:=Ao (s:=qm) (hb _ m2)
 have vW:=sL (n:=now) (hb _ m3)
 have bC:f.aj.length<=4294967296:=hp _ m0
 clear hp hb
 apply @ve _ (let q0:=fZ l f qm now;BS l f qm now (l,0,(f.Kind,f.aj,()),())/\∀(y:List ak×Int×WW×PUnit),let x1:aJ:={Kind:=y.2.2.1.1,aj:=y.2.2.1.2.1:aJ};let x2:Nat:=y.2.1.toNat;let x3:Int:=(y.1.length:Int);let x0:List ak:=[{F:=x1,aW:=qm,State:=(1:Int),bE:=(0:Int),kf:=now,V:={K:=(0:Int),N:=(0:Int),S:={data:= #[]:BA}:aQ}:ak}];let q1:=(y.1,IntKind.wrap IntKind.i64 (y.2.1+1),(y.2.2.1.1,y.2.2.1.2.1,()),());BS l f qm now y->bif decide (y.2.1<x3) then 0<=y.2.1/\x2<y.1.length/\x2<y.1.length/\x2<y.1.length/\bif decide ((List.getD y.1 x2 aR).F=x1) then Lf [VL .aA y.1,VB true] [VL .aA (q0.1),VB (q0.2)] else BS l f qm now q1/\Bc l f qm now q1<Bc l f qm now y else bif decide (x3≥30) then Lf [VL .aA y.1,VB false] [VL .aA (q0.1),VB (q0.2)] else y.2.2.1.2.1.length<=4294967296/\y.1.length+x0.length<=4294967296/\Lf [VL .aA (y.1++x0),VB true] [VL .aA (q0.1),VB (q0.2)]) (by kernel_rfl)
 dsimp only
 refine⟨⟨rfl,rfl,by omega,by omega,by intro j hj;omega⟩,?_⟩
 rintro⟨row,i,fb,⟨⟩⟩ ⟨rfl,rfl,h1,h2,hR⟩
 simp only
 refine af (fun hc=> ?_) (fun hc=> ?_)
 ·have hc:=yT hc
  rw[wrap_i64 (by omega) (by omega)]
  repeat' (first|refine And.intro (by omega) ?_|refine af (fun h=> ?_) (fun h=> ?_)|fail)
  ·have ha:w_ row f=true:=ir (j:=i.toNat) (by omega) h
   simp only[fZ,if_pos ha];exact bN _
  ·exact⟨⟨rfl,rfl,by omega,by omega,ju h1 hR h⟩,by simp only[Bc];omega⟩
 ·have hc:=yF hc
  have ha:¬w_ row f=true:=by
   rw[yi];exact gg fun j hj=>hR j (by omega)
  refine af (fun h=> ?_) (fun h=> ?_)
  ·have h:=yT h
   simp only[fZ,if_neg ha,if_pos (show 30<=row.length by omega)];exact bN _
  ·have h:=yF h
   repeat' (first|refine And.intro (by first|omega|(simp;omega)) ?_|fail)
   simp only[fZ,if_neg ha,if_neg (show¬30<=row.length by omega)];exact bN _
def SR:HH:=⟨_,ag5⟩
theorem lQ{l:List ak}:bc l=true↔l.length<=30/\(∀t∈l,fY t=true)/\(l.map ak.F).Nodup:=by
 have hg:∀{i:Nat}(h:i<l.length),List.getD l i aR=l[i]:=fun{i} h=>by rw[eY,fo h];rfl
 simp only[bc,cK,decide_eq_true_eq]
 refine and_congr_right fun _=> ?_
 rw[xL]
 constructor
 ·intro h
  refine⟨fun t ht=> ?_,?_⟩
  ·obtain⟨i,hi,rfl⟩:=ri ht
   have:=h i hi
   simp only[jx,cK] at this
   rw[<-hg hi];exact this.1
  ·rw[List.Nodup,Tn]
   intro i j hi hj Ej
   simp only[wv] at hi hj
   have:=h j hj
   simp only[jx,cK,ql] at this
   have:=nR.1 this.2 i Ej
   simp only[decide_eq_false_iff_not] at this
   rw[hg hi,hg hj] at this
   simpa using this
 ·rintro⟨h1,h2⟩ j hj
  simp only[jx,cK,ql]
  refine⟨by rw[hg hj];exact h1 _ (Ed hj),nR.2 fun i Ej=> ?_⟩
  have hi:i<l.length:=by omega
  rw[List.Nodup,Tn] at h2
  have:=h2 i j (by simpa using hi) (by simpa using hj) Ej
  simp only[decide_eq_false_iff_not]
  rw[hg hi,hg hj]
  simpa using this
theorem zD{l:List ak}{f:ak->ak}(hF:∀t,(f t).F=t.F)(hf:∀t,fY t=true->fY (f t)=true)(h:bc l=true):bc (l.map f)=true:=by
 rw[lQ] at h⊢
 refine⟨by simpa using h.1,fun t ht=> ?_,?_⟩
 ·obtain⟨t0,h0,rfl⟩:=lB.1 ht
  exact hf _ (h.2.1 _ h0)
 ·rw[List.map_map]
  have:ak.F∘f=ak.F:=funext hF
  rw[this];exact h.2.2
theorem nX{α β:Type}(g:α->β)(f:α->α)(hg:∀x,g (f x)=g x):∀(l:List α)(k:Nat),(l.modify k f).map g=l.map g
 |[],k=>by simp
 |x::l,0=>by simp[hg]
 |x::l,k+1=>by simp[nX g f hg l k]
theorem fX{t:ak}:fY t=true↔bI t.F=true/\fH t.aW=true/\(1<=t.State/\t.State<=4)/\(0<=t.bE/\t.bE<=4)/\(0<=t.kf/\t.kf<=1000001000)/\(t.V=dx\/bR t.V=true)/\((t.State=1->t.bE=0)/\(t.State=2->t.bE≠0)):=by
 simp only[fY,cK,Ee,decide_eq_true_eq]
 constructor
 ·rintro⟨⟨⟨⟨⟨⟨h1,h2⟩,h3⟩,h4⟩,h5⟩,h6⟩,h7⟩;exact⟨h1,h2,h3,h4,h5,h6,h7⟩
 ·rintro⟨h1,h2,h3,h4,h5,h6,h7⟩;exact⟨⟨⟨⟨⟨⟨h1,h2⟩,h3⟩,h4⟩,h5⟩,h6⟩,h7⟩
theorem NM(t:ak):(kr t).F=t.F:=by unfold kr;split<;>rfl
theorem oR{l:List ak}(h:bc l=true):bc (giveUp l)=true:=by
 refine zD NM (fun t h=> ?_) h
 obtain⟨a1,a2,a3,a4,a5,a6,a7⟩:=fX.1 h
 unfold kr;split
 ·exact fX.2 ⟨a1,a2,by simp,a4,a5,a6,by simp⟩
 ·exact h
theorem Jk{l:List ak}{f:aJ}:w_ l f=true↔f∈l.map ak.F:=by
 simp only[w_,xJ,decide_eq_true_eq,lB]
 constructor
 ·rintro⟨j,hj,rfl⟩
  rw[eY,fo hj]
  exact⟨l[j],Ed hj,rfl⟩
 ·rintro⟨t,ht,rfl⟩
  obtain⟨i,hi,rfl⟩:=ri ht
  exact⟨i,hi,by rw[eY,fo hi];rfl⟩
theorem np{l:List ak}{f:aJ}{u:BA}{now:Int}(h:bc l=true)(hf:bI f=true)(hu:fH u=true)(h0:0<=now)(h1:now<=1000001000):bc (fZ l f u now).1=true:=by
 unfold fZ;split
 ·exact h
 ·rename_i hn
  split
  ·exact h
  ·rename_i hl
   rw[lQ] at h⊢
   refine⟨by simp only[kg,gv,fO];omega,fun t ht=> ?_,?_⟩
   ·rcases jr.1 ht with ht|ht
    ·exact h.2.1 t ht
    ·rw[ma.1 ht]
     exact fX.2 ⟨hf,hu,by simp[wY],by simp[wY],by simp only[wY];omega,.inl rfl,by simp[wY]⟩
   ·rw[Kg,qB]
    refine⟨h.2.2,by simp,?_⟩
    intro x hx y hy e
    rw[Jk] at hn
    simp only[uY,List.map_nil,ma] at hy
    rw[hy] at e;rw[e] at hx;exact hn hx
theorem Ci{l:List ak}(h:bc l=true):l.length<=30/\gW l<=6000:=by
 obtain⟨h1,h2,_⟩:=lQ.1 h
 have:=vE nE 180 l (fun t ht=>by
  obtain⟨a1,a2,_,_,_,a6,_⟩:=fX.1 (h2 t ht)
  have b1:=(qS a1).2
  have b2:=VN a2
  have b3:nq t.V<=21:=by
   rcases a6 with e|e
   ·rw[e];decide
   ·exact Xe e
  simp only[nE];omega)
 simp only[gW];omega
theorem Ar{l:List aI}(h:cY l=true):l.length<=30/\ee l<=6000:=by
 simp only[cY,cK,decide_eq_true_eq] at h
 have:=vE iY 145 l (xK (z:=dH) h.2 fun i hi=>by
  simp only[jw,iy,cK] at hi
  exact(qS hi.1.2).2)
 simp only[ee];omega
theorem Cc{l:List bu}(h:db l=true):l.length<=30/\(∀u∈l,bI u.F=true)/\dt l<=20000:=by
 simp only[db,cK,decide_eq_true_eq] at h
 have hf:∀u∈l,bI u.F=true:=xK (z:=ck) h.2 fun i hi=>by
  simp only[jv,cK] at hi;exact hi.1.2
 have:=vE ed 345 l (xK (z:=ck) h.2 fun i hi=>by
  simp only[jv,cK,decide_eq_true_eq] at hi
  have:=(qS hi.1.2).2
  simp only[ed];omega)
 refine⟨h.1,hf,?_⟩
 simp only[dt];omega
theorem zB{l:List bu}(h:db l=true)(hl:l≠[]):bI (dz l)=true:=by
 rw[dz,if_neg hl]
 have h0:l.length-1<l.length:=by have:=List.length_pos_iff.2 hl;omega
 rw[eY,fo h0]
 exact(Cc h).2.1 _ (Ed h0)
def Am(x:ao)(st:Int):ao:=⟨x.S,x.aD,giveUp x.au,[],x.aL,st,x.dw⟩
def E2(l:List ak)(f:aJ):List ak:=l.filter fun t=> !decide (t.F=f)
def Jn(l:List ak)(f:aJ):List ak:=if 30<=(E2 l f).length then[] else E2 l f
def Cp(x:ao):List ak:=(fZ (Jn x.au (dz x.aL)) (dz x.aL) ai x.dw).1
def kX(x:ao):ao:=if x.aL=[] then Am x (if x.State=5 then 6 else 4) else⟨x.S,x.aD,Cp x,x.aC,x.aL,x.State,x.dw⟩
def jk(x:ao)(st:Int):ao:=kX (Am x st)
def en(x:ao):Prop:=bc x.au=true/\db x.aL=true/\0<=x.dw/\x.dw<=1000000000
theorem NL{x:ao}(h:en x)(st:Int):en (Am x st):=⟨oR h.1,h.2⟩
theorem Ch{l:List ak}(p:ak->Bool)(h:bc l=true):bc (l.filter p)=true:=by
 rw[lQ] at h⊢
 refine⟨wu (Kh _ _) h.1,fun t ht=>h.2.1 t (wA.1 ht).1,?_⟩
 exact(List.filter_sublist.map ak.F).nodup h.2.2
theorem F5{l:List ak}(h:bc l=true)(f:aJ):bc (Jn l f)=true:=by
 unfold Jn;split
 ·rfl
 ·exact Ch _ h
theorem Cf{x:ao}(h:en x)(hu:x.aL≠[]):bc (Cp x)=true:=
 np (F5 h.1 _) (zB h.2.1 hu) rfl h.2.2.1 (by have:=h.2.2.2;omega)
theorem Cj{α:Type}{l:List α}{i:Nat}(z:α)(h:i<l.length):l.take (i+1)=l.take i++[List.getD l i z]:=by
 rw[zcz h,eY,fo h];rfl
theorem rW{α:Type}(q:α->Bool){l:List α}{i:Nat}(z:α)(h:i<l.length):(l.take (i+1)).filter q=(l.take i).filter q++(if q (List.getD l i z)=true then[List.getD l i z] else[]):=by
 rw[Cj z h,List.filter_append]
 congr 1
 generalize List.getD l i z=x
 by_cases hq:q x=true<;>simp[hq]
theorem o8{a b:ao}(h:a=b):ap [DV.box [.sl .aX a.S.ab,.lit (.int .i64 a.S.Next),.sl .az a.aD,.sl .aA a.au,.sl .aH a.aC,.sl .aT a.aL,.lit (.int .i64 a.State),.lit (.int .i64 a.dw)]]=ap [DV.box [.sl .aX b.S.ab,.lit (.int .i64 b.S.Next),.sl .az b.aD,.sl .aA b.au,.sl .aH b.aC,.sl .aT b.aL,.lit (.int .i64 b.State),.lit (.int .i64 b.dw)]]:=by rw[h]
def R7:bp UU where
 α:=ao×Int
 md:=[.box true,.ro]
 of:=oC (oX .bD) (o1 oI)
 ds:=fun x=>[dX .bD x.1,dI x.2]
 pre:=fun(x,state)=>[bc x.au=true]
 bT:=fun(x,state)=>⟨[],[],[dX .bD (Am x state)]⟩
 law:=lC (lX .bD) (l1 lI)
def akl:R7.α->Nat->Option (bY UU):=fun(x,state)=>aN []
def afh:=us [ahN]
theorem ag6:Holds EE (138,R7):=by
 refine holds_of ax func138 R7 (by kernel_rfl) afh (aE _) akl (fun x hp hb=> ?_)
 obtain⟨x,state⟩:=x
 have bi:=g_ (x:=x) (hb _ m0)
 have cw:=bi.1
 have dh:=bi.2.1
 have df:=bi.2.2.1
 have cI:=bi.2.2.2.1
 have de:=bi.2.2.2.2
 have PT:=sL (n:=state) (hb _ m1)
 have bC:bc x.au=true:=hp _ m0
 clear hp hb
 apply @ve _ (gW x.au<=4294967296/\(0:Nat)=(0:Nat)/\ap []=ap []/\ap [DV.box [CL .aX x.S.ab,CI x.S.Next,CL .az x.aD,CL .aA (giveUp x.au),CL .aH [],CL .aT x.aL,CI state,CI x.dw]]=ap [DV.box (aO (Am x state))]) (by kernel_rfl)
 have:=(Ci bC).2
 exact⟨by omega,rfl,rfl,rfl⟩
def WK:HH:=⟨_,ag6⟩
def ZY:bp UU where
 α:=ao
 md:=[.box true]
 of:=o1 (oX .bD)
 ds:=fun x=>[dX .bD x]
 pre:=fun x=>[en x,x.State=3\/x.State=5]
 bT:=fun x=>⟨[],[],[dX .bD (kX x)]⟩
 law:=l1 (lX .bD)
def D0(x:ao):List ak×Int×T6×(List bH×Int×List av×(List ak×(Nat->Bool))×List aI×List bu×Int×Int×Unit)×Unit->Prop:=fun(l,i,f,(gi,gn,gf,(gt,dd),gm,gu,gs,gw,_),_)=>f=((dz x.aL).Kind,(dz x.aL).aj,())/\(gi,gn,gf,gt,gm,gu,gs,gw)=(x.S.ab,x.S.Next,x.aD,x.au,x.aC,x.aL,x.State,x.dw)/\¬x.aL=[]/\0<=i/\i<=x.au.length/\l=E2 (x.au.take i.toNat) (dz x.aL)/\∀k,i.toNat<=k->dd k=false
def wh(x:ao):List ak×Int×T6×(List bH×Int×List av×(List ak×(Nat->Bool))×List aI×List bu×Int×Int×Unit)×Unit->Nat:=fun(l,i,f,(gi,gn,gf,(gt,dd),gm,gu,gs,gw,_),_)=>x.au.length-i.toNat
def asI:ZY.α->Nat->Option (bY UU):=fun x=>aN [(7,bh [.slot 4 (4,1024) (.own .aA true),.slot 5 (5,1024) (.lit (.int .i64)),.box 2 (2,1024) [.lit .str,.own .aM true],.box 0 (2000000,0) [.own .aX true,.lit (.int .i64),.own .az true,.part .aA,.own .aH true,.own .aT true,.lit (.int .i64),.lit (.int .i64)]] (fun _=>D0 x) (wh x))]
def ao5:=us [aiM,WK,Vw,SR]
theorem aqr:Holds EE (85,ZY):=by
 refine holds_of ax func85 ZY (by kernel_rfl) ao5 (aE _) asI (fun(x:ao) hp hb=> ?_)
 have bi:=g_ (x:=x) (hb _ m0)
 have cw:=bi.1
 have dh:=bi.2.1
 have df:=bi.2.2.1
 have cI:=bi.2.2.2.1
 have de:=bi.2.2.2.2
 have bC:en x:=hp _ m0
 have fT:x.State=3\/x.State=5:=hp _ m1
 clear hp hb
 apply @ve _ (dt x.aL<=4294967296/\bif !decide ¬x.aL=[] then bif x.State==3 then bc x.au=true/\(0:Nat)=(0:Nat)/\ap []=ap []/\ap [DV.box (aO (Am x 4))]=ap [DV.box (aO (kX x))] else bc x.au=true/\(0:Nat)=(0:Nat)/\ap []=ap []/\ap [DV.box (aO (Am x 6))]=ap [DV.box (aO (kX x))] else D0 x ([],0,((dz x.aL).Kind,(dz x.aL).aj,()),(x.S.ab,x.S.Next,x.aD,(x.au,fun(x:Nat)=>false),x.aC,x.aL,x.State,x.dw,()),())/\∀(y:List ak×Int×WW×(List bH×Int×List av×(List ak×(Nat->Bool))×List aI×List bu×Int×Int×PUnit)×PUnit),let x0:aJ:={Kind:=y.2.2.1.1,aj:={τ:=Cd.aM,xs:=y.2.2.1.2.1:iX UU}.xs:aJ};let x3:Nat:=y.2.1.toNat;let x5:Nat:=y.2.2.2.1.2.2.2.1.1.length;let x6:Int:=IntKind.wrap IntKind.i64 (y.2.1+1);let x2:ak:=List.getD y.2.2.2.1.2.2.2.1.1 x3 aR;let x4:Int:=(↑x5:Int);let x1:List ak:=[x2];let q0:=(y.1,x6,(y.2.2.1.1,y.2.2.1.2.1,()),(y.2.2.2.1.1,y.2.2.2.1.2.1,y.2.2.2.1.2.2.1,(y.2.2.2.1.2.2.2.1.1,y.2.2.2.1.2.2.2.1.2),y.2.2.2.1.2.2.2.2.1,y.2.2.2.1.2.2.2.2.2.1,y.2.2.2.1.2.2.2.2.2.2.1,y.2.2.2.1.2.2.2.2.2.2.2.1,()),());D0 x y->bif decide (y.2.1<x4) then 0<=y.2.1/\x3<x5/\x3<x5/\y.2.2.2.1.2.2.2.1.2 x3=false/\y.2.2.2.1.2.2.2.1.2 x3=false/\x3<x5/\bif !decide (x2.F={Kind:=y.2.2.1.1,aj:=y.2.2.1.2.1:aJ}) then 0<=y.2.1/\x3<x5/\x3<x5/\y.2.2.2.1.2.2.2.1.2 x3=false/\y.1.length+x1.length<=4294967296/\D0 x (y.1++x1,x6,(y.2.2.1.1,y.2.2.1.2.1,()),(y.2.2.2.1.1,y.2.2.2.1.2.1,y.2.2.2.1.2.2.1,(y.2.2.2.1.2.2.2.1.1,fun(j:Nat)=>Nat.beq j x3||y.2.2.2.1.2.2.2.1.2 j),y.2.2.2.1.2.2.2.2.1,y.2.2.2.1.2.2.2.2.2.1,y.2.2.2.1.2.2.2.2.2.2.1,y.2.2.2.1.2.2.2.2.2.2.2.1,()),())/\wh x (y.1++x1,x6,(y.2.2.1.1,y.2.2.1.2.1,()),(y.2.2.2.1.1,y.2.2.2.1.2.1,y.2.2.2.1.2.2.1,(y.2.2.2.1.2.2.2.1.1,fun(j:Nat)=>Nat.beq j x3||y.2.2.2.1.2.2.2.1.2 j),y.2.2.2.1.2.2.2.2.1,y.2.2.2.1.2.2.2.2.2.1,y.2.2.2.1.2.2.2.2.2.2.1,y.2.2.2.1.2.2.2.2.2.2.2.1,()),())<wh x y else D0 x q0/\wh x q0<wh x y else bif decide ((y.1.length:Int)≥30) then y.2.2.1.2.1.length<=4294967296/\(0:Nat)=(0:Nat)/\ap []=ap []/\ap [DV.box [CL .aX y.2.2.2.1.1,CI y.2.2.2.1.2.1,CL .az y.2.2.2.1.2.2.1,CL .aA (fZ {τ:=Cd.aA,xs:=[]:iX UU}.xs x0 {data:= #[]:BA} y.2.2.2.1.2.2.2.2.2.2.2.1).1,CL .aH y.2.2.2.1.2.2.2.2.1,CL .aT y.2.2.2.1.2.2.2.2.2.1,CI y.2.2.2.1.2.2.2.2.2.2.1,CI y.2.2.2.1.2.2.2.2.2.2.2.1]]=ap [DV.box (aO (kX x))] else y.2.2.1.2.1.length<=4294967296/\(0:Nat)=(0:Nat)/\ap []=ap []/\ap [DV.box [CL .aX y.2.2.2.1.1,CI y.2.2.2.1.2.1,CL .az y.2.2.2.1.2.2.1,CL .aA (fZ {τ:=Cd.aA,xs:=y.1:iX UU}.xs x0 {data:= #[]:BA} y.2.2.2.1.2.2.2.2.2.2.2.1).1,CL .aH y.2.2.2.1.2.2.2.2.1,CL .aT y.2.2.2.1.2.2.2.2.2.1,CI y.2.2.2.1.2.2.2.2.2.2.1,CI y.2.2.2.1.2.2.2.2.2.2.2.1]]=ap [DV.box (aO (kX x))]) (by kernel_rfl)
 dsimp only
 have Wd:=bC
 obtain⟨q1,q2,q3,q4⟩:=bC
 have k3:=(Cc q2).2.2
 have k4:=(Ci q1).1
 refine⟨by omega,bO (fun h=> ?_) (fun h=> ?_)⟩
 ·have hu:x.aL=[]:=by simpa using h
  refine bo (fun g=>⟨q1,by trivial,by trivial,o8 ?_⟩) (fun g=>⟨q1,by trivial,by trivial,o8 ?_⟩)
  ·rw[kX,if_pos hu,if_neg (by omega)]
  ·rw[kX,if_pos hu,if_pos (by omega)]
 have hu:¬x.aL=[]:=by simpa using h
 have hf:=(qS (zB q2 hu)).1
 have eb:kX x=⟨x.S,x.aD,Cp x,x.aC,x.aL,x.State,x.dw⟩:=if_neg hu
 refine⟨⟨rfl,rfl,hu,by omega,by omega,rfl,fun _ _=>rfl⟩,?_⟩
 rintro⟨l,i,⟨f1,f2,⟨⟩⟩,⟨gi,gn,gf,⟨gt,dd⟩,gm,gu,gs,gw,⟨⟩⟩,⟨⟩⟩ ⟨hF,hG,-,h1,h2,hl,hd⟩
 cases hF
 cases hG
 subst hl
 simp only
 refine aU (fun hc=> ?_) (fun hc=> ?_)
 ·have hn:i.toNat<x.au.length:=by omega
  have ei:(i+1).toNat=i.toNat+1:=by omega
  have p9:=rW (fun t:ak=> !decide (t.F=dz x.aL)) aR hn
  have hlen:(E2 (x.au.take i.toNat) (dz x.aL)).length<=i.toNat:=wu (Kh _ _) (by simp;omega)
  rw[wrap_i64 (n:=i+1) (by omega) (by omega)]
  refine⟨h1,hn,hn,hd _ (s_ _),hd _ (s_ _),hn,bO (fun g=> ?_) (fun g=> ?_)⟩
  ·refine⟨h1,hn,hn,hd _ (s_ _),by simp only[gv,fO];omega,⟨rfl,rfl,hu,by omega,by omega,?_,fun k hk=> ?_⟩,by simp only[wh];omega⟩
   ·rw[ei];refine Eq.trans ?_ p9.symm
    rw[if_pos (by rw[show decide ((List.getD x.au i.toNat aR).F=dz x.aL)=false from g];rfl)];rfl
   ·show(Nat.beq k i.toNat||dd k)=false
    rw[hd k (by omega),W2,<-yi,Lx];omega
  ·refine⟨⟨rfl,rfl,hu,by omega,by omega,?_,fun k hk=>hd k (by omega)⟩,by simp only[wh];omega⟩
   rw[ei];refine Eq.trans ?_ p9.symm
   rw[if_neg (by rw[show decide ((List.getD x.au i.toNat aR).F=dz x.aL)=true from g];decide),ww];rfl
 ·rw[dB x.au (by omega)]
  refine aU (fun g=>⟨by omega,by trivial,by trivial,?_⟩) (fun g=>⟨by omega,by trivial,by trivial,?_⟩)
  ·refine o8 (a:=⟨x.S,x.aD,(fZ [] (dz x.aL) ai x.dw).1,x.aC,x.aL,x.State,x.dw⟩) ?_
   rw[eb,Cp,show Jn x.au (dz x.aL)=[] from if_pos (by omega)]
  ·refine o8 (a:=⟨x.S,x.aD,(fZ (E2 x.au (dz x.aL)) (dz x.aL) ai x.dw).1,x.aC,x.aL,x.State,x.dw⟩) ?_
   rw[eb,Cp,show Jn x.au (dz x.aL)=E2 x.au (dz x.aL) from if_neg (by omega)]
def ahM:HH:=⟨_,aqr⟩
def aaA:bp UU where
 α:=ao×Int
 md:=[.box true,.ro]
 of:=oC (oX .bD) (o1 oI)
 ds:=fun x=>[dX .bD x.1,dI x.2]
 pre:=fun(x,state)=>[en x,state=3\/state=5]
 bT:=fun(x,state)=>⟨[],[],[dX .bD (jk x state)]⟩
 law:=lC (lX .bD) (l1 lI)
def atl:aaA.α->Nat->Option (bY UU):=fun(x,state)=>aN []
def apI:=us [ahN,ahM]
theorem aq8:Holds EE (42,aaA):=by
 refine holds_of ax func42 aaA (by kernel_rfl) apI (aE _) atl (fun x hp hb=> ?_)
 obtain⟨x,state⟩:=x
 have bi:=g_ (x:=x) (hb _ m0)
 have cw:=bi.1
 have dh:=bi.2.1
 have df:=bi.2.2.1
 have cI:=bi.2.2.2.1
 have de:=bi.2.2.2.2
 have PT:=sL (n:=state) (hb _ m1)
 have bC:en x:=hp _ m0
 have fT:state=3\/state=5:=hp _ m1
 clear hp hb
 apply @ve _ (let x1:ao:={S:=x.S,aD:=x.aD,au:=giveUp x.au,aC:=[],aL:=x.aL,State:=state,dw:=x.dw:ao};let x0:ao:=kX x1;gW x.au<=4294967296/\en x1/\(state=3\/state=5)/\(0:Nat)=(0:Nat)/\ap []=ap []/\ap [DV.box (aO x0)]=ap [DV.box (aO (jk x state))]) (by kernel_rfl)
 dsimp only
 have:=(Ci bC.1).2
 exact⟨by omega,NL bC state,fT,rfl,rfl,rfl⟩
def SK:HH:=⟨_,aq8⟩
def rcs(l:List Value):List (AC UU):=l.map fun v=> .c (.lit v)
theorem akZ{a b:Int}(h:a=b):ap [DV.one (Cell.lit (Value.int .i64 a))]=ap [DV.one (Cell.lit (Value.int .i64 b))]:=by rw[h]
def fN(s:aG)(f:aJ):aG×Int:=if¬mn s.ab f=0 then(s,mn s.ab f) else if 40<=s.ab.length\/s.Next=1000000 then(s,0) else(⟨s.ab++[⟨s.Next,f⟩],s.Next+1⟩,s.Next)
theorem lR{s:aG}(h:bQ s=true):1<=s.Next/\s.Next<=1000000/\s.ab.length<=40/\(∀x∈s.ab,bI x.F=true/\1<=x.Id):=by
 simp only[bQ,cK,decide_eq_true_eq] at h
 refine⟨h.1.1.1,h.1.1.2,h.1.2,xK (z:=bg) h.2 fun i hi=> ?_⟩
 simp only[nZ,jD,cK,decide_eq_true_eq] at hi
 exact⟨hi.1.1.1.1,hi.1.1.1.2⟩
theorem UI{s:aG}(h:bQ s=true)(f:aJ):0<=mn s.ab f:=by
 unfold mn;split
 ·omega
 ·rename_i hn
  rcases jA s.ab.length (fun k=>decide ((List.getD s.ab k bg).F=f)) with⟨h1,_⟩|⟨i,h2,h1,_,_⟩
  ·exact absurd h1 hn
  ·have e:I5 s.ab f=(i:Int):=h1
   rw[e,zeu,eY,fo h2]
   have:=((lR h).2.2.2 _ (Ed h2)).2
   show 0<=(s.ab[i]).Id
   omega
theorem JS{s:aG}(h:bQ s=true){f:aJ}(h0:(fN s f).2=0):(fN s f).1=s:=by
 unfold fN at h0⊢
 split
 ·rfl
 ·rename_i h1
  rw[if_neg h1] at h0
  split
  ·rfl
  ·rename_i h2
   rw[if_neg h2] at h0
   have:=(lR h).1
   simp only at h0;omega
def vd(x:ao)(s:aG):ao:=⟨s,x.aD,x.au,x.aC,x.aL,x.State,x.dw⟩
def e7(x:ao)(f:aJ):ao:=if(fN x.S f).2=0 then jk x 3 else vd x (fN x.S f).1
def Lr:bp UU where
 α:=aG×aJ
 md:=[.box true,.ro]
 of:=oC (oX .bV) (o1 (oA .bP))
 ds:=fun x=>[dX .bV x.1,dA .bP x.2]
 pre:=fun(s,f)=>[bQ s=true,f.aj.length<=4294967296]
 bT:=fun(s,f)=>⟨[dI ((fN s f).2)],[],[dX .bV ((fN s f).1)]⟩
 Iq:=6
 law:=lC (lX .bV) (l1 (lA .bP))
def abb:Lr.α->Nat->Option (bY UU):=fun(s,f)=>aN []
def ZE:=us [Vx,sM]
theorem ZH:Holds EE (88,Lr):=by
 refine Fh ax func88 Lr (by kernel_rfl) rfl ZE (aE _) abb (fun x hp hb rest nH=> ?_)
 obtain⟨s,f⟩:=x
 have ga:=pz (x:=s) (hb _ m0)
 have fg:=fB (x:=f) (hb _ m1)
 have gb:=fg.1
 have eh:=fg.2
 have bC:bQ s=true:=hp _ m0
 have fT:f.aj.length<=4294967296:=hp _ m1
 clear hp hb
 have nH:rest.length=6:=nH
 match rest,nH with
 |[r0,r1,r2,r3,r4,r5],_=>
 apply @ve _ (let q0:=ap [DV.box [CL .aX s.ab,CI s.Next]]=ap [DV.box [CL .aX (fN s f).1.ab,CI ((fN s f).1.Next)]];let q1:=rcs [r0,r1,r2,r3,r4,r5];let q2:=fN s f;let q3:=ap [VI 0]=ap [VI (q2.2)]/\q0;bif decide (mn s.ab f>0) then List.length (α:=AC UU) q1=List.length [r0,r1,r2,r3,r4,r5]/\q1=List.map (fun(v:Value)=>(AC.c (Cell.lit v):AC UU)) [r0,r1,r2,r3,r4,r5]/\ap [VI (mn s.ab f)]=ap [VI (q2.2)]/\q0 else bif decide ((s.ab.length:Int)≥40) then List.length (α:=AC UU) q1=List.length [r0,r1,r2,r3,r4,r5]/\q1=List.map (fun(v:Value)=>(AC.c (Cell.lit v):AC UU)) [r0,r1,r2,r3,r4,r5]/\q3 else bif decide (s.Next≥1000000) then List.length (α:=AC UU) q1=List.length [r0,r1,r2,r3,r4,r5]/\q1=List.map (fun(v:Value)=>(AC.c (Cell.lit v):AC UU)) [r0,r1,r2,r3,r4,r5]/\q3 else f.aj.length<=4294967296/\s.ab.length+List.length [{Id:=s.Next,F:=f:bH}]<=4294967296/\List.length (α:=AC UU) q1=List.length [r0,r1,r2,r3,r4,r5]/\q1=List.map (fun(v:Value)=>(AC.c (Cell.lit v):AC UU)) [r0,r1,r2,r3,r4,r5]/\ap [VI (IntKind.wrap IntKind.i64 (IntKind.wrap IntKind.i64 (s.Next+1)-1))]=ap [VI (q2.2)]/\ap [DV.box [CL .aX (s.ab++[{Id:=s.Next,F:=f:bH}]),CI (IntKind.wrap IntKind.i64 (s.Next+1))]]=ap [DV.box [CL .aX q2.1.ab,CI (q2.1.Next)]]) (by kernel_rfl)
 dsimp only
 obtain⟨s1,s2,s3,s4⟩:=lR bC
 have h0:=UI bC f
 refine aU (fun h=>⟨rfl,rfl,?_⟩) (fun h=>aU (fun h2=>⟨rfl,rfl,?_⟩) (fun h2=>aU (fun h3=>⟨rfl,rfl,?_⟩) (fun h3=> ?_)))
 ·have e:fN s f=(s,mn s.ab f):=if_pos (by omega)
  rw[e];exact⟨rfl,rfl⟩
 ·have e:fN s f=(s,0):=(if_neg (by omega)).trans (if_pos (.inl (by omega)))
  rw[e];exact⟨rfl,rfl⟩
 ·have e:fN s f=(s,0):=(if_neg (by omega)).trans (if_pos (.inr (by omega)))
  rw[e];exact⟨rfl,rfl⟩
 ·have e:fN s f=(⟨s.ab++[⟨s.Next,f⟩],s.Next+1⟩,s.Next):=(if_neg (by omega)).trans (if_neg (by omega))
  rw[e,wrap_i64 (n:=s.Next+1) (by omega) (by omega),wrap_i64 (by omega) (by omega),show s.Next+1-1=s.Next by omega]
  exact⟨fT,by simp only[gv,fO];omega,rfl,rfl,rfl,rfl⟩
def aa6:HH:=⟨_,ZH⟩
def Z6:bp UU where
 α:=ao×aJ
 md:=[.box true,.ro]
 of:=oC (oX .bD) (o1 (oA .bP))
 ds:=fun x=>[dX .bD x.1,dA .bP x.2]
 pre:=fun(x,f)=>[en x,bQ x.S=true,f.aj.length<=4294967296]
 bT:=fun(x,f)=>⟨[],[],[dX .bD (e7 x f)]⟩
 law:=lC (lX .bD) (l1 (lA .bP))
def asQ:Z6.α->Nat->Option (bY UU):=fun(x,f)=>aN []
def apb:=us [aa6,SK]
theorem aqA:Holds EE (76,Z6):=by
 refine holds_of ax func76 Z6 (by kernel_rfl) apb (aE _) asQ (fun x hp hb=> ?_)
 obtain⟨x,f⟩:=x
 have bi:=g_ (x:=x) (hb _ m0)
 have cw:=bi.1
 have dh:=bi.2.1
 have df:=bi.2.2.1
 have cI:=bi.2.2.2.1
 have de:=bi.2.2.2.2
 have fg:=fB (x:=f) (hb _ m1)
 have gb:=fg.1
 have eh:=fg.2
 have bC:en x:=hp _ m0
 have fT:bQ x.S=true:=hp _ m1
 have Ka:f.aj.length<=4294967296:=hp _ m2
 clear hp hb
 apply @ve _ (let x1:ao:={S:=(fN {ab:={τ:=Cd.aX,xs:=x.S.ab:iX UU}.xs,Next:=x.S.Next:aG} {Kind:=f.Kind,aj:=f.aj:aJ}).1,aD:=x.aD,au:=x.au,aC:=x.aC,aL:=x.aL,State:=x.State,dw:=x.dw:ao};let x0:ao:=jk x1 3;let q0:=fN {ab:={τ:=Cd.aX,xs:=x.S.ab:iX UU}.xs,Next:=x.S.Next:aG} {Kind:=f.Kind,aj:=f.aj:aJ};bQ x.S=true/\f.aj.length<=4294967296/\bif q0.2==0 then en x1/\((3:Int)=(3:Int)\/(3:Int)=(5:Int))/\(0:Nat)=(0:Nat)/\ap []=ap []/\ap [DV.box (aO x0)]=ap [DV.box (aO (e7 x f))] else(0:Nat)=(0:Nat)/\ap []=ap []/\ap [DV.box [CL .aX q0.1.ab,CI (q0.1.Next),CL .az x.aD,CL .aA x.au,CL .aH x.aC,CL .aT x.aL,CI x.State,CI x.dw]]=ap [DV.box (aO (e7 x f))]) (by kernel_rfl)
 dsimp only
 have hS:(⟨x.S.ab,x.S.Next⟩:aG)=x.S:=rfl
 have hF:(⟨f.Kind,f.aj⟩:aJ)=f:=rfl
 simp only[hS,hF]
 refine⟨fT,Ka,bo (fun h=> ?_) (fun h=> ?_)⟩
 ·have hz:=JS fT h
  have e:e7 x f=jk x 3:=if_pos h
  rw[e,hz]
  exact⟨bC,.inl trivial,by trivial,by trivial,rfl⟩
 ·have e:e7 x f=vd x (fN x.S f).1:=if_neg h
  rw[e]
  exact⟨by trivial,by trivial,rfl⟩
def SI:HH:=⟨_,aqA⟩
def vp(n:Int):BA:=⟨(Go.Lib.itoa n).toArray⟩
def yI(l:List UInt8):BA:=⟨l.toArray⟩
theorem oG(a b:List UInt8):yI a++yI b=yI (a++b):=by
 apply ByteArray.ext
 simp[yI]
theorem Pq(s:BA):yI (bs s)=s:=by
 apply ByteArray.ext
 simp[yI,bs]
theorem ja(l:List UInt8):(yI l).size=l.length:=by simp[yI,ByteArray.size]
theorem Vn(s:BA)(l:List UInt8):s++yI l=yI (bs s++l):=by rw[<-oG,Pq]
def rj(v:aQ):List UInt8:=if v.K=1 then Go.Lib.itoa v.N else 39::(bs v.S++[39])
def zz(l:List aQ):List UInt8:=40::(Go.Lib.join (l.map rj) [44]++[41])
def bU(f:aJ):BA:=if bI f=true then yI (bs f.Kind++zz f.aj) else ai
theorem pb(n:Int):vp n=yI (Go.Lib.itoa n):=rfl
theorem Fa(l:List (List UInt8))(x sep:List UInt8):Go.Lib.join (l++[x]) sep=if l=[] then x else Go.Lib.join l sep++(sep++x):=by
 cases l with
 |nil=>simp[Go.Lib.join_one]
 |cons y r=>
  rw[zex,Go.Lib.join_cons,Go.Lib.join_cons,if_neg (by simp)]
  simp[Go.Lib.joinTail]
theorem zA{v:aQ}(h:bR v=true):(v.K=1/\-1000000000<=v.N/\v.N<=1000000000)\/(v.K=2/\v.S.size<=20):=by
 simp only[bR] at h
 by_cases h1:v.K=1
 ·simp[h1] at h;exact .inl ⟨h1,h.1.1,h.1.2⟩
 ·by_cases h2:v.K=2
  ·simp[h2] at h;exact .inr ⟨h2,h.1.2⟩
  ·simp[h1,h2] at h
theorem Ca{v:aQ}(h:bR v=true):(rj v).length<=22:=by
 rcases zA h with⟨h1,h2,h3⟩|⟨h1,h2⟩
 ·have:=Go.Lib.itoa_length_le v.N (by omega) (by omega)
  simp only[rj,if_pos h1];omega
 ·simp only[rj,if_neg (show¬v.K=1 by omega),gv,kg,sb,fO];omega
theorem C0:∀(l:List aQ),l.all bR=true->(Go.Lib.join (l.map rj) [44]).length<=23*l.length
 |[],_=>by simp[Go.Lib.join_nil]
 |x::r,h=>by
  rw[uY,Go.Lib.join_cons]
  simp only[Om,cK] at h
  have h1:=Ca h.1
  have h2:∀r:List aQ,r.all bR=true->(Go.Lib.joinTail [44] (r.map rj)).length<=23*r.length:=by
   intro r
   induction r with
   |nil=>intro _;simp[Go.Lib.joinTail]
   |cons y r ih=>
    intro h
    simp only[Om,cK] at h
    have h3:=Ca h.1
    have h4:=ih h.2
    simp only[Go.Lib.joinTail,uY,Kj,kg,gv,fO] at h4⊢
    omega
  have h3:=h2 r h.2
  simp only[kg,gv]
  omega
theorem jN{f:aJ}(h:bI f=true):f.aj.length<=5/\f.aj.all bR=true/\bm f.Kind=true/\f.Kind.size<=12:=by
 simp only[bI,cK,decide_eq_true_eq] at h
 have h2:=h.1.1
 simp only[bm,cK,decide_eq_true_eq] at h2
 exact⟨h.1.2,h.2,h.1.1,h2.1.1.2⟩
theorem QM{α:Type}{p:α->Bool}{l:List α}(h:l.all p=true)(z:α){i:Int}(h0:0<=i)(hi:i<l.length):p (List.getD l i.toNat z)=true:=
 rh.1 h _ (Di l z h0 hi)
theorem QL{α:Type}{p:α->Bool}{l:List α}(h:l.all p=true)(n:Nat):(l.take n).all p=true:=by
 rw[rh] at h⊢
 exact fun x hx=>h x (List.mem_of_mem_take hx)
theorem Qv{n:Int}(h:10<=n):Go.Lib.itoa n=Go.Lib.itoa (n/10)++[UInt8.ofNat (48+n.toNat%10)]:=by
 simp only[Go.Lib.itoa]
 rw[if_neg (by omega),if_neg (by omega)]
 have e:(n/10).toNat=n.toNat/10:=by omega
 rw[e,Go.Lib.decDigits,dif_neg (by omega)]
theorem Vb{n:Int}(h0:0<=n)(h:n<10):Go.Lib.itoa n=[UInt8.ofNat (48+n.toNat)]:=by
 simp only[Go.Lib.itoa]
 rw[if_neg (by omega),Go.Lib.decDigits_one (by omega)]
theorem Vc{n:Int}(h:n<0):Go.Lib.itoa n=45::Go.Lib.itoa (-n):=by
 simp only[Go.Lib.itoa]
 rw[if_pos h,if_neg (by omega)]
 have e:(-n).toNat=n.natAbs:=by omega
 rw[e]
theorem Qy{n:Int}(h0:0<=n)(h:n<=255):strOfNums (List.map (fun(x:Int)=>x) [n])=yI [UInt8.ofNat n.toNat]:=by
 simp[strOfNums,yI]
theorem wrap_u8'{n:Int}(h:0<=n)(h':n<=255):IntKind.wrap .u8 n=n:=by
 simp only[IntKind.wrap]
 simp[IntKind.bits,IntKind.signed]
 omega
def aZ(l:List ak)(key:BA):Int:=kT l.length fun k=>decide (bU (List.getD l k aR).F=key)
def J1:bp UU where
 α:=Int
 md:=[.ro]
 of:=o1 oI
 ds:=fun x=>[dI x]
 pre:=fun n=>[-1000000000<=n/\n<=1000000000]
 bT:=fun n=>⟨[dS (vp n)],[],[]⟩
 law:=l1 lI
def ajn:J1.α->Nat->Option (bY UU):=fun n=>aN []
def xN:Int->Nat:=fun n=>if n<0 then n.natAbs+1 else n.natAbs
def aej(rn:Nat):List (FuncId×bp UU):=[(202,J1.below xN rn)]
theorem af5:Holds EE (202,J1):=by
 refine Fg (k:=J1) func202 (by kernel_rfl) xN (fun rn ih=> ?_)
 refine holds_of ax func202 (J1.below xN (rn+1)) (by kernel_rfl) (aej rn) (all_cons ih all_nil) ajn (fun(n:Int) hp hb=> ?_)
 have PM:xN n<rn+1:=hp _ m0
 have Nt:=sL (n:=n) (hb _ m0)
 have bC: -1000000000<=n/\n<=1000000000:=hp _ m1
 clear hp hb
 apply @ve _ (let x0:Int:=IntKind.wrap IntKind.i64 (0-n);let x1:BA:=strOfNums (List.map (fun(x:Cd.T Cd.byte)=>x) [IntKind.wrap IntKind.u8 (IntKind.wrap IntKind.i64 (48+Int.tmod n 10))]);let x2:Int:=IntKind.wrap IntKind.i64 (Int.tdiv n 10);bif decide (n<0) then xN x0<rn/\((-1000000000)<=x0/\x0<=1000000000)/\ByteArray.size {data:= #[(45:UInt8)]:BA}+ByteArray.size (vp x0)<=4611686018427387904/\Lf [VS ({data:= #[(45:UInt8)]:BA}++vp x0)] [VS (vp n)] else bif decide (n<10) then Lf [VS (strOfNums (List.map (fun(x:Cd.T Cd.byte)=>x) [IntKind.wrap IntKind.u8 (IntKind.wrap IntKind.i64 (48+n))]))] [VS (vp n)] else(10:Int)≠(0:Int)/\xN x2<rn/\((-1000000000)<=x2/\x2<=1000000000)/\(10:Int)≠(0:Int)/\ByteArray.size (vp x2)+ByteArray.size x1<=4611686018427387904/\Lf [VS (vp x2++x1)] [VS (vp n)]) (by kernel_rfl)
 dsimp only
 simp only[xN] at PM
 refine af (fun h=> ?_) (fun h=>af (fun h'=>J5 ?_) (fun h'=> ?_))
 ·have h:=yT h
  rw[if_pos h] at PM
  rw[wrap_i64 (by omega) (by omega)]
  have e:(0:Int)-n= -n:=by omega
  rw[e]
  have hl:=Go.Lib.itoa_length_le (-n) (by omega) (by omega)
  refine⟨?_,⟨by omega,by omega⟩,?_,J5 ?_⟩
  ·simp only[xN];rw[if_neg (by omega)];omega
  ·rw[pb,ja];show 1+_<=_;omega
  ·rw[pb,pb,Vc h];exact oG [45] _
 ·have h:=yF h
  have h':=yT h'
  rw[wrap_i64 (by omega) (by omega),wrap_u8' (by omega) (by omega),pb,Vb (by omega) h']
  refine(Qy (n:=48+n) (by omega) (by omega)).trans ?_
  have e:(48+n).toNat=48+n.toNat:=by omega
  rw[e]
 ·have h:=yF h
  have h':=yF h'
  rw[if_neg h] at PM
  have t1:Int.tdiv n 10=n/10:=Int.tdiv_eq_ediv_of_nonneg (by omega)
  have t2:Int.tmod n 10=n%10:=zbp (by omega)
  rw[t1,t2,wrap_i64 (by omega) (by omega),wrap_i64 (by omega) (by omega),wrap_u8' (by omega) (by omega)]
  have hl:=Go.Lib.itoa_length_le (n/10) (by omega) (by omega)
  have hc:strOfNums (List.map (fun(x:Cd.T Cd.byte)=>x) [(48:Int)+n%10])=yI [UInt8.ofNat (48+n%10).toNat]:=Qy (n:=48+n%10) (by omega) (by omega)
  rw[hc]
  refine⟨by omega,?_,⟨by omega,by omega⟩,by omega,?_,J5 ?_⟩
  ·simp only[xN];rw[if_neg (by omega)];omega
  ·rw[pb,ja,ja];simp only[gv,fO];omega
  ·rw[pb,pb,Qv (n:=n) (by omega),oG]
   have e:(48+n%10).toNat=48+n.toNat%10:=by omega
   rw[e]
def ah3:HH:=⟨_,af5⟩
def Rc:bp UU where
 α:=aQ
 md:=[.ro]
 of:=o1 (oA .aM)
 ds:=fun x=>[dA .aM x]
 pre:=fun v=>[bR v=true]
 bT:=fun v=>⟨[dS (yI (rj v))],[],[]⟩
 law:=l1 (lA .aM)
def ajw:Rc.α->Nat->Option (bY UU):=fun v=>aN []
def aes:=us [ah3]
theorem agc:Holds EE (193,Rc):=by
 refine holds_of ax func193 Rc (by kernel_rfl) aes (aE _) ajw (fun(v:aQ) hp hb=> ?_)
 have vV:=iW (x:=v) (hb _ m0)
 have bC:bR v=true:=hp _ m0
 clear hp hb
 apply @ve _ (let x0:BA:={data:= #[(39:UInt8)]:BA};bif v.K==1 then((-1000000000)<=v.N/\v.N<=1000000000)/\Lf [VS (vp v.N)] [VS (yI (rj v))] else ByteArray.size x0+ByteArray.size v.S<=4611686018427387904/\ByteArray.size (x0++v.S)+ByteArray.size x0<=4611686018427387904/\Lf [VS (x0++v.S++x0)] [VS (yI (rj v))]) (by kernel_rfl)
 dsimp only
 rcases zA bC with⟨h1,h2,h3⟩|⟨h1,h2⟩
 ·refine af (fun h=>⟨⟨h2,h3⟩,J5 ?_⟩) (fun h=>absurd h (by simp[h1]))
  simp only[rj,if_pos h1];rfl
 ·refine af (fun h=>absurd h (by simp[h1])) (fun h=> ?_)
  have e:({data:= #[(39:UInt8)]:BA}++v.S)=yI (39::bs v.S):=by
   conv=>lhs;rw[<-Pq v.S]
   exact oG [39] _
  rw[e]
  refine⟨?_,?_,J5 ?_⟩
  ·show 1+_<=_;omega
  ·rw[ja];show _+1<=_;simp only[gv,sb];omega
  ·simp only[rj,if_neg (show¬v.K=1 by omega)];exact oG (39::bs v.S) [39]
def ah_:HH:=⟨_,agc⟩
def Rr:bp UU where
 α:=(List aQ)
 md:=[.ro]
 of:=o1 (oL .aM)
 ds:=fun x=>[dL .aM x]
 pre:=fun l=>[l.length<=5,l.all bR=true]
 bT:=fun l=>⟨[dS (yI (zz l))],[],[]⟩
 law:=l1 (lL .aM)
def xV(l:(List aQ)):BA×Int×Unit->Prop:=fun(s,i,_)=>0<=i/\i<=l.length/\s=yI (40::Go.Lib.join ((l.take i.toNat).map rj) [44])
def sg(l:(List aQ)):BA×Int×Unit->Nat:=fun(s,i,_)=>l.length-i.toNat
def ajL:Rr.α->Nat->Option (bY UU):=fun l=>aN [(3,bh [.slot 3 (3,1024) (.lit .str),.slot 4 (4,1024) (.lit (.int .i64))] (fun _=>xV l) (sg l))]
def aeH:=us [ah_]
theorem ags:Holds EE (178,Rr):=by
 refine holds_of ax func178 Rr (by kernel_rfl) aeH (aE _) ajL (fun(l:(List aQ)) hp hb=> ?_)
 have gP:l.length<=9223372036854775807:=jO (hb _ m0)
 have bC:l.length<=5:=hp _ m0
 have fT:l.all bR=true:=hp _ m1
 clear hp hb
 apply @ve _ (xV l ({data:= #[(40:UInt8)]:BA},0,())/\∀(y:BA×Int×PUnit),let x2:Nat:=y.2.1.toNat;let x3:BA:=y.1++{data:= #[(44:UInt8)]:BA};let x1:aQ:=List.getD l x2 dx;let x0:BA:=yI (rj x1);let q0:=(y.1++x0,IntKind.wrap IntKind.i64 (y.2.1+1),());let q1:=(x3++x0,IntKind.wrap IntKind.i64 (y.2.1+1),());xV l y->bif decide (y.2.1<(l.length:Int)) then bif decide (y.2.1>0) then ByteArray.size y.1+ByteArray.size {data:= #[(44:UInt8)]:BA}<=4611686018427387904/\0<=y.2.1/\x2<l.length/\bR x1=true/\ByteArray.size x3+ByteArray.size x0<=4611686018427387904/\xV l q1/\sg l q1<sg l y else 0<=y.2.1/\x2<l.length/\bR x1=true/\ByteArray.size y.1+ByteArray.size x0<=4611686018427387904/\xV l q0/\sg l q0<sg l y else ByteArray.size y.1+ByteArray.size {data:= #[(41:UInt8)]:BA}<=4611686018427387904/\Lf [VS (y.1++{data:= #[(41:UInt8)]:BA})] [VS (yI (zz l))]) (by kernel_rfl)
 dsimp only
 refine⟨⟨by omega,by omega,rfl⟩,?_⟩
 rintro⟨s,i,⟨⟩⟩ ⟨h1,h2,rfl⟩
 simp only
 have hj:=C0 (l.take i.toNat) (QL fT _)
 rw[oH] at hj
 refine af (fun hc=> ?_) (fun hc=> ?_)
 ·have hc:i<l.length:=yT hc
  have hv:=QM fT dx h1 hc
  have Ex:=Ca hv
  rw[wrap_i64 (by omega) (by omega)]
  have ht:(l.take (i+1).toNat).map rj=(l.take i.toNat).map rj++[rj (List.getD l i.toNat dx)]:=by rw[<-fD l dx h1 hc,Kg];rfl
  refine af (fun h=> ?_) (fun h=> ?_)
  ·have h:=yT h
   have e:(yI (40::Go.Lib.join ((l.take i.toNat).map rj) [44])++{data:= #[(44:UInt8)]:BA})=yI (40::(Go.Lib.join ((l.take i.toNat).map rj) [44]++[44])):=oG _ [44]
   rw[e,oG]
   have hn:¬(l.take i.toNat).map rj=[]:=by
    intro h0
    have:=congrArg List.length h0
    rw[wv,oH,fO] at this
    omega
   refine⟨?_,h1,by omega,hv,?_,⟨by omega,by omega,?_⟩,by simp only[sg];omega⟩
   ·rw[ja];show _+1<=_;simp only[gv];omega
   ·rw[ja,ja];simp only[gv,kg,fO];omega
   ·rw[ht,Fa,if_neg hn];simp
  ·have h:=yF h
   have h0:i=0:=by omega
   subst h0
   rw[oG]
   refine⟨by omega,by omega,hv,?_,⟨by omega,by omega,?_⟩,by simp only[sg];omega⟩
   ·rw[ja,ja];simp only[gv];omega
   ·rw[ht,Fa];simp[Go.Lib.join_nil]
 ·have hc:¬i<l.length:=yF hc
  rw[dB l (by omega)]
  refine⟨?_,J5 ?_⟩
  ·rw[ja];show _+1<=_;simp only[gv];rw[dB l (by omega)] at hj;omega
  ·exact oG _ [41]
def aim:HH:=⟨_,ags⟩
def R':bp UU where
 α:=aJ
 md:=[.ro]
 of:=o1 (oA .bP)
 ds:=fun x=>[dA .bP x]
 pre:=fun _=>[]
 bT:=fun f=>⟨[dS (bU f)],[],[]⟩
 law:=l1 (lA .bP)
def ako:R'.α->Nat->Option (bY UU):=fun f=>aN []
def afk:=us [Lu,aim]
theorem ag9:Holds EE (135,R'):=by
 refine holds_of ax func135 R' (by kernel_rfl) afk (aE _) ako (fun(f:aJ) hp hb=> ?_)
 have bi:=fB (x:=f) (hb _ m0)
 have gb:=bi.1
 have eh:=bi.2
 clear hp hb
 apply @ve _ (bif !bI f then Lf [VS ({data:= #[]:BA})] [VS (bU f)] else f.aj.length<=5/\List.all f.aj bR=true/\ByteArray.size f.Kind+ByteArray.size (yI (zz f.aj))<=4611686018427387904/\Lf [VS (f.Kind++yI (zz f.aj))] [VS (bU f)]) (by kernel_rfl)
 refine af (fun h=>J5 ?_) (fun h=> ?_)
 ·have h:bI f=false:=by simpa using h
  simp only[bU,h];rfl
 ·have h:bI f=true:=by simpa using h
  obtain⟨h1,h2,h3,h4⟩:=jN h
  have hj:=C0 f.aj h2
  refine⟨h1,h2,?_,J5 ?_⟩
  ·rw[ja];simp only[zz,gv,kg,fO];omega
  ·simp only[bU,h,if_true];exact Vn _ _
def aiO:HH:=⟨_,ag9⟩
def Z1:bp UU where
 α:=aJ
 md:=[.ro]
 of:=o1 (oA .bP)
 ds:=fun x=>[dA .bP x]
 pre:=fun _=>[]
 bT:=fun f=>⟨[dS (bU f)],[],[]⟩
 law:=l1 (lA .bP)
def asL:Z1.α->Nat->Option (bY UU):=fun f=>aN []
def ao8:=us [aiO]
theorem aqu:Holds EE (82,Z1):=by
 refine holds_of ax func82 Z1 (by kernel_rfl) ao8 (aE _) asL (fun(f:aJ) hp hb=> ?_)
 have bi:=fB (x:=f) (hb _ m0)
 have gb:=bi.1
 have eh:=bi.2
 clear hp hb
 apply @ve _ (Lf [VS (bU f)] [VS (bU f)]) (by kernel_rfl)
 exact bN _
def SG:HH:=⟨_,aqu⟩
def Sc:bp UU where
 α:=(List ak)×BA
 md:=[.ro,.ro]
 of:=oC (oL .aA) (o1 oS)
 ds:=fun x=>[dL .aA x.1,dS x.2]
 pre:=fun _=>[]
 bT:=fun(l,key)=>⟨[dI (aZ l key)],[],[]⟩
 law:=lC (lL .aA) (l1 lS)
def BU(l:(List ak))(key:BA):Int×Unit->Prop:=fun(i,_)=>0<=i/\i<=l.length/\∀j:Nat,(j:Int)<i->decide (bU (List.getD l j aR).F=key)=false
def Bf(l:(List ak))(key:BA):Int×Unit->Nat:=fun(i,_)=>l.length-i.toNat
def aks:Sc.α->Nat->Option (bY UU):=fun(l,key)=>aN [(2,bh [.slot 5 (5,1024) (.lit (.int .i64))] (fun _=>BU l key) (Bf l key))]
def afo:=us [SG]
theorem ahb:Holds EE (131,Sc):=by
 refine holds_of ax func131 Sc (by kernel_rfl) afo (aE _) aks (fun x hp hb=> ?_)
 obtain⟨l,key⟩:=x
 have gP:l.length<=9223372036854775807:=jO (hb _ m0)
 have K4:=Ao (s:=key) (hb _ m1)
 clear hp hb
 apply @ve _ (BU l key (0,())/\∀(y:Int×PUnit),let q0:=(IntKind.wrap IntKind.i64 (y.1+1),());BU l key y->bif decide (y.1<(l.length:Int)) then 0<=y.1/\y.1.toNat<l.length/\bif ByteArray.toList (bU (List.getD l y.1.toNat aR).F)==ByteArray.toList key then Li y.1 (aZ l key) else BU l key q0/\Bf l key q0<Bf l key y else Li (-1) (aZ l key)) (by kernel_rfl)
 dsimp only
 refine⟨⟨by omega,by omega,by intro j hj;omega⟩,?_⟩
 rintro⟨i,⟨⟩⟩ ⟨h1,h2,hR⟩
 simp only
 refine af (fun hc=> ?_) (fun hc=> ?_)
 ·have hc:i<l.length:=yT hc
  simp(disch:=omega) only[wrap_i64,bx]
  refine⟨by omega,by omega,af (fun h=>oe ?_) (fun h=>⟨⟨by omega,by omega,ju (p:=fun j=>decide (bU (List.getD l j aR).F=key)) h1 hR h⟩,by simp only[Bf];omega⟩)⟩
  rw[aZ,gH (i:=i.toNat) (by omega) h (fun j hj=>hR j (by omega))]
  omega
 ·have hc:¬i<l.length:=yF hc
  exact oe (jM (fun j hj=>hR j (by omega))).symm
def SS:HH:=⟨_,ahb⟩
def pA(aF:Int):Nat->Int->Int
 |0,n=>n
 |k+1,n=>if n<aF then pA aF k (2*n) else n
def mC(base k aF:Int):Int:=if 1<=base/\base<=100000/\1<=aF/\aF<=100000/\0<=k then(if pA aF k.toNat base<aF then pA aF k.toNat base else aF) else 0
theorem QH{aF n:Int}(h:¬n<aF):∀k:Nat,pA aF k n=n
 |0=>rfl
 |k+1=>by rw[pA,if_neg h]
theorem Lm{aF n k i:Int}(h0:0<=i)(h:i<k)(hn:n<aF):pA aF (k-i).toNat n=pA aF (k-(i+1)).toNat (2*n):=by
 obtain⟨m,hm⟩:∃m:Nat,(k-i).toNat=m+1:=⟨(k-i).toNat-1,by omega⟩
 have h2:(k-(i+1)).toNat=m:=by omega
 rw[hm,h2,pA,if_pos hn]
theorem N1{aF n k i:Int}(h:¬(i<k/\n<aF)):pA aF (k-i).toNat n=n:=by
 by_cases hk:i<k
 ·exact QH (fun hn=>h ⟨hk,hn⟩) _
 ·rw[show(k-i).toNat=0 by omega];rfl
def Ru:bp UU where
 α:=Int×Int×Int
 md:=[.ro,.ro,.ro]
 of:=oC oI (oC oI (o1 oI))
 ds:=fun x=>[dI x.1,dI x.2.1,dI x.2.2]
 pre:=fun _=>[]
 bT:=fun(base,k,aF)=>⟨[dI (mC base k aF)],[],[]⟩
 law:=lC lI (lC lI (l1 lI))
def BE(base:Int)(k:Int)(aF:Int):Int×Int×Unit->Prop:=fun(n,i,_)=>0<=i/\i<=k/\1<=n/\n<=200000/\pA aF (k-i).toNat n=pA aF k.toNat base
def A2(base:Int)(k:Int)(aF:Int):Int×Int×Unit->Nat:=fun(n,i,_)=>(k-i).toNat
def ajO:Ru.α->Nat->Option (bY UU):=fun(base,k,aF)=>aN [(5,bh [.slot 7 (7,1024) (.lit (.int .i64)),.slot 8 (8,1024) (.lit (.int .i64))] (fun _=>BE base k aF) (A2 base k aF))]
def aeK:=us [sC]
theorem agv:Holds EE (175,Ru):=by
 refine holds_of ax func175 Ru (by kernel_rfl) aeK (aE _) ajO (fun x hp hb=> ?_)
 obtain⟨base,k,aF⟩:=x
 have ak8:=sL (n:=base) (hb _ m0)
 have aof:=sL (n:=k) (hb _ m1)
 have uo:=sL (n:=aF) (hb _ m2)
 clear hp hb
 apply @ve _ (let q0:=mC base k aF;bif !decide (1<=base/\base<=100000) then Li 0 q0 else bif !decide (1<=aF/\aF<=100000) then Li 0 q0 else bif decide (k<0) then Li 0 q0 else BE base k aF (base,0,())/\∀(y:Int×Int×PUnit),let q1:=(IntKind.wrap IntKind.i64 (2*y.1),IntKind.wrap IntKind.i64 (y.2.1+1),());let q2:=bif decide (y.1>aF) then Li aF q0 else Li y.1 q0;BE base k aF y->bif decide (y.2.1<k) then bif decide (y.1<aF) then BE base k aF q1/\A2 base k aF q1<A2 base k aF y else q2 else q2) (by kernel_rfl)
 dsimp only
 have hN:¬(1<=base/\base<=100000/\1<=aF/\aF<=100000/\0<=k)->Lf [.one (.lit (.int .i64 0))] [.one (.lit (.int .i64 (mC base k aF)))]:=fun h=>oe (by rw[mC,if_neg h])
 refine af (fun h=>hN ?_) (fun h=>af (fun h2=>hN ?_) (fun h2=>af (fun h3=>hN ?_) (fun h3=> ?_)))
 ·simp at h;omega
 ·simp at h2;omega
 ·simp at h3;omega
 have hg:1<=base/\base<=100000/\1<=aF/\aF<=100000/\0<=k:=by simp at h h2 h3;omega
 have hE:∀{n i:Int},pA aF (k-i).toNat n=pA aF k.toNat base->¬(i<k/\n<aF)->(if n<aF then n else aF)=mC base k aF:=fun hR hn=>by rw[mC,if_pos hg,<-hR,N1 hn]
 refine⟨⟨by omega,by omega,by omega,by omega,by rw[Int.sub_zero]⟩,?_⟩
 rintro⟨n,i,⟨⟩⟩ ⟨h4,h5,h6,h7,hR⟩
 simp only
 refine af (fun hc=>af (fun hd=> ?_) (fun hd=> ?_)) (fun hc=> ?_)
 ·have hc:=yT hc;have hd:=yT hd
  rw[wrap_i64 (by omega) (by omega),wrap_i64 (by omega) (by omega)]
  refine⟨⟨by omega,by omega,by omega,by omega,?_⟩,by simp only[A2];omega⟩
  rw[<-Lm h4 hc hd];exact hR
 ·have hd:=yF hd
  have e:=hE hR (fun hh=>hd hh.2)
  refine af (fun hm=>oe ?_) (fun hm=>oe ?_)
  ·have hm:=yT hm;rw[<-e];split<;>omega
  ·have hm:=yF hm;rw[<-e];split<;>omega
 ·have hc:=yF hc
  have e:=hE hR (fun hh=>hc hh.1)
  refine af (fun hm=>oe ?_) (fun hm=>oe ?_)
  ·have hm:=yT hm;rw[<-e];split<;>omega
  ·have hm:=yF hm;rw[<-e];split<;>omega
def ain:HH:=⟨_,agv⟩
def kw(l:List bu)(t:ak):Bool:=db l&&bI t.F&&bm t.aW&& !tG l (bU t.F)&& !decide (30<=l.length)
def cz(l:List bu)(t:ak):List bu×Bool:=if kw l t=true then(l++[⟨bU t.F,⟨t.aW,t.F.aj⟩⟩],true) else(l,false)
def rC(ok:Bool)(v:aQ)(t:ak):ak:=⟨t.F,t.aW,if ok=true then 3 else 4,t.bE,t.kf,v⟩
def bt(l:List ak)(key:BA)(ok:Bool)(v:aQ):List ak×Int:=
 if bc l=true/\bR v=true/\0<=aZ l key/\(List.getD l (aZ l key).toNat aR).State≠1 then
  (if(List.getD l (aZ l key).toNat aR).State=2 then(l.modify (aZ l key).toNat (rC ok v),1) else(l,2)) else(l,3)
def due(now:Int)(t:ak):Bool:=j8 t&&decide (t.kf<=now)
def fR(now:Int)(t:ak):ak:=if due now t=true then(if t.bE=4 then⟨t.F,t.aW,4,t.bE,t.kf,t.V⟩ else⟨t.F,t.aW,2,t.bE+1,now+mC 2 (t.bE+1) 60,t.V⟩) else t
def oq(now:Int)(t:ak):List ow:=if due now t=true/\t.bE≠4 then[⟨bU t.F,t.F,t.bE+1⟩] else[]
def lf(now:Int)(t:ak):List BA:=if due now t=true/\t.bE=4 then[bU t.F] else[]
theorem H_{l:List bu}(h:db l=true):l.length<=30:=by
 simp only[db,cK,decide_eq_true_eq] at h;exact h.1
theorem F4{l:List ak}(h:bc l=true):l.length<=30:=by
 simp only[bc,cK,decide_eq_true_eq] at h;exact h.1
theorem mX{l:List ak}(h:bc l=true){k:Nat}(hk:k<l.length):fY (List.getD l k aR)=true:=by
 simp only[bc,cK] at h
 have:=xL.1 h.2 k hk
 simp only[jx,cK] at this
 exact this.1
theorem ES{t:ak}(h:fY t=true):(1<=t.State/\t.State<=4)/\(0<=t.bE/\t.bE<=4)/\(0<=t.kf/\t.kf<=1000001000)/\((t.State=1->t.bE=0)/\(t.State=2->t.bE≠0))/\t.F.aj.length<=5:=by
 simp only[fY,cK,decide_eq_true_eq] at h
 obtain⟨⟨⟨⟨⟨⟨h1,h2⟩,h3⟩,h4⟩,h5⟩,h6⟩,h7⟩:=h
 refine⟨h3,h4,h5,h7,?_⟩
 simp only[bI,cK,decide_eq_true_eq] at h1
 first|exact h1.1.2|exact h1.2.1|omega
theorem oz{l:List ak}{key:BA}(h:0<=aZ l key):(aZ l key).toNat<l.length:=by
 unfold aZ at*
 rcases jA l.length (fun k=>decide (bU (List.getD l k aR).F=key)) with⟨h1,h2⟩|⟨i,h1,h2,h3,h4⟩
 ·rw[h1] at h;omega
 ·rw[h2];omega
theorem rB{l:List ak}{key:BA}{ok:Bool}{v:aQ}(h:¬(bc l=true/\bR v=true/\0<=aZ l key/\(List.getD l (aZ l key).toNat aR).State≠1)):bt l key ok v=(l,3):=if_neg h
theorem uf{l:List ak}{key:BA}{ok:Bool}{v:aQ}(h:bc l=true/\bR v=true/\0<=aZ l key/\(List.getD l (aZ l key).toNat aR).State≠1)(h2:(List.getD l (aZ l key).toNat aR).State≠2):bt l key ok v=(l,2):=by rw[bt,if_pos h,if_neg h2]
theorem yA{l:List ak}{key:BA}{ok:Bool}{v:aQ}(h:bc l=true/\bR v=true/\0<=aZ l key/\(List.getD l (aZ l key).toNat aR).State≠1)(h2:(List.getD l (aZ l key).toNat aR).State=2):bt l key ok v=(l.modify (aZ l key).toNat (rC ok v),1):=by rw[bt,if_pos h,if_pos h2]
theorem TF(l:List ak)(k:Nat)(v:aQ):(((l.modify k fun x=>⟨x.F,x.aW,4,x.bE,x.kf,x.V⟩).modify k fun x=>⟨x.F,x.aW,3,x.bE,x.kf,x.V⟩).modify k fun x=>⟨x.F,x.aW,x.State,x.bE,x.kf,v⟩)=l.modify k (rC true v):=by
 rw[nt,nt];rfl
theorem TG(l:List ak)(k:Nat)(v:aQ):((l.modify k fun x=>⟨x.F,x.aW,4,x.bE,x.kf,x.V⟩).modify k fun x=>⟨x.F,x.aW,x.State,x.bE,x.kf,v⟩)=l.modify k (rC false v):=by
 rw[nt];rfl
theorem uM{a a':List ak}(h:a=a'):ap ([DV.one (Cell.sl Cd.aA a)]:List (DV UU))=ap ([DV.one (Cell.sl Cd.aA a')]:List (DV UU)):=by rw[h]
theorem Fk{α β:Type}(f:α->List β)(l:List α)(z:α){i:Int}(h0:0<=i)(h:i<l.length):(l.take i.toNat).flatMap f++f (List.getD l i.toNat z)=(l.take (i+1).toNat).flatMap f:=by
 rw[<-fD l z h0 h,S8];simp
theorem xh{α β:Type}(f:α->List β)(hf:∀x,(f x).length<=1):∀l:List α,(l.flatMap f).length<=l.length
 |[]=>by simp
 |x::l=>by
  rw[yh,kg]
  have h1:=xh f hf l
  have h2:=hf x
  simp only[gv];omega
theorem NZ(now:Int)(t:ak):(oq now t).length<=1:=by unfold oq;split<;>simp
theorem Fq(now:Int)(t:ak):(lf now t).length<=1:=by unfold lf;split<;>simp
theorem FM(aF:Int):∀(k:Nat)(n:Int),0<=n->0<=pA aF k n
 |0,n,h=>h
 |k+1,n,h=>by rw[pA];split;exact FM aF k (2*n) (by omega);exact h
theorem DJ(k:Int):0<=mC 2 k 60/\mC 2 k 60<=60:=by
 have:=FM 60 k.toNat 2 (by omega)
 unfold mC
 split
 ·split<;>omega
 ·omega
def R3:bp UU where
 α:=(List bu)×ak
 md:=[.ro,.ro]
 of:=oC (oL .aT) (o1 (oA .aA))
 ds:=fun x=>[dL .aT x.1,dA .aA x.2]
 pre:=fun(l,t)=>[dt l<=4294967296,t.F.aj.length<=4294967296]
 bT:=fun(l,t)=>⟨[dL .aT ((cz l t).1),dO ((cz l t).2)],[],[]⟩
 law:=lC (lL .aT) (l1 (lA .aA))
def BR(l:(List bu))(t:ak):List bu×Int×T19×Unit->Prop:=fun(row,i,fb,_)=>row=l/\fb=(t.F.Kind,t.F.aj,t.aW,t.State,t.bE,t.kf,t.V.K,t.V.N,t.V.S,())/\0<=i/\i<=l.length/\∀j:Nat,(j:Int)<i->decide ((List.getD l j ck).Key=bU t.F)=false
def Bb(l:(List bu))(t:ak):List bu×Int×T19×Unit->Nat:=fun(row,i,fb,_)=>l.length-i.toNat
def akh:R3.α->Nat->Option (bY UU):=fun(l,t)=>aN [(6,bh [.slot 6 (6,1024) (.own .aT true),.slot 8 (8,1024) (.lit (.int .i64)),.box 3 (3,1024) [.lit .str,.shr .aM,.lit .str,.lit (.int .i64),.lit (.int .i64),.lit (.int .i64),.lit (.int .i64),.lit (.int .i64),.lit .str]] (fun _=>BR l t) (Bb l t))]
def afd:=us [Wz,ahT,Lu,J4,SG]
theorem ag2:Holds EE (142,R3):=by
 refine holds_of ax func142 R3 (by kernel_rfl) afd (aE _) akh (fun x hp hb=> ?_)
 obtain⟨l,t⟩:=x
 have gP:l.length<=9223372036854775807:=jO (hb _ m0)
 have fg:=qX (x:=t) (hb _ m1)
 have nL:=fg.1
 have lc:=fg.2.1
 have qM:=fg.2.2.1
 have tE:=fg.2.2.2
 have bC:dt l<=4294967296:=hp _ m0
 have fT:t.F.aj.length<=4294967296:=hp _ m1
 clear hp hb
 apply @ve _ (let x0:Int:=(l.length:Int);let q0:=Lf [VL .aT l,VB false] [VL .aT ((cz l t).1),VB ((cz l t).2)];dt l<=4294967296/\bif !db l then q0 else bif !bI t.F then q0 else bif !bm t.aW then q0 else bif decide (x0≥30) then q0 else BR l t (l,0,(t.F.Kind,t.F.aj,t.aW,t.State,t.bE,t.kf,t.V.K,t.V.N,t.V.S,()),())/\∀(y:List bu×Int×(BA×List aQ×BA×Int×Int×Int×Int×Int×BA×PUnit)×PUnit),let x1:List bu:=[{Key:=bU t.F,F:={Kind:=y.2.2.1.2.2.1,aj:=[]++y.2.2.1.2.1:aJ}:bu}];let x2:Nat:=y.2.1.toNat;let q1:=(y.1,IntKind.wrap IntKind.i64 (y.2.1+1),(y.2.2.1.1,y.2.2.1.2.1,y.2.2.1.2.2.1,y.2.2.1.2.2.2.1,y.2.2.1.2.2.2.2.1,y.2.2.1.2.2.2.2.2.1,y.2.2.1.2.2.2.2.2.2.1,y.2.2.1.2.2.2.2.2.2.2.1,y.2.2.1.2.2.2.2.2.2.2.2.1,()),());BR l t y->bif decide (y.2.1<x0) then 0<=y.2.1/\x2<l.length/\bif ByteArray.toList (List.getD l x2 ck).Key==ByteArray.toList (bU t.F) then Lf [VL .aT y.1,VB false] [VL .aT ((cz l t).1),VB ((cz l t).2)] else BR l t q1/\Bb l t q1<Bb l t y else 0+y.2.2.1.2.1.length<=4294967296/\y.1.length+x1.length<=4294967296/\Lf [VL .aT (y.1++x1),VB true] [VL .aT ((cz l t).1),VB ((cz l t).2)]) (by kernel_rfl)
 dsimp only
 have hN:kw l t=false->Lf [.one (.sl .aT l),.one (.lit (.bool false))] [.one (.sl .aT (cz l t).1),.one (.lit (.bool (cz l t).2))]:=fun h=>by
  simp only[cz,h];exact bN _
 have hlen:db l=true->l.length<=30:=H_
 refine⟨bC,af (fun h1=>hN ?_) (fun h1=>af (fun h2=>hN ?_) (fun h2=>af (fun h3=>hN ?_) (fun h3=>af (fun h4=>hN ?_) (fun h4=>⟨⟨rfl,rfl,by omega,by omega,by intro j hj;omega⟩,?_⟩))))⟩
 ·simp only[kw];grind
 ·simp only[kw];grind
 ·simp only[kw];grind
 ·simp only[kw];grind
 rintro⟨row,i,fb,⟨⟩⟩ ⟨rfl,rfl,h5,h6,hR⟩
 have h4:=yF h4
 simp only
 refine af (fun hc=> ?_) (fun hc=> ?_)
 ·have hc:i<row.length:=yT hc
  simp(disch:=omega) only[wrap_i64,bx]
  refine⟨by omega,by omega,af (fun h=> ?_) (fun h=>⟨⟨rfl,rfl,by omega,by omega,ju (p:=fun j=>decide ((List.getD row j ck).Key=bU t.F)) h5 hR h⟩,by simp only[Bb];omega⟩)⟩
  have ha:tG row (bU t.F)=true:=ir (j:=i.toNat) (by omega) h
  exact hN (by simp only[kw,ha];simp)
 ·have hc:¬i<row.length:=yF hc
  have ha:tG row (bU t.F)=false:=gg fun j hj=>hR j (by omega)
  have hy:kw row t=true:=by simp only[kw,ha];grind
  refine⟨by simpa using fT,by simp;omega,?_⟩
  simp only[cz,hy,if_true,List.nil_append];exact bN _
def WI:HH:=⟨_,ag2⟩
def Sa:bp UU where
 α:=(List ak)×BA×Bool×aQ
 md:=[.wr,.ro,.ro,.ro]
 of:=oC (oL .aA) (oC oS (oC oO (o1 (oA .aM))))
 ds:=fun x=>[dL .aA x.1,dS x.2.1,dO x.2.2.1,dA .aM x.2.2.2]
 pre:=fun(l,key,ok,v)=>[bc l=true,bR v=true]
 bT:=fun(l,key,ok,v)=>⟨[dI ((bt l key ok v).2)],[],[dL .aA ((bt l key ok v).1)]⟩
 law:=lC (lL .aA) (lC lS (lC lO (l1 (lA .aM))))
def akq:Sa.α->Nat->Option (bY UU):=fun(l,key,ok,v)=>aN []
def afm:=us [SS]
theorem ag_:Holds EE (133,Sa):=by
 refine holds_of ax func133 Sa (by kernel_rfl) afm (aE _) akq (fun x hp hb=> ?_)
 obtain⟨l,key,ok,v⟩:=x
 have gP:l.length<=9223372036854775807:=jO (hb _ m0)
 have K4:=Ao (s:=key) (hb _ m1)
 have vV:=iW (x:=v) (hb _ m3)
 have bC:bc l=true:=hp _ m0
 have fT:bR v=true:=hp _ m1
 clear hp hb
 apply @ve _ (let x0:List ak:=List.modify l (Int.toNat (aZ l key)) fun(x:ak)=>{F:=x.F,aW:=x.aW,State:=(4:Int),bE:=x.bE,kf:=x.kf,V:=x.V:ak};let x1:List ak:=List.modify x0 (Int.toNat (aZ l key)) fun(x:ak)=>{F:=x.F,aW:=x.aW,State:=(3:Int),bE:=x.bE,kf:=x.kf,V:=x.V:ak};let q0:=bt l key ok v;let q1:=aZ l key;let q2:=ap [VL .aA l]=ap [VL .aA (q0.1)];let q3:=List.getD l (Int.toNat q1) aR;let q4:=ap [VI 3]=ap [VI (q0.2)]/\q2;let q5:=ap [VI 2]=ap [VI (q0.2)]/\q2;bif decide (aZ l key<0) then q4 else 0<=aZ l key/\Int.toNat q1<l.length/\Int.toNat q1<l.length/\bif q3.State==3 then q5 else Int.toNat q1<l.length/\bif q3.State==4 then q5 else Int.toNat q1<l.length/\bif q3.bE==0 then q4 else Int.toNat q1<l.length/\bif ok then Int.toNat q1<x0.length/\Int.toNat q1<x1.length/\ap [VI 1]=ap [VI (q0.2)]/\ap [VL .aA (List.modify x1 (Int.toNat q1) fun(x:ak)=>{F:=x.F,aW:=x.aW,State:=x.State,bE:=x.bE,kf:=x.kf,V:=v:ak})]=ap [VL .aA (q0.1)] else Int.toNat q1<x0.length/\ap [VI 1]=ap [VI (q0.2)]/\ap [VL .aA (List.modify x0 (Int.toNat q1) fun(x:ak)=>{F:=x.F,aW:=x.aW,State:=x.State,bE:=x.bE,kf:=x.kf,V:=v:ak})]=ap [VL .aA (q0.1)]) (by kernel_rfl)
 dsimp only
 refine af (fun h=> ?_) (fun h=> ?_)
 ·have h:=yT h
  rw[rB (fun hh=>absurd hh.2.2.1 (by omega))];exact⟨rfl,rfl⟩
 have h:=yF h
 have hk:=oz (l:=l) (key:=key) (by omega)
 obtain⟨s1,s2,s3,s4,s5⟩:=ES (mX bC hk)
 refine⟨by omega,hk,hk,af (fun h1=> ?_) (fun h1=>⟨hk,af (fun h2=> ?_) (fun h2=>⟨hk,af (fun h3=> ?_) (fun h3=>⟨hk,af (fun h4=> ?_) (fun h4=> ?_)⟩)⟩)⟩)⟩
 ·have h1:=eq_of_beq h1
  rw[uf ⟨bC,fT,by omega,by omega⟩ (by omega)];exact⟨rfl,rfl⟩
 ·have h2:=eq_of_beq h2
  rw[uf ⟨bC,fT,by omega,by omega⟩ (by omega)];exact⟨rfl,rfl⟩
 ·have h3:=eq_of_beq h3
  simp only[beq_eq_false_iff_ne,ne_eq] at h1 h2
  rw[rB (fun hh=>absurd hh.2.2.2 (by omega))];exact⟨rfl,rfl⟩
 ·subst h4
  simp only[beq_eq_false_iff_ne,ne_eq] at h1 h2 h3
  rw[yA ⟨bC,fT,by omega,by omega⟩ (by omega)]
  exact⟨by simp only[J8];exact hk,by simp only[J8];exact hk,rfl,uM (TF _ _ _)⟩
 ·subst h4
  simp only[beq_eq_false_iff_ne,ne_eq] at h1 h2 h3
  rw[yA ⟨bC,fT,by omega,by omega⟩ (by omega)]
  exact⟨by simp only[J8];exact hk,rfl,uM (TG _ _ _)⟩
def WL:HH:=⟨_,ag_⟩
def Rv:bp UU where
 α:=ak×Int
 md:=[.ro,.ro]
 of:=oC (oA .aA) (o1 oI)
 ds:=fun x=>[dA .aA x.1,dI x.2]
 pre:=fun _=>[]
 bT:=fun(t,now)=>⟨[dO (due now t)],[],[]⟩
 law:=lC (lA .aA) (l1 lI)
def ajP:Rv.α->Nat->Option (bY UU):=fun(t,now)=>aN []
def aeL:List (FuncId×bp UU):=[]
theorem agw:Holds EE (174,Rv):=by
 refine holds_of ax func174 Rv (by kernel_rfl) aeL all_nil ajP (fun x hp hb=> ?_)
 obtain⟨t,now⟩:=x
 have bi:=qX (x:=t) (hb _ m0)
 have nL:=bi.1
 have lc:=bi.2.1
 have qM:=bi.2.2.1
 have tE:=bi.2.2.2
 have vW:=sL (n:=now) (hb _ m1)
 clear hp hb
 apply @ve _ (let q0:=Lb (decide (t.kf<=now)) (due now t);bif t.State==1 then q0 else bif t.State==2 then q0 else Lb false (due now t)) (by kernel_rfl)
 dsimp only
 repeat' (refine af (fun h=> ?_) (fun h=> ?_))
 all_goals (refine cj ?_;simp only[due,j8];grind)
def aio:HH:=⟨_,agw⟩
def Sd:bp UU where
 α:=(List ak)×Int
 md:=[.wr,.ro]
 of:=oC (oL .aA) (o1 oI)
 ds:=fun x=>[dL .aA x.1,dI x.2]
 pre:=fun(l,now)=>[bc l=true,0<=now/\now<=1000000000]
 bT:=fun(l,now)=>⟨[dL .kH (l.flatMap (oq now)),dL .str (l.flatMap (lf now))],[],[dL .aA (l.map (fR now))]⟩
 law:=lC (lL .aA) (l1 lI)
def uW(l:(List ak))(now:Int):List ak×List ow×List BA×Int×Unit->Prop:=fun(out,calls,failed,i,_)=>0<=i/\i<=l.length/\out=(l.map (fR now)).take i.toNat++l.drop i.toNat/\calls=(l.take i.toNat).flatMap (oq now)/\failed=(l.take i.toNat).flatMap (lf now)
def ny(l:(List ak))(now:Int):List ak×List ow×List BA×Int×Unit->Nat:=fun(out,calls,failed,i,_)=>l.length-i.toNat
def akt:Sd.α->Nat->Option (bY UU):=fun(l,now)=>aN [(4,bh [.slot 0 (2000000,0) (.own .aA true),.slot 6 (6,1024) (.own .kH true),.slot 7 (7,1024) (.own .str true),.slot 8 (8,1024) (.lit (.int .i64))] (fun _=>uW l now) (ny l now))]
def afp:=us [aio,SG,ain,sM]
theorem ahc:Holds EE (130,Sd):=by
 refine holds_of ax func130 Sd (by kernel_rfl) afp (aE _) akt (fun x hp hb=> ?_)
 obtain⟨l,now⟩:=x
 have gP:l.length<=9223372036854775807:=jO (hb _ m0)
 have vW:=sL (n:=now) (hb _ m1)
 have bC:bc l=true:=hp _ m0
 have fT:0<=now/\now<=1000000000:=hp _ m1
 clear hp hb
 apply @ve _ (uW l now (l,[],[],0,())/\∀(y:List ak×List ow×List BA×Int×PUnit),let x3:Nat:=y.2.2.2.1.toNat;let x5:List ak:=List.modify y.1 x3 fun(x:ak)=>{F:=x.F,aW:=x.aW,State:=(4:Int),bE:=x.bE,kf:=x.kf,V:=x.V:ak};let x6:List ak:=List.modify y.1 x3 fun(x:ak)=>{F:=x.F,aW:=x.aW,State:=x.State,bE:=IntKind.wrap IntKind.i64 ((List.getD y.1 x3 aR).bE+1),kf:=x.kf,V:=x.V:ak};let x4:List ak:=List.modify x6 x3 fun(x:ak)=>{F:=x.F,aW:=x.aW,State:=(2:Int),bE:=x.bE,kf:=x.kf,V:=x.V:ak};let x2:List ak:=List.modify x4 x3 fun(x:ak)=>{F:=x.F,aW:=x.aW,State:=x.State,bE:=x.bE,kf:=IntKind.wrap IntKind.i64 (now+mC 2 (List.getD x4 x3 aR).bE 60),V:=x.V:ak};let x1:aJ:=(List.getD x2 x3 aR).F;let x0:List ow:=[{Key:=bU x1,F:=x1,Try:=(List.getD x2 x3 aR).bE:ow}];let q0:=(x5,y.2.1,y.2.2.1++[bU (List.getD x5 x3 aR).F],IntKind.wrap IntKind.i64 (y.2.2.2.1+1),());let q1:=(x2,y.2.1++x0,y.2.2.1,IntKind.wrap IntKind.i64 (y.2.2.2.1+1),());let q2:=(y.1,y.2.1,y.2.2.1,IntKind.wrap IntKind.i64 (y.2.2.2.1+1),());uW l now y->bif decide (y.2.2.2.1<(y.1.length:Int)) then 0<=y.2.2.2.1/\x3<y.1.length/\x3<y.1.length/\x3<y.1.length/\bif !due now (List.getD y.1 x3 aR) then uW l now q2/\ny l now q2<ny l now y else x3<y.1.length/\bif (List.getD y.1 x3 aR).bE==4 then x3<y.1.length/\x3<x5.length/\x3<x5.length/\y.2.2.1.length+List.length [bU (List.getD x5 x3 aR).F]<=4294967296/\uW l now q0/\ny l now q0<ny l now y else x3<y.1.length/\x3<y.1.length/\x3<x6.length/\x3<x4.length/\x3<x4.length/\x3<x2.length/\x3<x2.length/\x3<x2.length/\x3<x2.length/\x1.aj.length<=4294967296/\x3<x2.length/\y.2.1.length+x0.length<=4294967296/\uW l now q1/\ny l now q1<ny l now y else ap [VL .kH y.2.1,VL .str y.2.2.1]=ap [VL .kH (List.flatMap (oq now) l),VL .str (List.flatMap (lf now) l)]/\ap [VL .aA y.1]=ap [VL .aA (List.map (fR now) l)]) (by kernel_rfl)
 dsimp only
 refine⟨⟨by omega,by omega,by simp,by simp,by simp⟩,?_⟩
 rintro⟨out,calls,failed,i,⟨⟩⟩ ⟨h1,h2,rfl,rfl,rfl⟩
 have hl:=LY (fR now) l h1 h2
 have hlen:=F4 bC
 have iq:=xh (oq now) (NZ now) (l.take i.toNat)
 have EC:=xh (lf now) (Fq now) (l.take i.toNat)
 rw[oH] at iq EC
 simp only
 refine af (fun hc=> ?_) (fun hc=> ?_)
 ·have hc:=yT hc
  have hc:i<l.length:=by omega
  have hi:i.toNat<l.length:=by omega
  have hg:=Gu _ l aR (Pr (fR now) l h1 h2) h1 hc
  obtain⟨s1,s2,s3,s4,s5⟩:=ES (mX bC hi)
  have Wi:=Fk (oq now) l aR h1 hc
  have hft:=Fk (lf now) l aR h1 hc
  have hM:=fun F hF=>Gv (fR now) l aR F h1 hc hF
  have hS:=fun hF=>IX (fR now) l aR h1 hc hF
  have hb:=DJ ((List.getD l i.toNat aR).bE+1)
  generalize hRR:(l.map (fR now)).take i.toNat++l.drop i.toNat=R at*
  rw[wrap_i64 (n:=i+1) (by omega) (by omega)]
  simp(disch:=first|omega|(simp only[J8];omega)) only[getD_modify,nt,J8,hl,hg]
  generalize hT:List.getD l i.toNat aR=t at*
  simp(disch:=omega) only[wrap_i64,gv,fO]
  repeat' (first|refine And.intro (by omega) ?_|refine af (fun h=> ?_) (fun h=> ?_)|fail)
  all_goals simp only[ql,Bool.not_eq_false',decide_eq_true_eq,decide_eq_false_iff_not,beq_iff_eq,beq_eq_false_iff_ne] at*
  all_goals first
   |(have hd:due now t=true:=by first|assumption|(simp only[due];grind)
     have e1:oq now t=[]:=by simp only[oq];exact if_neg (by simp_all)
     have e2:lf now t=[bU t.F]:=by simp only[lf];exact if_pos ⟨hd,by assumption⟩
     rw[e1,ww] at Wi
     rw[e2] at hft
     rw[hM _ (by simp only[fR,hd,if_true];rw[if_pos (by assumption)])]
     exact⟨⟨by omega,by omega,rfl,Wi,hft⟩,by simp only[ny];omega⟩)
   |(have hd:due now t=true:=by first|assumption|(simp only[due];grind)
     have e1:oq now t=[⟨bU t.F,t.F,t.bE+1⟩]:=by simp only[oq];exact if_pos ⟨hd,by assumption⟩
     have e2:lf now t=[]:=by simp only[lf];exact if_neg (by simp_all)
     rw[e2,ww] at hft
     rw[e1] at Wi
     rw[hM _ (by simp only[fR,hd,if_true];rw[if_neg (by assumption)])]
     exact⟨⟨by omega,by omega,rfl,Wi,hft⟩,by simp only[ny];omega⟩)
   |(have hd:due now t=false:=by first|assumption|(simp only[due];grind)
     have e1:oq now t=[]:=by simp only[oq];exact if_neg (by simp_all)
     have e2:lf now t=[]:=by simp only[lf];exact if_neg (by simp_all)
     rw[e1,ww] at Wi
     rw[e2,ww] at hft
     have hs:=hS (by simp only[fR,hd];rfl)
     exact⟨⟨by omega,by omega,hs,Wi,hft⟩,by simp only[ny];omega⟩)
 ·have hc:=yF hc
  exact⟨by rw[dB l (by omega)];rfl,uM (IY (i:=i) (fR now) l (by omega))⟩
def WM:HH:=⟨_,ahc⟩
theorem Cg{l:List ak}{f:ak->ak}{k:Nat}(hF:∀t,(f t).F=t.F)(hk:k<l.length)(hf:fY (f (List.getD l k aR))=true)(h:bc l=true):bc (l.modify k f)=true:=by
 rw[lQ] at h⊢
 refine⟨by simpa using h.1,fun t ht=> ?_,by rw[nX _ _ hF];exact h.2.2⟩
 obtain⟨i,hi,rfl⟩:=ri ht
 have pN:i<l.length:=by simpa using hi
 rw[List.getElem_modify]
 split
 ·rename_i YY
  subst YY
  rw[eY,fo hk] at hf
  exact hf
 ·exact h.2.1 _ (Ed pN)
theorem qn{l:List ak}{key:BA}{ok:Bool}{v:aQ}(h:bc l=true):bc (bt l key ok v).1=true:=by
 unfold bt;split
 ·rename_i hc
  split
  ·have hk:=oz (l:=l) (key:=key) hc.2.2.1
   refine Cg (fun _=>rfl) hk ?_ h
   obtain⟨a1,a2,a3,a4,a5,a6,a7⟩:=fX.1 (mX h hk)
   refine fX.2 ⟨a1,a2,?_,a4,a5,.inr hc.2.1,?_⟩
   ·simp only[rC];split<;>omega
   ·simp only[rC];split<;>simp
  ·exact h
 ·exact h
theorem vv(f:aJ):(bU f).size<=200:=by
 unfold bU;split
 ·rename_i h
  obtain⟨h1,h2,h3,h4⟩:=jN h
  have:=C0 f.aj h2
  rw[ja];simp only[kg,sb,zz,gv,fO];omega
 ·simp[ai]
theorem MF{l:List bu}{u:bu}(h:db l=true)(hl:l.length<30)(hk:1<=u.Key.size/\u.Key.size<=200)(hf:bI u.F=true)(hn:tG l u.Key=false):db (l++[u])=true:=by
 simp only[db,cK,decide_eq_true_eq] at h⊢
 have hlen:(l++[u]).length=l.length+1:=by simp
 refine⟨by omega,xL.2 fun j hj=> ?_⟩
 have g:∀k,k<l.length->List.getD (l++[u]) k ck=List.getD l k ck:=fun k hk=>by rw[eY,eY,vC hk]
 rcases nV j l.length with Wb|Wb
 ·have:=xL.1 h.2 j Wb
  unfold jv at this⊢
  rw[g j Wb]
  rw[<-this]
  congr 2
  exact ng fun k hk=>by rw[g k (by omega)]
 ·have:j=l.length:=by omega
  subst this
  have gl:List.getD (l++[u]) l.length ck=u:=by rw[eY,wC (s_ _)];simp
  unfold jv
  rw[gl,hf]
  have:(anyI l.length fun k=>decide ((List.getD (l++[u]) k ck).Key=u.Key))=false:=by
   rw[<-hn]
   exact ng fun k hk=>by rw[g k hk]
  rw[this]
  simp only[Tm,EL,decide_eq_true_eq];exact hk
theorem GV{f:aJ}(h:bI f=true):1<=(bU f).size:=by
 rw[bU,if_pos h,ja];simp only[kg,zz,gv];omega
theorem IE{l:List bu}{t:ak}(h:kw l t=true):db (cz l t).1=true:=by
 rw[cz,if_pos h]
 simp only[kw,cK,ql,decide_eq_false_iff_not] at h
 obtain⟨⟨⟨⟨h1,h2⟩,h3⟩,h4⟩,h5⟩:=h
 have:=vv t.F
 have:=GV h2
 refine MF h1 (by omega) ⟨by assumption,by assumption⟩ ?_ h4
 have h6:=h2
 simp only[bI,cK] at h6⊢
 exact⟨⟨h3,h6.1.2⟩,h6.2⟩
theorem wE{l:List bu}(n:Nat)(h:db l=true):db (l.take n)=true:=by
 simp only[db,cK,decide_eq_true_eq] at h⊢
 have hg:∀k,k<(l.take n).length->List.getD (l.take n) k ck=List.getD l k ck:=fun k hk=>by
  rw[eY,eY,oJ,if_pos (by simp at hk;omega)]
 refine⟨by have:=h.1;simp only[oH];omega,fV.2 fun i hi=> ?_⟩
 have h2:=fV.1 h.2 i (by simp at hi;omega)
 simp only[jv] at h2⊢
 rw[hg i hi,ng (q:=fun k=>decide ((List.getD l k ck).Key=(List.getD l i ck).Key)) fun k hk=>by rw[hg k (by omega)]]
 exact h2
def xd(x:ao):ao:=kX ⟨x.S,x.aD,x.au,x.aC,x.aL.take (x.aL.length-1),x.State,x.dw⟩
theorem NK{x:ao}(h:en x):en ⟨x.S,x.aD,x.au,x.aC,x.aL.take (x.aL.length-1),x.State,x.dw⟩:=⟨h.1,wE _ h.2.1,h.2.2⟩
def sW(f:aJ)(word:BA)(v:aQ):aJ:=⟨f.Kind,[⟨2,0,word⟩,v]⟩
def bOk:BA:=⟨#[111,107]⟩
def bNo:BA:=⟨#[110,111]⟩
def H8(ok:Bool):BA:=if ok=true then bOk else bNo
def pV(x:ao)(l:List ak):ao:=⟨x.S,x.aD,l,x.aC,x.aL,x.State,x.dw⟩
def B6(x:ao)(l:List bu):ao:=⟨x.S,x.aD,x.au,x.aC,l,x.State,x.dw⟩
def EJ(x:ao)(k:Nat)(ok:Bool)(v:aQ):ao:=
 if x.State≠1 then xd x
 else if ok=true/\(List.getD x.au k aR).aW≠ai then
  (if(cz x.aL (List.getD x.au k aR)).2=true then e7 (B6 x (cz x.aL (List.getD x.au k aR)).1) (sW (List.getD x.au k aR).F (H8 ok) v) else jk x 3)
 else e7 x (sW (List.getD x.au k aR).F (H8 ok) v)
def jR(x:ao)(key:BA)(ok:Bool)(v:aQ):ao×Int:=
 if(bt x.au key ok v).2=1 then(EJ (pV x (bt x.au key ok v).1) (aZ (bt x.au key ok v).1 key).toNat ok v,1) else(x,(bt x.au key ok v).2)
theorem Mr{x:ao}{k:Nat}{ok:Bool}{v:aQ}(h:x.State=1):EJ x k ok v=if ok=true/\(List.getD x.au k aR).aW≠ai then
  (if(cz x.aL (List.getD x.au k aR)).2=true then e7 (B6 x (cz x.aL (List.getD x.au k aR)).1) (sW (List.getD x.au k aR).F (H8 ok) v) else jk x 3)
 else e7 x (sW (List.getD x.au k aR).F (H8 ok) v):=if_neg (by omega)
theorem Dh{x:ao}(h:en x){t:ak}(hp:(cz x.aL t).2=true):en (B6 x (cz x.aL t).1):=by
 refine⟨h.1,?_,h.2.2⟩
 by_cases hc:kw x.aL t=true
 ·exact IE hc
 ·rw[cz,if_neg hc] at hp;cases hp
theorem Jm{x:ao}{key:BA}{ok:Bool}{v:aQ}(h:en x):en (pV x (bt x.au key ok v).1):=⟨qn h.1,h.2⟩
theorem KA{l:List ak}{key:BA}{ok:Bool}{v:aQ}(h:¬(bt l key ok v).2=1):(bt l key ok v).1=l:=by
 unfold bt at h⊢
 split
 ·rename_i h1
  rw[if_pos h1] at h
  split
  ·rename_i h2
   rw[if_pos h2] at h;exact absurd rfl h
  ·rfl
 ·rfl
theorem Iv{l:List ak}{key:BA}{ok:Bool}{v:aQ}(h:(bt l key ok v).2=1):0<=aZ (bt l key ok v).1 key/\aZ (bt l key ok v).1 key<((bt l key ok v).1.length:Int):=by
 have h1:bc l=true/\bR v=true/\0<=aZ l key/\(List.getD l (aZ l key).toNat aR).State≠1:=Classical.byContradiction fun c=>by rw[rB c] at h;simp at h
 have h2:(List.getD l (aZ l key).toNat aR).State=2:=Classical.byContradiction fun c=>by rw[uf h1 c] at h;simp at h
 have e:=congrArg Prod.fst (yA (key:=key) (ok:=ok) (v:=v) h1 h2)
 have hk:=oz (l:=l) (key:=key) h1.2.2.1
 have e3:aZ (bt l key ok v).1 key=aZ l key:=by
  rw[e];unfold aZ
  rw[J8]
  refine vQ fun j hj=> ?_
  congr 2
  rw[eY,eY,W1,fo hj]
  show bU (((if _=j then rC ok v l[j] else l[j])).F)=bU (l[j]).F
  split<;>rfl
 rw[e3,e,J8];omega
def Rt:bp UU where
 α:=aJ×BA×aQ
 md:=[.ro,.ro,.ro]
 of:=oC (oA .bP) (oC oS (o1 (oA .aM)))
 ds:=fun x=>[dA .bP x.1,dS x.2.1,dA .aM x.2.2]
 pre:=fun _=>[]
 bT:=fun(f,word,v)=>⟨[dA .bP (sW f word v)],[],[]⟩
 law:=lC (lA .bP) (lC lS (l1 (lA .aM)))
def ajN:Rt.α->Nat->Option (bY UU):=fun(f,word,v)=>aN []
def aeJ:List (FuncId×bp UU):=[]
theorem agu:Holds EE (176,Rt):=by
 refine holds_of ax func176 Rt (by kernel_rfl) aeJ all_nil ajN (fun x hp hb=> ?_)
 obtain⟨f,word,v⟩:=x
 have bi:=fB (x:=f) (hb _ m0)
 have gb:=bi.1
 have eh:=bi.2
 have ak5:=Ao (s:=word) (hb _ m1)
 have vV:=iW (x:=v) (hb _ m2)
 clear hp hb
 apply @ve _ (Lf [DV.agg [CS f.Kind,CL .aM [{K:=(2:Int),N:=(0:Int),S:=word:aQ},v]]] [DV.agg [CS ((sW f word v).Kind),CL .aM (sW f word v).aj]]) (by kernel_rfl)
 exact bN _
def WB:HH:=⟨_,agu⟩
def Rs:bp UU where
 α:=ao
 md:=[.box true]
 of:=o1 (oX .bD)
 ds:=fun x=>[dX .bD x]
 pre:=fun x=>[en x,x.State=3\/x.State=5]
 bT:=fun x=>⟨[],[],[dX .bD (xd x)]⟩
 law:=l1 (lX .bD)
def ajM:Rs.α->Nat->Option (bY UU):=fun x=>aN []
def aeI:=us [aia,ahM]
theorem agt:Holds EE (177,Rs):=by
 refine holds_of ax func177 Rs (by kernel_rfl) aeI (aE _) ajM (fun(x:ao) hp hb=> ?_)
 have bi:=g_ (x:=x) (hb _ m0)
 have cw:=bi.1
 have dh:=bi.2.1
 have df:=bi.2.2.1
 have cI:=bi.2.2.2.1
 have de:=bi.2.2.2.2
 have bC:en x:=hp _ m0
 have fT:x.State=3\/x.State=5:=hp _ m1
 clear hp hb
 apply @ve _ (let x1:ao:={S:=x.S,aD:=x.aD,au:=x.au,aC:=x.aC,aL:=List.take (x.aL.length-1) x.aL,State:=x.State,dw:=x.dw:ao};let x0:ao:=kX x1;dt x.aL<=4294967296/\en x1/\(x.State=3\/x.State=5)/\(0:Nat)=(0:Nat)/\ap []=ap []/\ap [DV.box (aO x0)]=ap [DV.box (aO (xd x))]) (by kernel_rfl)
 dsimp only
 have:=(Cc bC.2.1).2.2
 exact⟨by omega,NK bC,fT,rfl,rfl,rfl⟩
def WA:HH:=⟨_,agt⟩
def R_:bp UU where
 α:=ao×Int×Bool×aQ
 md:=[.box true,.ro,.ro,.ro]
 of:=oC (oX .bD) (oC oI (oC oO (o1 (oA .aM))))
 ds:=fun x=>[dX .bD x.1,dI x.2.1,dO x.2.2.1,dA .aM x.2.2.2]
 pre:=fun(x,k,ok,v)=>[en x,bQ x.S=true,0<=k/\k<x.au.length,x.State=1\/x.State=3\/x.State=5]
 bT:=fun(x,k,ok,v)=>⟨[],[],[dX .bD (EJ x k.toNat ok v)]⟩
 law:=lC (lX .bD) (lC lI (lC lO (l1 (lA .aM))))
def akp:R_.α->Nat->Option (bY UU):=fun(x,k,ok,v)=>aN []
def afl:=us [WA,WI,SK,WB,SI]
theorem ag':Holds EE (134,R_):=by
 refine holds_of ax func134 R_ (by kernel_rfl) afl (aE _) akp (fun x hp hb=> ?_)
 obtain⟨x,k,ok,v⟩:=x
 have bi:=g_ (x:=x) (hb _ m0)
 have cw:=bi.1
 have dh:=bi.2.1
 have df:=bi.2.2.1
 have cI:=bi.2.2.2.1
 have de:=bi.2.2.2.2
 have aof:=sL (n:=k) (hb _ m1)
 have vV:=iW (x:=v) (hb _ m3)
 have bC:en x:=hp _ m0
 have fT:bQ x.S=true:=hp _ m1
 have Ka:0<=k/\k<x.au.length:=hp _ m2
 have hp3:x.State=1\/x.State=3\/x.State=5:=hp _ m3
 clear hp hb
 apply @ve _ (let x8:ak:=List.getD x.au k.toNat aR;let x9:Bool:= !ByteArray.toList x8.aW==ByteArray.toList {data:= #[]:BA};let x2:ao:={S:=x.S,aD:=x.aD,au:=x.au,aC:=x.aC,aL:=(cz {τ:=Cd.aT,xs:=x.aL:iX UU}.xs {F:={Kind:=x8.F.Kind,aj:={τ:=Cd.aM,xs:=(List.getD {τ:=Cd.aA,xs:=x.au:iX UU}.xs k.toNat (UU.e_ {τ:=Cd.aA,xs:=x.au:iX UU}.τ)).F.aj:iX UU}.xs:aJ},aW:=x8.aW,State:=x8.State,bE:=x8.bE,kf:=x8.kf,V:={K:=x8.V.K,N:=x8.V.N,S:=x8.V.S:aQ}:ak}).1,State:=x.State,dw:=x.dw:ao};let x5:Bool:= !(cz {τ:=Cd.aT,xs:=x.aL:iX UU}.xs {F:={Kind:=x8.F.Kind,aj:={τ:=Cd.aM,xs:=(List.getD {τ:=Cd.aA,xs:=x.au:iX UU}.xs k.toNat (UU.e_ {τ:=Cd.aA,xs:=x.au:iX UU}.τ)).F.aj:iX UU}.xs:aJ},aW:=x8.aW,State:=x8.State,bE:=x8.bE,kf:=x8.kf,V:={K:=x8.V.K,N:=x8.V.N,S:=x8.V.S:aQ}:ak}).2;let x6:aJ:=sW x8.F {data:= #[(110:UInt8),(111:UInt8)]:BA} v;let x7:aJ:=sW x8.F {data:= #[(111:UInt8),(107:UInt8)]:BA} v;let x0:ao:=e7 x2 x7;let x1:ao:=e7 x2 x6;let x3:ao:=e7 x x6;let x4:ao:=e7 x x7;let q0:=aO (EJ x k.toNat ok v);let q1:=k.toNat<x.au.length/\en x/\bQ x.S=true/\x7.aj.length<=4294967296/\(0:Nat)=(0:Nat)/\ap []=ap []/\ap [DV.box (aO x4)]=ap [DV.box q0];let q2:=k.toNat<x.au.length/\en x/\bQ x.S=true/\x6.aj.length<=4294967296/\(0:Nat)=(0:Nat)/\ap []=ap []/\ap [DV.box (aO x3)]=ap [DV.box q0];let q3:=en x/\((3:Int)=(3:Int)\/(3:Int)=(5:Int))/\(0:Nat)=(0:Nat)/\ap []=ap []/\ap [DV.box (aO (jk x 3))]=ap [DV.box q0];0<=k/\k.toNat<x.au.length/\k.toNat<x.au.length/\bif x.State !=1 then en x/\(x.State=3\/x.State=5)/\(0:Nat)=(0:Nat)/\ap []=ap []/\ap [DV.box (aO (xd x))]=ap [DV.box q0] else bif ok then bif ok then bif x9 then k.toNat<x.au.length/\dt x.aL<=4294967296/\x8.F.aj.length<=4294967296/\bif x5 then q3 else k.toNat<x.au.length/\en x2/\bQ x.S=true/\x7.aj.length<=4294967296/\(0:Nat)=(0:Nat)/\ap []=ap []/\ap [DV.box (aO x0)]=ap [DV.box q0] else q1 else q1 else bif ok then bif x9 then k.toNat<x.au.length/\dt x.aL<=4294967296/\x8.F.aj.length<=4294967296/\bif x5 then q3 else k.toNat<x.au.length/\en x2/\bQ x.S=true/\x6.aj.length<=4294967296/\(0:Nat)=(0:Nat)/\ap []=ap []/\ap [DV.box (aO x1)]=ap [DV.box q0] else q2 else q2) (by kernel_rfl)
 dsimp only
 have Wd:=bC
 obtain⟨q1,q2,q3,q4⟩:=bC
 have hk:k.toNat<x.au.length:=by omega
 have k3:=(Cc q2).2.2
 have NF:=(qS (fX.1 (mX q1 hk)).1).1
 rw[bx]
 refine⟨Ka.1,hk,hk,n7 (fun hs=>⟨Wd,by omega,by trivial,by trivial,o8 ?_⟩) (fun hs=> ?_)⟩
 ·exact(if_pos hs).symm
 have e0:=Mr (k:=k.toNat) (ok:=ok) (v:=v) hs
 cases ok with
 |false=>
  simp only[cond_false]
  exact⟨hk,Wd,fT,by simp[sW],by trivial,by trivial,o8 (e0.trans (if_neg (by simp))).symm⟩
 |true=>
  simp only[cond_true]
  refine bO (fun g=> ?_) (fun g=> ?_)
  ·have g:¬(List.getD x.au k.toNat aR).aW=ai:=yF g
   refine⟨hk,by omega,by omega,bO (fun p=> ?_) (fun p=> ?_)⟩
   ·have p:(cz x.aL (List.getD x.au k.toNat aR)).2=false:=p
    exact⟨Wd,.inl (by trivial),by trivial,by trivial,o8 (e0.trans ((if_pos ⟨rfl,g⟩).trans (if_neg (by rw[p];decide)))).symm⟩
   ·have p:(cz x.aL (List.getD x.au k.toNat aR)).2=true:=p
    exact⟨hk,Dh Wd p,fT,by simp[sW],by trivial,by trivial,o8 (e0.trans ((if_pos ⟨rfl,g⟩).trans (if_pos p))).symm⟩
  ·have g:(List.getD x.au k.toNat aR).aW=ai:=yT g
   exact⟨hk,Wd,fT,by simp[sW],by trivial,by trivial,o8 (e0.trans (if_neg (fun c=>c.2 g))).symm⟩
def aiP:HH:=⟨_,ag'⟩
def Z2:bp UU where
 α:=ao×BA×Bool×aQ
 md:=[.box true,.ro,.ro,.ro]
 of:=oC (oX .bD) (oC oS (oC oO (o1 (oA .aM))))
 ds:=fun x=>[dX .bD x.1,dS x.2.1,dO x.2.2.1,dA .aM x.2.2.2]
 pre:=fun(x,key,ok,v)=>[en x,bQ x.S=true,bR v=true,(bt x.au key ok v).2=1->x.State=1\/x.State=3\/x.State=5]
 bT:=fun(x,key,ok,v)=>⟨[dI ((jR x key ok v).2)],[],[dX .bD ((jR x key ok v).1)]⟩
 law:=lC (lX .bD) (lC lS (lC lO (l1 (lA .aM))))
def asM:Z2.α->Nat->Option (bY UU):=fun(x,key,ok,v)=>aN []
def ao9:=us [WL,SS,aiP]
theorem aqv:Holds EE (81,Z2):=by
 refine holds_of ax func81 Z2 (by kernel_rfl) ao9 (aE _) asM (fun x hp hb=> ?_)
 obtain⟨x,key,ok,v⟩:=x
 have bi:=g_ (x:=x) (hb _ m0)
 have cw:=bi.1
 have dh:=bi.2.1
 have df:=bi.2.2.1
 have cI:=bi.2.2.2.1
 have de:=bi.2.2.2.2
 have K4:=Ao (s:=key) (hb _ m1)
 have vV:=iW (x:=v) (hb _ m3)
 have bC:en x:=hp _ m0
 have fT:bQ x.S=true:=hp _ m1
 have Ka:bR v=true:=hp _ m2
 have hp3:(bt x.au key ok v).2=1->x.State=1\/x.State=3\/x.State=5:=hp _ m3
 clear hp hb
 apply @ve _ (let x1:Int:=aZ (bt {τ:=Cd.aA,xs:=x.au:iX UU}.xs key ok {K:=v.K,N:=v.N,S:=v.S:aQ}).1 key;let x2:ao:={S:=x.S,aD:=x.aD,au:=(bt {τ:=Cd.aA,xs:=x.au:iX UU}.xs key ok {K:=v.K,N:=v.N,S:=v.S:aQ}).1,aC:=x.aC,aL:=x.aL,State:=x.State,dw:=x.dw:ao};let x0:ao:=EJ x2 x1.toNat ok v;let q0:=bt {τ:=Cd.aA,xs:=x.au:iX UU}.xs key ok {K:=v.K,N:=v.N,S:=v.S:aQ};let q1:=jR x key ok v;bc x.au=true/\bR v=true/\bif q0.2==1 then en x2/\bQ x.S=true/\(0<=x1/\x1<(↑(List.length q0.1):Int))/\(x.State=1\/x.State=3\/x.State=5)/\(0:Nat)=(0:Nat)/\ap [VI (q0.2)]=ap [VI (q1.2)]/\ap [DV.box (aO x0)]=ap [DV.box [CL .aX q1.1.S.ab,CI (q1.1.S.Next),CL .az q1.1.aD,CL .aA q1.1.au,CL .aH q1.1.aC,CL .aT q1.1.aL,CI (q1.1.State),CI (q1.1.dw)]] else(0:Nat)=(0:Nat)/\ap [VI (q0.2)]=ap [VI (q1.2)]/\ap [DV.box [CL .aX x.S.ab,CI x.S.Next,CL .az x.aD,CL .aA q0.1,CL .aH x.aC,CL .aT x.aL,CI x.State,CI x.dw]]=ap [DV.box [CL .aX q1.1.S.ab,CI (q1.1.S.Next),CL .az q1.1.aD,CL .aA q1.1.au,CL .aH q1.1.aC,CL .aT q1.1.aL,CI (q1.1.State),CI (q1.1.dw)]]) (by kernel_rfl)
 dsimp only
 have Wd:=bC
 have gF:=Iv (l:=x.au) (key:=key) (ok:=ok) (v:=v)
 refine⟨bC.1,Ka,bo (fun h=> ?_) (fun h=> ?_)⟩
 ·have e:jR x key ok v=(EJ (pV x (bt x.au key ok v).1) (aZ (bt x.au key ok v).1 key).toNat ok v,1):=if_pos h
  exact⟨Jm Wd,fT,gF h,hp3 h,by trivial,akZ (h.trans (congrArg Prod.snd e).symm),o8 (congrArg Prod.fst e).symm⟩
 ·have e:jR x key ok v=(x,(bt x.au key ok v).2):=if_neg h
  have e2:=KA (l:=x.au) (key:=key) (ok:=ok) (v:=v) h
  exact⟨by trivial,akZ (congrArg Prod.snd e).symm,o8 (a:=pV x (bt x.au key ok v).1) ((congrArg (pV x) e2).trans (congrArg Prod.fst e).symm)⟩
def arP:HH:=⟨_,aqv⟩
def iL:List b9->BA->aQ×Bool
 |[],_=>(dx,false)
 |b::l,n=>if b.Name=n then(b.V,true) else iL l n
theorem JP(l:List b9)(n:BA){i:Int}(h0:0<=i)(h:i<l.length):iL (l.drop i.toNat) n=if(List.getD l i.toNat EN).Name=n then((List.getD l i.toNat EN).V,true) else iL (l.drop (i+1).toNat) n:=by
 rw[eK l EN h0 h];rfl
def cm(a:cp)(l:List b9):aQ×Bool:=if a.K=2 then(a.V,true) else if a.K=1 then iL l a.S else(dx,false)
def Pj(n:Int):aQ:=⟨1,n,ai⟩
def mj(a b:aQ):Bool:=decide (a.K=1)&&decide (b.K=1)&&bR a&&bR b
def iM(a b:aQ)(n:Int):Bool:=mj a b&&bR (Pj n)
def mJ(a b:aQ)(n:Int):aQ:=if iM a b n then Pj n else dx
theorem I4{a b:aQ}(h:mj a b=true):(-1000000000<=a.N/\a.N<=1000000000)/\(-1000000000<=b.N/\b.N<=1000000000):=by
 simp only[mj,cK,decide_eq_true_eq] at h
 obtain⟨⟨⟨h1,h2⟩,h3⟩,h4⟩:=h
 simp only[bR,h1,h2,decide_true,cond_true,cK,decide_eq_true_eq] at h3 h4
 exact⟨h3.1,h4.1⟩
theorem Cl(a b:aQ)(n:Int)(h:mj a b=true->IntKind.wrap .i64 n=n):iM a b (IntKind.wrap .i64 n)=iM a b n:=by
 cases hi:mj a b with
 |false=>simp only[iM,hi,pF]
 |true=>rw[h hi]
theorem EV(a b:aQ)(n:Int)(h:mj a b=true->IntKind.wrap .i64 n=n):mJ a b (IntKind.wrap .i64 n)=mJ a b n:=by
 cases hi:mj a b with
 |false=>simp only[mJ,iM,hi,pF];rfl
 |true=>rw[h hi]
def qd(e:b7)(l:List b9):aQ×Bool:=
 if(cm e.L l).2=false then(dx,false) else if e.Op=ai then((cm e.L l).1,true) else if(cm e.R l).2=false then(dx,false)
 else if e.Op=DK then(mJ (cm e.L l).1 (cm e.R l).1 ((cm e.L l).1.N+(cm e.R l).1.N),iM (cm e.L l).1 (cm e.R l).1 ((cm e.L l).1.N+(cm e.R l).1.N))
 else if e.Op=v_ then(mJ (cm e.L l).1 (cm e.R l).1 ((cm e.L l).1.N-(cm e.R l).1.N),iM (cm e.L l).1 (cm e.R l).1 ((cm e.L l).1.N-(cm e.R l).1.N)) else(dx,false)
def tI(l:List b9)(e:b7):aQ:=(qd e l).1
def tJ(l:List b9)(e:b7):Bool:=(qd e l).2
def mA(es:List b7)(l:List b9):Bool:=es.all (tJ l)
def mz(es:List b7)(l:List b9):List aQ:=if mA es l then es.map (tI l) else[]
theorem WZ{a a':aQ}{b b':Bool}(h1:a=a')(h2:b=b'):Lf [.agg [.lit (.int .i64 a.K),.lit (.int .i64 a.N),.lit (.string a.S)],.one (.lit (.bool b))] [.agg [.lit (.int .i64 a'.K),.lit (.int .i64 a'.N),.lit (.string a'.S)],.one (.lit (.bool b'))]:=by
 subst h1 h2;exact bN _
theorem ak0{a a':List aQ}{b b':Bool}(h1:a=a')(h2:b=b'):Lf [.one (.sl .aM a),.one (.lit (.bool b))] [.one (.sl .aM a'),.one (.lit (.bool b'))]:=by
 subst h1 h2;exact bN _
theorem Ck{a b:aQ}{n:Int}(h:iM a b n=false):Lf [.agg [.lit (.int .i64 0),.lit (.int .i64 0),.lit (.string ⟨#[]⟩)],.one (.lit (.bool false))] [.agg [.lit (.int .i64 (mJ a b n).K),.lit (.int .i64 (mJ a b n).N),.lit (.string (mJ a b n).S)],.one (.lit (.bool (iM a b n)))]:=
 WZ (a:=dx) (by simp only[mJ,h];rfl) h.symm
theorem TB{a b:aQ}{n:Int}(h:iM a b n=true):Lf [.agg [.lit (.int .i64 1),.lit (.int .i64 n),.lit (.string ⟨#[]⟩)],.one (.lit (.bool true))] [.agg [.lit (.int .i64 (mJ a b n).K),.lit (.int .i64 (mJ a b n).N),.lit (.string (mJ a b n).S)],.one (.lit (.bool (iM a b n)))]:=
 WZ (a:=Pj n) (by simp only[mJ,h];rfl) h.symm
theorem JX{a b:aQ}(h:mj a b=true):IntKind.wrap .i64 (a.N+b.N)=a.N+b.N:=by
 have:=I4 h
 exact wrap_i64 (by omega) (by omega)
theorem Ie{a b:aQ}(h:mj a b=true):IntKind.wrap .i64 (a.N-b.N)=a.N-b.N:=by
 have:=I4 h
 exact wrap_i64 (by omega) (by omega)
def Q0:bp UU where
 α:=(List b9)×BA
 md:=[.ro,.ro]
 of:=oC (oL .b_) (o1 oS)
 ds:=fun x=>[dL .b_ x.1,dS x.2]
 pre:=fun _=>[]
 bT:=fun(l,name)=>⟨[dA .aM ((iL l name).1),dO ((iL l name).2)],[],[]⟩
 law:=lC (lL .b_) (l1 lS)
def Bs(l:(List b9))(name:BA):Int×T21×Unit->Prop:=fun(i,r,_)=>r=(0,0,ai,())/\0<=i/\i<=l.length/\iL (l.drop i.toNat) name=iL l name
def AS(l:(List b9))(name:BA):Int×T21×Unit->Nat:=fun(i,r,_)=>l.length-i.toNat
def aji:Q0.α->Nat->Option (bY UU):=fun(l,name)=>aN [(2,bh [.slot 6 (6,1024) (.lit (.int .i64)),.box 4 (4,1024) [.lit (.int .i64),.lit (.int .i64),.lit .str]] (fun _=>Bs l name) (AS l name))]
def aee:List (FuncId×bp UU):=[]
theorem af0:Holds EE (207,Q0):=by
 refine holds_of ax func207 Q0 (by kernel_rfl) aee all_nil aji (fun x hp hb=> ?_)
 obtain⟨l,name⟩:=x
 have gP:l.length<=9223372036854775807:=jO (hb _ m0)
 have um:=Ao (s:=name) (hb _ m1)
 clear hp hb
 apply @ve _ (let q0:=iL l name;Bs l name (0,(0,0,{data:= #[]:BA},()),())/\∀(y:Int×(Int×Int×BA×PUnit)×PUnit),let x0:aQ:=(List.getD l y.1.toNat EN).V;let q1:=(IntKind.wrap IntKind.i64 (y.1+1),(y.2.1.1,y.2.1.2.1,y.2.1.2.2.1,()),());Bs l name y->bif decide (y.1<(l.length:Int)) then 0<=y.1/\y.1.toNat<l.length/\bif ByteArray.toList (List.getD l y.1.toNat EN).Name==ByteArray.toList name then 0<=y.1/\y.1.toNat<l.length/\Lf [DV.agg [CI x0.K,CI x0.N,CS x0.S],VB true] [DV.agg [CI (q0.1.K),CI (q0.1.N),CS (q0.1.S)],VB (q0.2)] else Bs l name q1/\AS l name q1<AS l name y else Lf [DV.agg [CI 0,CI 0,CS ({data:= #[]:BA})],VB false] [DV.agg [CI (q0.1.K),CI (q0.1.N),CS (q0.1.S)],VB (q0.2)]) (by kernel_rfl)
 dsimp only
 refine⟨⟨rfl,by omega,by omega,rfl⟩,?_⟩
 rintro⟨i,⟨r1,r2,r3,⟨⟩⟩,⟨⟩⟩ ⟨hr,h1,h2,hR⟩
 cases hr
 simp only
 refine aU (fun hc=> ?_) (fun hc=> ?_)
 ·rw[JP l name h1 hc] at hR
  rw[bx]
  refine⟨by omega,by omega,aU (fun g=> ?_) (fun g=> ?_)⟩
  ·rw[if_pos g] at hR;rw[<-hR];exact⟨by omega,by omega,bN _⟩
  ·rw[if_neg g] at hR;rw[wrap_i64 (by omega) (by omega)];exact⟨⟨rfl,by omega,by omega,hR⟩,by simp only[AS];omega⟩
 ·have e:l.drop i.toNat=[]:=List.drop_eq_nil_of_le (by omega)
  rw[e] at hR;rw[<-hR];exact bN _
def Ww:HH:=⟨_,af0⟩
def QZ:bp UU where
 α:=cp×(List b9)
 md:=[.ro,.ro]
 of:=oC (oA .er) (o1 (oL .b_))
 ds:=fun x=>[dA .er x.1,dL .b_ x.2]
 pre:=fun _=>[]
 bT:=fun(a,l)=>⟨[dA .aM ((cm a l).1),dO ((cm a l).2)],[],[]⟩
 law:=lC (lA .er) (l1 (lL .b_))
def ajh:QZ.α->Nat->Option (bY UU):=fun(a,l)=>aN []
def aed:=us [Ww]
theorem afZ:Holds EE (208,QZ):=by
 refine holds_of ax func208 QZ (by kernel_rfl) aed (aE _) ajh (fun x hp hb=> ?_)
 obtain⟨a,l⟩:=x
 have bi:=sd (x:=a) (hb _ m0)
 have qu:=bi.1
 have qO:=bi.2
 have gP:l.length<=9223372036854775807:=jO (hb _ m1)
 clear hp hb
 apply @ve _ (let q0:=cm a l;bif a.K==2 then Lf [DV.agg [CI a.V.K,CI a.V.N,CS a.V.S],VB true] [DV.agg [CI (q0.1.K),CI (q0.1.N),CS (q0.1.S)],VB (q0.2)] else bif a.K==1 then Lf [DV.agg [CI ((iL l a.S).1.K),CI ((iL l a.S).1.N),CS ((iL l a.S).1.S)],VB ((iL l a.S).2)] [DV.agg [CI (q0.1.K),CI (q0.1.N),CS (q0.1.S)],VB (q0.2)] else Lf [DV.agg [CI 0,CI 0,CS ({data:= #[]:BA})],VB false] [DV.agg [CI (q0.1.K),CI (q0.1.N),CS (q0.1.S)],VB (q0.2)]) (by kernel_rfl)
 dsimp only
 refine bo (fun h=> ?_) (fun h=>bo (fun h'=> ?_) (fun h'=> ?_))
 ·have e:cm a l=(a.V,true):=if_pos h
  rw[e];exact bN _
 ·have e:cm a l=iL l a.S:=(if_neg h).trans (if_pos h')
  rw[e];exact bN _
 ·have e:cm a l=(dx,false):=(if_neg h).trans (if_neg h')
  rw[e];exact bN _
def Wv:HH:=⟨_,afZ⟩
def QV:bp UU where
 α:=aQ×aQ×Int
 md:=[.ro,.ro,.ro]
 of:=oC (oA .aM) (oC (oA .aM) (o1 oI))
 ds:=fun x=>[dA .aM x.1,dA .aM x.2.1,dI x.2.2]
 pre:=fun _=>[]
 bT:=fun(a,b,n)=>⟨[dA .aM (mJ a b n),dO (iM a b n)],[],[]⟩
 law:=lC (lA .aM) (lC (lA .aM) (l1 lI))
def ajd:QV.α->Nat->Option (bY UU):=fun(a,b,n)=>aN []
def ad_:=us [My]
theorem afV:Holds EE (212,QV):=by
 refine holds_of ax func212 QV (by kernel_rfl) ad_ (aE _) ajd (fun x hp hb=> ?_)
 obtain⟨a,b,n⟩:=x
 have qu:=iW (x:=a) (hb _ m0)
 have K5:=iW (x:=b) (hb _ m1)
 have Nt:=sL (n:=n) (hb _ m2)
 clear hp hb
 apply @ve _ (let q0:=Lf [DV.agg [CI 0,CI 0,CS ({data:= #[]:BA})],VB false] [DV.agg [CI ((mJ a b n).K),CI ((mJ a b n).N),CS ((mJ a b n).S)],VB (iM a b n)];bif a.K !=1 then q0 else bif b.K !=1 then q0 else bif !bR a then q0 else bif !bR b then q0 else bif !bR {K:=(1:Int),N:=n,S:={data:= #[]:BA}:aQ} then q0 else Lf [DV.agg [CI 1,CI n,CS ({data:= #[]:BA})],VB true] [DV.agg [CI ((mJ a b n).K),CI ((mJ a b n).N),CS ((mJ a b n).S)],VB (iM a b n)]) (by kernel_rfl)
 dsimp only
 refine n7 (fun h=>Ck ?_) (fun h1=>n7 (fun h=>Ck ?_) (fun h2=>bO (fun h=>Ck ?_) (fun h3=>bO (fun h=>Ck ?_) (fun h4=>bO (fun h=>Ck ?_) (fun h5=>TB ?_)))))
 ·simp only[iM,mj,decide_eq_false h,pF]
 ·simp only[iM,mj,decide_eq_false h,pF,va]
 ·simp only[iM,mj,show bR a=false from h,pF,va]
 ·simp only[iM,mj,show bR b=false from h,pF,va]
 ·simp only[iM,show bR (Pj n)=false from h,va]
 ·simp only[iM,mj,show bR a=true from h3,show bR b=true from h4,show bR (Pj n)=true from h5,decide_eq_true h1,decide_eq_true h2];rfl
def Wu:HH:=⟨_,afV⟩
def QY:bp UU where
 α:=aQ×aQ
 md:=[.ro,.ro]
 of:=oC (oA .aM) (o1 (oA .aM))
 ds:=fun x=>[dA .aM x.1,dA .aM x.2]
 pre:=fun _=>[]
 bT:=fun(a,b)=>⟨[dA .aM (mJ a b (a.N+b.N)),dO (iM a b (a.N+b.N))],[],[]⟩
 law:=lC (lA .aM) (l1 (lA .aM))
def ajg:QY.α->Nat->Option (bY UU):=fun(a,b)=>aN []
def aec:=us [Wu]
theorem afY:Holds EE (209,QY):=by
 refine holds_of ax func209 QY (by kernel_rfl) aec (aE _) ajg (fun x hp hb=> ?_)
 obtain⟨a,b⟩:=x
 have qu:=iW (x:=a) (hb _ m0)
 have K5:=iW (x:=b) (hb _ m1)
 clear hp hb
 apply @ve _ (let x2:Int:=a.N+b.N;let x0:aQ:=mJ a b (IntKind.wrap IntKind.i64 x2);let x1:aQ:=mJ a b x2;Lf [DV.agg [CI x0.K,CI x0.N,CS x0.S],VB (iM a b (IntKind.wrap IntKind.i64 x2))] [DV.agg [CI x1.K,CI x1.N,CS x1.S],VB (iM a b x2)]) (by kernel_rfl)
 dsimp only
 rw[Cl a b _ JX,EV a b _ JX];exact bN _
def ahY:HH:=⟨_,afY⟩
def QX:bp UU where
 α:=aQ×aQ
 md:=[.ro,.ro]
 of:=oC (oA .aM) (o1 (oA .aM))
 ds:=fun x=>[dA .aM x.1,dA .aM x.2]
 pre:=fun _=>[]
 bT:=fun(a,b)=>⟨[dA .aM (mJ a b (a.N-b.N)),dO (iM a b (a.N-b.N))],[],[]⟩
 law:=lC (lA .aM) (l1 (lA .aM))
def ajf:QX.α->Nat->Option (bY UU):=fun(a,b)=>aN []
def aeb:=us [Wu]
theorem afX:Holds EE (210,QX):=by
 refine holds_of ax func210 QX (by kernel_rfl) aeb (aE _) ajf (fun x hp hb=> ?_)
 obtain⟨a,b⟩:=x
 have qu:=iW (x:=a) (hb _ m0)
 have K5:=iW (x:=b) (hb _ m1)
 clear hp hb
 apply @ve _ (let x2:Int:=a.N-b.N;let x0:aQ:=mJ a b (IntKind.wrap IntKind.i64 x2);let x1:aQ:=mJ a b x2;Lf [DV.agg [CI x0.K,CI x0.N,CS x0.S],VB (iM a b (IntKind.wrap IntKind.i64 x2))] [DV.agg [CI x1.K,CI x1.N,CS x1.S],VB (iM a b x2)]) (by kernel_rfl)
 dsimp only
 rw[Cl a b _ Ie,EV a b _ Ie];exact bN _
def ahX:HH:=⟨_,afX⟩
def Q5:bp UU where
 α:=b7×(List b9)
 md:=[.ro,.ro]
 of:=oC (oA .bq) (o1 (oL .b_))
 ds:=fun x=>[dA .bq x.1,dL .b_ x.2]
 pre:=fun _=>[]
 bT:=fun(e,l)=>⟨[dA .aM (tI l e),dO (tJ l e)],[],[]⟩
 law:=lC (lA .bq) (l1 (lL .b_))
def ajo:Q5.α->Nat->Option (bY UU):=fun(e,l)=>aN []
def aek:=us [Wv,ahY,ahX]
theorem af6:Holds EE (201,Q5):=by
 refine holds_of ax func201 Q5 (by kernel_rfl) aek (aE _) ajo (fun x hp hb=> ?_)
 obtain⟨e,l⟩:=x
 have bi:=DG (x:=e) (hb _ m0)
 have L7:=bi.1
 have Ja:=bi.2.1
 have C6:=bi.2.2.1
 have I_:=bi.2.2.2.1
 have C5:=bi.2.2.2.2
 have gP:l.length<=9223372036854775807:=jO (hb _ m1)
 clear hp hb
 apply @ve _ (let x4:Int:=(cm {K:=e.L.K,S:=e.L.S,V:={K:=e.L.V.K,N:=e.L.V.N,S:=e.L.V.S:aQ}:cp} l).1.N;let x5:Int:=(cm {K:=e.R.K,S:=e.R.S,V:={K:=e.R.V.K,N:=e.R.V.N,S:=e.R.V.S:aQ}:cp} l).1.N;let x2:Int:=x4-x5;let x3:Int:=x4+x5;let x0:aQ:=mJ (cm {K:=e.L.K,S:=e.L.S,V:={K:=e.L.V.K,N:=e.L.V.N,S:=e.L.V.S:aQ}:cp} l).1 (cm {K:=e.R.K,S:=e.R.S,V:={K:=e.R.V.K,N:=e.R.V.N,S:=e.R.V.S:aQ}:cp} l).1 x2;let x1:aQ:=mJ (cm {K:=e.L.K,S:=e.L.S,V:={K:=e.L.V.K,N:=e.L.V.N,S:=e.L.V.S:aQ}:cp} l).1 (cm {K:=e.R.K,S:=e.R.S,V:={K:=e.R.V.K,N:=e.R.V.N,S:=e.R.V.S:aQ}:cp} l).1 x3;let q0:=Lf [DV.agg [CI 0,CI 0,CS ({data:= #[]:BA})],VB false] [DV.agg [CI ((tI l e).K),CI ((tI l e).N),CS ((tI l e).S)],VB (tJ l e)];let q1:=cm {K:=e.L.K,S:=e.L.S,V:={K:=e.L.V.K,N:=e.L.V.N,S:=e.L.V.S:aQ}:cp} l;let q2:=cm {K:=e.R.K,S:=e.R.S,V:={K:=e.R.V.K,N:=e.R.V.N,S:=e.R.V.S:aQ}:cp} l;let q3:=tI l e;bif !q1.2 then q0 else bif ByteArray.toList e.Op==ByteArray.toList {data:= #[]:BA} then Lf [DV.agg [CI (q1.1.K),CI x4,CS (q1.1.S)],VB true] [DV.agg [CI (q3.K),CI (q3.N),CS (q3.S)],VB (tJ l e)] else bif !q2.2 then q0 else bif ByteArray.toList e.Op==ByteArray.toList {data:= #[(43:UInt8)]:BA} then Lf [DV.agg [CI x1.K,CI x1.N,CS x1.S],VB (iM q1.1 q2.1 x3)] [DV.agg [CI (q3.K),CI (q3.N),CS (q3.S)],VB (tJ l e)] else bif ByteArray.toList e.Op==ByteArray.toList {data:= #[(45:UInt8)]:BA} then Lf [DV.agg [CI x0.K,CI x0.N,CS x0.S],VB (iM q1.1 q2.1 x2)] [DV.agg [CI (q3.K),CI (q3.N),CS (q3.S)],VB (tJ l e)] else q0) (by kernel_rfl)
 dsimp only
 have eL:(⟨e.L.K,e.L.S,⟨e.L.V.K,e.L.V.N,e.L.V.S⟩⟩:cp)=e.L:=rfl
 have eR:(⟨e.R.K,e.R.S,⟨e.R.V.K,e.R.V.N,e.R.V.S⟩⟩:cp)=e.R:=rfl
 simp only[eL,eR,bx]
 refine bO (fun h=> ?_) (fun h=>aU (fun h1=> ?_) (fun h1=>bO (fun h2=> ?_) (fun h2=>aU (fun h3=> ?_) (fun h3=>aU (fun h4=> ?_) (fun h4=> ?_)))))
 all_goals have hn:(cm e.L l).2=false->qd e l=(dx,false):=fun h=>if_pos h
 ·have e1:=hn h
  exact WZ (a:=dx) (congrArg Prod.fst e1).symm (congrArg Prod.snd e1).symm
 all_goals have h0:¬(cm e.L l).2=false:=by rw[h];decide
 ·have e1:qd e l=((cm e.L l).1,true):=(if_neg h0).trans (if_pos h1)
  exact WZ (congrArg Prod.fst e1).symm (congrArg Prod.snd e1).symm
 ·have e1:qd e l=(dx,false):=(if_neg h0).trans ((if_neg h1).trans (if_pos h2))
  exact WZ (a:=dx) (congrArg Prod.fst e1).symm (congrArg Prod.snd e1).symm
 all_goals have h5:¬(cm e.R l).2=false:=by rw[h2];decide
 ·have e1:qd e l=_:=(if_neg h0).trans ((if_neg h1).trans ((if_neg h5).trans (if_pos h3)))
  exact WZ (congrArg Prod.fst e1).symm (congrArg Prod.snd e1).symm
 ·have e1:qd e l=_:=(if_neg h0).trans ((if_neg h1).trans ((if_neg h5).trans ((if_neg h3).trans (if_pos h4))))
  exact WZ (congrArg Prod.fst e1).symm (congrArg Prod.snd e1).symm
 ·have e1:qd e l=(dx,false):=(if_neg h0).trans ((if_neg h1).trans ((if_neg h5).trans ((if_neg h3).trans (if_neg h4))))
  exact WZ (a:=dx) (congrArg Prod.fst e1).symm (congrArg Prod.snd e1).symm
def ah4:HH:=⟨_,af6⟩
def Rf:bp UU where
 α:=(List b7)×(List b9)
 md:=[.ro,.ro]
 of:=oC (oL .bq) (o1 (oL .b_))
 ds:=fun x=>[dL .bq x.1,dL .b_ x.2]
 pre:=fun(es,l)=>[es.length<=4294967295]
 bT:=fun(es,l)=>⟨[dL .aM (mz es l),dO (mA es l)],[],[]⟩
 law:=lC (lL .bq) (l1 (lL .b_))
def Bz(es:(List b7))(l:(List b9)):List aQ×Int×Unit->Prop:=fun(o,i,_)=>0<=i/\i<=es.length/\o=(es.take i.toNat).map (tI l)/\(es.drop i.toNat).all (tJ l)=es.all (tJ l)
def AY(es:(List b7))(l:(List b9)):List aQ×Int×Unit->Nat:=fun(o,i,_)=>es.length-i.toNat
def ajz:Rf.α->Nat->Option (bY UU):=fun(es,l)=>aN [(3,bh [.slot 6 (6,1024) (.own .aM true),.slot 7 (7,1024) (.lit (.int .i64))] (fun _=>Bz es l) (AY es l))]
def aev:=us [ah4]
theorem agf:Holds EE (190,Rf):=by
 refine holds_of ax func190 Rf (by kernel_rfl) aev (aE _) ajz (fun x hp hb=> ?_)
 obtain⟨es,l⟩:=x
 have ady:es.length<=9223372036854775807:=jO (hb _ m0)
 have gP:l.length<=9223372036854775807:=jO (hb _ m1)
 have bC:es.length<=4294967295:=hp _ m0
 clear hp hb
 apply @ve _ (Bz es l ([],0,())/\∀(y:List aQ×Int×PUnit),let x2:Nat:=y.2.1.toNat;let x1:b7:=List.getD es x2 fq;let x0:List aQ:=[tI l x1];let q0:=(y.1++x0,IntKind.wrap IntKind.i64 (y.2.1+1),());Bz es l y->bif decide (y.2.1<(es.length:Int)) then 0<=y.2.1/\x2<es.length/\bif !tJ l x1 then Lf [VL .aM [],VB false] [VL .aM (mz es l),VB (mA es l)] else y.1.length+x0.length<=4294967296/\Bz es l q0/\AY es l q0<AY es l y else Lf [VL .aM y.1,VB true] [VL .aM (mz es l),VB (mA es l)]) (by kernel_rfl)
 dsimp only
 refine⟨⟨by omega,by omega,by simp,rfl⟩,?_⟩
 rintro⟨o,i,⟨⟩⟩ ⟨h1,h2,rfl,hR⟩
 dsimp only
 refine aU (fun hc=> ?_) (fun hc=> ?_)
 ·rw[dE _ _ fq h1 hc] at hR
  refine⟨by omega,by omega,bO (fun g=> ?_) (fun g=> ?_)⟩
  ·have hf:mA es l=false:=by rw[mA,<-hR,show tJ l (List.getD es i.toNat fq)=false from g];rfl
   exact ak0 (by rw[mz,if_neg (by rw[hf];decide)];rfl) hf.symm
  ·rw[show tJ l (List.getD es i.toNat fq)=true from g,u_] at hR
   have hm:(es.take i.toNat).map (tI l)++[tI l (List.getD es i.toNat fq)]=(es.take (i+1).toNat).map (tI l):=by rw[<-fD es fq h1 hc,Kg];rfl
   rw[wrap_i64 (by omega) (by omega)]
   exact⟨by simp only[wv,oH,gv,fO];omega,⟨by omega,by omega,hm,hR⟩,by simp only[AY];omega⟩
 ·have e:es.drop i.toNat=[]:=List.drop_eq_nil_of_le (by omega)
  rw[e] at hR
  have hf:mA es l=true:=hR.symm
  rw[dB es (by omega)]
  exact ak0 (by rw[mz,if_pos hf]) hf.symm
def aic:HH:=⟨_,agf⟩
def uh(a b:aQ):Bool:=if a.K=b.K then(if a.N=b.N then Op.bytesLess a.S.toList b.S.toList else decide (a.N<b.N)) else decide (a.K<b.K)
def yN(l:List b9)(c:c_):Bool:=(cm c.L l).2&&(cm c.R l).2&&(if c.Op=1 then decide ((cm c.L l).1=(cm c.R l).1) else if c.Op=2 then !decide ((cm c.L l).1=(cm c.R l).1) else if c.Op=3 then uh (cm c.L l).1 (cm c.R l).1 else false)
def rK(cs:List c_)(l:List b9):Bool:=cs.all (yN l)
def kk(out:List b9)(a:cp)(v:aQ):Option (List b9):=
 if a.K=2 then(if a.V=v then some out else none) else if a.K=1 then(if(iL out a.S).2=true then(if(iL out a.S).1=v then some out else none) else some (out++[⟨a.S,v⟩])) else some out
def jb:List cp->List aQ->List b9->Option (List b9)
 |[],_,out=>some out
 |a::al,v::vs,out=>match kk out a v with|some o=>jb al vs o|none=>none
 |_::_,[],_=>none
def fu(p:cn)(f:aJ)(l:List b9):Option (List b9):=if f.Kind=p.Kind/\f.aj.length=p.ay.length then jb p.ay f.aj l else none
def PW(p:cn)(l:List b9)(x:bH):Bool:=(fu p x.F l).isSome
def zg(s:List bH)(l:List b9)(p:cn):Bool:=p.Not&&s.any (PW p l)
def pw(r:aV)(s:List bH)(l:List b9):Bool:=r.aB.any (zg s l)
theorem Ev{out:List b9}{a:cp}{v:aQ}{o:List b9}(h:kk out a v=some o):o.length<=out.length+1:=by
 simp only[kk] at h
 repeat' (split at h)
 all_goals first|(cases h;simp)|cases h
theorem vn:∀{al:List cp}{vs:List aQ}{out o:List b9},jb al vs out=some o->o.length<=out.length+al.length
 |[],_,out,o,h=>by simp only[jb,gx] at h;subst h;simp
 |a::al,v::vs,out,o,h=>by
  simp only[jb] at h
  split at h
  ·rename_i o' he
   have:=Ev he
   have:=vn h
   simp only[gv];omega
  ·cases h
 |_::_,[],_,_,h=>by simp[jb] at h
theorem CQ{p:cn}{f:aJ}{l o:List b9}(h:fu p f l=some o):o.length<=l.length+p.ay.length:=by
 simp only[fu] at h
 split at h
 ·exact vn h
 ·cases h
theorem CR{al:List cp}{vs:List aQ}(o:List b9){i:Int}(h0:0<=i)(h:i<al.length)(hl:vs.length=al.length):jb (al.drop i.toNat) (vs.drop i.toNat) o=match kk o (List.getD al i.toNat nW) (List.getD vs i.toNat dx) with|some o'=>jb (al.drop (i+1).toNat) (vs.drop (i+1).toNat) o'|none=>none:=by
 rw[eK al nW h0 h,eK vs dx h0 (by omega)];rfl
theorem UH{a b:aQ}{P Q:Prop}(h1:¬a=b->P)(h2:a=b->Q):bif !(a.K==b.K&&(a.N==b.N&&(ByteArray.toList a.S==ByteArray.toList b.S&&true))) then P else Q:=by
 rw[oy];exact bO (fun h=>h1 (yF h)) (fun h=>h2 (yT h))
theorem L0{a b:BA}{P Q:Prop}(h1:¬a=b->P)(h2:a=b->Q):bif !(ByteArray.toList a==ByteArray.toList b) then P else Q:=by
 rw[bx];exact bO (fun h=>h1 (yF h)) (fun h=>h2 (yT h))
def QW:bp UU where
 α:=aQ×aQ
 md:=[.ro,.ro]
 of:=oC (oA .aM) (o1 (oA .aM))
 ds:=fun x=>[dA .aM x.1,dA .aM x.2]
 pre:=fun _=>[]
 bT:=fun(a,b)=>⟨[dO (uh a b)],[],[]⟩
 law:=lC (lA .aM) (l1 (lA .aM))
def aje:QW.α->Nat->Option (bY UU):=fun(a,b)=>aN []
def aea:List (FuncId×bp UU):=[]
theorem afW:Holds EE (211,QW):=by
 refine holds_of ax func211 QW (by kernel_rfl) aea all_nil aje (fun x hp hb=> ?_)
 obtain⟨a,b⟩:=x
 have qu:=iW (x:=a) (hb _ m0)
 have K5:=iW (x:=b) (hb _ m1)
 clear hp hb
 apply @ve _ (bif a.K !=b.K then Lb (decide (a.K<b.K)) (uh a b) else bif a.N !=b.N then Lb (decide (a.N<b.N)) (uh a b) else Lb (Op.bytesLess (ByteArray.toList a.S) (ByteArray.toList b.S)) (uh a b)) (by kernel_rfl)
 refine n7 (fun h=>cj (if_neg h).symm) (fun h=>n7 (fun g=>cj ?_) (fun g=>cj ?_))
 ·exact((if_pos h).trans (if_neg g)).symm
 ·exact((if_pos h).trans (if_pos g)).symm
def ahW:HH:=⟨_,afW⟩
def Q1:bp UU where
 α:=c_×(List b9)
 md:=[.ro,.ro]
 of:=oC (oA .bL) (o1 (oL .b_))
 ds:=fun x=>[dA .bL x.1,dL .b_ x.2]
 pre:=fun _=>[]
 bT:=fun(c,l)=>⟨[dO (yN l c)],[],[]⟩
 law:=lC (lA .bL) (l1 (lL .b_))
def ajj:Q1.α->Nat->Option (bY UU):=fun(c,l)=>aN []
def aef:=us [Wv,ahW]
theorem af1:Holds EE (206,Q1):=by
 refine holds_of ax func206 Q1 (by kernel_rfl) aef (aE _) ajj (fun x hp hb=> ?_)
 obtain⟨c,l⟩:=x
 have bi:=DI (x:=c) (hb _ m0)
 have Jd:=bi.1
 have C8:=bi.2.1
 have Jc:=bi.2.2.1
 have C7:=bi.2.2.2
 have gP:l.length<=9223372036854775807:=jO (hb _ m1)
 clear hp hb
 apply @ve _ (let x0:Bool:=(cm {K:=c.L.K,S:=c.L.S,V:={K:=c.L.V.K,N:=c.L.V.N,S:=c.L.V.S:aQ}:cp} l).1.K==(cm {K:=c.R.K,S:=c.R.S,V:={K:=c.R.V.K,N:=c.R.V.N,S:=c.R.V.S:aQ}:cp} l).1.K&&((cm {K:=c.L.K,S:=c.L.S,V:={K:=c.L.V.K,N:=c.L.V.N,S:=c.L.V.S:aQ}:cp} l).1.N==(cm {K:=c.R.K,S:=c.R.S,V:={K:=c.R.V.K,N:=c.R.V.N,S:=c.R.V.S:aQ}:cp} l).1.N&&(ByteArray.toList (cm {K:=c.L.K,S:=c.L.S,V:={K:=c.L.V.K,N:=c.L.V.N,S:=c.L.V.S:aQ}:cp} l).1.S==ByteArray.toList (cm {K:=c.R.K,S:=c.R.S,V:={K:=c.R.V.K,N:=c.R.V.N,S:=c.R.V.S:aQ}:cp} l).1.S&&true));let q0:=cm {K:=c.L.K,S:=c.L.S,V:={K:=c.L.V.K,N:=c.L.V.N,S:=c.L.V.S:aQ}:cp} l;let q1:=cm {K:=c.R.K,S:=c.R.S,V:={K:=c.R.V.K,N:=c.R.V.N,S:=c.R.V.S:aQ}:cp} l;let q2:=yN l c;bif !q0.2 then Lb false q2 else bif !q1.2 then Lb false q2 else bif c.Op==1 then Lb x0 q2 else bif c.Op==2 then Lb (!x0) q2 else bif c.Op==3 then Lb (uh q0.1 q1.1) q2 else Lb false q2) (by kernel_rfl)
 dsimp only
 have eL:(⟨c.L.K,c.L.S,⟨c.L.V.K,c.L.V.N,c.L.V.S⟩⟩:cp)=c.L:=rfl
 have eR:(⟨c.R.K,c.R.S,⟨c.R.V.K,c.R.V.N,c.R.V.S⟩⟩:cp)=c.R:=rfl
 simp only[eL,eR,oy]
 refine bO (fun h=>cj ?_) (fun h=>bO (fun h1=>cj ?_) (fun h1=>bo (fun h2=>cj ?_) (fun h2=>bo (fun h3=>cj ?_) (fun h3=>bo (fun h4=>cj ?_) (fun h4=>cj ?_)))))
 all_goals (simp only[yN];grind)
def ahZ:HH:=⟨_,af1⟩
def Q7:bp UU where
 α:=(List c_)×(List b9)
 md:=[.ro,.ro]
 of:=oC (oL .bL) (o1 (oL .b_))
 ds:=fun x=>[dL .bL x.1,dL .b_ x.2]
 pre:=fun _=>[]
 bT:=fun(cs,l)=>⟨[dO (rK cs l)],[],[]⟩
 law:=lC (lL .bL) (l1 (lL .b_))
def Bt(cs:(List c_))(l:(List b9)):Int×Unit->Prop:=fun(i,_)=>0<=i/\i<=cs.length/\(cs.drop i.toNat).all (yN l)=rK cs l
def AT(cs:(List c_))(l:(List b9)):Int×Unit->Nat:=fun(i,_)=>cs.length-i.toNat
def ajq:Q7.α->Nat->Option (bY UU):=fun(cs,l)=>aN [(2,bh [.slot 5 (5,1024) (.lit (.int .i64))] (fun _=>Bt cs l) (AT cs l))]
def aem:=us [ahZ]
theorem af8:Holds EE (199,Q7):=by
 refine holds_of ax func199 Q7 (by kernel_rfl) aem (aE _) ajq (fun x hp hb=> ?_)
 obtain⟨cs,l⟩:=x
 have atY:cs.length<=9223372036854775807:=jO (hb _ m0)
 have gP:l.length<=9223372036854775807:=jO (hb _ m1)
 clear hp hb
 apply @ve _ (Bt cs l (0,())/\∀(y:Int×PUnit),let q0:=(IntKind.wrap IntKind.i64 (y.1+1),());Bt cs l y->bif decide (y.1<(cs.length:Int)) then 0<=y.1/\y.1.toNat<cs.length/\bif !yN l (List.getD cs y.1.toNat vc) then Lb false (rK cs l) else Bt cs l q0/\AT cs l q0<AT cs l y else Lb true (rK cs l)) (by kernel_rfl)
 dsimp only
 refine⟨⟨by omega,by omega,rfl⟩,?_⟩
 rintro⟨i,⟨⟩⟩ ⟨h1,h2,hR⟩
 simp only
 refine aU (fun hc=> ?_) (fun hc=> ?_)
 ·rw[dE _ _ vc h1 hc] at hR
  rw[wrap_i64 (by omega) (by omega)]
  refine⟨by omega,by omega,bO (fun g=>bw (by rw[<-hR,g];rfl)) (fun g=>⟨⟨by omega,by omega,by rw[<-hR,g,u_]⟩,by simp only[AT];omega⟩)⟩
 ·rw[cg _ (by omega)] at hR
  exact mV hR.symm
def ah5:HH:=⟨_,af8⟩
def Q6:bp UU where
 α:=cn×aJ×(List b9)
 md:=[.ro,.ro,.ro]
 of:=oC (oA .cU) (oC (oA .bP) (o1 (oL .b_)))
 ds:=fun x=>[dA .cU x.1,dA .bP x.2.1,dL .b_ x.2.2]
 pre:=fun(p,f,l)=>[l.length+p.ay.length<=4294967295]
 bT:=fun(p,f,l)=>⟨[dL .b_ ((fu p f l).getD l),dO ((fu p f l).isSome)],[],[]⟩
 law:=lC (lA .cU) (lC (lA .bP) (l1 (lL .b_)))
def sw(p:cn)(f:aJ)(l:(List b9)):List b9×Int×T8×T6×Unit->Prop:=fun(o,i,b,g,_)=>b=(p.Kind,p.ay,p.Not,())/\g=(f.Kind,f.aj,())/\0<=i/\i<=p.ay.length/\o.length<=l.length+i/\jb (p.ay.drop i.toNat) (f.aj.drop i.toNat) o=fu p f l
def nv(p:cn)(f:aJ)(l:(List b9)):List b9×Int×T8×T6×Unit->Nat:=fun(o,i,b,g,_)=>p.ay.length-i.toNat
def ajp:Q6.α->Nat->Option (bY UU):=fun(p,f,l)=>aN [(5,bh [.slot 8 (8,1024) (.own .b_ true),.slot 9 (9,1024) (.lit (.int .i64)),.box 3 (3,1024) [.lit .str,.shr .er,.lit .bool],.box 4 (4,1024) [.lit .str,.shr .aM]] (fun _=>sw p f l) (nv p f l))]
def ael:=us [Ww]
theorem af7:Holds EE (200,Q6):=by
 refine holds_of ax func200 Q6 (by kernel_rfl) ael (aE _) ajp (fun x hp hb=> ?_)
 obtain⟨p,f,l⟩:=x
 have bi:=AO (x:=p) (hb _ m0)
 have yO:=bi.1
 have yP:=bi.2
 have fg:=fB (x:=f) (hb _ m1)
 have gb:=fg.1
 have eh:=fg.2
 have gP:l.length<=9223372036854775807:=jO (hb _ m2)
 have bC:l.length+p.ay.length<=4294967295:=hp _ m0
 clear hp hb
 apply @ve _ (let q0:=Lf [VL .b_ ([]++l),VB false] [VL .b_ (Option.getD (fu p f l) l),VB (Option.isSome (fu p f l))];let q1:=(0:Nat)+l.length<=4294967296/\q0;0+l.length<=4294967296/\bif !ByteArray.toList p.Kind==ByteArray.toList f.Kind then q0 else bif (p.ay.length:Int) !=(f.aj.length:Int) then q0 else sw p f l ([]++l,0,(p.Kind,p.ay,p.Not,()),(f.Kind,f.aj,()),())/\∀(y:List b9×Int×T17×WW×PUnit),let x3:Nat:=y.2.1.toNat;let x5:Nat:=y.2.2.1.2.1.length;let x0:aQ:=List.getD y.2.2.2.1.2.1 x3 dx;let x2:cp:=List.getD y.2.2.1.2.1 x3 nW;let x4:Int:=(↑x5:Int);let x1:aQ:=x2.V;let q2:=bif x2.K==1 then bif !(iL {τ:=Cd.b_,xs:=y.1:iX UU}.xs x2.S).2 then 0<=y.2.1/\x3<y.2.2.2.1.2.1.length/\y.1.length+List.length [{Name:=x2.S,V:=x0:b9}]<=4294967296/\sw p f l (y.1++[{Name:=x2.S,V:=x0:b9}],IntKind.wrap IntKind.i64 (y.2.1+1),(y.2.2.1.1,y.2.2.1.2.1,y.2.2.1.2.2.1,()),(y.2.2.2.1.1,y.2.2.2.1.2.1,()),())/\nv p f l (y.1++[{Name:=x2.S,V:=x0:b9}],IntKind.wrap IntKind.i64 (y.2.1+1),(y.2.2.1.1,y.2.2.1.2.1,y.2.2.1.2.2.1,()),(y.2.2.2.1.1,y.2.2.2.1.2.1,()),())<nv p f l y else sw p f l (y.1,IntKind.wrap IntKind.i64 (y.2.1+1),(y.2.2.1.1,y.2.2.1.2.1,y.2.2.1.2.2.1,()),(y.2.2.2.1.1,y.2.2.2.1.2.1,()),())/\nv p f l (y.1,IntKind.wrap IntKind.i64 (y.2.1+1),(y.2.2.1.1,y.2.2.1.2.1,y.2.2.1.2.2.1,()),(y.2.2.2.1.1,y.2.2.2.1.2.1,()),())<nv p f l y else sw p f l (y.1,IntKind.wrap IntKind.i64 (y.2.1+1),(y.2.2.1.1,y.2.2.1.2.1,y.2.2.1.2.2.1,()),(y.2.2.2.1.1,y.2.2.2.1.2.1,()),())/\nv p f l (y.1,IntKind.wrap IntKind.i64 (y.2.1+1),(y.2.2.1.1,y.2.2.1.2.1,y.2.2.1.2.2.1,()),(y.2.2.2.1.1,y.2.2.2.1.2.1,()),())<nv p f l y;let q3:=bif x2.K==1 then bif (iL {τ:=Cd.b_,xs:=y.1:iX UU}.xs x2.S).2 then 0<=y.2.1/\x3<y.2.2.2.1.2.1.length/\bif !((iL {τ:=Cd.b_,xs:=y.1:iX UU}.xs x2.S).1.K==x0.K&&((iL {τ:=Cd.b_,xs:=y.1:iX UU}.xs x2.S).1.N==x0.N&&(ByteArray.toList (iL {τ:=Cd.b_,xs:=y.1:iX UU}.xs x2.S).1.S==ByteArray.toList x0.S&&true))) then q1 else q2 else q2 else q2;sw p f l y->bif decide (y.2.1<x4) then 0<=y.2.1/\x3<x5/\bif x2.K==2 then 0<=y.2.1/\x3<y.2.2.2.1.2.1.length/\bif !(x1.K==x0.K&&(x1.N==x0.N&&(ByteArray.toList x1.S==ByteArray.toList x0.S&&true))) then q1 else q3 else q3 else Lf [VL .b_ y.1,VB true] [VL .b_ (Option.getD (fu p f l) l),VB (Option.isSome (fu p f l))]) (by kernel_rfl)
 dsimp only
 have hF:fu p f l=none->Lf [.one (.sl .b_ l),.one (.lit (.bool false))] [.one (.sl .b_ ((fu p f l).getD l)),.one (.lit (.bool (fu p f l).isSome))]:=fun e=>by rw[e];exact bN _
 refine⟨by show 0+l.length<=_;omega,L0 (fun hk=>hF (if_neg (fun e=>hk e.1.symm))) (fun hk=>n7 (fun hl=>hF (if_neg (by omega))) (fun hl=> ?_))⟩
 have hl:f.aj.length=p.ay.length:=by omega
 have hM:fu p f l=jb p.ay f.aj l:=if_pos ⟨hk.symm,hl⟩
 refine⟨⟨rfl,rfl,by omega,by omega,by show((l.length:Nat):Int)<=_;omega,hM.symm⟩,?_⟩
 rintro⟨o,i,⟨b1,b2,b3,⟨⟩⟩,⟨g1,g2,⟨⟩⟩,⟨⟩⟩
 rintro⟨hb,hg,h1,h2,h3,hR⟩
 cases hb
 cases hg
 refine aU (fun hc=> ?_) (fun hc=> ?_)
 ·have hc:i<p.ay.length:=hc
  rw[CR o h1 hc hl] at hR
  have hN:kk o (List.getD p.ay i.toNat nW) (List.getD f.aj i.toNat dx)=none->fu p f l=none:=fun e=>by rw[<-hR,e]
  have hS:∀o',kk o (List.getD p.ay i.toNat nW) (List.getD f.aj i.toNat dx)=some o'->jb (p.ay.drop (i+1).toNat) (f.aj.drop (i+1).toNat) o'=fu p f l:=fun o' e=>by rw[<-hR,e]
  clear hR
  have hs:∀o',o'.length<=o.length+1->kk o (List.getD p.ay i.toNat nW) (List.getD f.aj i.toNat dx)=some o'->sw p f l (o',IntKind.wrap .i64 (i+1),(p.Kind,p.ay,p.Not,()),(f.Kind,f.aj,()),())/\nv p f l (o',IntKind.wrap .i64 (i+1),(p.Kind,p.ay,p.Not,()),(f.Kind,f.aj,()),())<nv p f l (o,i,(p.Kind,p.ay,p.Not,()),(f.Kind,f.aj,()),()):=fun o' h4 e=>by
   rw[wrap_i64 (by omega) (by omega)]
   exact⟨⟨rfl,rfl,by omega,by omega,by omega,hS o' e⟩,by simp only[nv];omega⟩
  clear hS
  have q1:(0:Int)<=i/\i.toNat<p.ay.length:=by omega
  have q2:(0:Int)<=i/\i.toNat<f.aj.length:=by omega
  have q3:l.length<=4294967296:=by omega
  have q4:o.length+1<=4294967296:=by omega
  have q5:(0:Nat)+l.length<=4294967296:=by omega
  refine⟨q1.1,q1.2,?_⟩
  repeat' (first|refine And.intro q2.1 (And.intro q2.2 ?_)|refine And.intro q5 ?_|refine And.intro q4 ?_|refine bo (fun _=> ?_) (fun _=> ?_)|refine UH (fun _=> ?_) (fun _=> ?_)|refine bO (fun _=> ?_) (fun _=> ?_)|refine af (fun _=> ?_) (fun _=> ?_))
  all_goals first|exact hF (hN (by(try simp only at*);simp only[kk];grind))|exact hs _ (by simp) (by(try simp only at*);simp only[kk];grind)
 ·rw[cg p.ay (by have hc:¬i<p.ay.length:=hc;omega)] at hR
  have hR:fu p f l=some o:=hR.symm
  rw[hR];exact bN _
def Wx:HH:=⟨_,af7⟩
def Q8:bp UU where
 α:=aV×aG×(List b9)
 md:=[.ro,.ro,.ro]
 of:=oC (oA .a_) (oC (oA .bV) (o1 (oL .b_)))
 ds:=fun x=>[dA .a_ x.1,dA .bV x.2.1,dL .b_ x.2.2]
 pre:=fun(r,s,l)=>[∀p,p∈r.aB->l.length+p.ay.length<=4294967295]
 bT:=fun(r,s,l)=>⟨[dO (pw r s.ab l)],[],[]⟩
 law:=lC (lA .a_) (lC (lA .bV) (l1 (lL .b_)))
def xU(r:aV)(s:aG)(l:(List b9)):Int×T0×T4×Unit->Prop:=fun(i,b,g,_)=>b=(r.Name,r.jP,r.aB,r.aY,r.bG,())/\g=(s.ab,s.Next,())/\0<=i/\i<=r.aB.length/\(r.aB.drop i.toNat).any (zg s.ab l)=pw r s.ab l
def uP(r:aV)(s:aG)(l:(List b9)):Int×T0×T4×Unit->Nat:=fun(i,b,g,_)=>r.aB.length-i.toNat
def Bu(r:aV)(s:aG)(l:(List b9)):Int×Int×T0×T4×Unit->Int×Int×T0×T4×Unit->Prop:=fun(i0,k0,b0,g0,_) (i,k,b,g,_)=>i=i0/\b=b0/\g=g0/\0<=k/\k<=s.ab.length/\((List.getD r.aB i.toNat dy).Not=false->k=0)/\(s.ab.drop k.toNat).any (PW (List.getD r.aB i.toNat dy) l)=s.ab.any (PW (List.getD r.aB i.toNat dy) l)
def AU(r:aV)(s:aG)(l:(List b9)):Int×Int×T0×T4×Unit->Nat:=fun(i,k,b,g,_)=>s.ab.length-k.toNat
def ajr:Q8.α->Nat->Option (bY UU):=fun(r,s,l)=>aN [(2,bh [.slot 7 (7,1024) (.lit (.int .i64)),.box 3 (3,1024) [.lit .str,.lit (.int .i64),.shr .cU,.shr .bL,.shr .cV],.box 4 (4,1024) [.shr .aX,.lit (.int .i64)]] (fun _=>xU r s l) (uP r s l)),(5,bh [.slot 7 (7,1024) (.lit (.int .i64)),.slot 8 (8,1024) (.lit (.int .i64)),.box 3 (3,1024) [.lit .str,.lit (.int .i64),.shr .cU,.shr .bL,.shr .cV],.box 4 (4,1024) [.shr .aX,.lit (.int .i64)]] (Bu r s l) (AU r s l))]
def aen:=us [Wx]
theorem af9:Holds EE (198,Q8):=by
 refine holds_of ax func198 Q8 (by kernel_rfl) aen (aE _) ajr (fun x hp hb=> ?_)
 obtain⟨r,s,l⟩:=x
 have bi:=ke (x:=r) (hb _ m0)
 have im:=bi.1
 have il:=bi.2.1
 have gI:=bi.2.2.1
 have io:=bi.2.2.2
 have ga:=l6 (x:=s) (hb _ m1)
 have gP:l.length<=9223372036854775807:=jO (hb _ m2)
 have bC:∀p,p∈r.aB->l.length+p.ay.length<=4294967295:=hp _ m0
 clear hp hb
 apply @ve _ (let q0:=BA×Int×List cn×List c_×List eX×PUnit;xU r s l (0,(r.Name,r.jP,r.aB,r.aY,r.bG,()),(s.ab,s.Next,()),())/\∀(y:Int×q0×Oi×PUnit),let x0:Int:=(y.2.1.2.2.1.length:Int);let q1:=(y.1,0,(y.2.1.1,y.2.1.2.1,y.2.1.2.2.1,y.2.1.2.2.2.1,y.2.1.2.2.2.2.1,()),(y.2.2.1.1,y.2.2.1.2.1,()),());xU r s l y->bif decide (y.1<x0) then Bu r s l q1 q1/\∀(aS:Int×Int×q0×Oi×PUnit),let x1:cn:=List.getD aS.2.2.1.2.2.1 aS.1.toNat dy;let x3:Nat:=aS.2.2.2.1.1.length;let x4:Nat:=aS.2.1.toNat;let x2:Int:=(↑x3:Int);let q2:=(IntKind.wrap IntKind.i64 (aS.1+1),(aS.2.2.1.1,aS.2.2.1.2.1,aS.2.2.1.2.2.1,aS.2.2.1.2.2.2.1,aS.2.2.1.2.2.2.2.1,()),(aS.2.2.2.1.1,aS.2.2.2.1.2.1,()),());let q3:=(aS.1,IntKind.wrap IntKind.i64 (aS.2.1+1),(aS.2.2.1.1,aS.2.2.1.2.1,aS.2.2.1.2.2.1,aS.2.2.1.2.2.2.1,aS.2.2.1.2.2.2.2.1,()),(aS.2.2.2.1.1,aS.2.2.2.1.2.1,()),());let q4:=xU r s l q2/\uP r s l q2<uP r s l y;Bu r s l q1 aS->bif decide (aS.2.1<x2) then 0<=aS.1/\aS.1.toNat<aS.2.2.1.2.2.1.length/\bif x1.Not then 0<=aS.1/\aS.1.toNat<aS.2.2.1.2.2.1.length/\0<=aS.2.1/\x4<x3/\l.length+x1.ay.length<=4294967295/\bif Option.isSome (fu x1 (List.getD aS.2.2.2.1.1 x4 bg).F l) then Lb true (pw r s.ab l) else Bu r s l q1 q3/\AU r s l q3<AU r s l aS else q4 else q4 else Lb false (pw r s.ab l)) (by kernel_rfl)
 dsimp only
 refine⟨⟨rfl,rfl,by omega,by omega,rfl⟩,?_⟩
 rintro⟨i,⟨b1,b2,b3,b4,b5,⟨⟩⟩,⟨g1,g2,⟨⟩⟩,⟨⟩⟩ ⟨hb,hg,h1,h2,hR⟩
 cases hb
 cases hg
 simp only
 refine aU (fun hc=> ?_) (fun hc=> ?_)
 ·rw[xI _ _ dy h1 hc] at hR
  have hm:List.getD r.aB i.toNat dy∈r.aB:=by rw[eY,fo (by omega)];exact Ed _
  have hp:=bC _ hm
  refine⟨⟨rfl,rfl,rfl,by omega,by omega,fun _=>rfl,rfl⟩,?_⟩
  rintro⟨i',k,⟨b1,b2,b3,b4,b5,⟨⟩⟩,⟨g1,g2,⟨⟩⟩,⟨⟩⟩ ⟨rfl,hb,hg,k1,k2,k3,kR⟩
  cases hb
  cases hg
  simp only
  have next:zg s.ab l (List.getD r.aB i'.toNat dy)=false->xU r s l (IntKind.wrap IntKind.i64 (i'+1),(r.Name,r.jP,r.aB,r.aY,r.bG,()),(s.ab,s.Next,()),())/\uP r s l (IntKind.wrap IntKind.i64 (i'+1),(r.Name,r.jP,r.aB,r.aY,r.bG,()),(s.ab,s.Next,()),())<uP r s l (i',(r.Name,r.jP,r.aB,r.aY,r.bG,()),(s.ab,s.Next,()),()):=fun e=>by
   rw[wrap_i64 (by omega) (by omega)]
   exact⟨⟨rfl,rfl,by omega,by omega,by rw[<-hR,e,FT]⟩,by simp only[uP];omega⟩
  refine aU (fun hk=>⟨by omega,by omega,af (fun g=>⟨by omega,by omega,by omega,by omega,hp,af (fun g'=>mV ?_) (fun g'=> ?_)⟩) (fun g=>next (by rw[zg,g];rfl))⟩) (fun hk=>next ?_)
  ·rw[xI _ _ bg k1 hk,show PW (List.getD r.aB i'.toNat dy) l (List.getD s.ab k.toNat bg)=true from g'] at kR
   rw[<-hR,zg,g,<-kR];rfl
  ·rw[xI _ _ bg k1 hk,show PW (List.getD r.aB i'.toNat dy) l (List.getD s.ab k.toNat bg)=false from g',FT] at kR
   rw[wrap_i64 (n:=k+1) (by omega) (by omega)]
   exact⟨⟨rfl,rfl,rfl,by omega,by omega,fun e=>absurd g (by rw[e];decide),kR⟩,by simp only[AU];omega⟩
  ·rw[cg _ (by omega)] at kR
   rw[zg,<-kR];exact va _
 ·rw[cg _ (by omega)] at hR
  exact bw hR.symm
def ah6:HH:=⟨_,af9⟩
def l9(r:aV):List cn:=r.aB.filter fun p=> !p.Not
def oV(r:aV)(s:List bH):List cn->List Int->List b9->List av
 |[],ids,l=>if(!pw r s l&&rK r.aY l)=true then[⟨0,ids,l⟩] else[]
 |p::ps,ids,l=>s.flatMap fun x=>match fu p x.F l with|some more=>oV r s ps (ids++[x.Id]) more|none=>[]
def j7(r:aV)(s:List bH)(ids:List Int)(l:List b9):List av:=oV r s ((l9 r).drop ids.length) ids l
def oW(r:aV)(s:List bH)(ids:List Int)(l:List b9)(x:bH):List av:=match fu (List.getD (l9 r) ids.length dy) x.F l with|some more=>j7 r s (ids++[x.Id]) more|none=>[]
theorem Kv{r:aV}(s:List bH){ids:List Int}(l:List b9)(h:ids.length=cH r.aB):j7 r s ids l=if(!pw r s l&&rK r.aY l)=true then[⟨0,ids,l⟩] else[]:=by
 have e:(l9 r).drop ids.length=[]:=List.drop_eq_nil_of_le (by rw[h];exact s_ _)
 simp only[j7,e,oV]
theorem zJ{r:aV}(s:List bH){ids:List Int}(l:List b9)(h:ids.length<cH r.aB):j7 r s ids l=s.flatMap (oW r s ids l):=by
 have h:ids.length<(l9 r).length:=h
 have e:(l9 r).drop ids.length=List.getD (l9 r) ids.length dy::(l9 r).drop (ids.length+1):=by
  rw[S9 h,eY,fo h];rfl
 simp only[j7,e,oV]
 congr 1
 funext x
 simp only[oW,j7,kg,gv,fO,tY]
theorem Jp{α β:Type}(q:α->List β)(l:List α)(z:α){i:Int}(h0:0<=i)(h:i<l.length):(l.take (i+1).toNat).flatMap q=(l.take i.toNat).flatMap q++q (List.getD l i.toNat z):=by
 rw[<-fD l z h0 h,S8];simp
theorem Qj{α β:Type}(q:α->List β)(l:List α)(n:Nat):((l.take n).flatMap q).length<=(l.flatMap q).length:=by
 conv=>rhs;rw[<-Tr n l,S8,kg]
 exact Nat.le_add_right _ _
theorem y5{α β:Type}(q:α->List β)(c:Nat):∀(l:List α),(∀x,x∈l->(q x).length<=c)->(l.flatMap q).length<=l.length*c
 |[],_=>by simp
 |x::l,h=>by
  have h1:=h x (by simp)
  have h2:=y5 q c l (fun y hy=>h y (by simp[hy]))
  rw[yh,kg,gv,Nat.succ_mul];omega
theorem yz(r:aV)(s:List bH):∀(ps:List cn)(ids:List Int)(l:List b9),(oV r s ps ids l).length<=s.length^ps.length
 |[],ids,l=>by simp only[oV];split<;>simp
 |p::ps,ids,l=>by
  simp only[oV,gv,Nat.pow_succ]
  rw[Tl]
  refine y5 _ _ _ (fun x _=> ?_)
  split
  ·exact yz r s ps _ _
  ·simp
structure tp(r:aV)(s:List bH)(n:Nat)(ids:List Int)(l:List b9):Prop where
 le:ids.length<=cH r.aB
 three:cH r.aB<=3
 eZ:r.aB.length<=6
 args:∀p,p∈r.aB->p.ay.length<=5
 items:s.length<=40
 binds:l.length<=5*ids.length
 room:n+(j7 r s ids l).length<=4294967295
theorem II{r:aV}{k:Nat}(h:k<cH r.aB):List.getD (l9 r) k dy∈r.aB:=by
 have h:k<(l9 r).length:=h
 rw[eY,fo h]
 exact(wA.1 (Ed h)).1
theorem Ir{r:aV}{s:List bH}{n:Nat}{ids:List Int}{l more:List b9}{i:Int}(h:tp r s n ids l)(hk:ids.length<cH r.aB)(h0:0<=i)(hi:i<s.length)(hm:fu (List.getD (l9 r) ids.length dy) (List.getD s i.toNat bg).F l=some more):tp r s (n+((s.take i.toNat).flatMap (oW r s ids l)).length) (ids++[(List.getD s i.toNat bg).Id]) more where
 le:=by rw[kg];simp only[gv,fO];omega
 three:=h.three
 eZ:=h.eZ
 args:=h.args
 items:=h.items
 binds:=by
  have h1:=CQ hm
  have h2:=h.args _ (II hk)
  have h3:=h.binds
  rw[kg];simp only[gv,fO];omega
 room:=by
  have h1:=h.room
  rw[zJ s l hk] at h1
  have h2:=Qj (oW r s ids l) s (i+1).toNat
  rw[Jp _ s bg h0 hi,kg] at h2
  have e:oW r s ids l (List.getD s i.toNat bg)=j7 r s (ids++[(List.getD s i.toNat bg).Id]) more:=by simp only[oW,hm]
  rw[e] at h2;omega
theorem LW{a b:List av}(h:a=b):ap [DV.box [.sl .az a]]=ap [DV.box [.sl .az b]]:=by subst h;rfl
theorem Kt{r:aV}{s:List bH}{ids:List Int}{l more:List b9}{x:bH}(hm:fu (List.getD (l9 r) ids.length dy) x.F l=some more):oW r s ids l x=j7 r s (ids++[x.Id]) more:=by simp only[oW,hm]
theorem Ku{r:aV}{s:List bH}{ids:List Int}{l:List b9}{x:bH}(hm:fu (List.getD (l9 r) ids.length dy) x.F l=none):oW r s ids l x=[]:=by simp only[oW,hm]
def jG(r:aV)(s:List bH):List av:=j7 r s [] []
def LN(i:Int)(m:av):av:=⟨i,m.eJ,m.cr⟩
def JW(rs:List aV)(s:List bH)(n:Nat):List av:=(List.range n).flatMap fun i=>(jG (List.getD rs i ct) s).map (LN i)
def allM(rs:List aV)(s:List bH):List av:=JW rs s rs.length
theorem N5(rs:List aV)(s:List bH){i:Int}(h0:0<=i):JW rs s (i+1).toNat=JW rs s i.toNat++(jG (List.getD rs i.toNat ct) s).map (LN i):=by
 have e:(i+1).toNat=i.toNat+1:=by omega
 have e2:((i.toNat:Nat):Int)=i:=by omega
 rw[e]
 simp only[JW,List.range_succ,S8,yh,zen,ww,e2]
structure me(r:aV):Prop where
 three:cH r.aB<=3
 eZ:r.aB.length<=6
 args:∀p,p∈r.aB->p.ay.length<=5
def nb(r:aV):Prop:=∀k,k<cH r.aB->List.getD r.aB k dy=List.getD (l9 r) k dy
theorem KS{r:aV}{s:List bH}(h:me r)(hs:s.length<=40):tp r s 0 [] [] where
 le:=Nat.zero_le _
 three:=h.three
 eZ:=h.eZ
 args:=h.args
 items:=hs
 binds:=Nat.zero_le _
 room:=by
  have h1:=yz r s (l9 r) [] []
  have h2:(l9 r).length<=3:=h.three
  have h3:s.length^(l9 r).length<=40^3:=wu (Nat.pow_le_pow_left hs _) (Nat.pow_le_pow_right (by omega) h2)
  show 0+(oV r s (l9 r) [] []).length<=_
  have:(40:Nat)^3=64000:=rfl
  omega
theorem zR{r:aV}{s:List bH}(h:me r)(hs:s.length<=40):(jG r s).length<=64000:=by
 have h1:=yz r s (l9 r) [] []
 have h2:(l9 r).length<=3:=h.three
 have h3:s.length^(l9 r).length<=40^3:=wu (Nat.pow_le_pow_left hs _) (Nat.pow_le_pow_right (by omega) h2)
 show(oV r s (l9 r) [] []).length<=_
 have:(40:Nat)^3=64000:=rfl
 omega
theorem gQ{α:Type}{l:List α}{z:α}{i:Nat}(h:i<l.length):List.getD l i z∈l:=by
 rw[eY,fo h];exact Ed _
theorem QO{rs:List aV}{s:List bH}(h:∀r,r∈rs->me r)(hs:s.length<=40){n:Nat}(hn:n<=rs.length):(JW rs s n).length<=n*64000:=by
 have:=y5 (fun i:Nat=>(jG (List.getD rs i ct) s).map (LN i)) 64000 (List.range n) (fun x hx=>by
  rw[wv];exact zR (h _ (gQ (by have:=oN.1 hx;omega))) hs)
 rwa[List.length_range] at this
theorem mod_self{α:Type}{l:List α}{k:Nat}(f:α->α){z:α}(h:k<l.length):List.getD (l.modify k f) k z=f (List.getD l k z):=by
 rw[eY,eY,W1,fo h];simp
theorem Yd{α:Type}{l:List α}{k j:Nat}(f:α->α){z:α}(h:k≠j):List.getD (l.modify k f) j z=List.getD l j z:=by
 rw[eY,eY,W1];simp[h]
theorem zc{dd:Nat->Bool}{k:Int}(h0:0<=k)(h:∀j:Nat,k<=(j:Int)->dd j=false):∀j:Nat,k+1<=(j:Int)->(Nat.beq j k.toNat||dd j)=false:=fun j hj=>by
 rw[h j (by omega),W2,<-yi,Lx];omega
def J2:bp UU where
 α:=(List av)×aV×aG×(List Int)×(List b9)
 md:=[.box true,.ro,.ro,.ro,.ro]
 of:=fun|[.box [.sl .az a0],.agg [.lit (.string a1),.lit (.int .i64 a2),.sl .cU a3,.sl .bL a4,.sl .cV a5],.agg [.sl .aX a6,.lit (.int .i64 a7)],.one (.sl .int a8),.one (.sl .b_ a9)]=>some (a0,⟨a1,a2,a3,a4,a5⟩,⟨a6,a7⟩,a8,a9)|_=>none
 ds:=fun(out,r,s,ids,l)=>[.box [.sl .az out],.agg [.lit (.string r.Name),.lit (.int .i64 r.jP),.sl .cU r.aB,.sl .bL r.aY,.sl .cV r.bG],.agg [.sl .aX s.ab,.lit (.int .i64 s.Next)],.one (.sl .int ids),.one (.sl .b_ l)]
 pre:=fun(out,r,s,ids,l)=>[tp r s.ab out.length ids l,nb r]
 bT:=fun(out,r,s,ids,l)=>⟨[],[],[.box [.sl .az (out++j7 r s.ab ids l)]]⟩
 law:=by intro l x h;(try simp only at h);split at h<;>cases h;rfl
def sz(out:(List av))(r:aV)(s:aG)(ids:(List Int))(l:(List b9)):Int×T0×T4×(List av×Unit)×Unit->Prop:=fun(i,b,g,o,_)=>b=(r.Name,r.jP,r.aB,r.aY,r.bG,())/\g=(s.ab,s.Next,())/\0<=i/\i<=s.ab.length/\o=(out++(s.ab.take i.toNat).flatMap (oW r s.ab ids l),())
def xQ(out:(List av))(r:aV)(s:aG)(ids:(List Int))(l:(List b9)):Int×T0×T4×(List av×Unit)×Unit->Nat:=fun(i,b,g,o,_)=>s.ab.length-i.toNat
def ajB:J2.α->Nat->Option (bY UU):=fun(out,r,s,ids,l)=>aN [(5,bh [.slot 10 (10,1024) (.lit (.int .i64)),.box 6 (6,1024) [.lit .str,.lit (.int .i64),.shr .cU,.shr .bL,.shr .cV],.box 7 (7,1024) [.shr .aX,.lit (.int .i64)],.box 0 (2000000,0) [.own .az true]] (fun _=>sz out r s ids l) (xQ out r s ids l))]
def FQ:(List av)×aV×aG×(List Int)×(List b9)->Nat:=fun(out,r,s,ids,l)=>cH r.aB-ids.length
def aex(rn:Nat):List (FuncId×bp UU):=(188,J2.below FQ rn)::us [SJ,ah6,ah5,Wx]
theorem agi:Holds EE (188,J2):=by
 refine Fg (k:=J2) func188 (by kernel_rfl) FQ (fun rn ih=> ?_)
 refine holds_of ax func188 (J2.below FQ (rn+1)) (by kernel_rfl) (aex rn) (all_cons ih (aE _)) ajB (fun x hp hb=> ?_)
 obtain⟨out,r,s,ids,l⟩:=x
 have PM:FQ (out,r,s,ids,l)<rn+1:=hp _ gj
 have Ze:gB (U:=UU) (.box [.sl .az out]):=hb _ (gj)
 have aoe:out.length<=9223372036854775807:=Bd.len (U:=UU) (τ:=.az) (xs:=out) (Ze _ (by simp))
 have GN:gB (U:=UU) (.agg [.lit (.string r.Name),.lit (.int .i64 r.jP),.sl .cU r.aB,.sl .bL r.aY,.sl .cV r.bG]):=hb _ (cA _ (gj))
 have im:r.Name.size<=9223372036854775807:=Bd.str (GN _ (by simp))
 have il:r.aB.length<=9223372036854775807:=Bd.len (U:=UU) (τ:=.cU) (xs:=r.aB) (GN _ (by simp))
 have gI:r.aY.length<=9223372036854775807:=Bd.len (U:=UU) (τ:=.bL) (xs:=r.aY) (GN _ (by simp))
 have io:r.bG.length<=9223372036854775807:=Bd.len (U:=UU) (τ:=.cV) (xs:=r.bG) (GN _ (by simp))
 have aov:gB (U:=UU) (.agg [.sl .aX s.ab,.lit (.int .i64 s.Next)]):=hb _ (cA _ (cA _ (gj)))
 have ga:s.ab.length<=9223372036854775807:=Bd.len (U:=UU) (τ:=.aX) (xs:=s.ab) (aov _ (by simp))
 have Zf:gB (U:=UU) (.one (.sl .int ids)):=hb _ (cA _ (cA _ (cA _ (gj))))
 have aog:ids.length<=9223372036854775807:=Bd.len Zf
 have aow:gB (U:=UU) (.one (.sl .b_ l)):=hb _ (cA _ (cA _ (cA _ (cA _ (gj)))))
 have gP:l.length<=9223372036854775807:=Bd.len aow
 have bC:tp r s.ab out.length ids l:=hp _ (cA _ (gj))
 have fT:nb r:=hp _ (cA _ (cA _ (gj)))
 clear hp hb
 apply @ve _ (let x1:List Int:=[]++ids;let x0:List av:=[{cN:=(0:Int),eJ:=x1,cr:=[]++l:av}];let q0:=(0:Nat)=(0:Nat)/\ap []=ap []/\ap [DV.box [CL .az out]]=ap [DV.box [CL .az (out++j7 r s.ab ids l)]];let q1:=(ids.length:Int);bif q1==(↑(cH r.aB):Int) then(∀(p:cn),p∈r.aB->l.length+p.ay.length<=4294967295)/\bif !pw r s.ab l then bif rK r.aY l then 0+ids.length<=4294967296/\0+l.length<=4294967296/\out.length+x0.length<=4294967296/\(0:Nat)=(0:Nat)/\ap []=ap []/\ap [DV.box [CL .az (out++x0)]]=ap [DV.box [CL .az (out++j7 r s.ab ids l)]] else q0 else q0 else sz out r s ids l (0,(r.Name,r.jP,r.aB,r.aY,r.bG,()),(s.ab,s.Next,()),(out,()),())/\∀(y:Int×WY×Oi×(List av×PUnit)×PUnit),let x2:aV:={Name:=y.2.1.1,jP:=y.2.1.2.1,aB:=y.2.1.2.2.1,aY:=y.2.1.2.2.2.1,bG:=y.2.1.2.2.2.2.1:aV};let x6:bH:=List.getD y.2.2.1.1 y.1.toNat bg;let x8:Nat:=y.2.2.1.1.length;let x9:cn:=List.getD y.2.1.2.2.1 (Int.toNat q1) dy;let x3:List b9:=Option.getD (fu x9 x6.F l) l;let x5:List Int:=[x6.Id];let x7:Int:=(↑x8:Int);let x4:List Int:=x1++x5;let q2:=(y.2.1.1,y.2.1.2.1,y.2.1.2.2.1,y.2.1.2.2.2.1,y.2.1.2.2.2.2.1,());let q3:=(IntKind.wrap IntKind.i64 (y.1+1),q2,(y.2.2.1.1,y.2.2.1.2.1,()),(y.2.2.2.1.1++j7 x2 y.2.2.1.1 x4 x3,()),());let q4:=(IntKind.wrap IntKind.i64 (y.1+1),q2,(y.2.2.1.1,y.2.2.1.2.1,()),(y.2.2.2.1.1,()),());sz out r s ids l y->bif decide (y.1<x7) then 0<=q1/\Int.toNat q1<y.2.1.2.2.1.length/\0<=y.1/\y.1.toNat<x8/\l.length+x9.ay.length<=4294967295/\bif Option.isSome (fu x9 x6.F l) then 0+ids.length<=4294967296/\0<=y.1/\y.1.toNat<x8/\x1.length+x5.length<=4294967296/\FQ (y.2.2.2.1.1,x2,{ab:=y.2.2.1.1,Next:=y.2.2.1.2.1:aG},x4,x3)<rn/\tp x2 y.2.2.1.1 (y.2.2.2.1.1.length) x4 x3/\nb x2/\sz out r s ids l q3/\xQ out r s ids l q3<xQ out r s ids l y else sz out r s ids l q4/\xQ out r s ids l q4<xQ out r s ids l y else(0:Nat)=(0:Nat)/\ap []=ap []/\ap [DV.box [CL .az y.2.2.2.1.1]]=ap [DV.box [CL .az (out++j7 r s.ab ids l)]]) (by kernel_rfl)
 dsimp only
 simp only[FQ] at PM
 have hle:=bC.le
 have h3:=bC.three
 have hpt:=bC.eZ
 have hbd:=bC.binds
 have hA:∀p,p∈r.aB->l.length+p.ay.length<=4294967295:=fun p hm=>by have:=bC.args p hm;omega
 have hrm:=bC.room
 have AA:(l9 r).length=cH r.aB:=rfl
 have hpn:cH r.aB<=r.aB.length:=Kh _ _
 refine bo (fun h=>⟨hA,?_⟩) (fun h=> ?_)
 ·have h:ids.length=cH r.aB:=by omega
  have e:=Kv s.ab l h
  have q1:(0:Nat)+ids.length<=4294967296:=by omega
  have q2:(0:Nat)+l.length<=4294967296:=by omega
  refine bO (fun g=>af (fun g'=>⟨q1,q2,?_,rfl,by trivial,LW ?_⟩) (fun g'=>⟨rfl,by trivial,LW ?_⟩)) (fun g=>⟨rfl,by trivial,LW ?_⟩)
  ·rw[e,g,g'] at hrm;simp at hrm;simp only[gv,fO];omega
  ·rw[e,g,g'];rfl
  ·rw[e,g,g'];simp
  ·rw[e,g];simp
 ·have h:ids.length<cH r.aB:=by omega
  have e:=zJ s.ab l h
  refine⟨⟨rfl,rfl,by omega,by omega,by simp⟩,?_⟩
  rintro⟨i,⟨b1,b2,b3,b4,b5,⟨⟩⟩,⟨g1,g2,⟨⟩⟩,⟨o,⟨⟩⟩,⟨⟩⟩ ⟨hb,hg,h1,h2,ho⟩
  cases hb
  cases hg
  cases ho
  refine aU (fun hc=> ?_) (fun hc=>⟨by trivial,by trivial,LW ?_⟩)
  ·have hc:i<s.ab.length:=hc
   have hs:=Jp (oW r s.ab ids l) s.ab bg h1 hc
   have hi:ids.length<(l9 r).length:=h
   have hm:=hA _ (II h)
   have et:Int.toNat (ids.length:Int)=ids.length:=by omega
   have eP:List.getD r.aB (Int.toNat (ids.length:Int)) dy=List.getD (l9 r) ids.length dy:=by rw[et];exact fT _ h
   have q0:(0:Int)<=(ids.length:Int)/\Int.toNat (ids.length:Int)<r.aB.length:=by omega
   have q1:(0:Int)<=i/\i.toNat<s.ab.length:=by omega
   have q2:(0:Nat)+ids.length<=4294967296:=by omega
   have q3:ids.length+1<=4294967296:=by omega
   refine⟨q0.1,q0.2,q1.1,q1.2,by rw[eP];exact hm,?_⟩
   simp only[eP]
   refine af (fun g=> ?_) (fun g=> ?_)
   ·obtain⟨more,hM⟩:=mI.1 g
    have p9:=Ir bC h h1 hc hM
    rw[Kt hM] at hs
    have hw:IntKind.wrap .i64 (i+1)=i+1:=wrap_i64 (by omega) (by omega)
    have an6:tp r s.ab (out++(s.ab.take i.toNat).flatMap (oW r s.ab ids l)).length (ids++[(List.getD s.ab i.toNat bg).Id]) ((fu (List.getD (l9 r) ids.length dy) (List.getD s.ab i.toNat bg).F l).getD l):=by rw[hM,FU,kg];exact p9
    have hmu:cH r.aB-(ids++[(List.getD s.ab i.toNat bg).Id]).length<rn:=by rw[kg];simp only[gv,fO];omega
    have hI:sz out r s ids l (IntKind.wrap .i64 (i+1),(r.Name,r.jP,r.aB,r.aY,r.bG,()),(s.ab,s.Next,()),((out++(s.ab.take i.toNat).flatMap (oW r s.ab ids l))++j7 r s.ab (ids++[(List.getD s.ab i.toNat bg).Id]) ((fu (List.getD (l9 r) ids.length dy) (List.getD s.ab i.toNat bg).F l).getD l),()),()):=by
     rw[hw,hM,FU]
     exact⟨rfl,rfl,by omega,by omega,by rw[hs,wB]⟩
    have hd:s.ab.length-(IntKind.wrap .i64 (i+1)).toNat<s.ab.length-i.toNat:=by rw[hw];omega
    exact⟨q2,q1.1,q1.2,q3,hmu,an6,fT,hI,hd⟩
   ·have hM:fu (List.getD (l9 r) ids.length dy) (List.getD s.ab i.toNat bg).F l=none:=Option.isNone_iff_eq_none.1 (by rw[<-Option.not_isSome,show Option.isSome (fu (List.getD (l9 r) ids.length dy) (List.getD s.ab i.toNat bg).F l)=false from g];rfl)
    rw[Ku hM,ww] at hs
    have hw:IntKind.wrap .i64 (i+1)=i+1:=wrap_i64 (by omega) (by omega)
    have hI:sz out r s ids l (IntKind.wrap .i64 (i+1),(r.Name,r.jP,r.aB,r.aY,r.bG,()),(s.ab,s.Next,()),(out++(s.ab.take i.toNat).flatMap (oW r s.ab ids l),()),()):=by
     rw[hw];exact⟨rfl,rfl,by omega,by omega,by rw[hs]⟩
    have hd:s.ab.length-(IntKind.wrap .i64 (i+1)).toNat<s.ab.length-i.toNat:=by rw[hw];omega
    exact⟨hI,hd⟩
  ·have hc:¬i<(s.ab.length:Int):=hc
   rw[dB s.ab (by omega),e]
def aie:HH:=⟨_,agi⟩
def RB:bp UU where
 α:=aV×aG
 md:=[.ro,.ro]
 of:=oC (oA .a_) (o1 (oA .bV))
 ds:=fun x=>[dA .a_ x.1,dA .bV x.2]
 pre:=fun(r,s)=>[me r,s.ab.length<=40,nb r]
 bT:=fun(r,s)=>⟨[dL .az (jG r s.ab)],[],[]⟩
 law:=lC (lA .a_) (l1 (lA .bV))
def ajU:RB.α->Nat->Option (bY UU):=fun(r,s)=>aN []
def aeQ:=us [aie]
theorem agB:Holds EE (169,RB):=by
 refine holds_of ax func169 RB (by kernel_rfl) aeQ (aE _) ajU (fun x hp hb=> ?_)
 obtain⟨r,s⟩:=x
 have bi:=ke (x:=r) (hb _ m0)
 have im:=bi.1
 have il:=bi.2.1
 have gI:=bi.2.2.1
 have io:=bi.2.2.2
 have ga:=l6 (x:=s) (hb _ m1)
 have bC:me r:=hp _ m0
 have fT:s.ab.length<=40:=hp _ m1
 have Ka:nb r:=hp _ m2
 clear hp hb
 apply @ve _ (tp r s.ab (0) [] []/\nb r/\Lf [VL .az ([]++j7 r s.ab [] [])] [VL .az (jG r s.ab)]) (by kernel_rfl)
 exact⟨KS bC fT,Ka,bN _⟩
def ais:HH:=⟨_,agB⟩
def Sh:bp UU where
 α:=bB×aG
 md:=[.ro,.ro]
 of:=oC (oA .dZ) (o1 (oA .bV))
 ds:=fun x=>[dA .dZ x.1,dA .bV x.2]
 pre:=fun(d,s)=>[∀r,r∈d.aw->me r,s.ab.length<=40/\d.aw.length<=12,∀r,r∈d.aw->nb r]
 bT:=fun(d,s)=>⟨[dL .az (allM d.aw s.ab)],[],[]⟩
 law:=lC (lA .dZ) (l1 (lA .bV))
def BX(d:bB)(s:aG):List av×Int×T2×T4×Unit->Prop:=fun(o,i,b,g,_)=>b=(d.Name,d.aw,())/\g=(s.ab,s.Next,())/\0<=i/\i<=d.aw.length/\o=JW d.aw s.ab i.toNat
def Bi(d:bB)(s:aG):List av×Int×T2×T4×Unit->Nat:=fun(o,i,b,g,_)=>d.aw.length-i.toNat
def BW(d:bB)(s:aG):List av×Int×Int×(List av×(Nat->Bool))×T2×T4×Unit->List av×Int×Int×(List av×(Nat->Bool))×T2×T4×Unit->Prop:=fun(o0,i0,k0,p0,b0,g0,_) (o,i,k,p,b,g,_)=>i=i0/\b=b0/\g=g0/\p.1.length=p0.1.length/\0<=k/\k<=p0.1.length/\(∀j:Nat,k<=(j:Int)->p.2 j=false/\List.getD p.1 j bM=List.getD p0.1 j bM)/\o=o0++(p0.1.take k.toNat).map (LN i)
def Bh(d:bB)(s:aG):List av×Int×Int×(List av×(Nat->Bool))×T2×T4×Unit->Nat:=fun(o,i,k,p,b,g,_)=>p.1.length-k.toNat
def akx:Sh.α->Nat->Option (bY UU):=fun(d,s)=>aN [(3,bh [.slot 5 (5,1024) (.own .az true),.slot 6 (6,1024) (.lit (.int .i64)),.box 2 (2,1024) [.lit .str,.shr .a_],.box 3 (3,1024) [.shr .aX,.lit (.int .i64)]] (fun _=>BX d s) (Bi d s)),(7,bh [.slot 5 (5,1024) (.own .az true),.slot 6 (6,1024) (.lit (.int .i64)),.slot 8 (8,1024) (.lit (.int .i64)),.slot 7 (7,1024) (.part .az),.box 2 (2,1024) [.lit .str,.shr .a_],.box 3 (3,1024) [.shr .aX,.lit (.int .i64)]] (BW d s) (Bh d s))]
def aft:=us [ais]
theorem ahg:Holds EE (126,Sh):=by
 refine holds_of ax func126 Sh (by kernel_rfl) aft (aE _) akx (fun x hp hb=> ?_)
 obtain⟨d,s⟩:=x
 have bi:=iF (x:=d) (hb _ m0)
 have fE:=bi.1
 have ey:=bi.2
 have ga:=l6 (x:=s) (hb _ m1)
 have bC:∀r,r∈d.aw->me r:=hp _ m0
 have fT:s.ab.length<=40/\d.aw.length<=12:=hp _ m1
 have Ka:∀r,r∈d.aw->nb r:=hp _ m2
 clear hp hb
 apply @ve _ (BX d s ([],0,(d.Name,d.aw,()),(s.ab,s.Next,()),())/\∀(y:List av×Int×T9×Oi×PUnit),let x2:Nat:=y.2.2.1.2.1.length;let x3:Nat:=y.2.1.toNat;let x0:aV:=List.getD y.2.2.1.2.1 x3 ct;let x1:Int:=(↑x2:Int);let q0:=(y.2.2.2.1.1,y.2.2.2.1.2.1,());let q1:=(y.2.2.1.1,y.2.2.1.2.1,());BX d s y->bif decide (y.2.1<x1) then 0<=y.2.1/\x3<x2/\me x0/\y.2.2.2.1.1.length<=40/\nb x0/\BW d s (y.1,y.2.1,0,(jG x0 y.2.2.2.1.1,fun(x:Nat)=>false),q1,q0,()) (y.1,y.2.1,0,(jG x0 y.2.2.2.1.1,fun(x:Nat)=>false),q1,q0,())/\∀(aS:List av×Int×Int×(List av×(Nat->Bool))×T9×Oi×PUnit),let x5:Nat:=aS.2.2.1.toNat;let x7:Nat:=aS.2.2.2.fst.1.length;let x4:List av:=List.modify aS.2.2.2.fst.1 x5 fun(x:av)=>{cN:=aS.2.1,eJ:=x.eJ,cr:=x.cr:av};let x6:Int:=(↑x7:Int);let q2:=(aS.1,IntKind.wrap IntKind.i64 (aS.2.1+1),(aS.2.2.2.2.1.1,aS.2.2.2.2.1.2.1,()),(aS.2.2.2.2.2.1.1,aS.2.2.2.2.2.1.2.1,()),());let q3:=(aS.2.2.2.2.2.1.1,aS.2.2.2.2.2.1.2.1,());let q4:=(aS.2.2.2.2.1.1,aS.2.2.2.2.1.2.1,());BW d s (y.1,y.2.1,0,(jG x0 y.2.2.2.1.1,fun(x:Nat)=>false),q1,q0,()) aS->bif decide (aS.2.2.1<x6) then 0<=aS.2.2.1/\x5<x7/\x5<x7/\aS.2.2.2.fst.2 x5=false/\0<=aS.2.2.1/\x5<x4.length/\x5<x4.length/\aS.2.2.2.fst.2 x5=false/\aS.1.length+List.length [List.getD x4 x5 bM]<=4294967296/\BW d s (y.1,y.2.1,0,(jG x0 y.2.2.2.1.1,fun(x:Nat)=>false),q1,q0,()) (aS.1++[List.getD x4 x5 bM],aS.2.1,IntKind.wrap IntKind.i64 (aS.2.2.1+1),(x4,fun(j:Nat)=>Nat.beq j x5||aS.2.2.2.fst.2 j),q4,q3,())/\Bh d s (aS.1++[List.getD x4 x5 bM],aS.2.1,IntKind.wrap IntKind.i64 (aS.2.2.1+1),(x4,fun(j:Nat)=>Nat.beq j x5||aS.2.2.2.fst.2 j),q4,q3,())<Bh d s aS else BX d s q2/\Bi d s q2<Bi d s y else Lf [VL .az y.1] [VL .az (allM d.aw s.ab)]) (by kernel_rfl)
 dsimp only
 obtain⟨hS,hD⟩:=fT
 refine⟨⟨rfl,rfl,by omega,by omega,rfl⟩,?_⟩
 rintro⟨o,i,⟨b1,b2,⟨⟩⟩,⟨g1,g2,⟨⟩⟩,⟨⟩⟩ ⟨hb,hg,h1,h2,rfl⟩
 cases hb
 cases hg
 simp only
 refine aU (fun hc=> ?_) (fun hc=> ?_)
 ·have hm:List.getD d.aw i.toNat ct∈d.aw:=gQ (by omega)
  have hs:=bC _ hm
  have hl:=zR hs hS
  have hn:=QO bC hS (n:=i.toNat) (by omega)
  have p9:=N5 d.aw s.ab h1
  refine⟨by omega,by omega,hs,hS,Ka _ hm,⟨rfl,rfl,rfl,rfl,by omega,by omega,fun _ _=>⟨rfl,rfl⟩,by simp⟩,?_⟩
  rintro⟨o',i',k,⟨xs,dd⟩,⟨b1,b2,⟨⟩⟩,⟨g1,g2,⟨⟩⟩,⟨⟩⟩ ⟨hi,hb,hg,hx,k1,k2,kd,ho⟩
  cases hb
  cases hg
  cases hi
  cases ho
  simp only at k2 kd hx⊢
  refine aU (fun hk=> ?_) (fun hk=> ?_)
  ·have ht:=fD (jG (List.getD d.aw i.toNat ct) s.ab) bM k1 (by omega)
   have hd:=kd k.toNat (by omega)
   rw[wrap_i64 (n:=k+1) (by omega) (by omega)]
   refine⟨k1,by omega,by omega,hd.1,k1,by rw[J8];omega,by rw[J8];omega,hd.1,?_,⟨rfl,rfl,rfl,by rw[J8];exact hx,by omega,by simp only;omega,fun j hj=>⟨zc k1 (fun j hj=>(kd j hj).1) j hj,?_⟩,?_⟩,by simp only[Bh,J8];omega⟩
   ·simp only[kg,wv,oH,gv,fO];omega
   ·rw[Yd _ (by omega)];exact(kd j (by omega)).2
   ·rw[mod_self _ (by omega),hd.2]
    simp only[<-ht,Kg,wB];rfl
  ·rw[dB _ (by omega),<-p9,wrap_i64 (n:=i+1) (by omega) (by omega)]
   exact⟨⟨rfl,rfl,by omega,by omega,rfl⟩,by simp only[Bi];omega⟩
 ·have e:i.toNat=d.aw.length:=by omega
  rw[e];exact bN _
def aiV:HH:=⟨_,ahg⟩
theorem adY{α:Type}{a b:List α}(z:α){i:Int}(h1:0<=i)(ha:i<a.length)(hb:i<b.length)(hR:a.drop i.toNat=b.drop i.toNat↔a=b)(h:List.getD a i.toNat z≠List.getD b i.toNat z):a≠b:=by
 rw[eK a z h1 ha,eK b z h1 hb] at hR
 exact fun e=>h (List.cons.inj (hR.2 e)).1
theorem adZ{α:Type}{a b:List α}(z:α){i:Int}(h1:0<=i)(ha:i<a.length)(hb:i<b.length)(hR:a.drop i.toNat=b.drop i.toNat↔a=b)(h:List.getD a i.toNat z=List.getD b i.toNat z):(a.drop (i+1).toNat=b.drop (i+1).toNat↔a=b):=by
 rw[eK a z h1 ha,eK b z h1 hb,h] at hR
 rw[<-hR];simp
theorem Zv{α:Type}{a b:List α}{i:Int}(ha:a.length<=i)(hb:b.length<=i)(hR:a.drop i.toNat=b.drop i.toNat↔a=b):a=b:=by
 rw[cg a ha,cg b hb] at hR
 exact hR.1 rfl
theorem Yg{α:Type}{a b:List α}(h:((a.length:Int) !=(b.length:Int))=false):a.length=b.length:=by
 have h:(a.length:Int)=b.length:=by simpa using h
 omega
theorem Yc{α:Type}{a b:List α}(h:¬(a.length:Int)=b.length):a≠b:=fun e=>h (by rw[e])
def E_:List Int->List Int->Bool
 |a::l,b::m=>if a=b then E_ l m else decide (a<b)
 |_,_=>false
def tB(a b:av):Bool:=if a.cN=b.cN then(if a.eJ.length=b.eJ.length then E_ a.eJ b.eJ else decide (a.eJ.length<b.eJ.length)) else decide (a.cN<b.cN)
def mO(d:bB)(m:av):Int:=(List.getD d.aw m.cN.toNat ct).jP
def nl(d:bB)(a b:av):Bool:=jV d a&&jV d b&&(decide (mO d b<mO d a)||(decide (mO d a=mO d b)&&tB a b))
def LM(m x:av):Bool:=decide (x.cN=m.cN/\x.eJ=m.eJ)
def nO(l:List av)(m:av):Bool:=l.any (LM m)
def rS(d:bB)(bZ:List av)(m:av):Bool:=jV d m&& !nO bZ m
def fS(d:bB)(bZ:List av)(o:Option av)(m:av):Option av:=
 if(rS d bZ m&&(match o with|none=>true|some b=>nl d m b))=true then some m else o
def jn(d:bB)(set bZ:List av):Option av:=set.foldl (fS d bZ) none
def zN(o:Option av):av:=match o with|some m=>m|none=>bM
theorem M1(d:bB)(bZ l:List av)(o:Option av){i:Int}(h0:0<=i)(h:i<l.length):(l.drop i.toNat).foldl (fS d bZ) o=(l.drop (i+1).toNat).foldl (fS d bZ) (fS d bZ o (List.getD l i.toNat bM)):=by
 rw[eK l bM h0 h];rfl
theorem IJ{d:bB}{bZ:List av}{o:Option av}{m:av}(h:rS d bZ m=false):fS d bZ o m=o:=by unfold fS;rw[h,pF];rfl
theorem KK{d:bB}{bZ:List av}{m:av}(h:rS d bZ m=true):fS d bZ none m=some m:=by unfold fS;rw[h];rfl
theorem M2{d:bB}{bZ:List av}{m b:av}(h:rS d bZ m=true)(g:nl d m b=true):fS d bZ (some b) m=some m:=by simp only[fS,h,g];rfl
theorem M3{d:bB}{bZ:List av}{m b:av}(g:nl d m b=false):fS d bZ (some b) m=some b:=by simp only[fS,g,va];rfl
def Q9:bp UU where
 α:=(List Int)×(List Int)
 md:=[.ro,.ro]
 of:=oC (oL .int) (o1 (oL .int))
 ds:=fun x=>[dL .int x.1,dL .int x.2]
 pre:=fun _=>[]
 bT:=fun(a,b)=>⟨[dO (decide (a=b))],[],[]⟩
 law:=lC (lL .int) (l1 (lL .int))
def Bv(a:(List Int))(b:(List Int)):Int×Unit->Prop:=fun(i,_)=>0<=i/\i<=a.length/\a.length=b.length/\(a.drop i.toNat=b.drop i.toNat↔a=b)
def AW(a:(List Int))(b:(List Int)):Int×Unit->Nat:=fun(i,_)=>a.length-i.toNat
def ajs:Q9.α->Nat->Option (bY UU):=fun(a,b)=>aN [(4,bh [.slot 5 (5,1024) (.lit (.int .i64))] (fun _=>Bv a b) (AW a b))]
def aeo:List (FuncId×bp UU):=[]
theorem af':Holds EE (197,Q9):=by
 refine holds_of ax func197 Q9 (by kernel_rfl) aeo all_nil ajs (fun x hp hb=> ?_)
 obtain⟨a,b⟩:=x
 have adA:a.length<=9223372036854775807:=jO (hb _ m0)
 have adz:b.length<=9223372036854775807:=jO (hb _ m1)
 clear hp hb
 apply @ve _ (bif (a.length:Int) !=(b.length:Int) then Lb false (decide (a=b)) else Bv a b (0,())/\∀(y:Int×PUnit),let q0:=(IntKind.wrap IntKind.i64 (y.1+1),());Bv a b y->bif decide (y.1<(a.length:Int)) then 0<=y.1/\y.1.toNat<a.length/\0<=y.1/\y.1.toNat<b.length/\bif List.getD a y.1.toNat 0 !=List.getD b y.1.toNat 0 then Lb false (decide (a=b)) else Bv a b q0/\AW a b q0<AW a b y else Lb true (decide (a=b))) (by kernel_rfl)
 dsimp only
 refine af (fun h=>Oa (Yc (by simpa using h))) (fun h=>⟨⟨by omega,by omega,(Yg (a:=a) (b:=b) (by assumption)),by simp⟩,?_⟩)
 rintro⟨i,⟨⟩⟩ ⟨h1,h2,h3,hR⟩
 simp only
 refine af (fun hc=> ?_) (fun hc=> ?_)
 ·have hc:i<a.length:=yT hc
  rw[wrap_i64 (by omega) (by omega)]
  try simp only[oy]
  try simp only[bx]
  have hz:True:=trivial
  repeat' (first|refine And.intro (by omega) ?_|refine af (fun h=> ?_) (fun h=> ?_))
  all_goals first|exact Oa (adY (0:Int) h1 hc (by omega) hR (by first|grind|(rw[hz];grind)))|exact⟨⟨by omega,by omega,h3,adZ (0:Int) h1 hc (by omega) hR (by first|grind|(rw[hz];grind))⟩,by simp only[AW];omega⟩
 ·have hc:a.length<=i:=by have:=yF hc;omega
  exact abe (Zv hc (by omega) hR)
def ah7:HH:=⟨_,af'⟩
def Ri:bp UU where
 α:=av×av
 md:=[.ro,.ro]
 of:=oC (oA .az) (o1 (oA .az))
 ds:=fun x=>[dA .az x.1,dA .az x.2]
 pre:=fun _=>[]
 bT:=fun(a,b)=>⟨[dO (decide (a.cN=b.cN/\a.eJ=b.eJ))],[],[]⟩
 law:=lC (lA .az) (l1 (lA .az))
def ajD:Ri.α->Nat->Option (bY UU):=fun(a,b)=>aN []
def aez:=us [ah7]
theorem agk:Holds EE (186,Ri):=by
 refine holds_of ax func186 Ri (by kernel_rfl) aez (aE _) ajD (fun x hp hb=> ?_)
 obtain⟨a,b⟩:=x
 have bi:=gZ (x:=a) (hb _ m0)
 have Jg:=bi.1
 have C':=bi.2
 have fg:=gZ (x:=b) (hb _ m1)
 have Je:=fg.1
 have C9:=fg.2
 clear hp hb
 apply @ve _ (let q0:=decide (a.cN=b.cN/\a.eJ=b.eJ);bif a.cN==b.cN then Lb (decide (a.eJ=b.eJ)) q0 else Lb false q0) (by kernel_rfl)
 dsimp only
 refine af (fun h=>cj ?_) (fun h=>cj ?_)<;>grind
def aih:HH:=⟨_,agk⟩
def Rh:bp UU where
 α:=av×av
 md:=[.ro,.ro]
 of:=oC (oA .az) (o1 (oA .az))
 ds:=fun x=>[dA .az x.1,dA .az x.2]
 pre:=fun _=>[]
 bT:=fun(a,b)=>⟨[dO (tB a b)],[],[]⟩
 law:=lC (lA .az) (l1 (lA .az))
def BB(a:av)(b:av):Int×T7×T7×Unit->Prop:=fun(i,p,q,_)=>p=(a.cN,a.eJ,a.cr,())/\q=(b.cN,b.eJ,b.cr,())/\0<=i/\i<=a.eJ.length/\a.eJ.length=b.eJ.length/\E_ (a.eJ.drop i.toNat) (b.eJ.drop i.toNat)=E_ a.eJ b.eJ
def AZ(a:av)(b:av):Int×T7×T7×Unit->Nat:=fun(i,p,q,_)=>a.eJ.length-i.toNat
def ajC:Rh.α->Nat->Option (bY UU):=fun(a,b)=>aN [(6,bh [.slot 5 (5,1024) (.lit (.int .i64)),.box 2 (2,1024) [.lit (.int .i64),.shr .int,.shr .b_],.box 3 (3,1024) [.lit (.int .i64),.shr .int,.shr .b_]] (fun _=>BB a b) (AZ a b))]
def aey:List (FuncId×bp UU):=[]
theorem agj:Holds EE (187,Rh):=by
 refine holds_of ax func187 Rh (by kernel_rfl) aey all_nil ajC (fun x hp hb=> ?_)
 obtain⟨a,b⟩:=x
 have bi:=gZ (x:=a) (hb _ m0)
 have Jg:=bi.1
 have C':=bi.2
 have fg:=gZ (x:=b) (hb _ m1)
 have Je:=fg.1
 have C9:=fg.2
 clear hp hb
 apply @ve _ (let x0:Int:=(a.eJ.length:Int);let x1:Int:=(b.eJ.length:Int);bif a.cN !=b.cN then Lb (decide (a.cN<b.cN)) (tB a b) else bif x0 !=x1 then Lb (decide (x0<x1)) (tB a b) else BB a b (0,(a.cN,a.eJ,a.cr,()),(b.cN,b.eJ,b.cr,()),())/\∀(y:Int×WX×WX×PUnit),let x2:Int:=List.getD y.2.2.1.2.1 y.1.toNat 0;let x3:Int:=List.getD y.2.1.2.1 y.1.toNat 0;let x5:Nat:=y.2.1.2.1.length;let x4:Int:=(↑x5:Int);let q0:=(IntKind.wrap IntKind.i64 (y.1+1),(y.2.1.1,y.2.1.2.1,y.2.1.2.2.1,()),(y.2.2.1.1,y.2.2.1.2.1,y.2.2.1.2.2.1,()),());BB a b y->bif decide (y.1<x4) then 0<=y.1/\y.1.toNat<x5/\0<=y.1/\y.1.toNat<y.2.2.1.2.1.length/\bif x3 !=x2 then 0<=y.1/\y.1.toNat<x5/\0<=y.1/\y.1.toNat<y.2.2.1.2.1.length/\Lb (decide (x3<x2)) (tB a b) else BB a b q0/\AZ a b q0<AZ a b y else Lb false (tB a b)) (by kernel_rfl)
 dsimp only
 refine n7 (fun h=>cj (if_neg h).symm) (fun h=>n7 (fun g=>cj ?_) (fun g=> ?_))
 ·rw[tB,if_pos h,if_neg (by omega),decide_eq_decide];omega
 have g:a.eJ.length=b.eJ.length:=by omega
 have eM:tB a b=E_ a.eJ b.eJ:=by rw[tB,if_pos h,if_pos g]
 refine⟨⟨rfl,rfl,by omega,by omega,g,rfl⟩,?_⟩
 rintro⟨i,⟨p1,p2,p3,⟨⟩⟩,⟨q1,q2,q3,⟨⟩⟩,⟨⟩⟩ ⟨hp,hq,h1,h2,h3,hR⟩
 cases hp
 cases hq
 simp only
 rw[eM]
 refine aU (fun hc=> ?_) (fun hc=> ?_)
 ·rw[eK a.eJ (0:Int) h1 hc,eK b.eJ (0:Int) h1 (by omega)] at hR
  simp only[E_] at hR
  rw[wrap_i64 (by omega) (by omega)]
  refine⟨by omega,by omega,by omega,by omega,n7 (fun e=>⟨by omega,by omega,by omega,by omega,cj ?_⟩) (fun e=> ?_)⟩
  ·rw[if_neg e] at hR;exact hR
  ·rw[if_pos e] at hR;exact⟨⟨rfl,rfl,by omega,by omega,h3,hR⟩,by simp only[AZ];omega⟩
 ·rw[cg a.eJ (by omega)] at hR
  exact bw hR.symm
def aif:HH:=⟨_,agj⟩
def RE:bp UU where
 α:=bB×av×av
 md:=[.ro,.ro,.ro]
 of:=oC (oA .dZ) (oC (oA .az) (o1 (oA .az)))
 ds:=fun x=>[dA .dZ x.1,dA .az x.2.1,dA .az x.2.2]
 pre:=fun _=>[]
 bT:=fun(d,a,b)=>⟨[dO (nl d a b)],[],[]⟩
 law:=lC (lA .dZ) (lC (lA .az) (l1 (lA .az)))
def ajW:RE.α->Nat->Option (bY UU):=fun(d,a,b)=>aN []
def aeS:=us [Vv,aif]
theorem agD:Holds EE (167,RE):=by
 refine holds_of ax func167 RE (by kernel_rfl) aeS (aE _) ajW (fun x hp hb=> ?_)
 obtain⟨d,a,b⟩:=x
 have bi:=iF (x:=d) (hb _ m0)
 have fE:=bi.1
 have ey:=bi.2
 have fg:=gZ (x:=a) (hb _ m1)
 have Jg:=fg.1
 have C':=fg.2
 have u5:=gZ (x:=b) (hb _ m2)
 have Je:=u5.1
 have C9:=u5.2
 clear hp hb
 apply @ve _ (let x0:Int:=(List.getD d.aw b.cN.toNat ct).jP;let x1:Int:=(List.getD d.aw a.cN.toNat ct).jP;let q0:=nl d a b;bif !jV d a then Lb false q0 else bif !jV d b then Lb false q0 else 0<=a.cN/\a.cN.toNat<d.aw.length/\0<=b.cN/\b.cN.toNat<d.aw.length/\bif decide (x1>x0) then Lb true q0 else bif x1==x0 then Lb (tB a b) q0 else Lb false q0) (by kernel_rfl)
 dsimp only
 refine bO (fun h=>bw ?_) (fun h=>bO (fun h'=>bw ?_) (fun h'=> ?_))
 ·have h:jV d a=false:=h
  rw[nl,h];rfl
 ·have h':jV d b=false:=h'
  rw[nl,h',va];rfl
 have h:jV d a=true:=h
 have h':jV d b=true:=h'
 obtain⟨a1,a2⟩:=nN h
 obtain⟨b1,b2⟩:=nN h'
 have e:nl d a b=(decide (mO d b<mO d a)||(decide (mO d a=mO d b)&&tB a b)):=by rw[nl,h,h'];rfl
 refine⟨a1,by omega,b1,by omega,aU (fun g=>mV ?_) (fun g=>bo (fun g'=>cj ?_) (fun g'=>bw ?_))⟩
 ·rw[e,decide_eq_true (show mO d b<mO d a from g)];rfl
 ·rw[e,decide_eq_false (show¬mO d b<mO d a from g),decide_eq_true (show mO d a=mO d b from g')];rfl
 ·rw[e,decide_eq_false (show¬mO d b<mO d a from g),decide_eq_false (show¬mO d a=mO d b from g')];rfl
def ait:HH:=⟨_,agD⟩
def RF:bp UU where
 α:=(List av)×av
 md:=[.ro,.ro]
 of:=oC (oL .az) (o1 (oA .az))
 ds:=fun x=>[dL .az x.1,dA .az x.2]
 pre:=fun _=>[]
 bT:=fun(l,m)=>⟨[dO (nO l m)],[],[]⟩
 law:=lC (lL .az) (l1 (lA .az))
def BH(l:(List av))(m:av):Int×T7×Unit->Prop:=fun(i,b,_)=>b=(m.cN,m.eJ,m.cr,())/\0<=i/\i<=l.length/\(l.drop i.toNat).any (LM m)=nO l m
def A5(l:(List av))(m:av):Int×T7×Unit->Nat:=fun(i,b,_)=>l.length-i.toNat
def ajX:RF.α->Nat->Option (bY UU):=fun(l,m)=>aN [(2,bh [.slot 5 (5,1024) (.lit (.int .i64)),.box 3 (3,1024) [.lit (.int .i64),.shr .int,.shr .b_]] (fun _=>BH l m) (A5 l m))]
def aeT:=us [aih]
theorem agE:Holds EE (166,RF):=by
 refine holds_of ax func166 RF (by kernel_rfl) aeT (aE _) ajX (fun x hp hb=> ?_)
 obtain⟨l,m⟩:=x
 have gP:l.length<=9223372036854775807:=jO (hb _ m0)
 have fg:=gZ (x:=m) (hb _ m1)
 have qN:=fg.1
 have m_:=fg.2
 clear hp hb
 apply @ve _ (BH l m (0,(m.cN,m.eJ,m.cr,()),())/\∀(y:Int×WX×PUnit),let q0:=(IntKind.wrap IntKind.i64 (y.1+1),(y.2.1.1,y.2.1.2.1,y.2.1.2.2.1,()),());BH l m y->bif decide (y.1<(l.length:Int)) then 0<=y.1/\y.1.toNat<l.length/\bif decide ((List.getD l y.1.toNat bM).cN=y.2.1.1/\(List.getD l y.1.toNat bM).eJ=y.2.1.2.1) then Lb true (nO l m) else BH l m q0/\A5 l m q0<A5 l m y else Lb false (nO l m)) (by kernel_rfl)
 dsimp only
 refine⟨⟨rfl,by omega,by omega,rfl⟩,?_⟩
 rintro⟨i,⟨b1,b2,b3,⟨⟩⟩,⟨⟩⟩ ⟨hb,h1,h2,hR⟩
 cases hb
 simp only
 refine aU (fun hc=> ?_) (fun hc=> ?_)
 ·rw[xI _ _ bM h1 hc] at hR
  rw[wrap_i64 (by omega) (by omega)]
  refine⟨by omega,by omega,af (fun g=>mV ?_) (fun g=>⟨⟨rfl,by omega,by omega,?_⟩,by simp only[A5];omega⟩)⟩
  ·rw[<-hR,show LM m (List.getD l i.toNat bM)=true from g,Bool.true_or]
  ·rw[<-hR,show LM m (List.getD l i.toNat bM)=false from g,FT]
 ·rw[cg _ (by omega)] at hR
  exact bw hR.symm
def aiu:HH:=⟨_,agE⟩
def RC:bp UU where
 α:=av
 md:=[.ro]
 of:=o1 (oA .az)
 ds:=fun x=>[dA .az x]
 pre:=fun m=>[m.eJ.length<=4294967296,m.cr.length<=4294967296]
 bT:=fun m=>⟨[dA .az m],[],[]⟩
 law:=l1 (lA .az)
def ajV:RC.α->Nat->Option (bY UU):=fun m=>aN []
def aeR:List (FuncId×bp UU):=[]
theorem agC:Holds EE (168,RC):=by
 refine holds_of ax func168 RC (by kernel_rfl) aeR all_nil ajV (fun(m:av) hp hb=> ?_)
 have bi:=gZ (x:=m) (hb _ m0)
 have qN:=bi.1
 have m_:=bi.2
 have bC:m.eJ.length<=4294967296:=hp _ m0
 have fT:m.cr.length<=4294967296:=hp _ m1
 clear hp hb
 apply @ve _ (0+m.eJ.length<=4294967296/\0+m.cr.length<=4294967296/\Lf [DV.agg [CI m.cN,CL .int ([]++m.eJ),CL .b_ ([]++m.cr)]] [DV.agg [CI m.cN,CL .int m.eJ,CL .b_ m.cr]]) (by kernel_rfl)
 have q1:(0:Nat)+m.eJ.length<=4294967296:=by omega
 have q2:(0:Nat)+m.cr.length<=4294967296:=by omega
 exact⟨q1,q2,bN _⟩
def WD:HH:=⟨_,agC⟩
def Si:bp UU where
 α:=bB×(List av)×(List av)
 md:=[.ro,.ro,.ro]
 of:=oC (oA .dZ) (oC (oL .az) (o1 (oL .az)))
 ds:=fun x=>[dA .dZ x.1,dL .az x.2.1,dL .az x.2.2]
 pre:=fun(d,set,bZ)=>[∀m,m∈set->m.eJ.length<=4294967296/\m.cr.length<=4294967296]
 bT:=fun(d,set,bZ)=>⟨[dA .az (zN (jn d set bZ)),dO ((jn d set bZ).isSome)],[],[]⟩
 law:=lC (lA .dZ) (lC (lL .az) (l1 (lL .az)))
def uX(d:bB)(set:(List av))(bZ:(List av)):Int×Int×T2×T7×Unit->Prop:=fun(e,i,b,q,_)=>b=(d.Name,d.aw,())/\0<=i/\i<=set.length/\e<set.length/\-1<=e/\(set.drop i.toNat).foldl (fS d bZ) (if e<0 then none else some (List.getD set e.toNat bM))=jn d set bZ
def qi(d:bB)(set:(List av))(bZ:(List av)):Int×Int×T2×T7×Unit->Nat:=fun(e,i,b,q,_)=>set.length-i.toNat
def aky:Si.α->Nat->Option (bY UU):=fun(d,set,bZ)=>aN [(3,bh [.slot 8 (8,1024) (.lit (.int .i64)),.slot 9 (9,1024) (.lit (.int .i64)),.box 3 (3,1024) [.lit .str,.shr .a_],.box 6 (6,1024) [.lit (.int .i64),.own .int true,.own .b_ true]] (fun _=>uX d set bZ) (qi d set bZ))]
def afu:=us [Vv,aiu,ait,WD]
theorem ahh:Holds EE (125,Si):=by
 refine holds_of ax func125 Si (by kernel_rfl) afu (aE _) aky (fun x hp hb=> ?_)
 obtain⟨d,set,bZ⟩:=x
 have bi:=iF (x:=d) (hb _ m0)
 have fE:=bi.1
 have ey:=bi.2
 have aoc:set.length<=9223372036854775807:=jO (hb _ m1)
 have adw:bZ.length<=9223372036854775807:=jO (hb _ m2)
 have bC:∀m,m∈set->m.eJ.length<=4294967296/\m.cr.length<=4294967296:=hp _ m0
 clear hp hb
 apply @ve _ (let q0:=zN (jn d set bZ);uX d set bZ ((-1),0,(d.Name,d.aw,()),(0,[],[],()),())/\∀(y:Int×Int×T9×WX×PUnit),let x0:bB:={Name:=y.2.2.1.1,aw:=y.2.2.1.2.1:bB};let x2:Nat:=y.2.1.toNat;let x3:av:=List.getD set y.1.toNat bM;let x4:Bool:=decide (y.1<0);let x1:av:=List.getD set x2 bM;let q1:=uX d set bZ (y.1,IntKind.wrap IntKind.i64 (y.2.1+1),(y.2.2.1.1,y.2.2.1.2.1,()),(y.2.2.2.1.1,y.2.2.2.1.2.1,y.2.2.2.1.2.2.1,()),())/\qi d set bZ (y.1,IntKind.wrap IntKind.i64 (y.2.1+1),(y.2.2.1.1,y.2.2.1.2.1,()),(y.2.2.2.1.1,y.2.2.2.1.2.1,y.2.2.2.1.2.2.1,()),())<qi d set bZ y;let q2:=(y.2.1,IntKind.wrap IntKind.i64 (y.2.1+1),(y.2.2.1.1,y.2.2.1.2.1,()),(y.2.2.2.1.1,y.2.2.2.1.2.1,y.2.2.2.1.2.2.1,()),());let q3:=uX d set bZ q2/\qi d set bZ q2<qi d set bZ y;uX d set bZ y->bif decide (y.2.1<(set.length:Int)) then 0<=y.2.1/\x2<set.length/\bif jV x0 x1 then 0<=y.2.1/\x2<set.length/\bif !nO bZ x1 then bif x4 then q3 else 0<=y.2.1/\x2<set.length/\0<=y.1/\y.1.toNat<set.length/\bif nl x0 x1 x3 then q3 else q1 else q1 else q1 else bif x4 then Lf [DV.agg [CI 0,CL .int [],CL .b_ []],VB false] [DV.agg [CI (q0.cN),CL .int q0.eJ,CL .b_ q0.cr],VB (Option.isSome (jn d set bZ))] else 0<=y.1/\y.1.toNat<set.length/\x3.eJ.length<=4294967296/\x3.cr.length<=4294967296/\Lf [DV.agg [CI x3.cN,CL .int x3.eJ,CL .b_ x3.cr],VB true] [DV.agg [CI (q0.cN),CL .int q0.eJ,CL .b_ q0.cr],VB (Option.isSome (jn d set bZ))]) (by kernel_rfl)
 dsimp only
 refine⟨⟨rfl,by omega,by omega,by omega,by omega,rfl⟩,?_⟩
 rintro⟨e,i,⟨b1,b2,⟨⟩⟩,⟨q1,q2,q3,⟨⟩⟩,⟨⟩⟩ ⟨hb,h1,h2,h3,h4,hR⟩
 cases hb
 simp only at h1 h2 h3 h4 hR⊢
 refine aU (fun hc=> ?_) (fun hc=> ?_)
 ·rw[M1 d bZ set _ h1 hc] at hR
  have nxt:∀e':Int,e'<set.length->-1<=e'->fS d bZ (if e<0 then none else some (List.getD set e.toNat bM)) (List.getD set i.toNat bM)=(if e'<0 then none else some (List.getD set e'.toNat bM))->uX d set bZ (e',IntKind.wrap .i64 (i+1),(d.Name,d.aw,()),(q1,q2,q3,()),())/\qi d set bZ (e',IntKind.wrap .i64 (i+1),(d.Name,d.aw,()),(q1,q2,q3,()),())<qi d set bZ (e,i,(d.Name,d.aw,()),(q1,q2,q3,()),()):=fun e' k1 k2 g=>by
   rw[wrap_i64 (by omega) (by omega)]
   exact⟨⟨rfl,by omega,by omega,k1,k2,by rw[<-g];exact hR⟩,by simp only[qi];omega⟩
  have own:(if i<0 then none else some (List.getD set i.toNat bM))=some (List.getD set i.toNat bM):=if_neg (by omega)
  refine⟨h1,by omega,af (fun g=>⟨h1,by omega,bO (fun g'=> ?_) (fun g'=>nxt e h3 h4 (IJ (by rw[rS,show nO bZ (List.getD set i.toNat bM)=true from g',zfa,va])))⟩) (fun g=>nxt e h3 h4 (IJ (by rw[rS,show jV d (List.getD set i.toNat bM)=false from g];rfl)))⟩
  have nM:rS d bZ (List.getD set i.toNat bM)=true:=by rw[rS,show jV d (List.getD set i.toNat bM)=true from g,show nO bZ (List.getD set i.toNat bM)=false from g'];rfl
  refine aU (fun k=>nxt i (by omega) (by omega) ?_) (fun k=>⟨h1,by omega,by omega,by omega,af (fun g3=>nxt i (by omega) (by omega) ?_) (fun g3=>nxt e h3 h4 ?_)⟩)
  ·rw[own,if_pos k,KK nM]
  ·rw[own,if_neg k,M2 nM g3]
  ·rw[if_neg k,M3 g3]
 ·rw[cg _ (by omega)] at hR
  refine aU (fun k=> ?_) (fun k=> ?_)
  ·rw[if_pos k] at hR
   have hR:none=jn d set bZ:=hR
   rw[<-hR];exact bN _
  ·rw[if_neg k] at hR
   have hR:some (List.getD set e.toNat bM)=jn d set bZ:=hR
   have pM:List.getD set e.toNat bM∈set:=gQ (by omega)
   rw[<-hR]
   exact⟨by omega,by omega,(bC _ pM).1,(bC _ pM).2,bN _⟩
def aiW:HH:=⟨_,ahh⟩
theorem zX:∀(ps:List cn),(∀i,i<ps.length->i_ ps i=decide (cH ps<=i))->∀k,k<cH ps->List.getD ps k dy=List.getD (ps.filter fun p=> !p.Not) k dy
 |[],_,k,hk=>by simp[cH] at hk
 |p::ps,h,k,hk=>by
  have h0:=h 0 (by simp)
  have e0:i_ (p::ps) 0=p.Not:=rfl
  rw[e0,qH] at h0
  cases hp:p.Not with
  |true=>
   rw[hp] at h0
   have h0:=yT h0.symm
   rw[qH,hp] at hk
   simp only[if_true] at h0 hk;omega
  |false=>
   have ef:(p::ps).filter (fun p=> !p.Not)=p::ps.filter fun p=> !p.Not:=by rw[List.filter_cons,hp];rfl
   rw[ef]
   cases k with
   |zero=>rfl
   |succ k=>
    rw[qH,hp] at hk
    refine zX ps (fun i hi=> ?_) k (by simp only[wx,if_false] at hk;omega)
    have:=h (i+1) (by simpa using hi)
    rw[qH,hp] at this
    show i_ ps i=_
    refine(show i_ ps i=i_ (p::ps) (i+1) from rfl).trans (this.trans ?_)
    rw[decide_eq_decide];simp only[wx,if_false];omega
theorem vG{r:aV}(h:fI r=true):me r/\nb r:=by
 simp only[fI,cK] at h
 have hp:hU r.aB=true:=by rw[o7];exact h.1.1.2
 simp only[hU,cK,decide_eq_true_eq,fV,lG,fF,beq_iff_eq] at hp
 obtain⟨⟨h1,h2⟩,h3⟩:=hp
 refine⟨⟨h2.2,h1.2,fun p hp=> ?_⟩,fun k hk=>zX r.aB (fun i hi=>(h3 i hi).2) k hk⟩
 obtain⟨j,hj,rfl⟩:=ri hp
 have:=(h3 j hj).1.1.2
 rwa[eY,fo hj] at this
theorem uy{d:bB}(h:fz d=true):(∀r,r∈d.aw->me r/\nb r)/\d.aw.length<=12:=by
 simp only[fz,cK,decide_eq_true_eq,fV,jh] at h
 refine⟨fun r hr=> ?_,h.1.2.2⟩
 obtain⟨j,hj,rfl⟩:=ri hr
 have:=(h.2 j hj).1
 rw[eY,fo hj] at this
 exact vG this
theorem zI(r:aV)(s:List bH):∀(ps:List cn)(ids:List Int)(l:List b9),(∀p,p∈ps->p.ay.length<=5)->∀m,m∈oV r s ps ids l->m.eJ.length=ids.length+ps.length/\m.cr.length<=l.length+5*ps.length
 |[],ids,l,_,m,hm=>by
  simp only[oV] at hm
  split at hm
  ·rw[ma] at hm;subst hm;simp
  ·cases hm
 |p::ps,ids,l,h,m,hm=>by
  simp only[oV,nT] at hm
  obtain⟨x,hx,hm⟩:=hm
  split at hm
  ·rename_i more he
   have h1:=zI r s ps _ _ (fun q hq=>h q (by simp[hq])) m hm
   have h2:=CQ he
   have h3:=h p (by simp)
   simp only[kg,gv,fO] at h1⊢
   omega
  ·cases hm
theorem Eu{r:aV}{s:List bH}(h:me r){m:av}(hm:m∈jG r s):m.eJ.length<=3/\m.cr.length<=15:=by
 have h2:(l9 r).length<=3:=h.three
 have h1:=zI r s (l9 r) [] [] (fun p hp=>h.args p (wA.1 hp).1) m hm
 simp only[fO] at h1
 omega
theorem FP{rs:List aV}{s:List bH}(h:∀r,r∈rs->me r){m:av}(hm:m∈allM rs s):m.eJ.length<=3/\m.cr.length<=15:=by
 simp only[allM,JW,nT,lB,oN] at hm
 obtain⟨i,hi,m',ul,rfl⟩:=hm
 exact Eu (m:=m') (h _ (gQ hi)) ul
theorem Un(d:bB)(bZ:List av)(o:Option av)(x:av):fS d bZ o x=o\/fS d bZ o x=some x:=by
 unfold fS
 generalize (rS d bZ x&&_)=b
 cases b<;>simp
theorem IK{d:bB}{bZ:List av}:∀{l:List av}{o:Option av}{m:av},l.foldl (fS d bZ) o=some m->m∈l\/o=some m
 |[],o,m,h=> .inr h
 |x::l,o,m,h=>by
  rcases IK (l:=l) h with h|h
  ·exact .inl (by simp[h])
  ·rcases Un d bZ o x with e|e
   ·exact .inr (e.symm.trans h)
   ·rw[e] at h;cases h;exact .inl (by simp)
theorem E6{d:bB}{set bZ:List av}{m:av}(h:jn d set bZ=some m):m∈set:=by
 rcases IK h with h|h
 ·exact h
 ·cases h
def Z4:bp UU where
 α:=bB×ao
 md:=[.ro,.ro]
 of:=oC (oA .dZ) (o1 (oA .bD))
 ds:=fun x=>[dA .dZ x.1,dA .bD x.2]
 pre:=fun(d,x)=>[fz d=true,x.S.ab.length<=40]
 bT:=fun(d,x)=>⟨[dA .az (zN (jn d (allM d.aw x.S.ab) x.aD)),dO ((jn d (allM d.aw x.S.ab) x.aD).isSome)],[],[]⟩
 law:=lC (lA .dZ) (l1 (lA .bD))
def asO:Z4.α->Nat->Option (bY UU):=fun(d,x)=>aN []
def ao_:=us [aiV,aiW]
theorem aqy:Holds EE (78,Z4):=by
 refine holds_of ax func78 Z4 (by kernel_rfl) ao_ (aE _) asO (fun x hp hb=> ?_)
 obtain⟨d,x⟩:=x
 have bi:=iF (x:=d) (hb _ m0)
 have fE:=bi.1
 have ey:=bi.2
 have fg:=nQ (x:=x) (hb _ m1)
 have cw:=fg.1
 have dh:=fg.2.1
 have df:=fg.2.2.1
 have cI:=fg.2.2.2.1
 have de:=fg.2.2.2.2
 have bC:fz d=true:=hp _ m0
 have fT:x.S.ab.length<=40:=hp _ m1
 clear hp hb
 apply @ve _ (let x0:av:=zN (jn d (allM d.aw x.S.ab) x.aD);let q0:=Option.isSome (jn d (allM d.aw x.S.ab) x.aD);(∀(r:aV),r∈d.aw->me r)/\(x.S.ab.length<=40/\d.aw.length<=12)/\(∀(r:aV),r∈d.aw->nb r)/\(∀(m:av),m∈allM d.aw x.S.ab->m.eJ.length<=4294967296/\m.cr.length<=4294967296)/\Lf [DV.agg [CI x0.cN,CL .int x0.eJ,CL .b_ x0.cr],VB q0] [DV.agg [CI x0.cN,CL .int x0.eJ,CL .b_ x0.cr],VB q0]) (by kernel_rfl)
 dsimp only
 have h:=uy bC
 exact⟨fun r hr=>(h.1 r hr).1,⟨fT,h.2⟩,fun r hr=>(h.1 r hr).2,fun m hm=>by have:=FP (fun r hr=>(h.1 r hr).1) hm;omega,bN _⟩
def arS:HH:=⟨_,aqy⟩
def QG(f:aJ):Bool:=decide (f.Kind=ai)&&decide (f.aj.length=0)
def dM(e:cD):Bool:=
 bif decide (e.Kind=1) then bI e.F&&decide (e.Id=0)&&decide (e.N=0)&&decide (e.aW=ai)
 else bif decide (e.Kind=2) then QG e.F&&decide (1<=e.Id)&&decide (e.N=0)&&decide (e.aW=ai)
 else bif decide (e.Kind=3) then bI e.F&&decide (e.Id=0)&&decide (e.N=0)&&fH e.aW
 else bif decide (e.Kind=4) then bI e.F&&decide (e.Id=0)&&decide (0<=e.N/\e.N<=100000)&&decide (e.aW=ai)
 else bif decide (e.Kind=5)||decide (e.Kind=6) then QG e.F&&decide (e.Id=0)&&decide (e.N=0)&&decide (e.aW=ai) else false
def qT(m:av)(a:eX):cD:=if a.Kind=2 then⟨a.Kind,ta,List.getD m.eJ a.N.toNat 0,0,a.aW⟩ else⟨a.Kind,⟨a.Name,mz a.ay m.cr⟩,0,if a.Kind=4 then a.N else 0,a.aW⟩
def Gp(m:av)(a:eX):Bool:=(decide (a.Kind=2)||mA a.ay m.cr)&&dM (qT m a)
def ez(d:bB)(m:av):List eX:=(List.getD d.aw m.cN.toNat ct).bG
def CP(d:bB)(m:av):Bool:=jV d m&&decide (m.eJ.length=cH (List.getD d.aw m.cN.toNat ct).aB)
def lh(d:bB)(m:av):Bool:=fz d&&CP d m&&(ez d m).all (Gp m)
def mK(d:bB)(m:av):List cD:=if lh d m then(ez d m).map (qT m) else[]
theorem LO{d:bB}{m:av}(h:fz d=true)(h2:jV d m=true):fI (List.getD d.aw m.cN.toNat ct)=true:=by
 obtain⟨r1,r2⟩:=nN h2
 simp only[fz,cK,fV] at h
 have:=h.2 m.cN.toNat (by omega)
 simp only[jh,cK] at this
 exact this.1
theorem Mu{d:bB}{m:av}(h:fz d=true)(h2:CP d m=true):(ez d m).length<=6/\∀i:Int,0<=i->i<(ez d m).length->cW (List.getD (ez d m) i.toNat fP)=true/\((List.getD (ez d m) i.toNat fP).Kind=2->0<=(List.getD (ez d m) i.toNat fP).N/\(List.getD (ez d m) i.toNat fP).N<m.eJ.length):=by
 simp only[CP,cK,decide_eq_true_eq] at h2
 have hr:=LO h h2.1
 simp only[fI,kY,cK,decide_eq_true_eq] at hr
 obtain⟨⟨_,_⟩,⟨⟨_,hl⟩,ha⟩⟩:=hr
 refine⟨hl,fun i h0 hi=> ?_⟩
 rw[rh] at ha
 have hm:List.getD (ez d m) i.toNat fP∈ez d m:=by rw[eY,fo (by omega)];exact Ed _
 have hk:=ha _ hm
 generalize List.getD (ez d m) i.toNat fP=a at*
 simp only[mT,cK] at hk
 refine⟨hk.1.1,fun e=> ?_⟩
 have hd:=hk.1.2
 have hp:=hk.1.1
 simp only[gT,e,decide_true,u_,ql,decide_eq_false_iff_not] at hd
 simp only[cW,e,show¬((2:Int)=1) by decide,decide_false,cond_false,decide_true,cond_true,cK,decide_eq_true_eq] at hp
 omega
theorem LfE{a a':cD}{b b':Bool}(h1:a=a')(h2:b=b'):Lf [.agg [.lit (.int .i64 a.Kind),.lit (.string a.F.Kind),.sl .aM a.F.aj,.lit (.int .i64 a.Id),.lit (.int .i64 a.N),.lit (.string a.aW)],.one (.lit (.bool b))] [.agg [.lit (.int .i64 a'.Kind),.lit (.string a'.F.Kind),.sl .aM a'.F.aj,.lit (.int .i64 a'.Id),.lit (.int .i64 a'.N),.lit (.string a'.aW)],.one (.lit (.bool b'))]:=by
 subst h1 h2;exact bN _
theorem ak1{a a':List cD}{b b':Bool}(h1:a=a')(h2:b=b'):Lf [.one (.sl .dc a),.one (.lit (.bool b))] [.one (.sl .dc a'),.one (.lit (.bool b'))]:=by
 subst h1 h2;exact bN _
def Rg:bp UU where
 α:=cD
 md:=[.ro]
 of:=o1 (oA .dc)
 ds:=fun x=>[dA .dc x]
 pre:=fun _=>[]
 bT:=fun e=>⟨[dO (dM e)],[],[]⟩
 law:=l1 (lA .dc)
def ajA:Rg.α->Nat->Option (bY UU):=fun e=>aN []
def aew:=us [Lu,J4,sC]
theorem agh:Holds EE (189,Rg):=by
 refine holds_of ax func189 Rg (by kernel_rfl) aew (aE _) ajA (fun(e:cD) hp hb=> ?_)
 have bi:=DH (x:=e) (hb _ m0)
 have Jb:=bi.1
 have EB:=bi.2.1
 have Nu:=bi.2.2
 clear hp hb
 apply @ve _ (let x0:Bool:=e.Kind==5;let x1:Bool:=ByteArray.toList e.aW==ByteArray.toList {data:= #[]:BA};let x2:Bool:=e.Id==0;let x3:Bool:=(e.F.aj.length:Int)==0;let q0:=Lb false (dM e);let q1:=bif x2 then bif e.N==0 then Lb x1 (dM e) else q0 else q0;let q2:=bif bI e.F then bif x2 then bif e.N==0 then bif x1 then Lb true (dM e) else Lb (bm e.aW) (dM e) else q0 else q0 else q0;let q3:=bif bI e.F then bif x2 then bif decide (0<=e.N/\e.N<=100000) then Lb x1 (dM e) else q0 else q0 else q0;bif ByteArray.toList e.F.Kind==ByteArray.toList {data:= #[]:BA} then bif e.Kind==1 then bif bI e.F then q1 else q0 else bif e.Kind==3 then q2 else bif e.Kind==4 then q3 else bif e.Kind==2 then bif x3 then bif decide (e.Id≥1) then bif e.N==0 then Lb x1 (dM e) else q0 else q0 else q0 else bif x0 then bif x0 then bif x3 then q1 else q0 else q0 else bif e.Kind==6 then bif x3 then q1 else q0 else q0 else bif e.Kind==1 then bif bI e.F then q1 else q0 else bif e.Kind==3 then q2 else bif e.Kind==4 then q3 else bif e.Kind==2 then q0 else bif x0 then bif x0 then q0 else q0 else bif e.Kind==6 then q0 else q0) (by kernel_rfl)
 dsimp only
 have e1:∀s:BA,(ByteArray.toList s==ByteArray.toList {data:= #[]})=decide (s=ai):=fun s=>bx _ _
 have e2:((e.F.aj.length:Int)==0)=decide (e.F.aj.length=0):=by rw[H2];simp
 simp only[e1,e2,dM,QG,fH]
 repeat' (refine af (fun h=> ?_) (fun h=> ?_))
 all_goals (refine cj ?_;grind)
def aid:HH:=⟨_,agh⟩
def Rz:bp UU where
 α:=eX×av
 md:=[.ro,.ro]
 of:=oC (oA .cV) (o1 (oA .az))
 ds:=fun x=>[dA .cV x.1,dA .az x.2]
 pre:=fun(a,m)=>[a.Kind=2->0<=a.N/\a.N<m.eJ.length,a.ay.length<=4294967295]
 bT:=fun(a,m)=>⟨[dA .dc (qT m a),dO (Gp m a)],[],[]⟩
 law:=lC (lA .cV) (l1 (lA .az))
def ajT:Rz.α->Nat->Option (bY UU):=fun(a,m)=>aN []
def aeP:=us [aid,aic]
theorem agA:Holds EE (170,Rz):=by
 refine holds_of ax func170 Rz (by kernel_rfl) aeP (aE _) ajT (fun x hp hb=> ?_)
 obtain⟨a,m⟩:=x
 have bi:=AP (x:=a) (hb _ m0)
 have yR:=bi.1
 have yS:=bi.2.1
 have yQ:=bi.2.2
 have fg:=gZ (x:=m) (hb _ m1)
 have qN:=fg.1
 have m_:=fg.2
 have bC:a.Kind=2->0<=a.N/\a.N<m.eJ.length:=hp _ m0
 have fT:a.ay.length<=4294967295:=hp _ m1
 clear hp hb
 apply @ve _ (let q0:=(qT m a).F.Kind;let q1:=mz a.ay m.cr;let q2:=(qT m a).Kind;let q3:=(qT m a).aW;let q4:=(qT m a).Id;let q5:=(qT m a).N;bif a.Kind==2 then 0<=a.N/\a.N.toNat<m.eJ.length/\Lf [DV.agg [CI a.Kind,CS ({data:= #[]:BA}),CL .aM [],CI (List.getD m.eJ a.N.toNat 0),CI 0,CS a.aW],VB (dM {Kind:=a.Kind,F:={Kind:={data:= #[]:BA},aj:=[]:aJ},Id:=List.getD m.eJ a.N.toNat 0,N:=(0:Int),aW:=a.aW:cD})] [DV.agg [CI q2,CS q0,CL .aM (qT m a).F.aj,CI q4,CI q5,CS q3],VB (Gp m a)] else bif a.Kind==4 then a.ay.length<=4294967295/\bif mA a.ay m.cr then Lf [DV.agg [CI a.Kind,CS a.Name,CL .aM q1,CI 0,CI a.N,CS a.aW],VB (dM {Kind:=a.Kind,F:={Kind:=a.Name,aj:=mz a.ay m.cr:aJ},Id:=(0:Int),N:=a.N,aW:=a.aW:cD})] [DV.agg [CI q2,CS q0,CL .aM (qT m a).F.aj,CI q4,CI q5,CS q3],VB (Gp m a)] else Lf [DV.agg [CI a.Kind,CS a.Name,CL .aM q1,CI 0,CI a.N,CS a.aW],VB false] [DV.agg [CI q2,CS q0,CL .aM (qT m a).F.aj,CI q4,CI q5,CS q3],VB (Gp m a)] else a.ay.length<=4294967295/\bif mA a.ay m.cr then Lf [DV.agg [CI a.Kind,CS a.Name,CL .aM q1,CI 0,CI 0,CS a.aW],VB (dM {Kind:=a.Kind,F:={Kind:=a.Name,aj:=mz a.ay m.cr:aJ},Id:=(0:Int),N:=(0:Int),aW:=a.aW:cD})] [DV.agg [CI q2,CS q0,CL .aM (qT m a).F.aj,CI q4,CI q5,CS q3],VB (Gp m a)] else Lf [DV.agg [CI a.Kind,CS a.Name,CL .aM q1,CI 0,CI 0,CS a.aW],VB false] [DV.agg [CI q2,CS q0,CL .aM (qT m a).F.aj,CI q4,CI q5,CS q3],VB (Gp m a)]) (by kernel_rfl)
 dsimp only
 refine bo (fun h=> ?_) (fun h=>bo (fun h4=>⟨fT,af (fun g=> ?_) (fun g=> ?_)⟩) (fun h4=>⟨fT,af (fun g=> ?_) (fun g=> ?_)⟩))
 ·have e:qT m a=⟨a.Kind,ta,List.getD m.eJ a.N.toNat 0,0,a.aW⟩:=if_pos h
  exact⟨(bC h).1,by have:=bC h;omega,LfE (a:=⟨a.Kind,ta,List.getD m.eJ a.N.toNat 0,0,a.aW⟩) e.symm (by simp only[Gp,decide_eq_true h,Bool.true_or,u_,e];rfl)⟩
 all_goals have e0:qT m a=⟨a.Kind,⟨a.Name,mz a.ay m.cr⟩,0,if a.Kind=4 then a.N else 0,a.aW⟩:=if_neg h
 all_goals first|rw[if_pos h4] at e0|rw[if_neg h4] at e0
 ·exact LfE (a:=⟨a.Kind,⟨a.Name,mz a.ay m.cr⟩,0,a.N,a.aW⟩) e0.symm (by simp only[Gp,decide_eq_false h,show mA a.ay m.cr=true from g,Bool.or_true,u_,e0])
 ·exact LfE (a:=⟨a.Kind,⟨a.Name,mz a.ay m.cr⟩,0,a.N,a.aW⟩) e0.symm (by simp only[Gp,decide_eq_false h,show mA a.ay m.cr=false from g,W2,pF])
 ·exact LfE (a:=⟨a.Kind,⟨a.Name,mz a.ay m.cr⟩,0,0,a.aW⟩) e0.symm (by simp only[Gp,decide_eq_false h,show mA a.ay m.cr=true from g,Bool.or_true,u_,e0])
 ·exact LfE (a:=⟨a.Kind,⟨a.Name,mz a.ay m.cr⟩,0,0,a.aW⟩) e0.symm (by simp only[Gp,decide_eq_false h,show mA a.ay m.cr=false from g,W2,pF])
def air:HH:=⟨_,agA⟩
theorem GX{d:bB}{m:av}(h:lh d m=false):Lf [.one (.sl .dc []),.one (.lit (.bool false))] [.one (.sl .dc (mK d m)),.one (.lit (.bool (lh d m)))]:=
 ak1 (by rw[mK,h];rfl) h.symm
theorem Mf{d:bB}{m:av}(h:CP d m=false):lh d m=false:=by rw[lh,h];simp
theorem U_{d:bB}{m:av}(h:(ez d m).all (Gp m)=false):lh d m=false:=by rw[lh,h];simp
theorem QQ{d:bB}{m:av}(h:jV d m=true){i:Int}(h1:0<=i)(h2:i<(ez d m).length):(List.getD (ez d m) i.toNat fP).ay.length<=cT d:=by
 obtain⟨r1,r2⟩:=nN h
 have hs:=gU dD d.aw ct r1 r2
 have ht:=gU gO (ez d m) fP h1 h2
 have e:(List.getD d.aw m.cN.toNat ct).bG=ez d m:=rfl
 simp only[dD,e] at hs
 simp only[gO,kj] at ht
 have e2:qE (ez d m)=(ez d m).length+((ez d m).map gO).sum:=rfl
 simp only[cT,jJ]
 omega
def Sg:bp UU where
 α:=bB×av
 md:=[.ro,.ro]
 of:=oC (oA .dZ) (o1 (oA .az))
 ds:=fun x=>[dA .dZ x.1,dA .az x.2]
 pre:=fun(d,m)=>[cT d<=4294967295]
 bT:=fun(d,m)=>⟨[dL .dc (mK d m),dO (lh d m)],[],[]⟩
 law:=lC (lA .dZ) (l1 (lA .az))
def BV(d:bB)(m:av):List cD×Int×T2×T7×Unit->Prop:=fun(o,i,b,g,_)=>b=(d.Name,d.aw,())/\g=(m.cN,m.eJ,m.cr,())/\CP d m=true/\0<=i/\i<=(ez d m).length/\o=((ez d m).take i.toNat).map (qT m)/\((ez d m).drop i.toNat).all (Gp m)=(ez d m).all (Gp m)
def Bg(d:bB)(m:av):List cD×Int×T2×T7×Unit->Nat:=fun(o,i,b,g,_)=>(ez d m).length-i.toNat
def akw:Sg.α->Nat->Option (bY UU):=fun(d,m)=>aN [(6,bh [.slot 6 (6,1024) (.own .dc true),.slot 8 (8,1024) (.lit (.int .i64)),.box 2 (2,1024) [.lit .str,.shr .a_],.box 3 (3,1024) [.lit (.int .i64),.shr .int,.shr .b_]] (fun _=>BV d m) (Bg d m))]
def afs:=us [ahV,Vv,SJ,air]
theorem ahf:Holds EE (127,Sg):=by
 refine holds_of ax func127 Sg (by kernel_rfl) afs (aE _) akw (fun x hp hb=> ?_)
 obtain⟨d,m⟩:=x
 have bi:=iF (x:=d) (hb _ m0)
 have fE:=bi.1
 have ey:=bi.2
 have fg:=gZ (x:=m) (hb _ m1)
 have qN:=fg.1
 have m_:=fg.2
 have bC:cT d<=4294967295:=hp _ m0
 clear hp hb
 apply @ve _ (let x0:List eX:=(List.getD d.aw m.cN.toNat ct).bG;let q0:=Lf [VL .dc [],VB false] [VL .dc (mK d m),VB (lh d m)];cT d<=4294967295/\bif !fz d then q0 else bif !jV d m then q0 else 0<=m.cN/\m.cN.toNat<d.aw.length/\bif (m.eJ.length:Int) !=(↑(cH (List.getD d.aw m.cN.toNat ct).aB):Int) then q0 else 0<=m.cN/\m.cN.toNat<d.aw.length/\BV d m ([],0,(d.Name,d.aw,()),(m.cN,m.eJ,m.cr,()),())/\∀(y:List cD×Int×T9×WX×PUnit),let x2:av:={cN:=y.2.2.2.1.1,eJ:=y.2.2.2.1.2.1,cr:=y.2.2.2.1.2.2.1:av};let x4:Nat:=y.2.1.toNat;let x3:eX:=List.getD x0 x4 fP;let x1:List cD:=[qT x2 x3];let q1:=(y.1++x1,IntKind.wrap IntKind.i64 (y.2.1+1),(y.2.2.1.1,y.2.2.1.2.1,()),(y.2.2.2.1.1,y.2.2.2.1.2.1,y.2.2.2.1.2.2.1,()),());BV d m y->bif decide (y.2.1<(x0.length:Int)) then 0<=y.2.1/\x4<x0.length/\(x3.Kind=2->0<=x3.N/\x3.N<(y.2.2.2.1.2.1.length:Int))/\x3.ay.length<=4294967295/\bif !Gp x2 x3 then q0 else y.1.length+x1.length<=4294967296/\BV d m q1/\Bg d m q1<Bg d m y else Lf [VL .dc y.1,VB true] [VL .dc (mK d m),VB (lh d m)]) (by kernel_rfl)
 dsimp only
 refine⟨bC,bO (fun h=>GX (by rw[lh,show fz d=false from h];rfl)) (fun hd=>bO (fun h=>GX (Mf (by rw[CP,show jV d m=false from h];rfl))) (fun hr=> ?_))⟩
 obtain⟨r1,r2⟩:=nN hr
 refine⟨r1,by omega,n7 (fun h=>GX (Mf (by rw[CP,decide_eq_false (show¬m.eJ.length=cH (List.getD d.aw m.cN.toNat ct).aB by omega)];simp))) (fun hl=> ?_)⟩
 have UR:CP d m=true:=by rw[CP,show jV d m=true from hr,decide_eq_true (show m.eJ.length=cH (List.getD d.aw m.cN.toNat ct).aB by omega)];rfl
 obtain⟨ha1,ha2⟩:=Mu hd UR
 refine⟨r1,by omega,⟨rfl,rfl,UR,by omega,by omega,by simp,rfl⟩,?_⟩
 rintro⟨o,i,⟨b1,b2,⟨⟩⟩,⟨g1,g2,g3,⟨⟩⟩,⟨⟩⟩ ⟨hb,hg,-,h1,h2,rfl,hR⟩
 cases hb
 cases hg
 have hx:(List.getD d.aw m.cN.toNat ct).bG=ez d m:=rfl
 simp only[hx]
 refine aU (fun hc=> ?_) (fun hc=> ?_)
 ·obtain⟨a1,a2⟩:=ha2 i h1 hc
  have has:=QQ hr h1 hc
  rw[dE _ _ fP h1 hc] at hR
  refine⟨h1,by omega,a2,by omega,bO (fun g=> ?_) (fun g=> ?_)⟩
  ·exact GX (U_ (by rw[<-hR,show Gp m (List.getD (ez d m) i.toNat fP)=false from g];rfl))
  ·have g':Gp m (List.getD (ez d m) i.toNat fP)=true:=g
   rw[g',u_] at hR
   have hm:((ez d m).take i.toNat).map (qT m)++[qT m (List.getD (ez d m) i.toNat fP)]=((ez d m).take (i+1).toNat).map (qT m):=by rw[<-fD (ez d m) fP h1 hc,Kg];rfl
   rw[wrap_i64 (by omega) (by omega)]
   exact⟨by simp only[wv,oH,gv,fO];omega,⟨rfl,rfl,UR,by omega,by omega,hm,hR⟩,by simp only[Bg];omega⟩
 ·have e:(ez d m).drop i.toNat=[]:=List.drop_eq_nil_of_le (by omega)
  rw[e] at hR
  have hf:lh d m=true:=by rw[lh,UR,<-hR,show fz d=true from hd];rfl
  rw[dB (ez d m) (by omega)]
  exact ak1 (by rw[mK,if_pos hf]) hf.symm
def aiU:HH:=⟨_,ahf⟩
def pO(now:Int)(l:List aI):List aI:=l.filter fun x=>decide (x.At<=now)
def MS(now:Int)(l:List aI):List aI:=l.filter fun x=> !decide (x.At<=now)
theorem zY{α:Type}(p:α->Bool)(l:List α)(z:α){i:Int}(h1:0<=i)(h2:i<l.length):
  (l.take (i+1).toNat).filter p=(l.take i.toNat).filter p++(if p (l.getD i.toNat z) then[l.getD i.toNat z] else[]):=by
 rw[<-fD l z h1 h2,List.filter_append]
 congr 1
 simp only[List.filter_cons,List.filter_nil]
theorem vt{α:Type}(p:α->Bool)(l:List α)(n:Nat):((l.take n).filter p).length<=n:=
 wu (Kh _ _) (by simp;omega)
end
end AM
