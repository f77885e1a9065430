/- Functions of the program with their contracts: put together by gen/link.py for FnReplied. -/
import Derived.Test.YtpkdgcookaobfaaGreatDoorQAmLib
import Derived.Test.YtpkdgcookaobfaaGreatDoorQFReplied
import Derived.Lib.ItoaLen
import Derived.Lib.Join
import Derived.Test.YtpkdgcookaobfaaGreatDoorQShelf
namespace AM
open Go Go.Proofs.Tryz Go.IntKind
set_option linter.unusedVariables false
set_option linter.unusedSimpArgs false
set_option maxRecDepth 100000
noncomputable section
theorem WT:∀{l:List aS},l.all bB=true->eu l<=22*l.length
 |[],_=>by simp[eu]
 |x::l,h=>by
  simp only[QM,cJ] at h
  have h1:=WT h.2
  have h2:=Zs h.1
  simp only[eu,fK,wh,Mr,nX] at h1⊢
  omega
theorem p6{f:aK}(h:bD f=true):f.ah.length<=5/\db f<=145:=by
 simp only[bD,bu,cJ,decide_eq_true_eq] at h
 obtain⟨⟨⟨⟨⟨_,h1⟩,_⟩,_⟩,h2⟩,h3⟩:=h
 have:=WT h3
 simp only[db];omega
theorem wN{α:Type}(f:α->Nat)(B:Nat):∀(l:List α),(∀x∈l,f x<=B)->(l.map f).sum<=l.length*B
 |[],_=>by simp
 |x::l,h=>by
  have h1:=wN f B l (fun y hy=>h y (fA _ hy))
  have h2:=h x iy
  simp only[wh,Mr,fK,xy];omega
theorem yY{α:Type}{l:List α}{z:α}{p:Nat->Bool}{q:α->Prop}(h:allI l.length p=true)(hq:∀i,p i=true->q (l.getD i z)):∀x∈l,q x:=fun x hx=>by
 obtain⟨i,hi,rfl⟩:=sG hx
 have:=hq i (fY.1 h i hi)
 rwa[ez,fw hi] at this
theorem WU{u:BA}(h:fj u=true):u.size<=12:=by
 simp only[fj,bu,FI,cJ,decide_eq_true_eq] at h
 rcases h with rfl|h
 ·simp[ao]
 ·exact h.1.1.2
theorem jk{a b:Int}{P Q:Prop}(h1:¬a=b->P)(h2:a=b->Q):bif a !=b then P else Q:=ae (fun h=>h1 (by simpa using h)) (fun h=>h2 (by simpa using h))
def xY(f:aK)(jf:BA)(now:Int):aj:=⟨f,jf,1,0,now,dE⟩
def s9(l:List aj)(f:aK):Bool:=anyI l.length fun k=>decide ((l.getD k aD).F=f)
def fC(l:List aj)(f:aK)(jf:BA)(now:Int):List aj×Bool:=
 if s9 l f=true then(l,true) else if 30<=l.length then(l,false) else(l++[xY f jf now],true)
def oB(l:List aj)(f:aK)(jf:BA)(now:Int):Bool:=aW l&&bD f&&fj jf&&decide (0<=now/\now<=1000000000)
def ga(l:List aj)(f:aK)(jf:BA)(now:Int):List aj×Bool:=if oB l f jf now=true then fC l f jf now else(l,false)
theorem MT(l:List aj)(f:aK):decide (0<=placeOf l f)=s9 l f:=BT
theorem Kf{l:List aj}(h:aW l=true):l.length<=30:=by
 simp only[aW,cJ,decide_eq_true_eq] at h;exact h.1
def Ye:=bV (α:=(List aj)×aK×BA×Int) (qC (qL .ax) (qC (qA .dc) (qC qS (q1 qI)))) [.mv,.ro,.ro,.ro] (fun(l,f,jf,now)=>[L4 f.ah.length]) (fun(l,f,jf,now)=>⟨[dL .ax ((fC l f jf now).1),dO ((fC l f jf now).2)],[],[]⟩)
def Dr(l:List aj)(f:aK)(jf:BA)(now:Int):List aj×Int×T5×Unit->Prop:=fun(row,i,fb,_)=>row=l/\fb=(f.Kind,f.ah,())/\0<=i/\i<=l.length/\∀j:Nat,(j:Int)<i->decide ((l.getD j aD).F=f)=false
def CB(l:List aj)(f:aK)(jf:BA)(now:Int):List aj×Int×T5×Unit->Nat:=fun(row,i,fb,_)=>l.length-i.toNat
def ajK:AX Ye:=fun(l,f,jf,now)=>b_ [(2,aY [iO 0 .ax,iI 10,.box 5 (5,1024) [.lit .str,.shr .bc]] (fun _=>Dr l f jf now) (CB l f jf now))]
def TS:HH:=hF Ye func164 [FF,sw] ajK fun x hp hb=>by
 obtain⟨l,f,jf,now⟩:=x
 have j8:L9 l.length:=lu (hb _ m0)
 have gZ:=sj (x:=f) (hb _ m1)
 have rX:=gZ.1
 have ou:=gZ.2
 have VX:=Mp (s:=jf) (hb _ m2)
 have Ig:=Hs (n:=now) (hb _ m3)
 have bp:f.ah.length<=4294967296:=hp _ m0
 clear hp hb
 apply vE (let q0:=fC l f jf now;Dr l f jf now (l,0,(f.Kind,f.ah,()),())/\∀(y:List aj×Int×Uy×PUnit),let x1:={Kind:=y.2.2.1.1,ah:=y.2.2.1.2.1:aK};let x2:=y.2.1.toNat;let x3:=(y.1.length:Int);let x0:=[{F:=x1,aR:=jf,State:=(1:Int),bi:=(0:Int),ie:=now,V:={K:=(0:Int),N:=(0:Int),S:={data:= #[]:BA}:aS}:aj}];let q1:=(y.1,wrap i64 (y.2.1+1),(y.2.2.1.1,y.2.2.1.2.1,()),());Dr l f jf now y->bif decide (y.2.1<x3) then 0<=y.2.1/\x2<y.1.length/\x2<y.1.length/\x2<y.1.length/\bif decide ((y.1.getD x2 aD).F=x1) then Lf [VL .ax y.1,VB true] [VL .ax (q0.1),VB (q0.2)] else Dr l f jf now q1/\CB l f jf now q1<CB l f jf now y else bif decide (x3≥30) then Lf [VL .ax y.1,VB false] [VL .ax (q0.1),VB (q0.2)] else L4 y.2.2.1.2.1.length/\L4 (y.1.length+x0.length)/\Lf [VL .ax (y.1++x0),VB true] [VL .ax (q0.1),VB (q0.2)])
 dsimp only
 refine⟨⟨rfl,rfl,by omega,by omega,by intro j hj;omega⟩,?_⟩
 rintro⟨row,i,fb,⟨⟩⟩ ⟨rfl,rfl,h1,h2,hR⟩
 simp only
 refine ae ?_ ?_<;>intro hc
 ·have hc:=yT hc
  rw[wi]
  repeat' (first|refine And.intro (by omega) ?_|refine ae (fun h=> ?_) (fun h=> ?_)|fail)
  ·have ha:s9 row f=true:=iw (j:=i.toNat) (by omega) h
   simp only[fC,if_pos ha];exact aX _
  ·exact⟨⟨rfl,rfl,by omega,by omega,i_ h1 hR h⟩,by simp only[CB];omega⟩
 ·have hc:=yF hc
  have ha:¬s9 row f=true:=by
   rw[wu];exact gj fun j hj=>hR j (by omega)
  refine ae ?_ ?_<;>intro h
  ·have h:=yT h
   simp only[fC,if_neg ha,if_pos (show 30<=row.length by omega)];exact aX _
  ·have h:=yF h
   repeat' (first|refine And.intro (by first|omega|(simp;omega)) ?_|fail)
   simp only[fC,if_neg ha,if_neg (show¬30<=row.length by omega)];exact aX _
def agt:=bV (α:=(List aj)×aK×BA×Int) (qC (qL .ax) (qC (qA .dc) (qC qS (q1 qI)))) [.ro,.ro,.ro,.ro] (fun(l,f,jf,now)=>[L4 (ck l),L4 f.ah.length]) (fun(l,f,jf,now)=>⟨[dL .ax ((ga l f jf now).1),dO ((ga l f jf now).2)],[],[]⟩)
def aik:HH:=hF agt func176 [WD,abQ,Nz,TT,abP,ag9,Bx] a0 fun x hp hb=>by
 obtain⟨l,f,jf,now⟩:=x
 have j8:L9 l.length:=lu (hb _ m0)
 have gZ:=sj (x:=f) (hb _ m1)
 have rX:=gZ.1
 have ou:=gZ.2
 have VX:=Mp (s:=jf) (hb _ m2)
 have Ig:=Hs (n:=now) (hb _ m3)
 have bp:ck l<=4294967296:=hp _ m0
 have eN:f.ah.length<=4294967296:=hp _ m1
 clear hp hb
 apply vE (let x0:=[{F:=f,aR:=jf,State:=(1:Int),bi:=(0:Int),ie:=now,V:={K:=(0:Int),N:=(0:Int),S:={data:= #[]:BA}:aS}:aj}];let q0:=Lf [VL .ax l,VB false] [VL .ax ((ga l f jf now).1),VB ((ga l f jf now).2)];let q1:=ga l f jf now;L4 (ck l)/\bif !aW l then q0 else bif !bD f then q0 else bif !fj jf then q0 else bif !decide (0<=now/\now<=1000000000) then q0 else bif decide (placeOf l f≥0) then Lf [VL .ax l,VB true] [VL .ax (q1.1),VB (q1.2)] else bif (l.length:Int)==30 then q0 else L4 f.ah.length/\L4 (l.length+x0.length)/\Lf [VL .ax (l++x0),VB true] [VL .ax (q1.1),VB (q1.2)])
 dsimp only
 refine⟨bp,?_⟩
 have hN:oB l f jf now=false->Lf [.one (.sl .ax l),.one (.lit (.bool false))] [.one (.sl .ax (ga l f jf now).1),.one (.lit (.bool (ga l f jf now).2))]:=fun h=>by
  simp only[ga,h];exact aX _
 have Bb:decide (placeOf l f≥0)=s9 l f:=MT l f
 rw[Bb]
 repeat' (first|refine And.intro (by first|omega|(simp;omega)) ?_|refine ae (fun h=> ?_) (fun h=> ?_)|fail)
 all_goals first
  |(refine hN ?_;simp only[oB];grind)
  |(have hy:oB l f jf now=true:=by simp only[oB];grind
    have hlen:=Kf (l:=l) (by simp only[oB] at hy;grind)
    simp only[ga,hy,if_true,fC]
    first
     |(rw[if_pos (by assumption)];exact aX _)
     |(rw[if_neg (by simp_all),if_pos (by(try simp_all);omega)];exact aX _)
     |(rw[if_neg (by simp_all),if_neg (by simp_all;omega)];exact⟨by simp;omega,aX _⟩))
theorem mA{l:List aj}:aW l=true↔l.length<=30/\(∀t∈l,f_ t=true)/\(l.map aj.F).Nodup:=by
 have hg:∀{i:Nat}(h:i<l.length),l.getD i aD=l[i]:=fun{i} h=>by rw[ez,fw h];rfl
 simp only[aW,cJ,decide_eq_true_eq]
 refine and_congr_right fun _=> ?_
 rw[yZ]
 constructor
 ·intro h
  refine⟨fun t ht=> ?_,?_⟩
  ·obtain⟨i,hi,rfl⟩:=sG ht
   have:=h i hi
   simp only[jG,cJ] at this
   rw[<-hg hi];exact this.1
  ·rw[List.Nodup,UC]
   intro i j hi hj FQ
   simp only[xt] at hi hj
   have:=h j hj
   simp only[jG,cJ,ru] at this
   have:=oE.1 this.2 i FQ
   simp only[decide_eq_false_iff_not] at this
   rw[hg hi,hg hj] at this
   simpa using this
 ·rintro⟨h1,h2⟩ j hj
  simp only[jG,cJ,ru]
  refine⟨by rw[hg hj];exact h1 _ (FH hj),oE.2 fun i FQ=> ?_⟩
  have hi:i<l.length:=by omega
  rw[List.Nodup,UC] at h2
  have:=h2 i j (by simpa using hi) (by simpa using hj) FQ
  simp only[decide_eq_false_iff_not]
  rw[hg hi,hg hj]
  simpa using this
theorem AQ{l:List aj}{f:aj->aj}(hF:∀t,(f t).F=t.F)(hf:∀t,f_ t=true->f_ (f t)=true)(h:aW l=true):aW (l.map f)=true:=by
 rw[mA] at h⊢
 refine⟨by simpa using h.1,fun t ht=> ?_,?_⟩
 ·obtain⟨t0,h0,rfl⟩:=mf.1 ht
  exact hf _ (h.2.1 _ h0)
 ·rw[List.map_map]
  have:aj.F∘f=aj.F:=funext hF
  rw[this];exact h.2.2
theorem oZ{α β:Type}(g:α->β)(f:α->α)(hg:∀x,g (f x)=g x):∀(l:List α)(k:Nat),(l.modify k f).map g=l.map g
 |[],k=>by simp
 |x::l,0=>by simp[hg]
 |x::l,k+1=>by simp[oZ g f hg l k]
theorem fB{t:aj}:f_ t=true↔bD t.F=true/\fj t.aR=true/\(1<=t.State/\t.State<=4)/\(0<=t.bi/\t.bi<=4)/\(0<=t.ie/\t.ie<=1000001000)/\(t.V=dE\/bB t.V=true)/\((t.State=1->t.bi=0)/\(t.State=2->t.bi≠0)):=by
 simp only[f_,cJ,FI,decide_eq_true_eq]
 constructor
 ·rintro⟨⟨⟨⟨⟨⟨h1,h2⟩,h3⟩,h4⟩,h5⟩,h6⟩,h7⟩;exact⟨h1,h2,h3,h4,h5,h6,h7⟩
 ·rintro⟨h1,h2,h3,h4,h5,h6,h7⟩;exact⟨⟨⟨⟨⟨⟨h1,h2⟩,h3⟩,h4⟩,h5⟩,h6⟩,h7⟩
theorem P_(t:aj):(gx t).F=t.F:=by unfold gx;split<;>rfl
theorem pG{l:List aj}(h:aW l=true):aW (giveUp l)=true:=by
 refine AQ P_ (fun t h=> ?_) h
 obtain⟨a1,a2,a3,a4,a5,a6,a7⟩:=fB.1 h
 unfold gx;split
 ·exact fB.2 ⟨a1,a2,by simp,a4,a5,a6,by simp⟩
 ·exact h
theorem Le{l:List aj}{f:aK}:s9 l f=true↔f∈l.map aj.F:=by
 simp only[s9,yW,decide_eq_true_eq,mf]
 constructor
 ·rintro⟨j,hj,rfl⟩
  rw[ez,fw hj]
  exact⟨l[j],FH hj,rfl⟩
 ·rintro⟨t,ht,rfl⟩
  obtain⟨i,hi,rfl⟩:=sG ht
  exact⟨i,hi,by rw[ez,fw hi];rfl⟩
theorem nV{l:List aj}{f:aK}{u:BA}{now:Int}(h:aW l=true)(hf:bD f=true)(hu:fj u=true)(h0:0<=now)(h1:now<=1000001000):aW (fC l f u now).1=true:=by
 unfold fC;split
 ·exact h
 ·rename_i hn
  split
  ·exact h
  ·rename_i hl
   rw[mA] at h⊢
   refine⟨by simp only[ko,fK,fv];omega,fun t ht=> ?_,?_⟩
   ·rcases jC.1 ht with ht|ht
    ·exact h.2.1 t ht
    ·rw[mI.1 ht]
     exact fB.2 ⟨hf,hu,by simp[xY],by simp[xY],by simp only[xY];omega,.inl rfl,by simp[xY]⟩
   ·rw[J9,rK]
    refine⟨h.2.2,by simp,?_⟩
    intro x hx y hy e
    rw[Le] at hn
    simp only[wh,List.map_nil,mI] at hy
    rw[hy] at e;rw[e] at hx;exact hn hx
theorem uA{l:List aj}(h:aW l=true):l.length<=30/\ck l<=6000:=by
 obtain⟨h1,h2,_⟩:=mA.1 h
 have:=wN lB 180 l (fun t ht=>by
  obtain⟨a1,a2,_,_,_,a6,_⟩:=fB.1 (h2 t ht)
  have b1:=(p6 a1).2
  have b2:=WU a2
  have b3:nX t.V<=21:=by
   rcases a6 with e|e
   ·rw[e];decide
   ·exact Zs e
  simp only[lB];omega)
 simp only[ck];omega
theorem BM{l:List aN}(h:dl l=true):l.length<=30/\cR l<=6000:=by
 simp only[dl,cJ,decide_eq_true_eq] at h
 have:=wN h_ 145 l (yY (z:=cO) h.2 fun i hi=>by
  simp only[jF,iB,cJ] at hi
  exact(p6 hi.1.2).2)
 simp only[cR];omega
theorem uw{l:List bq}(h:cX l=true):l.length<=30/\(∀u∈l,bD u.F=true)/\bw l<=20000:=by
 simp only[cX,cJ,decide_eq_true_eq] at h
 have hf:∀u∈l,bD u.F=true:=yY (z:=bS) h.2 fun i hi=>by
  simp only[jE,cJ] at hi;exact hi.1.2
 have:=wN dq 345 l (yY (z:=bS) h.2 fun i hi=>by
  simp only[jE,cJ,decide_eq_true_eq] at hi
  have:=(p6 hi.1.2).2
  simp only[dq];omega)
 refine⟨h.1,hf,?_⟩
 simp only[bw];omega
theorem qH{l:List bq}(h:cX l=true)(hl:l≠[]):bD (bt l)=true:=by
 rw[bt,if_neg hl]
 have h0:l.length-1<l.length:=by have:=List.length_pos_iff.2 hl;omega
 rw[ez,fw h0]
 exact(uw h).2.1 _ (FH h0)
def rF(x:aq)(st:Int):aq:=⟨x.S,x.ay,giveUp x.ag,[],x.av,st,x.bR⟩
def uL(l:List aj)(f:aK):List aj:=l.filter fun t=> !decide (t.F=f)
def yl(l:List aj)(f:aK):List aj:=if 30<=(uL l f).length then[] else uL l f
def uE(x:aq):List aj:=(fC (yl x.ag (bt x.av)) (bt x.av) ao x.bR).1
def gD(x:aq):aq:=if x.av=[] then rF x (if x.State=5 then 6 else 4) else⟨x.S,x.ay,uE x,x.ap,x.av,x.State,x.bR⟩
def gq(x:aq)(st:Int):aq:=gD (rF x st)
def cz(x:aq):Prop:=aW x.ag=true/\cX x.av=true/\0<=x.bR/\x.bR<=1000000000
theorem G2{x:aq}(h:cz x)(st:Int):cz (rF x st):=⟨pG h.1,h.2⟩
theorem uz{l:List aj}(p:aj->Bool)(h:aW l=true):aW (l.filter p)=true:=by
 rw[mA] at h⊢
 refine⟨xr (Mq _ _) h.1,fun t ht=>h.2.1 t (zA.1 ht).1,?_⟩
 exact(List.filter_sublist.map aj.F).nodup h.2.2
theorem xG{l:List aj}(h:aW l=true)(f:aK):aW (yl l f)=true:=by
 unfold yl;split
 ·rfl
 ·exact uz _ h
theorem O6{x:aq}(h:cz x)(hu:x.av≠[]):(ga (yl x.ag (bt x.av)) (bt x.av) ao x.bR).1=uE x:=by
 have hc:oB (yl x.ag (bt x.av)) (bt x.av) ao x.bR=true:=by
  simp only[oB,xG h.1,qH h.2.1 hu,wq,cJ,decide_eq_true_eq]
  exact⟨rfl,h.2.2⟩
 unfold ga uE;rw[if_pos hc]
theorem DU{x:aq}(h:cz x)(hu:x.av≠[]):aW (uE x)=true:=
 nV (xG h.1 _) (qH h.2.1 hu) rfl h.2.2.1 (by have:=h.2.2.2;omega)
theorem xH{α:Type}{l:List α}{i:Nat}(z:α)(h:i<l.length):l.take (i+1)=l.take i++[l.getD i z]:=by
 rw[zcz h,ez,fw h];rfl
theorem mw{α:Type}(q:α->Bool){l:List α}{i:Nat}(z:α)(h:i<l.length):(l.take (i+1)).filter q=(l.take i).filter q++(if q (l.getD i z)=true then[l.getD i z] else[]):=by
 rw[xH z h,List.filter_append]
 congr 1
 generalize List.getD l i z=x
 by_cases hq:q x=true<;>simp[hq]
def L6:=bV (α:=List Int) (q1 (qL .int)) [.ro] (fun l=>[L4 l.length]) (fun l=>⟨[dL .int l],[],[]⟩)
def TX:AX L6:=fun l=>b_ []
def TF:List (FuncId×jY UU):=[]
theorem aeS:Bh EE TF f170 L6 TX [] .int [] true=(Lf [VL .int []] [VL .int []]):=by kernel_rfl
theorem aeP:Bh EE TF f170 L6 TX [] .int [] true:=by
 rw[aeS]
 exact aX _
theorem ae5:Holds EE (170,L6):=by
 refine zY rm func170 L6 (by kernel_rfl) rfl .int (fun x=>x) (fun _=>rfl) TF all_nil TX (fun(l:List Int) hp hb=> ?_)
 have j8:L9 l.length:=lu (hb _ m0)
 have bp:l.length<=4294967296:=hp _ m0
 clear hp hb
 refine⟨?_,fun h0=> ?_⟩
 rotate_left
 ·subst h0;exact aeP
 apply vE (0+l.length<=4294967296/\Lf [VL .int ([]++l)] [VL .int l])
 exact⟨by simp;omega,aX _⟩
def aip:HH:=⟨_,ae5⟩
def L5:=bV (α:=List bZ) (q1 (qL .cv)) [.ro] (fun l=>[L4 l.length]) (fun l=>⟨[dL .cv l],[],[]⟩)
def TW:AX L5:=fun l=>b_ []
def TE:List (FuncId×jY UU):=[]
theorem aeR:Bh EE TE f171 L5 TW [] .cv [] true=(Lf [VL .cv []] [VL .cv []]):=by kernel_rfl
theorem aeO:Bh EE TE f171 L5 TW [] .cv [] true:=by
 rw[aeR]
 exact aX _
theorem ae4:Holds EE (171,L5):=by
 refine zY rm func171 L5 (by kernel_rfl) rfl .cv (fun x=>x) (fun _=>rfl) TE all_nil TW (fun(l:List bZ) hp hb=> ?_)
 have j8:L9 l.length:=lu (hb _ m0)
 have bp:l.length<=4294967296:=hp _ m0
 clear hp hb
 refine⟨?_,fun h0=> ?_⟩
 rotate_left
 ·subst h0;exact aeO
 apply vE (0+l.length<=4294967296/\Lf [VL .cv ([]++l)] [VL .cv l])
 exact⟨by simp;omega,aX _⟩
def aio:HH:=⟨_,ae4⟩
def agY:=bV (α:=aw) (q1 (qA .aE)) [.ro] (fun m=>[L4 m.ee.length,L4 m.bz.length]) (fun m=>⟨[dA .aE m],[],[]⟩)
def aiV:HH:=hF agY func111 [aip,aio] a0 fun(m:aw) hp hb=>by
 have bp:m.ee.length<=4294967296:=hp _ m0
 have eN:m.bz.length<=4294967296:=hp _ m1
 clear hp hb
 apply vE (m.ee.length<=4294967296/\L4 m.bz.length/\Lf [DV.agg [CI m.cG,CL .int m.ee,CL .cv m.bz]] [DV.agg [CI m.cG,CL .int m.ee,CL .cv m.bz]])
 exact⟨bp,eN,aX _⟩
theorem D4(s:List bN){i:Int}(h1:0<=i)(h2:i<s.length):(s.getD i.toNat a_).F.ah.length<=cd s/\s.length<=cd s:=by
 have hs:=dV jR s a_ h1 h2
 simp only[jR,db,eu] at hs
 simp only[cd,jR,db,eu];omega
theorem D3(l:List aw){i:Int}(h1:0<=i)(h2:i<l.length):(l.getD i.toNat aZ).ee.length<=e_ l/\(l.getD i.toNat aZ).bz.length<=e_ l/\l.length<=e_ l:=by
 have hs:=dV jg l aZ h1 h2
 simp only[jg,rN,rO] at hs
 simp only[e_,jg,rN,rO];omega
def afB:=bV (α:=List aw) (q1 (qL .aE)) [.ro] (fun l=>[L4 (e_ l)]) (fun l=>⟨[dL .aE l],[],[]⟩)
def JN(l:List aw):List aw×Int×Unit->Prop:=fun(out,i,_)=>0<=i/\i<=l.length/\out=l.take i.toNat
def I_(l:List aw):List aw×Int×Unit->Nat:=fun(out,i,_)=>l.length-i.toNat
def apM:AX afB:=fun l=>b_ [(3,aY [iO 3 .aE,iI 8] (fun _=>JN l) (I_ l))]
def aoZ:HH:=hF afB func52 [aiV] apM fun(l:List aw) hp hb=>by
 have j8:L9 l.length:=lu (hb _ m0)
 have bp:e_ l<=4294967296:=hp _ m0
 clear hp hb
 apply vE (JN l ([],0,())/\∀(y:List aw×Int×PUnit),let x1:=y.2.1.toNat;let x0:=l.getD x1 aZ;let q0:=(y.1++[x0],wrap i64 (y.2.1+1),());JN l y->bif decide (y.2.1<(l.length:Int)) then 0<=y.2.1/\x1<l.length/\L4 x0.ee.length/\L4 x0.bz.length/\y.1.length+List.length [x0]<=4294967296/\JN l q0/\I_ l q0<I_ l y else Lf [VL .aE y.1] [VL .aE l])
 dsimp only
 refine⟨⟨by omega,by omega,by simp⟩,?_⟩
 rintro⟨out,i,⟨⟩⟩ ⟨h1,h2,rfl⟩
 simp only
 refine aV ?_ ?_<;>intro hc
 ·obtain⟨s1,s2,s3⟩:=D3 l h1 hc
  have hk:=dk l aZ h1 hc
  rw[wi]
  repeat' (first|refine And.intro (by first|omega|(simp only[fv];omega)) ?_|fail)
  exact⟨by simp only[oc,fK,fv];omega,⟨by omega,by omega,hk⟩,by simp only[I_];omega⟩
 ·rw[cE l (by omega)]
  exact aX _
def afw:=bV (α:=List aw) (q1 (qL .aE)) [.ro] (fun l=>[L4 (e_ l)]) (fun l=>⟨[dL .aE l],[],[]⟩)
def JI(l:List aw):List aw×Int×Unit->Prop:=fun(out,i,_)=>0<=i/\i<=l.length/\out=l.take i.toNat
def I6(l:List aw):List aw×Int×Unit->Nat:=fun(out,i,_)=>l.length-i.toNat
def apH:AX afw:=fun l=>b_ [(3,aY [iO 3 .aE,iI 4] (fun _=>JI l) (I6 l))]
def aoR:HH:=hF afw func63 [] apH fun(l:List aw) hp hb=>by
 have j8:L9 l.length:=lu (hb _ m0)
 have bp:e_ l<=4294967296:=hp _ m0
 clear hp hb
 apply vE (JI l ([],0,())/\∀(y:List aw×Int×PUnit),let x2:=y.2.1.toNat;let x1:=l.getD x2 aZ;let x0:=[{cG:=x1.cG,ee:=[]++x1.ee,bz:=[]++x1.bz:aw}];let q0:=(y.1++x0,wrap i64 (y.2.1+1),());JI l y->bif decide (y.2.1<(l.length:Int)) then 0<=y.2.1/\x2<l.length/\0<=y.2.1/\x2<l.length/\0+x1.ee.length<=4294967296/\0<=y.2.1/\x2<l.length/\0+x1.bz.length<=4294967296/\L4 (y.1.length+x0.length)/\JI l q0/\I6 l q0<I6 l y else Lf [VL .aE y.1] [VL .aE l])
 dsimp only
 refine⟨⟨by omega,by omega,by simp⟩,?_⟩
 rintro⟨out,i,⟨⟩⟩ ⟨h1,h2,rfl⟩
 simp only
 refine aV ?_ ?_<;>intro hc
 ·obtain⟨s1,s2,s3⟩:=D3 l h1 hc
  have hk:=dk l aZ h1 hc
  rw[wi]
  repeat' (first|refine And.intro (by first|omega|(simp only[fv];omega)) ?_|fail)
  exact⟨by simp only[oc,fK,fv];omega,⟨by omega,by omega,hk⟩,by simp only[I6];omega⟩
 ·rw[cE l (by omega)]
  exact aX _
def afC:=bV (α:=aF) (q1 (qA .cT)) [.ro] (fun s=>[L4 (cd s.ab)]) (fun s=>⟨[dA .cT s],[],[]⟩)
def JO(s:aF):Int×T3×T3×T3×Unit->Prop:=fun(i,b,r,g,_)=>b=(s.ab,s.Next,())/\r=([],0,())/\0<=i/\i<=s.ab.length/\g=(s.ab.take i.toNat,s.Next,())
def Ja(s:aF):Int×T3×T3×T3×Unit->Nat:=fun(i,b,r,g,_)=>s.ab.length-i.toNat
def apN:AX afC:=fun s=>b_ [(3,aY [iI 12,.box 1 (1,1024) [.shr .aJ,.lit (.int .i64)],.box 2 (2,1024) [.own .aJ true,.lit (.int .i64)],.box 3 (3,1024) [.own .aJ true,.lit (.int .i64)]] (fun _=>JO s) (Ja s))]
def ao0:HH:=hF afC func51 [Bx] apN fun(s:aF) hp hb=>by
 have jK:=kP (x:=s) (hb _ m0)
 have bp:cd s.ab<=4294967296:=hp _ m0
 clear hp hb
 apply vE (let q0:=List bN×Int×PUnit;JO s (0,(s.ab,s.Next,()),([],0,()),([],s.Next,()),())/\∀(y:Int×q0×q0×q0×PUnit),let x0:=[s.ab.getD y.1.toNat a_];let q1:=(wrap i64 (y.1+1),(y.2.1.1,y.2.1.2.1,()),(y.2.2.1.1,y.2.2.1.2.1,()),(y.2.2.2.1.1++x0,y.2.2.2.1.2.1,()),());JO s y->bif decide (y.1<(s.ab.length:Int)) then 0<=y.1/\y.1.toNat<s.ab.length/\(s.ab.getD y.1.toNat a_).F.ah.length<=4294967296/\L4 (y.2.2.2.1.1.length+x0.length)/\JO s q1/\Ja s q1<Ja s y else Lf [DV.agg [CL .aJ y.2.2.2.1.1,CI y.2.2.2.1.2.1]] [DV.agg [CL .aJ s.ab,CI s.Next]])
 dsimp only
 refine⟨⟨rfl,rfl,by omega,by omega,rfl⟩,?_⟩
 rintro⟨i,⟨b1,b2,⟨⟩⟩,⟨r1,r2,⟨⟩⟩,⟨g1,g2,⟨⟩⟩,⟨⟩⟩ ⟨hb,hr,h1,h2,hg⟩
 cases hb
 cases hr
 cases hg
 simp only
 refine aV ?_ ?_<;>intro hc
 ·obtain⟨s1,s2⟩:=D4 s.ab h1 hc
  have hk:=dk s.ab a_ h1 hc
  rw[wi]
  repeat' (first|refine And.intro (by omega) ?_|fail)
  exact⟨by simp only[oc,fK,fv];omega,⟨rfl,rfl,by omega,by omega,by rw[<-hk]⟩,by simp only[Ja];omega⟩
 ·rw[cE s.ab (by omega)]
  exact aX _
def afx:=bV (α:=aF) (q1 (qA .cT)) [.ro] (fun s=>[L4 (cd s.ab)]) (fun s=>⟨[dA .cT s],[],[]⟩)
def JJ(s:aF):Int×T3×T3×T3×Unit->Prop:=fun(i,b,r,g,_)=>b=(s.ab,s.Next,())/\r=([],0,())/\0<=i/\i<=s.ab.length/\g=(s.ab.take i.toNat,s.Next,())
def I7(s:aF):Int×T3×T3×T3×Unit->Nat:=fun(i,b,r,g,_)=>s.ab.length-i.toNat
def apI:AX afx:=fun s=>b_ [(3,aY [iI 4,.box 1 (1,1024) [.shr .aJ,.lit (.int .i64)],.box 2 (2,1024) [.own .aJ true,.lit (.int .i64)],.box 3 (3,1024) [.own .aJ true,.lit (.int .i64)]] (fun _=>JJ s) (I7 s))]
def aoS:HH:=hF afx func62 [sw] apI fun(s:aF) hp hb=>by
 have jK:=kP (x:=s) (hb _ m0)
 have bp:cd s.ab<=4294967296:=hp _ m0
 clear hp hb
 apply vE (let q0:=List bN×Int×PUnit;JJ s (0,(s.ab,s.Next,()),([],0,()),([],s.Next,()),())/\∀(y:Int×q0×q0×q0×PUnit),let x1:=y.2.1.1.getD y.1.toNat a_;let x3:=y.2.1.1.length;let x0:=[x1];let x2:=(↑x3:Int);let q1:=(wrap i64 (y.1+1),(y.2.1.1,y.2.1.2.1,()),(y.2.2.1.1,y.2.2.1.2.1,()),(y.2.2.2.1.1++x0,y.2.2.2.1.2.1,()),());JJ s y->bif decide (y.1<x2) then 0<=y.1/\y.1.toNat<x3/\0<=y.1/\y.1.toNat<x3/\L4 x1.F.ah.length/\L4 (y.2.2.2.1.1.length+x0.length)/\JJ s q1/\I7 s q1<I7 s y else Lf [DV.agg [CL .aJ y.2.2.2.1.1,CI y.2.2.2.1.2.1]] [DV.agg [CL .aJ s.ab,CI s.Next]])
 dsimp only
 refine⟨⟨rfl,rfl,by omega,by omega,rfl⟩,?_⟩
 rintro⟨i,⟨b1,b2,⟨⟩⟩,⟨r1,r2,⟨⟩⟩,⟨g1,g2,⟨⟩⟩,⟨⟩⟩ ⟨hb,hr,h1,h2,hg⟩
 cases hb
 cases hr
 cases hg
 simp only
 refine aV ?_ ?_<;>intro hc
 ·obtain⟨s1,s2⟩:=D4 s.ab h1 hc
  have hk:=dk s.ab a_ h1 hc
  rw[wi]
  repeat' (first|refine And.intro (by omega) ?_|fail)
  exact⟨by simp only[oc,fK,fv];omega,⟨rfl,rfl,by omega,by omega,by rw[<-hk]⟩,by simp only[I7];omega⟩
 ·rw[cE s.ab (by omega)]
  exact aX _
def aoq:=bV (α:=aq) (q1 (qA .cf)) [.ro] (fun x=>[L4 (cK x)]) (fun x=>⟨[dA .cf x],[],[]⟩)
def aph:HH:=hF aoq func18 [ao0,aoZ,WD,aoY,abO] a0 fun(x:aq) hp hb=>by
 have bp:cK x<=4294967296:=hp _ m0
 clear hp hb
 apply vE (cd x.S.ab<=4294967296/\L4 (e_ x.ay)/\L4 (ck x.ag)/\L4 (cR x.ap)/\L4 (bw x.av)/\Lf [DV.agg (aG x)] [DV.agg (aG x)])
 simp only[cK,jU] at bp
 repeat' (first|refine And.intro (by omega) ?_|fail)
 exact aX _
def aoo:=bV (α:=aq) (q1 (qA .cf)) [.ro] (fun x=>[L4 (cK x)]) (fun x=>⟨[dA .cf x],[],[]⟩)
def apf:HH:=hF aoo func20 [aoS,aoR,ahd,abN,abM] a0 fun(x:aq) hp hb=>by
 have bp:cK x<=4294967296:=hp _ m0
 clear hp hb
 apply vE (cd x.S.ab<=4294967296/\L4 (e_ x.ay)/\L4 (ck x.ag)/\L4 (cR x.ap)/\L4 (bw x.av)/\Lf [DV.agg (aG x)] [DV.agg (aG x)])
 simp only[cK,jU] at bp
 repeat' (first|refine And.intro (by omega) ?_|fail)
 exact aX _
theorem ll{a b:aq}(h:a=b):dJ [DV.box [.sl .aJ a.S.ab,CI a.S.Next,.sl .aE a.ay,.sl .ax a.ag,.sl .aI a.ap,.sl .aL a.av,CI a.State,CI a.bR]]=dJ [DV.box [.sl .aJ b.S.ab,CI b.S.Next,.sl .aE b.ay,.sl .ax b.ag,.sl .aI b.ap,.sl .aL b.av,CI b.State,CI b.bR]]:=by rw[h]
theorem akb{a a':List aj}(h:a=a'):Lf [.one (.sl .ax a)] [.one (.sl .ax a')]:=by subst h;exact aX _
def nr(p:List (DA UU)->Option Value)(t:aj):Bool:= !bL (p [cg t])
def Nq(l:List aj)(q:aj->Bool)(xs:List aj)(dd:Nat->Bool)(i j:Int):Prop:=0<=i/\i<j/\j<=l.length/\xs.length=l.length/\xs.take i.toNat=(l.take j.toNat).filter q/\(∀k,j.toNat<=k->k<l.length->xs.getD k aD=l.getD k aD)/\(∀k,k<i.toNat->dd k=false)/\(∀k,j.toNat<=k->dd k=false)
theorem filter_all{α:Type}(q:α->Bool)(l:List α)(z:α)(n:Nat)(h:∀k,k<n->k<l.length->q (l.getD k z)=true):(l.take n).filter q=l.take n:=by
 rw[List.filter_eq_self]
 intro a ha
 obtain⟨j,hj,rfl⟩:=List.mem_take_iff_getElem.1 ha
 have:=h j (by omega) (by omega)
 rwa[ez,fw (by omega)] at this
theorem Ta{l:List aj}{p:List (DA UU)->Option Value}(h:¬(jJ l.length fun j=>bL (p [cg (l.getD j aD)]))= -1):Nq l (nr p) l (fun _=>false) (jJ l.length fun j=>bL (p [cg (l.getD j aD)])) ((jJ l.length fun j=>bL (p [cg (l.getD j aD)]))+1):=by
 rcases ig l.length (fun j=>bL (p [cg (l.getD j aD)])) with⟨h1,_⟩|⟨i,h2,h1,h3,h4⟩
 ·exact absurd h1 h
 ·rw[h1]
  have e:((i:Int)+1).toNat=i+1:=by omega
  refine⟨by omega,by omega,by omega,rfl,?_,fun _ _ _=>rfl,fun _ _=>rfl,fun _ _=>rfl⟩
  rw[e,Zb,mw _ aD h2]
  have hk:nr p (l.getD i aD)=false:=by simp only[nr];rw[h3];rfl
  rw[hk,filter_all (nr p) l aD i (fun k hk _=>by simp only[nr];rw[h4 k hk];rfl)];simp
theorem S9{l:List aj}{p:List (DA UU)->Option Value}(h:(jJ l.length fun j=>bL (p [cg (l.getD j aD)]))= -1):l.filter (nr p)=l:=by
 rcases ig l.length (fun j=>bL (p [cg (l.getD j aD)])) with⟨_,h1⟩|⟨i,_,h1,_⟩
 ·have:=filter_all (nr p) l aD l.length (fun k hk _=>by simp only[nr];rw[h1 k hk];rfl)
  rwa[List.take_length] at this
 ·omega
theorem S_{l:List aj}{q:aj->Bool}{xs:List aj}{dd:Nat->Bool}{i j:Int}(h:Nq l q xs dd i j)(hj:j<l.length)(hq:q (l.getD j.toNat aD)=true):Nq l q (xs.set i.toNat (l.getD j.toNat aD)) (fun k=> !Nat.beq k i.toNat&&(Nat.beq k j.toNat||dd k)) (i+1) (j+1):=by
 obtain⟨g1,g2,g3,g4,g5,g6,g7,g8⟩:=h
 have ei:(i+1).toNat=i.toNat+1:=by omega
 have ej:(j+1).toNat=j.toNat+1:=by omega
 refine⟨by omega,by omega,by omega,by rw[Me];exact g4,?_,fun k h1 h2=> ?_,fun k hk=> ?_,fun k hk=> ?_⟩
 ·rw[ei,ej,mw _ aD (by omega),<-g5,hq,if_pos rfl,xH aD (by rw[Me];omega)]
  congr 1
  ·rw[List.take_set_of_le (by omega)]
  ·rw[ez,zdp (by omega)];rfl
 ·rw[ez,zek (by omega),<-ez]
  exact g6 k (by omega) h2
 ·show(!Nat.beq k i.toNat&&(Nat.beq k j.toNat||dd k))=false
  by_cases V2:k=i.toNat
  ·rw[V2];simp
  ·rw[g7 k (by omega),QK,show Nat.beq k j.toNat=false by rw[<-wu,J5];omega,vl]
 ·show(!Nat.beq k i.toNat&&(Nat.beq k j.toNat||dd k))=false
  rw[g8 k (by omega),QK,show Nat.beq k j.toNat=false by rw[<-wu,J5];omega,vl]
theorem S8{l:List aj}{q:aj->Bool}{xs:List aj}{dd:Nat->Bool}{i j:Int}(h:Nq l q xs dd i j)(hj:j<l.length)(hq:q (l.getD j.toNat aD)=false):Nq l q xs (fun k=>Nat.beq k j.toNat||dd k) i (j+1):=by
 obtain⟨g1,g2,g3,g4,g5,g6,g7,g8⟩:=h
 have ej:(j+1).toNat=j.toNat+1:=by omega
 refine⟨by omega,by omega,by omega,g4,?_,fun k h1 h2=>g6 k (by omega) h2,fun k hk=> ?_,fun k hk=> ?_⟩
 ·rw[ej,mw _ aD (by omega),<-g5,hq];simp
 ·show(Nat.beq k j.toNat||dd k)=false
  rw[g7 k hk,QK,show Nat.beq k j.toNat=false by rw[<-wu,J5];omega]
 ·show(Nat.beq k j.toNat||dd k)=false
  rw[g8 k (by omega),QK,show Nat.beq k j.toNat=false by rw[<-wu,J5];omega]
theorem G0{d:br}{x:aq}(h:instOk d x=true):cz x:=by
 simp only[instOk,cJ,decide_eq_true_eq] at h
 exact⟨h.1.1.1.1.1.1.1.2,h.1.1.1.1.1.2,h.1.1.1.2⟩
def Yb:=bV (α:=(List aj)×(List (DA UU)->Option Value)) (qC (qL .ax) (q1 qF)) [.mv,.ro] (fun(l,p)=>[∀j:Nat,j<l.length->p [cg (l.getD j aD)]=some (.bool (bL (p [cg (l.getD j aD)])))]) (fun(l,p)=>⟨[dL .ax (l.filter (nr p))],[],[]⟩)
def zn(l:List aj)(p:(List (DA UU)->Option Value)):(List aj×(Nat->Bool))×Int×Int×Unit->Prop:=fun((xs,dd),i,j,_)=>Nq l (nr p) xs dd i j
def tE(l:List aj)(p:(List (DA UU)->Option Value)):(List aj×(Nat->Bool))×Int×Int×Unit->Nat:=fun((xs,dd),i,j,_)=>l.length-j.toNat
def ajH:AX Yb:=fun(l,p)=>b_ [(5,aY [.slot 0 (0,1024) (.part .ax),iI 5,iI 6] (fun _=>zn l p) (tE l p))]
def aim:HH:=hF Yb func174 [WG] ajH fun x hp hb=>by
 obtain⟨l,p⟩:=x
 have j8:L9 l.length:=lu (hb _ m0)
 have bp:∀j:Nat,j<l.length->p [cg (l.getD j aD)]=some (.bool (bL (p [cg (l.getD j aD)]))):=hp _ m0
 clear hp hb
 apply vE (let x0:=jJ (l.length) fun(j:Nat)=>bL (p [cg (l.getD j aD)]);(∀(j:Nat),j<l.length->p [cg (l.getD j aD)]=some (Value.bool (bL (p [cg (l.getD j aD)]))))/\bif x0==(-1) then Lf [VL .ax l] [VL .ax (l.filter (nr p))] else zn l p ((l,fun(x:Nat)=>false),x0,wrap i64 (x0+1),())/\∀(y:(List aj×(Nat->Bool))×Int×Int×PUnit),let x4:=y.2.2.1.toNat;let x5:=y.fst.1.length;let x6:=Option.getD (some y.2.1) 0;let x9:=y.2.1.toNat;let x2:=y.fst.1.getD x4 aD;let x3:=(↑x5:Int);let x8:=Option.getD (some y.2.1) x3;let x1:=bL (p [{agg:=true,cs:=[CS x2.F.Kind,CL .bc x2.F.ah,CS x2.aR,CI x2.State,CI x2.bi,CI x2.ie,CI x2.V.K,CI x2.V.N,CS x2.V.S]:DA UU}]);let x7:=x8.toNat;let q0:=y.2.2.1+1;zn l p y->bif decide (y.2.2.1<x3) then 0<=y.2.2.1/\x4<x5/\x4<x5/\y.fst.2 x4=false/\p [{agg:=true,cs:=[CS x2.F.Kind,CL .bc x2.F.ah,CS x2.aR,CI x2.State,CI x2.bi,CI x2.ie,CI x2.V.K,CI x2.V.N,CS x2.V.S]:DA UU}]=some (Value.bool x1)/\bif !x1 then 0<=y.2.1/\x9<x5/\x9<x5/\zn l p ((y.fst.1.set x9 x2,fun(j:Nat)=> !Nat.beq j x9&&(Nat.beq j x4||y.fst.2 j)),wrap i64 (y.2.1+1),wrap i64 q0,())/\tE l p ((y.fst.1.set x9 x2,fun(j:Nat)=> !Nat.beq j x9&&(Nat.beq j x4||y.fst.2 j)),wrap i64 (y.2.1+1),wrap i64 q0,())<tE l p y else zn l p ((y.fst.1,fun(j:Nat)=>Nat.beq j x4||y.fst.2 j),y.2.1,wrap i64 q0,())/\tE l p ((y.fst.1,fun(j:Nat)=>Nat.beq j x4||y.fst.2 j),y.2.1,wrap i64 q0,())<tE l p y else 0<=x6/\x6<=Option.getD none x3/\Option.getD none x3<=x3/\x6.toNat<=Int.toNat (Option.getD none x3)/\Int.toNat (Option.getD none x3)=x5/\0<=Option.getD none (0:Int)/\Option.getD none (0:Int)<=x8/\x8<=x3/\Nat.le x7 x5/\(∀(i:Nat),i<x7->(y.fst.2 i||Nat.ble x6.toNat i)=false)/\Lf [VL .ax (y.fst.1.take x7)] [VL .ax (l.filter (nr p))])
 dsimp only
 refine⟨bp,bo (fun h=> ?_) (fun h=> ?_)⟩
 ·exact akb (S9 h).symm
 have hI:=Ta h
 have hI2:=hI
 obtain⟨h1,_,h2,_⟩:=hI2
 rw[wi]
 refine⟨hI,?_⟩
 clear hI h1 h2 h
 rintro⟨⟨xs,dd⟩,i,j,⟨⟩⟩ hI
 have hI:Nq l (nr p) xs dd i j:=hI
 have hI2:=hI
 obtain⟨g1,g2,g3,g4,g5,g6,g7,g8⟩:=hI2
 simp only[FR,QP]
 refine aV ?_ ?_<;>intro hc
 ·have ej:xs.getD j.toNat aD=l.getD j.toNat aD:=g6 _ (tX _) (by omega)
  rw[ej,wi (n:=i+1),wi (n:=j+1)]
  refine⟨by omega,by omega,by omega,g8 _ (tX _),bp j.toNat (by omega),bC (fun g=> ?_) (fun g=> ?_)⟩
  ·have hq:nr p (l.getD j.toNat aD)=true:=by
    show(!bL (p [cg (l.getD j.toNat aD)]))=true
    rw[show bL (p [cg (l.getD j.toNat aD)])=false from g];rfl
   exact⟨g1,by omega,by omega,S_ hI (by omega) hq,by simp only[tE];omega⟩
  ·have hq:nr p (l.getD j.toNat aD)=false:=by
    show(!bL (p [cg (l.getD j.toNat aD)]))=false
    rw[show bL (p [cg (l.getD j.toNat aD)])=true from g];rfl
   exact⟨S8 hI (by omega) hq,by simp only[tE];omega⟩
 ·have e:l.take j.toNat=l:=Uj (by omega)
  rw[e] at g5
  refine⟨by omega,by omega,by omega,by omega,by omega,by omega,by omega,by omega,(show i.toNat<=xs.length by omega),fun k hk=> ?_,akb g5⟩
  rw[g7 k hk,Gk,<-wu,QJ];omega
def agu:=bV (α:=aq×Int) (qC (qX .cf) (q1 qI)) [.box true,.ro] (fun(x,state)=>[aW x.ag=true]) (fun(x,state)=>⟨[],[],[dX .cf (rF x state)]⟩)
def YQ:HH:=hF agu func173 [ahU] a0 fun x hp hb=>by
 obtain⟨x,state⟩:=x
 have bp:aW x.ag=true:=hp _ m0
 clear hp hb
 apply vE (ck x.ag<=4294967296/\LM [] [] [DV.box [CL .aJ x.S.ab,CI x.S.Next,CL .aE x.ay,CL .ax (giveUp x.ag),CL .aI [],CL .aL x.av,CI state,CI x.bR]] [DV.box (aG (rF x state))])
 have:=(uA bp).2
 exact⟨by omega,rfl,rfl,rfl⟩
def Fu:jY UU where
 α:=aj×aK
 md:=[.ro,.ro]
 of:=oC (oA .ax) (o1 (oP .dc))
 ds:=fun x=>[dA .ax x.1,dP .dc x.2]
 pre:=fun _=>[]
 nY:=fun(t,f)=>⟨[dO (decide (t.F=f))],[],[]⟩
 law:=lC (lA .ax) (l1 (lP .dc))
def ail:HH:=hF Fu func175 [WE] a0 fun x hp hb=>by
 obtain⟨t,f⟩:=x
 clear hp hb
 apply vE (Lb (decide (t.F=f)) (decide (t.F=f)))
 exact aX _
def agV:=bV (α:=aq) (q1 (qX .cf)) [.box true] (fun x=>[cz x,x.State=3\/x.State=5]) (fun x=>⟨[],[],[dX .cf (gD x)]⟩)
def Y3:HH:=hF agV func114 [ain,YQ,aim,ail,aik] a0 fun(x:aq) hp hb=>by
 have bp:cz x:=hp _ m0
 clear hp hb
 apply vE (let x0:=x.ag.filter (nr (ff Fu [DV.ptr [CS ((bt x.av).Kind),CL .bc (bt x.av).ah]]));let q0:=bt x.av;let q1:=aG (gD x);L4 (bw x.av)/\bif !decide ¬x.av=[] then bif x.State==5 then aW x.ag=true/\LM [] [] [DV.box (aG (rF x 6))] [DV.box q1] else aW x.ag=true/\LM [] [] [DV.box (aG (rF x 4))] [DV.box q1] else(∀(j:Nat),j<x.ag.length->ff Fu [DV.ptr [CS (q0.Kind),CL .bc q0.ah]] [cg (x.ag.getD j aD)]=some (Value.bool (bL (ff Fu [DV.ptr [CS (q0.Kind),CL .bc q0.ah]] [cg (x.ag.getD j aD)]))))/\bif decide ((x0.length:Int)≥30) then ck []<=4294967296/\L4 q0.ah.length/\LM [] [] [DV.box [CL .aJ x.S.ab,CI x.S.Next,CL .aE x.ay,CL .ax (ga [] {Kind:=q0.Kind,ah:=q0.ah:aK} {data:= #[]:BA} x.bR).1,CL .aI x.ap,CL .aL x.av,CI x.State,CI x.bR]] [DV.box q1] else L4 (ck x0)/\L4 q0.ah.length/\LM [] [] [DV.box [CL .aJ x.S.ab,CI x.S.Next,CL .aE x.ay,CL .ax (ga {τ:=Cd.ax,xs:=x0:fu UU}.xs {Kind:=q0.Kind,ah:=q0.ah:aK} {data:= #[]:BA} x.bR).1,CL .aI x.ap,CL .aL x.av,CI x.State,CI x.bR]] [DV.box q1])
 dsimp only
 have QF:=bp
 obtain⟨q1,q2,q3,q4⟩:=bp
 have k3:=(uw q2).2.2
 have hc:∀t:aj,ff Fu [.ptr [.lit (.string (bt x.av).Kind),.sl .bc (bt x.av).ah]] [cg t]=some (.bool (decide (t.F=bt x.av))):=fun t=>se (x:=(t,bt x.av)) rfl rfl rfl rfl (by simp[Fu])
 have hx:x.ag.filter (nr (ff Fu [.ptr [.lit (.string (bt x.av).Kind),.sl .bc (bt x.av).ah]]))=uL x.ag (bt x.av):=by
  unfold uL;congr 1;funext t;unfold nr;rw[hc];rfl
 simp only[hx]
 have hs:=(uA (uz (fun t=> !decide (t.F=bt x.av)) q1)).2
 have hs:ck (uL x.ag (bt x.av))<=6000:=hs
 refine⟨by omega,bC (fun h=> ?_) (fun h=> ?_)⟩
 ·have hu:x.av=[]:=by simpa using h
  refine bo (fun g=>⟨q1,by trivial,by trivial,ll ?_⟩) (fun g=>⟨q1,by trivial,by trivial,ll ?_⟩)
  ·rw[gD,if_pos hu,if_pos g]
  ·rw[gD,if_pos hu,if_neg g]
 ·have hu:¬x.av=[]:=by simpa using h
  have hf:=(p6 (qH q2 hu)).1
  have e:=O6 QF hu
  have eb:gD x=⟨x.S,x.ay,uE x,x.ap,x.av,x.State,x.bR⟩:=if_neg hu
  refine⟨fun j hj=>by rw[hc];rfl,aV (fun g=> ?_) (fun g=> ?_)⟩
  ·rw[show yl x.ag (bt x.av)=[] from if_pos (by omega)] at e
   exact⟨by simp[ck],by omega,by trivial,by trivial,ll (a:=⟨x.S,x.ay,(ga [] (bt x.av) ao x.bR).1,x.ap,x.av,x.State,x.bR⟩) (by rw[e,eb])⟩
  ·rw[show yl x.ag (bt x.av)=uL x.ag (bt x.av) from if_neg (by omega)] at e
   exact⟨by omega,by omega,by trivial,by trivial,ll (a:=⟨x.S,x.ay,(ga (uL x.ag (bt x.av)) (bt x.av) ao x.bR).1,x.ap,x.av,x.State,x.bR⟩) (by rw[e,eb])⟩
def agU:=bV (α:=aq×Int) (qC (qX .cf) (q1 qI)) [.box true,.ro] (fun(x,state)=>[cz x,state=3\/state=5]) (fun(x,state)=>⟨[],[],[dX .cf (gq x state)]⟩)
def aiT:HH:=hF agU func116 [YQ,Y3] a0 fun x hp hb=>by
 obtain⟨x,state⟩:=x
 have bp:cz x:=hp _ m0
 have eN:state=3\/state=5:=hp _ m1
 clear hp hb
 apply vE (aW x.ag=true/\cz (rF x state)/\((rF x state).State=3\/(rF x state).State=5)/\LM [] [] [DV.box (aG (gD (rF x state)))] [DV.box (aG (gq x state))])
 exact⟨bp.1,G2 bp _,eN,rfl,rfl,rfl⟩
def an6:=bV (α:=aq) (q1 (qX .cf)) [.box true] (fun x=>[cz x]) (fun x=>⟨[],[],[dX .cf (gq x 3)]⟩)
def ahe:HH:=hF an6 func59 [aiT] a0 fun(x:aq) hp hb=>by
 have bp:cz x:=hp _ m0
 clear hp hb
 apply vE (cz x/\((3:Int)=(3:Int)\/(3:Int)=(5:Int))/\LM [] [] [DV.box (aG (gq x 3))] [DV.box (aG (gq x 3))])
 exact⟨bp,.inl rfl,rfl,rfl,rfl⟩
def agi:=bV (α:=aq×Int) (qC (qX .cf) (q1 qI)) [.box true,.ro] (fun(x,state)=>[aW x.ag=true]) (fun(x,state)=>⟨[],[],[dX .cf (rF x state)]⟩)
def YI:HH:=hF agi func210 [YT] a0 fun x hp hb=>by
 obtain⟨x,state⟩:=x
 have bp:aW x.ag=true:=hp _ m0
 clear hp hb
 apply vE (ck x.ag<=4294967296/\LM [] [] [DV.box [CL .aJ x.S.ab,CI x.S.Next,CL .aE x.ay,CL .ax (giveUp x.ag),CL .aI [],CL .aL x.av,CI state,CI x.bR]] [DV.box (aG (rF x state))])
 have:=(uA bp).2
 exact⟨by omega,rfl,rfl,rfl⟩
def Yf:=bV (α:=aq) (q1 (qX .cf)) [.box true] (fun x=>[cz x,x.State=3\/x.State=5]) (fun x=>⟨[],[],[dX .cf (gD x)]⟩)
def zp(x:aq):List aj×Int×T5×(List bN×Int×List aw×(List aj×(Nat->Bool))×List aN×List bq×Int×Int×Unit)×Unit->Prop:=fun(l,i,f,(gi,gn,gf,(gt,dd),gm,gu,gs,gw,_),_)=>f=((bt x.av).Kind,(bt x.av).ah,())/\(gi,gn,gf,gt,gm,gu,gs,gw)=(x.S.ab,x.S.Next,x.ay,x.ag,x.ap,x.av,x.State,x.bR)/\¬x.av=[]/\0<=i/\i<=x.ag.length/\l=uL (x.ag.take i.toNat) (bt x.av)/\∀k,i.toNat<=k->dd k=false
def tG(x:aq):List aj×Int×T5×(List bN×Int×List aw×(List aj×(Nat->Bool))×List aN×List bq×Int×Int×Unit)×Unit->Nat:=fun(l,i,f,(gi,gn,gf,(gt,dd),gm,gu,gs,gw,_),_)=>x.ag.length-i.toNat
def ajM:AX Yf:=fun x=>b_ [(7,aY [iO 4 .ax,iI 5,.box 2 (2,1024) [.lit .str,.own .bc true],.box 0 (2000000,0) [.own .aJ true,.lit (.int .i64),.own .aE true,.part .ax,.own .aI true,.own .aL true,.lit (.int .i64),.lit (.int .i64)]] (fun _=>zp x) (tG x))]
def YS:HH:=hF Yf func162 [ahY,YI,FF,TS] ajM fun(x:aq) hp hb=>by
 have eV:=nP (x:=x) (hb _ m0)
 have e8:=eV.1
 have gO:=eV.2.1
 have gN:=eV.2.2.1
 have fM:=eV.2.2.2.1
 have gM:=eV.2.2.2.2
 have bp:cz x:=hp _ m0
 have eN:x.State=3\/x.State=5:=hp _ m1
 clear hp hb
 apply vE (bw x.av<=4294967296/\bif !decide ¬x.av=[] then bif x.State==3 then aW x.ag=true/\LM [] [] [DV.box (aG (rF x 4))] [DV.box (aG (gD x))] else aW x.ag=true/\LM [] [] [DV.box (aG (rF x 6))] [DV.box (aG (gD x))] else zp x ([],0,((bt x.av).Kind,(bt x.av).ah,()),(x.S.ab,x.S.Next,x.ay,(x.ag,fun(x:Nat)=>false),x.ap,x.av,x.State,x.bR,()),())/\∀(y:List aj×Int×Uy×(List bN×Int×List aw×(List aj×(Nat->Bool))×List aN×List bq×Int×Int×PUnit)×PUnit),let x0:={Kind:=y.2.2.1.1,ah:={τ:=Cd.bc,xs:=y.2.2.1.2.1:fu UU}.xs:aK};let x3:=y.2.1.toNat;let x5:=y.2.2.2.1.2.2.2.1.1.length;let x6:=wrap i64 (y.2.1+1);let x2:=y.2.2.2.1.2.2.2.1.1.getD x3 aD;let x4:=(↑x5:Int);let x1:=[x2];let q0:=(y.1,x6,(y.2.2.1.1,y.2.2.1.2.1,()),(y.2.2.2.1.1,y.2.2.2.1.2.1,y.2.2.2.1.2.2.1,(y.2.2.2.1.2.2.2.1.1,y.2.2.2.1.2.2.2.1.2),y.2.2.2.1.2.2.2.2.1,y.2.2.2.1.2.2.2.2.2.1,y.2.2.2.1.2.2.2.2.2.2.1,y.2.2.2.1.2.2.2.2.2.2.2.1,()),());zp x y->bif decide (y.2.1<x4) then 0<=y.2.1/\x3<x5/\x3<x5/\y.2.2.2.1.2.2.2.1.2 x3=false/\y.2.2.2.1.2.2.2.1.2 x3=false/\x3<x5/\bif !decide (x2.F={Kind:=y.2.2.1.1,ah:=y.2.2.1.2.1:aK}) then 0<=y.2.1/\x3<x5/\x3<x5/\y.2.2.2.1.2.2.2.1.2 x3=false/\L4 (y.1.length+x1.length)/\zp x (y.1++x1,x6,(y.2.2.1.1,y.2.2.1.2.1,()),(y.2.2.2.1.1,y.2.2.2.1.2.1,y.2.2.2.1.2.2.1,(y.2.2.2.1.2.2.2.1.1,fun(j:Nat)=>Nat.beq j x3||y.2.2.2.1.2.2.2.1.2 j),y.2.2.2.1.2.2.2.2.1,y.2.2.2.1.2.2.2.2.2.1,y.2.2.2.1.2.2.2.2.2.2.1,y.2.2.2.1.2.2.2.2.2.2.2.1,()),())/\tG x (y.1++x1,x6,(y.2.2.1.1,y.2.2.1.2.1,()),(y.2.2.2.1.1,y.2.2.2.1.2.1,y.2.2.2.1.2.2.1,(y.2.2.2.1.2.2.2.1.1,fun(j:Nat)=>Nat.beq j x3||y.2.2.2.1.2.2.2.1.2 j),y.2.2.2.1.2.2.2.2.1,y.2.2.2.1.2.2.2.2.2.1,y.2.2.2.1.2.2.2.2.2.2.1,y.2.2.2.1.2.2.2.2.2.2.2.1,()),())<tG x y else zp x q0/\tG x q0<tG x y else bif decide ((y.1.length:Int)≥30) then L4 y.2.2.1.2.1.length/\LM [] [] [DV.box [CL .aJ y.2.2.2.1.1,CI y.2.2.2.1.2.1,CL .aE y.2.2.2.1.2.2.1,CL .ax (fC {τ:=Cd.ax,xs:=[]:fu UU}.xs x0 {data:= #[]:BA} y.2.2.2.1.2.2.2.2.2.2.2.1).1,CL .aI y.2.2.2.1.2.2.2.2.1,CL .aL y.2.2.2.1.2.2.2.2.2.1,CI y.2.2.2.1.2.2.2.2.2.2.1,CI y.2.2.2.1.2.2.2.2.2.2.2.1]] [DV.box (aG (gD x))] else L4 y.2.2.1.2.1.length/\LM [] [] [DV.box [CL .aJ y.2.2.2.1.1,CI y.2.2.2.1.2.1,CL .aE y.2.2.2.1.2.2.1,CL .ax (fC {τ:=Cd.ax,xs:=y.1:fu UU}.xs x0 {data:= #[]:BA} y.2.2.2.1.2.2.2.2.2.2.2.1).1,CL .aI y.2.2.2.1.2.2.2.2.1,CL .aL y.2.2.2.1.2.2.2.2.2.1,CI y.2.2.2.1.2.2.2.2.2.2.1,CI y.2.2.2.1.2.2.2.2.2.2.2.1]] [DV.box (aG (gD x))])
 dsimp only
 have QF:=bp
 obtain⟨q1,q2,q3,q4⟩:=bp
 have k3:=(uw q2).2.2
 have k4:=(uA q1).1
 refine⟨by omega,bC (fun h=> ?_) (fun h=> ?_)⟩
 ·have hu:x.av=[]:=by simpa using h
  refine bo (fun g=>⟨q1,by trivial,by trivial,ll ?_⟩) (fun g=>⟨q1,by trivial,by trivial,ll ?_⟩)
  ·rw[gD,if_pos hu,if_neg (by omega)]
  ·rw[gD,if_pos hu,if_pos (by omega)]
 have hu:¬x.av=[]:=by simpa using h
 have hf:=(p6 (qH q2 hu)).1
 have eb:gD x=⟨x.S,x.ay,uE x,x.ap,x.av,x.State,x.bR⟩:=if_neg hu
 refine⟨⟨rfl,rfl,hu,by omega,by omega,rfl,fun _ _=>rfl⟩,?_⟩
 rintro⟨l,i,⟨f1,f2,⟨⟩⟩,⟨gi,gn,gf,⟨gt,dd⟩,gm,gu,gs,gw,⟨⟩⟩,⟨⟩⟩ ⟨hF,hG,-,h1,h2,hl,hd⟩
 cases hF
 cases hG
 subst hl
 simp only
 refine aV ?_ ?_<;>intro hc
 ·have hn:i.toNat<x.ag.length:=by omega
  have ei:(i+1).toNat=i.toNat+1:=by omega
  have qR:=mw (fun t:aj=> !decide (t.F=bt x.av)) aD hn
  have hlen:(uL (x.ag.take i.toNat) (bt x.av)).length<=i.toNat:=xr (Mq _ _) (by simp;omega)
  rw[wi (n:=i+1)]
  refine⟨h1,hn,hn,hd _ (tX _),hd _ (tX _),hn,bC (fun g=> ?_) (fun g=> ?_)⟩
  ·refine⟨h1,hn,hn,hd _ (tX _),by simp only[fK,fv];omega,⟨rfl,rfl,hu,by omega,by omega,?_,fun k hk=> ?_⟩,by simp only[tG];omega⟩
   ·rw[ei];refine Eq.trans ?_ qR.symm
    rw[if_pos (by rw[show decide ((x.ag.getD i.toNat aD).F=bt x.av)=false from g];rfl)];rfl
   ·show(Nat.beq k i.toNat||dd k)=false
    rw[hd k (by omega),QK,<-wu,J5];omega
  ·refine⟨⟨rfl,rfl,hu,by omega,by omega,?_,fun k hk=>hd k (by omega)⟩,by simp only[tG];omega⟩
   rw[ei];refine Eq.trans ?_ qR.symm
   rw[if_neg (by rw[show decide ((x.ag.getD i.toNat aD).F=bt x.av)=true from g];decide),xu];rfl
 ·rw[cE x.ag (by omega)]
  refine aV (fun g=>⟨by omega,by trivial,by trivial,?_⟩) (fun g=>⟨by omega,by trivial,by trivial,?_⟩)
  ·refine ll (a:=⟨x.S,x.ay,(fC [] (bt x.av) ao x.bR).1,x.ap,x.av,x.State,x.bR⟩) ?_
   rw[eb,uE,show yl x.ag (bt x.av)=[] from if_pos (by omega)]
  ·refine ll (a:=⟨x.S,x.ay,(fC (uL x.ag (bt x.av)) (bt x.av) ao x.bR).1,x.ap,x.av,x.State,x.bR⟩) ?_
   rw[eb,uE,show yl x.ag (bt x.av)=uL x.ag (bt x.av) from if_neg (by omega)]
def ag6:=bV (α:=aq×Int) (qC (qX .cf) (q1 qI)) [.box true,.ro] (fun(x,state)=>[cz x,state=3\/state=5]) (fun(x,state)=>⟨[],[],[dX .cf (gq x state)]⟩)
def Md:HH:=hF ag6 func100 [YT,YS] a0 fun x hp hb=>by
 obtain⟨x,state⟩:=x
 have bp:cz x:=hp _ m0
 have eN:state=3\/state=5:=hp _ m1
 clear hp hb
 apply vE (let x1:={S:=x.S,ay:=x.ay,ag:=giveUp x.ag,ap:=[],av:=x.av,State:=state,bR:=x.bR:aq};let x0:=gD x1;L4 (ck x.ag)/\cz x1/\(state=3\/state=5)/\LM [] [] [DV.box (aG x0)] [DV.box (aG (gq x state))])
 dsimp only
 have:=(uA bp.1).2
 exact⟨by omega,G2 bp state,eN,rfl,rfl,rfl⟩
def rcs(l:List Value):List (AC UU):=l.map fun v=> .c (.lit v)
theorem WL{a b:Int}(h:a=b):dJ [DV.one (Cell.lit (Value.int .i64 a))]=dJ [DV.one (Cell.lit (Value.int .i64 b))]:=by rw[h]
def bQ(s:aF)(f:aK):aF×Int:=if¬ib s.ab f=0 then(s,ib s.ab f) else if 40<=s.ab.length\/s.Next=1000000 then(s,0) else(⟨s.ab++[⟨s.Next,f⟩],s.Next+1⟩,s.Next)
theorem ju{s:aF}(h:bm s=true):1<=s.Next/\s.Next<=1000000/\s.ab.length<=40/\(∀x∈s.ab,bD x.F=true/\1<=x.Id):=by
 simp only[bm,cJ,decide_eq_true_eq] at h
 refine⟨h.1.1.1,h.1.1.2,h.1.2,yY (z:=a_) h.2 fun i hi=> ?_⟩
 simp only[o7,jP,cJ,decide_eq_true_eq] at hi
 exact⟨hi.1.1.1.1,hi.1.1.1.2⟩
theorem N7{s:aF}(h:bm s=true)(f:aK):0<=ib s.ab f:=by
 unfold ib;split
 ·omega
 ·rename_i hn
  rcases ig s.ab.length (fun k=>decide ((s.ab.getD k a_).F=f)) with⟨h1,_⟩|⟨i,h2,h1,_,_⟩
  ·exact absurd h1 hn
  ·have e:EH s.ab f=(i:Int):=h1
   rw[e,Zb,ez,fw h2]
   have:=((ju h).2.2.2 _ (FH h2)).2
   show 0<=(s.ab[i]).Id
   omega
theorem Bq{s:aF}(h:bm s=true){f:aK}(h0:(bQ s f).2=0):(bQ s f).1=s:=by
 unfold bQ at h0⊢
 split
 ·rfl
 ·rename_i h1
  rw[if_neg h1] at h0
  split
  ·rfl
  ·rename_i h2
   rw[if_neg h2] at h0
   have:=(ju h).1
   simp only at h0;omega
def tR(x:aq)(s:aF):aq:=⟨s,x.ay,x.ag,x.ap,x.av,x.State,x.bR⟩
def dj(x:aq)(f:aK):aq:=if(bQ x.S f).2=0 then gq x 3 else tR x (bQ x.S f).1
theorem D0{d:br}{x:aq}(h:instOk d x=true):bm x.S=true:=by
 simp only[instOk,cJ] at h
 exact h.1.1.1.1.1.1.1.1.2
def ag0:=bV (α:=aF×aK) (qC (qA .cT) (q1 (qA .dc))) [.ro,.ro] (fun _=>[]) (fun(s,f)=>⟨[dI (ib s.ab f)],[],[]⟩)
def J0(s:aF)(f:aK):Int×T3×T5×Unit->Prop:=fun(i,b,g,_)=>b=(s.ab,s.Next,())/\g=(f.Kind,f.ah,())/\0<=i/\i<=s.ab.length/\∀j:Nat,(j:Int)<i->decide ((s.ab.getD j a_).F=f)=false
def Jk(s:aF)(f:aK):Int×T3×T5×Unit->Nat:=fun(i,b,g,_)=>s.ab.length-i.toNat
def ap0:AX ag0:=fun(s,f)=>b_ [(2,aY [iI 10,.box 2 (2,1024) [.shr .aJ,.lit (.int .i64)],.box 3 (3,1024) [.lit .str,.shr .bc]] (fun _=>J0 s f) (Jk s f))]
def aiW:HH:=hF ag0 func11 [WE] ap0 fun x hp hb=>by
 obtain⟨s,f⟩:=x
 have jK:=kP (x:=s) (hb _ m0)
 have gZ:=sj (x:=f) (hb _ m1)
 have rX:=gZ.1
 have ou:=gZ.2
 clear hp hb
 apply vE (J0 s f (0,(s.ab,s.Next,()),(f.Kind,f.ah,()),())/\∀(y:Int×NB×Uy×PUnit),let q0:=(wrap i64 (y.1+1),(y.2.1.1,y.2.1.2.1,()),(y.2.2.1.1,y.2.2.1.2.1,()),());J0 s f y->bif decide (y.1<(s.ab.length:Int)) then 0<=y.1/\y.1.toNat<s.ab.length/\bif decide ((s.ab.getD y.1.toNat a_).F={Kind:=y.2.2.1.1,ah:=y.2.2.1.2.1:aK}) then Li ((s.ab.getD y.1.toNat a_).Id) (ib s.ab f) else J0 s f q0/\Jk s f q0<Jk s f y else Li 0 (ib s.ab f))
 dsimp only
 refine⟨⟨rfl,rfl,by omega,by omega,by intro j hj;omega⟩,?_⟩
 rintro⟨i,⟨b1,b2,⟨⟩⟩,⟨g1,g2,⟨⟩⟩,⟨⟩⟩ ⟨rZ,hg,h1,h2,hR⟩
 cases rZ
 cases hg
 simp only
 refine aV ?_ ?_<;>intro hc
 ·rw[wi]
  refine⟨by omega,by omega,aV (fun h=>oM ?_) (fun h=>⟨⟨rfl,rfl,by omega,by omega,i_ (p:=fun j=>decide ((s.ab.getD j a_).F=f)) h1 hR (decide_eq_false h)⟩,by simp only[Jk];omega⟩)⟩
  have e:EH s.ab f=(i.toNat:Int):=fE (i:=i.toNat) (by omega) (decide_eq_true h) (fun j hj=>hR j (by omega))
  rw[ib,e,if_neg (by omega),Zb]
 ·refine oM ?_
  have e:EH s.ab f= -1:=jl (fun j hj=>hR j (by omega))
  rw[ib,if_pos e]
def TK:=aav 6 0 (α:=aF×aK) (qC (qX .cT) (q1 (qA .dc))) [.box true,.ro] (fun(s,f)=>[bm s=true,L4 f.ah.length]) (fun(s,f)=>⟨[dI ((bQ s f).2),dO (decide (¬(bQ s f).2=0))],[],[dX .cT ((bQ s f).1)]⟩)
def aj5:AX TK:=fun(s,f)=>b_ []
def ae0:=us [aiW,Bx]
theorem ae_:Holds EE (117,TK):=by
 refine zX rm func117 TK (by kernel_rfl) rfl ae0 (xD _) aj5 (fun x hp hb rest lJ=> ?_)
 obtain⟨s,f⟩:=x
 have bp:bm s=true:=hp _ m0
 have eN:f.ah.length<=4294967296:=hp _ m1
 clear hp hb
 have lJ:rest.length=6:=lJ
 match rest,lJ with
 |[r0,r1,r2,r3,r4,r5],_=>
 apply vE (let q0:=dJ [DV.box [CL .aJ s.ab,CI s.Next]]=dJ [DV.box [CL .aJ (bQ s f).1.ab,CI ((bQ s f).1.Next)]];let q1:=rcs [r0,r1,r2,r3,r4,r5];let q2:=decide ¬(bQ s f).2=0;let q3:=dJ [VI 0,VB false]=dJ [VI ((bQ s f).2),VB q2]/\q0;bif ib s.ab f !=0 then List.length (α:=AC UU) q1=List.length [r0,r1,r2,r3,r4,r5]/\q1=List.map (fun(v:Value)=>(AC.c (Cell.lit v):AC UU)) [r0,r1,r2,r3,r4,r5]/\dJ [VI (ib s.ab f),VB true]=dJ [VI ((bQ s f).2),VB q2]/\q0 else bif decide ((s.ab.length:Int)≥40) then List.length (α:=AC UU) q1=List.length [r0,r1,r2,r3,r4,r5]/\q1=List.map (fun(v:Value)=>(AC.c (Cell.lit v):AC UU)) [r0,r1,r2,r3,r4,r5]/\q3 else bif s.Next==1000000 then List.length (α:=AC UU) q1=List.length [r0,r1,r2,r3,r4,r5]/\q1=List.map (fun(v:Value)=>(AC.c (Cell.lit v):AC UU)) [r0,r1,r2,r3,r4,r5]/\q3 else L4 f.ah.length/\s.ab.length+List.length [{Id:=s.Next,F:=f:bN}]<=4294967296/\List.length (α:=AC UU) q1=List.length [r0,r1,r2,r3,r4,r5]/\q1=List.map (fun(v:Value)=>(AC.c (Cell.lit v):AC UU)) [r0,r1,r2,r3,r4,r5]/\dJ [VI (wrap i64 (wrap i64 (s.Next+1)-1)),VB true]=dJ [VI ((bQ s f).2),VB q2]/\dJ [DV.box [CL .aJ (s.ab++[{Id:=s.Next,F:=f:bN}]),CI (wrap i64 (s.Next+1))]]=dJ [DV.box [CL .aJ (bQ s f).1.ab,CI ((bQ s f).1.Next)]])
 dsimp only
 obtain⟨s1,s2,s3,s4⟩:=ju bp
 refine jk (fun h=>⟨rfl,rfl,?_⟩) (fun h=>aV (fun h2=>⟨rfl,rfl,?_⟩) (fun h2=>bo (fun h3=>⟨rfl,rfl,?_⟩) (fun h3=> ?_)))
 ·have e:bQ s f=(s,ib s.ab f):=if_pos h
  rw[e,decide_eq_true h];exact⟨rfl,rfl⟩
 ·have e:bQ s f=(s,0):=(if_neg (by omega)).trans (if_pos (.inl (by omega)))
  rw[e];exact⟨rfl,rfl⟩
 ·have e:bQ s f=(s,0):=(if_neg (by omega)).trans (if_pos (.inr h3))
  rw[e];exact⟨rfl,rfl⟩
 ·have e:bQ s f=(⟨s.ab++[⟨s.Next,f⟩],s.Next+1⟩,s.Next):=(if_neg (by omega)).trans (if_neg (by omega))
  rw[e,wi (n:=s.Next+1),wi,show s.Next+1-1=s.Next by omega,decide_eq_true (show¬(s.Next=0) by omega)]
  exact⟨eN,by simp only[fK,fv];omega,rfl,rfl,rfl,rfl⟩
def aiS:HH:=⟨_,ae_⟩
def Jm:=aav 6 0 (α:=aF×aK) (qC (qX .cT) (q1 (qA .dc))) [.box true,.ro] (fun(s,f)=>[bm s=true,L4 f.ah.length]) (fun(s,f)=>⟨[dI ((bQ s f).2)],[],[dX .cT ((bQ s f).1)]⟩)
def WJ:AX Jm:=fun(s,f)=>b_ []
def WB:=us [OS,sw]
theorem WC:Holds EE (104,Jm):=by
 refine zX rm func104 Jm (by kernel_rfl) rfl WB (xD _) WJ (fun x hp hb rest lJ=> ?_)
 obtain⟨s,f⟩:=x
 have bp:bm s=true:=hp _ m0
 have eN:f.ah.length<=4294967296:=hp _ m1
 clear hp hb
 have lJ:rest.length=6:=lJ
 match rest,lJ with
 |[r0,r1,r2,r3,r4,r5],_=>
 apply vE (let q0:=dJ [DV.box [CL .aJ s.ab,CI s.Next]]=dJ [DV.box [CL .aJ (bQ s f).1.ab,CI ((bQ s f).1.Next)]];let q1:=rcs [r0,r1,r2,r3,r4,r5];let q2:=bQ s f;let q3:=dJ [VI 0]=dJ [VI (q2.2)]/\q0;bif decide (ib s.ab f>0) then List.length (α:=AC UU) q1=List.length [r0,r1,r2,r3,r4,r5]/\q1=List.map (fun(v:Value)=>(AC.c (Cell.lit v):AC UU)) [r0,r1,r2,r3,r4,r5]/\dJ [VI (ib s.ab f)]=dJ [VI (q2.2)]/\q0 else bif decide ((s.ab.length:Int)≥40) then List.length (α:=AC UU) q1=List.length [r0,r1,r2,r3,r4,r5]/\q1=List.map (fun(v:Value)=>(AC.c (Cell.lit v):AC UU)) [r0,r1,r2,r3,r4,r5]/\q3 else bif decide (s.Next≥1000000) then List.length (α:=AC UU) q1=List.length [r0,r1,r2,r3,r4,r5]/\q1=List.map (fun(v:Value)=>(AC.c (Cell.lit v):AC UU)) [r0,r1,r2,r3,r4,r5]/\q3 else L4 f.ah.length/\s.ab.length+List.length [{Id:=s.Next,F:=f:bN}]<=4294967296/\List.length (α:=AC UU) q1=List.length [r0,r1,r2,r3,r4,r5]/\q1=List.map (fun(v:Value)=>(AC.c (Cell.lit v):AC UU)) [r0,r1,r2,r3,r4,r5]/\dJ [VI (wrap i64 (wrap i64 (s.Next+1)-1))]=dJ [VI (q2.2)]/\dJ [DV.box [CL .aJ (s.ab++[{Id:=s.Next,F:=f:bN}]),CI (wrap i64 (s.Next+1))]]=dJ [DV.box [CL .aJ q2.1.ab,CI (q2.1.Next)]])
 dsimp only
 obtain⟨s1,s2,s3,s4⟩:=ju bp
 have h0:=N7 bp f
 refine aV (fun h=>⟨rfl,rfl,?_⟩) (fun h=>aV (fun h2=>⟨rfl,rfl,?_⟩) (fun h2=>aV (fun h3=>⟨rfl,rfl,?_⟩) (fun h3=> ?_)))
 ·have e:bQ s f=(s,ib s.ab f):=if_pos (by omega)
  rw[e];exact⟨rfl,rfl⟩
 ·have e:bQ s f=(s,0):=(if_neg (by omega)).trans (if_pos (.inl (by omega)))
  rw[e];exact⟨rfl,rfl⟩
 ·have e:bQ s f=(s,0):=(if_neg (by omega)).trans (if_pos (.inr (by omega)))
  rw[e];exact⟨rfl,rfl⟩
 ·have e:bQ s f=(⟨s.ab++[⟨s.Next,f⟩],s.Next+1⟩,s.Next):=(if_neg (by omega)).trans (if_neg (by omega))
  rw[e,wi (n:=s.Next+1),wi,show s.Next+1-1=s.Next by omega]
  exact⟨eN,by simp only[fK,fv];omega,rfl,rfl,rfl,rfl⟩
def WH:HH:=⟨_,WC⟩
def an5:=bV (α:=aq×aK) (qC (qX .cf) (q1 (qA .dc))) [.box true,.ro] (fun(x,f)=>[cz x,bm x.S=true,L4 f.ah.length]) (fun(x,f)=>⟨[],[],[dX .cf (dj x f)]⟩)
def aoU:HH:=hF an5 func60 [aiS,ahe] a0 fun x hp hb=>by
 obtain⟨x,f⟩:=x
 have bp:cz x:=hp _ m0
 have eN:bm x.S=true:=hp _ m1
 have GS:f.ah.length<=4294967296:=hp _ m2
 clear hp hb
 apply vE (let x1:={S:=(bQ {ab:={τ:=Cd.aJ,xs:=x.S.ab:fu UU}.xs,Next:=x.S.Next:aF} {Kind:=f.Kind,ah:=f.ah:aK}).1,ay:=x.ay,ag:=x.ag,ap:=x.ap,av:=x.av,State:=x.State,bR:=x.bR:aq};let x0:=gq x1 3;let q0:=bQ {ab:={τ:=Cd.aJ,xs:=x.S.ab:fu UU}.xs,Next:=x.S.Next:aF} {Kind:=f.Kind,ah:=f.ah:aK};bm x.S=true/\L4 f.ah.length/\bif !decide ¬q0.2=0 then cz x1/\LM [] [] [DV.box (aG x0)] [DV.box (aG (dj x f))] else LM [] [] [DV.box [CL .aJ q0.1.ab,CI (q0.1.Next),CL .aE x.ay,CL .ax x.ag,CL .aI x.ap,CL .aL x.av,CI x.State,CI x.bR]] [DV.box (aG (dj x f))])
 dsimp only
 have hS:(⟨x.S.ab,x.S.Next⟩:aF)=x.S:=rfl
 have hF:(⟨f.Kind,f.ah⟩:aK)=f:=rfl
 simp only[hS,hF]
 refine⟨eN,GS,bC (fun h=> ?_) (fun h=> ?_)⟩
 ·have h:(bQ x.S f).2=0:=by simpa using h
  have hz:=Bq eN h
  have e:dj x f=gq x 3:=if_pos h
  rw[e,hz]
  exact⟨bp,by trivial,by trivial,rfl⟩
 ·have h:¬(bQ x.S f).2=0:=by simpa using h
  have e:dj x f=tR x (bQ x.S f).1:=if_neg h
  rw[e]
  exact⟨by trivial,by trivial,rfl⟩
def agJ:=bV (α:=aq×aK) (qC (qX .cf) (q1 (qA .dc))) [.box true,.ro] (fun(x,f)=>[cz x,bm x.S=true,L4 f.ah.length]) (fun(x,f)=>⟨[],[],[dX .cf (dj x f)]⟩)
def Ma:HH:=hF agJ func133 [WH,Md] a0 fun x hp hb=>by
 obtain⟨x,f⟩:=x
 have bp:cz x:=hp _ m0
 have eN:bm x.S=true:=hp _ m1
 have GS:f.ah.length<=4294967296:=hp _ m2
 clear hp hb
 apply vE (let x1:={S:=(bQ {ab:={τ:=Cd.aJ,xs:=x.S.ab:fu UU}.xs,Next:=x.S.Next:aF} {Kind:=f.Kind,ah:=f.ah:aK}).1,ay:=x.ay,ag:=x.ag,ap:=x.ap,av:=x.av,State:=x.State,bR:=x.bR:aq};let x0:=gq x1 3;let q0:=bQ {ab:={τ:=Cd.aJ,xs:=x.S.ab:fu UU}.xs,Next:=x.S.Next:aF} {Kind:=f.Kind,ah:=f.ah:aK};bm x.S=true/\L4 f.ah.length/\bif q0.2==0 then cz x1/\((3:Int)=(3:Int)\/(3:Int)=(5:Int))/\LM [] [] [DV.box (aG x0)] [DV.box (aG (dj x f))] else LM [] [] [DV.box [CL .aJ q0.1.ab,CI (q0.1.Next),CL .aE x.ay,CL .ax x.ag,CL .aI x.ap,CL .aL x.av,CI x.State,CI x.bR]] [DV.box (aG (dj x f))])
 dsimp only
 have hS:(⟨x.S.ab,x.S.Next⟩:aF)=x.S:=rfl
 have hF:(⟨f.Kind,f.ah⟩:aK)=f:=rfl
 simp only[hS,hF]
 refine⟨eN,GS,bo (fun h=> ?_) (fun h=> ?_)⟩
 ·have hz:=Bq eN h
  have e:dj x f=gq x 3:=if_pos h
  rw[e,hz]
  exact⟨bp,.inl trivial,by trivial,by trivial,rfl⟩
 ·have e:dj x f=tR x (bQ x.S f).1:=if_neg h
  rw[e]
  exact⟨by trivial,by trivial,rfl⟩
open Go.RowKit
def rV(n:Int):BA:=⟨(Go.Lib.itoa n).toArray⟩
def EG(l:List BA)(sep:BA):BA:=⟨(Go.Lib.join (l.map (fun s=>s.data.toList)) sep.data.toList).toArray⟩
theorem P'{w:World}{k:Nat}{os:Array Obj}:hU (fun _=>False) w (Go.Sort.grow (w.drewN k) os):=by
 refine⟨rfl,rfl,rfl,?_,fun i hi _=> ?_⟩
 ·show w.heap.size<=(w.heap++os).size
  simp
 ·show(w.heap++os)[i]? =_
  rw[Array.getElem?_append_left hi]
def agn:jY UU where
 α:=Int
 md:=[.ro]
 of:=o1 oI
 ds:=fun x=>[dI x]
 pre:=fun _=>[]
 nY:=fun n=>⟨[dS (rV n)],[],[]⟩
 law:=l1 lI
theorem ae3:Holds EE (195,agn):=by
 refine⟨⟨_,func195,by kernel_rfl,by kernel_rfl⟩,?_⟩
 refine Gw rfl fun(n:Int) _ w F vs ls hF BF n9=> ?_
 obtain⟨v,rfl,hv⟩:=ZP n9
 obtain⟨_,rfl,hl⟩:=hv.kc
 have hb: -9223372036854775808<=n/\n<=9223372036854775807:=hl.2
 refine⟨_,rfl,rfl,rfl,⟨rfl,?_⟩,(strconv_Itoa n hb.1 hb.2 w (ZG BF)).mono ?_⟩
 ·have:=Go.Lib.itoa_length_le n hb.1 hb.2
  show(ByteArray.mk _).size<=_
  simp only[rV,ByteArray.size,UD]
  omega
 ·rintro e w' ⟨rfl,k,os,rfl⟩
  exact⟨rfl,P'⟩
def ah7:HH:=⟨_,ae3⟩
def agA:jY UU where
 α:=(List BA)×BA
 md:=[.ro,.ro]
 of:=oC (oL .str) (o1 oS)
 ds:=fun x=>[dL .str x.1,dS x.2]
 pre:=fun(l,sep)=>[(EG l sep).size<=140737488355328,l.length<=140737488355328]
 nY:=fun(l,sep)=>⟨[dS (EG l sep)],[],[]⟩
 law:=lC (lL .str) (l1 lS)
theorem ae':Holds EE (154,agA):=by
 refine⟨⟨_,func154,by kernel_rfl,by kernel_rfl⟩,?_⟩
 refine Gw rfl fun(x:List BA×BA) hp w F vs ls hF BF n9=> ?_
 obtain⟨l,sep⟩:=x
 have bp:(EG l sep).size<=140737488355328:=hp _ iy
 have eN:l.length<=140737488355328:=hp _ (fA _ iy)
 obtain⟨u,v,rfl,hu,hv⟩:=ZO n9
 obtain⟨_,rfl,hl⟩:=hv.kc
 refine⟨_,rfl,rfl,rfl,⟨rfl,by omega⟩,?_⟩
 rcases hu.inv with⟨h0,a,c,rfl⟩|⟨b,off,cap,vs,rfl,hb,hc,pi,hr⟩
 ·subst h0
  refine(strings_Join_none a c sep w).mono ?_
  rintro e w' ⟨rfl,rfl⟩
  exact⟨rfl,hU.refl _ _⟩
 ·refine(strings_Join b off cap l sep w (fun j x hj=> ?_) (hF b hb) eN hc (by simpa[EG,ByteArray.size] using bp)).mono ?_
  ·have h1:=hr j x 0 (.lit (.string x)) hj rfl
   have ue:j<l.length:=by
    rcases pe j l.length with h|h
    ·exact h
    ·rw[od h] at hj;cases hj
   have h2:=pi j (by show j<l.length*1;omega)
   have e:j*UU.wd .str+0=j:=by show j*1+0=j;omega
   rw[e] at h1
   rw[h2,(h1.kc).2.1]
  ·rintro e w' ⟨rfl,hbe⟩
   exact⟨rfl,hU.below hbe⟩
def aiy:HH:=⟨_,ae'⟩
def ub(l:List UInt8):BA:=⟨l.toArray⟩
theorem kF(a b:List UInt8):ub a++ub b=ub (a++b):=by
 apply ByteArray.ext
 simp[ub]
theorem M1(s:BA):ub (bs s)=s:=by
 apply ByteArray.ext
 simp[ub,bs]
theorem abF(l:List UInt8):bs (ub l)=l:=by simp[ub,bs]
theorem fW(l:List UInt8):(ub l).size=l.length:=by simp[ub,ByteArray.size]
theorem OG(s:BA)(l:List UInt8):s++ub l=ub (bs s++l):=by rw[<-kF,M1]
def oT(v:aS):List UInt8:=if v.K=1 then Go.Lib.itoa v.N else 39::(bs v.S++[39])
def xC(l:List aS):List UInt8:=40::(Go.Lib.join (l.map oT) [44]++[41])
def l5(v:aS):BA:=if bB v=true then ub (oT v) else ao
def bg(f:aK):BA:=if bD f=true then ub (bs f.Kind++xC f.ah) else ao
theorem R8(l:List BA)(s:BA):EG l s=ub (Go.Lib.join (l.map bs) (bs s)):=rfl
theorem pQ(n:Int):rV n=ub (Go.Lib.itoa n):=rfl
theorem GO(l:List (List UInt8))(x sep:List UInt8):Go.Lib.join (l++[x]) sep=if l=[] then x else Go.Lib.join l sep++(sep++x):=by
 cases l with
 |nil=>simp[Go.Lib.join_one]
 |cons y r=>
  rw[zex,Go.Lib.join_cons,Go.Lib.join_cons,if_neg (by simp)]
  simp[Go.Lib.joinTail]
theorem uv{v:aS}(h:bB v=true):(v.K=1/\-1000000000<=v.N/\v.N<=1000000000)\/(v.K=2/\v.S.size<=20):=by
 simp only[bB] at h
 by_cases h1:v.K=1
 ·simp[h1] at h;exact .inl ⟨h1,h.1.1,h.1.2⟩
 ·by_cases h2:v.K=2
  ·simp[h2] at h;exact .inr ⟨h2,h.1.2⟩
  ·simp[h1,h2] at h
theorem DR{v:aS}(h:bB v=true):(oT v).length<=22:=by
 rcases uv h with⟨h1,h2,h3⟩|⟨h1,h2⟩
 ·have:=Go.Lib.itoa_length_le v.N (by omega) (by omega)
  simp only[oT,if_pos h1];omega
 ·simp only[oT,if_neg (show¬v.K=1 by omega),fK,ko,pa,fv];omega
theorem ya:∀(l:List aS),l.all bB=true->(Go.Lib.join (l.map oT) [44]).length<=23*l.length
 |[],_=>by simp[Go.Lib.join_nil]
 |x::r,h=>by
  rw[wh,Go.Lib.join_cons]
  simp only[QM,cJ] at h
  have h1:=DR h.1
  have h2:∀r:List aS,r.all bB=true->(Go.Lib.joinTail [44] (r.map oT)).length<=23*r.length:=by
   intro r
   induction r with
   |nil=>intro _;simp[Go.Lib.joinTail]
   |cons y r ih=>
    intro h
    simp only[QM,cJ] at h
    have h3:=DR h.1
    have h4:=ih h.2
    simp only[Go.Lib.joinTail,wh,Ms,ko,fK,fv] at h4⊢
    omega
  have h3:=h2 r h.2
  simp only[ko,fK]
  omega
theorem iU{f:aK}(h:bD f=true):f.ah.length<=5/\f.ah.all bB=true/\bu f.Kind=true/\f.Kind.size<=12:=by
 simp only[bD,cJ,decide_eq_true_eq] at h
 have h2:=h.1.1
 simp only[bu,cJ,decide_eq_true_eq] at h2
 exact⟨h.1.2,h.2,h.1.1,h2.1.1.2⟩
theorem Tw{α:Type}{p:α->Bool}{l:List α}(h:l.all p=true)(z:α){i:Int}(h0:0<=i)(hi:i<l.length):p (l.getD i.toNat z)=true:=
 sC.1 h _ (yj l z h0 hi)
theorem Tv{α:Type}{p:α->Bool}{l:List α}(h:l.all p=true)(n:Nat):(l.take n).all p=true:=by
 rw[sC] at h⊢
 exact fun x hx=>h x (List.mem_of_mem_take hx)
theorem Tb{n:Int}(h:10<=n):Go.Lib.itoa n=Go.Lib.itoa (n/10)++[UInt8.ofNat (48+n.toNat%10)]:=by
 simp only[Go.Lib.itoa]
 rw[if_neg (by omega),if_neg (by omega)]
 have e:(n/10).toNat=n.toNat/10:=by omega
 rw[e,Go.Lib.decDigits,dif_neg (by omega)]
theorem Wo{n:Int}(h0:0<=n)(h:n<10):Go.Lib.itoa n=[UInt8.ofNat (48+n.toNat)]:=by
 simp only[Go.Lib.itoa]
 rw[if_neg (by omega),Go.Lib.decDigits_one (by omega)]
theorem Wp{n:Int}(h:n<0):Go.Lib.itoa n=45::Go.Lib.itoa (-n):=by
 simp only[Go.Lib.itoa]
 rw[if_pos h,if_neg (by omega)]
 have e:(-n).toNat=n.natAbs:=by omega
 rw[e]
theorem Te{n:Int}(h0:0<=n)(h:n<=255):strOfNums (List.map (fun(x:Int)=>x) [n])=ub [UInt8.ofNat n.toNat]:=by
 simp[strOfNums,ub]
theorem wrap_u8'{n:Int}(h:0<=n)(h':n<=255):IntKind.wrap .u8 n=n:=by
 simp only[IntKind.wrap]
 simp[IntKind.bits,IntKind.signed]
 omega
def aC(l:List aj)(key:BA):Int:=jJ l.length fun k=>decide (bg (l.getD k aD).F=key)
def L2:=bV (α:=Int) (q1 qI) [.ro] (fun n=>[-1000000000<=n/\n<=1000000000]) (fun n=>⟨[dS (rV n)],[],[]⟩)
def ai8:AX L2:=fun n=>b_ []
def y4:Int->Nat:=fun n=>if n<0 then n.natAbs+1 else n.natAbs
def aeX(rn:Nat):List (FuncId×jY UU):=[(253,L2.below y4 rn)]
theorem ae1:Holds EE (253,L2):=by
 refine GV (k:=L2) func253 (by kernel_rfl) y4 (fun rn ih=> ?_)
 refine holds_of rm func253 (L2.below y4 (rn+1)) (by kernel_rfl) (aeX rn) (all_cons ih all_nil) ai8 (fun(n:Int) hp hb=> ?_)
 have Si:y4 n<rn+1:=hp _ m0
 have ane:=Hs (n:=n) (hb _ m0)
 have bp: -1000000000<=n/\n<=1000000000:=hp _ m1
 clear hp hb
 apply vE (let x0:=wrap i64 (0-n);let x1:=strOfNums (List.map (fun(x:Cd.T Cd.byte)=>x) [IntKind.wrap IntKind.u8 (wrap i64 (48+Int.tmod n 10))]);let x2:=wrap i64 (Int.tdiv n 10);bif decide (n<0) then y4 x0<rn/\((-1000000000)<=x0/\x0<=1000000000)/\ByteArray.size {data:= #[(45:UInt8)]:BA}+ByteArray.size (rV x0)<=4611686018427387904/\Lf [VS ({data:= #[(45:UInt8)]:BA}++rV x0)] [VS (rV n)] else bif decide (n<10) then Lf [VS (strOfNums (List.map (fun(x:Cd.T Cd.byte)=>x) [IntKind.wrap IntKind.u8 (wrap i64 (48+n))]))] [VS (rV n)] else(10:Int)≠(0:Int)/\y4 x2<rn/\((-1000000000)<=x2/\x2<=1000000000)/\(10:Int)≠(0:Int)/\ByteArray.size (rV x2)+ByteArray.size x1<=4611686018427387904/\Lf [VS (rV x2++x1)] [VS (rV n)])
 dsimp only
 simp only[y4] at Si
 refine ae (fun h=> ?_) (fun h=>ae (fun h'=>AK ?_) (fun h'=> ?_))
 ·have h:=yT h
  rw[if_pos h] at Si
  rw[wi]
  have e:(0:Int)-n= -n:=by omega
  rw[e]
  have hl:=Go.Lib.itoa_length_le (-n) (by omega) (by omega)
  refine⟨?_,⟨by omega,by omega⟩,?_,AK ?_⟩
  ·simp only[y4];rw[if_neg (by omega)];omega
  ·rw[pQ,fW];show 1+_<=_;omega
  ·rw[pQ,pQ,Wp h];exact kF [45] _
 ·have h:=yF h
  have h':=yT h'
  rw[wi,wrap_u8' (by omega) (by omega),pQ,Wo (by omega) h']
  refine(Te (n:=48+n) (by omega) (by omega)).trans ?_
  have e:(48+n).toNat=48+n.toNat:=by omega
  rw[e]
 ·have h:=yF h
  have h':=yF h'
  rw[if_neg h] at Si
  have t1:Int.tdiv n 10=n/10:=Int.tdiv_eq_ediv_of_nonneg (by omega)
  have t2:Int.tmod n 10=n%10:=zbp (by omega)
  rw[t1,t2,wi,wi,wrap_u8' (by omega) (by omega)]
  have hl:=Go.Lib.itoa_length_le (n/10) (by omega) (by omega)
  have hc:strOfNums (List.map (fun(x:Cd.T Cd.byte)=>x) [(48:Int)+n%10])=ub [UInt8.ofNat (48+n%10).toNat]:=Te (n:=48+n%10) (by omega) (by omega)
  rw[hc]
  refine⟨by omega,?_,⟨by omega,by omega⟩,by omega,?_,AK ?_⟩
  ·simp only[y4];rw[if_neg (by omega)];omega
  ·rw[pQ,fW,fW];simp only[fK,fv];omega
  ·rw[pQ,pQ,Tb (n:=n) (by omega),kF]
   have e:(48+n%10).toNat=48+n.toNat%10:=by omega
   rw[e]
def ahv:HH:=⟨_,ae1⟩
def af0:=bV (α:=aS) (q1 (qA .bc)) [.ro] (fun v=>[bB v=true]) (fun v=>⟨[dS (ub (oT v))],[],[]⟩)
def ahD:HH:=hF af0 func241 [ahv] a0 fun(v:aS) hp hb=>by
 have bp:bB v=true:=hp _ m0
 clear hp hb
 apply vE (let x0:={data:= #[(39:UInt8)]:BA};bif v.K==1 then((-1000000000)<=v.N/\v.N<=1000000000)/\Lf [VS (rV v.N)] [VS (ub (oT v))] else ByteArray.size x0+ByteArray.size v.S<=4611686018427387904/\ByteArray.size (x0++v.S)+ByteArray.size x0<=4611686018427387904/\Lf [VS (x0++v.S++x0)] [VS (ub (oT v))])
 dsimp only
 rcases uv bp with⟨h1,h2,h3⟩|⟨h1,h2⟩
 ·refine ae (fun h=>⟨⟨h2,h3⟩,AK ?_⟩) (fun h=>absurd h (by simp[h1]))
  simp only[oT,if_pos h1];rfl
 ·refine ae (fun h=>absurd h (by simp[h1])) (fun h=> ?_)
  have e:({data:= #[(39:UInt8)]:BA}++v.S)=ub (39::bs v.S):=by
   conv=>lhs;rw[<-M1 v.S]
   exact kF [39] _
  rw[e]
  refine⟨?_,?_,AK ?_⟩
  ·show 1+_<=_;omega
  ·rw[fW];show _+1<=_;simp only[fK,pa];omega
  ·simp only[oT,if_neg (show¬v.K=1 by omega)];exact kF (39::bs v.S) [39]
def XR:=bV (α:=List aS) (q1 (qL .bc)) [.ro] (fun l=>[l.length<=5,l.all bB=true]) (fun l=>⟨[dS (ub (xC l))],[],[]⟩)
def zg(l:List aS):BA×Int×Unit->Prop:=fun(s,i,_)=>0<=i/\i<=l.length/\s=ub (40::Go.Lib.join ((l.take i.toNat).map oT) [44])
def tw(l:List aS):BA×Int×Unit->Nat:=fun(s,i,_)=>l.length-i.toNat
def ajl:AX XR:=fun l=>b_ [(3,aY [.slot 3 (3,1024) (.lit .str),iI 4] (fun _=>zg l) (tw l))]
def ahV:HH:=hF XR func214 [ahD] ajl fun(l:List aS) hp hb=>by
 have j8:L9 l.length:=lu (hb _ m0)
 have bp:l.length<=5:=hp _ m0
 have eN:l.all bB=true:=hp _ m1
 clear hp hb
 apply vE (zg l ({data:= #[(40:UInt8)]:BA},0,())/\∀(y:BA×Int×PUnit),let x2:=y.2.1.toNat;let x3:=y.1++{data:= #[(44:UInt8)]:BA};let x1:=l.getD x2 dE;let x0:=ub (oT x1);let q0:=(y.1++x0,wrap i64 (y.2.1+1),());let q1:=(x3++x0,wrap i64 (y.2.1+1),());zg l y->bif decide (y.2.1<(l.length:Int)) then bif decide (y.2.1>0) then ByteArray.size y.1+ByteArray.size {data:= #[(44:UInt8)]:BA}<=4611686018427387904/\0<=y.2.1/\x2<l.length/\bB x1=true/\ByteArray.size x3+ByteArray.size x0<=4611686018427387904/\zg l q1/\tw l q1<tw l y else 0<=y.2.1/\x2<l.length/\bB x1=true/\ByteArray.size y.1+ByteArray.size x0<=4611686018427387904/\zg l q0/\tw l q0<tw l y else ByteArray.size y.1+ByteArray.size {data:= #[(41:UInt8)]:BA}<=4611686018427387904/\Lf [VS (y.1++{data:= #[(41:UInt8)]:BA})] [VS (ub (xC l))])
 dsimp only
 refine⟨⟨by omega,by omega,rfl⟩,?_⟩
 rintro⟨s,i,⟨⟩⟩ ⟨h1,h2,rfl⟩
 simp only
 have hj:=ya (l.take i.toNat) (Tv eN _)
 rw[oc] at hj
 refine ae ?_ ?_<;>intro hc
 ·have hc:i<l.length:=yT hc
  have hv:=Tw eN dE h1 hc
  have F_:=DR hv
  rw[wi]
  have ht:(l.take (i+1).toNat).map oT=(l.take i.toNat).map oT++[oT (l.getD i.toNat dE)]:=by rw[<-dk l dE h1 hc,J9];rfl
  refine ae ?_ ?_<;>intro h
  ·have h:=yT h
   have e:(ub (40::Go.Lib.join ((l.take i.toNat).map oT) [44])++{data:= #[(44:UInt8)]:BA})=ub (40::(Go.Lib.join ((l.take i.toNat).map oT) [44]++[44])):=kF _ [44]
   rw[e,kF]
   have hn:¬(l.take i.toNat).map oT=[]:=by
    intro h0
    have:=congrArg List.length h0
    rw[xt,oc,fv] at this
    omega
   refine⟨?_,h1,by omega,hv,?_,⟨by omega,by omega,?_⟩,by simp only[tw];omega⟩
   ·rw[fW];show _+1<=_;simp only[fK];omega
   ·rw[fW,fW];simp only[fK,ko,fv];omega
   ·rw[ht,GO,if_neg hn];simp
  ·have h:=yF h
   have h0:i=0:=by omega
   subst h0
   rw[kF]
   refine⟨by omega,by omega,hv,?_,⟨by omega,by omega,?_⟩,by simp only[tw];omega⟩
   ·rw[fW,fW];simp only[fK];omega
   ·rw[ht,GO];simp[Go.Lib.join_nil]
 ·have hc:¬i<l.length:=yF hc
  rw[cE l (by omega)]
  refine⟨?_,AK ?_⟩
  ·rw[fW];show _+1<=_;simp only[fK];rw[cE l (by omega)] at hj;omega
  ·exact kF _ [41]
def agw:=bV (α:=aK) (q1 (qA .dc)) [.ro] (fun _=>[]) (fun f=>⟨[dS (bg f)],[],[]⟩)
def aiq:HH:=hF agw func169 [FG,ahV] a0 fun(f:aK) hp hb=>by
 clear hp hb
 apply vE (bif !bD f then Lf [VS ({data:= #[]:BA})] [VS (bg f)] else f.ah.length<=5/\f.ah.all bB=true/\ByteArray.size f.Kind+ByteArray.size (ub (xC f.ah))<=4611686018427387904/\Lf [VS (f.Kind++ub (xC f.ah))] [VS (bg f)])
 refine ae (fun h=>AK ?_) (fun h=> ?_)
 ·have h:bD f=false:=by simpa using h
  simp only[bg,h];rfl
 ·have h:bD f=true:=by simpa using h
  obtain⟨h1,h2,h3,h4⟩:=iU h
  have hj:=ya f.ah h2
  refine⟨h1,h2,?_,AK ?_⟩
  ·rw[fW];simp only[xC,fK,ko,fv];omega
  ·simp only[bg,h,if_true];exact OG _ _
def ag1:=bV (α:=aK) (q1 (qA .dc)) [.ro] (fun _=>[]) (fun f=>⟨[dS (bg f)],[],[]⟩)
def Hy:HH:=hF ag1 func109 [aiq] a0 fun(f:aK) hp hb=>by
 clear hp hb
 apply vE (Lf [VS (bg f)] [VS (bg f)])
 exact aX _
def agB:=bV (α:=aS) (q1 (qA .bc)) [.ro] (fun _=>[]) (fun v=>⟨[dS (l5 v)],[],[]⟩)
def aiz:HH:=hF agB func153 [Mc,ah7] a0 fun(v:aS) hp hb=>by
 clear hp hb
 apply vE (let x0:={data:= #[(39:UInt8)]:BA};bif !bB v then Lf [VS ({data:= #[]:BA})] [VS (l5 v)] else bif v.K==1 then Lf [VS (rV v.N)] [VS (l5 v)] else ByteArray.size x0+ByteArray.size v.S<=4611686018427387904/\ByteArray.size (x0++v.S)+ByteArray.size x0<=4611686018427387904/\Lf [VS (x0++v.S++x0)] [VS (l5 v)])
 dsimp only
 refine ae (fun h=>AK ?_) (fun h=> ?_)
 ·have h:bB v=false:=by simpa using h
  simp only[l5,h];rfl
 ·have h:bB v=true:=by simpa using h
  have ev:l5 v=ub (oT v):=by simp only[l5,h,if_true]
  rw[ev]
  rcases uv h with⟨h1,h2,h3⟩|⟨h1,h2⟩
  ·refine ae (fun h=>AK ?_) (fun h=>absurd h (by simp[h1]))
   simp only[oT,if_pos h1];rfl
  ·refine ae (fun h=>absurd h (by simp[h1])) (fun h=> ?_)
   have e:({data:= #[(39:UInt8)]:BA}++v.S)=ub (39::bs v.S):=by
    conv=>lhs;rw[<-M1 v.S]
    exact kF [39] _
   rw[e]
   refine⟨?_,?_,AK ?_⟩
   ·show 1+_<=_;omega
   ·rw[fW];show _+1<=_;simp only[fK,pa];omega
   ·simp only[oT,if_neg (show¬v.K=1 by omega)];exact kF (39::bs v.S) [39]
def afd:=bV (α:=aK) (q1 (qA .dc)) [.ro] (fun _=>[]) (fun f=>⟨[dS (bg f)],[],[]⟩)
def Jo(f:aK):List BA×Int×T5×Unit->Prop:=fun(out,i,fb,_)=>fb=(f.Kind,f.ah,())/\bD f=true/\0<=i/\i<=f.ah.length/\out=(f.ah.take i.toNat).map l5
def IN(f:aK):List BA×Int×T5×Unit->Nat:=fun(out,i,fb,_)=>f.ah.length-i.toNat
def apo:AX afd:=fun f=>b_ [(5,aY [iO 3 .str,iI 12,.box 1 (1,1024) [.lit .str,.shr .bc]] (fun _=>Jo f) (IN f))]
def aoA:HH:=hF afd func95 [Nz,aiz,aiy] apo fun(f:aK) hp hb=>by
 clear hp hb
 apply vE (bif !bD f then Lf [VS ({data:= #[]:BA})] [VS (bg f)] else Jo f ([],0,(f.Kind,f.ah,()),())/\∀(y:List BA×Int×Uy×PUnit),let x1:=y.2.2.1.1++{data:= #[(40:UInt8)]:BA};let x3:=y.2.1.toNat;let x5:=EG y.1 {data:= #[(44:UInt8)]:BA};let x0:=x1++x5;let x2:=[l5 (f.ah.getD x3 dE)];let x4:=ByteArray.size x5;let q0:=(y.1++x2,wrap i64 (y.2.1+1),(y.2.2.1.1,y.2.2.1.2.1,()),());Jo f y->bif decide (y.2.1<(f.ah.length:Int)) then 0<=y.2.1/\x3<f.ah.length/\L4 (y.1.length+x2.length)/\Jo f q0/\IN f q0<IN f y else ByteArray.size y.2.2.1.1+ByteArray.size {data:= #[(40:UInt8)]:BA}<=4611686018427387904/\x4<=140737488355328/\y.1.length<=140737488355328/\ByteArray.size x1+x4<=4611686018427387904/\ByteArray.size x0+ByteArray.size {data:= #[(41:UInt8)]:BA}<=4611686018427387904/\Lf [VS (x0++{data:= #[(41:UInt8)]:BA})] [VS (bg f)])
 dsimp only
 refine ae (fun h=>AK ?_) (fun h=> ?_)
 ·have h:bD f=false:=by simpa using h
  simp only[bg,h];rfl
 have h:bD f=true:=by simpa using h
 refine⟨⟨rfl,h,by omega,by omega,rfl⟩,?_⟩
 rintro⟨out,i,fb,⟨⟩⟩ ⟨rfl,_,h1,h2,rfl⟩
 obtain⟨g1,g2,g3,g4⟩:=iU h
 simp only
 refine ae ?_ ?_<;>intro hc
 ·have hc:i<f.ah.length:=yT hc
  rw[wi]
  refine⟨h1,by omega,by simp;omega,⟨rfl,h,by omega,by omega,?_⟩,by simp only[IN];omega⟩
  rw[<-dk f.ah dE h1 hc,J9];rfl
 ·have hc:¬i<f.ah.length:=yF hc
  rw[cE f.ah (by omega)]
  have em:f.ah.map l5=(f.ah.map oT).map ub:=by
   rw[List.map_map]
   exact O1 fun v hv=>by
    have:=sC.1 g2 v hv
    simp only[l5,this,if_true,Function.comp]
  have ej:EG (f.ah.map l5) {data:= #[(44:UInt8)]:BA}=ub (Go.Lib.join (f.ah.map oT) [44]):=by
   rw[em,R8,List.map_map]
   have:(bs∘ub)=id:=funext fun l=>abF l
   rw[this,List.map_id]
   rfl
  rw[ej]
  have hj:=ya f.ah g2
  have e1:(f.Kind++{data:= #[(40:UInt8)]:BA})=ub (bs f.Kind++[40]):=OG _ [40]
  rw[e1,kF]
  refine⟨?_,?_,by simp;omega,?_,?_,AK ?_⟩
  ·show _+1<=_;omega
  ·rw[fW];omega
  ·rw[fW,fW];simp only[ko,pa,fK,fv];omega
  ·rw[fW];show _+1<=_;simp only[ko,pa,fK,fv];omega
  ·simp only[bg,h,if_true]
   refine(kF _ [41]).trans ?_
   simp[xC]
def aog:=bV (α:=aK) (q1 (qA .dc)) [.ro] (fun _=>[]) (fun f=>⟨[dS (bg f)],[],[]⟩)
def ahg:HH:=hF aog func38 [aoA] a0 fun(f:aK) hp hb=>by
 clear hp hb
 apply vE (Lf [VS (bg f)] [VS (bg f)])
 exact aX _
def afk:=bV (α:=(List aj)×BA) (qC (qL .ax) (q1 qS)) [.ro,.ro] (fun _=>[]) (fun(l,key)=>⟨[dI (aC l key)],[],[]⟩)
def Jv(l:List aj)(key:BA):Int×Unit->Prop:=fun(i,_)=>0<=i/\i<=l.length/\∀j:Nat,(j:Int)<i->decide (bg (l.getD j aD).F=key)=false
def IV(l:List aj)(key:BA):Int×Unit->Nat:=fun(i,_)=>l.length-i.toNat
def apv:AX afk:=fun(l,key)=>b_ [(2,aY [iI 5] (fun _=>Jv l key) (IV l key))]
def abL:HH:=hF afk func80 [Hy] apv fun x hp hb=>by
 obtain⟨l,key⟩:=x
 have j8:L9 l.length:=lu (hb _ m0)
 have Sr:=Mp (s:=key) (hb _ m1)
 clear hp hb
 apply vE (Jv l key (0,())/\∀(y:Int×PUnit),let q0:=(wrap i64 (y.1+1),());Jv l key y->bif decide (y.1<(l.length:Int)) then 0<=y.1/\y.1.toNat<l.length/\bif ByteArray.toList (bg (l.getD y.1.toNat aD).F)==ByteArray.toList key then Li y.1 (aC l key) else Jv l key q0/\IV l key q0<IV l key y else Li (-1) (aC l key))
 dsimp only
 refine⟨⟨by omega,by omega,by intro j hj;omega⟩,?_⟩
 rintro⟨i,⟨⟩⟩ ⟨h1,h2,hR⟩
 simp only
 refine ae ?_ ?_<;>intro hc
 ·have hc:i<l.length:=yT hc
  simp(disch:=omega) only[wrap_i64,aQ]
  refine⟨by omega,by omega,ae (fun h=>oM ?_) (fun h=>⟨⟨by omega,by omega,i_ (p:=fun j=>decide (bg (l.getD j aD).F=key)) h1 hR h⟩,by simp only[IV];omega⟩)⟩
  rw[aC,fE (i:=i.toNat) (by omega) h (fun j hj=>hR j (by omega))]
  omega
 ·have hc:¬i<l.length:=yF hc
  exact oM (jl (fun j hj=>hR j (by omega))).symm
def L1:jY UU where
 α:=aj×BA
 md:=[.ro,.ro]
 of:=fun|[.agg [.lit (.string a0),.sl .bc a1,.lit (.string a2),.lit (.int .i64 a3),.lit (.int .i64 a4),.lit (.int .i64 a5),.lit (.int .i64 a6),.lit (.int .i64 a7),.lit (.string a8)],.ptr [.lit (.string a9)]]=>some (⟨⟨a0,a1⟩,a2,a3,a4,a5,⟨a6,a7,a8⟩⟩,a9)|_=>none
 ds:=fun(t,key)=>[.agg [.lit (.string t.F.Kind),.sl .bc t.F.ah,.lit (.string t.aR),.lit (.int .i64 t.State),.lit (.int .i64 t.bi),.lit (.int .i64 t.ie),.lit (.int .i64 t.V.K),.lit (.int .i64 t.V.N),.lit (.string t.V.S)],.ptr [.lit (.string key)]]
 pre:=fun(t,key)=>[]
 nY:=fun(t,key)=>⟨[.one (.lit (.bool (decide (bg t.F=key))))],[],[]⟩
 law:=by intro l x h;(try simp only at h);split at h<;>cases h;rfl
def ao8:HH:=hF L1 func37 [ahg] a0 fun x hp hb=>by
 obtain⟨t,key⟩:=x
 have V7:gW (U:=UU) (.agg [.lit (.string t.F.Kind),.sl .bc t.F.ah,.lit (.string t.aR),.lit (.int .i64 t.State),.lit (.int .i64 t.bi),.lit (.int .i64 t.ie),.lit (.int .i64 t.V.K),.lit (.int .i64 t.V.N),.lit (.string t.V.S)]):=hb _ (iy)
 have Xg:L9 t.F.Kind.size:=Bd.str (V7 _ (by simp))
 have Us:L9 t.F.ah.length:=Bd.len (U:=UU) (τ:=.bc) (xs:=t.F.ah) (V7 _ (by simp))
 have abY:L9 t.aR.size:=Bd.str (V7 _ (by simp))
 have aef:L9 t.V.S.size:=Bd.str (V7 _ (by simp))
 have anw:gW (U:=UU) (.ptr [.lit (.string key)]):=hb _ (fA _ (iy))
 clear hp hb
 apply vE (Lb (ByteArray.toList (bg t.F)==ByteArray.toList key) (decide (bg t.F=key)))
 rw[aQ]
 exact aX _
def aow:=bV (α:=(List aj)×BA) (qC (qL .ax) (q1 qS)) [.ro,.ro] (fun _=>[]) (fun(l,key)=>⟨[dI (aC l key)],[],[]⟩)
def abV:HH:=hF aow func10 [WG,ao8] a0 fun x hp hb=>by
 obtain⟨l,key⟩:=x
 clear hp hb
 apply vE ((∀(j:Nat),j<l.length->ff L1 [DV.ptr [CS key]] [cg (l.getD j aD)]=some (Value.bool (bL (ff L1 [DV.ptr [CS key]] [cg (l.getD j aD)]))))/\Li (jJ (l.length) fun(j:Nat)=>bL (ff L1 [DV.ptr [CS key]] [cg (l.getD j aD)])) (aC l key))
 have hc:∀x:aj,ff L1 [.ptr [.lit (.string key)]] [cg x]=some (.bool (decide (bg x.F=key))):=fun x=>se (x:=(x,key)) rfl rfl rfl rfl (by simp[L1])
 refine⟨fun j hj=> ?_,oM ?_⟩
 ·show ff L1 [.ptr [.lit (.string key)]] [cg (l.getD j aD)]=_
  rw[hc];rfl
 ·exact pS fun j hj=>by
   show bL (ff L1 [.ptr [.lit (.string key)]] [cg (l.getD j aD)])=_
   rw[hc];rfl
def qf(aM:Int):Nat->Int->Int
 |0,n=>n
 |k+1,n=>if n<aM then qf aM k (2*n) else n
def mY(base k aM:Int):Int:=if 1<=base/\base<=100000/\1<=aM/\aM<=100000/\0<=k then(if qf aM k.toNat base<aM then qf aM k.toNat base else aM) else 0
theorem Tr{aM n:Int}(h:¬n<aM):∀k:Nat,qf aM k n=n
 |0=>rfl
 |k+1=>by rw[qf,if_neg h]
theorem Nu{aM n k i:Int}(h0:0<=i)(h:i<k)(hn:n<aM):qf aM (k-i).toNat n=qf aM (k-(i+1)).toNat (2*n):=by
 obtain⟨m,hm⟩:∃m:Nat,(k-i).toNat=m+1:=⟨(k-i).toNat-1,by omega⟩
 have h2:(k-(i+1)).toNat=m:=by omega
 rw[hm,h2,qf,if_pos hn]
theorem Qq{aM n k i:Int}(h:¬(i<k/\n<aM)):qf aM (k-i).toNat n=n:=by
 by_cases hk:i<k
 ·exact Tr (fun hn=>h ⟨hk,hn⟩) _
 ·rw[show(k-i).toNat=0 by omega];rfl
def XS:=bV (α:=Int×Int×Int) (qC qI (qC qI (q1 qI))) [.ro,.ro,.ro] (fun _=>[]) (fun(base,k,aM)=>⟨[dI (mY base k aM)],[],[]⟩)
def Db(base:Int)(k:Int)(aM:Int):Int×Int×Unit->Prop:=fun(n,i,_)=>0<=i/\i<=k/\1<=n/\n<=200000/\qf aM (k-i).toNat n=qf aM k.toNat base
def Cp(base:Int)(k:Int)(aM:Int):Int×Int×Unit->Nat:=fun(n,i,_)=>(k-i).toNat
def ajm:AX XS:=fun(base,k,aM)=>b_ [(5,aY [iI 7,iI 8] (fun _=>Db base k aM) (Cp base k aM))]
def ahW:HH:=hF XS func212 [tN] ajm fun x hp hb=>by
 obtain⟨base,k,aM⟩:=x
 have akd:=Hs (n:=base) (hb _ m0)
 have anf:=Hs (n:=k) (hb _ m1)
 have Ih:=Hs (n:=aM) (hb _ m2)
 clear hp hb
 apply vE (let q0:=mY base k aM;bif !decide (1<=base/\base<=100000) then Li 0 q0 else bif !decide (1<=aM/\aM<=100000) then Li 0 q0 else bif decide (k<0) then Li 0 q0 else Db base k aM (base,0,())/\∀(y:Int×Int×PUnit),let q1:=(wrap i64 (2*y.1),wrap i64 (y.2.1+1),());let q2:=bif decide (y.1>aM) then Li aM q0 else Li y.1 q0;Db base k aM y->bif decide (y.2.1<k) then bif decide (y.1<aM) then Db base k aM q1/\Cp base k aM q1<Cp base k aM y else q2 else q2)
 dsimp only
 have hN:¬(1<=base/\base<=100000/\1<=aM/\aM<=100000/\0<=k)->Lf [.one (.lit (.int .i64 0))] [.one (.lit (.int .i64 (mY base k aM)))]:=fun h=>oM (by rw[mY,if_neg h])
 refine ae (fun h=>hN ?_) (fun h=>ae (fun h2=>hN ?_) (fun h2=>ae (fun h3=>hN ?_) (fun h3=> ?_)))
 ·simp at h;omega
 ·simp at h2;omega
 ·simp at h3;omega
 have hg:1<=base/\base<=100000/\1<=aM/\aM<=100000/\0<=k:=by simp at h h2 h3;omega
 have hE:∀{n i:Int},qf aM (k-i).toNat n=qf aM k.toNat base->¬(i<k/\n<aM)->(if n<aM then n else aM)=mY base k aM:=fun hR hn=>by rw[mY,if_pos hg,<-hR,Qq hn]
 refine⟨⟨by omega,by omega,by omega,by omega,by rw[Int.sub_zero]⟩,?_⟩
 rintro⟨n,i,⟨⟩⟩ ⟨h4,h5,h6,h7,hR⟩
 simp only
 refine ae (fun hc=>ae (fun hd=> ?_) (fun hd=> ?_)) (fun hc=> ?_)
 ·have hc:=yT hc;have hd:=yT hd
  rw[wi,wi]
  refine⟨⟨by omega,by omega,by omega,by omega,?_⟩,by simp only[Cp];omega⟩
  rw[<-Nu h4 hc hd];exact hR
 ·have hd:=yF hd
  have e:=hE hR (fun hh=>hd hh.2)
  refine ae (fun hm=>oM ?_) (fun hm=>oM ?_)
  ·have hm:=yT hm;rw[<-e];split<;>omega
  ·have hm:=yF hm;rw[<-e];split<;>omega
 ·have hc:=yF hc
  have e:=hE hR (fun hh=>hc hh.1)
  refine ae (fun hm=>oM ?_) (fun hm=>oM ?_)
  ·have hm:=yT hm;rw[<-e];split<;>omega
  ·have hm:=yF hm;rw[<-e];split<;>omega
def gz(l:List bq)(t:aj):Bool:=cX l&&bD t.F&&bu t.aR&& !s_ l (bg t.F)&& !decide (30<=l.length)
def bH(l:List bq)(t:aj):List bq×Bool:=if gz l t=true then(l++[⟨bg t.F,⟨t.aR,t.F.ah⟩⟩],true) else(l,false)
def kE(ok:Bool)(v:aS)(t:aj):aj:=⟨t.F,t.aR,if ok=true then 3 else 4,t.bi,t.ie,v⟩
def aB(l:List aj)(key:BA)(ok:Bool)(v:aS):List aj×Int:=
 if aW l=true/\bB v=true/\0<=aC l key/\(l.getD (aC l key).toNat aD).State≠1 then
  (if(l.getD (aC l key).toNat aD).State=2 then(l.modify (aC l key).toNat (kE ok v),1) else(l,2)) else(l,3)
def due(now:Int)(t:aj):Bool:=jI t&&decide (t.ie<=now)
def fU(now:Int)(t:aj):aj:=if due now t=true then(if t.bi=4 then⟨t.F,t.aR,4,t.bi,t.ie,t.V⟩ else⟨t.F,t.aR,2,t.bi+1,now+mY 2 (t.bi+1) 60,t.V⟩) else t
def pj(now:Int)(t:aj):List qj:=if due now t=true/\t.bi≠4 then[⟨bg t.F,t.F,t.bi+1⟩] else[]
def lM(now:Int)(t:aj):List BA:=if due now t=true/\t.bi=4 then[bg t.F] else[]
theorem AN{l:List bq}(h:cX l=true):l.length<=30:=by
 simp only[cX,cJ,decide_eq_true_eq] at h;exact h.1
theorem HI{l:List aj}(h:aW l=true):l.length<=30:=by
 simp only[aW,cJ,decide_eq_true_eq] at h;exact h.1
theorem mg{l:List aj}(h:aW l=true){k:Nat}(hk:k<l.length):f_ (l.getD k aD)=true:=by
 simp only[aW,cJ] at h
 have:=yZ.1 h.2 k hk
 simp only[jG,cJ] at this
 exact this.1
theorem Gs{t:aj}(h:f_ t=true):(1<=t.State/\t.State<=4)/\(0<=t.bi/\t.bi<=4)/\(0<=t.ie/\t.ie<=1000001000)/\((t.State=1->t.bi=0)/\(t.State=2->t.bi≠0))/\t.F.ah.length<=5:=by
 simp only[f_,cJ,decide_eq_true_eq] at h
 obtain⟨⟨⟨⟨⟨⟨h1,h2⟩,h3⟩,h4⟩,h5⟩,h6⟩,h7⟩:=h
 refine⟨h3,h4,h5,h7,?_⟩
 simp only[bD,cJ,decide_eq_true_eq] at h1
 first|exact h1.1.2|exact h1.2.1|omega
theorem kz{l:List aj}{key:BA}(h:0<=aC l key):(aC l key).toNat<l.length:=by
 unfold aC at*
 rcases ig l.length (fun k=>decide (bg (l.getD k aD).F=key)) with⟨h1,h2⟩|⟨i,h1,h2,h3,h4⟩
 ·rw[h1] at h;omega
 ·rw[h2];omega
theorem iQ{l:List aj}{key:BA}{ok:Bool}{v:aS}(h:¬(aW l=true/\bB v=true/\0<=aC l key/\(l.getD (aC l key).toNat aD).State≠1)):aB l key ok v=(l,3):=if_neg h
theorem nH{l:List aj}{key:BA}{ok:Bool}{v:aS}(h:aW l=true/\bB v=true/\0<=aC l key/\(l.getD (aC l key).toNat aD).State≠1)(h2:(l.getD (aC l key).toNat aD).State≠2):aB l key ok v=(l,2):=by rw[aB,if_pos h,if_neg h2]
theorem pB{l:List aj}{key:BA}{ok:Bool}{v:aS}(h:aW l=true/\bB v=true/\0<=aC l key/\(l.getD (aC l key).toNat aD).State≠1)(h2:(l.getD (aC l key).toNat aD).State=2):aB l key ok v=(l.modify (aC l key).toNat (kE ok v),1):=by rw[aB,if_pos h,if_pos h2]
theorem NV(l:List aj)(k:Nat)(v:aS):(((l.modify k fun x=>⟨x.F,x.aR,4,x.bi,x.ie,x.V⟩).modify k fun x=>⟨x.F,x.aR,3,x.bi,x.ie,x.V⟩).modify k fun x=>⟨x.F,x.aR,x.State,x.bi,x.ie,v⟩)=l.modify k (kE true v):=by
 rw[n7,n7];rfl
theorem NW(l:List aj)(k:Nat)(v:aS):((l.modify k fun x=>⟨x.F,x.aR,4,x.bi,x.ie,x.V⟩).modify k fun x=>⟨x.F,x.aR,x.State,x.bi,x.ie,v⟩)=l.modify k (kE false v):=by
 rw[n7];rfl
theorem Uc{a a':List aj}{n:Int}(h:a=a'):Lf [.one (.sl .ax a),.one (CI n)] [.one (.sl .ax a'),.one (CI n)]:=by
 subst h;exact aX _
theorem vV{a a':List aj}(h:a=a'):dJ ([DV.one (Cell.sl Cd.ax a)]:List (DV UU))=dJ ([DV.one (Cell.sl Cd.ax a')]:List (DV UU)):=by rw[h]
theorem G3{α β:Type}(f:α->List β)(l:List α)(z:α){i:Int}(h0:0<=i)(h:i<l.length):(l.take i.toNat).flatMap f++f (l.getD i.toNat z)=(l.take (i+1).toNat).flatMap f:=by
 rw[<-dk l z h0 h,Uh];simp
theorem yo{α β:Type}(f:α->List β)(hf:∀x,(f x).length<=1):∀l:List α,(l.flatMap f).length<=l.length
 |[]=>by simp
 |x::l=>by
  rw[zB,ko]
  have h1:=yo f hf l
  have h2:=hf x
  simp only[fK];omega
theorem Qm(now:Int)(t:aj):(pj now t).length<=1:=by unfold pj;split<;>simp
theorem G8(now:Int)(t:aj):(lM now t).length<=1:=by unfold lM;split<;>simp
theorem Ht(aM:Int):∀(k:Nat)(n:Int),0<=n->0<=qf aM k n
 |0,n,h=>h
 |k+1,n,h=>by rw[qf];split;exact Ht aM k (2*n) (by omega);exact h
theorem Fj(k:Int):0<=mY 2 k 60/\mY 2 k 60<=60:=by
 have:=Ht 60 k.toNat 2 (by omega)
 unfold mY
 split
 ·split<;>omega
 ·omega
def Ys:=bV (α:=(List bq)×aj) (qC (qL .aL) (q1 (qA .ax))) [.ro,.ro] (fun(l,t)=>[L4 (bw l),L4 t.F.ah.length]) (fun(l,t)=>⟨[dL .aL ((bH l t).1),dO ((bH l t).2)],[],[]⟩)
def DD(l:List bq)(t:aj):List bq×Int×T20×Unit->Prop:=fun(row,i,fb,_)=>row=l/\fb=(t.F.Kind,t.F.ah,t.aR,t.State,t.bi,t.ie,t.V.K,t.V.N,t.V.S,())/\0<=i/\i<=l.length/\∀j:Nat,(j:Int)<i->decide ((l.getD j bS).Key=bg t.F)=false
def CQ(l:List bq)(t:aj):List bq×Int×T20×Unit->Nat:=fun(row,i,fb,_)=>l.length-i.toNat
def ajZ:AX Ys:=fun(l,t)=>b_ [(6,aY [iO 6 .aL,iI 8,.box 3 (3,1024) [.lit .str,.shr .bc,.lit .str,.lit (.int .i64),.lit (.int .i64),.lit (.int .i64),.lit (.int .i64),.lit (.int .i64),.lit .str]] (fun _=>DD l t) (CQ l t))]
def YZ:HH:=hF Ys func132 [abM,aha,FG,Bw,Hy] ajZ fun x hp hb=>by
 obtain⟨l,t⟩:=x
 have bp:bw l<=4294967296:=hp _ m0
 have eN:t.F.ah.length<=4294967296:=hp _ m1
 clear hp hb
 apply vE (let x0:=(l.length:Int);let q0:=Lf [VL .aL l,VB false] [VL .aL ((bH l t).1),VB ((bH l t).2)];L4 (bw l)/\bif !cX l then q0 else bif !bD t.F then q0 else bif !bu t.aR then q0 else bif decide (x0≥30) then q0 else DD l t (l,0,(t.F.Kind,t.F.ah,t.aR,t.State,t.bi,t.ie,t.V.K,t.V.N,t.V.S,()),())/\∀(y:List bq×Int×(BA×List aS×BA×Int×Int×Int×Int×Int×BA×PUnit)×PUnit),let x1:=[{Key:=bg t.F,F:={Kind:=y.2.2.1.2.2.1,ah:=[]++y.2.2.1.2.1:aK}:bq}];let x2:=y.2.1.toNat;let q1:=(y.1,wrap i64 (y.2.1+1),(y.2.2.1.1,y.2.2.1.2.1,y.2.2.1.2.2.1,y.2.2.1.2.2.2.1,y.2.2.1.2.2.2.2.1,y.2.2.1.2.2.2.2.2.1,y.2.2.1.2.2.2.2.2.2.1,y.2.2.1.2.2.2.2.2.2.2.1,y.2.2.1.2.2.2.2.2.2.2.2.1,()),());DD l t y->bif decide (y.2.1<x0) then 0<=y.2.1/\x2<l.length/\bif ByteArray.toList (l.getD x2 bS).Key==ByteArray.toList (bg t.F) then Lf [VL .aL y.1,VB false] [VL .aL ((bH l t).1),VB ((bH l t).2)] else DD l t q1/\CQ l t q1<CQ l t y else 0+y.2.2.1.2.1.length<=4294967296/\L4 (y.1.length+x1.length)/\Lf [VL .aL (y.1++x1),VB true] [VL .aL ((bH l t).1),VB ((bH l t).2)])
 dsimp only
 have hN:gz l t=false->Lf [.one (.sl .aL l),.one (.lit (.bool false))] [.one (.sl .aL (bH l t).1),.one (.lit (.bool (bH l t).2))]:=fun h=>by
  simp only[bH,h];exact aX _
 have hlen:cX l=true->l.length<=30:=AN
 refine⟨bp,ae (fun h1=>hN ?_) (fun h1=>ae (fun h2=>hN ?_) (fun h2=>ae (fun h3=>hN ?_) (fun h3=>ae (fun h4=>hN ?_) (fun h4=>⟨⟨rfl,rfl,by omega,by omega,by intro j hj;omega⟩,?_⟩))))⟩
 ·simp only[gz];grind
 ·simp only[gz];grind
 ·simp only[gz];grind
 ·simp only[gz];grind
 rintro⟨row,i,fb,⟨⟩⟩ ⟨rfl,rfl,h5,h6,hR⟩
 have h4:=yF h4
 simp only
 refine ae ?_ ?_<;>intro hc
 ·have hc:i<row.length:=yT hc
  simp(disch:=omega) only[wrap_i64,aQ]
  refine⟨by omega,by omega,ae (fun h=> ?_) (fun h=>⟨⟨rfl,rfl,by omega,by omega,i_ (p:=fun j=>decide ((row.getD j bS).Key=bg t.F)) h5 hR h⟩,by simp only[CQ];omega⟩)⟩
  have ha:s_ row (bg t.F)=true:=iw (j:=i.toNat) (by omega) h
  exact hN (by simp only[gz,ha];simp)
 ·have hc:¬i<row.length:=yF hc
  have ha:s_ row (bg t.F)=false:=gj fun j hj=>hR j (by omega)
  have hy:gz row t=true:=by simp only[gz,ha];grind
  refine⟨by simpa using eN,by simp;omega,?_⟩
  simp only[bH,hy,if_true,List.nil_append];exact aX _
def an7:=bV (α:=(List bq)×aj) (qC (qL .aL) (q1 (qA .ax))) [.ro,.ro] (fun(l,t)=>[L4 (bw l),L4 t.F.ah.length]) (fun(l,t)=>⟨[dL .aL ((bH l t).1),dO ((bH l t).2)],[],[]⟩)
def aoV:HH:=hF an7 func58 [abO,ahg,ahi,Nz,NA,ag8,Y2] a0 fun x hp hb=>by
 obtain⟨l,t⟩:=x
 have bp:bw l<=4294967296:=hp _ m0
 have eN:t.F.ah.length<=4294967296:=hp _ m1
 clear hp hb
 apply vE (let x0:=[{Key:=bg t.F,F:={Kind:=t.aR,ah:=t.F.ah:aK}:bq}];let q0:=Lf [VL .aL l,VB false] [VL .aL ((bH l t).1),VB ((bH l t).2)];L4 (bw l)/\bif !cX l then q0 else bif !bD t.F then q0 else bif !bu t.aR then q0 else bif s_ l (bg t.F) then q0 else bif (l.length:Int)==30 then q0 else L4 t.F.ah.length/\L4 (l.length+x0.length)/\Lf [VL .aL (l++x0),VB true] [VL .aL ((bH l t).1),VB ((bH l t).2)])
 dsimp only
 have hN:gz l t=false->Lf [.one (.sl .aL l),.one (.lit (.bool false))] [.one (.sl .aL (bH l t).1),.one (.lit (.bool (bH l t).2))]:=fun h=>by
  simp only[bH,h];exact aX _
 have hlen:cX l=true->l.length<=30:=AN
 refine⟨bp,ae (fun h1=>hN ?_) (fun h1=>ae (fun h2=>hN ?_) (fun h2=>ae (fun h3=>hN ?_) (fun h3=>ae (fun h4=>hN ?_) (fun h4=>ae (fun h5=>hN ?_) (fun h5=> ?_)))))⟩
 ·simp only[gz];grind
 ·simp only[gz];grind
 ·simp only[gz];grind
 ·simp only[gz];grind
 ·simp only[gz];simp at h5;grind
 have hl:=hlen (by simpa using h1)
 have h5:l.length≠30:=by simp at h5;omega
 have hy:gz l t=true:=by simp only[gz];grind
 refine⟨eN,by simp;omega,?_⟩
 simp only[bH,hy,if_true];exact aX _
def an0:=bV (α:=(List aj)×BA×Bool×aS) (qC (qL .ax) (qC qS (qC qO (q1 (qA .bc))))) [.wr,.ro,.ro,.ro] (fun(l,key,ok,v)=>[aW l=true,bB v=true]) (fun(l,key,ok,v)=>⟨[dI ((aB l key ok v).2)],[],[dL .ax ((aB l key ok v).1)]⟩)
def ag':HH:=hF an0 func78 [abL] a0 fun x hp hb=>by
 obtain⟨l,key,ok,v⟩:=x
 have bp:aW l=true:=hp _ m0
 have eN:bB v=true:=hp _ m1
 clear hp hb
 apply vE (let x0:=l.modify (Int.toNat (aC l key)) fun(x:aj)=>{F:=x.F,aR:=x.aR,State:=(4:Int),bi:=x.bi,ie:=x.ie,V:=x.V:aj};let x1:=x0.modify (Int.toNat (aC l key)) fun(x:aj)=>{F:=x.F,aR:=x.aR,State:=(3:Int),bi:=x.bi,ie:=x.ie,V:=x.V:aj};let q0:=aB l key ok v;let q1:=aC l key;let q2:=dJ [VL .ax l]=dJ [VL .ax (q0.1)];let q3:=l.getD (Int.toNat q1) aD;let q4:=dJ [VI 3]=dJ [VI (q0.2)]/\q2;let q5:=dJ [VI 2]=dJ [VI (q0.2)]/\q2;bif decide (aC l key<0) then q4 else 0<=aC l key/\Int.toNat q1<l.length/\Int.toNat q1<l.length/\bif q3.State==3 then q5 else Int.toNat q1<l.length/\bif q3.State==4 then q5 else Int.toNat q1<l.length/\bif q3.bi==0 then q4 else Int.toNat q1<l.length/\bif ok then Int.toNat q1<x0.length/\Int.toNat q1<x1.length/\dJ [VI 1]=dJ [VI (q0.2)]/\dJ [VL .ax (x1.modify (Int.toNat q1) fun(x:aj)=>{F:=x.F,aR:=x.aR,State:=x.State,bi:=x.bi,ie:=x.ie,V:=v:aj})]=dJ [VL .ax (q0.1)] else Int.toNat q1<x0.length/\dJ [VI 1]=dJ [VI (q0.2)]/\dJ [VL .ax (x0.modify (Int.toNat q1) fun(x:aj)=>{F:=x.F,aR:=x.aR,State:=x.State,bi:=x.bi,ie:=x.ie,V:=v:aj})]=dJ [VL .ax (q0.1)])
 dsimp only
 refine ae ?_ ?_<;>intro h
 ·have h:=yT h
  rw[iQ (fun hh=>absurd hh.2.2.1 (by omega))];exact⟨rfl,rfl⟩
 have h:=yF h
 have hk:=kz (l:=l) (key:=key) (by omega)
 obtain⟨s1,s2,s3,s4,s5⟩:=Gs (mg bp hk)
 refine⟨by omega,hk,hk,ae (fun h1=> ?_) (fun h1=>⟨hk,ae (fun h2=> ?_) (fun h2=>⟨hk,ae (fun h3=> ?_) (fun h3=>⟨hk,ae (fun h4=> ?_) (fun h4=> ?_)⟩)⟩)⟩)⟩
 ·have h1:=eq_of_beq h1
  rw[nH ⟨bp,eN,by omega,by omega⟩ (by omega)];exact⟨rfl,rfl⟩
 ·have h2:=eq_of_beq h2
  rw[nH ⟨bp,eN,by omega,by omega⟩ (by omega)];exact⟨rfl,rfl⟩
 ·have h3:=eq_of_beq h3
  simp only[beq_eq_false_iff_ne,ne_eq] at h1 h2
  rw[iQ (fun hh=>absurd hh.2.2.2 (by omega))];exact⟨rfl,rfl⟩
 ·subst h4
  simp only[beq_eq_false_iff_ne,ne_eq] at h1 h2 h3
  rw[pB ⟨bp,eN,by omega,by omega⟩ (by omega)]
  exact⟨by simp only[Gm];exact hk,by simp only[Gm];exact hk,rfl,vV (NV _ _ _)⟩
 ·subst h4
  simp only[beq_eq_false_iff_ne,ne_eq] at h1 h2 h3
  rw[pB ⟨bp,eN,by omega,by omega⟩ (by omega)]
  exact⟨by simp only[Gm];exact hk,rfl,vV (NW _ _ _)⟩
def an9:=bV (α:=(List aj)×BA×Bool×aS) (qC (qL .ax) (qC qS (qC qO (q1 (qA .bc))))) [.ro,.ro,.ro,.ro] (fun(l,key,ok,v)=>[L4 (ck l)]) (fun(l,key,ok,v)=>⟨[dL .ax ((aB l key ok v).1),dI ((aB l key ok v).2)],[],[]⟩)
def aoX:HH:=hF an9 func56 [WD,abV,abQ,Mc] a0 fun x hp hb=>by
 obtain⟨l,key,ok,v⟩:=x
 have bp:ck l<=4294967296:=hp _ m0
 clear hp hb
 apply vE (let x0:=l.modify (Int.toNat (aC l key)) fun(x:aj)=>{F:=x.F,aR:=x.aR,State:=(4:Int),bi:=x.bi,ie:=x.ie,V:=x.V:aj};let x1:=x0.modify (Int.toNat (aC l key)) fun(x:aj)=>{F:=x.F,aR:=x.aR,State:=(3:Int),bi:=x.bi,ie:=x.ie,V:=x.V:aj};let q0:=Lf [VL .ax l,VI 3] [VL .ax ((aB l key ok v).1),VI ((aB l key ok v).2)];let q1:=aC l key;let q2:=aB l key ok v;L4 (ck l)/\bif !aW l then q0 else bif !bB v then q0 else bif decide (aC l key<0) then q0 else 0<=aC l key/\Int.toNat q1<l.length/\bif (l.getD (Int.toNat q1) aD).State==1 then q0 else 0<=aC l key/\Int.toNat q1<l.length/\Int.toNat q1<l.length/\bif (l.getD (Int.toNat q1) aD).State !=2 then Lf [VL .ax l,VI 2] [VL .ax (q2.1),VI (q2.2)] else Int.toNat q1<l.length/\bif ok then Int.toNat q1<x0.length/\Int.toNat q1<x1.length/\Lf [VL .ax (x1.modify (Int.toNat q1) fun(x:aj)=>{F:=x.F,aR:=x.aR,State:=x.State,bi:=x.bi,ie:=x.ie,V:=v:aj}),VI 1] [VL .ax (q2.1),VI (q2.2)] else Int.toNat q1<x0.length/\Lf [VL .ax (x0.modify (Int.toNat q1) fun(x:aj)=>{F:=x.F,aR:=x.aR,State:=x.State,bi:=x.bi,ie:=x.ie,V:=v:aj}),VI 1] [VL .ax (q2.1),VI (q2.2)])
 dsimp only
 refine⟨bp,ae (fun h=> ?_) (fun h=>ae (fun h2=> ?_) (fun h2=>ae (fun h3=> ?_) (fun h3=> ?_)))⟩
 ·rw[iQ (fun hh=>by rw[hh.1] at h;simp at h)];exact aX _
 ·rw[iQ (fun hh=>by rw[hh.2.1] at h2;simp at h2)];exact aX _
 ·have h3:=yT h3
  rw[iQ (fun hh=>absurd hh.2.2.1 (by omega))];exact aX _
 have h:aW l=true:=by simpa using h
 have h2:bB v=true:=by simpa using h2
 have h3:=yF h3
 have hk:=kz (l:=l) (key:=key) (by omega)
 refine⟨by omega,hk,ae (fun h4=> ?_) (fun h4=>⟨by omega,hk,hk,ae (fun h5=> ?_) (fun h5=>⟨hk,ae (fun h6=> ?_) (fun h6=> ?_)⟩)⟩)⟩
 ·have h4:=eq_of_beq h4
  rw[iQ (fun hh=>absurd hh.2.2.2 (by omega))];exact aX _
 ·simp only[bne_iff_ne,beq_eq_false_iff_ne,ne_eq] at h4 h5
  rw[nH ⟨h,h2,by omega,h4⟩ h5];exact aX _
 ·subst h6
  simp only[bne_iff_ne,bne_eq_false_iff_eq,beq_eq_false_iff_ne,ne_eq] at h4 h5
  rw[pB ⟨h,h2,by omega,h4⟩ h5]
  exact⟨by simp only[Gm];exact hk,by simp only[Gm];exact hk,Uc (NV _ _ _)⟩
 ·subst h6
  simp only[bne_iff_ne,bne_eq_false_iff_eq,beq_eq_false_iff_ne,ne_eq] at h4 h5
  rw[pB ⟨h,h2,by omega,h4⟩ h5]
  exact⟨by simp only[Gm];exact hk,Uc (NW _ _ _)⟩
def agh:=bV (α:=aj×Int) (qC (qA .ax) (q1 qI)) [.ro,.ro] (fun _=>[]) (fun(t,now)=>⟨[dO (due now t)],[],[]⟩)
def ahX:HH:=hF agh func211 [] a0 fun x hp hb=>by
 obtain⟨t,now⟩:=x
 clear hp hb
 apply vE (let q0:=Lb (decide (t.ie<=now)) (due now t);bif t.State==1 then q0 else bif t.State==2 then q0 else Lb false (due now t))
 dsimp only
 repeat' (refine ae (fun h=> ?_) (fun h=> ?_))
 all_goals (refine cj ?_;simp only[due,jI];grind)
def Yd:=bV (α:=(List aj)×Int) (qC (qL .ax) (q1 qI)) [.wr,.ro] (fun(l,now)=>[aW l=true,0<=now/\now<=1000000000]) (fun(l,now)=>⟨[dL .k8 (l.flatMap (pj now)),dL .str (l.flatMap (lM now))],[],[dL .ax (l.map (fU now))]⟩)
def we(l:List aj)(now:Int):List aj×List qj×List BA×Int×Unit->Prop:=fun(out,calls,failed,i,_)=>0<=i/\i<=l.length/\out=(l.map (fU now)).take i.toNat++l.drop i.toNat/\calls=(l.take i.toNat).flatMap (pj now)/\failed=(l.take i.toNat).flatMap (lM now)
def ob(l:List aj)(now:Int):List aj×List qj×List BA×Int×Unit->Nat:=fun(out,calls,failed,i,_)=>l.length-i.toNat
def ajJ:AX Yd:=fun(l,now)=>b_ [(4,aY [.slot 0 (2000000,0) (.own .ax true),iO 6 .k8,iO 7 .str,iI 8] (fun _=>we l now) (ob l now))]
def YR:HH:=hF Yd func165 [ahX,Hy,ahW,sw] ajJ fun x hp hb=>by
 obtain⟨l,now⟩:=x
 have j8:L9 l.length:=lu (hb _ m0)
 have Ig:=Hs (n:=now) (hb _ m1)
 have bp:aW l=true:=hp _ m0
 have eN:0<=now/\now<=1000000000:=hp _ m1
 clear hp hb
 apply vE (we l now (l,[],[],0,())/\∀(y:List aj×List qj×List BA×Int×PUnit),let x3:=y.2.2.2.1.toNat;let x5:=y.1.modify x3 fun(x:aj)=>{F:=x.F,aR:=x.aR,State:=(4:Int),bi:=x.bi,ie:=x.ie,V:=x.V:aj};let x6:=y.1.modify x3 fun(x:aj)=>{F:=x.F,aR:=x.aR,State:=x.State,bi:=wrap i64 ((y.1.getD x3 aD).bi+1),ie:=x.ie,V:=x.V:aj};let x4:=x6.modify x3 fun(x:aj)=>{F:=x.F,aR:=x.aR,State:=(2:Int),bi:=x.bi,ie:=x.ie,V:=x.V:aj};let x2:=x4.modify x3 fun(x:aj)=>{F:=x.F,aR:=x.aR,State:=x.State,bi:=x.bi,ie:=wrap i64 (now+mY 2 (x4.getD x3 aD).bi 60),V:=x.V:aj};let x1:=(x2.getD x3 aD).F;let x0:=[{Key:=bg x1,F:=x1,Try:=(x2.getD x3 aD).bi:qj}];let q0:=(x5,y.2.1,y.2.2.1++[bg (x5.getD x3 aD).F],wrap i64 (y.2.2.2.1+1),());let q1:=(x2,y.2.1++x0,y.2.2.1,wrap i64 (y.2.2.2.1+1),());let q2:=(y.1,y.2.1,y.2.2.1,wrap i64 (y.2.2.2.1+1),());we l now y->bif decide (y.2.2.2.1<(y.1.length:Int)) then 0<=y.2.2.2.1/\x3<y.1.length/\x3<y.1.length/\x3<y.1.length/\bif !due now (y.1.getD x3 aD) then we l now q2/\ob l now q2<ob l now y else x3<y.1.length/\bif (y.1.getD x3 aD).bi==4 then x3<y.1.length/\x3<x5.length/\x3<x5.length/\y.2.2.1.length+List.length [bg (x5.getD x3 aD).F]<=4294967296/\we l now q0/\ob l now q0<ob l now y else x3<y.1.length/\x3<y.1.length/\x3<x6.length/\x3<x4.length/\x3<x4.length/\x3<x2.length/\x3<x2.length/\x3<x2.length/\x3<x2.length/\L4 x1.ah.length/\x3<x2.length/\L4 (y.2.1.length+x0.length)/\we l now q1/\ob l now q1<ob l now y else dJ [VL .k8 y.2.1,VL .str y.2.2.1]=dJ [VL .k8 (List.flatMap (pj now) l),VL .str (List.flatMap (lM now) l)]/\dJ [VL .ax y.1]=dJ [VL .ax (l.map (fU now))])
 dsimp only
 refine⟨⟨by omega,by omega,by simp,by simp,by simp⟩,?_⟩
 rintro⟨out,calls,failed,i,⟨⟩⟩ ⟨h1,h2,rfl,rfl,rfl⟩
 have hl:=H8 (fU now) l h1 h2
 have hlen:=HI bp
 have iv:=yo (pj now) (Qm now) (l.take i.toNat)
 have Gd:=yo (lM now) (G8 now) (l.take i.toNat)
 rw[oc] at iv Gd
 simp only
 refine ae ?_ ?_<;>intro hc
 ·have hc:=yT hc
  have hc:i<l.length:=by omega
  have hi:i.toNat<l.length:=by omega
  have hg:=BR _ l aD (M3 (fU now) l h1 h2) h1 hc
  obtain⟨s1,s2,s3,s4,s5⟩:=Gs (mg bp hi)
  have Xp:=G3 (pj now) l aD h1 hc
  have hft:=G3 (lM now) l aD h1 hc
  have hM:=fun F hF=>BS (fU now) l aD F h1 hc hF
  have hS:=fun hF=>Ex (fU now) l aD h1 hc hF
  have hb:=Fj ((l.getD i.toNat aD).bi+1)
  generalize hRR:(l.map (fU now)).take i.toNat++l.drop i.toNat=R at*
  rw[wi (n:=i+1)]
  simp(disch:=first|omega|(simp only[Gm];omega)) only[getD_modify,n7,Gm,hl,hg]
  generalize hT:l.getD i.toNat aD=t at*
  simp(disch:=omega) only[wrap_i64,fK,fv]
  repeat' (first|refine And.intro (by omega) ?_|refine ae (fun h=> ?_) (fun h=> ?_)|fail)
  all_goals simp only[ru,Bool.not_eq_false',decide_eq_true_eq,decide_eq_false_iff_not,beq_iff_eq,beq_eq_false_iff_ne] at*
  all_goals first
   |(have hd:due now t=true:=by first|assumption|(simp only[due];grind)
     have e1:pj now t=[]:=by simp only[pj];exact if_neg (by simp_all)
     have e2:lM now t=[bg t.F]:=by simp only[lM];exact if_pos ⟨hd,by assumption⟩
     rw[e1,xu] at Xp
     rw[e2] at hft
     rw[hM _ (by simp only[fU,hd,if_true];rw[if_pos (by assumption)])]
     exact⟨⟨by omega,by omega,rfl,Xp,hft⟩,by simp only[ob];omega⟩)
   |(have hd:due now t=true:=by first|assumption|(simp only[due];grind)
     have e1:pj now t=[⟨bg t.F,t.F,t.bi+1⟩]:=by simp only[pj];exact if_pos ⟨hd,by assumption⟩
     have e2:lM now t=[]:=by simp only[lM];exact if_neg (by simp_all)
     rw[e2,xu] at hft
     rw[e1] at Xp
     rw[hM _ (by simp only[fU,hd,if_true];rw[if_neg (by assumption)])]
     exact⟨⟨by omega,by omega,rfl,Xp,hft⟩,by simp only[ob];omega⟩)
   |(have hd:due now t=false:=by first|assumption|(simp only[due];grind)
     have e1:pj now t=[]:=by simp only[pj];exact if_neg (by simp_all)
     have e2:lM now t=[]:=by simp only[lM];exact if_neg (by simp_all)
     rw[e1,xu] at Xp
     rw[e2,xu] at hft
     have hs:=hS (by simp only[fU,hd];rfl)
     exact⟨⟨by omega,by omega,hs,Xp,hft⟩,by simp only[ob];omega⟩)
 ·have hc:=yF hc
  exact⟨by rw[cE l (by omega)];rfl,vV (Ey (i:=i) (fU now) l (by omega))⟩
theorem DW{l:List aj}{f:aj->aj}{k:Nat}(hF:∀t,(f t).F=t.F)(hk:k<l.length)(hf:f_ (f (l.getD k aD))=true)(h:aW l=true):aW (l.modify k f)=true:=by
 rw[mA] at h⊢
 refine⟨by simpa using h.1,fun t ht=> ?_,by rw[oZ _ _ hF];exact h.2.2⟩
 obtain⟨i,hi,rfl⟩:=sG ht
 have qw:i<l.length:=by simpa using hi
 rw[List.getElem_modify]
 split
 ·rename_i V2
  subst V2
  rw[ez,fw hk] at hf
  exact hf
 ·exact h.2.1 _ (FH qw)
theorem nW{l:List aj}{key:BA}{ok:Bool}{v:aS}(h:aW l=true):aW (aB l key ok v).1=true:=by
 unfold aB;split
 ·rename_i hc
  split
  ·have hk:=kz (l:=l) (key:=key) hc.2.2.1
   refine DW (fun _=>rfl) hk ?_ h
   obtain⟨a1,a2,a3,a4,a5,a6,a7⟩:=fB.1 (mg h hk)
   refine fB.2 ⟨a1,a2,?_,a4,a5,.inr hc.2.1,?_⟩
   ·simp only[kE];split<;>omega
   ·simp only[kE];split<;>simp
  ·exact h
 ·exact h
theorem wI(f:aK):(bg f).size<=200:=by
 unfold bg;split
 ·rename_i h
  obtain⟨h1,h2,h3,h4⟩:=iU h
  have:=ya f.ah h2
  rw[fW];simp only[ko,pa,xC,fK,fv];omega
 ·simp[ao]
theorem O3{l:List bq}{u:bq}(h:cX l=true)(hl:l.length<30)(hk:1<=u.Key.size/\u.Key.size<=200)(hf:bD u.F=true)(hn:s_ l u.Key=false):cX (l++[u])=true:=by
 simp only[cX,cJ,decide_eq_true_eq] at h⊢
 have hlen:(l++[u]).length=l.length+1:=by simp
 refine⟨by omega,yZ.2 fun j hj=> ?_⟩
 have g:∀k,k<l.length->(l++[u]).getD k bS=l.getD k bS:=fun k hk=>by rw[ez,ez,xA hk]
 rcases pe j l.length with hjl|hjl
 ·have:=yZ.1 h.2 j hjl
  unfold jE at this⊢
  rw[g j hjl]
  rw[<-this]
  congr 2
  exact nR fun k hk=>by rw[g k (by omega)]
 ·have:j=l.length:=by omega
  subst this
  have gl:(l++[u]).getD l.length bS=u:=by rw[ez,zC (tX _)];simp
  unfold jE
  rw[gl,hf]
  have:(anyI l.length fun k=>decide (((l++[u]).getD k bS).Key=u.Key))=false:=by
   rw[<-hn]
   exact nR fun k hk=>by rw[g k hk]
  rw[this]
  simp only[WO,BL,decide_eq_true_eq];exact hk
theorem Iw{f:aK}(h:bD f=true):1<=(bg f).size:=by
 rw[bg,if_pos h,fW];simp only[ko,xC,fK];omega
theorem KG{l:List bq}{t:aj}(h:gz l t=true):cX (bH l t).1=true:=by
 rw[bH,if_pos h]
 simp only[gz,cJ,ru,decide_eq_false_iff_not] at h
 obtain⟨⟨⟨⟨h1,h2⟩,h3⟩,h4⟩,h5⟩:=h
 have:=wI t.F
 have:=Iw h2
 refine O3 h1 (by omega) ⟨by assumption,by assumption⟩ ?_ h4
 have h6:=h2
 simp only[bD,cJ] at h6⊢
 exact⟨⟨h3,h6.1.2⟩,h6.2⟩
theorem xE{l:List bq}(n:Nat)(h:cX l=true):cX (l.take n)=true:=by
 simp only[cX,cJ,decide_eq_true_eq] at h⊢
 have hg:∀k,k<(l.take n).length->(l.take n).getD k bS=l.getD k bS:=fun k hk=>by
  rw[ez,ez,qn,if_pos (by simp at hk;omega)]
 refine⟨by have:=h.1;simp only[oc];omega,fY.2 fun i hi=> ?_⟩
 have h2:=fY.1 h.2 i (by simp at hi;omega)
 simp only[jE] at h2⊢
 rw[hg i hi,nR (q:=fun k=>decide ((l.getD k bS).Key=(l.getD i bS).Key)) fun k hk=>by rw[hg k (by omega)]]
 exact h2
def qT(x:aq):aq:=gD ⟨x.S,x.ay,x.ag,x.ap,x.av.take (x.av.length-1),x.State,x.bR⟩
theorem G1{x:aq}(h:cz x):cz ⟨x.S,x.ay,x.ag,x.ap,x.av.take (x.av.length-1),x.State,x.bR⟩:=⟨h.1,xE _ h.2.1,h.2.2⟩
def lZ(f:aK)(word:BA)(v:aS):aK:=⟨f.Kind,[⟨2,0,word⟩,v]⟩
def bOk:BA:=⟨#[111,107]⟩
def bNo:BA:=⟨#[110,111]⟩
def uu(ok:Bool):BA:=if ok=true then bOk else bNo
def mK(x:aq)(l:List aj):aq:=⟨x.S,x.ay,l,x.ap,x.av,x.State,x.bR⟩
def DL(x:aq)(l:List bq):aq:=⟨x.S,x.ay,x.ag,x.ap,l,x.State,x.bR⟩
def yX(x:aq)(k:Nat)(ok:Bool)(v:aS):aq:=
 if x.State≠1 then qT x
 else if ok=true/\(x.ag.getD k aD).aR≠ao then
  (if(bH x.av (x.ag.getD k aD)).2=true then dj (DL x (bH x.av (x.ag.getD k aD)).1) (lZ (x.ag.getD k aD).F (uu ok) v) else gq x 3)
 else dj x (lZ (x.ag.getD k aD).F (uu ok) v)
def cm(x:aq)(key:BA)(ok:Bool)(v:aS):aq×Int:=
 if(aB x.ag key ok v).2=1 then(yX (mK x (aB x.ag key ok v).1) (aC (aB x.ag key ok v).1 key).toNat ok v,1) else(x,(aB x.ag key ok v).2)
theorem B_{x:aq}{k:Nat}{ok:Bool}{v:aS}(h:x.State=1):yX x k ok v=if ok=true/\(x.ag.getD k aD).aR≠ao then
  (if(bH x.av (x.ag.getD k aD)).2=true then dj (DL x (bH x.av (x.ag.getD k aD)).1) (lZ (x.ag.getD k aD).F (uu ok) v) else gq x 3)
 else dj x (lZ (x.ag.getD k aD).F (uu ok) v):=if_neg (by omega)
theorem w9{x:aq}(h:cz x){t:aj}(hp:(bH x.av t).2=true):cz (DL x (bH x.av t).1):=by
 refine⟨h.1,?_,h.2.2⟩
 by_cases hc:gz x.av t=true
 ·exact KG hc
 ·rw[bH,if_neg hc] at hp;cases hp
theorem Bg{x:aq}{key:BA}{ok:Bool}{v:aS}(h:cz x):cz (mK x (aB x.ag key ok v).1):=⟨nW h.1,h.2⟩
theorem MK{l:List aj}{key:BA}{ok:Bool}{v:aS}(h:¬(aB l key ok v).2=1):(aB l key ok v).1=l:=by
 unfold aB at h⊢
 split
 ·rename_i h1
  rw[if_pos h1] at h
  split
  ·rename_i h2
   rw[if_pos h2] at h;exact absurd rfl h
  ·rfl
 ·rfl
theorem Eg{l:List aj}{key:BA}{ok:Bool}{v:aS}(h:(aB l key ok v).2=1):0<=aC (aB l key ok v).1 key/\aC (aB l key ok v).1 key<((aB l key ok v).1.length:Int):=by
 have h1:aW l=true/\bB v=true/\0<=aC l key/\(l.getD (aC l key).toNat aD).State≠1:=Classical.byContradiction fun c=>by rw[iQ c] at h;simp at h
 have h2:(l.getD (aC l key).toNat aD).State=2:=Classical.byContradiction fun c=>by rw[nH h1 c] at h;simp at h
 have e:=congrArg Prod.fst (pB (key:=key) (ok:=ok) (v:=v) h1 h2)
 have hk:=kz (l:=l) (key:=key) h1.2.2.1
 have e3:aC (aB l key ok v).1 key=aC l key:=by
  rw[e];unfold aC
  rw[Gm]
  refine pS fun j hj=> ?_
  congr 2
  rw[ez,ez,Uz,fw hj]
  show bg (((if _=j then kE ok v l[j] else l[j])).F)=bg (l[j]).F
  split<;>rfl
 rw[e3,e,Gm];omega
def an4:=bV (α:=aK×BA×aS) (qC (qA .dc) (qC qS (q1 (qA .bc)))) [.ro,.ro,.ro] (fun _=>[]) (fun(f,word,v)=>⟨[dA .dc (lZ f word v)],[],[]⟩)
def aoT:HH:=hF an4 func61 [] a0 fun x hp hb=>by
 obtain⟨f,word,v⟩:=x
 clear hp hb
 apply vE (Lf [DV.agg [CS f.Kind,CL .bc [{K:=(2:Int),N:=(0:Int),S:=word:aS},v]]] [DV.agg [CS ((lZ f word v).Kind),CL .bc (lZ f word v).ah]])
 exact aX _
def agI:=bV (α:=aK×BA×aS) (qC (qA .dc) (qC qS (q1 (qA .bc)))) [.ro,.ro,.ro] (fun _=>[]) (fun(f,word,v)=>⟨[dA .dc (lZ f word v)],[],[]⟩)
def YY:HH:=hF agI func134 [] a0 fun x hp hb=>by
 obtain⟨f,word,v⟩:=x
 clear hp hb
 apply vE (Lf [DV.agg [CS f.Kind,CL .bc [{K:=(2:Int),N:=(0:Int),S:=word:aS},v]]] [DV.agg [CS ((lZ f word v).Kind),CL .bc (lZ f word v).ah]])
 exact aX _
def an8:=bV (α:=aq) (q1 (qX .cf)) [.box true] (fun x=>[cz x,x.State=3\/x.State=5]) (fun x=>⟨[],[],[dX .cf (qT x)]⟩)
def aoW:HH:=hF an8 func57 [aiU,Y3] a0 fun(x:aq) hp hb=>by
 have bp:cz x:=hp _ m0
 have eN:x.State=3\/x.State=5:=hp _ m1
 clear hp hb
 apply vE (let x1:={S:=x.S,ay:=x.ay,ag:=x.ag,ap:=x.ap,av:=x.av.take (x.av.length-1),State:=x.State,bR:=x.bR:aq};let x0:=gD x1;L4 (bw x.av)/\cz x1/\(x.State=3\/x.State=5)/\LM [] [] [DV.box (aG x0)] [DV.box (aG (qT x))])
 dsimp only
 have:=(uw bp.2.1).2.2
 exact⟨by omega,G1 bp,eN,rfl,rfl,rfl⟩
def agK:=bV (α:=aq) (q1 (qX .cf)) [.box true] (fun x=>[cz x,x.State=3\/x.State=5]) (fun x=>⟨[],[],[dX .cf (qT x)]⟩)
def Y0:HH:=hF agK func131 [aic,YS] a0 fun(x:aq) hp hb=>by
 have bp:cz x:=hp _ m0
 have eN:x.State=3\/x.State=5:=hp _ m1
 clear hp hb
 apply vE (let x1:={S:=x.S,ay:=x.ay,ag:=x.ag,ap:=x.ap,av:=x.av.take (x.av.length-1),State:=x.State,bR:=x.bR:aq};let x0:=gD x1;L4 (bw x.av)/\cz x1/\(x.State=3\/x.State=5)/\LM [] [] [DV.box (aG x0)] [DV.box (aG (qT x))])
 dsimp only
 have:=(uw bp.2.1).2.2
 exact⟨by omega,G1 bp,eN,rfl,rfl,rfl⟩
def anZ:=bV (α:=aq×Int×Bool×aS) (qC (qX .cf) (qC qI (qC qO (q1 (qA .bc))))) [.box true,.ro,.ro,.ro] (fun(x,k,ok,v)=>[cz x,bm x.S=true,0<=k/\k<x.ag.length,x.State=1\/x.State=3\/x.State=5]) (fun(x,k,ok,v)=>⟨[],[],[dX .cf (yX x k.toNat ok v)]⟩)
def aoK:HH:=hF anZ func79 [Y0,YZ,Md,YY,Ma] a0 fun x hp hb=>by
 obtain⟨x,k,ok,v⟩:=x
 have eV:=nP (x:=x) (hb _ m0)
 have e8:=eV.1
 have gO:=eV.2.1
 have gN:=eV.2.2.1
 have fM:=eV.2.2.2.1
 have gM:=eV.2.2.2.2
 have anf:=Hs (n:=k) (hb _ m1)
 have Sp:=IF (x:=v) (hb _ m3)
 have bp:cz x:=hp _ m0
 have eN:bm x.S=true:=hp _ m1
 have GS:0<=k/\k<x.ag.length:=hp _ m2
 have hp3:x.State=1\/x.State=3\/x.State=5:=hp _ m3
 clear hp hb
 apply vE (let x8:=x.ag.getD k.toNat aD;let x9:= !ByteArray.toList x8.aR==ByteArray.toList {data:= #[]:BA};let x2:={S:=x.S,ay:=x.ay,ag:=x.ag,ap:=x.ap,av:=(bH {τ:=Cd.aL,xs:=x.av:fu UU}.xs {F:={Kind:=x8.F.Kind,ah:={τ:=Cd.bc,xs:=(List.getD {τ:=Cd.ax,xs:=x.ag:fu UU}.xs k.toNat (UU.e6 {τ:=Cd.ax,xs:=x.ag:fu UU}.τ)).F.ah:fu UU}.xs:aK},aR:=x8.aR,State:=x8.State,bi:=x8.bi,ie:=x8.ie,V:={K:=x8.V.K,N:=x8.V.N,S:=x8.V.S:aS}:aj}).1,State:=x.State,bR:=x.bR:aq};let x5:= !(bH {τ:=Cd.aL,xs:=x.av:fu UU}.xs {F:={Kind:=x8.F.Kind,ah:={τ:=Cd.bc,xs:=(List.getD {τ:=Cd.ax,xs:=x.ag:fu UU}.xs k.toNat (UU.e6 {τ:=Cd.ax,xs:=x.ag:fu UU}.τ)).F.ah:fu UU}.xs:aK},aR:=x8.aR,State:=x8.State,bi:=x8.bi,ie:=x8.ie,V:={K:=x8.V.K,N:=x8.V.N,S:=x8.V.S:aS}:aj}).2;let x6:=lZ x8.F {data:= #[(110:UInt8),(111:UInt8)]:BA} v;let x7:=lZ x8.F {data:= #[(111:UInt8),(107:UInt8)]:BA} v;let x0:=dj x2 x7;let x1:=dj x2 x6;let x3:=dj x x6;let x4:=dj x x7;let q0:=aG (yX x k.toNat ok v);let q1:=k.toNat<x.ag.length/\cz x/\bm x.S=true/\L4 x7.ah.length/\LM [] [] [DV.box (aG x4)] [DV.box q0];let q2:=k.toNat<x.ag.length/\cz x/\bm x.S=true/\L4 x6.ah.length/\LM [] [] [DV.box (aG x3)] [DV.box q0];let q3:=cz x/\((3:Int)=(3:Int)\/(3:Int)=(5:Int))/\LM [] [] [DV.box (aG (gq x 3))] [DV.box q0];0<=k/\k.toNat<x.ag.length/\k.toNat<x.ag.length/\bif x.State !=1 then cz x/\(x.State=3\/x.State=5)/\LM [] [] [DV.box (aG (qT x))] [DV.box q0] else bif ok then bif ok then bif x9 then k.toNat<x.ag.length/\L4 (bw x.av)/\L4 x8.F.ah.length/\bif x5 then q3 else k.toNat<x.ag.length/\cz x2/\bm x.S=true/\L4 x7.ah.length/\LM [] [] [DV.box (aG x0)] [DV.box q0] else q1 else q1 else bif ok then bif x9 then k.toNat<x.ag.length/\L4 (bw x.av)/\L4 x8.F.ah.length/\bif x5 then q3 else k.toNat<x.ag.length/\cz x2/\bm x.S=true/\L4 x6.ah.length/\LM [] [] [DV.box (aG x1)] [DV.box q0] else q2 else q2)
 dsimp only
 have QF:=bp
 obtain⟨q1,q2,q3,q4⟩:=bp
 have hk:k.toNat<x.ag.length:=by omega
 have k3:=(uw q2).2.2
 have Of:=(p6 (fB.1 (mg q1 hk)).1).1
 rw[aQ]
 refine⟨GS.1,hk,hk,jk (fun hs=>⟨QF,by omega,by trivial,by trivial,ll ?_⟩) (fun hs=> ?_)⟩
 ·exact(if_pos hs).symm
 have e0:=B_ (k:=k.toNat) (ok:=ok) (v:=v) hs
 cases ok with
 |false=>
  simp only[cond_false]
  exact⟨hk,QF,eN,by simp[lZ],by trivial,by trivial,ll (e0.trans (if_neg (by simp))).symm⟩
 |true=>
  simp only[cond_true]
  refine bC ?_ ?_<;>intro g
  ·have g:¬(x.ag.getD k.toNat aD).aR=ao:=yF g
   refine⟨hk,by omega,by omega,bC (fun p=> ?_) (fun p=> ?_)⟩
   ·have p:(bH x.av (x.ag.getD k.toNat aD)).2=false:=p
    exact⟨QF,.inl (by trivial),by trivial,by trivial,ll (e0.trans ((if_pos ⟨rfl,g⟩).trans (if_neg (by rw[p];decide)))).symm⟩
   ·have p:(bH x.av (x.ag.getD k.toNat aD)).2=true:=p
    exact⟨hk,w9 QF p,eN,by simp[lZ],by trivial,by trivial,ll (e0.trans ((if_pos ⟨rfl,g⟩).trans (if_pos p))).symm⟩
  ·have g:(x.ag.getD k.toNat aD).aR=ao:=yT g
   exact⟨hk,QF,eN,by simp[lZ],by trivial,by trivial,ll (e0.trans (if_neg (fun c=>c.2 g))).symm⟩
def aol:=bV (α:=aq×BA×Bool×aS) (qC (qX .cf) (qC qS (qC qO (q1 (qA .bc))))) [.box true,.ro,.ro,.ro] (fun(x,key,ok,v)=>[cz x,bm x.S=true,bB v=true,(aB x.ag key ok v).2=1->x.State=1\/x.State=3\/x.State=5]) (fun(x,key,ok,v)=>⟨[dI ((cm x key ok v).2)],[],[dX .cf ((cm x key ok v).1)]⟩)
def ahL:HH:=hF aol func23 [ag',abL,aoK] a0 fun x hp hb=>by
 obtain⟨x,key,ok,v⟩:=x
 have bp:cz x:=hp _ m0
 have eN:bm x.S=true:=hp _ m1
 have GS:bB v=true:=hp _ m2
 have hp3:(aB x.ag key ok v).2=1->x.State=1\/x.State=3\/x.State=5:=hp _ m3
 clear hp hb
 apply vE (let x1:=aC (aB {τ:=Cd.ax,xs:=x.ag:fu UU}.xs key ok {K:=v.K,N:=v.N,S:=v.S:aS}).1 key;let x2:={S:=x.S,ay:=x.ay,ag:=(aB {τ:=Cd.ax,xs:=x.ag:fu UU}.xs key ok {K:=v.K,N:=v.N,S:=v.S:aS}).1,ap:=x.ap,av:=x.av,State:=x.State,bR:=x.bR:aq};let x0:=yX x2 x1.toNat ok v;let q0:=aB {τ:=Cd.ax,xs:=x.ag:fu UU}.xs key ok {K:=v.K,N:=v.N,S:=v.S:aS};let q1:=cm x key ok v;aW x.ag=true/\bB v=true/\bif q0.2==1 then cz x2/\bm x.S=true/\(0<=x1/\x1<(↑(q0.1.length):Int))/\(x.State=1\/x.State=3\/x.State=5)/\LM [VI (q0.2)] [VI (q1.2)] [DV.box (aG x0)] [DV.box [CL .aJ q1.1.S.ab,CI (q1.1.S.Next),CL .aE q1.1.ay,CL .ax q1.1.ag,CL .aI q1.1.ap,CL .aL q1.1.av,CI (q1.1.State),CI (q1.1.bR)]] else LM [VI (q0.2)] [VI (q1.2)] [DV.box [CL .aJ x.S.ab,CI x.S.Next,CL .aE x.ay,CL .ax q0.1,CL .aI x.ap,CL .aL x.av,CI x.State,CI x.bR]] [DV.box [CL .aJ q1.1.S.ab,CI (q1.1.S.Next),CL .aE q1.1.ay,CL .ax q1.1.ag,CL .aI q1.1.ap,CL .aL q1.1.av,CI (q1.1.State),CI (q1.1.bR)]])
 dsimp only
 have QF:=bp
 have gI:=Eg (l:=x.ag) (key:=key) (ok:=ok) (v:=v)
 refine⟨bp.1,GS,bo (fun h=> ?_) (fun h=> ?_)⟩
 ·have e:cm x key ok v=(yX (mK x (aB x.ag key ok v).1) (aC (aB x.ag key ok v).1 key).toNat ok v,1):=if_pos h
  exact⟨Bg QF,eN,gI h,hp3 h,by trivial,WL (h.trans (congrArg Prod.snd e).symm),ll (congrArg Prod.fst e).symm⟩
 ·have e:cm x key ok v=(x,(aB x.ag key ok v).2):=if_neg h
  have e2:=MK (l:=x.ag) (key:=key) (ok:=ok) (v:=v) h
  exact⟨by trivial,WL (congrArg Prod.snd e).symm,ll (a:=mK x (aB x.ag key ok v).1) ((congrArg (mK x) e2).trans (congrArg Prod.fst e).symm)⟩
def aop:=bV (α:=aq×BA×Bool×aS) (qC (qX .cf) (qC qS (qC qO (q1 (qA .bc))))) [.box true,.ro,.ro,.ro] (fun(x,key,ok,v)=>[cz x,bm x.S=true,(aB x.ag key ok v).2=1->x.State=1\/x.State=3\/x.State=5]) (fun(x,key,ok,v)=>⟨[dI ((cm x key ok v).2)],[],[dX .cf ((cm x key ok v).1)]⟩)
def apg:HH:=hF aop func19 [aoX,aoW,abV,aoV,ahe,aoT,aoU] a0 fun x hp hb=>by
 obtain⟨x,key,ok,v⟩:=x
 have bp:cz x:=hp _ m0
 have eN:bm x.S=true:=hp _ m1
 have GS:(aB x.ag key ok v).2=1->x.State=1\/x.State=3\/x.State=5:=hp _ m2
 clear hp hb
 apply vE (let x9:={S:=x.S,ay:=x.ay,ag:=(aB {τ:=Cd.ax,xs:=x.ag:fu UU}.xs key ok {K:=v.K,N:=v.N,S:=v.S:aS}).1,ap:=x.ap,av:=x.av,State:=x.State,bR:=x.bR:aq};let gK:=aC (aB {τ:=Cd.ax,xs:=x.ag:fu UU}.xs key ok {K:=v.K,N:=v.N,S:=v.S:aS}).1 key;let x7:=gq x9 3;let x8:=qT x9;let qk:=gK.toNat;let x6:=(aB {τ:=Cd.ax,xs:=x.ag:fu UU}.xs key ok {K:=v.K,N:=v.N,S:=v.S:aS}).1.getD qk aD;let mG:=lZ x6.F {data:= #[(110:UInt8),(111:UInt8)]:BA} v;let ly:=lZ x6.F {data:= #[(111:UInt8),(107:UInt8)]:BA} v;let pE:= !ByteArray.toList x6.aR==ByteArray.toList {data:= #[]:BA};let x2:={S:=x.S,ay:=x.ay,ag:=(aB {τ:=Cd.ax,xs:=x.ag:fu UU}.xs key ok {K:=v.K,N:=v.N,S:=v.S:aS}).1,ap:=x.ap,av:=(bH {τ:=Cd.aL,xs:=x.av:fu UU}.xs {F:={Kind:=x6.F.Kind,ah:={τ:=Cd.bc,xs:=(List.getD {τ:=Cd.ax,xs:=(aB {τ:=Cd.ax,xs:=x.ag:fu UU}.xs key ok {K:=v.K,N:=v.N,S:=v.S:aS}).1:fu UU}.xs qk (UU.e6 {τ:=Cd.ax,xs:=(aB {τ:=Cd.ax,xs:=x.ag:fu UU}.xs key ok {K:=v.K,N:=v.N,S:=v.S:aS}).1:fu UU}.τ)).F.ah:fu UU}.xs:aK},aR:=x6.aR,State:=x6.State,bi:=x6.bi,ie:=x6.ie,V:={K:=x6.V.K,N:=x6.V.N,S:=x6.V.S:aS}:aj}).1,State:=x.State,bR:=x.bR:aq};let x3:=dj x9 mG;let x4:=dj x9 ly;let x5:= !(bH {τ:=Cd.aL,xs:=x.av:fu UU}.xs {F:={Kind:=x6.F.Kind,ah:={τ:=Cd.bc,xs:=(List.getD {τ:=Cd.ax,xs:=(aB {τ:=Cd.ax,xs:=x.ag:fu UU}.xs key ok {K:=v.K,N:=v.N,S:=v.S:aS}).1:fu UU}.xs qk (UU.e6 {τ:=Cd.ax,xs:=(aB {τ:=Cd.ax,xs:=x.ag:fu UU}.xs key ok {K:=v.K,N:=v.N,S:=v.S:aS}).1:fu UU}.τ)).F.ah:fu UU}.xs:aK},aR:=x6.aR,State:=x6.State,bi:=x6.bi,ie:=x6.ie,V:={K:=x6.V.K,N:=x6.V.N,S:=x6.V.S:aS}:aj}).2;let x0:=dj x2 mG;let x1:=dj x2 ly;let q0:=aB {τ:=Cd.ax,xs:=x.ag:fu UU}.xs key ok {K:=v.K,N:=v.N,S:=v.S:aS};let q1:=cm x key ok v;let q2:=qk<q0.1.length/\cz x9/\bm x.S=true/\L4 ly.ah.length/\LM [VI (q0.2)] [VI (q1.2)] [DV.box (aG x4)] [DV.box [CL .aJ q1.1.S.ab,CI (q1.1.S.Next),CL .aE q1.1.ay,CL .ax q1.1.ag,CL .aI q1.1.ap,CL .aL q1.1.av,CI (q1.1.State),CI (q1.1.bR)]];let q3:=qk<q0.1.length/\cz x9/\bm x.S=true/\L4 mG.ah.length/\LM [VI (q0.2)] [VI (q1.2)] [DV.box (aG x3)] [DV.box [CL .aJ q1.1.S.ab,CI (q1.1.S.Next),CL .aE q1.1.ay,CL .ax q1.1.ag,CL .aI q1.1.ap,CL .aL q1.1.av,CI (q1.1.State),CI (q1.1.bR)]];let q4:=cz x9/\LM [VI (q0.2)] [VI (q1.2)] [DV.box (aG x7)] [DV.box [CL .aJ q1.1.S.ab,CI (q1.1.S.Next),CL .aE q1.1.ay,CL .ax q1.1.ag,CL .aI q1.1.ap,CL .aL q1.1.av,CI (q1.1.State),CI (q1.1.bR)]];L4 (ck x.ag)/\bif q0.2 !=1 then LM [VI (q0.2)] [VI (q1.2)] [DV.box (aG x)] [DV.box [CL .aJ q1.1.S.ab,CI (q1.1.S.Next),CL .aE q1.1.ay,CL .ax q1.1.ag,CL .aI q1.1.ap,CL .aL q1.1.av,CI (q1.1.State),CI (q1.1.bR)]] else bif x.State !=1 then cz x9/\(x.State=3\/x.State=5)/\LM [VI (q0.2)] [VI (q1.2)] [DV.box (aG x8)] [DV.box [CL .aJ q1.1.S.ab,CI (q1.1.S.Next),CL .aE q1.1.ay,CL .ax q1.1.ag,CL .aI q1.1.ap,CL .aL q1.1.av,CI (q1.1.State),CI (q1.1.bR)]] else 0<=gK/\qk<q0.1.length/\qk<q0.1.length/\bif ok then bif ok then bif pE then qk<q0.1.length/\L4 (bw x.av)/\L4 x6.F.ah.length/\bif x5 then q4 else qk<q0.1.length/\cz x2/\bm x.S=true/\L4 ly.ah.length/\LM [VI (q0.2)] [VI (q1.2)] [DV.box (aG x1)] [DV.box [CL .aJ q1.1.S.ab,CI (q1.1.S.Next),CL .aE q1.1.ay,CL .ax q1.1.ag,CL .aI q1.1.ap,CL .aL q1.1.av,CI (q1.1.State),CI (q1.1.bR)]] else q2 else q2 else bif ok then bif pE then qk<q0.1.length/\L4 (bw x.av)/\L4 x6.F.ah.length/\bif x5 then q4 else qk<q0.1.length/\cz x2/\bm x.S=true/\L4 mG.ah.length/\LM [VI (q0.2)] [VI (q1.2)] [DV.box (aG x0)] [DV.box [CL .aJ q1.1.S.ab,CI (q1.1.S.Next),CL .aE q1.1.ay,CL .ax q1.1.ag,CL .aI q1.1.ap,CL .aL q1.1.av,CI (q1.1.State),CI (q1.1.bR)]] else q3 else q3)
 dsimp only
 have QF:=bp
 have gI:=Eg (l:=x.ag) (key:=key) (ok:=ok) (v:=v)
 have k3:=(uw bp.2.1).2.2
 have kt:=(uA bp.1).2
 have hy:=Bg (key:=key) (ok:=ok) (v:=v) QF
 rw[aQ]
 refine⟨by omega,jk (fun h=> ?_) (fun h=> ?_)⟩
 ·have e:cm x key ok v=(x,(aB x.ag key ok v).2):=if_neg h
  exact⟨by trivial,WL (congrArg Prod.snd e).symm,ll (congrArg Prod.fst e).symm⟩
 have e:cm x key ok v=(yX (mK x (aB x.ag key ok v).1) (aC (aB x.ag key ok v).1 key).toNat ok v,1):=if_pos h
 have e1:=WL (h.trans (congrArg Prod.snd e).symm)
 have e2:=congrArg Prod.fst e
 obtain⟨l1,l2⟩:=gI h
 have hk:(aC (aB x.ag key ok v).1 key).toNat<(aB x.ag key ok v).1.length:=by omega
 have Of:((aB x.ag key ok v).1.getD (aC (aB x.ag key ok v).1 key).toNat aD).F.ah.length<=5:=(p6 (fB.1 (mg hy.1 hk)).1).1
 refine jk (fun hs=>⟨hy,by have:=GS h;omega,by trivial,e1,ll (e2.trans (if_pos hs)).symm⟩) (fun hs=>⟨l1,hk,hk,?_⟩)
 have e0:=B_ (x:=mK x (aB x.ag key ok v).1) (k:=(aC (aB x.ag key ok v).1 key).toNat) (ok:=ok) (v:=v) hs
 have e3:=e2.trans e0
 cases ok with
 |false=>
  simp only[cond_false]
  exact⟨hk,hy,eN,by simp[lZ],by trivial,e1,ll (e3.trans (if_neg (by simp))).symm⟩
 |true=>
  simp only[cond_true]
  refine bC ?_ ?_<;>intro g
  ·have g:¬((aB x.ag key true v).1.getD (aC (aB x.ag key true v).1 key).toNat aD).aR=ao:=yF g
   refine⟨hk,by omega,by omega,bC (fun p=> ?_) (fun p=> ?_)⟩
   ·have p:(bH x.av ((aB x.ag key true v).1.getD (aC (aB x.ag key true v).1 key).toNat aD)).2=false:=p
    exact⟨hy,by trivial,e1,ll (e3.trans ((if_pos ⟨rfl,g⟩).trans (if_neg (fun c=>absurd (p.symm.trans c) (by decide))))).symm⟩
   ·have p:(bH x.av ((aB x.ag key true v).1.getD (aC (aB x.ag key true v).1 key).toNat aD)).2=true:=p
    exact⟨hk,w9 hy p,eN,by simp[lZ],by trivial,e1,ll (e3.trans ((if_pos ⟨rfl,g⟩).trans (if_pos p))).symm⟩
  ·have g:((aB x.ag key true v).1.getD (aC (aB x.ag key true v).1 key).toNat aD).aR=ao:=yT g
   exact⟨hk,hy,eN,by simp[lZ],by trivial,e1,ll (e3.trans (if_neg (fun c=>c.2 g))).symm⟩
def iV:List bZ->BA->aS×Bool
 |[],_=>(dE,false)
 |b::l,n=>if b.Name=n then(b.V,true) else iV l n
theorem LN(l:List bZ)(n:BA){i:Int}(h0:0<=i)(h:i<l.length):iV (l.drop i.toNat) n=if(l.getD i.toNat tQ).Name=n then((l.getD i.toNat tQ).V,true) else iV (l.drop (i+1).toNat) n:=by
 rw[eX l tQ h0 h];rfl
def cA(a:cI)(l:List bZ):aS×Bool:=if a.K=2 then(a.V,true) else if a.K=1 then iV l a.S else(dE,false)
def RM(n:Int):aS:=⟨1,n,ao⟩
def mO(a b:aS):Bool:=decide (a.K=1)&&decide (b.K=1)&&bB a&&bB b
def iW(a b:aS)(n:Int):Bool:=mO a b&&bB (RM n)
def ng(a b:aS)(n:Int):aS:=if iW a b n then RM n else dE
theorem K5{a b:aS}(h:mO a b=true):(-1000000000<=a.N/\a.N<=1000000000)/\(-1000000000<=b.N/\b.N<=1000000000):=by
 simp only[mO,cJ,decide_eq_true_eq] at h
 obtain⟨⟨⟨h1,h2⟩,h3⟩,h4⟩:=h
 simp only[bB,h1,h2,decide_true,cond_true,cJ,decide_eq_true_eq] at h3 h4
 exact⟨h3.1,h4.1⟩
theorem DY(a b:aS)(n:Int)(h:mO a b=true->IntKind.wrap .i64 n=n):iW a b (IntKind.wrap .i64 n)=iW a b n:=by
 cases hi:mO a b with
 |false=>simp only[iW,hi,qm]
 |true=>rw[h hi]
theorem Gv(a b:aS)(n:Int)(h:mO a b=true->IntKind.wrap .i64 n=n):ng a b (IntKind.wrap .i64 n)=ng a b n:=by
 cases hi:mO a b with
 |false=>simp only[ng,iW,hi,qm];rfl
 |true=>rw[h hi]
def q_(e:ct)(l:List bZ):aS×Bool:=
 if(cA e.L l).2=false then(dE,false) else if e.Op=ao then((cA e.L l).1,true) else if(cA e.R l).2=false then(dE,false)
 else if e.Op=Fk then(ng (cA e.L l).1 (cA e.R l).1 ((cA e.L l).1.N+(cA e.R l).1.N),iW (cA e.L l).1 (cA e.R l).1 ((cA e.L l).1.N+(cA e.R l).1.N))
 else if e.Op=xe then(ng (cA e.L l).1 (cA e.R l).1 ((cA e.L l).1.N-(cA e.R l).1.N),iW (cA e.L l).1 (cA e.R l).1 ((cA e.L l).1.N-(cA e.R l).1.N)) else(dE,false)
def uY(l:List bZ)(e:ct):aS:=(q_ e l).1
def uZ(l:List bZ)(e:ct):Bool:=(q_ e l).2
def mW(es:List ct)(l:List bZ):Bool:=es.all (uZ l)
def mV(es:List ct)(l:List bZ):List aS:=if mW es l then es.map (uY l) else[]
theorem Y_{a a':aS}{b b':Bool}(h1:a=a')(h2:b=b'):Lf [.agg [CI a.K,CI a.N,.lit (.string a.S)],.one (.lit (.bool b))] [.agg [CI a'.K,CI a'.N,.lit (.string a'.S)],.one (.lit (.bool b'))]:=by
 subst h1 h2;exact aX _
theorem aka{a a':List aS}{b b':Bool}(h1:a=a')(h2:b=b'):Lf [.one (.sl .bc a),.one (.lit (.bool b))] [.one (.sl .bc a'),.one (.lit (.bool b'))]:=by
 subst h1 h2;exact aX _
theorem DX{a b:aS}{n:Int}(h:iW a b n=false):Lf [.agg [CI 0,CI 0,.lit (.string ⟨#[]⟩)],.one (.lit (.bool false))] [.agg [CI ((ng a b n).K),CI ((ng a b n).N),.lit (.string (ng a b n).S)],.one (.lit (.bool (iW a b n)))]:=
 Y_ (a:=dE) (by simp only[ng,h];rfl) h.symm
theorem UL{a b:aS}{n:Int}(h:iW a b n=true):Lf [.agg [CI 1,CI n,.lit (.string ⟨#[]⟩)],.one (.lit (.bool true))] [.agg [CI ((ng a b n).K),CI ((ng a b n).N),.lit (.string (ng a b n).S)],.one (.lit (.bool (iW a b n)))]:=
 Y_ (a:=RM n) (by simp only[ng,h];rfl) h.symm
theorem LX{a b:aS}(h:mO a b=true):IntKind.wrap .i64 (a.N+b.N)=a.N+b.N:=by
 have:=K5 h
 exact wi
theorem Ki{a b:aS}(h:mO a b=true):IntKind.wrap .i64 (a.N-b.N)=a.N-b.N:=by
 have:=K5 h
 exact wi
def Xz:=bV (α:=(List bZ)×BA) (qC (qL .cv) (q1 qS)) [.ro,.ro] (fun _=>[]) (fun(l,name)=>⟨[dA .bc ((iV l name).1),dO ((iV l name).2)],[],[]⟩)
def CZ(l:List bZ)(name:BA):Int×T22×Unit->Prop:=fun(i,r,_)=>r=(0,0,ao,())/\0<=i/\i<=l.length/\iV (l.drop i.toNat) name=iV l name
def Cc(l:List bZ)(name:BA):Int×T22×Unit->Nat:=fun(i,r,_)=>l.length-i.toNat
def ai3:AX Xz:=fun(l,name)=>b_ [(2,aY [iI 6,.box 4 (4,1024) [.lit (.int .i64),.lit (.int .i64),.lit .str]] (fun _=>CZ l name) (Cc l name))]
def YE:HH:=hF Xz func273 [] ai3 fun x hp hb=>by
 obtain⟨l,name⟩:=x
 have j8:L9 l.length:=lu (hb _ m0)
 have BX:=Mp (s:=name) (hb _ m1)
 clear hp hb
 apply vE (let q0:=iV l name;CZ l name (0,(0,0,{data:= #[]:BA},()),())/\∀(y:Int×(Int×Int×BA×PUnit)×PUnit),let x0:=(l.getD y.1.toNat tQ).V;let q1:=(wrap i64 (y.1+1),(y.2.1.1,y.2.1.2.1,y.2.1.2.2.1,()),());CZ l name y->bif decide (y.1<(l.length:Int)) then 0<=y.1/\y.1.toNat<l.length/\bif ByteArray.toList (l.getD y.1.toNat tQ).Name==ByteArray.toList name then 0<=y.1/\y.1.toNat<l.length/\Lf [DV.agg [CI x0.K,CI x0.N,CS x0.S],VB true] [DV.agg [CI (q0.1.K),CI (q0.1.N),CS (q0.1.S)],VB (q0.2)] else CZ l name q1/\Cc l name q1<Cc l name y else Lf [DV.agg [CI 0,CI 0,CS ({data:= #[]:BA})],VB false] [DV.agg [CI (q0.1.K),CI (q0.1.N),CS (q0.1.S)],VB (q0.2)])
 dsimp only
 refine⟨⟨rfl,by omega,by omega,rfl⟩,?_⟩
 rintro⟨i,⟨r1,r2,r3,⟨⟩⟩,⟨⟩⟩ ⟨hr,h1,h2,hR⟩
 cases hr
 simp only
 refine aV ?_ ?_<;>intro hc
 ·rw[LN l name h1 hc] at hR
  rw[aQ]
  refine⟨by omega,by omega,aV (fun g=> ?_) (fun g=> ?_)⟩
  ·rw[if_pos g] at hR;rw[<-hR];exact⟨by omega,by omega,aX _⟩
  ·rw[if_neg g] at hR;rw[wi];exact⟨⟨rfl,by omega,by omega,hR⟩,by simp only[Cc];omega⟩
 ·have e:l.drop i.toNat=[]:=List.drop_eq_nil_of_le (by omega)
  rw[e] at hR;rw[<-hR];exact aX _
def afO:=bV (α:=cI×(List bZ)) (qC (qA .gB) (q1 (qL .cv))) [.ro,.ro] (fun _=>[]) (fun(a,l)=>⟨[dA .bc ((cA a l).1),dO ((cA a l).2)],[],[]⟩)
def YD:HH:=hF afO func274 [YE] a0 fun x hp hb=>by
 obtain⟨a,l⟩:=x
 clear hp hb
 apply vE (let q0:=cA a l;bif a.K==2 then Lf [DV.agg [CI a.V.K,CI a.V.N,CS a.V.S],VB true] [DV.agg [CI (q0.1.K),CI (q0.1.N),CS (q0.1.S)],VB (q0.2)] else bif a.K==1 then Lf [DV.agg [CI ((iV l a.S).1.K),CI ((iV l a.S).1.N),CS ((iV l a.S).1.S)],VB ((iV l a.S).2)] [DV.agg [CI (q0.1.K),CI (q0.1.N),CS (q0.1.S)],VB (q0.2)] else Lf [DV.agg [CI 0,CI 0,CS ({data:= #[]:BA})],VB false] [DV.agg [CI (q0.1.K),CI (q0.1.N),CS (q0.1.S)],VB (q0.2)])
 dsimp only
 refine bo (fun h=> ?_) (fun h=>bo (fun h'=> ?_) (fun h'=> ?_))
 ·have e:cA a l=(a.V,true):=if_pos h
  rw[e];exact aX _
 ·have e:cA a l=iV l a.S:=(if_neg h).trans (if_pos h')
  rw[e];exact aX _
 ·have e:cA a l=(dE,false):=(if_neg h).trans (if_neg h')
  rw[e];exact aX _
def afJ:=bV (α:=aS×aS×Int) (qC (qA .bc) (qC (qA .bc) (q1 qI))) [.ro,.ro,.ro] (fun _=>[]) (fun(a,b,n)=>⟨[dA .bc (ng a b n),dO (iW a b n)],[],[]⟩)
def YC:HH:=hF afJ func280 [TQ] a0 fun x hp hb=>by
 obtain⟨a,b,n⟩:=x
 clear hp hb
 apply vE (let q0:=Lf [DV.agg [CI 0,CI 0,CS ({data:= #[]:BA})],VB false] [DV.agg [CI ((ng a b n).K),CI ((ng a b n).N),CS ((ng a b n).S)],VB (iW a b n)];bif a.K !=1 then q0 else bif b.K !=1 then q0 else bif !bB a then q0 else bif !bB b then q0 else bif !bB {K:=(1:Int),N:=n,S:={data:= #[]:BA}:aS} then q0 else Lf [DV.agg [CI 1,CI n,CS ({data:= #[]:BA})],VB true] [DV.agg [CI ((ng a b n).K),CI ((ng a b n).N),CS ((ng a b n).S)],VB (iW a b n)])
 dsimp only
 refine jk (fun h=>DX ?_) (fun h1=>jk (fun h=>DX ?_) (fun h2=>bC (fun h=>DX ?_) (fun h3=>bC (fun h=>DX ?_) (fun h4=>bC (fun h=>DX ?_) (fun h5=>UL ?_)))))
 ·simp only[iW,mO,decide_eq_false h,qm]
 ·simp only[iW,mO,decide_eq_false h,qm,vl]
 ·simp only[iW,mO,show bB a=false from h,qm,vl]
 ·simp only[iW,mO,show bB b=false from h,qm,vl]
 ·simp only[iW,show bB (RM n)=false from h,vl]
 ·simp only[iW,mO,show bB a=true from h3,show bB b=true from h4,show bB (RM n)=true from h5,decide_eq_true h1,decide_eq_true h2];rfl
def afN:=bV (α:=aS×aS) (qC (qA .bc) (q1 (qA .bc))) [.ro,.ro] (fun _=>[]) (fun(a,b)=>⟨[dA .bc (ng a b (a.N+b.N)),dO (iW a b (a.N+b.N))],[],[]⟩)
def ahl:HH:=hF afN func275 [YC] a0 fun x hp hb=>by
 obtain⟨a,b⟩:=x
 clear hp hb
 apply vE (let x2:=a.N+b.N;let x0:=ng a b (wrap i64 x2);let x1:=ng a b x2;Lf [DV.agg [CI x0.K,CI x0.N,CS x0.S],VB (iW a b (wrap i64 x2))] [DV.agg [CI x1.K,CI x1.N,CS x1.S],VB (iW a b x2)])
 dsimp only
 rw[DY a b _ LX,Gv a b _ LX];exact aX _
def afM:=bV (α:=aS×aS) (qC (qA .bc) (q1 (qA .bc))) [.ro,.ro] (fun _=>[]) (fun(a,b)=>⟨[dA .bc (ng a b (a.N-b.N)),dO (iW a b (a.N-b.N))],[],[]⟩)
def ahk:HH:=hF afM func276 [YC] a0 fun x hp hb=>by
 obtain⟨a,b⟩:=x
 clear hp hb
 apply vE (let x2:=a.N-b.N;let x0:=ng a b (wrap i64 x2);let x1:=ng a b x2;Lf [DV.agg [CI x0.K,CI x0.N,CS x0.S],VB (iW a b (wrap i64 x2))] [DV.agg [CI x1.K,CI x1.N,CS x1.S],VB (iW a b x2)])
 dsimp only
 rw[DY a b _ Ki,Gv a b _ Ki];exact aX _
def afT:=bV (α:=ct×(List bZ)) (qC (qA .bJ) (q1 (qL .cv))) [.ro,.ro] (fun _=>[]) (fun(e,l)=>⟨[dA .bc (uY l e),dO (uZ l e)],[],[]⟩)
def ahp:HH:=hF afT func264 [YD,ahl,ahk] a0 fun x hp hb=>by
 obtain⟨e,l⟩:=x
 clear hp hb
 apply vE (let x4:=(cA {K:=e.L.K,S:=e.L.S,V:={K:=e.L.V.K,N:=e.L.V.N,S:=e.L.V.S:aS}:cI} l).1.N;let x5:=(cA {K:=e.R.K,S:=e.R.S,V:={K:=e.R.V.K,N:=e.R.V.N,S:=e.R.V.S:aS}:cI} l).1.N;let x2:=x4-x5;let x3:=x4+x5;let x0:=ng (cA {K:=e.L.K,S:=e.L.S,V:={K:=e.L.V.K,N:=e.L.V.N,S:=e.L.V.S:aS}:cI} l).1 (cA {K:=e.R.K,S:=e.R.S,V:={K:=e.R.V.K,N:=e.R.V.N,S:=e.R.V.S:aS}:cI} l).1 x2;let x1:=ng (cA {K:=e.L.K,S:=e.L.S,V:={K:=e.L.V.K,N:=e.L.V.N,S:=e.L.V.S:aS}:cI} l).1 (cA {K:=e.R.K,S:=e.R.S,V:={K:=e.R.V.K,N:=e.R.V.N,S:=e.R.V.S:aS}:cI} l).1 x3;let q0:=Lf [DV.agg [CI 0,CI 0,CS ({data:= #[]:BA})],VB false] [DV.agg [CI ((uY l e).K),CI ((uY l e).N),CS ((uY l e).S)],VB (uZ l e)];let q1:=cA {K:=e.L.K,S:=e.L.S,V:={K:=e.L.V.K,N:=e.L.V.N,S:=e.L.V.S:aS}:cI} l;let q2:=cA {K:=e.R.K,S:=e.R.S,V:={K:=e.R.V.K,N:=e.R.V.N,S:=e.R.V.S:aS}:cI} l;let q3:=uY l e;bif !q1.2 then q0 else bif ByteArray.toList e.Op==ByteArray.toList {data:= #[]:BA} then Lf [DV.agg [CI (q1.1.K),CI x4,CS (q1.1.S)],VB true] [DV.agg [CI (q3.K),CI (q3.N),CS (q3.S)],VB (uZ l e)] else bif !q2.2 then q0 else bif ByteArray.toList e.Op==ByteArray.toList {data:= #[(43:UInt8)]:BA} then Lf [DV.agg [CI x1.K,CI x1.N,CS x1.S],VB (iW q1.1 q2.1 x3)] [DV.agg [CI (q3.K),CI (q3.N),CS (q3.S)],VB (uZ l e)] else bif ByteArray.toList e.Op==ByteArray.toList {data:= #[(45:UInt8)]:BA} then Lf [DV.agg [CI x0.K,CI x0.N,CS x0.S],VB (iW q1.1 q2.1 x2)] [DV.agg [CI (q3.K),CI (q3.N),CS (q3.S)],VB (uZ l e)] else q0)
 dsimp only
 have eL:(⟨e.L.K,e.L.S,⟨e.L.V.K,e.L.V.N,e.L.V.S⟩⟩:cI)=e.L:=rfl
 have eR:(⟨e.R.K,e.R.S,⟨e.R.V.K,e.R.V.N,e.R.V.S⟩⟩:cI)=e.R:=rfl
 simp only[eL,eR,aQ]
 refine bC (fun h=> ?_) (fun h=>aV (fun h1=> ?_) (fun h1=>bC (fun h2=> ?_) (fun h2=>aV (fun h3=> ?_) (fun h3=>aV (fun h4=> ?_) (fun h4=> ?_)))))
 all_goals have hn:(cA e.L l).2=false->q_ e l=(dE,false):=fun h=>if_pos h
 ·have e1:=hn h
  exact Y_ (a:=dE) (congrArg Prod.fst e1).symm (congrArg Prod.snd e1).symm
 all_goals have h0:¬(cA e.L l).2=false:=by rw[h];decide
 ·have e1:q_ e l=((cA e.L l).1,true):=(if_neg h0).trans (if_pos h1)
  exact Y_ (congrArg Prod.fst e1).symm (congrArg Prod.snd e1).symm
 ·have e1:q_ e l=(dE,false):=(if_neg h0).trans ((if_neg h1).trans (if_pos h2))
  exact Y_ (a:=dE) (congrArg Prod.fst e1).symm (congrArg Prod.snd e1).symm
 all_goals have h5:¬(cA e.R l).2=false:=by rw[h2];decide
 ·have e1:q_ e l=_:=(if_neg h0).trans ((if_neg h1).trans ((if_neg h5).trans (if_pos h3)))
  exact Y_ (congrArg Prod.fst e1).symm (congrArg Prod.snd e1).symm
 ·have e1:q_ e l=_:=(if_neg h0).trans ((if_neg h1).trans ((if_neg h5).trans ((if_neg h3).trans (if_pos h4))))
  exact Y_ (congrArg Prod.fst e1).symm (congrArg Prod.snd e1).symm
 ·have e1:q_ e l=(dE,false):=(if_neg h0).trans ((if_neg h1).trans ((if_neg h5).trans ((if_neg h3).trans (if_neg h4))))
  exact Y_ (a:=dE) (congrArg Prod.fst e1).symm (congrArg Prod.snd e1).symm
def XF:=bV (α:=(List ct)×(List bZ)) (qC (qL .bJ) (q1 (qL .cv))) [.ro,.ro] (fun(es,l)=>[es.length<=4294967295]) (fun(es,l)=>⟨[dL .bc (mV es l),dO (mW es l)],[],[]⟩)
def C4(es:List ct)(l:List bZ):List aS×Int×Unit->Prop:=fun(o,i,_)=>0<=i/\i<=es.length/\o=(es.take i.toNat).map (uY l)/\(es.drop i.toNat).all (uZ l)=es.all (uZ l)
def Ch(es:List ct)(l:List bZ):List aS×Int×Unit->Nat:=fun(o,i,_)=>es.length-i.toNat
def ai':AX XF:=fun(es,l)=>b_ [(3,aY [iO 6 .bc,iI 7] (fun _=>C4 es l) (Ch es l))]
def ahx:HH:=hF XF func251 [ahp] ai' fun x hp hb=>by
 obtain⟨es,l⟩:=x
 have aei:L9 es.length:=lu (hb _ m0)
 have j8:L9 l.length:=lu (hb _ m1)
 have bp:es.length<=4294967295:=hp _ m0
 clear hp hb
 apply vE (C4 es l ([],0,())/\∀(y:List aS×Int×PUnit),let x2:=y.2.1.toNat;let x1:=es.getD x2 eY;let x0:=[uY l x1];let q0:=(y.1++x0,wrap i64 (y.2.1+1),());C4 es l y->bif decide (y.2.1<(es.length:Int)) then 0<=y.2.1/\x2<es.length/\bif !uZ l x1 then Lf [VL .bc [],VB false] [VL .bc (mV es l),VB (mW es l)] else L4 (y.1.length+x0.length)/\C4 es l q0/\Ch es l q0<Ch es l y else Lf [VL .bc y.1,VB true] [VL .bc (mV es l),VB (mW es l)])
 dsimp only
 refine⟨⟨by omega,by omega,by simp,rfl⟩,?_⟩
 rintro⟨o,i,⟨⟩⟩ ⟨h1,h2,rfl,hR⟩
 dsimp only
 refine aV ?_ ?_<;>intro hc
 ·rw[dQ _ _ eY h1 hc] at hR
  refine⟨by omega,by omega,bC (fun g=> ?_) (fun g=> ?_)⟩
  ·have hf:mW es l=false:=by rw[mW,<-hR,show uZ l (es.getD i.toNat eY)=false from g];rfl
   exact aka (by rw[mV,if_neg (by rw[hf];decide)];rfl) hf.symm
  ·rw[show uZ l (es.getD i.toNat eY)=true from g,wq] at hR
   have hm:(es.take i.toNat).map (uY l)++[uY l (es.getD i.toNat eY)]=(es.take (i+1).toNat).map (uY l):=by rw[<-dk es eY h1 hc,J9];rfl
   rw[wi]
   exact⟨by simp only[xt,oc,fK,fv];omega,⟨by omega,by omega,hm,hR⟩,by simp only[Ch];omega⟩
 ·have e:es.drop i.toNat=[]:=List.drop_eq_nil_of_le (by omega)
  rw[e] at hR
  have hf:mW es l=true:=hR.symm
  rw[cE es (by omega)]
  exact aka (by rw[mV,if_pos hf]) hf.symm
def vv(a b:aS):Bool:=if a.K=b.K then(if a.N=b.N then Op.bytesLess a.S.toList b.S.toList else decide (a.N<b.N)) else decide (a.K<b.K)
def zZ(l:List bZ)(c:dy):Bool:=(cA c.L l).2&&(cA c.R l).2&&(if c.Op=1 then decide ((cA c.L l).1=(cA c.R l).1) else if c.Op=2 then !decide ((cA c.L l).1=(cA c.R l).1) else if c.Op=3 then vv (cA c.L l).1 (cA c.R l).1 else false)
def sX(cs:List dy)(l:List bZ):Bool:=cs.all (zZ l)
def kG(out:List bZ)(a:cI)(v:aS):Option (List bZ):=
 if a.K=2 then(if a.V=v then some out else none) else if a.K=1 then(if(iV out a.S).2=true then(if(iV out a.S).1=v then some out else none) else some (out++[⟨a.S,v⟩])) else some out
def ji:List cI->List aS->List bZ->Option (List bZ)
 |[],_,out=>some out
 |a::al,v::vs,out=>match kG out a v with|some o=>ji al vs o|none=>none
 |_::_,[],_=>none
def fD(p:cr)(f:aK)(l:List bZ):Option (List bZ):=if f.Kind=p.Kind/\f.ah.length=p.az.length then ji p.az f.ah l else none
def St(p:cr)(l:List bZ)(x:bN):Bool:=(fD p x.F l).isSome
def Av(s:List bN)(l:List bZ)(p:cr):Bool:=p.Not&&s.any (St p l)
def qd(r:bf)(s:List bN)(l:List bZ):Bool:=r.aH.any (Av s l)
theorem F8{out:List bZ}{a:cI}{v:aS}{o:List bZ}(h:kG out a v=some o):o.length<=out.length+1:=by
 simp only[kG] at h
 repeat' (split at h)
 all_goals first|(cases h;simp)|cases h
theorem wD:∀{al:List cI}{vs:List aS}{out o:List bZ},ji al vs out=some o->o.length<=out.length+al.length
 |[],_,out,o,h=>by simp only[ji,gA] at h;subst h;simp
 |a::al,v::vs,out,o,h=>by
  simp only[ji] at h
  split at h
  ·rename_i o' he
   have:=F8 he
   have:=wD h
   simp only[fK];omega
  ·cases h
 |_::_,[],_,_,h=>by simp[ji] at h
theorem Ev{p:cr}{f:aK}{l o:List bZ}(h:fD p f l=some o):o.length<=l.length+p.az.length:=by
 simp only[fD] at h
 split at h
 ·exact wD h
 ·cases h
theorem Ew{al:List cI}{vs:List aS}(o:List bZ){i:Int}(h0:0<=i)(h:i<al.length)(hl:vs.length=al.length):ji (al.drop i.toNat) (vs.drop i.toNat) o=match kG o (al.getD i.toNat mJ) (vs.getD i.toNat dE) with|some o'=>ji (al.drop (i+1).toNat) (vs.drop (i+1).toNat) o'|none=>none:=by
 rw[eX al mJ h0 h,eX vs dE h0 (by omega)];rfl
theorem VK{a b:aS}{P Q:Prop}(h1:¬a=b->P)(h2:a=b->Q):bif !(a.K==b.K&&(a.N==b.N&&(ByteArray.toList a.S==ByteArray.toList b.S&&true))) then P else Q:=by
 rw[gG];exact bC (fun h=>h1 (yF h)) (fun h=>h2 (yT h))
theorem N6{a b:BA}{P Q:Prop}(h1:¬a=b->P)(h2:a=b->Q):bif !(ByteArray.toList a==ByteArray.toList b) then P else Q:=by
 rw[aQ];exact bC (fun h=>h1 (yF h)) (fun h=>h2 (yT h))
def afL:=bV (α:=aS×aS) (qC (qA .bc) (q1 (qA .bc))) [.ro,.ro] (fun _=>[]) (fun(a,b)=>⟨[dO (vv a b)],[],[]⟩)
def ahj:HH:=hF afL func279 [] a0 fun x hp hb=>by
 obtain⟨a,b⟩:=x
 clear hp hb
 apply vE (bif a.K !=b.K then Lb (decide (a.K<b.K)) (vv a b) else bif a.N !=b.N then Lb (decide (a.N<b.N)) (vv a b) else Lb (Op.bytesLess (ByteArray.toList a.S) (ByteArray.toList b.S)) (vv a b))
 refine jk (fun h=>cj (if_neg h).symm) (fun h=>jk (fun g=>cj ?_) (fun g=>cj ?_))
 ·exact((if_pos h).trans (if_neg g)).symm
 ·exact((if_pos h).trans (if_pos g)).symm
def afP:=bV (α:=dy×(List bZ)) (qC (qA .ca) (q1 (qL .cv))) [.ro,.ro] (fun _=>[]) (fun(c,l)=>⟨[dO (zZ l c)],[],[]⟩)
def ahm:HH:=hF afP func272 [YD,ahj] a0 fun x hp hb=>by
 obtain⟨c,l⟩:=x
 clear hp hb
 apply vE (let x0:=(cA {K:=c.L.K,S:=c.L.S,V:={K:=c.L.V.K,N:=c.L.V.N,S:=c.L.V.S:aS}:cI} l).1.K==(cA {K:=c.R.K,S:=c.R.S,V:={K:=c.R.V.K,N:=c.R.V.N,S:=c.R.V.S:aS}:cI} l).1.K&&((cA {K:=c.L.K,S:=c.L.S,V:={K:=c.L.V.K,N:=c.L.V.N,S:=c.L.V.S:aS}:cI} l).1.N==(cA {K:=c.R.K,S:=c.R.S,V:={K:=c.R.V.K,N:=c.R.V.N,S:=c.R.V.S:aS}:cI} l).1.N&&(ByteArray.toList (cA {K:=c.L.K,S:=c.L.S,V:={K:=c.L.V.K,N:=c.L.V.N,S:=c.L.V.S:aS}:cI} l).1.S==ByteArray.toList (cA {K:=c.R.K,S:=c.R.S,V:={K:=c.R.V.K,N:=c.R.V.N,S:=c.R.V.S:aS}:cI} l).1.S&&true));let q0:=cA {K:=c.L.K,S:=c.L.S,V:={K:=c.L.V.K,N:=c.L.V.N,S:=c.L.V.S:aS}:cI} l;let q1:=cA {K:=c.R.K,S:=c.R.S,V:={K:=c.R.V.K,N:=c.R.V.N,S:=c.R.V.S:aS}:cI} l;let q2:=zZ l c;bif !q0.2 then Lb false q2 else bif !q1.2 then Lb false q2 else bif c.Op==1 then Lb x0 q2 else bif c.Op==2 then Lb (!x0) q2 else bif c.Op==3 then Lb (vv q0.1 q1.1) q2 else Lb false q2)
 dsimp only
 have eL:(⟨c.L.K,c.L.S,⟨c.L.V.K,c.L.V.N,c.L.V.S⟩⟩:cI)=c.L:=rfl
 have eR:(⟨c.R.K,c.R.S,⟨c.R.V.K,c.R.V.N,c.R.V.S⟩⟩:cI)=c.R:=rfl
 simp only[eL,eR,gG]
 refine bC (fun h=>cj ?_) (fun h=>bC (fun h1=>cj ?_) (fun h1=>bo (fun h2=>cj ?_) (fun h2=>bo (fun h3=>cj ?_) (fun h3=>bo (fun h4=>cj ?_) (fun h4=>cj ?_)))))
 all_goals (simp only[zZ];grind)
def XB:=bV (α:=(List dy)×(List bZ)) (qC (qL .ca) (q1 (qL .cv))) [.ro,.ro] (fun _=>[]) (fun(cs,l)=>⟨[dO (sX cs l)],[],[]⟩)
def C0(cs:List dy)(l:List bZ):Int×Unit->Prop:=fun(i,_)=>0<=i/\i<=cs.length/\(cs.drop i.toNat).all (zZ l)=sX cs l
def Ce(cs:List dy)(l:List bZ):Int×Unit->Nat:=fun(i,_)=>cs.length-i.toNat
def ai5:AX XB:=fun(cs,l)=>b_ [(2,aY [iI 5] (fun _=>C0 cs l) (Ce cs l))]
def ahq:HH:=hF XB func262 [ahm] ai5 fun x hp hb=>by
 obtain⟨cs,l⟩:=x
 have ap4:L9 cs.length:=lu (hb _ m0)
 have j8:L9 l.length:=lu (hb _ m1)
 clear hp hb
 apply vE (C0 cs l (0,())/\∀(y:Int×PUnit),let q0:=(wrap i64 (y.1+1),());C0 cs l y->bif decide (y.1<(cs.length:Int)) then 0<=y.1/\y.1.toNat<cs.length/\bif !zZ l (cs.getD y.1.toNat qB) then Lb false (sX cs l) else C0 cs l q0/\Ce cs l q0<Ce cs l y else Lb true (sX cs l))
 dsimp only
 refine⟨⟨by omega,by omega,rfl⟩,?_⟩
 rintro⟨i,⟨⟩⟩ ⟨h1,h2,hR⟩
 simp only
 refine aV ?_ ?_<;>intro hc
 ·rw[dQ _ _ qB h1 hc] at hR
  rw[wi]
  refine⟨by omega,by omega,bC (fun g=>bG (by rw[<-hR,g];rfl)) (fun g=>⟨⟨by omega,by omega,by rw[<-hR,g,wq]⟩,by simp only[Ce];omega⟩)⟩
 ·rw[cy _ (by omega)] at hR
  exact nE hR.symm
def XA:=bV (α:=cr×aK×(List bZ)) (qC (qA .du) (qC (qA .dc) (q1 (qL .cv)))) [.ro,.ro,.ro] (fun(p,f,l)=>[l.length+p.az.length<=4294967295]) (fun(p,f,l)=>⟨[dL .cv ((fD p f l).getD l),dO ((fD p f l).isSome)],[],[]⟩)
def tJ(p:cr)(f:aK)(l:List bZ):List bZ×Int×OY×T5×Unit->Prop:=fun(o,i,b,g,_)=>b=(p.Kind,p.az,p.Not,())/\g=(f.Kind,f.ah,())/\0<=i/\i<=p.az.length/\o.length<=l.length+i/\ji (p.az.drop i.toNat) (f.ah.drop i.toNat) o=fD p f l
def oa(p:cr)(f:aK)(l:List bZ):List bZ×Int×OY×T5×Unit->Nat:=fun(o,i,b,g,_)=>p.az.length-i.toNat
def ai4:AX XA:=fun(p,f,l)=>b_ [(5,aY [iO 8 .cv,iI 9,.box 3 (3,1024) [.lit .str,.shr .gB,.lit .bool],.box 4 (4,1024) [.lit .str,.shr .bc]] (fun _=>tJ p f l) (oa p f l))]
def YF:HH:=hF XA func263 [YE] ai4 fun x hp hb=>by
 obtain⟨p,f,l⟩:=x
 have eV:=IG (x:=p) (hb _ m0)
 have GX:=eV.1
 have GY:=eV.2
 have gZ:=sj (x:=f) (hb _ m1)
 have rX:=gZ.1
 have ou:=gZ.2
 have j8:L9 l.length:=lu (hb _ m2)
 have bp:l.length+p.az.length<=4294967295:=hp _ m0
 clear hp hb
 apply vE (let q0:=Lf [VL .cv ([]++l),VB false] [VL .cv (Option.getD (fD p f l) l),VB (Option.isSome (fD p f l))];let q1:=(0:Nat)+l.length<=4294967296/\q0;0+l.length<=4294967296/\bif !ByteArray.toList p.Kind==ByteArray.toList f.Kind then q0 else bif (p.az.length:Int) !=(f.ah.length:Int) then q0 else tJ p f l ([]++l,0,(p.Kind,p.az,p.Not,()),(f.Kind,f.ah,()),())/\∀(y:List bZ×Int×T18×Uy×PUnit),let x3:=y.2.1.toNat;let x5:=y.2.2.1.2.1.length;let x0:=y.2.2.2.1.2.1.getD x3 dE;let x2:=y.2.2.1.2.1.getD x3 mJ;let x4:=(↑x5:Int);let x1:=x2.V;let q2:=bif x2.K==1 then bif !(iV {τ:=Cd.cv,xs:=y.1:fu UU}.xs x2.S).2 then 0<=y.2.1/\x3<y.2.2.2.1.2.1.length/\y.1.length+List.length [{Name:=x2.S,V:=x0:bZ}]<=4294967296/\tJ p f l (y.1++[{Name:=x2.S,V:=x0:bZ}],wrap i64 (y.2.1+1),(y.2.2.1.1,y.2.2.1.2.1,y.2.2.1.2.2.1,()),(y.2.2.2.1.1,y.2.2.2.1.2.1,()),())/\oa p f l (y.1++[{Name:=x2.S,V:=x0:bZ}],wrap i64 (y.2.1+1),(y.2.2.1.1,y.2.2.1.2.1,y.2.2.1.2.2.1,()),(y.2.2.2.1.1,y.2.2.2.1.2.1,()),())<oa p f l y else tJ p f l (y.1,wrap i64 (y.2.1+1),(y.2.2.1.1,y.2.2.1.2.1,y.2.2.1.2.2.1,()),(y.2.2.2.1.1,y.2.2.2.1.2.1,()),())/\oa p f l (y.1,wrap i64 (y.2.1+1),(y.2.2.1.1,y.2.2.1.2.1,y.2.2.1.2.2.1,()),(y.2.2.2.1.1,y.2.2.2.1.2.1,()),())<oa p f l y else tJ p f l (y.1,wrap i64 (y.2.1+1),(y.2.2.1.1,y.2.2.1.2.1,y.2.2.1.2.2.1,()),(y.2.2.2.1.1,y.2.2.2.1.2.1,()),())/\oa p f l (y.1,wrap i64 (y.2.1+1),(y.2.2.1.1,y.2.2.1.2.1,y.2.2.1.2.2.1,()),(y.2.2.2.1.1,y.2.2.2.1.2.1,()),())<oa p f l y;let q3:=bif x2.K==1 then bif (iV {τ:=Cd.cv,xs:=y.1:fu UU}.xs x2.S).2 then 0<=y.2.1/\x3<y.2.2.2.1.2.1.length/\bif !((iV {τ:=Cd.cv,xs:=y.1:fu UU}.xs x2.S).1.K==x0.K&&((iV {τ:=Cd.cv,xs:=y.1:fu UU}.xs x2.S).1.N==x0.N&&(ByteArray.toList (iV {τ:=Cd.cv,xs:=y.1:fu UU}.xs x2.S).1.S==ByteArray.toList x0.S&&true))) then q1 else q2 else q2 else q2;tJ p f l y->bif decide (y.2.1<x4) then 0<=y.2.1/\x3<x5/\bif x2.K==2 then 0<=y.2.1/\x3<y.2.2.2.1.2.1.length/\bif !(x1.K==x0.K&&(x1.N==x0.N&&(ByteArray.toList x1.S==ByteArray.toList x0.S&&true))) then q1 else q3 else q3 else Lf [VL .cv y.1,VB true] [VL .cv (Option.getD (fD p f l) l),VB (Option.isSome (fD p f l))])
 dsimp only
 have hF:fD p f l=none->Lf [.one (.sl .cv l),.one (.lit (.bool false))] [.one (.sl .cv ((fD p f l).getD l)),.one (.lit (.bool (fD p f l).isSome))]:=fun e=>by rw[e];exact aX _
 refine⟨by show 0+l.length<=_;omega,N6 (fun hk=>hF (if_neg (fun e=>hk e.1.symm))) (fun hk=>jk (fun hl=>hF (if_neg (by omega))) (fun hl=> ?_))⟩
 have hl:f.ah.length=p.az.length:=by omega
 have hM:fD p f l=ji p.az f.ah l:=if_pos ⟨hk.symm,hl⟩
 refine⟨⟨rfl,rfl,by omega,by omega,by show((l.length:Nat):Int)<=_;omega,hM.symm⟩,?_⟩
 rintro⟨o,i,⟨b1,b2,b3,⟨⟩⟩,⟨g1,g2,⟨⟩⟩,⟨⟩⟩
 rintro⟨hb,hg,h1,h2,h3,hR⟩
 cases hb
 cases hg
 refine aV ?_ ?_<;>intro hc
 ·have hc:i<p.az.length:=hc
  rw[Ew o h1 hc hl] at hR
  have hN:kG o (p.az.getD i.toNat mJ) (f.ah.getD i.toNat dE)=none->fD p f l=none:=fun e=>by rw[<-hR,e]
  have hS:∀o',kG o (p.az.getD i.toNat mJ) (f.ah.getD i.toNat dE)=some o'->ji (p.az.drop (i+1).toNat) (f.ah.drop (i+1).toNat) o'=fD p f l:=fun o' e=>by rw[<-hR,e]
  clear hR
  have hs:∀o',o'.length<=o.length+1->kG o (p.az.getD i.toNat mJ) (f.ah.getD i.toNat dE)=some o'->tJ p f l (o',IntKind.wrap .i64 (i+1),(p.Kind,p.az,p.Not,()),(f.Kind,f.ah,()),())/\oa p f l (o',IntKind.wrap .i64 (i+1),(p.Kind,p.az,p.Not,()),(f.Kind,f.ah,()),())<oa p f l (o,i,(p.Kind,p.az,p.Not,()),(f.Kind,f.ah,()),()):=fun o' h4 e=>by
   rw[wi]
   exact⟨⟨rfl,rfl,by omega,by omega,by omega,hS o' e⟩,by simp only[oa];omega⟩
  clear hS
  have q1:(0:Int)<=i/\i.toNat<p.az.length:=by omega
  have q2:(0:Int)<=i/\i.toNat<f.ah.length:=by omega
  have q3:l.length<=4294967296:=by omega
  have q4:o.length+1<=4294967296:=by omega
  have q5:(0:Nat)+l.length<=4294967296:=by omega
  refine⟨q1.1,q1.2,?_⟩
  repeat' (first|refine And.intro q2.1 (And.intro q2.2 ?_)|refine And.intro q5 ?_|refine And.intro q4 ?_|refine bo (fun _=> ?_) (fun _=> ?_)|refine VK (fun _=> ?_) (fun _=> ?_)|refine bC (fun _=> ?_) (fun _=> ?_)|refine ae (fun _=> ?_) (fun _=> ?_))
  all_goals first|exact hF (hN (by(try simp only at*);simp only[kG];grind))|exact hs _ (by simp) (by(try simp only at*);simp only[kG];grind)
 ·rw[cy p.az (by have hc:¬i<p.az.length:=hc;omega)] at hR
  have hR:fD p f l=some o:=hR.symm
  rw[hR];exact aX _
def XC:=bV (α:=bf×aF×(List bZ)) (qC (qA .bE) (qC (qA .cT) (q1 (qL .cv)))) [.ro,.ro,.ro] (fun(r,s,l)=>[∀p,p∈r.aH->l.length+p.az.length<=4294967295]) (fun(r,s,l)=>⟨[dO (qd r s.ab l)],[],[]⟩)
def zc(r:bf)(s:aF)(l:List bZ):Int×T1×T3×Unit->Prop:=fun(i,b,g,_)=>b=(r.Name,r.je,r.aH,r.aU,r.bI,())/\g=(s.ab,s.Next,())/\0<=i/\i<=r.aH.length/\(r.aH.drop i.toNat).any (Av s.ab l)=qd r s.ab l
def vX(r:bf)(s:aF)(l:List bZ):Int×T1×T3×Unit->Nat:=fun(i,b,g,_)=>r.aH.length-i.toNat
def C1(r:bf)(s:aF)(l:List bZ):Int×Int×T1×T3×Unit->Int×Int×T1×T3×Unit->Prop:=fun(i0,k0,b0,g0,_) (i,k,b,g,_)=>i=i0/\b=b0/\g=g0/\0<=k/\k<=s.ab.length/\((r.aH.getD i.toNat cC).Not=false->k=0)/\(s.ab.drop k.toNat).any (St (r.aH.getD i.toNat cC) l)=s.ab.any (St (r.aH.getD i.toNat cC) l)
def Cf(r:bf)(s:aF)(l:List bZ):Int×Int×T1×T3×Unit->Nat:=fun(i,k,b,g,_)=>s.ab.length-k.toNat
def ai6:AX XC:=fun(r,s,l)=>b_ [(2,aY [iI 7,.box 3 (3,1024) [.lit .str,.lit (.int .i64),.shr .du,.shr .ca,.shr .dx],.box 4 (4,1024) [.shr .aJ,.lit (.int .i64)]] (fun _=>zc r s l) (vX r s l)),(5,aY [iI 7,iI 8,.box 3 (3,1024) [.lit .str,.lit (.int .i64),.shr .du,.shr .ca,.shr .dx],.box 4 (4,1024) [.shr .aJ,.lit (.int .i64)]] (C1 r s l) (Cf r s l))]
def ahr:HH:=hF XC func261 [YF] ai6 fun x hp hb=>by
 obtain⟨r,s,l⟩:=x
 have eV:=lV (x:=r) (hb _ m0)
 have kL:=eV.1
 have kK:=eV.2.1
 have jL:=eV.2.2.1
 have kM:=eV.2.2.2
 have jK:=kP (x:=s) (hb _ m1)
 have j8:L9 l.length:=lu (hb _ m2)
 have bp:∀p,p∈r.aH->l.length+p.az.length<=4294967295:=hp _ m0
 clear hp hb
 apply vE (let q0:=BA×Int×List cr×List dy×List ew×PUnit;zc r s l (0,(r.Name,r.je,r.aH,r.aU,r.bI,()),(s.ab,s.Next,()),())/\∀(y:Int×q0×NB×PUnit),let x0:=(y.2.1.2.2.1.length:Int);let q1:=(y.1,0,(y.2.1.1,y.2.1.2.1,y.2.1.2.2.1,y.2.1.2.2.2.1,y.2.1.2.2.2.2.1,()),(y.2.2.1.1,y.2.2.1.2.1,()),());zc r s l y->bif decide (y.1<x0) then C1 r s l q1 q1/\∀(aO:Int×Int×q0×NB×PUnit),let x1:=aO.2.2.1.2.2.1.getD aO.1.toNat cC;let x3:=aO.2.2.2.1.1.length;let x4:=aO.2.1.toNat;let x2:=(↑x3:Int);let q2:=(wrap i64 (aO.1+1),(aO.2.2.1.1,aO.2.2.1.2.1,aO.2.2.1.2.2.1,aO.2.2.1.2.2.2.1,aO.2.2.1.2.2.2.2.1,()),(aO.2.2.2.1.1,aO.2.2.2.1.2.1,()),());let q3:=(aO.1,wrap i64 (aO.2.1+1),(aO.2.2.1.1,aO.2.2.1.2.1,aO.2.2.1.2.2.1,aO.2.2.1.2.2.2.1,aO.2.2.1.2.2.2.2.1,()),(aO.2.2.2.1.1,aO.2.2.2.1.2.1,()),());let q4:=zc r s l q2/\vX r s l q2<vX r s l y;C1 r s l q1 aO->bif decide (aO.2.1<x2) then 0<=aO.1/\aO.1.toNat<aO.2.2.1.2.2.1.length/\bif x1.Not then 0<=aO.1/\aO.1.toNat<aO.2.2.1.2.2.1.length/\0<=aO.2.1/\x4<x3/\l.length+x1.az.length<=4294967295/\bif Option.isSome (fD x1 (aO.2.2.2.1.1.getD x4 a_).F l) then Lb true (qd r s.ab l) else C1 r s l q1 q3/\Cf r s l q3<Cf r s l aO else q4 else q4 else Lb false (qd r s.ab l))
 dsimp only
 refine⟨⟨rfl,rfl,by omega,by omega,rfl⟩,?_⟩
 rintro⟨i,⟨b1,b2,b3,b4,b5,⟨⟩⟩,⟨g1,g2,⟨⟩⟩,⟨⟩⟩ ⟨hb,hg,h1,h2,hR⟩
 cases hb
 cases hg
 simp only
 refine aV ?_ ?_<;>intro hc
 ·rw[yV _ _ cC h1 hc] at hR
  have hm:r.aH.getD i.toNat cC∈r.aH:=by rw[ez,fw (by omega)];exact FH _
  have hp:=bp _ hm
  refine⟨⟨rfl,rfl,rfl,by omega,by omega,fun _=>rfl,rfl⟩,?_⟩
  rintro⟨i',k,⟨b1,b2,b3,b4,b5,⟨⟩⟩,⟨g1,g2,⟨⟩⟩,⟨⟩⟩ ⟨rfl,hb,hg,k1,k2,k3,kR⟩
  cases hb
  cases hg
  simp only
  have next:Av s.ab l (r.aH.getD i'.toNat cC)=false->zc r s l (wrap i64 (i'+1),(r.Name,r.je,r.aH,r.aU,r.bI,()),(s.ab,s.Next,()),())/\vX r s l (wrap i64 (i'+1),(r.Name,r.je,r.aH,r.aU,r.bI,()),(s.ab,s.Next,()),())<vX r s l (i',(r.Name,r.je,r.aH,r.aU,r.bI,()),(s.ab,s.Next,()),()):=fun e=>by
   rw[wi]
   exact⟨⟨rfl,rfl,by omega,by omega,by rw[<-hR,e,Gk]⟩,by simp only[vX];omega⟩
  refine aV (fun hk=>⟨by omega,by omega,ae (fun g=>⟨by omega,by omega,by omega,by omega,hp,ae (fun g'=>nE ?_) (fun g'=> ?_)⟩) (fun g=>next (by rw[Av,g];rfl))⟩) (fun hk=>next ?_)
  ·rw[yV _ _ a_ k1 hk,show St (r.aH.getD i'.toNat cC) l (s.ab.getD k.toNat a_)=true from g'] at kR
   rw[<-hR,Av,g,<-kR];rfl
  ·rw[yV _ _ a_ k1 hk,show St (r.aH.getD i'.toNat cC) l (s.ab.getD k.toNat a_)=false from g',Gk] at kR
   rw[wi (n:=k+1)]
   exact⟨⟨rfl,rfl,rfl,by omega,by omega,fun e=>absurd g (by rw[e];decide),kR⟩,by simp only[Cf];omega⟩
  ·rw[cy _ (by omega)] at kR
   rw[Av,<-kR];exact vl _
 ·rw[cy _ (by omega)] at hR
  exact bG hR.symm
def mH(r:bf):List cr:=r.aH.filter fun p=> !p.Not
def pH(r:bf)(s:List bN):List cr->List Int->List bZ->List aw
 |[],ids,l=>if(!qd r s l&&sX r.aU l)=true then[⟨0,ids,l⟩] else[]
 |p::ps,ids,l=>s.flatMap fun x=>match fD p x.F l with|some more=>pH r s ps (ids++[x.Id]) more|none=>[]
def kr(r:bf)(s:List bN)(ids:List Int)(l:List bZ):List aw:=pH r s ((mH r).drop ids.length) ids l
def pI(r:bf)(s:List bN)(ids:List Int)(l:List bZ)(x:bN):List aw:=match fD ((mH r).getD ids.length cC) x.F l with|some more=>kr r s (ids++[x.Id]) more|none=>[]
theorem MF{r:bf}(s:List bN){ids:List Int}(l:List bZ)(h:ids.length=cN r.aH):kr r s ids l=if(!qd r s l&&sX r.aU l)=true then[⟨0,ids,l⟩] else[]:=by
 have e:(mH r).drop ids.length=[]:=List.drop_eq_nil_of_le (by rw[h];exact tX _)
 simp only[kr,e,pH]
theorem AZ{r:bf}(s:List bN){ids:List Int}(l:List bZ)(h:ids.length<cN r.aH):kr r s ids l=s.flatMap (pI r s ids l):=by
 have h:ids.length<(mH r).length:=h
 have e:(mH r).drop ids.length=(mH r).getD ids.length cC::(mH r).drop (ids.length+1):=by
  rw[Ui h,ez,fw h];rfl
 simp only[kr,e,pH]
 congr 1
 funext x
 simp only[pI,kr,ko,fK,fv,vk]
theorem Lj{α β:Type}(q:α->List β)(l:List α)(z:α){i:Int}(h0:0<=i)(h:i<l.length):(l.take (i+1).toNat).flatMap q=(l.take i.toNat).flatMap q++q (l.getD i.toNat z):=by
 rw[<-dk l z h0 h,Uh];simp
theorem SP{α β:Type}(q:α->List β)(l:List α)(n:Nat):((l.take n).flatMap q).length<=(l.flatMap q).length:=by
 conv=>rhs;rw[<-Ul n l,Uh,ko]
 exact Nat.le_add_right _ _
theorem Ah{α β:Type}(q:α->List β)(c:Nat):∀(l:List α),(∀x,x∈l->(q x).length<=c)->(l.flatMap q).length<=l.length*c
 |[],_=>by simp
 |x::l,h=>by
  have h1:=h x (by simp)
  have h2:=Ah q c l (fun y hy=>h y (by simp[hy]))
  rw[zB,ko,fK,Nat.succ_mul];omega
theorem zL(r:bf)(s:List bN):∀(ps:List cr)(ids:List Int)(l:List bZ),(pH r s ps ids l).length<=s.length^ps.length
 |[],ids,l=>by simp only[pH];split<;>simp
 |p::ps,ids,l=>by
  simp only[pH,fK,Nat.pow_succ]
  rw[UB]
  refine Ah _ _ _ (fun x _=> ?_)
  split
  ·exact zL r s ps _ _
  ·simp
structure uI(r:bf)(s:List bN)(n:Nat)(ids:List Int)(l:List bZ):Prop where
 le:ids.length<=cN r.aH
 three:cN r.aH<=3
 fo:r.aH.length<=6
 args:∀p,p∈r.aH->p.az.length<=5
 items:s.length<=40
 binds:l.length<=5*ids.length
 room:n+(kr r s ids l).length<=4294967295
theorem KK{r:bf}{k:Nat}(h:k<cN r.aH):(mH r).getD k cC∈r.aH:=by
 have h:k<(mH r).length:=h
 rw[ez,fw h]
 exact(zA.1 (FH h)).1
theorem Kv{r:bf}{s:List bN}{n:Nat}{ids:List Int}{l more:List bZ}{i:Int}(h:uI r s n ids l)(hk:ids.length<cN r.aH)(h0:0<=i)(hi:i<s.length)(hm:fD ((mH r).getD ids.length cC) (s.getD i.toNat a_).F l=some more):uI r s (n+((s.take i.toNat).flatMap (pI r s ids l)).length) (ids++[(s.getD i.toNat a_).Id]) more where
 le:=by rw[ko];simp only[fK,fv];omega
 three:=h.three
 fo:=h.fo
 args:=h.args
 items:=h.items
 binds:=by
  have h1:=Ev hm
  have h2:=h.args _ (KK hk)
  have h3:=h.binds
  rw[ko];simp only[fK,fv];omega
 room:=by
  have h1:=h.room
  rw[AZ s l hk] at h1
  have h2:=SP (pI r s ids l) s (i+1).toNat
  rw[Lj _ s a_ h0 hi,ko] at h2
  have e:pI r s ids l (s.getD i.toNat a_)=kr r s (ids++[(s.getD i.toNat a_).Id]) more:=by simp only[pI,hm]
  rw[e] at h2;omega
theorem N1{a b:List aw}(h:a=b):dJ [DV.box [.sl .aE a]]=dJ [DV.box [.sl .aE b]]:=by subst h;rfl
theorem MD{r:bf}{s:List bN}{ids:List Int}{l more:List bZ}{x:bN}(hm:fD ((mH r).getD ids.length cC) x.F l=some more):pI r s ids l x=kr r s (ids++[x.Id]) more:=by simp only[pI,hm]
theorem ME{r:bf}{s:List bN}{ids:List Int}{l:List bZ}{x:bN}(hm:fD ((mH r).getD ids.length cC) x.F l=none):pI r s ids l x=[]:=by simp only[pI,hm]
def jS(r:bf)(s:List bN):List aw:=kr r s [] []
def NR(i:Int)(m:aw):aw:=⟨i,m.ee,m.bz⟩
def LW(rs:List bf)(s:List bN)(n:Nat):List aw:=(List.range n).flatMap fun i=>(jS (rs.getD i cq) s).map (NR i)
def allM(rs:List bf)(s:List bN):List aw:=LW rs s rs.length
theorem Qu(rs:List bf)(s:List bN){i:Int}(h0:0<=i):LW rs s (i+1).toNat=LW rs s i.toNat++(jS (rs.getD i.toNat cq) s).map (NR i):=by
 have e:(i+1).toNat=i.toNat+1:=by omega
 have e2:((i.toNat:Nat):Int)=i:=by omega
 rw[e]
 simp only[LW,List.range_succ,Uh,zB,zen,xu,e2]
structure mM(r:bf):Prop where
 three:cN r.aH<=3
 fo:r.aH.length<=6
 args:∀p,p∈r.aH->p.az.length<=5
def nM(r:bf):Prop:=∀k,k<cN r.aH->r.aH.getD k cC=(mH r).getD k cC
theorem M2{r:bf}{s:List bN}(h:mM r)(hs:s.length<=40):uI r s 0 [] [] where
 le:=Nat.zero_le _
 three:=h.three
 fo:=h.fo
 args:=h.args
 items:=hs
 binds:=Nat.zero_le _
 room:=by
  have h1:=zL r s (mH r) [] []
  have h2:(mH r).length<=3:=h.three
  have h3:s.length^(mH r).length<=40^3:=xr (Nat.pow_le_pow_left hs _) (Nat.pow_le_pow_right (by omega) h2)
  show 0+(pH r s (mH r) [] []).length<=_
  have:(40:Nat)^3=64000:=rfl
  omega
theorem A8{r:bf}{s:List bN}(h:mM r)(hs:s.length<=40):(jS r s).length<=64000:=by
 have h1:=zL r s (mH r) [] []
 have h2:(mH r).length<=3:=h.three
 have h3:s.length^(mH r).length<=40^3:=xr (Nat.pow_le_pow_left hs _) (Nat.pow_le_pow_right (by omega) h2)
 show(pH r s (mH r) [] []).length<=_
 have:(40:Nat)^3=64000:=rfl
 omega
theorem gJ{α:Type}{l:List α}{z:α}{i:Nat}(h:i<l.length):l.getD i z∈l:=by
 rw[ez,fw h];exact FH _
theorem Tz{rs:List bf}{s:List bN}(h:∀r,r∈rs->mM r)(hs:s.length<=40){n:Nat}(hn:n<=rs.length):(LW rs s n).length<=n*64000:=by
 have:=Ah (fun i:Nat=>(jS (rs.getD i cq) s).map (NR i)) 64000 (List.range n) (fun x hx=>by
  rw[xt];exact A8 (h _ (gJ (by have:=pD.1 hx;omega))) hs)
 rwa[List.length_range] at this
theorem mod_self{α:Type}{l:List α}{k:Nat}(f:α->α){z:α}(h:k<l.length):(l.modify k f).getD k z=f (l.getD k z):=by
 rw[ez,ez,Uz,fw h];simp
theorem aat{α:Type}{l:List α}{k j:Nat}(f:α->α){z:α}(h:k≠j):(l.modify k f).getD j z=l.getD j z:=by
 rw[ez,ez,Uz];simp[h]
theorem Aq{dd:Nat->Bool}{k:Int}(h0:0<=k)(h:∀j:Nat,k<=(j:Int)->dd j=false):∀j:Nat,k+1<=(j:Int)->(Nat.beq j k.toNat||dd j)=false:=fun j hj=>by
 rw[h j (by omega),QK,<-wu,J5];omega
def L3:jY UU where
 α:=(List aw)×bf×aF×(List Int)×(List bZ)
 md:=[.box true,.ro,.ro,.ro,.ro]
 of:=fun|[.box [.sl .aE a0],.agg [.lit (.string a1),.lit (.int .i64 a2),.sl .du a3,.sl .ca a4,.sl .dx a5],.agg [.sl .aJ a6,.lit (.int .i64 a7)],.one (.sl .int a8),.one (.sl .cv a9)]=>some (a0,⟨a1,a2,a3,a4,a5⟩,⟨a6,a7⟩,a8,a9)|_=>none
 ds:=fun(out,r,s,ids,l)=>[.box [.sl .aE out],.agg [.lit (.string r.Name),.lit (.int .i64 r.je),.sl .du r.aH,.sl .ca r.aU,.sl .dx r.bI],.agg [.sl .aJ s.ab,.lit (.int .i64 s.Next)],.one (.sl .int ids),.one (.sl .cv l)]
 pre:=fun(out,r,s,ids,l)=>[uI r s.ab out.length ids l,nM r]
 nY:=fun(out,r,s,ids,l)=>⟨[],[],[.box [.sl .aE (out++kr r s.ab ids l)]]⟩
 law:=by intro l x h;(try simp only at h);split at h<;>cases h;rfl
def tK(out:List aw)(r:bf)(s:aF)(ids:List Int)(l:List bZ):Int×T1×T3×(List aw×Unit)×Unit->Prop:=fun(i,b,g,o,_)=>b=(r.Name,r.je,r.aH,r.aU,r.bI,())/\g=(s.ab,s.Next,())/\0<=i/\i<=s.ab.length/\o=(out++(s.ab.take i.toNat).flatMap (pI r s.ab ids l),())
def y6(out:List aw)(r:bf)(s:aF)(ids:List Int)(l:List bZ):Int×T1×T3×(List aw×Unit)×Unit->Nat:=fun(i,b,g,o,_)=>s.ab.length-i.toNat
def ai_:AX L3:=fun(out,r,s,ids,l)=>b_ [(5,aY [iI 10,.box 6 (6,1024) [.lit .str,.lit (.int .i64),.shr .du,.shr .ca,.shr .dx],.box 7 (7,1024) [.shr .aJ,.lit (.int .i64)],.box 0 (2000000,0) [.own .aE true]] (fun _=>tK out r s ids l) (y6 out r s ids l))]
def Hx:(List aw)×bf×aF×(List Int)×(List bZ)->Nat:=fun(out,r,s,ids,l)=>cN r.aH-ids.length
def aeY(rn:Nat):List (FuncId×jY UU):=(249,L3.below Hx rn)::us [Mb,ahr,ahq,YF]
theorem ae2:Holds EE (249,L3):=by
 refine GV (k:=L3) func249 (by kernel_rfl) Hx (fun rn ih=> ?_)
 refine holds_of rm func249 (L3.below Hx (rn+1)) (by kernel_rfl) (aeY rn) (all_cons ih (xD _)) ai_ (fun x hp hb=> ?_)
 obtain⟨out,r,s,ids,l⟩:=x
 have Si:Hx (out,r,s,ids,l)<rn+1:=hp _ iy
 have abm:gW (U:=UU) (.box [.sl .aE out]):=hb _ (iy)
 have anc:L9 out.length:=Bd.len (U:=UU) (τ:=.aE) (xs:=out) (abm _ (by simp))
 have Ip:gW (U:=UU) (.agg [.lit (.string r.Name),.lit (.int .i64 r.je),.sl .du r.aH,.sl .ca r.aU,.sl .dx r.bI]):=hb _ (fA _ (iy))
 have kL:L9 r.Name.size:=Bd.str (Ip _ (by simp))
 have kK:L9 r.aH.length:=Bd.len (U:=UU) (τ:=.du) (xs:=r.aH) (Ip _ (by simp))
 have jL:L9 r.aU.length:=Bd.len (U:=UU) (τ:=.ca) (xs:=r.aU) (Ip _ (by simp))
 have kM:L9 r.bI.length:=Bd.len (U:=UU) (τ:=.dx) (xs:=r.bI) (Ip _ (by simp))
 have anv:gW (U:=UU) (.agg [.sl .aJ s.ab,.lit (.int .i64 s.Next)]):=hb _ (fA _ (fA _ (iy)))
 have jK:L9 s.ab.length:=Bd.len (U:=UU) (τ:=.aJ) (xs:=s.ab) (anv _ (by simp))
 have abn:gW (U:=UU) (.one (.sl .int ids)):=hb _ (fA _ (fA _ (fA _ (iy))))
 have ang:L9 ids.length:=Bd.len abn
 have aqc:gW (U:=UU) (.one (.sl .cv l)):=hb _ (fA _ (fA _ (fA _ (fA _ (iy)))))
 have bp:uI r s.ab out.length ids l:=hp _ (fA _ (iy))
 have eN:nM r:=hp _ (fA _ (fA _ (iy)))
 clear hp hb
 apply vE (let x1:List Int:=[]++ids;let x0:=[{cG:=(0:Int),ee:=x1,bz:=[]++l:aw}];let q0:=LM [] [] [DV.box [CL .aE out]] [DV.box [CL .aE (out++kr r s.ab ids l)]];let q1:=(ids.length:Int);bif q1==(↑(cN r.aH):Int) then(∀(p:cr),p∈r.aH->l.length+p.az.length<=4294967295)/\bif !qd r s.ab l then bif sX r.aU l then 0+ids.length<=4294967296/\0+l.length<=4294967296/\L4 (out.length+x0.length)/\LM [] [] [DV.box [CL .aE (out++x0)]] [DV.box [CL .aE (out++kr r s.ab ids l)]] else q0 else q0 else tK out r s ids l (0,(r.Name,r.je,r.aH,r.aU,r.bI,()),(s.ab,s.Next,()),(out,()),())/\∀(y:Int×Y'×NB×(List aw×PUnit)×PUnit),let x2:={Name:=y.2.1.1,je:=y.2.1.2.1,aH:=y.2.1.2.2.1,aU:=y.2.1.2.2.2.1,bI:=y.2.1.2.2.2.2.1:bf};let x6:=y.2.2.1.1.getD y.1.toNat a_;let x8:=y.2.2.1.1.length;let x9:=y.2.1.2.2.1.getD (Int.toNat q1) cC;let x3:=Option.getD (fD x9 x6.F l) l;let x5:=[x6.Id];let x7:=(↑x8:Int);let x4:=x1++x5;let q2:=(y.2.1.1,y.2.1.2.1,y.2.1.2.2.1,y.2.1.2.2.2.1,y.2.1.2.2.2.2.1,());let q3:=(wrap i64 (y.1+1),q2,(y.2.2.1.1,y.2.2.1.2.1,()),(y.2.2.2.1.1++kr x2 y.2.2.1.1 x4 x3,()),());let q4:=(wrap i64 (y.1+1),q2,(y.2.2.1.1,y.2.2.1.2.1,()),(y.2.2.2.1.1,()),());tK out r s ids l y->bif decide (y.1<x7) then 0<=q1/\Int.toNat q1<y.2.1.2.2.1.length/\0<=y.1/\y.1.toNat<x8/\l.length+x9.az.length<=4294967295/\bif Option.isSome (fD x9 x6.F l) then 0+ids.length<=4294967296/\0<=y.1/\y.1.toNat<x8/\L4 (x1.length+x5.length)/\Hx (y.2.2.2.1.1,x2,{ab:=y.2.2.1.1,Next:=y.2.2.1.2.1:aF},x4,x3)<rn/\uI x2 y.2.2.1.1 (y.2.2.2.1.1.length) x4 x3/\nM x2/\tK out r s ids l q3/\y6 out r s ids l q3<y6 out r s ids l y else tK out r s ids l q4/\y6 out r s ids l q4<y6 out r s ids l y else LM [] [] [DV.box [CL .aE y.2.2.2.1.1]] [DV.box [CL .aE (out++kr r s.ab ids l)]])
 dsimp only
 simp only[Hx] at Si
 have hle:=bp.le
 have h3:=bp.three
 have hpt:=bp.fo
 have hbd:=bp.binds
 have hA:∀p,p∈r.aH->l.length+p.az.length<=4294967295:=fun p hm=>by have:=bp.args p hm;omega
 have hrm:=bp.room
 have Bb:(mH r).length=cN r.aH:=rfl
 have hpn:cN r.aH<=r.aH.length:=Mq _ _
 refine bo (fun h=>⟨hA,?_⟩) (fun h=> ?_)
 ·have h:ids.length=cN r.aH:=by omega
  have e:=MF s.ab l h
  have q1:(0:Nat)+ids.length<=4294967296:=by omega
  have q2:(0:Nat)+l.length<=4294967296:=by omega
  refine bC (fun g=>ae (fun g'=>⟨q1,q2,?_,rfl,by trivial,N1 ?_⟩) (fun g'=>⟨rfl,by trivial,N1 ?_⟩)) (fun g=>⟨rfl,by trivial,N1 ?_⟩)
  ·rw[e,g,g'] at hrm;simp at hrm;simp only[fK,fv];omega
  ·rw[e,g,g'];rfl
  ·rw[e,g,g'];simp
  ·rw[e,g];simp
 ·have h:ids.length<cN r.aH:=by omega
  have e:=AZ s.ab l h
  refine⟨⟨rfl,rfl,by omega,by omega,by simp⟩,?_⟩
  rintro⟨i,⟨b1,b2,b3,b4,b5,⟨⟩⟩,⟨g1,g2,⟨⟩⟩,⟨o,⟨⟩⟩,⟨⟩⟩ ⟨hb,hg,h1,h2,ho⟩
  cases hb
  cases hg
  cases ho
  refine aV (fun hc=> ?_) (fun hc=>⟨by trivial,by trivial,N1 ?_⟩)
  ·have hc:i<s.ab.length:=hc
   have hs:=Lj (pI r s.ab ids l) s.ab a_ h1 hc
   have hi:ids.length<(mH r).length:=h
   have hm:=hA _ (KK h)
   have et:Int.toNat (ids.length:Int)=ids.length:=by omega
   have eP:r.aH.getD (Int.toNat (ids.length:Int)) cC=(mH r).getD ids.length cC:=by rw[et];exact eN _ h
   have q0:(0:Int)<=(ids.length:Int)/\Int.toNat (ids.length:Int)<r.aH.length:=by omega
   have q1:(0:Int)<=i/\i.toNat<s.ab.length:=by omega
   have q2:(0:Nat)+ids.length<=4294967296:=by omega
   have q3:ids.length+1<=4294967296:=by omega
   refine⟨q0.1,q0.2,q1.1,q1.2,by rw[eP];exact hm,?_⟩
   simp only[eP]
   refine ae ?_ ?_<;>intro g
   ·obtain⟨more,hM⟩:=nf.1 g
    have qR:=Kv bp h h1 hc hM
    rw[MD hM] at hs
    have hw:IntKind.wrap .i64 (i+1)=i+1:=wi
    have am4:uI r s.ab (out++(s.ab.take i.toNat).flatMap (pI r s.ab ids l)).length (ids++[(s.ab.getD i.toNat a_).Id]) ((fD ((mH r).getD ids.length cC) (s.ab.getD i.toNat a_).F l).getD l):=by rw[hM,FR,ko];exact qR
    have hmu:cN r.aH-(ids++[(s.ab.getD i.toNat a_).Id]).length<rn:=by rw[ko];simp only[fK,fv];omega
    have hI:tK out r s ids l (IntKind.wrap .i64 (i+1),(r.Name,r.je,r.aH,r.aU,r.bI,()),(s.ab,s.Next,()),((out++(s.ab.take i.toNat).flatMap (pI r s.ab ids l))++kr r s.ab (ids++[(s.ab.getD i.toNat a_).Id]) ((fD ((mH r).getD ids.length cC) (s.ab.getD i.toNat a_).F l).getD l),()),()):=by
     rw[hw,hM,FR]
     exact⟨rfl,rfl,by omega,by omega,by rw[hs,xz]⟩
    have hd:s.ab.length-(IntKind.wrap .i64 (i+1)).toNat<s.ab.length-i.toNat:=by rw[hw];omega
    exact⟨q2,q1.1,q1.2,q3,hmu,am4,eN,hI,hd⟩
   ·have hM:fD ((mH r).getD ids.length cC) (s.ab.getD i.toNat a_).F l=none:=Option.isNone_iff_eq_none.1 (by rw[<-Option.not_isSome,show Option.isSome (fD ((mH r).getD ids.length cC) (s.ab.getD i.toNat a_).F l)=false from g];rfl)
    rw[ME hM,xu] at hs
    have hw:IntKind.wrap .i64 (i+1)=i+1:=wi
    have hI:tK out r s ids l (IntKind.wrap .i64 (i+1),(r.Name,r.je,r.aH,r.aU,r.bI,()),(s.ab,s.Next,()),(out++(s.ab.take i.toNat).flatMap (pI r s.ab ids l),()),()):=by
     rw[hw];exact⟨rfl,rfl,by omega,by omega,by rw[hs]⟩
    have hd:s.ab.length-(IntKind.wrap .i64 (i+1)).toNat<s.ab.length-i.toNat:=by rw[hw];omega
    exact⟨hI,hd⟩
  ·have hc:¬i<(s.ab.length:Int):=hc
   rw[cE s.ab (by omega),e]
def ahz:HH:=⟨_,ae2⟩
def af3:=bV (α:=bf×aF) (qC (qA .bE) (q1 (qA .cT))) [.ro,.ro] (fun(r,s)=>[mM r,s.ab.length<=40,nM r]) (fun(r,s)=>⟨[dL .aE (jS r s.ab)],[],[]⟩)
def ahH:HH:=hF af3 func237 [ahz] a0 fun x hp hb=>by
 obtain⟨r,s⟩:=x
 have bp:mM r:=hp _ m0
 have eN:s.ab.length<=40:=hp _ m1
 have GS:nM r:=hp _ m2
 clear hp hb
 apply vE (uI r s.ab (0) [] []/\nM r/\Lf [VL .aE ([]++kr r s.ab [] [])] [VL .aE (jS r s.ab)])
 exact⟨M2 bp eN,GS,aX _⟩
def XW:=bV (α:=br×aF) (qC (qA .hH) (q1 (qA .cT))) [.ro,.ro] (fun(d,s)=>[∀r,r∈d.aA->mM r,s.ab.length<=40/\d.aA.length<=12,∀r,r∈d.aA->nM r]) (fun(d,s)=>⟨[dL .aE (allM d.aA s.ab)],[],[]⟩)
def De(d:br)(s:aF):List aw×Int×T2×T3×Unit->Prop:=fun(o,i,b,g,_)=>b=(d.Name,d.aA,())/\g=(s.ab,s.Next,())/\0<=i/\i<=d.aA.length/\o=LW d.aA s.ab i.toNat
def Cs(d:br)(s:aF):List aw×Int×T2×T3×Unit->Nat:=fun(o,i,b,g,_)=>d.aA.length-i.toNat
def Dd(d:br)(s:aF):List aw×Int×Int×(List aw×(Nat->Bool))×T2×T3×Unit->List aw×Int×Int×(List aw×(Nat->Bool))×T2×T3×Unit->Prop:=fun(o0,i0,k0,p0,b0,g0,_) (o,i,k,p,b,g,_)=>i=i0/\b=b0/\g=g0/\p.1.length=p0.1.length/\0<=k/\k<=p0.1.length/\(∀j:Nat,k<=(j:Int)->p.2 j=false/\p.1.getD j aZ=p0.1.getD j aZ)/\o=o0++(p0.1.take k.toNat).map (NR i)
def Cr(d:br)(s:aF):List aw×Int×Int×(List aw×(Nat->Bool))×T2×T3×Unit->Nat:=fun(o,i,k,p,b,g,_)=>p.1.length-k.toNat
def ajq:AX XW:=fun(d,s)=>b_ [(3,aY [iO 5 .aE,iI 6,.box 2 (2,1024) [.lit .str,.shr .bE],.box 3 (3,1024) [.shr .aJ,.lit (.int .i64)]] (fun _=>De d s) (Cs d s)),(7,aY [iO 5 .aE,iI 6,iI 8,.slot 7 (7,1024) (.part .aE),.box 2 (2,1024) [.lit .str,.shr .bE],.box 3 (3,1024) [.shr .aJ,.lit (.int .i64)]] (Dd d s) (Cr d s))]
def ah3:HH:=hF XW func204 [ahH] ajq fun x hp hb=>by
 obtain⟨d,s⟩:=x
 have bp:∀r,r∈d.aA->mM r:=hp _ m0
 have eN:s.ab.length<=40/\d.aA.length<=12:=hp _ m1
 have GS:∀r,r∈d.aA->nM r:=hp _ m2
 clear hp hb
 apply vE (De d s ([],0,(d.Name,d.aA,()),(s.ab,s.Next,()),())/\∀(y:List aw×Int×T9×NB×PUnit),let x2:=y.2.2.1.2.1.length;let x3:=y.2.1.toNat;let x0:=y.2.2.1.2.1.getD x3 cq;let x1:=(↑x2:Int);let q0:=(y.2.2.2.1.1,y.2.2.2.1.2.1,());let q1:=(y.2.2.1.1,y.2.2.1.2.1,());De d s y->bif decide (y.2.1<x1) then 0<=y.2.1/\x3<x2/\mM x0/\y.2.2.2.1.1.length<=40/\nM x0/\Dd d s (y.1,y.2.1,0,(jS x0 y.2.2.2.1.1,fun(x:Nat)=>false),q1,q0,()) (y.1,y.2.1,0,(jS x0 y.2.2.2.1.1,fun(x:Nat)=>false),q1,q0,())/\∀(aO:List aw×Int×Int×(List aw×(Nat->Bool))×T9×NB×PUnit),let x5:=aO.2.2.1.toNat;let x7:=aO.2.2.2.fst.1.length;let x4:=aO.2.2.2.fst.1.modify x5 fun(x:aw)=>{cG:=aO.2.1,ee:=x.ee,bz:=x.bz:aw};let x6:=(↑x7:Int);let q2:=(aO.1,wrap i64 (aO.2.1+1),(aO.2.2.2.2.1.1,aO.2.2.2.2.1.2.1,()),(aO.2.2.2.2.2.1.1,aO.2.2.2.2.2.1.2.1,()),());let q3:=(aO.2.2.2.2.2.1.1,aO.2.2.2.2.2.1.2.1,());let q4:=(aO.2.2.2.2.1.1,aO.2.2.2.2.1.2.1,());Dd d s (y.1,y.2.1,0,(jS x0 y.2.2.2.1.1,fun(x:Nat)=>false),q1,q0,()) aO->bif decide (aO.2.2.1<x6) then 0<=aO.2.2.1/\x5<x7/\x5<x7/\aO.2.2.2.fst.2 x5=false/\0<=aO.2.2.1/\x5<x4.length/\x5<x4.length/\aO.2.2.2.fst.2 x5=false/\aO.1.length+List.length [x4.getD x5 aZ]<=4294967296/\Dd d s (y.1,y.2.1,0,(jS x0 y.2.2.2.1.1,fun(x:Nat)=>false),q1,q0,()) (aO.1++[x4.getD x5 aZ],aO.2.1,wrap i64 (aO.2.2.1+1),(x4,fun(j:Nat)=>Nat.beq j x5||aO.2.2.2.fst.2 j),q4,q3,())/\Cr d s (aO.1++[x4.getD x5 aZ],aO.2.1,wrap i64 (aO.2.2.1+1),(x4,fun(j:Nat)=>Nat.beq j x5||aO.2.2.2.fst.2 j),q4,q3,())<Cr d s aO else De d s q2/\Cs d s q2<Cs d s y else Lf [VL .aE y.1] [VL .aE (allM d.aA s.ab)])
 dsimp only
 obtain⟨hS,hD⟩:=eN
 refine⟨⟨rfl,rfl,by omega,by omega,rfl⟩,?_⟩
 rintro⟨o,i,⟨b1,b2,⟨⟩⟩,⟨g1,g2,⟨⟩⟩,⟨⟩⟩ ⟨hb,hg,h1,h2,rfl⟩
 cases hb
 cases hg
 simp only
 refine aV ?_ ?_<;>intro hc
 ·have hm:d.aA.getD i.toNat cq∈d.aA:=gJ (by omega)
  have hs:=bp _ hm
  have hl:=A8 hs hS
  have hn:=Tz bp hS (n:=i.toNat) (by omega)
  have qR:=Qu d.aA s.ab h1
  refine⟨by omega,by omega,hs,hS,GS _ hm,⟨rfl,rfl,rfl,rfl,by omega,by omega,fun _ _=>⟨rfl,rfl⟩,by simp⟩,?_⟩
  rintro⟨o',i',k,⟨xs,dd⟩,⟨b1,b2,⟨⟩⟩,⟨g1,g2,⟨⟩⟩,⟨⟩⟩ ⟨hi,hb,hg,hx,k1,k2,kd,ho⟩
  cases hb
  cases hg
  cases hi
  cases ho
  simp only at k2 kd hx⊢
  refine aV ?_ ?_<;>intro hk
  ·have ht:=dk (jS (d.aA.getD i.toNat cq) s.ab) aZ k1 (by omega)
   have hd:=kd k.toNat (by omega)
   rw[wi (n:=k+1)]
   refine⟨k1,by omega,by omega,hd.1,k1,by rw[Gm];omega,by rw[Gm];omega,hd.1,?_,⟨rfl,rfl,rfl,by rw[Gm];exact hx,by omega,by simp only;omega,fun j hj=>⟨Aq k1 (fun j hj=>(kd j hj).1) j hj,?_⟩,?_⟩,by simp only[Cr,Gm];omega⟩
   ·simp only[ko,xt,oc,fK,fv];omega
   ·rw[aat _ (by omega)];exact(kd j (by omega)).2
   ·rw[mod_self _ (by omega),hd.2]
    simp only[<-ht,J9,xz];rfl
  ·rw[cE _ (by omega),<-qR,wi (n:=i+1)]
   exact⟨⟨rfl,rfl,by omega,by omega,rfl⟩,by simp only[Cs];omega⟩
 ·have e:i.toNat=d.aA.length:=by omega
  rw[e];exact aX _
theorem nv{α:Type}{a b:List α}(z:α){i:Int}(h1:0<=i)(ha:i<a.length)(hb:i<b.length)(hR:a.drop i.toNat=b.drop i.toNat↔a=b)(h:a.getD i.toNat z≠b.getD i.toNat z):a≠b:=by
 rw[eX a z h1 ha,eX b z h1 hb] at hR
 exact fun e=>h (List.cons.inj (hR.2 e)).1
theorem p9{α:Type}{a b:List α}(z:α){i:Int}(h1:0<=i)(ha:i<a.length)(hb:i<b.length)(hR:a.drop i.toNat=b.drop i.toNat↔a=b)(h:a.getD i.toNat z=b.getD i.toNat z):(a.drop (i+1).toNat=b.drop (i+1).toNat↔a=b):=by
 rw[eX a z h1 ha,eX b z h1 hb,h] at hR
 rw[<-hR];simp
theorem my{α:Type}{a b:List α}{i:Int}(ha:a.length<=i)(hb:b.length<=i)(hR:a.drop i.toNat=b.drop i.toNat↔a=b):a=b:=by
 rw[cy a ha,cy b hb] at hR
 exact hR.1 rfl
theorem uU{α:Type}{a b:List α}(h:((a.length:Int) !=(b.length:Int))=false):a.length=b.length:=by
 have h:(a.length:Int)=b.length:=by simpa using h
 omega
theorem rB{α:Type}{a b:List α}(h:¬(a.length:Int)=b.length):a≠b:=fun e=>h (by rw[e])
def GL:List Int->List Int->Bool
 |a::l,b::m=>if a=b then GL l m else decide (a<b)
 |_,_=>false
def uT(a b:aw):Bool:=if a.cG=b.cG then(if a.ee.length=b.ee.length then GL a.ee b.ee else decide (a.ee.length<b.ee.length)) else decide (a.cG<b.cG)
def nq(d:br)(m:aw):Int:=(d.aA.getD m.cG.toNat cq).je
def nU(d:br)(a b:aw):Bool:=j9 d a&&j9 d b&&(decide (nq d b<nq d a)||(decide (nq d a=nq d b)&&uT a b))
def NQ(m x:aw):Bool:=decide (x.cG=m.cG/\x.ee=m.ee)
def ox(l:List aw)(m:aw):Bool:=l.any (NQ m)
def te(d:br)(bY:List aw)(m:aw):Bool:=j9 d m&& !ox bY m
def fV(d:br)(bY:List aw)(o:Option aw)(m:aw):Option aw:=
 if(te d bY m&&(match o with|none=>true|some b=>nU d m b))=true then some m else o
def jw(d:br)(set bY:List aw):Option aw:=set.foldl (fV d bY) none
def A4(o:Option aw):aw:=match o with|some m=>m|none=>aZ
theorem Pq(d:br)(bY l:List aw)(o:Option aw){i:Int}(h0:0<=i)(h:i<l.length):(l.drop i.toNat).foldl (fV d bY) o=(l.drop (i+1).toNat).foldl (fV d bY) (fV d bY o (l.getD i.toNat aZ)):=by
 rw[eX l aZ h0 h];rfl
theorem KL{d:br}{bY:List aw}{o:Option aw}{m:aw}(h:te d bY m=false):fV d bY o m=o:=by unfold fV;rw[h,qm];rfl
theorem MU{d:br}{bY:List aw}{m:aw}(h:te d bY m=true):fV d bY none m=some m:=by unfold fV;rw[h];rfl
theorem Pr{d:br}{bY:List aw}{m b:aw}(h:te d bY m=true)(g:nU d m b=true):fV d bY (some b) m=some m:=by simp only[fV,h,g];rfl
theorem Ps{d:br}{bY:List aw}{m b:aw}(g:nU d m b=false):fV d bY (some b) m=some b:=by simp only[fV,g,vl];rfl
def XM:=bV (α:=(List Int)×(List Int)) (qC (qL .int) (q1 (qL .int))) [.ro,.ro] (fun _=>[]) (fun(a,b)=>⟨[dO (decide (a=b))],[],[]⟩)
def C'(a:List Int)(b:List Int):Int×Unit->Prop:=fun(i,_)=>0<=i/\i<=a.length/\a.length=b.length/\(a.drop i.toNat=b.drop i.toNat↔a=b)
def Cm(a:List Int)(b:List Int):Int×Unit->Nat:=fun(i,_)=>a.length-i.toNat
def ajg:AX XM:=fun(a,b)=>b_ [(4,aY [iI 5] (fun _=>C' a b) (Cm a b))]
def ahP:HH:=hF XM func222 [] ajg fun x hp hb=>by
 obtain⟨a,b⟩:=x
 have PU:L9 a.length:=lu (hb _ m0)
 have PS:L9 b.length:=lu (hb _ m1)
 clear hp hb
 apply vE (bif (a.length:Int) !=(b.length:Int) then Lb false (decide (a=b)) else C' a b (0,())/\∀(y:Int×PUnit),let q0:=(wrap i64 (y.1+1),());C' a b y->bif decide (y.1<(a.length:Int)) then 0<=y.1/\y.1.toNat<a.length/\0<=y.1/\y.1.toNat<b.length/\bif a.getD y.1.toNat 0 !=b.getD y.1.toNat 0 then Lb false (decide (a=b)) else C' a b q0/\Cm a b q0<Cm a b y else Lb true (decide (a=b)))
 dsimp only
 refine ae (fun h=>nd (rB (by simpa using h))) (fun h=>⟨⟨by omega,by omega,(uU (a:=a) (b:=b) (by assumption)),by simp⟩,?_⟩)
 rintro⟨i,⟨⟩⟩ ⟨h1,h2,h3,hR⟩
 simp only
 refine ae ?_ ?_<;>intro hc
 ·have hc:i<a.length:=yT hc
  rw[wi]
  try simp only[gG]
  try simp only[aQ]
  have hz:True:=trivial
  repeat' (first|refine And.intro (by omega) ?_|refine ae (fun h=> ?_) (fun h=> ?_))
  all_goals first|exact nd (nv (0:Int) h1 hc (by omega) hR (by first|grind|(rw[hz];grind)))|exact⟨⟨by omega,by omega,h3,p9 (0:Int) h1 hc (by omega) hR (by first|grind|(rw[hz];grind))⟩,by simp only[Cm];omega⟩
 ·have hc:a.length<=i:=by have:=yF hc;omega
  exact NC (my hc (by omega) hR)
def agq:=bV (α:=aw×aw) (qC (qA .aE) (q1 (qA .aE))) [.ro,.ro] (fun _=>[]) (fun(a,b)=>⟨[dO (decide (a.cG=b.cG/\a.ee=b.ee))],[],[]⟩)
def YO:HH:=hF agq func187 [ahP] a0 fun x hp hb=>by
 obtain⟨a,b⟩:=x
 clear hp hb
 apply vE (let q0:=decide (a.cG=b.cG/\a.ee=b.ee);bif a.cG==b.cG then Lb (decide (a.ee=b.ee)) q0 else Lb false q0)
 dsimp only
 refine ae (fun h=>cj ?_) (fun h=>cj ?_)<;>grind
def XG:=bV (α:=aw×aw) (qC (qA .aE) (q1 (qA .aE))) [.ro,.ro] (fun _=>[]) (fun(a,b)=>⟨[dO (uT a b)],[],[]⟩)
def C5(a:aw)(b:aw):Int×T8×T8×Unit->Prop:=fun(i,p,q,_)=>p=(a.cG,a.ee,a.bz,())/\q=(b.cG,b.ee,b.bz,())/\0<=i/\i<=a.ee.length/\a.ee.length=b.ee.length/\GL (a.ee.drop i.toNat) (b.ee.drop i.toNat)=GL a.ee b.ee
def Ci(a:aw)(b:aw):Int×T8×T8×Unit->Nat:=fun(i,p,q,_)=>a.ee.length-i.toNat
def aja:AX XG:=fun(a,b)=>b_ [(6,aY [iI 5,.box 2 (2,1024) [.lit (.int .i64),.shr .int,.shr .cv],.box 3 (3,1024) [.lit (.int .i64),.shr .int,.shr .cv]] (fun _=>C5 a b) (Ci a b))]
def ahA:HH:=hF XG func248 [] aja fun x hp hb=>by
 obtain⟨a,b⟩:=x
 have eV:=si (x:=a) (hb _ m0)
 have aek:=eV.1
 have aa8:=eV.2
 have gZ:=si (x:=b) (hb _ m1)
 have aej:=gZ.1
 have aa0:=gZ.2
 clear hp hb
 apply vE (let x0:=(a.ee.length:Int);let x1:=(b.ee.length:Int);bif a.cG !=b.cG then Lb (decide (a.cG<b.cG)) (uT a b) else bif x0 !=x1 then Lb (decide (x0<x1)) (uT a b) else C5 a b (0,(a.cG,a.ee,a.bz,()),(b.cG,b.ee,b.bz,()),())/\∀(y:Int×Y8×Y8×PUnit),let x2:=y.2.2.1.2.1.getD y.1.toNat 0;let x3:=y.2.1.2.1.getD y.1.toNat 0;let x5:=y.2.1.2.1.length;let x4:=(↑x5:Int);let q0:=(wrap i64 (y.1+1),(y.2.1.1,y.2.1.2.1,y.2.1.2.2.1,()),(y.2.2.1.1,y.2.2.1.2.1,y.2.2.1.2.2.1,()),());C5 a b y->bif decide (y.1<x4) then 0<=y.1/\y.1.toNat<x5/\0<=y.1/\y.1.toNat<y.2.2.1.2.1.length/\bif x3 !=x2 then 0<=y.1/\y.1.toNat<x5/\0<=y.1/\y.1.toNat<y.2.2.1.2.1.length/\Lb (decide (x3<x2)) (uT a b) else C5 a b q0/\Ci a b q0<Ci a b y else Lb false (uT a b))
 dsimp only
 refine jk (fun h=>cj (if_neg h).symm) (fun h=>jk (fun g=>cj ?_) (fun g=> ?_))
 ·rw[uT,if_pos h,if_neg (by omega),decide_eq_decide];omega
 have g:a.ee.length=b.ee.length:=by omega
 have eM:uT a b=GL a.ee b.ee:=by rw[uT,if_pos h,if_pos g]
 refine⟨⟨rfl,rfl,by omega,by omega,g,rfl⟩,?_⟩
 rintro⟨i,⟨p1,p2,p3,⟨⟩⟩,⟨q1,q2,q3,⟨⟩⟩,⟨⟩⟩ ⟨hp,hq,h1,h2,h3,hR⟩
 cases hp
 cases hq
 simp only
 rw[eM]
 refine aV ?_ ?_<;>intro hc
 ·rw[eX a.ee (0:Int) h1 hc,eX b.ee (0:Int) h1 (by omega)] at hR
  simp only[GL] at hR
  rw[wi]
  refine⟨by omega,by omega,by omega,by omega,jk (fun e=>⟨by omega,by omega,by omega,by omega,cj ?_⟩) (fun e=> ?_)⟩
  ·rw[if_neg e] at hR;exact hR
  ·rw[if_pos e] at hR;exact⟨⟨rfl,rfl,by omega,by omega,h3,hR⟩,by simp only[Ci];omega⟩
 ·rw[cy a.ee (by omega)] at hR
  exact bG hR.symm
def af5:=bV (α:=br×aw×aw) (qC (qA .hH) (qC (qA .aE) (q1 (qA .aE)))) [.ro,.ro,.ro] (fun _=>[]) (fun(d,a,b)=>⟨[dO (nU d a b)],[],[]⟩)
def ahI:HH:=hF af5 func235 [OR,ahA] a0 fun x hp hb=>by
 obtain⟨d,a,b⟩:=x
 clear hp hb
 apply vE (let x0:=(d.aA.getD b.cG.toNat cq).je;let x1:=(d.aA.getD a.cG.toNat cq).je;let q0:=nU d a b;bif !j9 d a then Lb false q0 else bif !j9 d b then Lb false q0 else 0<=a.cG/\a.cG.toNat<d.aA.length/\0<=b.cG/\b.cG.toNat<d.aA.length/\bif decide (x1>x0) then Lb true q0 else bif x1==x0 then Lb (uT a b) q0 else Lb false q0)
 dsimp only
 refine bC (fun h=>bG ?_) (fun h=>bC (fun h'=>bG ?_) (fun h'=> ?_))
 ·have h:j9 d a=false:=h
  rw[nU,h];rfl
 ·have h':j9 d b=false:=h'
  rw[nU,h',vl];rfl
 have h:j9 d a=true:=h
 have h':j9 d b=true:=h'
 obtain⟨a1,a2⟩:=ow h
 obtain⟨b1,b2⟩:=ow h'
 have e:nU d a b=(decide (nq d b<nq d a)||(decide (nq d a=nq d b)&&uT a b)):=by rw[nU,h,h'];rfl
 refine⟨a1,by omega,b1,by omega,aV (fun g=>nE ?_) (fun g=>bo (fun g'=>cj ?_) (fun g'=>bG ?_))⟩
 ·rw[e,decide_eq_true (show nq d b<nq d a from g)];rfl
 ·rw[e,decide_eq_false (show¬nq d b<nq d a from g),decide_eq_true (show nq d a=nq d b from g')];rfl
 ·rw[e,decide_eq_false (show¬nq d b<nq d a from g),decide_eq_false (show¬nq d a=nq d b from g')];rfl
def XL:=bV (α:=(List aw)×aw) (qC (qL .aE) (q1 (qA .aE))) [.ro,.ro] (fun _=>[]) (fun(l,m)=>⟨[dO (ox l m)],[],[]⟩)
def C9(l:List aw)(m:aw):Int×T8×Unit->Prop:=fun(i,b,_)=>b=(m.cG,m.ee,m.bz,())/\0<=i/\i<=l.length/\(l.drop i.toNat).any (NQ m)=ox l m
def Cl(l:List aw)(m:aw):Int×T8×Unit->Nat:=fun(i,b,_)=>l.length-i.toNat
def ajf:AX XL:=fun(l,m)=>b_ [(2,aY [iI 5,.box 3 (3,1024) [.lit (.int .i64),.shr .int,.shr .cv]] (fun _=>C9 l m) (Cl l m))]
def ahJ:HH:=hF XL func234 [YO] ajf fun x hp hb=>by
 obtain⟨l,m⟩:=x
 have j8:L9 l.length:=lu (hb _ m0)
 have gZ:=si (x:=m) (hb _ m1)
 have La:=gZ.1
 have EM:=gZ.2
 clear hp hb
 apply vE (C9 l m (0,(m.cG,m.ee,m.bz,()),())/\∀(y:Int×Y8×PUnit),let q0:=(wrap i64 (y.1+1),(y.2.1.1,y.2.1.2.1,y.2.1.2.2.1,()),());C9 l m y->bif decide (y.1<(l.length:Int)) then 0<=y.1/\y.1.toNat<l.length/\bif decide ((l.getD y.1.toNat aZ).cG=y.2.1.1/\(l.getD y.1.toNat aZ).ee=y.2.1.2.1) then Lb true (ox l m) else C9 l m q0/\Cl l m q0<Cl l m y else Lb false (ox l m))
 dsimp only
 refine⟨⟨rfl,by omega,by omega,rfl⟩,?_⟩
 rintro⟨i,⟨b1,b2,b3,⟨⟩⟩,⟨⟩⟩ ⟨hb,h1,h2,hR⟩
 cases hb
 simp only
 refine aV ?_ ?_<;>intro hc
 ·rw[yV _ _ aZ h1 hc] at hR
  rw[wi]
  refine⟨by omega,by omega,ae (fun g=>nE ?_) (fun g=>⟨⟨rfl,by omega,by omega,?_⟩,by simp only[Cl];omega⟩)⟩
  ·rw[<-hR,show NQ m (l.getD i.toNat aZ)=true from g,Bool.true_or]
  ·rw[<-hR,show NQ m (l.getD i.toNat aZ)=false from g,Gk]
 ·rw[cy _ (by omega)] at hR
  exact bG hR.symm
def af4:=bV (α:=aw) (q1 (qA .aE)) [.ro] (fun m=>[L4 m.ee.length,L4 m.bz.length]) (fun m=>⟨[dA .aE m],[],[]⟩)
def YG:HH:=hF af4 func236 [] a0 fun(m:aw) hp hb=>by
 have eV:=si (x:=m) (hb _ m0)
 have La:=eV.1
 have EM:=eV.2
 have bp:m.ee.length<=4294967296:=hp _ m0
 have eN:m.bz.length<=4294967296:=hp _ m1
 clear hp hb
 apply vE (0+m.ee.length<=4294967296/\0+m.bz.length<=4294967296/\Lf [DV.agg [CI m.cG,CL .int ([]++m.ee),CL .cv ([]++m.bz)]] [DV.agg [CI m.cG,CL .int m.ee,CL .cv m.bz]])
 have q1:(0:Nat)+m.ee.length<=4294967296:=by omega
 have q2:(0:Nat)+m.bz.length<=4294967296:=by omega
 exact⟨q1,q2,aX _⟩
def XX:=bV (α:=br×(List aw)×(List aw)) (qC (qA .hH) (qC (qL .aE) (q1 (qL .aE)))) [.ro,.ro,.ro] (fun(d,set,bY)=>[∀m,m∈set->L4 m.ee.length/\L4 m.bz.length]) (fun(d,set,bY)=>⟨[dA .aE (A4 (jw d set bY)),dO ((jw d set bY).isSome)],[],[]⟩)
def wc(d:br)(set:List aw)(bY:List aw):Int×Int×T2×T8×Unit->Prop:=fun(e,i,b,q,_)=>b=(d.Name,d.aA,())/\0<=i/\i<=set.length/\e<set.length/\-1<=e/\(set.drop i.toNat).foldl (fV d bY) (if e<0 then none else some (set.getD e.toNat aZ))=jw d set bY
def rh(d:br)(set:List aw)(bY:List aw):Int×Int×T2×T8×Unit->Nat:=fun(e,i,b,q,_)=>set.length-i.toNat
def ajr:AX XX:=fun(d,set,bY)=>b_ [(3,aY [iI 8,iI 9,.box 3 (3,1024) [.lit .str,.shr .bE],.box 6 (6,1024) [.lit (.int .i64),.own .int true,.own .cv true]] (fun _=>wc d set bY) (rh d set bY))]
def ah4:HH:=hF XX func203 [OR,ahJ,ahI,YG] ajr fun x hp hb=>by
 obtain⟨d,set,bY⟩:=x
 have eV:=kQ (x:=d) (hb _ m0)
 have jX:=eV.1
 have iS:=eV.2
 have ana:L9 set.length:=lu (hb _ m1)
 have aeg:L9 bY.length:=lu (hb _ m2)
 have bp:∀m,m∈set->m.ee.length<=4294967296/\m.bz.length<=4294967296:=hp _ m0
 clear hp hb
 apply vE (let q0:=A4 (jw d set bY);wc d set bY ((-1),0,(d.Name,d.aA,()),(0,[],[],()),())/\∀(y:Int×Int×T9×Y8×PUnit),let x0:={Name:=y.2.2.1.1,aA:=y.2.2.1.2.1:br};let x2:=y.2.1.toNat;let x3:=set.getD y.1.toNat aZ;let x4:=decide (y.1<0);let x1:=set.getD x2 aZ;let q1:=wc d set bY (y.1,wrap i64 (y.2.1+1),(y.2.2.1.1,y.2.2.1.2.1,()),(y.2.2.2.1.1,y.2.2.2.1.2.1,y.2.2.2.1.2.2.1,()),())/\rh d set bY (y.1,wrap i64 (y.2.1+1),(y.2.2.1.1,y.2.2.1.2.1,()),(y.2.2.2.1.1,y.2.2.2.1.2.1,y.2.2.2.1.2.2.1,()),())<rh d set bY y;let q2:=(y.2.1,wrap i64 (y.2.1+1),(y.2.2.1.1,y.2.2.1.2.1,()),(y.2.2.2.1.1,y.2.2.2.1.2.1,y.2.2.2.1.2.2.1,()),());let q3:=wc d set bY q2/\rh d set bY q2<rh d set bY y;wc d set bY y->bif decide (y.2.1<(set.length:Int)) then 0<=y.2.1/\x2<set.length/\bif j9 x0 x1 then 0<=y.2.1/\x2<set.length/\bif !ox bY x1 then bif x4 then q3 else 0<=y.2.1/\x2<set.length/\0<=y.1/\y.1.toNat<set.length/\bif nU x0 x1 x3 then q3 else q1 else q1 else q1 else bif x4 then Lf [DV.agg [CI 0,CL .int [],CL .cv []],VB false] [DV.agg [CI (q0.cG),CL .int q0.ee,CL .cv q0.bz],VB (Option.isSome (jw d set bY))] else 0<=y.1/\y.1.toNat<set.length/\L4 x3.ee.length/\L4 x3.bz.length/\Lf [DV.agg [CI x3.cG,CL .int x3.ee,CL .cv x3.bz],VB true] [DV.agg [CI (q0.cG),CL .int q0.ee,CL .cv q0.bz],VB (Option.isSome (jw d set bY))])
 dsimp only
 refine⟨⟨rfl,by omega,by omega,by omega,by omega,rfl⟩,?_⟩
 rintro⟨e,i,⟨b1,b2,⟨⟩⟩,⟨q1,q2,q3,⟨⟩⟩,⟨⟩⟩ ⟨hb,h1,h2,h3,h4,hR⟩
 cases hb
 simp only at h1 h2 h3 h4 hR⊢
 refine aV ?_ ?_<;>intro hc
 ·rw[Pq d bY set _ h1 hc] at hR
  have nxt:∀e':Int,e'<set.length->-1<=e'->fV d bY (if e<0 then none else some (set.getD e.toNat aZ)) (set.getD i.toNat aZ)=(if e'<0 then none else some (set.getD e'.toNat aZ))->wc d set bY (e',IntKind.wrap .i64 (i+1),(d.Name,d.aA,()),(q1,q2,q3,()),())/\rh d set bY (e',IntKind.wrap .i64 (i+1),(d.Name,d.aA,()),(q1,q2,q3,()),())<rh d set bY (e,i,(d.Name,d.aA,()),(q1,q2,q3,()),()):=fun e' k1 k2 g=>by
   rw[wi]
   exact⟨⟨rfl,by omega,by omega,k1,k2,by rw[<-g];exact hR⟩,by simp only[rh];omega⟩
  have own:(if i<0 then none else some (set.getD i.toNat aZ))=some (set.getD i.toNat aZ):=if_neg (by omega)
  refine⟨h1,by omega,ae (fun g=>⟨h1,by omega,bC (fun g'=> ?_) (fun g'=>nxt e h3 h4 (KL (by rw[te,show ox bY (set.getD i.toNat aZ)=true from g',zfa,vl])))⟩) (fun g=>nxt e h3 h4 (KL (by rw[te,show j9 d (set.getD i.toNat aZ)=false from g];rfl)))⟩
  have ov:te d bY (set.getD i.toNat aZ)=true:=by rw[te,show j9 d (set.getD i.toNat aZ)=true from g,show ox bY (set.getD i.toNat aZ)=false from g'];rfl
  refine aV (fun k=>nxt i (by omega) (by omega) ?_) (fun k=>⟨h1,by omega,by omega,by omega,ae (fun g3=>nxt i (by omega) (by omega) ?_) (fun g3=>nxt e h3 h4 ?_)⟩)
  ·rw[own,if_pos k,MU ov]
  ·rw[own,if_neg k,Pr ov g3]
  ·rw[if_neg k,Ps g3]
 ·rw[cy _ (by omega)] at hR
  refine aV ?_ ?_<;>intro k
  ·rw[if_pos k] at hR
   have hR:none=jw d set bY:=hR
   rw[<-hR];exact aX _
  ·rw[if_neg k] at hR
   have hR:some (set.getD e.toNat aZ)=jw d set bY:=hR
   have qv:set.getD e.toNat aZ∈set:=gJ (by omega)
   rw[<-hR]
   exact⟨by omega,by omega,(bp _ qv).1,(bp _ qv).2,aX _⟩
theorem Bj:∀(ps:List cr),(∀i,i<ps.length->jh ps i=decide (cN ps<=i))->∀k,k<cN ps->ps.getD k cC=(ps.filter fun p=> !p.Not).getD k cC
 |[],_,k,hk=>by simp[cN] at hk
 |p::ps,h,k,hk=>by
  have h0:=h 0 (by simp)
  have e0:jh (p::ps) 0=p.Not:=rfl
  rw[e0,rR] at h0
  cases hp:p.Not with
  |true=>
   rw[hp] at h0
   have h0:=yT h0.symm
   rw[rR,hp] at hk
   simp only[if_true] at h0 hk;omega
  |false=>
   have ef:(p::ps).filter (fun p=> !p.Not)=p::ps.filter fun p=> !p.Not:=by rw[List.filter_cons,hp];rfl
   rw[ef]
   cases k with
   |zero=>rfl
   |succ k=>
    rw[rR,hp] at hk
    refine Bj ps (fun i hi=> ?_) k (by simp only[xv,if_false] at hk;omega)
    have:=h (i+1) (by simpa using hi)
    rw[rR,hp] at this
    show jh ps i=_
    refine(show jh ps i=jh (p::ps) (i+1) from rfl).trans (this.trans ?_)
    rw[decide_eq_decide];simp only[xv,if_false];omega
theorem wP{r:bf}(h:fO r=true):mM r/\nM r:=by
 simp only[fO,cJ] at h
 have hp:ik r.aH=true:=by rw[pL];exact h.1.1.2
 simp only[ik,cJ,decide_eq_true_eq,fY,mj,fL,beq_iff_eq] at hp
 obtain⟨⟨h1,h2⟩,h3⟩:=hp
 refine⟨⟨h2.2,h1.2,fun p hp=> ?_⟩,fun k hk=>Bj r.aH (fun i hi=>(h3 i hi).2) k hk⟩
 obtain⟨j,hj,rfl⟩:=sG hp
 have:=(h3 j hj).1.1.2
 rwa[ez,fw hj] at this
theorem vG{d:br}(h:fJ d=true):(∀r,r∈d.aA->mM r/\nM r)/\d.aA.length<=12:=by
 simp only[fJ,cJ,decide_eq_true_eq,fY,jr] at h
 refine⟨fun r hr=> ?_,h.1.2.2⟩
 obtain⟨j,hj,rfl⟩:=sG hr
 have:=(h.2 j hj).1
 rw[ez,fw hj] at this
 exact wP this
theorem AY(r:bf)(s:List bN):∀(ps:List cr)(ids:List Int)(l:List bZ),(∀p,p∈ps->p.az.length<=5)->∀m,m∈pH r s ps ids l->m.ee.length=ids.length+ps.length/\m.bz.length<=l.length+5*ps.length
 |[],ids,l,_,m,hm=>by
  simp only[pH] at hm
  split at hm
  ·rw[mI] at hm;subst hm;simp
  ·cases hm
 |p::ps,ids,l,h,m,hm=>by
  simp only[pH,oQ] at hm
  obtain⟨x,hx,hm⟩:=hm
  split at hm
  ·rename_i more he
   have h1:=AY r s ps _ _ (fun q hq=>h q (by simp[hq])) m hm
   have h2:=Ev he
   have h3:=h p (by simp)
   simp only[ko,fK,fv] at h1⊢
   omega
  ·cases hm
theorem F7{r:bf}{s:List bN}(h:mM r){m:aw}(hm:m∈jS r s):m.ee.length<=3/\m.bz.length<=15:=by
 have h2:(mH r).length<=3:=h.three
 have h1:=AY r s (mH r) [] [] (fun p hp=>h.args p (zA.1 hp).1) m hm
 simp only[fv] at h1
 omega
theorem Hw{rs:List bf}{s:List bN}(h:∀r,r∈rs->mM r){m:aw}(hm:m∈allM rs s):m.ee.length<=3/\m.bz.length<=15:=by
 simp only[allM,LW,oQ,mf,pD] at hm
 obtain⟨i,hi,m',vz,rfl⟩:=hm
 exact F7 (m:=m') (h _ (gJ hi)) vz
theorem Vp(d:br)(bY:List aw)(o:Option aw)(x:aw):fV d bY o x=o\/fV d bY o x=some x:=by
 unfold fV
 generalize (te d bY x&&_)=b
 cases b<;>simp
theorem KN{d:br}{bY:List aw}:∀{l:List aw}{o:Option aw}{m:aw},l.foldl (fV d bY) o=some m->m∈l\/o=some m
 |[],o,m,h=> .inr h
 |x::l,o,m,h=>by
  rcases KN (l:=l) h with h|h
  ·exact .inl (by simp[h])
  ·rcases Vp d bY o x with e|e
   ·exact .inr (e.symm.trans h)
   ·rw[e] at h;cases h;exact .inl (by simp)
theorem GH{d:br}{set bY:List aw}{m:aw}(h:jw d set bY=some m):m∈set:=by
 rcases KN h with h|h
 ·exact h
 ·cases h
def agz:=bV (α:=br×aq) (qC (qA .hH) (q1 (qA .cf))) [.ro,.ro] (fun(d,x)=>[fJ d=true,x.S.ab.length<=40]) (fun(d,x)=>⟨[dA .aE (A4 (jw d (allM d.aA x.S.ab) x.ay)),dO ((jw d (allM d.aA x.S.ab) x.ay).isSome)],[],[]⟩)
def aix:HH:=hF agz func157 [ah3,ah4] a0 fun x hp hb=>by
 obtain⟨d,x⟩:=x
 have bp:fJ d=true:=hp _ m0
 have eN:x.S.ab.length<=40:=hp _ m1
 clear hp hb
 apply vE (let x0:=A4 (jw d (allM d.aA x.S.ab) x.ay);let q0:=Option.isSome (jw d (allM d.aA x.S.ab) x.ay);(∀(r:bf),r∈d.aA->mM r)/\(x.S.ab.length<=40/\d.aA.length<=12)/\(∀(r:bf),r∈d.aA->nM r)/\(∀(m:aw),m∈allM d.aA x.S.ab->L4 m.ee.length/\L4 m.bz.length)/\Lf [DV.agg [CI x0.cG,CL .int x0.ee,CL .cv x0.bz],VB q0] [DV.agg [CI x0.cG,CL .int x0.ee,CL .cv x0.bz],VB q0])
 dsimp only
 have h:=vG bp
 exact⟨fun r hr=>(h.1 r hr).1,⟨eN,h.2⟩,fun r hr=>(h.1 r hr).2,fun m hm=>by have:=Hw (fun r hr=>(h.1 r hr).1) hm;omega,aX _⟩
def Tq(f:aK):Bool:=decide (f.Kind=ao)&&decide (f.ah.length=0)
def dZ(e:de):Bool:=
 bif decide (e.Kind=1) then bD e.F&&decide (e.Id=0)&&decide (e.N=0)&&decide (e.aR=ao)
 else bif decide (e.Kind=2) then Tq e.F&&decide (1<=e.Id)&&decide (e.N=0)&&decide (e.aR=ao)
 else bif decide (e.Kind=3) then bD e.F&&decide (e.Id=0)&&decide (e.N=0)&&fj e.aR
 else bif decide (e.Kind=4) then bD e.F&&decide (e.Id=0)&&decide (0<=e.N/\e.N<=100000)&&decide (e.aR=ao)
 else bif decide (e.Kind=5)||decide (e.Kind=6) then Tq e.F&&decide (e.Id=0)&&decide (e.N=0)&&decide (e.aR=ao) else false
def sb(m:aw)(a:ew):de:=if a.Kind=2 then⟨a.Kind,ur,m.ee.getD a.N.toNat 0,0,a.aR⟩ else⟨a.Kind,⟨a.Name,mV a.az m.bz⟩,0,if a.Kind=4 then a.N else 0,a.aR⟩
def H3(m:aw)(a:ew):Bool:=(decide (a.Kind=2)||mW a.az m.bz)&&dZ (sb m a)
def eI(d:br)(m:aw):List ew:=(d.aA.getD m.cG.toNat cq).bI
def Eu(d:br)(m:aw):Bool:=j9 d m&&decide (m.ee.length=cN (d.aA.getD m.cG.toNat cq).aH)
def lQ(d:br)(m:aw):Bool:=fJ d&&Eu d m&&(eI d m).all (H3 m)
def nj(d:br)(m:aw):List de:=if lQ d m then(eI d m).map (sb m) else[]
theorem NS{d:br}{m:aw}(h:fJ d=true)(h2:j9 d m=true):fO (d.aA.getD m.cG.toNat cq)=true:=by
 obtain⟨r1,r2⟩:=ow h2
 simp only[fJ,cJ,fY] at h
 have:=h.2 m.cG.toNat (by omega)
 simp only[jr,cJ] at this
 exact this.1
theorem OL{d:br}{m:aw}(h:fJ d=true)(h2:Eu d m=true):(eI d m).length<=6/\∀i:Int,0<=i->i<(eI d m).length->df ((eI d m).getD i.toNat dh)=true/\(((eI d m).getD i.toNat dh).Kind=2->0<=((eI d m).getD i.toNat dh).N/\((eI d m).getD i.toNat dh).N<m.ee.length):=by
 simp only[Eu,cJ,decide_eq_true_eq] at h2
 have hr:=NS h h2.1
 simp only[fO,lx,cJ,decide_eq_true_eq] at hr
 obtain⟨⟨_,_⟩,⟨⟨_,hl⟩,ha⟩⟩:=hr
 refine⟨hl,fun i h0 hi=> ?_⟩
 rw[sC] at ha
 have hm:(eI d m).getD i.toNat dh∈eI d m:=by rw[ez,fw (by omega)];exact FH _
 have hk:=ha _ hm
 generalize List.getD (eI d m) i.toNat dh=a at*
 simp only[nB,cJ] at hk
 refine⟨hk.1.1,fun e=> ?_⟩
 have hd:=hk.1.2
 have hp:=hk.1.1
 simp only[hJ,e,decide_true,wq,ru,decide_eq_false_iff_not] at hd
 simp only[df,e,show¬((2:Int)=1) by decide,decide_false,cond_false,decide_true,cond_true,cJ,decide_eq_true_eq] at hp
 omega
theorem LfE{a a':de}{b b':Bool}(h1:a=a')(h2:b=b'):Lf [.agg [CI a.Kind,.lit (.string a.F.Kind),.sl .bc a.F.ah,CI a.Id,CI a.N,.lit (.string a.aR)],.one (.lit (.bool b))] [.agg [CI a'.Kind,.lit (.string a'.F.Kind),.sl .bc a'.F.ah,CI a'.Id,CI a'.N,.lit (.string a'.aR)],.one (.lit (.bool b'))]:=by
 subst h1 h2;exact aX _
theorem akc{a a':List de}{b b':Bool}(h1:a=a')(h2:b=b'):Lf [.one (.sl .eo a),.one (.lit (.bool b))] [.one (.sl .eo a'),.one (.lit (.bool b'))]:=by
 subst h1 h2;exact aX _
def afX:=bV (α:=de) (q1 (qA .eo)) [.ro] (fun _=>[]) (fun e=>⟨[dO (dZ e)],[],[]⟩)
def ahy:HH:=hF afX func250 [FG,Bw,tN] a0 fun(e:de) hp hb=>by
 clear hp hb
 apply vE (let x0:=e.Kind==5;let x1:=ByteArray.toList e.aR==ByteArray.toList {data:= #[]:BA};let x2:=e.Id==0;let x3:=(e.F.ah.length:Int)==0;let q0:=Lb false (dZ e);let q1:=bif x2 then bif e.N==0 then Lb x1 (dZ e) else q0 else q0;let q2:=bif bD e.F then bif x2 then bif e.N==0 then bif x1 then Lb true (dZ e) else Lb (bu e.aR) (dZ e) else q0 else q0 else q0;let q3:=bif bD e.F then bif x2 then bif decide (0<=e.N/\e.N<=100000) then Lb x1 (dZ e) else q0 else q0 else q0;bif ByteArray.toList e.F.Kind==ByteArray.toList {data:= #[]:BA} then bif e.Kind==1 then bif bD e.F then q1 else q0 else bif e.Kind==3 then q2 else bif e.Kind==4 then q3 else bif e.Kind==2 then bif x3 then bif decide (e.Id≥1) then bif e.N==0 then Lb x1 (dZ e) else q0 else q0 else q0 else bif x0 then bif x0 then bif x3 then q1 else q0 else q0 else bif e.Kind==6 then bif x3 then q1 else q0 else q0 else bif e.Kind==1 then bif bD e.F then q1 else q0 else bif e.Kind==3 then q2 else bif e.Kind==4 then q3 else bif e.Kind==2 then q0 else bif x0 then bif x0 then q0 else q0 else bif e.Kind==6 then q0 else q0)
 dsimp only
 have e1:∀s:BA,(ByteArray.toList s==ByteArray.toList {data:= #[]})=decide (s=ao):=fun s=>aQ _ _
 have e2:((e.F.ah.length:Int)==0)=decide (e.F.ah.length=0):=by rw[FJ];simp
 simp only[e1,e2,dZ,Tq,fj]
 repeat' (refine ae (fun h=> ?_) (fun h=> ?_))
 all_goals (refine cj ?_;grind)
def af2:=bV (α:=ew×aw) (qC (qA .dx) (q1 (qA .aE))) [.ro,.ro] (fun(a,m)=>[a.Kind=2->0<=a.N/\a.N<m.ee.length,a.az.length<=4294967295]) (fun(a,m)=>⟨[dA .eo (sb m a),dO (H3 m a)],[],[]⟩)
def ahG:HH:=hF af2 func238 [ahy,ahx] a0 fun x hp hb=>by
 obtain⟨a,m⟩:=x
 have bp:a.Kind=2->0<=a.N/\a.N<m.ee.length:=hp _ m0
 have eN:a.az.length<=4294967295:=hp _ m1
 clear hp hb
 apply vE (let q0:=(sb m a).F.Kind;let q1:=mV a.az m.bz;let q2:=(sb m a).Kind;let q3:=(sb m a).aR;let q4:=(sb m a).Id;let q5:=(sb m a).N;bif a.Kind==2 then 0<=a.N/\a.N.toNat<m.ee.length/\Lf [DV.agg [CI a.Kind,CS ({data:= #[]:BA}),CL .bc [],CI (m.ee.getD a.N.toNat 0),CI 0,CS a.aR],VB (dZ {Kind:=a.Kind,F:={Kind:={data:= #[]:BA},ah:=[]:aK},Id:=m.ee.getD a.N.toNat 0,N:=(0:Int),aR:=a.aR:de})] [DV.agg [CI q2,CS q0,CL .bc (sb m a).F.ah,CI q4,CI q5,CS q3],VB (H3 m a)] else bif a.Kind==4 then a.az.length<=4294967295/\bif mW a.az m.bz then Lf [DV.agg [CI a.Kind,CS a.Name,CL .bc q1,CI 0,CI a.N,CS a.aR],VB (dZ {Kind:=a.Kind,F:={Kind:=a.Name,ah:=mV a.az m.bz:aK},Id:=(0:Int),N:=a.N,aR:=a.aR:de})] [DV.agg [CI q2,CS q0,CL .bc (sb m a).F.ah,CI q4,CI q5,CS q3],VB (H3 m a)] else Lf [DV.agg [CI a.Kind,CS a.Name,CL .bc q1,CI 0,CI a.N,CS a.aR],VB false] [DV.agg [CI q2,CS q0,CL .bc (sb m a).F.ah,CI q4,CI q5,CS q3],VB (H3 m a)] else a.az.length<=4294967295/\bif mW a.az m.bz then Lf [DV.agg [CI a.Kind,CS a.Name,CL .bc q1,CI 0,CI 0,CS a.aR],VB (dZ {Kind:=a.Kind,F:={Kind:=a.Name,ah:=mV a.az m.bz:aK},Id:=(0:Int),N:=(0:Int),aR:=a.aR:de})] [DV.agg [CI q2,CS q0,CL .bc (sb m a).F.ah,CI q4,CI q5,CS q3],VB (H3 m a)] else Lf [DV.agg [CI a.Kind,CS a.Name,CL .bc q1,CI 0,CI 0,CS a.aR],VB false] [DV.agg [CI q2,CS q0,CL .bc (sb m a).F.ah,CI q4,CI q5,CS q3],VB (H3 m a)])
 dsimp only
 refine bo (fun h=> ?_) (fun h=>bo (fun h4=>⟨eN,ae (fun g=> ?_) (fun g=> ?_)⟩) (fun h4=>⟨eN,ae (fun g=> ?_) (fun g=> ?_)⟩))
 ·have e:sb m a=⟨a.Kind,ur,m.ee.getD a.N.toNat 0,0,a.aR⟩:=if_pos h
  exact⟨(bp h).1,by have:=bp h;omega,LfE (a:=⟨a.Kind,ur,m.ee.getD a.N.toNat 0,0,a.aR⟩) e.symm (by simp only[H3,decide_eq_true h,Bool.true_or,wq,e];rfl)⟩
 all_goals have e0:sb m a=⟨a.Kind,⟨a.Name,mV a.az m.bz⟩,0,if a.Kind=4 then a.N else 0,a.aR⟩:=if_neg h
 all_goals first|rw[if_pos h4] at e0|rw[if_neg h4] at e0
 ·exact LfE (a:=⟨a.Kind,⟨a.Name,mV a.az m.bz⟩,0,a.N,a.aR⟩) e0.symm (by simp only[H3,decide_eq_false h,show mW a.az m.bz=true from g,Bool.or_true,wq,e0])
 ·exact LfE (a:=⟨a.Kind,⟨a.Name,mV a.az m.bz⟩,0,a.N,a.aR⟩) e0.symm (by simp only[H3,decide_eq_false h,show mW a.az m.bz=false from g,QK,qm])
 ·exact LfE (a:=⟨a.Kind,⟨a.Name,mV a.az m.bz⟩,0,0,a.aR⟩) e0.symm (by simp only[H3,decide_eq_false h,show mW a.az m.bz=true from g,Bool.or_true,wq,e0])
 ·exact LfE (a:=⟨a.Kind,⟨a.Name,mV a.az m.bz⟩,0,0,a.aR⟩) e0.symm (by simp only[H3,decide_eq_false h,show mW a.az m.bz=false from g,QK,qm])
theorem Iy{d:br}{m:aw}(h:lQ d m=false):Lf [.one (.sl .eo []),.one (.lit (.bool false))] [.one (.sl .eo (nj d m)),.one (.lit (.bool (lQ d m)))]:=
 akc (by rw[nj,h];rfl) h.symm
theorem Oo{d:br}{m:aw}(h:Eu d m=false):lQ d m=false:=by rw[lQ,h];simp
theorem Wm{d:br}{m:aw}(h:(eI d m).all (H3 m)=false):lQ d m=false:=by rw[lQ,h];simp
theorem TA{d:br}{m:aw}(h:j9 d m=true){i:Int}(h1:0<=i)(h2:i<(eI d m).length):((eI d m).getD i.toNat dh).az.length<=cB d:=by
 obtain⟨r1,r2⟩:=ow h
 have hs:=dV dM d.aA cq r1 r2
 have ht:=dV gY (eI d m) dh h1 h2
 have e:(d.aA.getD m.cG.toNat cq).bI=eI d m:=rfl
 simp only[dM,e] at hs
 simp only[gY,kB] at ht
 have e2:rP (eI d m)=(eI d m).length+((eI d m).map gY).sum:=rfl
 simp only[cB,jV]
 omega
def XV:=bV (α:=br×aw) (qC (qA .hH) (q1 (qA .aE))) [.ro,.ro] (fun(d,m)=>[cB d<=4294967295]) (fun(d,m)=>⟨[dL .eo (nj d m),dO (lQ d m)],[],[]⟩)
def Dc(d:br)(m:aw):List de×Int×T2×T8×Unit->Prop:=fun(o,i,b,g,_)=>b=(d.Name,d.aA,())/\g=(m.cG,m.ee,m.bz,())/\Eu d m=true/\0<=i/\i<=(eI d m).length/\o=((eI d m).take i.toNat).map (sb m)/\((eI d m).drop i.toNat).all (H3 m)=(eI d m).all (H3 m)
def Cq(d:br)(m:aw):List de×Int×T2×T8×Unit->Nat:=fun(o,i,b,g,_)=>(eI d m).length-i.toNat
def ajp:AX XV:=fun(d,m)=>b_ [(6,aY [iO 6 .eo,iI 8,.box 2 (2,1024) [.lit .str,.shr .bE],.box 3 (3,1024) [.lit (.int .i64),.shr .int,.shr .cv]] (fun _=>Dc d m) (Cq d m))]
def ah2:HH:=hF XV func205 [ahc,OR,Mb,ahG] ajp fun x hp hb=>by
 obtain⟨d,m⟩:=x
 have bp:cB d<=4294967295:=hp _ m0
 clear hp hb
 apply vE (let x0:=(d.aA.getD m.cG.toNat cq).bI;let q0:=Lf [VL .eo [],VB false] [VL .eo (nj d m),VB (lQ d m)];cB d<=4294967295/\bif !fJ d then q0 else bif !j9 d m then q0 else 0<=m.cG/\m.cG.toNat<d.aA.length/\bif (m.ee.length:Int) !=(↑(cN (d.aA.getD m.cG.toNat cq).aH):Int) then q0 else 0<=m.cG/\m.cG.toNat<d.aA.length/\Dc d m ([],0,(d.Name,d.aA,()),(m.cG,m.ee,m.bz,()),())/\∀(y:List de×Int×T9×Y8×PUnit),let x2:={cG:=y.2.2.2.1.1,ee:=y.2.2.2.1.2.1,bz:=y.2.2.2.1.2.2.1:aw};let x4:=y.2.1.toNat;let x3:=x0.getD x4 dh;let x1:=[sb x2 x3];let q1:=(y.1++x1,wrap i64 (y.2.1+1),(y.2.2.1.1,y.2.2.1.2.1,()),(y.2.2.2.1.1,y.2.2.2.1.2.1,y.2.2.2.1.2.2.1,()),());Dc d m y->bif decide (y.2.1<(x0.length:Int)) then 0<=y.2.1/\x4<x0.length/\(x3.Kind=2->0<=x3.N/\x3.N<(y.2.2.2.1.2.1.length:Int))/\x3.az.length<=4294967295/\bif !H3 x2 x3 then q0 else L4 (y.1.length+x1.length)/\Dc d m q1/\Cq d m q1<Cq d m y else Lf [VL .eo y.1,VB true] [VL .eo (nj d m),VB (lQ d m)])
 dsimp only
 refine⟨bp,bC (fun h=>Iy (by rw[lQ,show fJ d=false from h];rfl)) (fun hd=>bC (fun h=>Iy (Oo (by rw[Eu,show j9 d m=false from h];rfl))) (fun hr=> ?_))⟩
 obtain⟨r1,r2⟩:=ow hr
 refine⟨r1,by omega,jk (fun h=>Iy (Oo (by rw[Eu,decide_eq_false (show¬m.ee.length=cN (d.aA.getD m.cG.toNat cq).aH by omega)];simp))) (fun hl=> ?_)⟩
 have VV:Eu d m=true:=by rw[Eu,show j9 d m=true from hr,decide_eq_true (show m.ee.length=cN (d.aA.getD m.cG.toNat cq).aH by omega)];rfl
 obtain⟨ha1,ha2⟩:=OL hd VV
 refine⟨r1,by omega,⟨rfl,rfl,VV,by omega,by omega,by simp,rfl⟩,?_⟩
 rintro⟨o,i,⟨b1,b2,⟨⟩⟩,⟨g1,g2,g3,⟨⟩⟩,⟨⟩⟩ ⟨hb,hg,-,h1,h2,rfl,hR⟩
 cases hb
 cases hg
 have hx:(d.aA.getD m.cG.toNat cq).bI=eI d m:=rfl
 simp only[hx]
 refine aV ?_ ?_<;>intro hc
 ·obtain⟨a1,a2⟩:=ha2 i h1 hc
  have has:=TA hr h1 hc
  rw[dQ _ _ dh h1 hc] at hR
  refine⟨h1,by omega,a2,by omega,bC (fun g=> ?_) (fun g=> ?_)⟩
  ·exact Iy (Wm (by rw[<-hR,show H3 m ((eI d m).getD i.toNat dh)=false from g];rfl))
  ·have g':H3 m ((eI d m).getD i.toNat dh)=true:=g
   rw[g',wq] at hR
   have hm:((eI d m).take i.toNat).map (sb m)++[sb m ((eI d m).getD i.toNat dh)]=((eI d m).take (i+1).toNat).map (sb m):=by rw[<-dk (eI d m) dh h1 hc,J9];rfl
   rw[wi]
   exact⟨by simp only[xt,oc,fK,fv];omega,⟨rfl,rfl,VV,by omega,by omega,hm,hR⟩,by simp only[Cq];omega⟩
 ·have e:(eI d m).drop i.toNat=[]:=List.drop_eq_nil_of_le (by omega)
  rw[e] at hR
  have hf:lQ d m=true:=by rw[lQ,VV,<-hR,show fJ d=true from hd];rfl
  rw[cE (eI d m) (by omega)]
  exact akc (by rw[nj,if_pos hf]) hf.symm
def qx(now:Int)(l:List aN):List aN:=l.filter fun x=>decide (x.At<=now)
def Pe(now:Int)(l:List aN):List aN:=l.filter fun x=> !decide (x.At<=now)
theorem Bk{α:Type}(p:α->Bool)(l:List α)(z:α){i:Int}(h1:0<=i)(h2:i<l.length):
  (l.take (i+1).toNat).filter p=(l.take i.toNat).filter p++(if p (l.getD i.toNat z) then[l.getD i.toNat z] else[]):=by
 rw[<-dk l z h1 h2,List.filter_append]
 congr 1
 simp only[List.filter_cons,List.filter_nil]
theorem wG{α:Type}(p:α->Bool)(l:List α)(n:Nat):((l.take n).filter p).length<=n:=
 xr (Mq _ _) (by simp;omega)
def XU:=bV (α:=(List aN)×Int) (qC (qL .aI) (q1 qI)) [.ro,.ro] (fun(l,now)=>[L4 (cR l)]) (fun(l,now)=>⟨[dL .aI (qx now l),dL .aI (Pe now l)],[],[]⟩)
def zh(l:List aN)(now:Int):(List aN×(Nat->Bool))×Int×List aN×List aN×Unit->Prop:=fun((xs,dd),i,due,oth,_)=>0<=i/\i<=l.length/\l=xs/\(∀j,i.toNat<=j->dd j=false)/\due=qx now (l.take i.toNat)/\oth=Pe now (l.take i.toNat)
def tz(l:List aN)(now:Int):(List aN×(Nat->Bool))×Int×List aN×List aN×Unit->Nat:=fun((xs,dd),i,due,oth,_)=>l.length-i.toNat
def ajo:AX XU:=fun(l,now)=>b_ [(5,aY [.slot 8 (8,1024) (.part .aI),iI 9,iO 6 .aI,iO 7 .aI] (fun _=>zh l now) (tz l now))]
def ah0:HH:=hF XU func207 [abN] ajo fun x hp hb=>by
 obtain⟨l,now⟩:=x
 have bp:cR l<=4294967296:=hp _ m0
 clear hp hb
 apply vE (cR l<=4294967296/\zh l now ((l,fun(x:Nat)=>false),0,[],[],())/\∀(y:(List aN×(Nat->Bool))×Int×List aN×List aN×PUnit),let x1:=y.2.1.toNat;let x2:=wrap i64 (y.2.1+1);let x5:=y.fst.1.getD x1 cO;let x6:=y.fst.1.length;let x0:=[x5];let x3:=x5.At;let x4:=(↑x6:Int);zh l now y->bif decide (y.2.1<x4) then 0<=y.2.1/\x1<x6/\x1<x6/\y.fst.2 x1=false/\bif decide (x3<=now) then 0<=y.2.1/\x1<x6/\x1<x6/\y.fst.2 x1=false/\L4 (y.2.2.1.length+x0.length)/\zh l now ((y.fst.1,fun(j:Nat)=>Nat.beq j x1||y.fst.2 j),x2,y.2.2.1++x0,y.2.2.2.1,())/\tz l now ((y.fst.1,fun(j:Nat)=>Nat.beq j x1||y.fst.2 j),x2,y.2.2.1++x0,y.2.2.2.1,())<tz l now y else 0<=y.2.1/\x1<x6/\x1<x6/\y.fst.2 x1=false/\L4 (y.2.2.2.1.length+x0.length)/\zh l now ((y.fst.1,fun(j:Nat)=>Nat.beq j x1||y.fst.2 j),x2,y.2.2.1,y.2.2.2.1++x0,())/\tz l now ((y.fst.1,fun(j:Nat)=>Nat.beq j x1||y.fst.2 j),x2,y.2.2.1,y.2.2.2.1++x0,())<tz l now y else Lf [VL .aI y.2.2.1,VL .aI y.2.2.2.1] [VL .aI (qx now l),VL .aI (Pe now l)])
 dsimp only
 refine⟨bp,⟨by omega,by omega,rfl,fun _ _=>rfl,rfl,rfl⟩,?_⟩
 rintro⟨⟨xs,dd⟩,i,due,oth,⟨⟩⟩ ⟨h1,h2,rfl,hd,rfl,rfl⟩
 simp only
 refine ae ?_ ?_<;>intro hc
 ·have hc:=yT hc
  have gI:i.toNat<l.length:=by omega
  have Lc:=hd i.toNat (tX _)
  have hl:l.length<=4294967296:=by simp only[cR] at bp;omega
  have hw:IntKind.i64.wrap (i+1)=i+1:=wi
  have g1:=Bk (fun x:aN=>decide (x.At<=now)) l cO h1 hc
  have g2:=Bk (fun x:aN=> !decide (x.At<=now)) l cO h1 hc
  have e1:(qx now (l.take i.toNat)).length<=i.toNat:=wG _ _ _
  have e2:(Pe now (l.take i.toNat)).length<=i.toNat:=wG _ _ _
  have kY:∀j,(i+1).toNat<=j->(Nat.beq j i.toNat||dd j)=false:=fun j hj=>by
   rw[hd j (by omega),QK,<-wu,J5];omega
  rw[hw]
  refine⟨h1,gI,gI,Lc,ae (fun ha=> ?_) (fun ha=> ?_)⟩
  ·refine⟨h1,gI,gI,Lc,by simp;omega,⟨by omega,by omega,rfl,kY,?_,?_⟩,by simp only[tz];omega⟩
   ·show _=List.filter _ _
    rw[g1,if_pos ha];rfl
   ·show _=List.filter _ _
    rw[g2,if_neg (by rw[ha];decide),xu];rfl
  ·refine⟨h1,gI,gI,Lc,by simp;omega,⟨by omega,by omega,rfl,kY,?_,?_⟩,by simp only[tz];omega⟩
   ·show _=List.filter _ _
    rw[g1,if_neg (by rw[ha];decide),xu];rfl
   ·show _=List.filter _ _
    rw[g2,if_pos (by rw[ha];decide)];rfl
 ·have hc:=yF hc
  rw[cE l (by omega)]
  exact aX _
def ua(l:List aN)(a:Int):Nat->Nat
 |0=>0
 |n+1=>if(l.getD n cO).At>a then ua l a n else n+1
theorem NY(l:List aN)(a:Int):∀n,ua l a n<=n
 |0=>tX _
 |n+1=>by have:=NY l a n;simp only[ua];split<;>omega
def m_(l:List aN)(x:aN):Bool:=dl l&&iB x&&decide (l.length<30)
def rI(l:List aN)(x:aN):List aN:=if m_ l x then l.take (ua l x.At l.length)++x::l.drop (ua l x.At l.length) else l
def oq(l:List aN)(k:Nat)(d:aN):List aN:=l.take k++d::l.drop k
theorem PO(l:List aN){k:Nat}(h:k<=l.length)(d:aN):(oq l k d).length=l.length+1:=by
 simp[oq];omega
theorem Sj(l:List aN){k j:Nat}(h:k<=l.length)(hj:j<k)(d:aN):(oq l k d).getD j cO=l.getD j cO:=by
 simp only[oq,ez]
 rw[xA (by simp;omega),qn,if_pos hj]
theorem GU(l:List aN){k:Nat}(h:k<=l.length)(d x:aN):(oq l k d).set k x=oq l k x:=by
 unfold oq
 rw[List.set_append_right _ _ (by simp;omega)]
 have:k-(l.take k).length=0:=by simp;omega
 rw[this];rfl
theorem K6(l:List aN){k:Nat}(h0:0<k)(h:k<=l.length):oq l k (l.getD (k-1) cO)=oq l (k-1) (l.getD (k-1) cO):=by
 unfold oq
 obtain⟨n,rfl⟩:∃n,k=n+1:=⟨k-1,by omega⟩
 have hn:n<l.length:=by omega
 simp only[Nat.add_sub_cancel]
 have e:l.getD n cO=l[n]:=by rw[ez,fw hn];rfl
 rw[e,zcz hn,xz,<-Ui hn]
 rfl
theorem LfT{a a':List aN}{b b':Bool}(h1:a=a')(h2:b=b'):Lf [.one (.sl .aI a),.one (.lit (.bool b))] [.one (.sl .aI a'),.one (.lit (.bool b'))]:=by
 subst h1 h2;exact aX _
def XJ:=bV (α:=(List aN)×aN) (qC (qL .aI) (q1 (qA .aI))) [.ro,.ro] (fun(l,x)=>[L4 (cR l),L4 (h_ x)]) (fun(l,x)=>⟨[dL .aI (rI l x),dO (m_ l x)],[],[]⟩)
def C8(l:List aN)(x:aN):(List aN×(Nat->Bool))×Int×T19×Unit->Prop:=fun((xs,dd),k,b,_)=>0<=k/\k<=l.length/\(∃d,xs=oq l k.toNat d)/\(∀j,j<l.length+1->j≠k.toNat->dd j=false)/\ua l x.At k.toNat=ua l x.At l.length/\b=(x.At,x.F.Kind,x.F.ah,())
def Ck(l:List aN)(x:aN):(List aN×(Nat->Bool))×Int×T19×Unit->Nat:=fun((xs,dd),k,b,_)=>k.toNat
def ajd:AX XJ:=fun(l,x)=>b_ [(7,aY [.slot 6 (6,1024) (.part .aI),iI 7,.box 3 (3,1024) [.lit (.int .i64),.lit .str,.own .bc true]] (fun _=>C8 l x) (Ck l x))]
def ahE:HH:=hF XJ func240 [abN,ahb,Y1,sw] ajd fun x hp hb=>by
 obtain⟨l,x⟩:=x
 have bp:cR l<=4294967296:=hp _ m0
 have eN:h_ x<=4294967296:=hp _ m1
 clear hp hb
 apply vE (let q0:=Lf [VL .aI l,VB false] [VL .aI (rI l x),VB (m_ l x)];L4 (cR l)/\bif !dl l then q0 else bif !iB x then q0 else bif decide ((l.length:Int)≥30) then q0 else L4 x.F.ah.length/\l.length+(List.replicate 1 cO).length<=4294967296/\C8 l x ((l++List.replicate 1 cO,fun(i:Nat)=>Nat.ble (l.length) i),(l.length:Int),(x.At,x.F.Kind,x.F.ah,()),())/\∀(y:(List aN×(Nat->Bool))×Int×T21×PUnit),let x1:=y.2.1.toNat;let x3:=wrap i64 (y.2.1-1);let x6:=y.fst.1.length;let x0:=y.fst.1.set x1 {At:=y.2.2.1.1,F:={Kind:=y.2.2.1.2.1,ah:=y.2.2.1.2.2.1:aK}:aN};let x2:=x3.toNat;let x5:=y.fst.1.getD x2 cO;let x4:=x5.At;let q1:=Lf [VL .aI x0,VB true] [VL .aI (rI l x),VB (m_ l x)];let q2:=(y.2.2.1.1,y.2.2.1.2.1,y.2.2.1.2.2.1,());C8 l x y->bif decide (y.2.1>0) then 0<=x3/\x2<x6/\x2<x6/\y.fst.2 x2=false/\bif decide (x4>y.2.2.1.1) then 0<=x3/\x2<x6/\x2<x6/\y.fst.2 x2=false/\0<=y.2.1/\x1<x6/\x1<x6/\C8 l x ((y.fst.1.set x1 x5,fun(j:Nat)=> !Nat.beq j x1&&(Nat.beq j x2||y.fst.2 j)),x3,q2,())/\Ck l x ((y.fst.1.set x1 x5,fun(j:Nat)=> !Nat.beq j x1&&(Nat.beq j x2||y.fst.2 j)),x3,q2,())<Ck l x y else 0<=y.2.1/\x1<x6/\x1<x6/\(∀(i:Nat),i<x0.length->(!Nat.beq i x1&&y.fst.2 i)=false)/\q1 else 0<=y.2.1/\x1<x6/\x1<x6/\(∀(i:Nat),i<x0.length->(!Nat.beq i x1&&y.fst.2 i)=false)/\q1)
 dsimp only
 refine⟨bp,ae (fun h=> ?_) (fun h=>ae (fun h'=> ?_) (fun h'=>ae (fun o9=> ?_) (fun o9=> ?_)))⟩
 ·have hf:m_ l x=false:=by simp only[m_];simp at h;simp[h]
  exact LfT (by rw[rI,hf];rfl) hf.symm
 ·have hf:m_ l x=false:=by simp only[m_];simp at h';simp[h']
  exact LfT (by rw[rI,hf];rfl) hf.symm
 ·have hf:m_ l x=false:=by simp only[m_];have o9:=yT o9;rw[decide_eq_false (by omega)];simp
  exact LfT (by rw[rI,hf];rfl) hf.symm
 have h3:=yF o9
 have ho:m_ l x=true:=by simp only[m_];simp at h h';rw[h,h',decide_eq_true (by omega)];rfl
 have hT:rI l x=oq l (ua l x.At l.length) x:=by rw[rI,if_pos ho];rfl
 refine⟨?_,by simp;omega,⟨by omega,by omega,⟨cO,by simp[oq]⟩,fun j hj ue=> ?_,rfl,rfl⟩,?_⟩
 ·simp only[h_,db,eu] at eN;omega
 ·show Nat.ble l.length j=false
  rw[<-wu,QJ];omega
 rintro⟨⟨xs,dd⟩,k,⟨bA,bK,bF,⟨⟩⟩,⟨⟩⟩ ⟨h1,h2,⟨d,rfl⟩,hd,PN,hb⟩
 cases hb
 simp only
 have hlen:=PO l (k:=k.toNat) (by omega) d
 have fin:ua l x.At k.toNat=k.toNat->0<=k/\k.toNat<(oq l k.toNat d).length/\k.toNat<(oq l k.toNat d).length/\
   (∀i,i<((oq l k.toNat d).set k.toNat x).length->(!Nat.beq i k.toNat&&dd i)=false)/\
   Lf [.one (.sl .aI ((oq l k.toNat d).set k.toNat x)),.one (.lit (.bool true))] [.one (.sl .aI (rI l x)),.one (.lit (.bool (m_ l x)))]:=by
  intro hk
  refine⟨h1,by rw[hlen];omega,by rw[hlen];omega,fun i hi=> ?_,LfT ?_ ho.symm⟩
  ·rw[Me,hlen] at hi
   by_cases hik:i=k.toNat
   ·subst hik;simp
   ·rw[hd i hi hik];simp
  ·rw[GU l (by omega),hT,<-PN,hk]
 refine ae ?_ ?_<;>intro hc
 ·have hc:=yT hc
  have hw:IntKind.i64.wrap (k-1)=k-1:=wi
  have ek:(k-1).toNat=k.toNat-1:=by omega
  obtain⟨n,hn⟩:∃n,k.toNat=n+1:=⟨k.toNat-1,by omega⟩
  have hlo:=Sj l (k:=k.toNat) (j:=k.toNat-1) (by omega) (by omega) d
  have Xo:=hd (k.toNat-1) (by omega) (by omega)
  rw[hw,ek,hlo]
  refine⟨by omega,by rw[hlen];omega,by rw[hlen];omega,Xo,ae (fun hg=> ?_) (fun hg=> ?_)⟩
  ·have hg:=yT hg
   refine⟨by omega,by rw[hlen];omega,by rw[hlen];omega,Xo,by omega,by rw[hlen];omega,by rw[hlen];omega,⟨by omega,by omega,⟨l.getD (k.toNat-1) cO,?_⟩,fun j hj ue=> ?_,?_,rfl⟩,by simp only[Ck];omega⟩
   ·rw[GU l (by omega),ek]
    exact K6 l (by omega) (by omega)
   ·show(!Nat.beq j k.toNat&&(Nat.beq j (k.toNat-1)||dd j))=false
    rw[ek] at ue
    have e1:Nat.beq j (k.toNat-1)=false:=by rw[<-wu,J5];exact ue
    by_cases hjk:j=k.toNat
    ·subst hjk;simp
    ·rw[e1,hd j hj hjk];simp
   ·rw[<-PN,ek,hn]
    rw[hn] at hg
    simp only[Nat.add_sub_cancel] at hg⊢
    rw[ua,if_pos hg]
  ·have hg:=yF hg
   refine fin ?_
   rw[hn] at hg⊢
   simp only[Nat.add_sub_cancel] at hg
   rw[ua,if_neg hg]
 ·have hc:=yF hc
  refine fin ?_
  have:k.toNat=0:=by omega
  rw[this,ua]
structure ai where
 b:List Int
 i:Int
 h:Int
def dU (c : ai) : DV UU := .box [.sl .byte c.b, .lit (.int .i64 c.i), .lit (.int .i64 c.h)]
end
end AM
