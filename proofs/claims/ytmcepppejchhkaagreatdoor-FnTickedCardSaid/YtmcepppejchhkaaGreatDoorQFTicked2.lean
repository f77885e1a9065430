import Derived.Test.YtmcepppejchhkaaGreatDoorQAmLib
import Derived.Test.YtmcepppejchhkaaGreatDoorQFTicked
import Derived.Lib.ItoaLen
import Derived.Lib.Join
import Derived.Test.YtmcepppejchhkaaGreatDoorQShelf
namespace AM
open Go Go.Proofs.Tryz Go.IntKind
set_option linter.unusedVariables false
set_option linter.unusedSimpArgs false
set_option maxRecDepth 100000
noncomputable section
def tB(l:List ao)(f:aL):Bool:=anyI l.length fun k=>decide ((l.getD k aC).F=f)
def fH(l:List ao)(f:aL)(jq:BA)(now:Int):List ao×Bool:=
 if tB l f=true then(l,true) else if 30<=l.length then(l,false) else(l++[yw f jq now],true)
def oQ(l:List ao)(f:aL)(jq:BA)(now:Int):Bool:=aN l&&bE f&&fA jq&&decide (0<=now/\now<=1000000000)
def gq(l:List ao)(f:aL)(jq:BA)(now:Int):List ao×Bool:=if oQ l f jq now=true then fH l f jq now else(l,false)
theorem M9(l:List ao)(f:aL):decide (0<=placeOf l f)=tB l f:=Cb
theorem KA{l:List ao}(h:aN l=true):l.length<=30:=by
 simp only[aN,cN,decide_eq_true_eq] at h;exact h.1
def Yx:=bW (α:=(List ao)×aL×BA×Int) (qC (qL .az) (qC (qA .db) (qC qS (q1 qI)))) [.mv,.ro,.ro,.ro] (fun(l,f,jq,now)=>[L4 f.ag.length]) (fun(l,f,jq,now)=>⟨[dL .az ((fH l f jq now).1),dO ((fH l f jq now).2)],[],[]⟩)
def DM(l:List ao)(f:aL)(jq:BA)(now:Int):List ao×Int×T5×Unit->Prop:=fun(row,i,fb,_)=>row=l/\fb=(f.Kind,f.ag,())/\0<=i/\i<=l.length/\∀j:Nat,(j:Int)<i->decide ((l.getD j aC).F=f)=false
def CZ(l:List ao)(f:aL)(jq:BA)(now:Int):List ao×Int×T5×Unit->Nat:=fun(row,i,fb,_)=>l.length-i.toNat
def aj9:AX Yx:=fun(l,f,jq,now)=>bS [(2,aT [iO 0 .az,iI 10,.box 5 (5,1024) [.lit .str,.shr .bf]] (fun _=>DM l f jq now) (CZ l f jq now))]
def Uc:HH:=hF Yx func166 [NP,A9] aj9 fun x hp hb=>by
 obtain⟨l,f,jq,now⟩:=x
 have jQ:L9 l.length:=kG (hb _ m0)
 have hH:=qq (x:=f) (hb _ m1)
 have pP:=hH.1
 have mQ:=hH.2
 have V9:=ON (s:=jq) (hb _ m2)
 have rN:=zk (n:=now) (hb _ m3)
 have bo:f.ag.length<=4294967296:=hp _ m0
 clear hp hb
 apply vE (let q0:=fH l f jq now;DM l f jq now (l,0,(f.Kind,f.ag,()),())/\∀(y:List ao×Int×UJ×PUnit),let x1:={Kind:=y.2.2.1.1,ag:=y.2.2.1.2.1:aL};let x2:=y.2.1.toNat;let x3:=(y.1.length:Int);let x0:=[{F:=x1,aW:=jq,State:=(1:Int),bh:=(0:Int),iz:=now,V:={K:=(0:Int),N:=(0:Int),S:={data:= #[]:BA}:a_}:ao}];let q1:=(y.1,wrap i64 (y.2.1+1),(y.2.2.1.1,y.2.2.1.2.1,()),());DM l f jq now y->bif decide (y.2.1<x3) then 0<=y.2.1/\x2<y.1.length/\x2<y.1.length/\x2<y.1.length/\bif decide ((y.1.getD x2 aC).F=x1) then Lf [VL .az y.1,VB true] [VL .az (q0.1),VB (q0.2)] else DM l f jq now q1/\CZ l f jq now q1<CZ l f jq now y else bif decide (x3≥30) then Lf [VL .az y.1,VB false] [VL .az (q0.1),VB (q0.2)] else L4 y.2.2.1.2.1.length/\L4 (y.1.length+x0.length)/\Lf [VL .az (y.1++x0),VB true] [VL .az (q0.1),VB (q0.2)])
 dsimp only
 refine⟨⟨rfl,rfl,by omega,by omega,by intro j hj;omega⟩,?_⟩
 rintro⟨row,i,fb,⟨⟩⟩ ⟨rfl,rfl,h1,h2,hR⟩
 simp only
 refine ae ?_ ?_<;>intro hc
 ·have hc:=yT hc
  rw[wi]
  repeat' (first|refine And.intro (by omega) ?_|refine ae (fun h=> ?_) (fun h=> ?_)|fail)
  ·have ha:tB row f=true:=iF (j:=i.toNat) (by omega) h
   simp only[fH,if_pos ha];exact aY _
  ·exact⟨⟨rfl,rfl,by omega,by omega,jk h1 hR h⟩,by simp only[CZ];omega⟩
 ·have hc:=yF hc
  have ha:¬tB row f=true:=by
   rw[wI];exact gz fun j hj=>hR j (by omega)
  refine ae ?_ ?_<;>intro h
  ·have h:=yT h
   simp only[fH,if_neg ha,if_pos (show 30<=row.length by omega)];exact aY _
  ·have h:=yF h
   repeat' (first|refine And.intro (by first|omega|(simp;omega)) ?_|fail)
   simp only[fH,if_neg ha,if_neg (show¬30<=row.length by omega)];exact aY _
def agV:=bW (α:=(List ao)×aL×BA×Int) (qC (qL .az) (qC (qA .db) (qC qS (q1 qI)))) [.ro,.ro,.ro,.ro] (fun(l,f,jq,now)=>[L4 (cf l),L4 f.ag.length]) (fun(l,f,jq,now)=>⟨[dL .az ((gq l f jq now).1),dO ((gq l f jq now).2)],[],[]⟩)
def aiF:HH:=hF agV func182 [WY,ab',QH,Ud,WZ,ahz,zV] a0 fun x hp hb=>by
 obtain⟨l,f,jq,now⟩:=x
 have jQ:L9 l.length:=kG (hb _ m0)
 have hH:=qq (x:=f) (hb _ m1)
 have pP:=hH.1
 have mQ:=hH.2
 have V9:=ON (s:=jq) (hb _ m2)
 have rN:=zk (n:=now) (hb _ m3)
 have bo:cf l<=4294967296:=hp _ m0
 have eJ:f.ag.length<=4294967296:=hp _ m1
 clear hp hb
 apply vE (let x0:=[{F:=f,aW:=jq,State:=(1:Int),bh:=(0:Int),iz:=now,V:={K:=(0:Int),N:=(0:Int),S:={data:= #[]:BA}:a_}:ao}];let q0:=Lf [VL .az l,VB false] [VL .az ((gq l f jq now).1),VB ((gq l f jq now).2)];let q1:=gq l f jq now;L4 (cf l)/\bif !aN l then q0 else bif !bE f then q0 else bif !fA jq then q0 else bif !decide (0<=now/\now<=1000000000) then q0 else bif decide (placeOf l f≥0) then Lf [VL .az l,VB true] [VL .az (q1.1),VB (q1.2)] else bif (l.length:Int)==30 then q0 else L4 f.ag.length/\L4 (l.length+x0.length)/\Lf [VL .az (l++x0),VB true] [VL .az (q1.1),VB (q1.2)])
 dsimp only
 refine⟨bo,?_⟩
 have hN:oQ l f jq now=false->Lf [.one (.sl .az l),.one (.lit (.bool false))] [.one (.sl .az (gq l f jq now).1),.one (.lit (.bool (gq l f jq now).2))]:=fun h=>by
  simp only[gq,h];exact aY _
 have By:decide (placeOf l f≥0)=tB l f:=M9 l f
 rw[By]
 repeat' (first|refine And.intro (by first|omega|(simp;omega)) ?_|refine ae (fun h=> ?_) (fun h=> ?_)|fail)
 all_goals first
  |(refine hN ?_;simp only[oQ];grind)
  |(have hy:oQ l f jq now=true:=by simp only[oQ];grind
    have hlen:=KA (l:=l) (by simp only[oQ] at hy;grind)
    simp only[gq,hy,if_true,fH]
    first
     |(rw[if_pos (by assumption)];exact aY _)
     |(rw[if_neg (by simp_all),if_pos (by(try simp_all);omega)];exact aY _)
     |(rw[if_neg (by simp_all),if_neg (by simp_all;omega)];exact⟨by simp;omega,aY _⟩))
theorem mN{l:List ao}:aN l=true↔l.length<=30/\(∀t∈l,gp t=true)/\(l.map ao.F).Nodup:=by
 have hg:∀{i:Nat}(h:i<l.length),l.getD i aC=l[i]:=fun{i} h=>by rw[eV,fE h];rfl
 simp only[aN,cN,decide_eq_true_eq]
 refine and_congr_right fun _=> ?_
 rw[zr]
 constructor
 ·intro h
  refine⟨fun t ht=> ?_,?_⟩
  ·obtain⟨i,hi,rfl⟩:=sT ht
   have:=h i hi
   simp only[jM,cN] at this
   rw[<-hg hi];exact this.1
  ·rw[List.Nodup,UM]
   intro i j hi hj Gh
   simp only[wP] at hi hj
   have:=h j hj
   simp only[jM,cN,qK] at this
   have:=oT.1 this.2 i Gh
   simp only[decide_eq_false_iff_not] at this
   rw[hg hi,hg hj] at this
   simpa using this
 ·rintro⟨h1,h2⟩ j hj
  simp only[jM,cN,qK]
  refine⟨by rw[hg hj];exact h1 _ (D5 hj),oT.2 fun i Gh=> ?_⟩
  have hi:i<l.length:=by omega
  rw[List.Nodup,UM] at h2
  have:=h2 i j (by simpa using hi) (by simpa using hj) Gh
  simp only[decide_eq_false_iff_not]
  rw[hg hi,hg hj]
  simpa using this
theorem Bf{l:List ao}{f:ao->ao}(hF:∀t,(f t).F=t.F)(hf:∀t,gp t=true->gp (f t)=true)(h:aN l=true):aN (l.map f)=true:=by
 rw[mN] at h⊢
 refine⟨by simpa using h.1,fun t ht=> ?_,?_⟩
 ·obtain⟨t0,h0,rfl⟩:=mz.1 ht
  exact hf _ (h.2.1 _ h0)
 ·rw[List.map_map]
  have:ao.F∘f=ao.F:=funext hF
  rw[this];exact h.2.2
theorem pc{α β:Type}(g:α->β)(f:α->α)(hg:∀x,g (f x)=g x):∀(l:List α)(k:Nat),(l.modify k f).map g=l.map g
 |[],k=>by simp
 |x::l,0=>by simp[hg]
 |x::l,k+1=>by simp[pc g f hg l k]
theorem gj{t:ao}:gp t=true↔bE t.F=true/\fA t.aW=true/\(1<=t.State/\t.State<=4)/\(0<=t.bh/\t.bh<=4)/\(0<=t.iz/\t.iz<=1000001000)/\(t.V=dK\/bR t.V=true)/\((t.State=1->t.bh=0)/\(t.State=2->t.bh≠0)):=by
 simp only[gp,cN,Gc,decide_eq_true_eq]
 constructor
 ·rintro⟨⟨⟨⟨⟨⟨h1,h2⟩,h3⟩,h4⟩,h5⟩,h6⟩,h7⟩;exact⟨h1,h2,h3,h4,h5,h6,h7⟩
 ·rintro⟨h1,h2,h3,h4,h5,h6,h7⟩;exact⟨⟨⟨⟨⟨⟨h1,h2⟩,h3⟩,h4⟩,h5⟩,h6⟩,h7⟩
theorem Qk(t:ao):(gG t).F=t.F:=by unfold gG;split<;>rfl
theorem pS{l:List ao}(h:aN l=true):aN (giveUp l)=true:=by
 refine Bf Qk (fun t h=> ?_) h
 obtain⟨a1,a2,a3,a4,a5,a6,a7⟩:=gj.1 h
 unfold gG;split
 ·exact gj.2 ⟨a1,a2,by simp,a4,a5,a6,by simp⟩
 ·exact h
theorem LA{l:List ao}{f:aL}:tB l f=true↔f∈l.map ao.F:=by
 simp only[tB,zo,decide_eq_true_eq,mz]
 constructor
 ·rintro⟨j,hj,rfl⟩
  rw[eV,fE hj]
  exact⟨l[j],D5 hj,rfl⟩
 ·rintro⟨t,ht,rfl⟩
  obtain⟨i,hi,rfl⟩:=sT ht
  exact⟨i,hi,by rw[eV,fE hi];rfl⟩
theorem oc{l:List ao}{f:aL}{u:BA}{now:Int}(h:aN l=true)(hf:bE f=true)(hu:fA u=true)(h0:0<=now)(h1:now<=1000001000):aN (fH l f u now).1=true:=by
 unfold fH;split
 ·exact h
 ·rename_i hn
  split
  ·exact h
  ·rename_i hl
   rw[mN] at h⊢
   refine⟨by simp only[kF,fP,fz];omega,fun t ht=> ?_,?_⟩
   ·rcases jI.1 ht with ht|ht
    ·exact h.2.1 t ht
    ·rw[mW.1 ht]
     exact gj.2 ⟨hf,hu,by simp[yw],by simp[yw],by simp only[yw];omega,.inl rfl,by simp[yw]⟩
   ·rw[Ko,rV]
    refine⟨h.2.2,by simp,?_⟩
    intro x hx y hy e
    rw[LA] at hn
    simp only[wH,List.map_nil,mW] at hy
    rw[hy] at e;rw[e] at hx;exact hn hx
theorem sY{l:List ao}(h:aN l=true):l.length<=30/\cf l<=6000:=by
 obtain⟨h1,h2,_⟩:=mN.1 h
 have:=xc lR 180 l (fun t ht=>by
  obtain⟨a1,a2,_,_,_,a6,_⟩:=gj.1 (h2 t ht)
  have b1:=(qi a1).2
  have b2:=Xd a2
  have b3:od t.V<=21:=by
   rcases a6 with e|e
   ·rw[e];decide
   ·exact ZO e
  simp only[lR];omega)
 simp only[cf];omega
theorem sW{l:List aI}(h:dt l=true):l.length<=30/\cy l<=6000:=by
 simp only[dt,cN,decide_eq_true_eq] at h
 have:=xc ig 145 l (zq (z:=cC) h.2 fun i hi=>by
  simp only[jL,iq,cN] at hi
  exact(qi hi.1.2).2)
 simp only[cy];omega
theorem xb{l:List bp}(h:dz l=true):l.length<=30/\(∀u∈l,bE u.F=true)/\bN l<=20000:=by
 simp only[dz,cN,decide_eq_true_eq] at h
 have hf:∀u∈l,bE u.F=true:=zq (z:=bZ) h.2 fun i hi=>by
  simp only[jK,cN] at hi;exact hi.1.2
 have:=xc du 345 l (zq (z:=bZ) h.2 fun i hi=>by
  simp only[jK,cN,decide_eq_true_eq] at hi
  have:=(qi hi.1.2).2
  simp only[du];omega)
 refine⟨h.1,hf,?_⟩
 simp only[bN];omega
theorem qZ{l:List bp}(h:dz l=true)(hl:l≠[]):bE (bt l)=true:=by
 rw[bt,if_neg hl]
 have h0:l.length-1<l.length:=by have:=List.length_pos_iff.2 hl;omega
 rw[eV,fE h0]
 exact(xb h).2.1 _ (D5 h0)
def uE(x:aq)(st:Int):aq:=⟨x.S,x.aA,giveUp x.aj,[],x.ax,st,x.cd⟩
def u9(l:List ao)(f:aL):List ao:=l.filter fun t=> !decide (t.F=f)
def yR(l:List ao)(f:aL):List ao:=if 30<=(u9 l f).length then[] else u9 l f
def uX(x:aq):List ao:=(fH (yR x.aj (bt x.ax)) (bt x.ax) ai x.cd).1
def gZ(x:aq):aq:=if x.ax=[] then uE x (if x.State=5 then 6 else 4) else⟨x.S,x.aA,uX x,x.ap,x.ax,x.State,x.cd⟩
def fX(x:aq)(st:Int):aq:=gZ (uE x st)
def cH(x:aq):Prop:=aN x.aj=true/\dz x.ax=true/\0<=x.cd/\x.cd<=1000000000
theorem Hg{x:aq}(h:cH x)(st:Int):cH (uE x st):=⟨pS h.1,h.2⟩
theorem uT{l:List ao}(p:ao->Bool)(h:aN l=true):aN (l.filter p)=true:=by
 rw[mN] at h⊢
 refine⟨uN (Mw _ _) h.1,fun t ht=>h.2.1 t (xR.1 ht).1,?_⟩
 exact(List.filter_sublist.map ao.F).nodup h.2.2
theorem yc{l:List ao}(h:aN l=true)(f:aL):aN (yR l f)=true:=by
 unfold yR;split
 ·rfl
 ·exact uT _ h
theorem Pg{x:aq}(h:cH x)(hu:x.ax≠[]):(gq (yR x.aj (bt x.ax)) (bt x.ax) ai x.cd).1=uX x:=by
 have hc:oQ (yR x.aj (bt x.ax)) (bt x.ax) ai x.cd=true:=by
  simp only[oQ,yc h.1,qZ h.2.1 hu,wQ,cN,decide_eq_true_eq]
  exact⟨rfl,h.2.2⟩
 unfold gq uX;rw[if_pos hc]
theorem Ei{x:aq}(h:cH x)(hu:x.ax≠[]):aN (uX x)=true:=
 oc (yc h.1 _) (qZ h.2.1 hu) rfl h.2.2.1 (by have:=h.2.2.2;omega)
theorem yd{α:Type}{l:List α}{i:Nat}(z:α)(h:i<l.length):l.take (i+1)=l.take i++[l.getD i z]:=by
 rw[zcz h,eV,fE h];rfl
theorem mK{α:Type}(q:α->Bool){l:List α}{i:Nat}(z:α)(h:i<l.length):(l.take (i+1)).filter q=(l.take i).filter q++(if q (l.getD i z)=true then[l.getD i z] else[]):=by
 rw[yd z h,List.filter_append]
 congr 1
 generalize List.getD l i z=x
 by_cases hq:q x=true<;>simp[hq]
def Mo:=bW (α:=List Int) (q1 (qL .int)) [.ro] (fun l=>[L4 l.length]) (fun l=>⟨[dL .int l],[],[]⟩)
def Uh:AX Mo:=fun l=>bS []
def TP:List (FuncId×ka UU):=[]
theorem ae':BD EE TP f173 Mo Uh [] .int [] true=(Lf [VL .int []] [VL .int []]):=by kernel_rfl
theorem ae7:BD EE TP f173 Mo Uh [] .int [] true:=by
 rw[ae']
 exact aY _
theorem afn:Holds EE (173,Mo):=by
 refine Ay pD func173 Mo (by kernel_rfl) rfl .int (fun x=>x) (fun _=>rfl) TP all_nil Uh (fun(l:List Int) hp hb=> ?_)
 have jQ:L9 l.length:=kG (hb _ m0)
 have bo:l.length<=4294967296:=hp _ m0
 clear hp hb
 refine⟨?_,fun h0=> ?_⟩
 rotate_left
 ·subst h0;exact ae7
 apply vE (0+l.length<=4294967296/\Lf [VL .int ([]++l)] [VL .int l])
 exact⟨by simp;omega,aY _⟩
def aiO:HH:=⟨_,afn⟩
def Mn:=bW (α:=List bT) (q1 (qL .cw)) [.ro] (fun l=>[L4 l.length]) (fun l=>⟨[dL .cw l],[],[]⟩)
def Ug:AX Mn:=fun l=>bS []
def TO:List (FuncId×ka UU):=[]
theorem ae9:BD EE TO f174 Mn Ug [] .cw [] true=(Lf [VL .cw []] [VL .cw []]):=by kernel_rfl
theorem ae6:BD EE TO f174 Mn Ug [] .cw [] true:=by
 rw[ae9]
 exact aY _
theorem afm:Holds EE (174,Mn):=by
 refine Ay pD func174 Mn (by kernel_rfl) rfl .cw (fun x=>x) (fun _=>rfl) TO all_nil Ug (fun(l:List bT) hp hb=> ?_)
 have jQ:L9 l.length:=kG (hb _ m0)
 have bo:l.length<=4294967296:=hp _ m0
 clear hp hb
 refine⟨?_,fun h0=> ?_⟩
 rotate_left
 ·subst h0;exact ae6
 apply vE (0+l.length<=4294967296/\Lf [VL .cw ([]++l)] [VL .cw l])
 exact⟨by simp;omega,aY _⟩
def aiN:HH:=⟨_,afm⟩
def ahm:=bW (α:=av) (q1 (qA .aB)) [.ro] (fun m=>[L4 m.eo.length,L4 m.bw.length]) (fun m=>⟨[dA .aB m],[],[]⟩)
def ajl:HH:=hF ahm func115 [aiO,aiN] a0 fun(m:av) hp hb=>by
 have bo:m.eo.length<=4294967296:=hp _ m0
 have eJ:m.bw.length<=4294967296:=hp _ m1
 clear hp hb
 apply vE (m.eo.length<=4294967296/\L4 m.bw.length/\Lf [DV.agg [CI m.cL,CL .int m.eo,CL .cw m.bw]] [DV.agg [CI m.cL,CL .int m.eo,CL .cw m.bw]])
 exact⟨bo,eJ,aY _⟩
theorem Er(s:List bO){i:Int}(h1:0<=i)(h2:i<s.length):(s.getD i.toNat aZ).F.ag.length<=bV s/\s.length<=bV s:=by
 have hs:=d_ jX s aZ h1 h2
 simp only[jX,dh,eG] at hs
 simp only[bV,jX,dh,eG];omega
theorem Ep(l:List av){i:Int}(h1:0<=i)(h2:i<l.length):(l.getD i.toNat aX).eo.length<=fh l/\(l.getD i.toNat aX).bw.length<=fh l/\l.length<=fh l:=by
 have hs:=d_ js l aX h1 h2
 simp only[js,r_,sa] at hs
 simp only[fh,js,r_,sa];omega
def afV:=bW (α:=List av) (q1 (qL .aB)) [.ro] (fun l=>[L4 (fh l)]) (fun l=>⟨[dL .aB l],[],[]⟩)
def JV(l:List av):List av×Int×Unit->Prop:=fun(out,i,_)=>0<=i/\i<=l.length/\out=l.take i.toNat
def Jg(l:List av):List av×Int×Unit->Nat:=fun(out,i,_)=>l.length-i.toNat
def ap_:AX afV:=fun l=>bS [(3,aT [iO 3 .aB,iI 8] (fun _=>JV l) (Jg l))]
def apj:HH:=hF afV func51 [ajl] ap_ fun(l:List av) hp hb=>by
 have jQ:L9 l.length:=kG (hb _ m0)
 have bo:fh l<=4294967296:=hp _ m0
 clear hp hb
 apply vE (JV l ([],0,())/\∀(y:List av×Int×PUnit),let x1:=y.2.1.toNat;let x0:=l.getD x1 aX;let q0:=(y.1++[x0],wrap i64 (y.2.1+1),());JV l y->bif decide (y.2.1<(l.length:Int)) then 0<=y.2.1/\x1<l.length/\L4 x0.eo.length/\L4 x0.bw.length/\y.1.length+List.length [x0]<=4294967296/\JV l q0/\Jg l q0<Jg l y else Lf [VL .aB y.1] [VL .aB l])
 dsimp only
 refine⟨⟨by omega,by omega,by simp⟩,?_⟩
 rintro⟨out,i,⟨⟩⟩ ⟨h1,h2,rfl⟩
 simp only
 refine aR ?_ ?_<;>intro hc
 ·obtain⟨s1,s2,s3⟩:=Ep l h1 hc
  have hk:=dl l aX h1 hc
  rw[wi]
  repeat' (first|refine And.intro (by first|omega|(simp only[fz];omega)) ?_|fail)
  exact⟨by simp only[oq,fP,fz];omega,⟨by omega,by omega,hk⟩,by simp only[Jg];omega⟩
 ·rw[cA l (by omega)]
  exact aY _
def afO:=bW (α:=List av) (q1 (qL .aB)) [.ro] (fun l=>[L4 (fh l)]) (fun l=>⟨[dL .aB l],[],[]⟩)
def JQ(l:List av):List av×Int×Unit->Prop:=fun(out,i,_)=>0<=i/\i<=l.length/\out=l.take i.toNat
def Jb(l:List av):List av×Int×Unit->Nat:=fun(out,i,_)=>l.length-i.toNat
def ap4:AX afO:=fun l=>bS [(3,aT [iO 3 .aB,iI 4] (fun _=>JQ l) (Jb l))]
def apb:HH:=hF afO func62 [] ap4 fun(l:List av) hp hb=>by
 have jQ:L9 l.length:=kG (hb _ m0)
 have bo:fh l<=4294967296:=hp _ m0
 clear hp hb
 apply vE (JQ l ([],0,())/\∀(y:List av×Int×PUnit),let x2:=y.2.1.toNat;let x1:=l.getD x2 aX;let x0:=[{cL:=x1.cL,eo:=[]++x1.eo,bw:=[]++x1.bw:av}];let q0:=(y.1++x0,wrap i64 (y.2.1+1),());JQ l y->bif decide (y.2.1<(l.length:Int)) then 0<=y.2.1/\x2<l.length/\0<=y.2.1/\x2<l.length/\0+x1.eo.length<=4294967296/\0<=y.2.1/\x2<l.length/\0+x1.bw.length<=4294967296/\L4 (y.1.length+x0.length)/\JQ l q0/\Jb l q0<Jb l y else Lf [VL .aB y.1] [VL .aB l])
 dsimp only
 refine⟨⟨by omega,by omega,by simp⟩,?_⟩
 rintro⟨out,i,⟨⟩⟩ ⟨h1,h2,rfl⟩
 simp only
 refine aR ?_ ?_<;>intro hc
 ·obtain⟨s1,s2,s3⟩:=Ep l h1 hc
  have hk:=dl l aX h1 hc
  rw[wi]
  repeat' (first|refine And.intro (by first|omega|(simp only[fz];omega)) ?_|fail)
  exact⟨by simp only[oq,fP,fz];omega,⟨by omega,by omega,hk⟩,by simp only[Jb];omega⟩
 ·rw[cA l (by omega)]
  exact aY _
def afW:=bW (α:=aD) (q1 (qA .cQ)) [.ro] (fun s=>[L4 (bV s.ab)]) (fun s=>⟨[dA .cQ s],[],[]⟩)
def JW(s:aD):Int×T3×T3×T3×Unit->Prop:=fun(i,b,r,g,_)=>b=(s.ab,s.Next,())/\r=([],0,())/\0<=i/\i<=s.ab.length/\g=(s.ab.take i.toNat,s.Next,())
def Jh(s:aD):Int×T3×T3×T3×Unit->Nat:=fun(i,b,r,g,_)=>s.ab.length-i.toNat
def aqa:AX afW:=fun s=>bS [(3,aT [iI 12,.box 1 (1,1024) [.shr .aJ,.lit (.int .i64)],.box 2 (2,1024) [.own .aJ true,.lit (.int .i64)],.box 3 (3,1024) [.own .aJ true,.lit (.int .i64)]] (fun _=>JW s) (Jh s))]
def apk:HH:=hF afW func50 [zV] aqa fun(s:aD) hp hb=>by
 have i_:=la (x:=s) (hb _ m0)
 have bo:bV s.ab<=4294967296:=hp _ m0
 clear hp hb
 apply vE (let q0:=List bO×Int×PUnit;JW s (0,(s.ab,s.Next,()),([],0,()),([],s.Next,()),())/\∀(y:Int×q0×q0×q0×PUnit),let x0:=[s.ab.getD y.1.toNat aZ];let q1:=(wrap i64 (y.1+1),(y.2.1.1,y.2.1.2.1,()),(y.2.2.1.1,y.2.2.1.2.1,()),(y.2.2.2.1.1++x0,y.2.2.2.1.2.1,()),());JW s y->bif decide (y.1<(s.ab.length:Int)) then 0<=y.1/\y.1.toNat<s.ab.length/\(s.ab.getD y.1.toNat aZ).F.ag.length<=4294967296/\L4 (y.2.2.2.1.1.length+x0.length)/\JW s q1/\Jh s q1<Jh s y else Lf [DV.agg [CL .aJ y.2.2.2.1.1,CI y.2.2.2.1.2.1]] [DV.agg [CL .aJ s.ab,CI s.Next]])
 dsimp only
 refine⟨⟨rfl,rfl,by omega,by omega,rfl⟩,?_⟩
 rintro⟨i,⟨b1,b2,⟨⟩⟩,⟨r1,r2,⟨⟩⟩,⟨g1,g2,⟨⟩⟩,⟨⟩⟩ ⟨hb,hr,h1,h2,hg⟩
 cases hb
 cases hr
 cases hg
 simp only
 refine aR ?_ ?_<;>intro hc
 ·obtain⟨s1,s2⟩:=Er s.ab h1 hc
  have hk:=dl s.ab aZ h1 hc
  rw[wi]
  repeat' (first|refine And.intro (by omega) ?_|fail)
  exact⟨by simp only[oq,fP,fz];omega,⟨rfl,rfl,by omega,by omega,by rw[<-hk]⟩,by simp only[Jh];omega⟩
 ·rw[cA s.ab (by omega)]
  exact aY _
def afP:=bW (α:=aD) (q1 (qA .cQ)) [.ro] (fun s=>[L4 (bV s.ab)]) (fun s=>⟨[dA .cQ s],[],[]⟩)
def JR(s:aD):Int×T3×T3×T3×Unit->Prop:=fun(i,b,r,g,_)=>b=(s.ab,s.Next,())/\r=([],0,())/\0<=i/\i<=s.ab.length/\g=(s.ab.take i.toNat,s.Next,())
def Jc(s:aD):Int×T3×T3×T3×Unit->Nat:=fun(i,b,r,g,_)=>s.ab.length-i.toNat
def ap5:AX afP:=fun s=>bS [(3,aT [iI 4,.box 1 (1,1024) [.shr .aJ,.lit (.int .i64)],.box 2 (2,1024) [.own .aJ true,.lit (.int .i64)],.box 3 (3,1024) [.own .aJ true,.lit (.int .i64)]] (fun _=>JR s) (Jc s))]
def apc:HH:=hF afP func61 [A9] ap5 fun(s:aD) hp hb=>by
 have i_:=la (x:=s) (hb _ m0)
 have bo:bV s.ab<=4294967296:=hp _ m0
 clear hp hb
 apply vE (let q0:=List bO×Int×PUnit;JR s (0,(s.ab,s.Next,()),([],0,()),([],s.Next,()),())/\∀(y:Int×q0×q0×q0×PUnit),let x1:=y.2.1.1.getD y.1.toNat aZ;let x3:=y.2.1.1.length;let x0:=[x1];let x2:=(↑x3:Int);let q1:=(wrap i64 (y.1+1),(y.2.1.1,y.2.1.2.1,()),(y.2.2.1.1,y.2.2.1.2.1,()),(y.2.2.2.1.1++x0,y.2.2.2.1.2.1,()),());JR s y->bif decide (y.1<x2) then 0<=y.1/\y.1.toNat<x3/\0<=y.1/\y.1.toNat<x3/\L4 x1.F.ag.length/\L4 (y.2.2.2.1.1.length+x0.length)/\JR s q1/\Jc s q1<Jc s y else Lf [DV.agg [CL .aJ y.2.2.2.1.1,CI y.2.2.2.1.2.1]] [DV.agg [CL .aJ s.ab,CI s.Next]])
 dsimp only
 refine⟨⟨rfl,rfl,by omega,by omega,rfl⟩,?_⟩
 rintro⟨i,⟨b1,b2,⟨⟩⟩,⟨r1,r2,⟨⟩⟩,⟨g1,g2,⟨⟩⟩,⟨⟩⟩ ⟨hb,hr,h1,h2,hg⟩
 cases hb
 cases hr
 cases hg
 simp only
 refine aR ?_ ?_<;>intro hc
 ·obtain⟨s1,s2⟩:=Er s.ab h1 hc
  have hk:=dl s.ab aZ h1 hc
  rw[wi]
  repeat' (first|refine And.intro (by omega) ?_|fail)
  exact⟨by simp only[oq,fP,fz];omega,⟨rfl,rfl,by omega,by omega,by rw[<-hk]⟩,by simp only[Jc];omega⟩
 ·rw[cA s.ab (by omega)]
  exact aY _
def aoP:=bW (α:=aq) (q1 (qA .cp)) [.ro] (fun x=>[L4 (cU x)]) (fun x=>⟨[dA .cp x],[],[]⟩)
def apF:HH:=hF aoP func17 [apk,apj,WY,ahF,ahE] a0 fun(x:aq) hp hb=>by
 have bo:cU x<=4294967296:=hp _ m0
 clear hp hb
 apply vE (bV x.S.ab<=4294967296/\L4 (fh x.aA)/\L4 (cf x.aj)/\L4 (cy x.ap)/\L4 (bN x.ax)/\Lf [DV.agg (aG x)] [DV.agg (aG x)])
 simp only[cU,jr] at bo
 repeat' (first|refine And.intro (by omega) ?_|fail)
 exact aY _
def aoM:=bW (α:=aq) (q1 (qA .cp)) [.ro] (fun x=>[L4 (cU x)]) (fun x=>⟨[dA .cp x],[],[]⟩)
def apD:HH:=hF aoM func21 [apc,apb,ahC,ab8,ab7] a0 fun(x:aq) hp hb=>by
 have bo:cU x<=4294967296:=hp _ m0
 clear hp hb
 apply vE (bV x.S.ab<=4294967296/\L4 (fh x.aA)/\L4 (cf x.aj)/\L4 (cy x.ap)/\L4 (bN x.ax)/\Lf [DV.agg (aG x)] [DV.agg (aG x)])
 simp only[cU,jr] at bo
 repeat' (first|refine And.intro (by omega) ?_|fail)
 exact aY _
theorem mE{a b:aq}(h:a=b):fG [DV.box [.sl .aJ a.S.ab,CI a.S.Next,.sl .aB a.aA,.sl .az a.aj,.sl .aE a.ap,.sl .aQ a.ax,CI a.State,CI a.cd]]=fG [DV.box [.sl .aJ b.S.ab,CI b.S.Next,.sl .aB b.aA,.sl .az b.aj,.sl .aE b.ap,.sl .aQ b.ax,CI b.State,CI b.cd]]:=by rw[h]
theorem akD{a a':List ao}(h:a=a'):Lf [.one (.sl .az a)] [.one (.sl .az a')]:=by subst h;exact aY _
def nI(p:List (DA UU)->Option Value)(t:ao):Bool:= !bJ (p [cn t])
def NG(l:List ao)(q:ao->Bool)(xs:List ao)(dd:Nat->Bool)(i j:Int):Prop:=0<=i/\i<j/\j<=l.length/\xs.length=l.length/\xs.take i.toNat=(l.take j.toNat).filter q/\(∀k,j.toNat<=k->k<l.length->xs.getD k aC=l.getD k aC)/\(∀k,k<i.toNat->dd k=false)/\(∀k,j.toNat<=k->dd k=false)
theorem filter_all{α:Type}(q:α->Bool)(l:List α)(z:α)(n:Nat)(h:∀k,k<n->k<l.length->q (l.getD k z)=true):(l.take n).filter q=l.take n:=by
 rw[List.filter_eq_self]
 intro a ha
 obtain⟨j,hj,rfl⟩:=List.mem_take_iff_getElem.1 ha
 have:=h j (by omega) (by omega)
 rwa[eV,fE (by omega)] at this
theorem Ti{l:List ao}{p:List (DA UU)->Option Value}(h:¬(jO l.length fun j=>bJ (p [cn (l.getD j aC)]))= -1):NG l (nI p) l (fun _=>false) (jO l.length fun j=>bJ (p [cn (l.getD j aC)])) ((jO l.length fun j=>bJ (p [cn (l.getD j aC)]))+1):=by
 rcases ik l.length (fun j=>bJ (p [cn (l.getD j aC)])) with⟨h1,_⟩|⟨i,h2,h1,h3,h4⟩
 ·exact absurd h1 h
 ·rw[h1]
  have e:((i:Int)+1).toNat=i+1:=by omega
  refine⟨by omega,by omega,by omega,rfl,?_,fun _ _ _=>rfl,fun _ _=>rfl,fun _ _=>rfl⟩
  rw[e,Zx,mK _ aC h2]
  have hk:nI p (l.getD i aC)=false:=by simp only[nI];rw[h3];rfl
  rw[hk,filter_all (nI p) l aC i (fun k hk _=>by simp only[nI];rw[h4 k hk];rfl)];simp
theorem Tg{l:List ao}{p:List (DA UU)->Option Value}(h:(jO l.length fun j=>bJ (p [cn (l.getD j aC)]))= -1):l.filter (nI p)=l:=by
 rcases ik l.length (fun j=>bJ (p [cn (l.getD j aC)])) with⟨_,h1⟩|⟨i,_,h1,_⟩
 ·have:=filter_all (nI p) l aC l.length (fun k hk _=>by simp only[nI];rw[h1 k hk];rfl)
  rwa[List.take_length] at this
 ·omega
theorem Th{l:List ao}{q:ao->Bool}{xs:List ao}{dd:Nat->Bool}{i j:Int}(h:NG l q xs dd i j)(hj:j<l.length)(hq:q (l.getD j.toNat aC)=true):NG l q (xs.set i.toNat (l.getD j.toNat aC)) (fun k=> !Nat.beq k i.toNat&&(Nat.beq k j.toNat||dd k)) (i+1) (j+1):=by
 obtain⟨g1,g2,g3,g4,g5,g6,g7,g8⟩:=h
 have ei:(i+1).toNat=i.toNat+1:=by omega
 have ej:(j+1).toNat=j.toNat+1:=by omega
 refine⟨by omega,by omega,by omega,by rw[Mx];exact g4,?_,fun k h1 h2=> ?_,fun k hk=> ?_,fun k hk=> ?_⟩
 ·rw[ei,ej,mK _ aC (by omega),<-g5,hq,if_pos rfl,yd aC (by rw[Mx];omega)]
  congr 1
  ·rw[List.take_set_of_le (by omega)]
  ·rw[eV,zdp (by omega)];rfl
 ·rw[eV,zek (by omega),<-eV]
  exact g6 k (by omega) h2
 ·show(!Nat.beq k i.toNat&&(Nat.beq k j.toNat||dd k))=false
  by_cases Wd:k=i.toNat
  ·rw[Wd];simp
  ·rw[g7 k (by omega),QJ,show Nat.beq k j.toNat=false by rw[<-wI,HQ];omega,vC]
 ·show(!Nat.beq k i.toNat&&(Nat.beq k j.toNat||dd k))=false
  rw[g8 k (by omega),QJ,show Nat.beq k j.toNat=false by rw[<-wI,HQ];omega,vC]
theorem Tf{l:List ao}{q:ao->Bool}{xs:List ao}{dd:Nat->Bool}{i j:Int}(h:NG l q xs dd i j)(hj:j<l.length)(hq:q (l.getD j.toNat aC)=false):NG l q xs (fun k=>Nat.beq k j.toNat||dd k) i (j+1):=by
 obtain⟨g1,g2,g3,g4,g5,g6,g7,g8⟩:=h
 have ej:(j+1).toNat=j.toNat+1:=by omega
 refine⟨by omega,by omega,by omega,g4,?_,fun k h1 h2=>g6 k (by omega) h2,fun k hk=> ?_,fun k hk=> ?_⟩
 ·rw[ej,mK _ aC (by omega),<-g5,hq];simp
 ·show(Nat.beq k j.toNat||dd k)=false
  rw[g7 k hk,QJ,show Nat.beq k j.toNat=false by rw[<-wI,HQ];omega]
 ·show(Nat.beq k j.toNat||dd k)=false
  rw[g8 k (by omega),QJ,show Nat.beq k j.toNat=false by rw[<-wI,HQ];omega]
def Ys:=bW (α:=(List ao)×(List (DA UU)->Option Value)) (qC (qL .az) (q1 qF)) [.mv,.ro] (fun(l,p)=>[∀j:Nat,j<l.length->p [cn (l.getD j aC)]=some (.bool (bJ (p [cn (l.getD j aC)])))]) (fun(l,p)=>⟨[dL .az (l.filter (nI p))],[],[]⟩)
def zK(l:List ao)(p:(List (DA UU)->Option Value)):(List ao×(Nat->Bool))×Int×Int×Unit->Prop:=fun((xs,dd),i,j,_)=>NG l (nI p) xs dd i j
def tU(l:List ao)(p:(List (DA UU)->Option Value)):(List ao×(Nat->Bool))×Int×Int×Unit->Nat:=fun((xs,dd),i,j,_)=>l.length-j.toNat
def aj4:AX Ys:=fun(l,p)=>bS [(5,aT [.slot 0 (0,1024) (.part .az),iI 5,iI 6] (fun _=>zK l p) (tU l p))]
def aiH:HH:=hF Ys func180 [WV] aj4 fun x hp hb=>by
 obtain⟨l,p⟩:=x
 have jQ:L9 l.length:=kG (hb _ m0)
 have bo:∀j:Nat,j<l.length->p [cn (l.getD j aC)]=some (.bool (bJ (p [cn (l.getD j aC)]))):=hp _ m0
 clear hp hb
 apply vE (let x0:=jO (l.length) fun(j:Nat)=>bJ (p [cn (l.getD j aC)]);(∀(j:Nat),j<l.length->p [cn (l.getD j aC)]=some (Value.bool (bJ (p [cn (l.getD j aC)]))))/\bif x0==(-1) then Lf [VL .az l] [VL .az (l.filter (nI p))] else zK l p ((l,fun(x:Nat)=>false),x0,wrap i64 (x0+1),())/\∀(y:(List ao×(Nat->Bool))×Int×Int×PUnit),let x4:=y.2.2.1.toNat;let x5:=y.fst.1.length;let x6:=Option.getD (some y.2.1) 0;let x9:=y.2.1.toNat;let x2:=y.fst.1.getD x4 aC;let x3:=(↑x5:Int);let x8:=Option.getD (some y.2.1) x3;let x1:=bJ (p [{agg:=true,cs:=[CS x2.F.Kind,CL .bf x2.F.ag,CS x2.aW,CI x2.State,CI x2.bh,CI x2.iz,CI x2.V.K,CI x2.V.N,CS x2.V.S]:DA UU}]);let x7:=x8.toNat;let q0:=y.2.2.1+1;zK l p y->bif decide (y.2.2.1<x3) then 0<=y.2.2.1/\x4<x5/\x4<x5/\y.fst.2 x4=false/\p [{agg:=true,cs:=[CS x2.F.Kind,CL .bf x2.F.ag,CS x2.aW,CI x2.State,CI x2.bh,CI x2.iz,CI x2.V.K,CI x2.V.N,CS x2.V.S]:DA UU}]=some (Value.bool x1)/\bif !x1 then 0<=y.2.1/\x9<x5/\x9<x5/\zK l p ((y.fst.1.set x9 x2,fun(j:Nat)=> !Nat.beq j x9&&(Nat.beq j x4||y.fst.2 j)),wrap i64 (y.2.1+1),wrap i64 q0,())/\tU l p ((y.fst.1.set x9 x2,fun(j:Nat)=> !Nat.beq j x9&&(Nat.beq j x4||y.fst.2 j)),wrap i64 (y.2.1+1),wrap i64 q0,())<tU l p y else zK l p ((y.fst.1,fun(j:Nat)=>Nat.beq j x4||y.fst.2 j),y.2.1,wrap i64 q0,())/\tU l p ((y.fst.1,fun(j:Nat)=>Nat.beq j x4||y.fst.2 j),y.2.1,wrap i64 q0,())<tU l p y else 0<=x6/\x6<=Option.getD none x3/\Option.getD none x3<=x3/\x6.toNat<=Int.toNat (Option.getD none x3)/\Int.toNat (Option.getD none x3)=x5/\0<=Option.getD none (0:Int)/\Option.getD none (0:Int)<=x8/\x8<=x3/\Nat.le x7 x5/\(∀(i:Nat),i<x7->(y.fst.2 i||Nat.ble x6.toNat i)=false)/\Lf [VL .az (y.fst.1.take x7)] [VL .az (l.filter (nI p))])
 dsimp only
 refine⟨bo,bg (fun h=> ?_) (fun h=> ?_)⟩
 ·exact akD (Tg h).symm
 have hI:=Ti h
 have hI2:=hI
 obtain⟨h1,_,h2,_⟩:=hI2
 rw[wi]
 refine⟨hI,?_⟩
 clear hI h1 h2 h
 rintro⟨⟨xs,dd⟩,i,j,⟨⟩⟩ hI
 have hI:NG l (nI p) xs dd i j:=hI
 have hI2:=hI
 obtain⟨g1,g2,g3,g4,g5,g6,g7,g8⟩:=hI2
 simp only[Gi,QY]
 refine aR ?_ ?_<;>intro hc
 ·have ej:xs.getD j.toNat aC=l.getD j.toNat aC:=g6 _ (uh _) (by omega)
  rw[ej,wi (n:=i+1),wi (n:=j+1)]
  refine⟨by omega,by omega,by omega,g8 _ (uh _),bo j.toNat (by omega),bx (fun g=> ?_) (fun g=> ?_)⟩
  ·have hq:nI p (l.getD j.toNat aC)=true:=by
    show(!bJ (p [cn (l.getD j.toNat aC)]))=true
    rw[show bJ (p [cn (l.getD j.toNat aC)])=false from g];rfl
   exact⟨g1,by omega,by omega,Th hI (by omega) hq,by simp only[tU];omega⟩
  ·have hq:nI p (l.getD j.toNat aC)=false:=by
    show(!bJ (p [cn (l.getD j.toNat aC)]))=false
    rw[show bJ (p [cn (l.getD j.toNat aC)])=true from g];rfl
   exact⟨Tf hI (by omega) hq,by simp only[tU];omega⟩
 ·have e:l.take j.toNat=l:=Ut (by omega)
  rw[e] at g5
  refine⟨by omega,by omega,by omega,by omega,by omega,by omega,by omega,by omega,(show i.toNat<=xs.length by omega),fun k hk=> ?_,akD g5⟩
  rw[g7 k hk,GJ,<-wI,QT];omega
def agW:=bW (α:=aq×Int) (qC (qX .cp) (q1 qI)) [.box true,.ro] (fun(x,state)=>[aN x.aj=true]) (fun(x,state)=>⟨[],[],[dX .cp (uE x state)]⟩)
def Y':HH:=hF agW func179 [aih] a0 fun x hp hb=>by
 obtain⟨x,state⟩:=x
 have bo:aN x.aj=true:=hp _ m0
 clear hp hb
 apply vE (cf x.aj<=4294967296/\LM [] [] [DV.box [CL .aJ x.S.ab,CI x.S.Next,CL .aB x.aA,CL .az (giveUp x.aj),CL .aE [],CL .aQ x.ax,CI state,CI x.cd]] [DV.box (aG (uE x state))])
 have:=(sY bo).2
 exact⟨by omega,rfl,rfl,rfl⟩
def FY:ka UU where
 α:=ao×aL
 md:=[.ro,.ro]
 of:=oC (oA .az) (o1 (oP .db))
 ds:=fun x=>[dA .az x.1,dP .db x.2]
 pre:=fun _=>[]
 oe:=fun(t,f)=>⟨[dO (decide (t.F=f))],[],[]⟩
 law:=lC (lA .az) (l1 (lP .db))
def aiG:HH:=hF FY func181 [TX] a0 fun x hp hb=>by
 obtain⟨t,f⟩:=x
 clear hp hb
 apply vE (Lb (decide (t.F=f)) (decide (t.F=f)))
 exact aY _
def ahi:=bW (α:=aq) (q1 (qX .cp)) [.box true] (fun x=>[cH x,x.State=3\/x.State=5]) (fun x=>⟨[],[],[dX .cp (gZ x)]⟩)
def Zl:HH:=hF ahi func122 [aiJ,Y',aiH,aiG,aiF] a0 fun(x:aq) hp hb=>by
 have bo:cH x:=hp _ m0
 clear hp hb
 apply vE (let x0:=x.aj.filter (nI (fo FY [DV.ptr [CS ((bt x.ax).Kind),CL .bf (bt x.ax).ag]]));let q0:=bt x.ax;let q1:=aG (gZ x);L4 (bN x.ax)/\bif !decide ¬x.ax=[] then bif x.State==5 then aN x.aj=true/\LM [] [] [DV.box (aG (uE x 6))] [DV.box q1] else aN x.aj=true/\LM [] [] [DV.box (aG (uE x 4))] [DV.box q1] else(∀(j:Nat),j<x.aj.length->fo FY [DV.ptr [CS (q0.Kind),CL .bf q0.ag]] [cn (x.aj.getD j aC)]=some (Value.bool (bJ (fo FY [DV.ptr [CS (q0.Kind),CL .bf q0.ag]] [cn (x.aj.getD j aC)]))))/\bif decide ((x0.length:Int)≥30) then cf []<=4294967296/\L4 q0.ag.length/\LM [] [] [DV.box [CL .aJ x.S.ab,CI x.S.Next,CL .aB x.aA,CL .az (gq [] {Kind:=q0.Kind,ag:=q0.ag:aL} {data:= #[]:BA} x.cd).1,CL .aE x.ap,CL .aQ x.ax,CI x.State,CI x.cd]] [DV.box q1] else L4 (cf x0)/\L4 q0.ag.length/\LM [] [] [DV.box [CL .aJ x.S.ab,CI x.S.Next,CL .aB x.aA,CL .az (gq {τ:=Cd.az,xs:=x0:iE UU}.xs {Kind:=q0.Kind,ag:=q0.ag:aL} {data:= #[]:BA} x.cd).1,CL .aE x.ap,CL .aQ x.ax,CI x.State,CI x.cd]] [DV.box q1])
 dsimp only
 have UD:=bo
 obtain⟨q1,q2,q3,q4⟩:=bo
 have k3:=(xb q2).2.2
 have hc:∀t:ao,fo FY [.ptr [.lit (.string (bt x.ax).Kind),.sl .bf (bt x.ax).ag]] [cn t]=some (.bool (decide (t.F=bt x.ax))):=fun t=>sA (x:=(t,bt x.ax)) rfl rfl rfl rfl (by simp[FY])
 have hx:x.aj.filter (nI (fo FY [.ptr [.lit (.string (bt x.ax).Kind),.sl .bf (bt x.ax).ag]]))=u9 x.aj (bt x.ax):=by
  unfold u9;congr 1;funext t;unfold nI;rw[hc];rfl
 simp only[hx]
 have hs:=(sY (uT (fun t=> !decide (t.F=bt x.ax)) q1)).2
 have hs:cf (u9 x.aj (bt x.ax))<=6000:=hs
 refine⟨by omega,bx (fun h=> ?_) (fun h=> ?_)⟩
 ·have hu:x.ax=[]:=by simpa using h
  refine bg (fun g=>⟨q1,by trivial,by trivial,mE ?_⟩) (fun g=>⟨q1,by trivial,by trivial,mE ?_⟩)
  ·rw[gZ,if_pos hu,if_pos g]
  ·rw[gZ,if_pos hu,if_neg g]
 ·have hu:¬x.ax=[]:=by simpa using h
  have hf:=(qi (qZ q2 hu)).1
  have e:=Pg UD hu
  have eb:gZ x=⟨x.S,x.aA,uX x,x.ap,x.ax,x.State,x.cd⟩:=if_neg hu
  refine⟨fun j hj=>by rw[hc];rfl,aR (fun g=> ?_) (fun g=> ?_)⟩
  ·rw[show yR x.aj (bt x.ax)=[] from if_pos (by omega)] at e
   exact⟨by simp[cf],by omega,by trivial,by trivial,mE (a:=⟨x.S,x.aA,(gq [] (bt x.ax) ai x.cd).1,x.ap,x.ax,x.State,x.cd⟩) (by rw[e,eb])⟩
  ·rw[show yR x.aj (bt x.ax)=u9 x.aj (bt x.ax) from if_neg (by omega)] at e
   exact⟨by omega,by omega,by trivial,by trivial,mE (a:=⟨x.S,x.aA,(gq (u9 x.aj (bt x.ax)) (bt x.ax) ai x.cd).1,x.ap,x.ax,x.State,x.cd⟩) (by rw[e,eb])⟩
def agY:=bW (α:=aq×Int) (qC (qX .cp) (q1 qI)) [.box true,.ro] (fun(x,state)=>[cH x,state=3\/state=5]) (fun(x,state)=>⟨[],[],[dX .cp (fX x state)]⟩)
def aiL:HH:=hF agY func176 [Y',Zl] a0 fun x hp hb=>by
 obtain⟨x,state⟩:=x
 have bo:cH x:=hp _ m0
 have eJ:state=3\/state=5:=hp _ m1
 clear hp hb
 apply vE (let q0:=uE x state;aN x.aj=true/\cH q0/\(q0.State=3\/q0.State=5)/\LM [] [] [DV.box (aG (gZ q0))] [DV.box (aG (fX x state))])
 dsimp only
 exact⟨bo.1,Hg bo _,eJ,rfl,rfl,rfl⟩
def ahl:=bW (α:=aq) (q1 (qX .cp)) [.box true] (fun x=>[cH x]) (fun x=>⟨[],[],[dX .cp (fX x 3)]⟩)
def Zn:HH:=hF ahl func117 [aiL] a0 fun(x:aq) hp hb=>by
 have bo:cH x:=hp _ m0
 clear hp hb
 apply vE (cH x/\((3:Int)=(3:Int)\/(3:Int)=(5:Int))/\LM [] [] [DV.box (aG (fX x 3))] [DV.box (aG (fX x 3))])
 exact⟨bo,.inl rfl,rfl,rfl,rfl⟩
def agH:=bW (α:=aq×Int) (qC (qX .cp) (q1 qI)) [.box true,.ro] (fun(x,state)=>[aN x.aj=true]) (fun(x,state)=>⟨[],[],[dX .cp (uE x state)]⟩)
def Y3:HH:=hF agH func212 [Zd] a0 fun x hp hb=>by
 obtain⟨x,state⟩:=x
 have bo:aN x.aj=true:=hp _ m0
 clear hp hb
 apply vE (cf x.aj<=4294967296/\LM [] [] [DV.box [CL .aJ x.S.ab,CI x.S.Next,CL .aB x.aA,CL .az (giveUp x.aj),CL .aE [],CL .aQ x.ax,CI state,CI x.cd]] [DV.box (aG (uE x state))])
 have:=(sY bo).2
 exact⟨by omega,rfl,rfl,rfl⟩
def Yy:=bW (α:=aq) (q1 (qX .cp)) [.box true] (fun x=>[cH x,x.State=3\/x.State=5]) (fun x=>⟨[],[],[dX .cp (gZ x)]⟩)
def zM(x:aq):List ao×Int×T5×(List bO×Int×List av×(List ao×(Nat->Bool))×List aI×List bp×Int×Int×Unit)×Unit->Prop:=fun(l,i,f,(gi,gn,gf,(gt,dd),gm,gu,gs,gw,_),_)=>f=((bt x.ax).Kind,(bt x.ax).ag,())/\(gi,gn,gf,gt,gm,gu,gs,gw)=(x.S.ab,x.S.Next,x.aA,x.aj,x.ap,x.ax,x.State,x.cd)/\¬x.ax=[]/\0<=i/\i<=x.aj.length/\l=u9 (x.aj.take i.toNat) (bt x.ax)/\∀k,i.toNat<=k->dd k=false
def tW(x:aq):List ao×Int×T5×(List bO×Int×List av×(List ao×(Nat->Bool))×List aI×List bp×Int×Int×Unit)×Unit->Nat:=fun(l,i,f,(gi,gn,gf,(gt,dd),gm,gu,gs,gw,_),_)=>x.aj.length-i.toNat
def aj_:AX Yy:=fun x=>bS [(7,aT [iO 4 .az,iI 5,.box 2 (2,1024) [.lit .str,.own .bf true],.box 0 (2000000,0) [.own .aJ true,.lit (.int .i64),.own .aB true,.part .az,.own .aE true,.own .aQ true,.lit (.int .i64),.lit (.int .i64)]] (fun _=>zM x) (tW x))]
def Zc:HH:=hF Yy func163 [aik,Y3,NP,Uc] aj_ fun(x:aq) hp hb=>by
 have ey:=ld (x:=x) (hb _ m0)
 have ee:=ey.1
 have fL:=ey.2.1
 have fK:=ey.2.2.1
 have e6:=ey.2.2.2.1
 have fJ:=ey.2.2.2.2
 have bo:cH x:=hp _ m0
 have eJ:x.State=3\/x.State=5:=hp _ m1
 clear hp hb
 apply vE (bN x.ax<=4294967296/\bif !decide ¬x.ax=[] then bif x.State==3 then aN x.aj=true/\LM [] [] [DV.box (aG (uE x 4))] [DV.box (aG (gZ x))] else aN x.aj=true/\LM [] [] [DV.box (aG (uE x 6))] [DV.box (aG (gZ x))] else zM x ([],0,((bt x.ax).Kind,(bt x.ax).ag,()),(x.S.ab,x.S.Next,x.aA,(x.aj,fun(x:Nat)=>false),x.ap,x.ax,x.State,x.cd,()),())/\∀(y:List ao×Int×UJ×(List bO×Int×List av×(List ao×(Nat->Bool))×List aI×List bp×Int×Int×PUnit)×PUnit),let x0:={Kind:=y.2.2.1.1,ag:={τ:=Cd.bf,xs:=y.2.2.1.2.1:iE UU}.xs:aL};let x3:=y.2.1.toNat;let x5:=y.2.2.2.1.2.2.2.1.1.length;let x6:=wrap i64 (y.2.1+1);let x2:=y.2.2.2.1.2.2.2.1.1.getD x3 aC;let x4:=(↑x5:Int);let x1:=[x2];let q0:=(y.1,x6,(y.2.2.1.1,y.2.2.1.2.1,()),(y.2.2.2.1.1,y.2.2.2.1.2.1,y.2.2.2.1.2.2.1,(y.2.2.2.1.2.2.2.1.1,y.2.2.2.1.2.2.2.1.2),y.2.2.2.1.2.2.2.2.1,y.2.2.2.1.2.2.2.2.2.1,y.2.2.2.1.2.2.2.2.2.2.1,y.2.2.2.1.2.2.2.2.2.2.2.1,()),());zM x y->bif decide (y.2.1<x4) then 0<=y.2.1/\x3<x5/\x3<x5/\y.2.2.2.1.2.2.2.1.2 x3=false/\y.2.2.2.1.2.2.2.1.2 x3=false/\x3<x5/\bif !decide (x2.F={Kind:=y.2.2.1.1,ag:=y.2.2.1.2.1:aL}) then 0<=y.2.1/\x3<x5/\x3<x5/\y.2.2.2.1.2.2.2.1.2 x3=false/\L4 (y.1.length+x1.length)/\zM x (y.1++x1,x6,(y.2.2.1.1,y.2.2.1.2.1,()),(y.2.2.2.1.1,y.2.2.2.1.2.1,y.2.2.2.1.2.2.1,(y.2.2.2.1.2.2.2.1.1,fun(j:Nat)=>Nat.beq j x3||y.2.2.2.1.2.2.2.1.2 j),y.2.2.2.1.2.2.2.2.1,y.2.2.2.1.2.2.2.2.2.1,y.2.2.2.1.2.2.2.2.2.2.1,y.2.2.2.1.2.2.2.2.2.2.2.1,()),())/\tW x (y.1++x1,x6,(y.2.2.1.1,y.2.2.1.2.1,()),(y.2.2.2.1.1,y.2.2.2.1.2.1,y.2.2.2.1.2.2.1,(y.2.2.2.1.2.2.2.1.1,fun(j:Nat)=>Nat.beq j x3||y.2.2.2.1.2.2.2.1.2 j),y.2.2.2.1.2.2.2.2.1,y.2.2.2.1.2.2.2.2.2.1,y.2.2.2.1.2.2.2.2.2.2.1,y.2.2.2.1.2.2.2.2.2.2.2.1,()),())<tW x y else zM x q0/\tW x q0<tW x y else bif decide ((y.1.length:Int)≥30) then L4 y.2.2.1.2.1.length/\LM [] [] [DV.box [CL .aJ y.2.2.2.1.1,CI y.2.2.2.1.2.1,CL .aB y.2.2.2.1.2.2.1,CL .az (fH {τ:=Cd.az,xs:=[]:iE UU}.xs x0 {data:= #[]:BA} y.2.2.2.1.2.2.2.2.2.2.2.1).1,CL .aE y.2.2.2.1.2.2.2.2.1,CL .aQ y.2.2.2.1.2.2.2.2.2.1,CI y.2.2.2.1.2.2.2.2.2.2.1,CI y.2.2.2.1.2.2.2.2.2.2.2.1]] [DV.box (aG (gZ x))] else L4 y.2.2.1.2.1.length/\LM [] [] [DV.box [CL .aJ y.2.2.2.1.1,CI y.2.2.2.1.2.1,CL .aB y.2.2.2.1.2.2.1,CL .az (fH {τ:=Cd.az,xs:=y.1:iE UU}.xs x0 {data:= #[]:BA} y.2.2.2.1.2.2.2.2.2.2.2.1).1,CL .aE y.2.2.2.1.2.2.2.2.1,CL .aQ y.2.2.2.1.2.2.2.2.2.1,CI y.2.2.2.1.2.2.2.2.2.2.1,CI y.2.2.2.1.2.2.2.2.2.2.2.1]] [DV.box (aG (gZ x))])
 dsimp only
 have UD:=bo
 obtain⟨q1,q2,q3,q4⟩:=bo
 have k3:=(xb q2).2.2
 have k4:=(sY q1).1
 refine⟨by omega,bx (fun h=> ?_) (fun h=> ?_)⟩
 ·have hu:x.ax=[]:=by simpa using h
  refine bg (fun g=>⟨q1,by trivial,by trivial,mE ?_⟩) (fun g=>⟨q1,by trivial,by trivial,mE ?_⟩)
  ·rw[gZ,if_pos hu,if_neg (by omega)]
  ·rw[gZ,if_pos hu,if_pos (by omega)]
 have hu:¬x.ax=[]:=by simpa using h
 have hf:=(qi (qZ q2 hu)).1
 have eb:gZ x=⟨x.S,x.aA,uX x,x.ap,x.ax,x.State,x.cd⟩:=if_neg hu
 refine⟨⟨rfl,rfl,hu,by omega,by omega,rfl,fun _ _=>rfl⟩,?_⟩
 rintro⟨l,i,⟨f1,f2,⟨⟩⟩,⟨gi,gn,gf,⟨gt,dd⟩,gm,gu,gs,gw,⟨⟩⟩,⟨⟩⟩ ⟨hF,hG,-,h1,h2,hl,hd⟩
 cases hF
 cases hG
 subst hl
 simp only
 refine aR ?_ ?_<;>intro hc
 ·have hn:i.toNat<x.aj.length:=by omega
  have ei:(i+1).toNat=i.toNat+1:=by omega
  have rh:=mK (fun t:ao=> !decide (t.F=bt x.ax)) aC hn
  have hlen:(u9 (x.aj.take i.toNat) (bt x.ax)).length<=i.toNat:=uN (Mw _ _) (by simp;omega)
  rw[wi (n:=i+1)]
  refine⟨h1,hn,hn,hd _ (uh _),hd _ (uh _),hn,bx (fun g=> ?_) (fun g=> ?_)⟩
  ·refine⟨h1,hn,hn,hd _ (uh _),by simp only[fP,fz];omega,⟨rfl,rfl,hu,by omega,by omega,?_,fun k hk=> ?_⟩,by simp only[tW];omega⟩
   ·rw[ei];refine Eq.trans ?_ rh.symm
    rw[if_pos (by rw[show decide ((x.aj.getD i.toNat aC).F=bt x.ax)=false from g];rfl)];rfl
   ·show(Nat.beq k i.toNat||dd k)=false
    rw[hd k (by omega),QJ,<-wI,HQ];omega
  ·refine⟨⟨rfl,rfl,hu,by omega,by omega,?_,fun k hk=>hd k (by omega)⟩,by simp only[tW];omega⟩
   rw[ei];refine Eq.trans ?_ rh.symm
   rw[if_neg (by rw[show decide ((x.aj.getD i.toNat aC).F=bt x.ax)=true from g];decide),uJ];rfl
 ·rw[cA x.aj (by omega)]
  refine aR (fun g=>⟨by omega,by trivial,by trivial,?_⟩) (fun g=>⟨by omega,by trivial,by trivial,?_⟩)
  ·refine mE (a:=⟨x.S,x.aA,(fH [] (bt x.ax) ai x.cd).1,x.ap,x.ax,x.State,x.cd⟩) ?_
   rw[eb,uX,show yR x.aj (bt x.ax)=[] from if_pos (by omega)]
  ·refine mE (a:=⟨x.S,x.aA,(fH (u9 x.aj (bt x.ax)) (bt x.ax) ai x.cd).1,x.ap,x.ax,x.State,x.cd⟩) ?_
   rw[eb,uX,show yR x.aj (bt x.ax)=u9 x.aj (bt x.ax) from if_neg (by omega)]
def ahu:=bW (α:=aq×Int) (qC (qX .cp) (q1 qI)) [.box true,.ro] (fun(x,state)=>[cH x,state=3\/state=5]) (fun(x,state)=>⟨[],[],[dX .cp (fX x state)]⟩)
def Mu:HH:=hF ahu func103 [Zd,Zc] a0 fun x hp hb=>by
 obtain⟨x,state⟩:=x
 have bo:cH x:=hp _ m0
 have eJ:state=3\/state=5:=hp _ m1
 clear hp hb
 apply vE (let x1:={S:=x.S,aA:=x.aA,aj:=giveUp x.aj,ap:=[],ax:=x.ax,State:=state,cd:=x.cd:aq};let x0:=gZ x1;L4 (cf x.aj)/\cH x1/\(state=3\/state=5)/\LM [] [] [DV.box (aG x0)] [DV.box (aG (fX x state))])
 dsimp only
 have:=(sY bo.1).2
 exact⟨by omega,Hg bo state,eJ,rfl,rfl,rfl⟩
def rcs(l:List Value):List (AC UU):=l.map fun v=> .c (.lit v)
theorem akA{a b:Int}(h:a=b):fG [DV.one (Cell.lit (Value.int .i64 a))]=fG [DV.one (Cell.lit (Value.int .i64 b))]:=by rw[h]
def bM(s:aD)(f:aL):aD×Int:=if¬kg s.ab f=0 then(s,kg s.ab f) else if 40<=s.ab.length\/s.Next=1000000 then(s,0) else(⟨s.ab++[⟨s.Next,f⟩],s.Next+1⟩,s.Next)
theorem kI{s:aD}(h:bq s=true):1<=s.Next/\s.Next<=1000000/\s.ab.length<=40/\(∀x∈s.ab,bE x.F=true/\1<=x.Id):=by
 simp only[bq,cN,decide_eq_true_eq] at h
 refine⟨h.1.1.1,h.1.1.2,h.1.2,zq (z:=aZ) h.2 fun i hi=> ?_⟩
 simp only[pe,jU,cN,decide_eq_true_eq] at hi
 exact⟨hi.1.1.1.1,hi.1.1.1.2⟩
theorem VY{s:aD}(h:bq s=true)(f:aL):0<=kg s.ab f:=by
 unfold kg;split
 ·omega
 ·rename_i hn
  rcases ik s.ab.length (fun k=>decide ((s.ab.getD k aZ).F=f)) with⟨h1,_⟩|⟨i,h2,h1,_,_⟩
  ·exact absurd h1 hn
  ·have e:Gv s.ab f=(i:Int):=h1
   rw[e,Zx,eV,fE h2]
   have:=((kI h).2.2.2 _ (D5 h2)).2
   show 0<=(s.ab[i]).Id
   omega
theorem BJ{s:aD}(h:bq s=true){f:aL}(h0:(bM s f).2=0):(bM s f).1=s:=by
 unfold bM at h0⊢
 split
 ·rfl
 ·rename_i h1
  rw[if_neg h1] at h0
  split
  ·rfl
  ·rename_i h2
   rw[if_neg h2] at h0
   have:=(kI h).1
   simp only at h0;omega
def qT(x:aq)(s:aD):aq:=⟨s,x.aA,x.aj,x.ap,x.ax,x.State,x.cd⟩
def cJ(x:aq)(f:aL):aq:=if(bM x.S f).2=0 then fX x 3 else qT x (bM x.S f).1
def Yu:=bW (α:=aD×aL) (qC (qA .cQ) (q1 (qA .db))) [.ro,.ro] (fun _=>[]) (fun(s,f)=>⟨[dI (kg s.ab f)],[],[]⟩)
def DJ(s:aD)(f:aL):Int×T3×T5×Unit->Prop:=fun(i,b,g,_)=>b=(s.ab,s.Next,())/\g=(f.Kind,f.ag,())/\0<=i/\i<=s.ab.length/\∀j:Nat,(j:Int)<i->decide ((s.ab.getD j aZ).F=f)=false
def CX(s:aD)(f:aL):Int×T3×T5×Unit->Nat:=fun(i,b,g,_)=>s.ab.length-i.toNat
def aj6:AX Yu:=fun(s,f)=>bS [(2,aT [iI 10,.box 2 (2,1024) [.shr .aJ,.lit (.int .i64)],.box 3 (3,1024) [.lit .str,.shr .bf]] (fun _=>DJ s f) (CX s f))]
def aiM:HH:=hF Yu func175 [TX] aj6 fun x hp hb=>by
 obtain⟨s,f⟩:=x
 have i_:=la (x:=s) (hb _ m0)
 have hH:=qq (x:=f) (hb _ m1)
 have pP:=hH.1
 have mQ:=hH.2
 clear hp hb
 apply vE (DJ s f (0,(s.ab,s.Next,()),(f.Kind,f.ag,()),())/\∀(y:Int×NR×UJ×PUnit),let q0:=(wrap i64 (y.1+1),(y.2.1.1,y.2.1.2.1,()),(y.2.2.1.1,y.2.2.1.2.1,()),());DJ s f y->bif decide (y.1<(s.ab.length:Int)) then 0<=y.1/\y.1.toNat<s.ab.length/\bif decide ((s.ab.getD y.1.toNat aZ).F={Kind:=y.2.2.1.1,ag:=y.2.2.1.2.1:aL}) then Li ((s.ab.getD y.1.toNat aZ).Id) (kg s.ab f) else DJ s f q0/\CX s f q0<CX s f y else Li 0 (kg s.ab f))
 dsimp only
 refine⟨⟨rfl,rfl,by omega,by omega,by intro j hj;omega⟩,?_⟩
 rintro⟨i,⟨b1,b2,⟨⟩⟩,⟨g1,g2,⟨⟩⟩,⟨⟩⟩ ⟨sq,hg,h1,h2,hR⟩
 cases sq
 cases hg
 simp only
 refine aR ?_ ?_<;>intro hc
 ·rw[wi]
  refine⟨by omega,by omega,aR (fun h=>nz ?_) (fun h=>⟨⟨rfl,rfl,by omega,by omega,jk (p:=fun j=>decide ((s.ab.getD j aZ).F=f)) h1 hR (decide_eq_false h)⟩,by simp only[CX];omega⟩)⟩
  have e:Gv s.ab f=(i.toNat:Int):=gx (i:=i.toNat) (by omega) (decide_eq_true h) (fun j hj=>hR j (by omega))
  rw[kg,e,if_neg (by omega),Zx]
 ·refine nz ?_
  have e:Gv s.ab f= -1:=jx (fun j hj=>hR j (by omega))
  rw[kg,if_pos e]
def TU:=VP 6 0 (α:=aD×aL) (qC (qX .cQ) (q1 (qA .db))) [.box true,.ro] (fun(s,f)=>[bq s=true,L4 f.ag.length]) (fun(s,f)=>⟨[dI ((bM s f).2),dO (decide (¬(bM s f).2=0))],[],[dX .cQ ((bM s f).1)]⟩)
def aku:AX TU:=fun(s,f)=>bS []
def afg:=us [aiM,zV]
theorem afs:Holds EE (116,TU):=by
 refine vR pD func116 TU (by kernel_rfl) rfl afg (uQ _) aku (fun x hp hb rest j0=> ?_)
 obtain⟨s,f⟩:=x
 have bo:bq s=true:=hp _ m0
 have eJ:f.ag.length<=4294967296:=hp _ m1
 clear hp hb
 have j0:rest.length=6:=j0
 match rest,j0 with
 |[r0,r1,r2,r3,r4,r5],_=>
 apply vE (let q0:=fG [DV.box [CL .aJ s.ab,CI s.Next]]=fG [DV.box [CL .aJ (bM s f).1.ab,CI ((bM s f).1.Next)]];let q1:=rcs [r0,r1,r2,r3,r4,r5];let q2:=decide ¬(bM s f).2=0;let q3:=fG [VI 0,VB false]=fG [VI ((bM s f).2),VB q2]/\q0;let q4:=bM s f;bif kg s.ab f !=0 then List.length (α:=AC UU) q1=List.length [r0,r1,r2,r3,r4,r5]/\q1=List.map (fun(v:Value)=>(AC.c (Cell.lit v):AC UU)) [r0,r1,r2,r3,r4,r5]/\fG [VI (kg s.ab f),VB true]=fG [VI (q4.2),VB q2]/\q0 else bif decide ((s.ab.length:Int)≥40) then List.length (α:=AC UU) q1=List.length [r0,r1,r2,r3,r4,r5]/\q1=List.map (fun(v:Value)=>(AC.c (Cell.lit v):AC UU)) [r0,r1,r2,r3,r4,r5]/\q3 else bif s.Next==1000000 then List.length (α:=AC UU) q1=List.length [r0,r1,r2,r3,r4,r5]/\q1=List.map (fun(v:Value)=>(AC.c (Cell.lit v):AC UU)) [r0,r1,r2,r3,r4,r5]/\q3 else L4 f.ag.length/\s.ab.length+List.length [{Id:=s.Next,F:=f:bO}]<=4294967296/\List.length (α:=AC UU) q1=List.length [r0,r1,r2,r3,r4,r5]/\q1=List.map (fun(v:Value)=>(AC.c (Cell.lit v):AC UU)) [r0,r1,r2,r3,r4,r5]/\fG [VI (wrap i64 (wrap i64 (s.Next+1)-1)),VB true]=fG [VI (q4.2),VB q2]/\fG [DV.box [CL .aJ (s.ab++[{Id:=s.Next,F:=f:bO}]),CI (wrap i64 (s.Next+1))]]=fG [DV.box [CL .aJ q4.1.ab,CI (q4.1.Next)]])
 dsimp only
 obtain⟨s1,s2,s3,s4⟩:=kI bo
 refine mI (fun h=>⟨rfl,rfl,?_⟩) (fun h=>aR (fun h2=>⟨rfl,rfl,?_⟩) (fun h2=>bg (fun h3=>⟨rfl,rfl,?_⟩) (fun h3=> ?_)))
 ·have e:bM s f=(s,kg s.ab f):=if_pos h
  rw[e,decide_eq_true h];exact⟨rfl,rfl⟩
 ·have e:bM s f=(s,0):=(if_neg (by omega)).trans (if_pos (.inl (by omega)))
  rw[e];exact⟨rfl,rfl⟩
 ·have e:bM s f=(s,0):=(if_neg (by omega)).trans (if_pos (.inr h3))
  rw[e];exact⟨rfl,rfl⟩
 ·have e:bM s f=(⟨s.ab++[⟨s.Next,f⟩],s.Next+1⟩,s.Next):=(if_neg (by omega)).trans (if_neg (by omega))
  rw[e,wi (n:=s.Next+1),wi,show s.Next+1-1=s.Next by omega,decide_eq_true (show¬(s.Next=0) by omega)]
  exact⟨eJ,by simp only[fP,fz];omega,rfl,rfl,rfl,rfl⟩
def Zo:HH:=⟨_,afs⟩
def Jz:=VP 6 0 (α:=aD×aL) (qC (qX .cQ) (q1 (qA .db))) [.box true,.ro] (fun(s,f)=>[bq s=true,L4 f.ag.length]) (fun(s,f)=>⟨[dI ((bM s f).2)],[],[dX .cQ ((bM s f).1)]⟩)
def W5:AX Jz:=fun(s,f)=>bS []
def WT:=us [WX,A9]
theorem WU:Holds EE (107,Jz):=by
 refine vR pD func107 Jz (by kernel_rfl) rfl WT (uQ _) W5 (fun x hp hb rest j0=> ?_)
 obtain⟨s,f⟩:=x
 have bo:bq s=true:=hp _ m0
 have eJ:f.ag.length<=4294967296:=hp _ m1
 clear hp hb
 have j0:rest.length=6:=j0
 match rest,j0 with
 |[r0,r1,r2,r3,r4,r5],_=>
 apply vE (let q0:=fG [DV.box [CL .aJ s.ab,CI s.Next]]=fG [DV.box [CL .aJ (bM s f).1.ab,CI ((bM s f).1.Next)]];let q1:=rcs [r0,r1,r2,r3,r4,r5];let q2:=bM s f;let q3:=fG [VI 0]=fG [VI (q2.2)]/\q0;bif decide (kg s.ab f>0) then List.length (α:=AC UU) q1=List.length [r0,r1,r2,r3,r4,r5]/\q1=List.map (fun(v:Value)=>(AC.c (Cell.lit v):AC UU)) [r0,r1,r2,r3,r4,r5]/\fG [VI (kg s.ab f)]=fG [VI (q2.2)]/\q0 else bif decide ((s.ab.length:Int)≥40) then List.length (α:=AC UU) q1=List.length [r0,r1,r2,r3,r4,r5]/\q1=List.map (fun(v:Value)=>(AC.c (Cell.lit v):AC UU)) [r0,r1,r2,r3,r4,r5]/\q3 else bif decide (s.Next≥1000000) then List.length (α:=AC UU) q1=List.length [r0,r1,r2,r3,r4,r5]/\q1=List.map (fun(v:Value)=>(AC.c (Cell.lit v):AC UU)) [r0,r1,r2,r3,r4,r5]/\q3 else L4 f.ag.length/\s.ab.length+List.length [{Id:=s.Next,F:=f:bO}]<=4294967296/\List.length (α:=AC UU) q1=List.length [r0,r1,r2,r3,r4,r5]/\q1=List.map (fun(v:Value)=>(AC.c (Cell.lit v):AC UU)) [r0,r1,r2,r3,r4,r5]/\fG [VI (wrap i64 (wrap i64 (s.Next+1)-1))]=fG [VI (q2.2)]/\fG [DV.box [CL .aJ (s.ab++[{Id:=s.Next,F:=f:bO}]),CI (wrap i64 (s.Next+1))]]=fG [DV.box [CL .aJ q2.1.ab,CI (q2.1.Next)]])
 dsimp only
 obtain⟨s1,s2,s3,s4⟩:=kI bo
 have h0:=VY bo f
 refine aR (fun h=>⟨rfl,rfl,?_⟩) (fun h=>aR (fun h2=>⟨rfl,rfl,?_⟩) (fun h2=>aR (fun h3=>⟨rfl,rfl,?_⟩) (fun h3=> ?_)))
 ·have e:bM s f=(s,kg s.ab f):=if_pos (by omega)
  rw[e];exact⟨rfl,rfl⟩
 ·have e:bM s f=(s,0):=(if_neg (by omega)).trans (if_pos (.inl (by omega)))
  rw[e];exact⟨rfl,rfl⟩
 ·have e:bM s f=(s,0):=(if_neg (by omega)).trans (if_pos (.inr (by omega)))
  rw[e];exact⟨rfl,rfl⟩
 ·have e:bM s f=(⟨s.ab++[⟨s.Next,f⟩],s.Next+1⟩,s.Next):=(if_neg (by omega)).trans (if_neg (by omega))
  rw[e,wi (n:=s.Next+1),wi,show s.Next+1-1=s.Next by omega]
  exact⟨eJ,by simp only[fP,fz];omega,rfl,rfl,rfl,rfl⟩
def W1:HH:=⟨_,WU⟩
def aoD:=bW (α:=aq×aL) (qC (qX .cp) (q1 (qA .db))) [.box true,.ro] (fun(x,f)=>[cH x,bq x.S=true,L4 f.ag.length]) (fun(x,f)=>⟨[],[],[dX .cp (cJ x f)]⟩)
def aph:HH:=hF aoD func56 [Zo,Zn] a0 fun x hp hb=>by
 obtain⟨x,f⟩:=x
 have bo:cH x:=hp _ m0
 have eJ:bq x.S=true:=hp _ m1
 have G':f.ag.length<=4294967296:=hp _ m2
 clear hp hb
 apply vE (let x1:={S:=(bM {ab:={τ:=Cd.aJ,xs:=x.S.ab:iE UU}.xs,Next:=x.S.Next:aD} {Kind:=f.Kind,ag:=f.ag:aL}).1,aA:=x.aA,aj:=x.aj,ap:=x.ap,ax:=x.ax,State:=x.State,cd:=x.cd:aq};let x0:=fX x1 3;let q0:=bM {ab:={τ:=Cd.aJ,xs:=x.S.ab:iE UU}.xs,Next:=x.S.Next:aD} {Kind:=f.Kind,ag:=f.ag:aL};bq x.S=true/\L4 f.ag.length/\bif !decide ¬q0.2=0 then cH x1/\LM [] [] [DV.box (aG x0)] [DV.box (aG (cJ x f))] else LM [] [] [DV.box [CL .aJ q0.1.ab,CI (q0.1.Next),CL .aB x.aA,CL .az x.aj,CL .aE x.ap,CL .aQ x.ax,CI x.State,CI x.cd]] [DV.box (aG (cJ x f))])
 dsimp only
 have hS:(⟨x.S.ab,x.S.Next⟩:aD)=x.S:=rfl
 have hF:(⟨f.Kind,f.ag⟩:aL)=f:=rfl
 simp only[hS,hF]
 refine⟨eJ,G',bx (fun h=> ?_) (fun h=> ?_)⟩
 ·have h:(bM x.S f).2=0:=by simpa using h
  have hz:=BJ eJ h
  have e:cJ x f=fX x 3:=if_pos h
  rw[e,hz]
  exact⟨bo,by trivial,by trivial,rfl⟩
 ·have h:¬(bM x.S f).2=0:=by simpa using h
  have e:cJ x f=qT x (bM x.S f).1:=if_neg h
  rw[e]
  exact⟨by trivial,by trivial,rfl⟩
def aoz:=bW (α:=aq×aL) (qC (qX .cp) (q1 (qA .db))) [.box true,.ro] (fun(x,f)=>[cH x,bq x.S=true,L4 f.ag.length]) (fun(x,f)=>⟨[],[],[dX .cp (cJ x f)]⟩)
def TW:HH:=hF aoz func67 [W1,Mu] a0 fun x hp hb=>by
 obtain⟨x,f⟩:=x
 have bo:cH x:=hp _ m0
 have eJ:bq x.S=true:=hp _ m1
 have G':f.ag.length<=4294967296:=hp _ m2
 clear hp hb
 apply vE (let x1:={S:=(bM {ab:={τ:=Cd.aJ,xs:=x.S.ab:iE UU}.xs,Next:=x.S.Next:aD} {Kind:=f.Kind,ag:=f.ag:aL}).1,aA:=x.aA,aj:=x.aj,ap:=x.ap,ax:=x.ax,State:=x.State,cd:=x.cd:aq};let x0:=fX x1 3;let q0:=bM {ab:={τ:=Cd.aJ,xs:=x.S.ab:iE UU}.xs,Next:=x.S.Next:aD} {Kind:=f.Kind,ag:=f.ag:aL};bq x.S=true/\L4 f.ag.length/\bif q0.2==0 then cH x1/\((3:Int)=(3:Int)\/(3:Int)=(5:Int))/\LM [] [] [DV.box (aG x0)] [DV.box (aG (cJ x f))] else LM [] [] [DV.box [CL .aJ q0.1.ab,CI (q0.1.Next),CL .aB x.aA,CL .az x.aj,CL .aE x.ap,CL .aQ x.ax,CI x.State,CI x.cd]] [DV.box (aG (cJ x f))])
 dsimp only
 have hS:(⟨x.S.ab,x.S.Next⟩:aD)=x.S:=rfl
 have hF:(⟨f.Kind,f.ag⟩:aL)=f:=rfl
 simp only[hS,hF]
 refine⟨eJ,G',bg (fun h=> ?_) (fun h=> ?_)⟩
 ·have hz:=BJ eJ h
  have e:cJ x f=fX x 3:=if_pos h
  rw[e,hz]
  exact⟨bo,.inl trivial,by trivial,by trivial,rfl⟩
 ·have e:cJ x f=qT x (bM x.S f).1:=if_neg h
  rw[e]
  exact⟨by trivial,by trivial,rfl⟩
open Go.RowKit
def si(n:Int):BA:=⟨(Go.Lib.itoa n).toArray⟩
def E4(l:List BA)(sep:BA):BA:=⟨(Go.Lib.join (l.map (fun s=>s.data.toList)) sep.data.toList).toArray⟩
theorem Qj{w:World}{k:Nat}{os:Array Obj}:ic (fun _=>False) w (Go.Sort.grow (w.drewN k) os):=by
 refine⟨rfl,rfl,rfl,?_,fun i hi _=> ?_⟩
 ·show w.heap.size<=(w.heap++os).size
  simp
 ·show(w.heap++os)[i]? =_
  rw[Array.getElem?_append_left hi]
def agq:ka UU where
 α:=Int
 md:=[.ro]
 of:=o1 oI
 ds:=fun x=>[dI x]
 pre:=fun _=>[]
 oe:=fun n=>⟨[dS (si n)],[],[]⟩
 law:=l1 lI
theorem afk:Holds EE (236,agq):=by
 refine⟨⟨_,func236,by kernel_rfl,by kernel_rfl⟩,?_⟩
 refine GR rfl fun(n:Int) _ w F vs ls hF BY oi=> ?_
 obtain⟨v,rfl,hv⟩:=Z9 oi
 obtain⟨_,rfl,hl⟩:=hv.kt
 have hb: -9223372036854775808<=n/\n<=9223372036854775807:=hl.2
 refine⟨_,rfl,rfl,rfl,⟨rfl,?_⟩,(strconv_Itoa n hb.1 hb.2 w (Z1 BY)).mono ?_⟩
 ·have:=Go.Lib.itoa_length_le n hb.1 hb.2
  show(ByteArray.mk _).size<=_
  simp only[si,ByteArray.size,UN]
  omega
 ·rintro e w' ⟨rfl,k,os,rfl⟩
  exact⟨rfl,Qj⟩
def ah3:HH:=⟨_,afk⟩
def agE:ka UU where
 α:=(List BA)×BA
 md:=[.ro,.ro]
 of:=oC (oL .str) (o1 oS)
 ds:=fun x=>[dL .str x.1,dS x.2]
 pre:=fun(l,sep)=>[(E4 l sep).size<=140737488355328,l.length<=140737488355328]
 oe:=fun(l,sep)=>⟨[dS (E4 l sep)],[],[]⟩
 law:=lC (lL .str) (l1 lS)
theorem afl:Holds EE (215,agE):=by
 refine⟨⟨_,func215,by kernel_rfl,by kernel_rfl⟩,?_⟩
 refine GR rfl fun(x:List BA×BA) hp w F vs ls hF BY oi=> ?_
 obtain⟨l,sep⟩:=x
 have bo:(E4 l sep).size<=140737488355328:=hp _ iH
 have eJ:l.length<=140737488355328:=hp _ (fF _ iH)
 obtain⟨u,v,rfl,hu,hv⟩:=Z8 oi
 obtain⟨_,rfl,hl⟩:=hv.kt
 refine⟨_,rfl,rfl,rfl,⟨rfl,by omega⟩,?_⟩
 rcases hu.inv with⟨h0,a,c,rfl⟩|⟨b,off,cap,vs,rfl,hb,hc,px,hr⟩
 ·subst h0
  refine(strings_Join_none a c sep w).mono ?_
  rintro e w' ⟨rfl,rfl⟩
  exact⟨rfl,ic.refl _ _⟩
 ·refine(strings_Join b off cap l sep w (fun j x hj=> ?_) (hF b hb) eJ hc (by simpa[E4,ByteArray.size] using bo)).mono ?_
  ·have h1:=hr j x 0 (.lit (.string x)) hj rfl
   have uA:j<l.length:=by
    rcases pt j l.length with h|h
    ·exact h
    ·rw[ot h] at hj;cases hj
   have h2:=px j (by show j<l.length*1;omega)
   have e:j*UU.wd .str+0=j:=by show j*1+0=j;omega
   rw[e] at h1
   rw[h2,(h1.kt).2.1]
  ·rintro e w' ⟨rfl,hbe⟩
   exact⟨rfl,ic.below hbe⟩
def aii:HH:=⟨_,afl⟩
def uy(l:List UInt8):BA:=⟨l.toArray⟩
theorem kT(a b:List UInt8):uy a++uy b=uy (a++b):=by
 apply ByteArray.ext
 simp[uy]
theorem Ng(s:BA):uy (bs s)=s:=by
 apply ByteArray.ext
 simp[uy,bs]
theorem abZ(l:List UInt8):bs (uy l)=l:=by simp[uy,bs]
theorem fZ(l:List UInt8):(uy l).size=l.length:=by simp[uy,ByteArray.size]
theorem OR(s:BA)(l:List UInt8):s++uy l=uy (bs s++l):=by rw[<-kT,Ng]
def o_(v:a_):List UInt8:=if v.K=1 then Go.Lib.itoa v.N else 39::(bs v.S++[39])
def xY(l:List a_):List UInt8:=40::(Go.Lib.join (l.map o_) [44]++[41])
def mg(v:a_):BA:=if bR v=true then uy (o_ v) else ai
def bi(f:aL):BA:=if bE f=true then uy (bs f.Kind++xY f.ag) else ai
theorem Sf(l:List BA)(s:BA):E4 l s=uy (Go.Lib.join (l.map bs) (bs s)):=rfl
theorem p9(n:Int):si n=uy (Go.Lib.itoa n):=rfl
theorem G7(l:List (List UInt8))(x sep:List UInt8):Go.Lib.join (l++[x]) sep=if l=[] then x else Go.Lib.join l sep++(sep++x):=by
 cases l with
 |nil=>simp[Go.Lib.join_one]
 |cons y r=>
  rw[zex,Go.Lib.join_cons,Go.Lib.join_cons,if_neg (by simp)]
  simp[Go.Lib.joinTail]
theorem uP{v:a_}(h:bR v=true):(v.K=1/\-1000000000<=v.N/\v.N<=1000000000)\/(v.K=2/\v.S.size<=20):=by
 simp only[bR] at h
 by_cases h1:v.K=1
 ·simp[h1] at h;exact .inl ⟨h1,h.1.1,h.1.2⟩
 ·by_cases h2:v.K=2
  ·simp[h2] at h;exact .inr ⟨h2,h.1.2⟩
  ·simp[h1,h2] at h
theorem Ee{v:a_}(h:bR v=true):(o_ v).length<=22:=by
 rcases uP h with⟨h1,h2,h3⟩|⟨h1,h2⟩
 ·have:=Go.Lib.itoa_length_le v.N (by omega) (by omega)
  simp only[o_,if_pos h1];omega
 ·simp only[o_,if_neg (show¬v.K=1 by omega),fP,kF,pj,fz];omega
theorem yG:∀(l:List a_),l.all bR=true->(Go.Lib.join (l.map o_) [44]).length<=23*l.length
 |[],_=>by simp[Go.Lib.join_nil]
 |x::r,h=>by
  rw[wH,Go.Lib.join_cons]
  simp only[QV,cN] at h
  have h1:=Ee h.1
  have h2:∀r:List a_,r.all bR=true->(Go.Lib.joinTail [44] (r.map o_)).length<=23*r.length:=by
   intro r
   induction r with
   |nil=>intro _;simp[Go.Lib.joinTail]
   |cons y r ih=>
    intro h
    simp only[QV,cN] at h
    have h3:=Ee h.1
    have h4:=ih h.2
    simp only[Go.Lib.joinTail,wH,MJ,kF,fP,fz] at h4⊢
    omega
  have h3:=h2 r h.2
  simp only[kF,fP]
  omega
theorem jc{f:aL}(h:bE f=true):f.ag.length<=5/\f.ag.all bR=true/\bu f.Kind=true/\f.Kind.size<=12:=by
 simp only[bE,cN,decide_eq_true_eq] at h
 have h2:=h.1.1
 simp only[bu,cN,decide_eq_true_eq] at h2
 exact⟨h.1.2,h.2,h.1.1,h2.1.1.2⟩
theorem TG{α:Type}{p:α->Bool}{l:List α}(h:l.all p=true)(z:α){i:Int}(h0:0<=i)(hi:i<l.length):p (l.getD i.toNat z)=true:=
 sP.1 h _ (yP l z h0 hi)
theorem TF{α:Type}{p:α->Bool}{l:List α}(h:l.all p=true)(n:Nat):(l.take n).all p=true:=by
 rw[sP] at h⊢
 exact fun x hx=>h x (List.mem_of_mem_take hx)
theorem Tj{n:Int}(h:10<=n):Go.Lib.itoa n=Go.Lib.itoa (n/10)++[UInt8.ofNat (48+n.toNat%10)]:=by
 simp only[Go.Lib.itoa]
 rw[if_neg (by omega),if_neg (by omega)]
 have e:(n/10).toNat=n.toNat/10:=by omega
 rw[e,Go.Lib.decDigits,dif_neg (by omega)]
theorem WC{n:Int}(h0:0<=n)(h:n<10):Go.Lib.itoa n=[UInt8.ofNat (48+n.toNat)]:=by
 simp only[Go.Lib.itoa]
 rw[if_neg (by omega),Go.Lib.decDigits_one (by omega)]
theorem WD{n:Int}(h:n<0):Go.Lib.itoa n=45::Go.Lib.itoa (-n):=by
 simp only[Go.Lib.itoa]
 rw[if_pos h,if_neg (by omega)]
 have e:(-n).toNat=n.natAbs:=by omega
 rw[e]
theorem Tm{n:Int}(h0:0<=n)(h:n<=255):strOfNums (List.map (fun(x:Int)=>x) [n])=uy [UInt8.ofNat n.toNat]:=by
 simp[strOfNums,uy]
theorem wrap_u8'{n:Int}(h:0<=n)(h':n<=255):IntKind.wrap .u8 n=n:=by
 simp only[IntKind.wrap]
 simp[IntKind.bits,IntKind.signed]
 omega
def aU(l:List ao)(key:BA):Int:=jO l.length fun k=>decide (bi (l.getD k aC).F=key)
def Ml:=bW (α:=Int) (q1 qI) [.ro] (fun n=>[-1000000000<=n/\n<=1000000000]) (fun n=>⟨[dS (si n)],[],[]⟩)
def ajA:AX Ml:=fun n=>bS []
def zu:Int->Nat:=fun n=>if n<0 then n.natAbs+1 else n.natAbs
def afd(rn:Nat):List (FuncId×ka UU):=[(252,Ml.below zu rn)]
theorem afi:Holds EE (252,Ml):=by
 refine Ha (k:=Ml) func252 (by kernel_rfl) zu (fun rn ih=> ?_)
 refine holds_of pD func252 (Ml.below zu (rn+1)) (by kernel_rfl) (afd rn) (all_cons ih all_nil) ajA (fun(n:Int) hp hb=> ?_)
 have Sq:zu n<rn+1:=hp _ m0
 have anL:=zk (n:=n) (hb _ m0)
 have bo: -1000000000<=n/\n<=1000000000:=hp _ m1
 clear hp hb
 apply vE (let x0:=wrap i64 (0-n);let x1:=strOfNums (List.map (fun(x:Cd.T Cd.byte)=>x) [IntKind.wrap IntKind.u8 (wrap i64 (48+Int.tmod n 10))]);let x2:=wrap i64 (Int.tdiv n 10);bif decide (n<0) then zu x0<rn/\((-1000000000)<=x0/\x0<=1000000000)/\ByteArray.size {data:= #[45]:BA}+(si x0).size<=4611686018427387904/\Lf [VS ({data:= #[45]:BA}++si x0)] [VS (si n)] else bif decide (n<10) then Lf [VS (strOfNums (List.map (fun(x:Cd.T Cd.byte)=>x) [IntKind.wrap IntKind.u8 (wrap i64 (48+n))]))] [VS (si n)] else(10:Int)≠(0:Int)/\zu x2<rn/\((-1000000000)<=x2/\x2<=1000000000)/\(10:Int)≠(0:Int)/\(si x2).size+x1.size<=4611686018427387904/\Lf [VS (si x2++x1)] [VS (si n)])
 dsimp only
 simp only[zu] at Sq
 refine ae (fun h=> ?_) (fun h=>ae (fun h'=>Bc ?_) (fun h'=> ?_))
 ·have h:=yT h
  rw[if_pos h] at Sq
  rw[wi]
  have e:(0:Int)-n= -n:=by omega
  rw[e]
  have hl:=Go.Lib.itoa_length_le (-n) (by omega) (by omega)
  refine⟨?_,⟨by omega,by omega⟩,?_,Bc ?_⟩
  ·simp only[zu];rw[if_neg (by omega)];omega
  ·rw[p9,fZ];show 1+_<=_;omega
  ·rw[p9,p9,WD h];exact kT [45] _
 ·have h:=yF h
  have h':=yT h'
  rw[wi,wrap_u8' (by omega) (by omega),p9,WC (by omega) h']
  refine(Tm (n:=48+n) (by omega) (by omega)).trans ?_
  have e:(48+n).toNat=48+n.toNat:=by omega
  rw[e]
 ·have h:=yF h
  have h':=yF h'
  rw[if_neg h] at Sq
  have t1:Int.tdiv n 10=n/10:=Int.tdiv_eq_ediv_of_nonneg (by omega)
  have t2:Int.tmod n 10=n%10:=zbp (by omega)
  rw[t1,t2,wi,wi,wrap_u8' (by omega) (by omega)]
  have hl:=Go.Lib.itoa_length_le (n/10) (by omega) (by omega)
  have hc:strOfNums (List.map (fun(x:Cd.T Cd.byte)=>x) [(48:Int)+n%10])=uy [UInt8.ofNat (48+n%10).toNat]:=Tm (n:=48+n%10) (by omega) (by omega)
  rw[hc]
  refine⟨by omega,?_,⟨by omega,by omega⟩,by omega,?_,Bc ?_⟩
  ·simp only[zu];rw[if_neg (by omega)];omega
  ·rw[p9,fZ,fZ];simp only[fP,fz];omega
  ·rw[p9,p9,Tj (n:=n) (by omega),kT]
   have e:(48+n%10).toNat=48+n.toNat%10:=by omega
   rw[e]
def ahT:HH:=⟨_,afi⟩
def ago:=bW (α:=a_) (q1 (qA .bf)) [.ro] (fun v=>[bR v=true]) (fun v=>⟨[dS (uy (o_ v))],[],[]⟩)
def ah2:HH:=hF ago func240 [ahT] a0 fun(v:a_) hp hb=>by
 have bo:bR v=true:=hp _ m0
 clear hp hb
 apply vE (let x0:={data:= #[39]:BA};bif v.K==1 then((-1000000000)<=v.N/\v.N<=1000000000)/\Lf [VS (si v.N)] [VS (uy (o_ v))] else x0.size+v.S.size<=4611686018427387904/\(x0++v.S).size+x0.size<=4611686018427387904/\Lf [VS (x0++v.S++x0)] [VS (uy (o_ v))])
 dsimp only
 rcases uP bo with⟨h1,h2,h3⟩|⟨h1,h2⟩
 ·refine ae (fun h=>⟨⟨h2,h3⟩,Bc ?_⟩) (fun h=>absurd h (by simp[h1]))
  simp only[o_,if_pos h1];rfl
 ·refine ae (fun h=>absurd h (by simp[h1])) (fun h=> ?_)
  have e:({data:= #[39]:BA}++v.S)=uy (39::bs v.S):=by
   conv=>lhs;rw[<-Ng v.S]
   exact kT [39] _
  rw[e]
  refine⟨?_,?_,Bc ?_⟩
  ·show 1+_<=_;omega
  ·rw[fZ];show _+1<=_;simp only[fP,pj];omega
  ·simp only[o_,if_neg (show¬v.K=1 by omega)];exact kT (39::bs v.S) [39]
def Ya:=bW (α:=List a_) (q1 (qL .bf)) [.ro] (fun l=>[l.length<=5,l.all bR=true]) (fun l=>⟨[dS (uy (xY l))],[],[]⟩)
def zF(l:List a_):BA×Int×Unit->Prop:=fun(s,i,_)=>0<=i/\i<=l.length/\s=uy (40::Go.Lib.join ((l.take i.toNat).map o_) [44])
def tQ(l:List a_):BA×Int×Unit->Nat:=fun(s,i,_)=>l.length-i.toNat
def ajM:AX Ya:=fun l=>bS [(3,aT [.slot 3 (3,1024) (.lit .str),iI 4] (fun _=>zF l) (tQ l))]
def aif:HH:=hF Ya func217 [ah2] ajM fun(l:List a_) hp hb=>by
 have jQ:L9 l.length:=kG (hb _ m0)
 have bo:l.length<=5:=hp _ m0
 have eJ:l.all bR=true:=hp _ m1
 clear hp hb
 apply vE (zF l ({data:= #[40]:BA},0,())/\∀(y:BA×Int×PUnit),let x2:=y.2.1.toNat;let x3:=y.1++{data:= #[44]:BA};let x1:=l.getD x2 dK;let x0:=uy (o_ x1);let q0:=(y.1++x0,wrap i64 (y.2.1+1),());let q1:=(x3++x0,wrap i64 (y.2.1+1),());zF l y->bif decide (y.2.1<(l.length:Int)) then bif decide (y.2.1>0) then y.1.size+ByteArray.size {data:= #[44]:BA}<=4611686018427387904/\0<=y.2.1/\x2<l.length/\bR x1=true/\x3.size+x0.size<=4611686018427387904/\zF l q1/\tQ l q1<tQ l y else 0<=y.2.1/\x2<l.length/\bR x1=true/\y.1.size+x0.size<=4611686018427387904/\zF l q0/\tQ l q0<tQ l y else y.1.size+ByteArray.size {data:= #[41]:BA}<=4611686018427387904/\Lf [VS (y.1++{data:= #[41]:BA})] [VS (uy (xY l))])
 dsimp only
 refine⟨⟨by omega,by omega,rfl⟩,?_⟩
 rintro⟨s,i,⟨⟩⟩ ⟨h1,h2,rfl⟩
 simp only
 have hj:=yG (l.take i.toNat) (TF eJ _)
 rw[oq] at hj
 refine ae ?_ ?_<;>intro hc
 ·have hc:i<l.length:=yT hc
  have hv:=TG eJ dK h1 hc
  have Gx:=Ee hv
  rw[wi]
  have ht:(l.take (i+1).toNat).map o_=(l.take i.toNat).map o_++[o_ (l.getD i.toNat dK)]:=by rw[<-dl l dK h1 hc,Ko];rfl
  refine ae ?_ ?_<;>intro h
  ·have h:=yT h
   have e:(uy (40::Go.Lib.join ((l.take i.toNat).map o_) [44])++{data:= #[44]:BA})=uy (40::(Go.Lib.join ((l.take i.toNat).map o_) [44]++[44])):=kT _ [44]
   rw[e,kT]
   have hn:¬(l.take i.toNat).map o_=[]:=by
    intro h0
    have:=congrArg List.length h0
    rw[wP,oq,fz] at this
    omega
   refine⟨?_,h1,by omega,hv,?_,⟨by omega,by omega,?_⟩,by simp only[tQ];omega⟩
   ·rw[fZ];show _+1<=_;simp only[fP];omega
   ·rw[fZ,fZ];simp only[fP,kF,fz];omega
   ·rw[ht,G7,if_neg hn];simp
  ·have h:=yF h
   have h0:i=0:=by omega
   subst h0
   rw[kT]
   refine⟨by omega,by omega,hv,?_,⟨by omega,by omega,?_⟩,by simp only[tQ];omega⟩
   ·rw[fZ,fZ];simp only[fP];omega
   ·rw[ht,G7];simp[Go.Lib.join_nil]
 ·have hc:¬i<l.length:=yF hc
  rw[cA l (by omega)]
  refine⟨?_,Bc ?_⟩
  ·rw[fZ];show _+1<=_;simp only[fP];rw[cA l (by omega)] at hj;omega
  ·exact kT _ [41]
def agU:=bW (α:=aL) (q1 (qA .db)) [.ro] (fun _=>[]) (fun f=>⟨[dS (bi f)],[],[]⟩)
def aiE:HH:=hF agU func183 [NQ,aif] a0 fun(f:aL) hp hb=>by
 clear hp hb
 apply vE (bif !bE f then Lf [VS ({data:= #[]:BA})] [VS (bi f)] else f.ag.length<=5/\f.ag.all bR=true/\f.Kind.size+(uy (xY f.ag)).size<=4611686018427387904/\Lf [VS (f.Kind++uy (xY f.ag))] [VS (bi f)])
 refine ae (fun h=>Bc ?_) (fun h=> ?_)
 ·have h:bE f=false:=by simpa using h
  simp only[bi,h];rfl
 ·have h:bE f=true:=by simpa using h
  obtain⟨h1,h2,h3,h4⟩:=jc h
  have hj:=yG f.ag h2
  refine⟨h1,h2,?_,Bc ?_⟩
  ·rw[fZ];simp only[xY,fP,kF,fz];omega
  ·simp only[bi,h,if_true];exact OR _ _
def ahg:=bW (α:=aL) (q1 (qA .db)) [.ro] (fun _=>[]) (fun f=>⟨[dS (bi f)],[],[]⟩)
def Mt:HH:=hF ahg func124 [aiE] a0 fun(f:aL) hp hb=>by
 clear hp hb
 apply vE (Lf [VS (bi f)] [VS (bi f)])
 exact aY _
def agF:=bW (α:=a_) (q1 (qA .bf)) [.ro] (fun _=>[]) (fun v=>⟨[dS (mg v)],[],[]⟩)
def aij:HH:=hF agF func214 [O4,ah3] a0 fun(v:a_) hp hb=>by
 clear hp hb
 apply vE (let x0:={data:= #[39]:BA};bif !bR v then Lf [VS ({data:= #[]:BA})] [VS (mg v)] else bif v.K==1 then Lf [VS (si v.N)] [VS (mg v)] else x0.size+v.S.size<=4611686018427387904/\(x0++v.S).size+x0.size<=4611686018427387904/\Lf [VS (x0++v.S++x0)] [VS (mg v)])
 dsimp only
 refine ae (fun h=>Bc ?_) (fun h=> ?_)
 ·have h:bR v=false:=by simpa using h
  simp only[mg,h];rfl
 ·have h:bR v=true:=by simpa using h
  have ev:mg v=uy (o_ v):=by simp only[mg,h,if_true]
  rw[ev]
  rcases uP h with⟨h1,h2,h3⟩|⟨h1,h2⟩
  ·refine ae (fun h=>Bc ?_) (fun h=>absurd h (by simp[h1]))
   simp only[o_,if_pos h1];rfl
  ·refine ae (fun h=>absurd h (by simp[h1])) (fun h=> ?_)
   have e:({data:= #[39]:BA}++v.S)=uy (39::bs v.S):=by
    conv=>lhs;rw[<-Ng v.S]
    exact kT [39] _
   rw[e]
   refine⟨?_,?_,Bc ?_⟩
   ·show 1+_<=_;omega
   ·rw[fZ];show _+1<=_;simp only[fP,pj];omega
   ·simp only[o_,if_neg (show¬v.K=1 by omega)];exact kT (39::bs v.S) [39]
def Yt:=bW (α:=aL) (q1 (qA .db)) [.ro] (fun _=>[]) (fun f=>⟨[dS (bi f)],[],[]⟩)
def DI(f:aL):List BA×Int×T5×Unit->Prop:=fun(out,i,fb,_)=>fb=(f.Kind,f.ag,())/\bE f=true/\0<=i/\i<=f.ag.length/\out=(f.ag.take i.toNat).map mg
def CW(f:aL):List BA×Int×T5×Unit->Nat:=fun(out,i,fb,_)=>f.ag.length-i.toNat
def aj5:AX Yt:=fun f=>bS [(5,aT [iO 3 .str,iI 12,.box 1 (1,1024) [.lit .str,.shr .bf]] (fun _=>DI f) (CW f))]
def aiK:HH:=hF Yt func177 [QH,aij,aii] aj5 fun(f:aL) hp hb=>by
 clear hp hb
 apply vE (bif !bE f then Lf [VS ({data:= #[]:BA})] [VS (bi f)] else DI f ([],0,(f.Kind,f.ag,()),())/\∀(y:List BA×Int×UJ×PUnit),let x1:=y.2.2.1.1++{data:= #[40]:BA};let x3:=y.2.1.toNat;let x5:=E4 y.1 {data:= #[44]:BA};let x0:=x1++x5;let x2:=[mg (f.ag.getD x3 dK)];let x4:=x5.size;let q0:=(y.1++x2,wrap i64 (y.2.1+1),(y.2.2.1.1,y.2.2.1.2.1,()),());DI f y->bif decide (y.2.1<(f.ag.length:Int)) then 0<=y.2.1/\x3<f.ag.length/\L4 (y.1.length+x2.length)/\DI f q0/\CW f q0<CW f y else y.2.2.1.1.size+ByteArray.size {data:= #[40]:BA}<=4611686018427387904/\x4<=140737488355328/\y.1.length<=140737488355328/\x1.size+x4<=4611686018427387904/\x0.size+ByteArray.size {data:= #[41]:BA}<=4611686018427387904/\Lf [VS (x0++{data:= #[41]:BA})] [VS (bi f)])
 dsimp only
 refine ae (fun h=>Bc ?_) (fun h=> ?_)
 ·have h:bE f=false:=by simpa using h
  simp only[bi,h];rfl
 have h:bE f=true:=by simpa using h
 refine⟨⟨rfl,h,by omega,by omega,rfl⟩,?_⟩
 rintro⟨out,i,fb,⟨⟩⟩ ⟨rfl,_,h1,h2,rfl⟩
 obtain⟨g1,g2,g3,g4⟩:=jc h
 simp only
 refine ae ?_ ?_<;>intro hc
 ·have hc:i<f.ag.length:=yT hc
  rw[wi]
  refine⟨h1,by omega,by simp;omega,⟨rfl,h,by omega,by omega,?_⟩,by simp only[CW];omega⟩
  rw[<-dl f.ag dK h1 hc,Ko];rfl
 ·have hc:¬i<f.ag.length:=yF hc
  rw[cA f.ag (by omega)]
  have em:f.ag.map mg=(f.ag.map o_).map uy:=by
   rw[List.map_map]
   exact Pb fun v hv=>by
    have:=sP.1 g2 v hv
    simp only[mg,this,if_true,Function.comp]
  have ej:E4 (f.ag.map mg) {data:= #[44]:BA}=uy (Go.Lib.join (f.ag.map o_) [44]):=by
   rw[em,Sf,List.map_map]
   have:(bs∘uy)=id:=funext fun l=>abZ l
   rw[this,List.map_id]
   rfl
  rw[ej]
  have hj:=yG f.ag g2
  have e1:(f.Kind++{data:= #[40]:BA})=uy (bs f.Kind++[40]):=OR _ [40]
  rw[e1,kT]
  refine⟨?_,?_,by simp;omega,?_,?_,Bc ?_⟩
  ·show _+1<=_;omega
  ·rw[fZ];omega
  ·rw[fZ,fZ];simp only[kF,pj,fP,fz];omega
  ·rw[fZ];show _+1<=_;simp only[kF,pj,fP,fz];omega
  ·simp only[bi,h,if_true]
   refine(kT _ [41]).trans ?_
   simp[xY]
def ahk:=bW (α:=aL) (q1 (qA .db)) [.ro] (fun _=>[]) (fun f=>⟨[dS (bi f)],[],[]⟩)
def Zm:HH:=hF ahk func118 [aiK] a0 fun(f:aL) hp hb=>by
 clear hp hb
 apply vE (Lf [VS (bi f)] [VS (bi f)])
 exact aY _
def afI:=bW (α:=(List ao)×BA) (qC (qL .az) (q1 qS)) [.ro,.ro] (fun _=>[]) (fun(l,key)=>⟨[dI (aU l key)],[],[]⟩)
def JM(l:List ao)(key:BA):Int×Unit->Prop:=fun(i,_)=>0<=i/\i<=l.length/\∀j:Nat,(j:Int)<i->decide (bi (l.getD j aC).F=key)=false
def I9(l:List ao)(key:BA):Int×Unit->Nat:=fun(i,_)=>l.length-i.toNat
def apY:AX afI:=fun(l,key)=>bS [(2,aT [iI 5] (fun _=>JM l key) (I9 l key))]
def ab6:HH:=hF afI func70 [Mt] apY fun x hp hb=>by
 obtain⟨l,key⟩:=x
 have jQ:L9 l.length:=kG (hb _ m0)
 have anM:=ON (s:=key) (hb _ m1)
 clear hp hb
 apply vE (JM l key (0,())/\∀(y:Int×PUnit),let q0:=(wrap i64 (y.1+1),());JM l key y->bif decide (y.1<(l.length:Int)) then 0<=y.1/\y.1.toNat<l.length/\bif (bi (l.getD y.1.toNat aC).F).toList==key.toList then Li y.1 (aU l key) else JM l key q0/\I9 l key q0<I9 l key y else Li (-1) (aU l key))
 dsimp only
 refine⟨⟨by omega,by omega,by intro j hj;omega⟩,?_⟩
 rintro⟨i,⟨⟩⟩ ⟨h1,h2,hR⟩
 simp only
 refine ae ?_ ?_<;>intro hc
 ·have hc:i<l.length:=yT hc
  simp(disch:=omega) only[wrap_i64,aO]
  refine⟨by omega,by omega,ae (fun h=>nz ?_) (fun h=>⟨⟨by omega,by omega,jk (p:=fun j=>decide (bi (l.getD j aC).F=key)) h1 hR h⟩,by simp only[I9];omega⟩)⟩
  rw[aU,gx (i:=i.toNat) (by omega) h (fun j hj=>hR j (by omega))]
  omega
 ·have hc:¬i<l.length:=yF hc
  exact nz (jx (fun j hj=>hR j (by omega))).symm
def BQ:ka UU where
 α:=ao×BA
 md:=[.ro,.ro]
 of:=fun|[.agg [.lit (.string a0),.sl .bf a1,.lit (.string a2),.lit (.int .i64 a3),.lit (.int .i64 a4),.lit (.int .i64 a5),.lit (.int .i64 a6),.lit (.int .i64 a7),.lit (.string a8)],.ptr [.lit (.string a9)]]=>some (⟨⟨a0,a1⟩,a2,a3,a4,a5,⟨a6,a7,a8⟩⟩,a9)|_=>none
 ds:=fun(t,key)=>[.agg [.lit (.string t.F.Kind),.sl .bf t.F.ag,.lit (.string t.aW),.lit (.int .i64 t.State),.lit (.int .i64 t.bh),.lit (.int .i64 t.iz),.lit (.int .i64 t.V.K),.lit (.int .i64 t.V.N),.lit (.string t.V.S)],.ptr [.lit (.string key)]]
 pre:=fun(t,key)=>[]
 oe:=fun(t,key)=>⟨[.one (.lit (.bool (decide (bi t.F=key))))],[],[]⟩
 law:=by intro l x h;(try simp only at h);split at h<;>cases h;rfl
def aji:HH:=hF BQ func120 [Zm] a0 fun x hp hb=>by
 obtain⟨t,key⟩:=x
 have Wi:gN (U:=UU) (.agg [.lit (.string t.F.Kind),.sl .bf t.F.ag,.lit (.string t.aW),.lit (.int .i64 t.State),.lit (.int .i64 t.bh),.lit (.int .i64 t.iz),.lit (.int .i64 t.V.K),.lit (.int .i64 t.V.N),.lit (.string t.V.S)]):=hb _ (iH)
 have XD:L9 t.F.Kind.size:=Bd.str (Wi _ (by simp))
 have UC:L9 t.F.ag.length:=Bd.len (U:=UU) (τ:=.bf) (xs:=t.F.ag) (Wi _ (by simp))
 have acf:L9 t.aW.size:=Bd.str (Wi _ (by simp))
 have aey:L9 t.V.S.size:=Bd.str (Wi _ (by simp))
 have an2:gN (U:=UU) (.ptr [.lit (.string key)]):=hb _ (fF _ (iH))
 clear hp hb
 apply vE (Lb ((bi t.F).toList==key.toList) (decide (bi t.F=key)))
 rw[aO]
 exact aY _
def aoB:=bW (α:=(List ao)×BA) (qC (qL .az) (q1 qS)) [.ro,.ro] (fun _=>[]) (fun(l,key)=>⟨[dI (aU l key)],[],[]⟩)
def ape:HH:=hF aoB func59 [WV,aji] a0 fun x hp hb=>by
 obtain⟨l,key⟩:=x
 clear hp hb
 apply vE ((∀(j:Nat),j<l.length->fo BQ [DV.ptr [CS key]] [cn (l.getD j aC)]=some (Value.bool (bJ (fo BQ [DV.ptr [CS key]] [cn (l.getD j aC)]))))/\Li (jO (l.length) fun(j:Nat)=>bJ (fo BQ [DV.ptr [CS key]] [cn (l.getD j aC)])) (aU l key))
 have hc:∀x:ao,fo BQ [.ptr [.lit (.string key)]] [cn x]=some (.bool (decide (bi x.F=key))):=fun x=>sA (x:=(x,key)) rfl rfl rfl rfl (by simp[BQ])
 refine⟨fun j hj=> ?_,nz ?_⟩
 ·show fo BQ [.ptr [.lit (.string key)]] [cn (l.getD j aC)]=_
  rw[hc];rfl
 ·exact tp fun j hj=>by
   show bJ (fo BQ [.ptr [.lit (.string key)]] [cn (l.getD j aC)])=_
   rw[hc];rfl
def nr(aK:Int):Nat->Int->Int
 |0,n=>n
 |k+1,n=>if n<aK then nr aK k (2*n) else n
def iu(base k aK:Int):Int:=if 1<=base/\base<=100000/\1<=aK/\aK<=100000/\0<=k then(if nr aK k.toNat base<aK then nr aK k.toNat base else aK) else 0
theorem TA{aK n:Int}(h:¬n<aK):∀k:Nat,nr aK k n=n
 |0=>rfl
 |k+1=>by rw[nr,if_neg h]
theorem FJ{aK n k i:Int}(h0:0<=i)(h:i<k)(hn:n<aK):nr aK (k-i).toNat n=nr aK (k-(i+1)).toNat (2*n):=by
 obtain⟨m,hm⟩:∃m:Nat,(k-i).toNat=m+1:=⟨(k-i).toNat-1,by omega⟩
 have h2:(k-(i+1)).toNat=m:=by omega
 rw[hm,h2,nr,if_pos hn]
theorem HJ{aK n k i:Int}(h:¬(i<k/\n<aK)):nr aK (k-i).toNat n=n:=by
 by_cases hk:i<k
 ·exact TA (fun hn=>h ⟨hk,hn⟩) _
 ·rw[show(k-i).toNat=0 by omega];rfl
def YR:=bW (α:=Int×Int×Int) (qC qI (qC qI (q1 qI))) [.ro,.ro,.ro] (fun _=>[]) (fun(base,k,aK)=>⟨[dI (iu base k aK)],[],[]⟩)
def D1(base:Int)(k:Int)(aK:Int):Int×Int×Unit->Prop:=fun(n,i,_)=>0<=i/\i<=k/\1<=n/\n<=200000/\nr aK (k-i).toNat n=nr aK k.toNat base
def Db(base:Int)(k:Int)(aK:Int):Int×Int×Unit->Nat:=fun(n,i,_)=>(k-i).toNat
def aks:AX YR:=fun(base,k,aK)=>bS [(5,aT [iI 7,iI 8] (fun _=>D1 base k aK) (Db base k aK))]
def ajf:HH:=hF YR func125 [sK] aks fun x hp hb=>by
 obtain⟨base,k,aK⟩:=x
 have V_:=zk (n:=base) (hb _ m0)
 have aez:=zk (n:=k) (hb _ m1)
 have Ch:=zk (n:=aK) (hb _ m2)
 clear hp hb
 apply vE (let q0:=iu base k aK;bif !decide (1<=base/\base<=100000) then Li 0 q0 else bif !decide (1<=aK/\aK<=100000) then Li 0 q0 else bif decide (k<0) then Li 0 q0 else D1 base k aK (base,0,())/\∀(y:Int×Int×PUnit),let q1:=(wrap i64 (2*y.1),wrap i64 (y.2.1+1),());let q2:=bif decide (y.1>aK) then Li aK q0 else Li y.1 q0;D1 base k aK y->bif decide (y.2.1<k) then bif decide (y.1<aK) then D1 base k aK q1/\Db base k aK q1<Db base k aK y else q2 else q2)
 dsimp only
 have hN:¬(1<=base/\base<=100000/\1<=aK/\aK<=100000/\0<=k)->Lf [.one (.lit (.int .i64 0))] [.one (.lit (.int .i64 (iu base k aK)))]:=fun h=>nz (by rw[iu,if_neg h])
 refine ae (fun h=>hN ?_) (fun h=>ae (fun h2=>hN ?_) (fun h2=>ae (fun h3=>hN ?_) (fun h3=> ?_)))
 ·simp at h;omega
 ·simp at h2;omega
 ·simp at h3;omega
 have hg:1<=base/\base<=100000/\1<=aK/\aK<=100000/\0<=k:=by simp at h h2 h3;omega
 have hE:∀{n i:Int},nr aK (k-i).toNat n=nr aK k.toNat base->¬(i<k/\n<aK)->(if n<aK then n else aK)=iu base k aK:=fun hR hn=>by rw[iu,if_pos hg,<-hR,HJ hn]
 refine⟨⟨by omega,by omega,by omega,by omega,by rw[Int.sub_zero]⟩,?_⟩
 rintro⟨n,i,⟨⟩⟩ ⟨h4,h5,h6,h7,hR⟩
 simp only
 refine ae (fun hc=>ae (fun hd=> ?_) (fun hd=> ?_)) (fun hc=> ?_)
 ·have hc:=yT hc;have hd:=yT hd
  rw[wi,wi]
  refine⟨⟨by omega,by omega,by omega,by omega,?_⟩,by simp only[Db];omega⟩
  rw[<-FJ h4 hc hd];exact hR
 ·have hd:=yF hd
  have e:=hE hR (fun hh=>hd hh.2)
  refine ae (fun hm=>nz ?_) (fun hm=>nz ?_)
  ·have hm:=yT hm;rw[<-e];split<;>omega
  ·have hm:=yF hm;rw[<-e];split<;>omega
 ·have hc:=yF hc
  have e:=hE hR (fun hh=>hc hh.1)
  refine ae (fun hm=>nz ?_) (fun hm=>nz ?_)
  ·have hm:=yT hm;rw[<-e];split<;>omega
  ·have hm:=yF hm;rw[<-e];split<;>omega
def YS:=bW (α:=Int×Int×Int) (qC qI (qC qI (q1 qI))) [.ro,.ro,.ro] (fun _=>[]) (fun(base,k,aK)=>⟨[dI (iu base k aK)],[],[]⟩)
def D2(base:Int)(k:Int)(aK:Int):Int×Int×Unit->Prop:=fun(n,i,_)=>0<=i/\i<=k/\1<=n/\n<=200000/\nr aK (k-i).toNat n=nr aK k.toNat base
def Dc(base:Int)(k:Int)(aK:Int):Int×Int×Unit->Nat:=fun(n,i,_)=>(k-i).toNat
def akt:AX YS:=fun(base,k,aK)=>bS [(4,aT [iI 0,iI 7] (fun _=>D2 base k aK) (Dc base k aK))]
def ajk:HH:=hF YS func119 [A'] akt fun x hp hb=>by
 obtain⟨base,k,aK⟩:=x
 have V_:=zk (n:=base) (hb _ m0)
 have aez:=zk (n:=k) (hb _ m1)
 have Ch:=zk (n:=aK) (hb _ m2)
 clear hp hb
 apply vE (let q0:=iu base k aK;bif !decide (1<=base/\base<=100000) then Li 0 q0 else bif !decide (1<=aK/\aK<=100000) then Li 0 q0 else bif decide (k<0) then Li 0 q0 else D2 base k aK (base,0,())/\∀(y:Int×Int×PUnit),let q1:=(wrap i64 (y.1*2),wrap i64 (y.2.1+1),());let q2:=Li (if aK<y.1 then aK else y.1) q0;D2 base k aK y->bif decide (y.2.1<k) then bif decide (y.1<aK) then D2 base k aK q1/\Dc base k aK q1<Dc base k aK y else q2 else q2)
 dsimp only
 have hN:¬(1<=base/\base<=100000/\1<=aK/\aK<=100000/\0<=k)->Lf [.one (.lit (.int .i64 0))] [.one (.lit (.int .i64 (iu base k aK)))]:=fun h=>nz (by rw[iu,if_neg h])
 refine ae (fun h=>hN ?_) (fun h=>ae (fun h2=>hN ?_) (fun h2=>ae (fun h3=>hN ?_) (fun h3=> ?_)))
 ·simp at h;omega
 ·simp at h2;omega
 ·simp at h3;omega
 have hg:1<=base/\base<=100000/\1<=aK/\aK<=100000/\0<=k:=by simp at h h2 h3;omega
 have hE:∀{n i:Int},nr aK (k-i).toNat n=nr aK k.toNat base->¬(i<k/\n<aK)->(if n<aK then n else aK)=iu base k aK:=fun hR hn=>by rw[iu,if_pos hg,<-hR,HJ hn]
 refine⟨⟨by omega,by omega,by omega,by omega,by rw[Int.sub_zero]⟩,?_⟩
 rintro⟨n,i,⟨⟩⟩ ⟨h4,h5,h6,h7,hR⟩
 simp only
 refine ae (fun hc=>ae (fun hd=> ?_) (fun hd=> ?_)) (fun hc=> ?_)
 ·have hc:=yT hc;have hd:=yT hd
  rw[wi,wi]
  refine⟨⟨by omega,by omega,by omega,by omega,?_⟩,by simp only[Dc];omega⟩
  rw[Int.mul_comm,<-FJ h4 hc hd];exact hR
 ·have hd:=yF hd
  have e:=hE hR (fun hh=>hd hh.2)
  refine nz ?_
  rw[<-e];split<;>(try split)<;>omega
 ·have hc:=yF hc
  have e:=hE hR (fun hh=>hc hh.1)
  refine nz ?_
  rw[<-e];split<;>(try split)<;>omega
def k9(l:List bp)(t:ao):Bool:=dz l&&bE t.F&&bu t.aW&& !vk l (bi t.F)&& !decide (30<=l.length)
def cV(l:List bp)(t:ao):List bp×Bool:=if k9 l t=true then(l++[⟨bi t.F,⟨t.aW,t.F.ag⟩⟩],true) else(l,false)
def tc(ok:Bool)(v:a_)(t:ao):ao:=⟨t.F,t.aW,if ok=true then 3 else 4,t.bh,t.iz,v⟩
def bC(l:List ao)(key:BA)(ok:Bool)(v:a_):List ao×Int:=
 if aN l=true/\bR v=true/\0<=aU l key/\(l.getD (aU l key).toNat aC).State≠1 then
  (if(l.getD (aU l key).toNat aC).State=2 then(l.modify (aU l key).toNat (tc ok v),1) else(l,2)) else(l,3)
def due(now:Int)(t:ao):Bool:=jw t&&decide (t.iz<=now)
def dR(now:Int)(t:ao):ao:=if due now t=true then(if t.bh=4 then⟨t.F,t.aW,4,t.bh,t.iz,t.V⟩ else⟨t.F,t.aW,2,t.bh+1,now+iu 2 (t.bh+1) 60,t.V⟩) else t
def iy(now:Int)(t:ao):List gg:=if due now t=true/\t.bh≠4 then[⟨bi t.F,t.F,t.bh+1⟩] else[]
def gL(now:Int)(t:ao):List BA:=if due now t=true/\t.bh=4 then[bi t.F] else[]
theorem Kv{l:List bp}(h:dz l=true):l.length<=30:=by
 simp only[dz,cN,decide_eq_true_eq] at h;exact h.1
theorem yb{l:List ao}(h:aN l=true):l.length<=30:=by
 simp only[aN,cN,decide_eq_true_eq] at h;exact h.1
theorem mA{l:List ao}(h:aN l=true){k:Nat}(hk:k<l.length):gp (l.getD k aC)=true:=by
 simp only[aN,cN] at h
 have:=zr.1 h.2 k hk
 simp only[jM,cN] at this
 exact this.1
theorem Af{t:ao}(h:gp t=true):(1<=t.State/\t.State<=4)/\(0<=t.bh/\t.bh<=4)/\(0<=t.iz/\t.iz<=1000001000)/\((t.State=1->t.bh=0)/\(t.State=2->t.bh≠0))/\t.F.ag.length<=5:=by
 simp only[gp,cN,decide_eq_true_eq] at h
 obtain⟨⟨⟨⟨⟨⟨h1,h2⟩,h3⟩,h4⟩,h5⟩,h6⟩,h7⟩:=h
 refine⟨h3,h4,h5,h7,?_⟩
 simp only[bE,cN,decide_eq_true_eq] at h1
 first|exact h1.1.2|exact h1.2.1|omega
theorem pF{l:List ao}{key:BA}(h:0<=aU l key):(aU l key).toNat<l.length:=by
 unfold aU at*
 rcases ik l.length (fun k=>decide (bi (l.getD k aC).F=key)) with⟨h1,h2⟩|⟨i,h1,h2,h3,h4⟩
 ·rw[h1] at h;omega
 ·rw[h2];omega
theorem ta{l:List ao}{key:BA}{ok:Bool}{v:a_}(h:¬(aN l=true/\bR v=true/\0<=aU l key/\(l.getD (aU l key).toNat aC).State≠1)):bC l key ok v=(l,3):=if_neg h
theorem vL{l:List ao}{key:BA}{ok:Bool}{v:a_}(h:aN l=true/\bR v=true/\0<=aU l key/\(l.getD (aU l key).toNat aC).State≠1)(h2:(l.getD (aU l key).toNat aC).State≠2):bC l key ok v=(l,2):=by rw[bC,if_pos h,if_neg h2]
theorem Al{l:List ao}{key:BA}{ok:Bool}{v:a_}(h:aN l=true/\bR v=true/\0<=aU l key/\(l.getD (aU l key).toNat aC).State≠1)(h2:(l.getD (aU l key).toNat aC).State=2):bC l key ok v=(l.modify (aU l key).toNat (tc ok v),1):=by rw[bC,if_pos h,if_pos h2]
theorem U0(l:List ao)(k:Nat)(v:a_):(((l.modify k fun x=>⟨x.F,x.aW,4,x.bh,x.iz,x.V⟩).modify k fun x=>⟨x.F,x.aW,3,x.bh,x.iz,x.V⟩).modify k fun x=>⟨x.F,x.aW,x.State,x.bh,x.iz,v⟩)=l.modify k (tc true v):=by
 rw[lW,lW];rfl
theorem U1(l:List ao)(k:Nat)(v:a_):((l.modify k fun x=>⟨x.F,x.aW,4,x.bh,x.iz,x.V⟩).modify k fun x=>⟨x.F,x.aW,x.State,x.bh,x.iz,v⟩)=l.modify k (tc false v):=by
 rw[lW];rfl
theorem Lf3{a a':List ao}{b b':List gg}{c c':List BA}(h1:a=a')(h2:b=b')(h3:c=c'):Lf [.one (.sl .az a),.one (.sl .dw b),.one (.sl .str c)] [.one (.sl .az a'),.one (.sl .dw b'),.one (.sl .str c')]:=by
 subst h1 h2 h3;exact aY _
theorem ww{a a':List ao}(h:a=a'):fG ([DV.one (Cell.sl Cd.az a)]:List (DV UU))=fG ([DV.one (Cell.sl Cd.az a')]:List (DV UU)):=by rw[h]
theorem vW{α β:Type}(f:α->List β)(l:List α)(z:α){i:Int}(h0:0<=i)(h:i<l.length):(l.take i.toNat).flatMap f++f (l.getD i.toNat z)=(l.take (i+1).toNat).flatMap f:=by
 rw[<-dl l z h0 h,Ur];simp
theorem qe{α β:Type}(f:α->List β)(hf:∀x,(f x).length<=1):∀l:List α,(l.flatMap f).length<=l.length
 |[]=>by simp
 |x::l=>by
  rw[zZ,kF]
  have h1:=qe f hf l
  have h2:=hf x
  simp only[fP];omega
theorem Hz(now:Int)(t:ao):(iy now t).length<=1:=by unfold iy;split<;>simp
theorem vY(now:Int)(t:ao):(gL now t).length<=1:=by unfold gL;split<;>simp
theorem HI(aK:Int):∀(k:Nat)(n:Int),0<=n->0<=nr aK k n
 |0,n,h=>h
 |k+1,n,h=>by rw[nr];split;exact HI aK k (2*n) (by omega);exact h
theorem xB(k:Int):0<=iu 2 k 60/\iu 2 k 60<=60:=by
 have:=HI 60 k.toNat 2 (by omega)
 unfold iu
 split
 ·split<;>omega
 ·omega
def Yw:=bW (α:=(List bp)×ao) (qC (qL .aQ) (q1 (qA .az))) [.ro,.ro] (fun(l,t)=>[L4 (bN l),L4 t.F.ag.length]) (fun(l,t)=>⟨[dL .aQ ((cV l t).1),dO ((cV l t).2)],[],[]⟩)
def DL(l:List bp)(t:ao):List bp×Int×T18×Unit->Prop:=fun(row,i,fb,_)=>row=l/\fb=(t.F.Kind,t.F.ag,t.aW,t.State,t.bh,t.iz,t.V.K,t.V.N,t.V.S,())/\0<=i/\i<=l.length/\∀j:Nat,(j:Int)<i->decide ((l.getD j bZ).Key=bi t.F)=false
def CY(l:List bp)(t:ao):List bp×Int×T18×Unit->Nat:=fun(row,i,fb,_)=>l.length-i.toNat
def aj8:AX Yw:=fun(l,t)=>bS [(6,aT [iO 6 .aQ,iI 8,.box 3 (3,1024) [.lit .str,.shr .bf,.lit .str,.lit (.int .i64),.lit (.int .i64),.lit (.int .i64),.lit (.int .i64),.lit (.int .i64),.lit .str]] (fun _=>DL l t) (CY l t))]
def Y_:HH:=hF Yw func168 [ab7,ahG,NQ,Mq,Mt] aj8 fun x hp hb=>by
 obtain⟨l,t⟩:=x
 have bo:bN l<=4294967296:=hp _ m0
 have eJ:t.F.ag.length<=4294967296:=hp _ m1
 clear hp hb
 apply vE (let x0:=(l.length:Int);let q0:=Lf [VL .aQ l,VB false] [VL .aQ ((cV l t).1),VB ((cV l t).2)];let q1:=cV l t;L4 (bN l)/\bif !dz l then q0 else bif !bE t.F then q0 else bif !bu t.aW then q0 else bif decide (x0≥30) then q0 else DL l t (l,0,(t.F.Kind,t.F.ag,t.aW,t.State,t.bh,t.iz,t.V.K,t.V.N,t.V.S,()),())/\∀(y:List bp×Int×(BA×List a_×BA×Int×Int×Int×Int×Int×BA×PUnit)×PUnit),let x1:=[{Key:=bi t.F,F:={Kind:=y.2.2.1.2.2.1,ag:=[]++y.2.2.1.2.1:aL}:bp}];let x2:=y.2.1.toNat;let q2:=(y.1,wrap i64 (y.2.1+1),(y.2.2.1.1,y.2.2.1.2.1,y.2.2.1.2.2.1,y.2.2.1.2.2.2.1,y.2.2.1.2.2.2.2.1,y.2.2.1.2.2.2.2.2.1,y.2.2.1.2.2.2.2.2.2.1,y.2.2.1.2.2.2.2.2.2.2.1,y.2.2.1.2.2.2.2.2.2.2.2.1,()),());DL l t y->bif decide (y.2.1<x0) then 0<=y.2.1/\x2<l.length/\bif (l.getD x2 bZ).Key.toList==(bi t.F).toList then Lf [VL .aQ y.1,VB false] [VL .aQ (q1.1),VB (q1.2)] else DL l t q2/\CY l t q2<CY l t y else 0+y.2.2.1.2.1.length<=4294967296/\L4 (y.1.length+x1.length)/\Lf [VL .aQ (y.1++x1),VB true] [VL .aQ (q1.1),VB (q1.2)])
 dsimp only
 have hN:k9 l t=false->Lf [.one (.sl .aQ l),.one (.lit (.bool false))] [.one (.sl .aQ (cV l t).1),.one (.lit (.bool (cV l t).2))]:=fun h=>by
  simp only[cV,h];exact aY _
 have hlen:dz l=true->l.length<=30:=Kv
 refine⟨bo,ae (fun h1=>hN ?_) (fun h1=>ae (fun h2=>hN ?_) (fun h2=>ae (fun h3=>hN ?_) (fun h3=>ae (fun h4=>hN ?_) (fun h4=>⟨⟨rfl,rfl,by omega,by omega,by intro j hj;omega⟩,?_⟩))))⟩
 ·simp only[k9];grind
 ·simp only[k9];grind
 ·simp only[k9];grind
 ·simp only[k9];grind
 rintro⟨row,i,fb,⟨⟩⟩ ⟨rfl,rfl,h5,h6,hR⟩
 have h4:=yF h4
 simp only
 refine ae ?_ ?_<;>intro hc
 ·have hc:i<row.length:=yT hc
  simp(disch:=omega) only[wrap_i64,aO]
  refine⟨by omega,by omega,ae (fun h=> ?_) (fun h=>⟨⟨rfl,rfl,by omega,by omega,jk (p:=fun j=>decide ((row.getD j bZ).Key=bi t.F)) h5 hR h⟩,by simp only[CY];omega⟩)⟩
  have ha:vk row (bi t.F)=true:=iF (j:=i.toNat) (by omega) h
  exact hN (by simp only[k9,ha];simp)
 ·have hc:¬i<row.length:=yF hc
  have ha:vk row (bi t.F)=false:=gz fun j hj=>hR j (by omega)
  have hy:k9 row t=true:=by simp only[k9,ha];grind
  refine⟨by simpa using eJ,by simp;omega,?_⟩
  simp only[cV,hy,if_true,List.nil_append];exact aY _
def ag0:=bW (α:=(List ao)×BA×Bool×a_) (qC (qL .az) (qC qS (qC qO (q1 (qA .bf))))) [.wr,.ro,.ro,.ro] (fun(l,key,ok,v)=>[aN l=true,bR v=true]) (fun(l,key,ok,v)=>⟨[dI ((bC l key ok v).2)],[],[dL .az ((bC l key ok v).1)]⟩)
def Za:HH:=hF ag0 func167 [ab6] a0 fun x hp hb=>by
 obtain⟨l,key,ok,v⟩:=x
 have bo:aN l=true:=hp _ m0
 have eJ:bR v=true:=hp _ m1
 clear hp hb
 apply vE (let x0:=l.modify (Int.toNat (aU l key)) fun(x:ao)=>{F:=x.F,aW:=x.aW,State:=(4:Int),bh:=x.bh,iz:=x.iz,V:=x.V:ao};let x1:=x0.modify (Int.toNat (aU l key)) fun(x:ao)=>{F:=x.F,aW:=x.aW,State:=(3:Int),bh:=x.bh,iz:=x.iz,V:=x.V:ao};let q0:=bC l key ok v;let q1:=aU l key;let q2:=fG [VL .az l]=fG [VL .az (q0.1)];let q3:=l.getD (Int.toNat q1) aC;let q4:=fG [VI 3]=fG [VI (q0.2)]/\q2;let q5:=fG [VI 2]=fG [VI (q0.2)]/\q2;bif decide (aU l key<0) then q4 else 0<=aU l key/\Int.toNat q1<l.length/\Int.toNat q1<l.length/\bif q3.State==3 then q5 else Int.toNat q1<l.length/\bif q3.State==4 then q5 else Int.toNat q1<l.length/\bif q3.bh==0 then q4 else Int.toNat q1<l.length/\bif ok then Int.toNat q1<x0.length/\Int.toNat q1<x1.length/\fG [VI 1]=fG [VI (q0.2)]/\fG [VL .az (x1.modify (Int.toNat q1) fun(x:ao)=>{F:=x.F,aW:=x.aW,State:=x.State,bh:=x.bh,iz:=x.iz,V:=v:ao})]=fG [VL .az (q0.1)] else Int.toNat q1<x0.length/\fG [VI 1]=fG [VI (q0.2)]/\fG [VL .az (x0.modify (Int.toNat q1) fun(x:ao)=>{F:=x.F,aW:=x.aW,State:=x.State,bh:=x.bh,iz:=x.iz,V:=v:ao})]=fG [VL .az (q0.1)])
 dsimp only
 refine ae ?_ ?_<;>intro h
 ·have h:=yT h
  rw[ta (fun hh=>absurd hh.2.2.1 (by omega))];exact⟨rfl,rfl⟩
 have h:=yF h
 have hk:=pF (l:=l) (key:=key) (by omega)
 obtain⟨s1,s2,s3,s4,s5⟩:=Af (mA bo hk)
 refine⟨by omega,hk,hk,ae (fun h1=> ?_) (fun h1=>⟨hk,ae (fun h2=> ?_) (fun h2=>⟨hk,ae (fun h3=> ?_) (fun h3=>⟨hk,ae (fun h4=> ?_) (fun h4=> ?_)⟩)⟩)⟩)⟩
 ·have h1:=eq_of_beq h1
  rw[vL ⟨bo,eJ,by omega,by omega⟩ (by omega)];exact⟨rfl,rfl⟩
 ·have h2:=eq_of_beq h2
  rw[vL ⟨bo,eJ,by omega,by omega⟩ (by omega)];exact⟨rfl,rfl⟩
 ·have h3:=eq_of_beq h3
  simp only[beq_eq_false_iff_ne,ne_eq] at h1 h2
  rw[ta (fun hh=>absurd hh.2.2.2 (by omega))];exact⟨rfl,rfl⟩
 ·subst h4
  simp only[beq_eq_false_iff_ne,ne_eq] at h1 h2 h3
  rw[Al ⟨bo,eJ,by omega,by omega⟩ (by omega)]
  exact⟨by simp only[Kk];exact hk,by simp only[Kk];exact hk,rfl,ww (U0 _ _ _)⟩
 ·subst h4
  simp only[beq_eq_false_iff_ne,ne_eq] at h1 h2 h3
  rw[Al ⟨bo,eJ,by omega,by omega⟩ (by omega)]
  exact⟨by simp only[Kk];exact hk,rfl,ww (U1 _ _ _)⟩
def ahh:=bW (α:=ao×Int) (qC (qA .az) (q1 qI)) [.ro,.ro] (fun _=>[]) (fun(t,now)=>⟨[dO (due now t)],[],[]⟩)
def ajg:HH:=hF ahh func123 [] a0 fun x hp hb=>by
 obtain⟨t,now⟩:=x
 clear hp hb
 apply vE (let q0:=Lb (decide (t.iz<=now)) (due now t);bif t.State==1 then q0 else bif t.State==2 then q0 else Lb false (due now t))
 dsimp only
 repeat' (refine ae (fun h=> ?_) (fun h=> ?_))
 all_goals (refine cg ?_;simp only[due,jw];grind)
def afJ:=bW (α:=(List ao)×Int) (qC (qL .az) (q1 qI)) [.wr,.ro] (fun(l,now)=>[aN l=true,0<=now/\now<=1000000000]) (fun(l,now)=>⟨[dL .dw (l.flatMap (iy now)),dL .str (l.flatMap (gL now))],[],[dL .az (l.map (dR now))]⟩)
def A7(l:List ao)(now:Int):List ao×List gg×List BA×Int×Unit->Prop:=fun(out,calls,failed,i,_)=>0<=i/\i<=l.length/\out=(l.map (dR now)).take i.toNat++l.drop i.toNat/\calls=(l.take i.toNat).flatMap (iy now)/\failed=(l.take i.toNat).flatMap (gL now)
def rT(l:List ao)(now:Int):List ao×List gg×List BA×Int×Unit->Nat:=fun(out,calls,failed,i,_)=>l.length-i.toNat
def apZ:AX afJ:=fun(l,now)=>bS [(4,aT [.slot 0 (2000000,0) (.own .az true),iO 6 .dw,iO 7 .str,iI 8] (fun _=>A7 l now) (rT l now))]
def ahB:HH:=hF afJ func68 [ajg,Mt,ajf,A9] apZ fun x hp hb=>by
 obtain⟨l,now⟩:=x
 have jQ:L9 l.length:=kG (hb _ m0)
 have rN:=zk (n:=now) (hb _ m1)
 have bo:aN l=true:=hp _ m0
 have eJ:0<=now/\now<=1000000000:=hp _ m1
 clear hp hb
 apply vE (A7 l now (l,[],[],0,())/\∀(y:List ao×List gg×List BA×Int×PUnit),let x3:=y.2.2.2.1.toNat;let x5:=y.1.modify x3 fun(x:ao)=>{F:=x.F,aW:=x.aW,State:=(4:Int),bh:=x.bh,iz:=x.iz,V:=x.V:ao};let x6:=y.1.modify x3 fun(x:ao)=>{F:=x.F,aW:=x.aW,State:=x.State,bh:=wrap i64 ((y.1.getD x3 aC).bh+1),iz:=x.iz,V:=x.V:ao};let x4:=x6.modify x3 fun(x:ao)=>{F:=x.F,aW:=x.aW,State:=(2:Int),bh:=x.bh,iz:=x.iz,V:=x.V:ao};let x2:=x4.modify x3 fun(x:ao)=>{F:=x.F,aW:=x.aW,State:=x.State,bh:=x.bh,iz:=wrap i64 (now+iu 2 (x4.getD x3 aC).bh 60),V:=x.V:ao};let x1:=(x2.getD x3 aC).F;let x0:=[{Key:=bi x1,F:=x1,Try:=(x2.getD x3 aC).bh:gg}];let q0:=(x5,y.2.1,y.2.2.1++[bi (x5.getD x3 aC).F],wrap i64 (y.2.2.2.1+1),());let q1:=(x2,y.2.1++x0,y.2.2.1,wrap i64 (y.2.2.2.1+1),());let q2:=(y.1,y.2.1,y.2.2.1,wrap i64 (y.2.2.2.1+1),());A7 l now y->bif decide (y.2.2.2.1<(y.1.length:Int)) then 0<=y.2.2.2.1/\x3<y.1.length/\x3<y.1.length/\x3<y.1.length/\bif !due now (y.1.getD x3 aC) then A7 l now q2/\rT l now q2<rT l now y else x3<y.1.length/\bif (y.1.getD x3 aC).bh==4 then x3<y.1.length/\x3<x5.length/\x3<x5.length/\y.2.2.1.length+List.length [bi (x5.getD x3 aC).F]<=4294967296/\A7 l now q0/\rT l now q0<rT l now y else x3<y.1.length/\x3<y.1.length/\x3<x6.length/\x3<x4.length/\x3<x4.length/\x3<x2.length/\x3<x2.length/\x3<x2.length/\x3<x2.length/\L4 x1.ag.length/\x3<x2.length/\L4 (y.2.1.length+x0.length)/\A7 l now q1/\rT l now q1<rT l now y else fG [VL .dw y.2.1,VL .str y.2.2.1]=fG [VL .dw (List.flatMap (iy now) l),VL .str (List.flatMap (gL now) l)]/\fG [VL .az y.1]=fG [VL .az (l.map (dR now))])
 dsimp only
 refine⟨⟨by omega,by omega,by simp,by simp,by simp⟩,?_⟩
 rintro⟨out,calls,failed,i,⟨⟩⟩ ⟨h1,h2,rfl,rfl,rfl⟩
 have hl:=Ca (dR now) l h1 h2
 have hlen:=yb bo
 have ix:=qe (iy now) (Hz now) (l.take i.toNat)
 have Cj:=qe (gL now) (vY now) (l.take i.toNat)
 rw[oq] at ix Cj
 simp only
 refine ae ?_ ?_<;>intro hc
 ·have hc:=yT hc
  have hc:i<l.length:=by omega
  have hi:i.toNat<l.length:=by omega
  have hg:=yA _ l aC (Ik (dR now) l h1 h2) h1 hc
  obtain⟨s1,s2,s3,s4,s5⟩:=Af (mA bo hi)
  have Nw:=vW (iy now) l aC h1 hc
  have Qc:=vW (gL now) l aC h1 hc
  have hM:=fun F hF=>yC (dR now) l aC F h1 hc hF
  have hS:=fun hF=>yB (dR now) l aC h1 hc hF
  have hb:=xB ((l.getD i.toNat aC).bh+1)
  generalize hRR:(l.map (dR now)).take i.toNat++l.drop i.toNat=R at*
  rw[wi (n:=i+1)]
  simp(disch:=first|omega|(simp only[Kk];omega)) only[getD_modify,lW,Kk,hl,hg]
  generalize hT:l.getD i.toNat aC=t at*
  simp(disch:=omega) only[wrap_i64,fP,fz]
  repeat' (first|refine And.intro (by omega) ?_|refine ae (fun h=> ?_) (fun h=> ?_)|fail)
  all_goals simp only[qK,Bool.not_eq_false',decide_eq_true_eq,decide_eq_false_iff_not,beq_iff_eq,beq_eq_false_iff_ne] at*
  all_goals first
   |(have hd:due now t=true:=by first|assumption|(simp only[due];grind)
     have e1:iy now t=[]:=by simp only[iy];exact if_neg (by simp_all)
     have e2:gL now t=[bi t.F]:=by simp only[gL];exact if_pos ⟨hd,by assumption⟩
     rw[e1,uJ] at Nw
     rw[e2] at Qc
     rw[hM _ (by simp only[dR,hd,if_true];rw[if_pos (by assumption)])]
     exact⟨⟨by omega,by omega,rfl,Nw,Qc⟩,by simp only[rT];omega⟩)
   |(have hd:due now t=true:=by first|assumption|(simp only[due];grind)
     have e1:iy now t=[⟨bi t.F,t.F,t.bh+1⟩]:=by simp only[iy];exact if_pos ⟨hd,by assumption⟩
     have e2:gL now t=[]:=by simp only[gL];exact if_neg (by simp_all)
     rw[e2,uJ] at Qc
     rw[e1] at Nw
     rw[hM _ (by simp only[dR,hd,if_true];rw[if_neg (by assumption)])]
     exact⟨⟨by omega,by omega,rfl,Nw,Qc⟩,by simp only[rT];omega⟩)
   |(have hd:due now t=false:=by first|assumption|(simp only[due];grind)
     have e1:iy now t=[]:=by simp only[iy];exact if_neg (by simp_all)
     have e2:gL now t=[]:=by simp only[gL];exact if_neg (by simp_all)
     rw[e1,uJ] at Nw
     rw[e2,uJ] at Qc
     have hs:=hS (by simp only[dR,hd];rfl)
     exact⟨⟨by omega,by omega,hs,Nw,Qc⟩,by simp only[rT];omega⟩)
 ·have hc:=yF hc
  exact⟨by rw[cA l (by omega)];rfl,ww (yD (i:=i) (dR now) l (by omega))⟩
def afQ:=bW (α:=(List ao)×Int) (qC (qL .az) (q1 qI)) [.ro,.ro] (fun(l,now)=>[L4 (cf l)]) (fun(l,now)=>⟨[dL .az (if aN l=true/\0<=now/\now<=1000000000 then l.map (dR now) else l),dL .dw (if aN l=true/\0<=now/\now<=1000000000 then l.flatMap (iy now) else[]),dL .str (if aN l=true/\0<=now/\now<=1000000000 then l.flatMap (gL now) else[])],[],[]⟩)
def A8(l:List ao)(now:Int):List ao×List gg×List BA×Int×Unit->Prop:=fun(out,calls,failed,i,_)=>0<=i/\i<=l.length/\out=(l.map (dR now)).take i.toNat++l.drop i.toNat/\calls=(l.take i.toNat).flatMap (iy now)/\failed=(l.take i.toNat).flatMap (gL now)
def rU(l:List ao)(now:Int):List ao×List gg×List BA×Int×Unit->Nat:=fun(out,calls,failed,i,_)=>l.length-i.toNat
def ap6:AX afQ:=fun(l,now)=>bS [(7,aT [iO 7 .az,iO 8 .dw,iO 9 .str,iI 25] (fun _=>A8 l now) (rU l now))]
def apg:HH:=hF afQ func57 [WY,ab',WZ,ab9,Zm,ajk,zV] ap6 fun x hp hb=>by
 obtain⟨l,now⟩:=x
 have jQ:L9 l.length:=kG (hb _ m0)
 have rN:=zk (n:=now) (hb _ m1)
 have bo:cf l<=4294967296:=hp _ m0
 clear hp hb
 apply vE (let q0:=Lf [VL .az l,VL .dw [],VL .str []] [VL .az (if aN l=true/\0<=now/\now<=1000000000 then l.map (dR now) else l),VL .dw (if aN l=true/\0<=now/\now<=1000000000 then List.flatMap (iy now) l else[]),VL .str (if aN l=true/\0<=now/\now<=1000000000 then List.flatMap (gL now) l else[])];let q1:=(0:Int)<=now/\now<=1000000000;L4 (cf l)/\bif !aN l then q0 else bif !decide (0<=now/\now<=1000000000) then q0 else A8 l now (l,[],[],0,())/\∀(y:List ao×List gg×List BA×Int×PUnit),let x3:=y.2.2.2.1.toNat;let x5:=y.1.modify x3 fun(x:ao)=>{F:=x.F,aW:=x.aW,State:=(2:Int),bh:=x.bh,iz:=x.iz,V:=x.V:ao};let x6:=y.1.modify x3 fun(x:ao)=>{F:=x.F,aW:=x.aW,State:=(4:Int),bh:=x.bh,iz:=x.iz,V:=x.V:ao};let x4:=x5.modify x3 fun(x:ao)=>{F:=x.F,aW:=x.aW,State:=x.State,bh:=wrap i64 ((x5.getD x3 aC).bh+1),iz:=x.iz,V:=x.V:ao};let x2:=x4.modify x3 fun(x:ao)=>{F:=x.F,aW:=x.aW,State:=x.State,bh:=x.bh,iz:=wrap i64 (now+iu 2 (x4.getD x3 aC).bh 60),V:=x.V:ao};let x1:=(x2.getD x3 aC).F;let x0:=[{Key:=bi x1,F:=x1,Try:=(x2.getD x3 aC).bh:gg}];let q2:=(y.1,y.2.1,y.2.2.1,wrap i64 (y.2.2.2.1+1),());let q3:=(x6,y.2.1,y.2.2.1++[bi (x6.getD x3 aC).F],wrap i64 (y.2.2.2.1+1),());let q4:=(x2,y.2.1++x0,y.2.2.1,wrap i64 (y.2.2.2.1+1),());let q5:=A8 l now q2/\rU l now q2<rU l now y;let q6:=y.1.getD x3 aC;A8 l now y->bif decide (y.2.2.2.1<(l.length:Int)) then 0<=y.2.2.2.1/\x3<y.1.length/\x3<y.1.length/\x3<y.1.length/\bif !jw q6 then q5 else x3<y.1.length/\bif decide (q6.iz>now) then q5 else x3<y.1.length/\bif q6.bh==4 then x3<y.1.length/\x3<x6.length/\x3<x6.length/\y.2.2.1.length+List.length [bi (x6.getD x3 aC).F]<=4294967296/\A8 l now q3/\rU l now q3<rU l now y else x3<y.1.length/\x3<x5.length/\x3<x5.length/\x3<x4.length/\x3<x4.length/\x3<x2.length/\x3<x2.length/\x3<x2.length/\x3<x2.length/\L4 x1.ag.length/\x3<x2.length/\L4 (y.2.1.length+x0.length)/\A8 l now q4/\rU l now q4<rU l now y else Lf [VL .az y.1,VL .dw y.2.1,VL .str y.2.2.1] [VL .az (if aN l=true/\q1 then l.map (dR now) else l),VL .dw (if aN l=true/\q1 then List.flatMap (iy now) l else[]),VL .str (if aN l=true/\q1 then List.flatMap (gL now) l else[])])
 dsimp only
 refine⟨bo,ae (fun h=> ?_) (fun h=>ae (fun h2=> ?_) (fun h2=> ?_))⟩
 ·have SA:¬(aN l=true/\0<=now/\now<=1000000000):=fun hh=>by rw[hh.1] at h;simp at h
  exact Lf3 (if_neg SA).symm (if_neg SA).symm (if_neg SA).symm
 ·have SA:¬(aN l=true/\0<=now/\now<=1000000000):=fun hh=>by simp[hh.2] at h2
  exact Lf3 (if_neg SA).symm (if_neg SA).symm (if_neg SA).symm
 have ht:aN l=true:=by simpa using h
 have hw:0<=now/\now<=1000000000:=by simpa using h2
 have SA:aN l=true/\0<=now/\now<=1000000000:=⟨ht,hw⟩
 clear h h2
 refine⟨⟨by omega,by omega,by simp,by simp,by simp⟩,?_⟩
 rintro⟨out,calls,failed,i,⟨⟩⟩ ⟨h1,h2,rfl,rfl,rfl⟩
 have hl:=Ca (dR now) l h1 h2
 have hlen:=yb ht
 have ix:=qe (iy now) (Hz now) (l.take i.toNat)
 have Cj:=qe (gL now) (vY now) (l.take i.toNat)
 rw[oq] at ix Cj
 simp only
 refine ae ?_ ?_<;>intro hc
 ·have hc:=yT hc
  have hc:i<l.length:=by omega
  have hi:i.toNat<l.length:=by omega
  have hg:=yA _ l aC (Ik (dR now) l h1 h2) h1 hc
  obtain⟨s1,s2,s3,s4,s5⟩:=Af (mA ht hi)
  have Nw:=vW (iy now) l aC h1 hc
  have Qc:=vW (gL now) l aC h1 hc
  have hM:=fun F hF=>yC (dR now) l aC F h1 hc hF
  have hS:=fun hF=>yB (dR now) l aC h1 hc hF
  have hb:=xB ((l.getD i.toNat aC).bh+1)
  generalize hRR:(l.map (dR now)).take i.toNat++l.drop i.toNat=R at*
  rw[wi (n:=i+1)]
  simp(disch:=first|omega|(simp only[Kk];omega)) only[getD_modify,lW,Kk,hl,hg]
  generalize hT:l.getD i.toNat aC=t at*
  simp(disch:=omega) only[wrap_i64,fP,fz]
  repeat' (first|refine And.intro (by omega) ?_|refine ae (fun h=> ?_) (fun h=> ?_)|fail)
  all_goals simp only[qK,Bool.not_eq_false',decide_eq_true_eq,decide_eq_false_iff_not,beq_iff_eq,beq_eq_false_iff_ne] at*
  all_goals first
   |(have hd:due now t=true:=by first|assumption|(simp only[due];grind)
     have e1:iy now t=[]:=by simp only[iy];exact if_neg (by simp_all)
     have e2:gL now t=[bi t.F]:=by simp only[gL];exact if_pos ⟨hd,by assumption⟩
     rw[e1,uJ] at Nw
     rw[e2] at Qc
     rw[hM _ (by simp only[dR,hd,if_true];rw[if_pos (by assumption)])]
     exact⟨⟨by omega,by omega,rfl,Nw,Qc⟩,by simp only[rU];omega⟩)
   |(have hd:due now t=true:=by first|assumption|(simp only[due];grind)
     have e1:iy now t=[⟨bi t.F,t.F,t.bh+1⟩]:=by simp only[iy];exact if_pos ⟨hd,by assumption⟩
     have e2:gL now t=[]:=by simp only[gL];exact if_neg (by simp_all)
     rw[e2,uJ] at Qc
     rw[e1] at Nw
     rw[hM _ (by simp only[dR,hd,if_true];rw[if_neg (by assumption)])]
     exact⟨⟨by omega,by omega,rfl,Nw,Qc⟩,by simp only[rU];omega⟩)
   |(have hd:due now t=false:=by first|assumption|(simp only[due];grind)
     have e1:iy now t=[]:=by simp only[iy];exact if_neg (by simp_all)
     have e2:gL now t=[]:=by simp only[gL];exact if_neg (by simp_all)
     rw[e1,uJ] at Nw
     rw[e2,uJ] at Qc
     have hs:=hS (by simp only[dR,hd];rfl)
     exact⟨⟨by omega,by omega,hs,Nw,Qc⟩,by simp only[rU];omega⟩)
 ·have hc:=yF hc
  rw[cA l (by omega)]
  exact Lf3 ((yD (i:=i) (dR now) l (by omega)).trans (if_pos SA).symm) (if_pos SA).symm (if_pos SA).symm
theorem Ej{l:List ao}{f:ao->ao}{k:Nat}(hF:∀t,(f t).F=t.F)(hk:k<l.length)(hf:gp (f (l.getD k aC))=true)(h:aN l=true):aN (l.modify k f)=true:=by
 rw[mN] at h⊢
 refine⟨by simpa using h.1,fun t ht=> ?_,by rw[pc _ _ hF];exact h.2.2⟩
 obtain⟨i,hi,rfl⟩:=sT ht
 have qH:i<l.length:=by simpa using hi
 rw[List.getElem_modify]
 split
 ·rename_i Wd
  subst Wd
  rw[eV,fE hk] at hf
  exact hf
 ·exact h.2.1 _ (D5 qH)
theorem rJ{l:List ao}{key:BA}{ok:Bool}{v:a_}(h:aN l=true):aN (bC l key ok v).1=true:=by
 unfold bC;split
 ·rename_i hc
  split
  ·have hk:=pF (l:=l) (key:=key) hc.2.2.1
   refine Ej (fun _=>rfl) hk ?_ h
   obtain⟨a1,a2,a3,a4,a5,a6,a7⟩:=gj.1 (mA h hk)
   refine gj.2 ⟨a1,a2,?_,a4,a5,.inr hc.2.1,?_⟩
   ·simp only[tc];split<;>omega
   ·simp only[tc];split<;>simp
  ·exact h
 ·exact h
theorem w7(f:aL):(bi f).size<=200:=by
 unfold bi;split
 ·rename_i h
  obtain⟨h1,h2,h3,h4⟩:=jc h
  have:=yG f.ag h2
  rw[fZ];simp only[kF,pj,xY,fP,fz];omega
 ·simp[ai]
theorem Pd{l:List bp}{u:bp}(h:dz l=true)(hl:l.length<30)(hk:1<=u.Key.size/\u.Key.size<=200)(hf:bE u.F=true)(hn:vk l u.Key=false):dz (l++[u])=true:=by
 simp only[dz,cN,decide_eq_true_eq] at h⊢
 have hlen:(l++[u]).length=l.length+1:=by simp
 refine⟨by omega,zr.2 fun j hj=> ?_⟩
 have g:∀k,k<l.length->(l++[u]).getD k bZ=l.getD k bZ:=fun k hk=>by rw[eV,eV,zY hk]
 rcases pt j l.length with hjl|hjl
 ·have:=zr.1 h.2 j hjl
  unfold jK at this⊢
  rw[g j hjl]
  rw[<-this]
  congr 2
  exact n_ fun k hk=>by rw[g k (by omega)]
 ·have:j=l.length:=by omega
  subst this
  have gl:(l++[u]).getD l.length bZ=u:=by rw[eV,z_ (uh _)];simp
  unfold jK
  rw[gl,hf]
  have:(anyI l.length fun k=>decide (((l++[u]).getD k bZ).Key=u.Key))=false:=by
   rw[<-hn]
   exact n_ fun k hk=>by rw[g k hk]
  rw[this]
  simp only[W9,B6,decide_eq_true_eq];exact hk
theorem IJ{f:aL}(h:bE f=true):1<=(bi f).size:=by
 rw[bi,if_pos h,fZ];simp only[kF,xY,fP];omega
theorem K5{l:List bp}{t:ao}(h:k9 l t=true):dz (cV l t).1=true:=by
 rw[cV,if_pos h]
 simp only[k9,cN,qK,decide_eq_false_iff_not] at h
 obtain⟨⟨⟨⟨h1,h2⟩,h3⟩,h4⟩,h5⟩:=h
 have:=w7 t.F
 have:=IJ h2
 refine Pd h1 (by omega) ⟨by assumption,by assumption⟩ ?_ h4
 have h6:=h2
 simp only[bE,cN] at h6⊢
 exact⟨⟨h3,h6.1.2⟩,h6.2⟩
theorem x_{l:List bp}(n:Nat)(h:dz l=true):dz (l.take n)=true:=by
 simp only[dz,cN,decide_eq_true_eq] at h⊢
 have hg:∀k,k<(l.take n).length->(l.take n).getD k bZ=l.getD k bZ:=fun k hk=>by
  rw[eV,eV,qy,if_pos (by simp at hk;omega)]
 refine⟨by have:=h.1;simp only[oq];omega,gb.2 fun i hi=> ?_⟩
 have h2:=gb.1 h.2 i (by simp at hi;omega)
 simp only[jK] at h2⊢
 rw[hg i hi,n_ (q:=fun k=>decide ((l.getD k bZ).Key=(l.getD i bZ).Key)) fun k hk=>by rw[hg k (by omega)]]
 exact h2
def oJ(x:aq):aq:=gZ ⟨x.S,x.aA,x.aj,x.ap,x.ax.take (x.ax.length-1),x.State,x.cd⟩
theorem Hf{x:aq}(h:cH x):cH ⟨x.S,x.aA,x.aj,x.ap,x.ax.take (x.ax.length-1),x.State,x.cd⟩:=⟨h.1,x_ _ h.2.1,h.2.2⟩
def mV(f:aL)(word:BA)(v:a_):aL:=⟨f.Kind,[⟨2,0,word⟩,v]⟩
def bOk:BA:=⟨#[111,107]⟩
def TB:BA:=⟨#[110,111]⟩
def Ks(ok:Bool):BA:=if ok=true then bOk else TB
def qR(x:aq)(l:List ao):aq:=⟨x.S,x.aA,l,x.ap,x.ax,x.State,x.cd⟩
def D8(x:aq)(l:List bp):aq:=⟨x.S,x.aA,x.aj,x.ap,l,x.State,x.cd⟩
def GH(x:aq)(k:Nat)(ok:Bool)(v:a_):aq:=
 if x.State≠1 then oJ x
 else if ok=true/\(x.aj.getD k aC).aW≠ai then
  (if(cV x.ax (x.aj.getD k aC)).2=true then cJ (D8 x (cV x.ax (x.aj.getD k aC)).1) (mV (x.aj.getD k aC).F (Ks ok) v) else fX x 3)
 else cJ x (mV (x.aj.getD k aC).F (Ks ok) v)
def ke(x:aq)(key:BA)(ok:Bool)(v:a_):aq×Int:=
 if(bC x.aj key ok v).2=1 then(GH (qR x (bC x.aj key ok v).1) (aU (bC x.aj key ok v).1 key).toNat ok v,1) else(x,(bC x.aj key ok v).2)
theorem OU{x:aq}{k:Nat}{ok:Bool}{v:a_}(h:x.State=1):GH x k ok v=if ok=true/\(x.aj.getD k aC).aW≠ai then
  (if(cV x.ax (x.aj.getD k aC)).2=true then cJ (D8 x (cV x.ax (x.aj.getD k aC)).1) (mV (x.aj.getD k aC).F (Ks ok) v) else fX x 3)
 else cJ x (mV (x.aj.getD k aC).F (Ks ok) v):=if_neg (by omega)
theorem Fi{x:aq}(h:cH x){t:ao}(hp:(cV x.ax t).2=true):cH (D8 x (cV x.ax t).1):=by
 refine⟨h.1,?_,h.2.2⟩
 by_cases hc:k9 x.ax t=true
 ·exact K5 hc
 ·rw[cV,if_neg hc] at hp;cases hp
theorem LC{x:aq}{key:BA}{ok:Bool}{v:a_}(h:cH x):cH (qR x (bC x.aj key ok v).1):=⟨rJ h.1,h.2⟩
theorem M0{l:List ao}{key:BA}{ok:Bool}{v:a_}(h:¬(bC l key ok v).2=1):(bC l key ok v).1=l:=by
 unfold bC at h⊢
 split
 ·rename_i h1
  rw[if_pos h1] at h
  split
  ·rename_i h2
   rw[if_pos h2] at h;exact absurd rfl h
  ·rfl
 ·rfl
theorem KU{l:List ao}{key:BA}{ok:Bool}{v:a_}(h:(bC l key ok v).2=1):0<=aU (bC l key ok v).1 key/\aU (bC l key ok v).1 key<((bC l key ok v).1.length:Int):=by
 have h1:aN l=true/\bR v=true/\0<=aU l key/\(l.getD (aU l key).toNat aC).State≠1:=Classical.byContradiction fun c=>by rw[ta c] at h;simp at h
 have h2:(l.getD (aU l key).toNat aC).State=2:=Classical.byContradiction fun c=>by rw[vL h1 c] at h;simp at h
 have e:=congrArg Prod.fst (Al (key:=key) (ok:=ok) (v:=v) h1 h2)
 have hk:=pF (l:=l) (key:=key) h1.2.2.1
 have e3:aU (bC l key ok v).1 key=aU l key:=by
  rw[e];unfold aU
  rw[Kk]
  refine tp fun j hj=> ?_
  congr 2
  rw[eV,eV,Zz,fE hj]
  show bi (((if _=j then tc ok v l[j] else l[j])).F)=bi (l[j]).F
  split<;>rfl
 rw[e3,e,Kk];omega
def aoC:=bW (α:=aL×BA×a_) (qC (qA .db) (qC qS (q1 (qA .bf)))) [.ro,.ro,.ro] (fun _=>[]) (fun(f,word,v)=>⟨[dA .db (mV f word v)],[],[]⟩)
def apf:HH:=hF aoC func58 [] a0 fun x hp hb=>by
 obtain⟨f,word,v⟩:=x
 clear hp hb
 apply vE (Lf [DV.agg [CS f.Kind,CL .bf [{K:=(2:Int),N:=(0:Int),S:=word:a_},v]]] [DV.agg [CS ((mV f word v).Kind),CL .bf (mV f word v).ag]])
 exact aY _
def ahf:=bW (α:=aL×BA×a_) (qC (qA .db) (qC qS (q1 (qA .bf)))) [.ro,.ro,.ro] (fun _=>[]) (fun(f,word,v)=>⟨[dA .db (mV f word v)],[],[]⟩)
def Zk:HH:=hF ahf func126 [] a0 fun x hp hb=>by
 obtain⟨f,word,v⟩:=x
 clear hp hb
 apply vE (Lf [DV.agg [CS f.Kind,CL .bf [{K:=(2:Int),N:=(0:Int),S:=word:a_},v]]] [DV.agg [CS ((mV f word v).Kind),CL .bf (mV f word v).ag]])
 exact aY _
def aoA:=bW (α:=aq) (q1 (qX .cp)) [.box true] (fun x=>[cH x,x.State=3\/x.State=5]) (fun x=>⟨[],[],[dX .cp (oJ x)]⟩)
def apd:HH:=hF aoA func60 [ajh,Zl] a0 fun(x:aq) hp hb=>by
 have bo:cH x:=hp _ m0
 have eJ:x.State=3\/x.State=5:=hp _ m1
 clear hp hb
 apply vE (let x1:={S:=x.S,aA:=x.aA,aj:=x.aj,ap:=x.ap,ax:=x.ax.take (x.ax.length-1),State:=x.State,cd:=x.cd:aq};let x0:=gZ x1;L4 (bN x.ax)/\cH x1/\(x.State=3\/x.State=5)/\LM [] [] [DV.box (aG x0)] [DV.box (aG (oJ x))])
 dsimp only
 have:=(xb bo.2.1).2.2
 exact⟨by omega,Hf bo,eJ,rfl,rfl,rfl⟩
def ahe:=bW (α:=aq) (q1 (qX .cp)) [.box true] (fun x=>[cH x,x.State=3\/x.State=5]) (fun x=>⟨[],[],[dX .cp (oJ x)]⟩)
def Zj:HH:=hF ahe func127 [aiD,Zc] a0 fun(x:aq) hp hb=>by
 have bo:cH x:=hp _ m0
 have eJ:x.State=3\/x.State=5:=hp _ m1
 clear hp hb
 apply vE (let x1:={S:=x.S,aA:=x.aA,aj:=x.aj,ap:=x.ap,ax:=x.ax.take (x.ax.length-1),State:=x.State,cd:=x.cd:aq};let x0:=gZ x1;L4 (bN x.ax)/\cH x1/\(x.State=3\/x.State=5)/\LM [] [] [DV.box (aG x0)] [DV.box (aG (oJ x))])
 dsimp only
 have:=(xb bo.2.1).2.2
 exact⟨by omega,Hf bo,eJ,rfl,rfl,rfl⟩
def agJ:=bW (α:=aq×Int×Bool×a_) (qC (qX .cp) (qC qI (qC qO (q1 (qA .bf))))) [.box true,.ro,.ro,.ro] (fun(x,k,ok,v)=>[cH x,bq x.S=true,0<=k/\k<x.aj.length,x.State=1\/x.State=3\/x.State=5]) (fun(x,k,ok,v)=>⟨[],[],[dX .cp (GH x k.toNat ok v)]⟩)
def ail:HH:=hF agJ func210 [Zj,Y_,Mu,Zk,TW] a0 fun x hp hb=>by
 obtain⟨x,k,ok,v⟩:=x
 have ey:=ld (x:=x) (hb _ m0)
 have ee:=ey.1
 have fL:=ey.2.1
 have fK:=ey.2.2.1
 have e6:=ey.2.2.2.1
 have fJ:=ey.2.2.2.2
 have aez:=zk (n:=k) (hb _ m1)
 have anG:=WI (x:=v) (hb _ m3)
 have bo:cH x:=hp _ m0
 have eJ:bq x.S=true:=hp _ m1
 have G':0<=k/\k<x.aj.length:=hp _ m2
 have hp3:x.State=1\/x.State=3\/x.State=5:=hp _ m3
 clear hp hb
 apply vE (let x8:=x.aj.getD k.toNat aC;let x9:= !x8.aW.toList==ByteArray.toList {data:= #[]:BA};let x2:={S:=x.S,aA:=x.aA,aj:=x.aj,ap:=x.ap,ax:=(cV {τ:=Cd.aQ,xs:=x.ax:iE UU}.xs {F:={Kind:=x8.F.Kind,ag:={τ:=Cd.bf,xs:=(List.getD {τ:=Cd.az,xs:=x.aj:iE UU}.xs k.toNat (UU.ff {τ:=Cd.az,xs:=x.aj:iE UU}.τ)).F.ag:iE UU}.xs:aL},aW:=x8.aW,State:=x8.State,bh:=x8.bh,iz:=x8.iz,V:={K:=x8.V.K,N:=x8.V.N,S:=x8.V.S:a_}:ao}).1,State:=x.State,cd:=x.cd:aq};let x5:= !(cV {τ:=Cd.aQ,xs:=x.ax:iE UU}.xs {F:={Kind:=x8.F.Kind,ag:={τ:=Cd.bf,xs:=(List.getD {τ:=Cd.az,xs:=x.aj:iE UU}.xs k.toNat (UU.ff {τ:=Cd.az,xs:=x.aj:iE UU}.τ)).F.ag:iE UU}.xs:aL},aW:=x8.aW,State:=x8.State,bh:=x8.bh,iz:=x8.iz,V:={K:=x8.V.K,N:=x8.V.N,S:=x8.V.S:a_}:ao}).2;let x6:=mV x8.F {data:= #[110,111]:BA} v;let x7:=mV x8.F {data:= #[111,107]:BA} v;let x0:=cJ x2 x7;let x1:=cJ x2 x6;let x3:=cJ x x6;let x4:=cJ x x7;let q0:=aG (GH x k.toNat ok v);let q1:=k.toNat<x.aj.length/\cH x/\bq x.S=true/\L4 x7.ag.length/\LM [] [] [DV.box (aG x4)] [DV.box q0];let q2:=k.toNat<x.aj.length/\cH x/\bq x.S=true/\L4 x6.ag.length/\LM [] [] [DV.box (aG x3)] [DV.box q0];let q3:=cH x/\((3:Int)=(3:Int)\/(3:Int)=(5:Int))/\LM [] [] [DV.box (aG (fX x 3))] [DV.box q0];0<=k/\k.toNat<x.aj.length/\k.toNat<x.aj.length/\bif x.State !=1 then cH x/\(x.State=3\/x.State=5)/\LM [] [] [DV.box (aG (oJ x))] [DV.box q0] else bif ok then bif ok then bif x9 then k.toNat<x.aj.length/\L4 (bN x.ax)/\L4 x8.F.ag.length/\bif x5 then q3 else k.toNat<x.aj.length/\cH x2/\bq x.S=true/\L4 x7.ag.length/\LM [] [] [DV.box (aG x0)] [DV.box q0] else q1 else q1 else bif ok then bif x9 then k.toNat<x.aj.length/\L4 (bN x.ax)/\L4 x8.F.ag.length/\bif x5 then q3 else k.toNat<x.aj.length/\cH x2/\bq x.S=true/\L4 x6.ag.length/\LM [] [] [DV.box (aG x1)] [DV.box q0] else q2 else q2)
 dsimp only
 have UD:=bo
 obtain⟨q1,q2,q3,q4⟩:=bo
 have hk:k.toNat<x.aj.length:=by omega
 have k3:=(xb q2).2.2
 have Qe:=(qi (gj.1 (mA q1 hk)).1).1
 rw[aO]
 refine⟨G'.1,hk,hk,mI (fun hs=>⟨UD,by omega,by trivial,by trivial,mE ?_⟩) (fun hs=> ?_)⟩
 ·exact(if_pos hs).symm
 have e0:=OU (k:=k.toNat) (ok:=ok) (v:=v) hs
 cases ok with
 |false=>
  simp only[cond_false]
  exact⟨hk,UD,eJ,by simp[mV],by trivial,by trivial,mE (e0.trans (if_neg (by simp))).symm⟩
 |true=>
  simp only[cond_true]
  refine bx ?_ ?_<;>intro g
  ·have g:¬(x.aj.getD k.toNat aC).aW=ai:=yF g
   refine⟨hk,by omega,by omega,bx (fun p=> ?_) (fun p=> ?_)⟩
   ·have p:(cV x.ax (x.aj.getD k.toNat aC)).2=false:=p
    exact⟨UD,.inl (by trivial),by trivial,by trivial,mE (e0.trans ((if_pos ⟨rfl,g⟩).trans (if_neg (by rw[p];decide)))).symm⟩
   ·have p:(cV x.ax (x.aj.getD k.toNat aC)).2=true:=p
    exact⟨hk,Fi UD p,eJ,by simp[mV],by trivial,by trivial,mE (e0.trans ((if_pos ⟨rfl,g⟩).trans (if_pos p))).symm⟩
  ·have g:(x.aj.getD k.toNat aC).aW=ai:=yT g
   exact⟨hk,UD,eJ,by simp[mV],by trivial,by trivial,mE (e0.trans (if_neg (fun c=>c.2 g))).symm⟩
def ag3:=bW (α:=aq×BA×Bool×a_) (qC (qX .cp) (qC qS (qC qO (q1 (qA .bf))))) [.box true,.ro,.ro,.ro] (fun(x,key,ok,v)=>[cH x,bq x.S=true,bR v=true,(bC x.aj key ok v).2=1->x.State=1\/x.State=3\/x.State=5]) (fun(x,key,ok,v)=>⟨[dI ((ke x key ok v).2)],[],[dX .cp ((ke x key ok v).1)]⟩)
def aiU:HH:=hF ag3 func160 [Za,ab6,ail] a0 fun x hp hb=>by
 obtain⟨x,key,ok,v⟩:=x
 have bo:cH x:=hp _ m0
 have eJ:bq x.S=true:=hp _ m1
 have G':bR v=true:=hp _ m2
 have hp3:(bC x.aj key ok v).2=1->x.State=1\/x.State=3\/x.State=5:=hp _ m3
 clear hp hb
 apply vE (let x1:=aU (bC {τ:=Cd.az,xs:=x.aj:iE UU}.xs key ok {K:=v.K,N:=v.N,S:=v.S:a_}).1 key;let x2:={S:=x.S,aA:=x.aA,aj:=(bC {τ:=Cd.az,xs:=x.aj:iE UU}.xs key ok {K:=v.K,N:=v.N,S:=v.S:a_}).1,ap:=x.ap,ax:=x.ax,State:=x.State,cd:=x.cd:aq};let x0:=GH x2 x1.toNat ok v;let q0:=bC {τ:=Cd.az,xs:=x.aj:iE UU}.xs key ok {K:=v.K,N:=v.N,S:=v.S:a_};let q1:=ke x key ok v;aN x.aj=true/\bR v=true/\bif q0.2==1 then cH x2/\bq x.S=true/\(0<=x1/\x1<(↑(q0.1.length):Int))/\(x.State=1\/x.State=3\/x.State=5)/\LM [VI (q0.2)] [VI (q1.2)] [DV.box (aG x0)] [DV.box [CL .aJ q1.1.S.ab,CI (q1.1.S.Next),CL .aB q1.1.aA,CL .az q1.1.aj,CL .aE q1.1.ap,CL .aQ q1.1.ax,CI (q1.1.State),CI (q1.1.cd)]] else LM [VI (q0.2)] [VI (q1.2)] [DV.box [CL .aJ x.S.ab,CI x.S.Next,CL .aB x.aA,CL .az q0.1,CL .aE x.ap,CL .aQ x.ax,CI x.State,CI x.cd]] [DV.box [CL .aJ q1.1.S.ab,CI (q1.1.S.Next),CL .aB q1.1.aA,CL .az q1.1.aj,CL .aE q1.1.ap,CL .aQ q1.1.ax,CI (q1.1.State),CI (q1.1.cd)]])
 dsimp only
 have UD:=bo
 have gy:=KU (l:=x.aj) (key:=key) (ok:=ok) (v:=v)
 refine⟨bo.1,G',bg (fun h=> ?_) (fun h=> ?_)⟩
 ·have e:ke x key ok v=(GH (qR x (bC x.aj key ok v).1) (aU (bC x.aj key ok v).1 key).toNat ok v,1):=if_pos h
  exact⟨LC UD,eJ,gy h,hp3 h,by trivial,akA (h.trans (congrArg Prod.snd e).symm),mE (congrArg Prod.fst e).symm⟩
 ·have e:ke x key ok v=(x,(bC x.aj key ok v).2):=if_neg h
  have e2:=M0 (l:=x.aj) (key:=key) (ok:=ok) (v:=v) h
  exact⟨by trivial,akA (congrArg Prod.snd e).symm,mE (a:=qR x (bC x.aj key ok v).1) ((congrArg (qR x) e2).trans (congrArg Prod.fst e).symm)⟩
def ko:List bT->BA->a_×Bool
 |[],_=>(dK,false)
 |b::l,n=>if b.Name=n then(b.V,true) else ko l n
theorem L_(l:List bT)(n:BA){i:Int}(h0:0<=i)(h:i<l.length):ko (l.drop i.toNat) n=if(l.getD i.toNat ui).Name=n then((l.getD i.toNat ui).V,true) else ko (l.drop (i+1).toNat) n:=by
 rw[e_ l ui h0 h];rfl
def cB(a:cM)(l:List bT):a_×Bool:=if a.K=2 then(a.V,true) else if a.K=1 then ko l a.S else(dK,false)
def RY(n:Int):a_:=⟨1,n,ai⟩
def nc(a b:a_):Bool:=decide (a.K=1)&&decide (b.K=1)&&bR a&&bR b
def jf(a b:a_)(n:Int):Bool:=nc a b&&bR (RY n)
def nB(a b:a_)(n:Int):a_:=if jf a b n then RY n else dK
theorem Lr{a b:a_}(h:nc a b=true):(-1000000000<=a.N/\a.N<=1000000000)/\(-1000000000<=b.N/\b.N<=1000000000):=by
 simp only[nc,cN,decide_eq_true_eq] at h
 obtain⟨⟨⟨h1,h2⟩,h3⟩,h4⟩:=h
 simp only[bR,h1,h2,decide_true,cond_true,cN,decide_eq_true_eq] at h3 h4
 exact⟨h3.1,h4.1⟩
theorem El(a b:a_)(n:Int)(h:nc a b=true->IntKind.wrap .i64 n=n):jf a b (IntKind.wrap .i64 n)=jf a b n:=by
 cases hi:nc a b with
 |false=>simp only[jf,hi,qx]
 |true=>rw[h hi]
theorem GQ(a b:a_)(n:Int)(h:nc a b=true->IntKind.wrap .i64 n=n):nB a b (IntKind.wrap .i64 n)=nB a b n:=by
 cases hi:nc a b with
 |false=>simp only[nB,jf,hi,qx];rfl
 |true=>rw[h hi]
def rq(e:cv)(l:List bT):a_×Bool:=
 if(cB e.L l).2=false then(dK,false) else if e.Op=ai then((cB e.L l).1,true) else if(cB e.R l).2=false then(dK,false)
 else if e.Op=FL then(nB (cB e.L l).1 (cB e.R l).1 ((cB e.L l).1.N+(cB e.R l).1.N),jf (cB e.L l).1 (cB e.R l).1 ((cB e.L l).1.N+(cB e.R l).1.N))
 else if e.Op=xC then(nB (cB e.L l).1 (cB e.R l).1 ((cB e.L l).1.N-(cB e.R l).1.N),jf (cB e.L l).1 (cB e.R l).1 ((cB e.L l).1.N-(cB e.R l).1.N)) else(dK,false)
def vm(l:List bT)(e:cv):a_:=(rq e l).1
def vn(l:List bT)(e:cv):Bool:=(rq e l).2
def np(es:List cv)(l:List bT):Bool:=es.all (vn l)
def nl(es:List cv)(l:List bT):List a_:=if np es l then es.map (vm l) else[]
theorem Zv{a a':a_}{b b':Bool}(h1:a=a')(h2:b=b'):Lf [.agg [CI a.K,CI a.N,.lit (.string a.S)],.one (.lit (.bool b))] [.agg [CI a'.K,CI a'.N,.lit (.string a'.S)],.one (.lit (.bool b'))]:=by
 subst h1 h2;exact aY _
theorem akC{a a':List a_}{b b':Bool}(h1:a=a')(h2:b=b'):Lf [.one (.sl .bf a),.one (.lit (.bool b))] [.one (.sl .bf a'),.one (.lit (.bool b'))]:=by
 subst h1 h2;exact aY _
theorem Ek{a b:a_}{n:Int}(h:jf a b n=false):Lf [.agg [CI 0,CI 0,.lit (.string ⟨#[]⟩)],.one (.lit (.bool false))] [.agg [CI ((nB a b n).K),CI ((nB a b n).N),.lit (.string (nB a b n).S)],.one (.lit (.bool (jf a b n)))]:=
 Zv (a:=dK) (by simp only[nB,h];rfl) h.symm
theorem UX{a b:a_}{n:Int}(h:jf a b n=true):Lf [.agg [CI 1,CI n,.lit (.string ⟨#[]⟩)],.one (.lit (.bool true))] [.agg [CI ((nB a b n).K),CI ((nB a b n).N),.lit (.string (nB a b n).S)],.one (.lit (.bool (jf a b n)))]:=
 Zv (a:=RY n) (by simp only[nB,h];rfl) h.symm
theorem Mh{a b:a_}(h:nc a b=true):IntKind.wrap .i64 (a.N+b.N)=a.N+b.N:=by
 have:=Lr h
 exact wi
theorem KD{a b:a_}(h:nc a b=true):IntKind.wrap .i64 (a.N-b.N)=a.N-b.N:=by
 have:=Lr h
 exact wi
def XY:=bW (α:=(List bT)×BA) (qC (qL .cw) (q1 qS)) [.ro,.ro] (fun _=>[]) (fun(l,name)=>⟨[dA .bf ((ko l name).1),dO ((ko l name).2)],[],[]⟩)
def Dh(l:List bT)(name:BA):Int×T21×Unit->Prop:=fun(i,r,_)=>r=(0,0,ai,())/\0<=i/\i<=l.length/\ko (l.drop i.toNat) name=ko l name
def Cw(l:List bT)(name:BA):Int×T21×Unit->Nat:=fun(i,r,_)=>l.length-i.toNat
def ajw:AX XY:=fun(l,name)=>bS [(2,aT [iI 6,.box 4 (4,1024) [.lit (.int .i64),.lit (.int .i64),.lit .str]] (fun _=>Dh l name) (Cw l name))]
def YZ:HH:=hF XY func264 [] ajw fun x hp hb=>by
 obtain⟨l,name⟩:=x
 have jQ:L9 l.length:=kG (hb _ m0)
 have Cg:=ON (s:=name) (hb _ m1)
 clear hp hb
 apply vE (let q0:=ko l name;Dh l name (0,(0,0,{data:= #[]:BA},()),())/\∀(y:Int×(Int×Int×BA×PUnit)×PUnit),let x0:=(l.getD y.1.toNat ui).V;let q1:=(wrap i64 (y.1+1),(y.2.1.1,y.2.1.2.1,y.2.1.2.2.1,()),());Dh l name y->bif decide (y.1<(l.length:Int)) then 0<=y.1/\y.1.toNat<l.length/\bif (l.getD y.1.toNat ui).Name.toList==name.toList then 0<=y.1/\y.1.toNat<l.length/\Lf [DV.agg [CI x0.K,CI x0.N,CS x0.S],VB true] [DV.agg [CI (q0.1.K),CI (q0.1.N),CS (q0.1.S)],VB (q0.2)] else Dh l name q1/\Cw l name q1<Cw l name y else Lf [DV.agg [CI 0,CI 0,CS ({data:= #[]:BA})],VB false] [DV.agg [CI (q0.1.K),CI (q0.1.N),CS (q0.1.S)],VB (q0.2)])
 dsimp only
 refine⟨⟨rfl,by omega,by omega,rfl⟩,?_⟩
 rintro⟨i,⟨r1,r2,r3,⟨⟩⟩,⟨⟩⟩ ⟨hr,h1,h2,hR⟩
 cases hr
 simp only
 refine aR ?_ ?_<;>intro hc
 ·rw[L_ l name h1 hc] at hR
  rw[aO]
  refine⟨by omega,by omega,aR (fun g=> ?_) (fun g=> ?_)⟩
  ·rw[if_pos g] at hR;rw[<-hR];exact⟨by omega,by omega,aY _⟩
  ·rw[if_neg g] at hR;rw[wi];exact⟨⟨rfl,by omega,by omega,hR⟩,by simp only[Cw];omega⟩
 ·have e:l.drop i.toNat=[]:=List.drop_eq_nil_of_le (by omega)
  rw[e] at hR;rw[<-hR];exact aY _
def age:=bW (α:=cM×(List bT)) (qC (qA .gM) (q1 (qL .cw))) [.ro,.ro] (fun _=>[]) (fun(a,l)=>⟨[dA .bf ((cB a l).1),dO ((cB a l).2)],[],[]⟩)
def YY:HH:=hF age func265 [YZ] a0 fun x hp hb=>by
 obtain⟨a,l⟩:=x
 clear hp hb
 apply vE (let q0:=cB a l;let q1:=ko l a.S;bif a.K==2 then Lf [DV.agg [CI a.V.K,CI a.V.N,CS a.V.S],VB true] [DV.agg [CI (q0.1.K),CI (q0.1.N),CS (q0.1.S)],VB (q0.2)] else bif a.K==1 then Lf [DV.agg [CI (q1.1.K),CI (q1.1.N),CS (q1.1.S)],VB (q1.2)] [DV.agg [CI (q0.1.K),CI (q0.1.N),CS (q0.1.S)],VB (q0.2)] else Lf [DV.agg [CI 0,CI 0,CS ({data:= #[]:BA})],VB false] [DV.agg [CI (q0.1.K),CI (q0.1.N),CS (q0.1.S)],VB (q0.2)])
 dsimp only
 refine bg (fun h=> ?_) (fun h=>bg (fun h'=> ?_) (fun h'=> ?_))
 ·have e:cB a l=(a.V,true):=if_pos h
  rw[e];exact aY _
 ·have e:cB a l=ko l a.S:=(if_neg h).trans (if_pos h')
  rw[e];exact aY _
 ·have e:cB a l=(dK,false):=(if_neg h).trans (if_neg h')
  rw[e];exact aY _
def af_:=bW (α:=a_×a_×Int) (qC (qA .bf) (qC (qA .bf) (q1 qI))) [.ro,.ro,.ro] (fun _=>[]) (fun(a,b,n)=>⟨[dA .bf (nB a b n),dO (jf a b n)],[],[]⟩)
def YX:HH:=hF af_ func273 [O5] a0 fun x hp hb=>by
 obtain⟨a,b,n⟩:=x
 clear hp hb
 apply vE (let q0:=Lf [DV.agg [CI 0,CI 0,CS ({data:= #[]:BA})],VB false] [DV.agg [CI ((nB a b n).K),CI ((nB a b n).N),CS ((nB a b n).S)],VB (jf a b n)];bif a.K !=1 then q0 else bif b.K !=1 then q0 else bif !bR a then q0 else bif !bR b then q0 else bif !bR {K:=(1:Int),N:=n,S:={data:= #[]:BA}:a_} then q0 else Lf [DV.agg [CI 1,CI n,CS ({data:= #[]:BA})],VB true] [DV.agg [CI ((nB a b n).K),CI ((nB a b n).N),CS ((nB a b n).S)],VB (jf a b n)])
 dsimp only
 refine mI (fun h=>Ek ?_) (fun h1=>mI (fun h=>Ek ?_) (fun h2=>bx (fun h=>Ek ?_) (fun h3=>bx (fun h=>Ek ?_) (fun h4=>bx (fun h=>Ek ?_) (fun h5=>UX ?_)))))
 ·simp only[jf,nc,decide_eq_false h,qx]
 ·simp only[jf,nc,decide_eq_false h,qx,vC]
 ·simp only[jf,nc,show bR a=false from h,qx,vC]
 ·simp only[jf,nc,show bR b=false from h,qx,vC]
 ·simp only[jf,show bR (RY n)=false from h,vC]
 ·simp only[jf,nc,show bR a=true from h3,show bR b=true from h4,show bR (RY n)=true from h5,decide_eq_true h1,decide_eq_true h2];rfl
def agd:=bW (α:=a_×a_) (qC (qA .bf) (q1 (qA .bf))) [.ro,.ro] (fun _=>[]) (fun(a,b)=>⟨[dA .bf (nB a b (a.N+b.N)),dO (jf a b (a.N+b.N))],[],[]⟩)
def ahK:HH:=hF agd func266 [YX] a0 fun x hp hb=>by
 obtain⟨a,b⟩:=x
 clear hp hb
 apply vE (let x2:=a.N+b.N;let x0:=nB a b (wrap i64 x2);let x1:=nB a b x2;Lf [DV.agg [CI x0.K,CI x0.N,CS x0.S],VB (jf a b (wrap i64 x2))] [DV.agg [CI x1.K,CI x1.N,CS x1.S],VB (jf a b x2)])
 dsimp only
 rw[El a b _ Mh,GQ a b _ Mh];exact aY _
def agc:=bW (α:=a_×a_) (qC (qA .bf) (q1 (qA .bf))) [.ro,.ro] (fun _=>[]) (fun(a,b)=>⟨[dA .bf (nB a b (a.N-b.N)),dO (jf a b (a.N-b.N))],[],[]⟩)
def ahJ:HH:=hF agc func267 [YX] a0 fun x hp hb=>by
 obtain⟨a,b⟩:=x
 clear hp hb
 apply vE (let x2:=a.N-b.N;let x0:=nB a b (wrap i64 x2);let x1:=nB a b x2;Lf [DV.agg [CI x0.K,CI x0.N,CS x0.S],VB (jf a b (wrap i64 x2))] [DV.agg [CI x1.K,CI x1.N,CS x1.S],VB (jf a b x2)])
 dsimp only
 rw[El a b _ KD,GQ a b _ KD];exact aY _
def agi:=bW (α:=cv×(List bT)) (qC (qA .bI) (q1 (qL .cw))) [.ro,.ro] (fun _=>[]) (fun(e,l)=>⟨[dA .bf (vm l e),dO (vn l e)],[],[]⟩)
def ahN:HH:=hF agi func259 [YY,ahK,ahJ] a0 fun x hp hb=>by
 obtain⟨e,l⟩:=x
 clear hp hb
 apply vE (let x4:=(cB {K:=e.L.K,S:=e.L.S,V:={K:=e.L.V.K,N:=e.L.V.N,S:=e.L.V.S:a_}:cM} l).1.N;let x5:=(cB {K:=e.R.K,S:=e.R.S,V:={K:=e.R.V.K,N:=e.R.V.N,S:=e.R.V.S:a_}:cM} l).1.N;let x2:=x4-x5;let x3:=x4+x5;let x0:=nB (cB {K:=e.L.K,S:=e.L.S,V:={K:=e.L.V.K,N:=e.L.V.N,S:=e.L.V.S:a_}:cM} l).1 (cB {K:=e.R.K,S:=e.R.S,V:={K:=e.R.V.K,N:=e.R.V.N,S:=e.R.V.S:a_}:cM} l).1 x2;let x1:=nB (cB {K:=e.L.K,S:=e.L.S,V:={K:=e.L.V.K,N:=e.L.V.N,S:=e.L.V.S:a_}:cM} l).1 (cB {K:=e.R.K,S:=e.R.S,V:={K:=e.R.V.K,N:=e.R.V.N,S:=e.R.V.S:a_}:cM} l).1 x3;let q0:=Lf [DV.agg [CI 0,CI 0,CS ({data:= #[]:BA})],VB false] [DV.agg [CI ((vm l e).K),CI ((vm l e).N),CS ((vm l e).S)],VB (vn l e)];let q1:=cB {K:=e.L.K,S:=e.L.S,V:={K:=e.L.V.K,N:=e.L.V.N,S:=e.L.V.S:a_}:cM} l;let q2:=cB {K:=e.R.K,S:=e.R.S,V:={K:=e.R.V.K,N:=e.R.V.N,S:=e.R.V.S:a_}:cM} l;let q3:=vm l e;bif !q1.2 then q0 else bif e.Op.toList==ByteArray.toList {data:= #[]:BA} then Lf [DV.agg [CI (q1.1.K),CI x4,CS (q1.1.S)],VB true] [DV.agg [CI (q3.K),CI (q3.N),CS (q3.S)],VB (vn l e)] else bif !q2.2 then q0 else bif e.Op.toList==ByteArray.toList {data:= #[43]:BA} then Lf [DV.agg [CI x1.K,CI x1.N,CS x1.S],VB (jf q1.1 q2.1 x3)] [DV.agg [CI (q3.K),CI (q3.N),CS (q3.S)],VB (vn l e)] else bif e.Op.toList==ByteArray.toList {data:= #[45]:BA} then Lf [DV.agg [CI x0.K,CI x0.N,CS x0.S],VB (jf q1.1 q2.1 x2)] [DV.agg [CI (q3.K),CI (q3.N),CS (q3.S)],VB (vn l e)] else q0)
 dsimp only
 have eL:(⟨e.L.K,e.L.S,⟨e.L.V.K,e.L.V.N,e.L.V.S⟩⟩:cM)=e.L:=rfl
 have eR:(⟨e.R.K,e.R.S,⟨e.R.V.K,e.R.V.N,e.R.V.S⟩⟩:cM)=e.R:=rfl
 simp only[eL,eR,aO]
 refine bx (fun h=> ?_) (fun h=>aR (fun h1=> ?_) (fun h1=>bx (fun h2=> ?_) (fun h2=>aR (fun h3=> ?_) (fun h3=>aR (fun h4=> ?_) (fun h4=> ?_)))))
 all_goals have hn:(cB e.L l).2=false->rq e l=(dK,false):=fun h=>if_pos h
 ·have e1:=hn h
  exact Zv (a:=dK) (congrArg Prod.fst e1).symm (congrArg Prod.snd e1).symm
 all_goals have h0:¬(cB e.L l).2=false:=by rw[h];decide
 ·have e1:rq e l=((cB e.L l).1,true):=(if_neg h0).trans (if_pos h1)
  exact Zv (congrArg Prod.fst e1).symm (congrArg Prod.snd e1).symm
 ·have e1:rq e l=(dK,false):=(if_neg h0).trans ((if_neg h1).trans (if_pos h2))
  exact Zv (a:=dK) (congrArg Prod.fst e1).symm (congrArg Prod.snd e1).symm
 all_goals have h5:¬(cB e.R l).2=false:=by rw[h2];decide
 ·have e1:rq e l=_:=(if_neg h0).trans ((if_neg h1).trans ((if_neg h5).trans (if_pos h3)))
  exact Zv (congrArg Prod.fst e1).symm (congrArg Prod.snd e1).symm
 ·have e1:rq e l=_:=(if_neg h0).trans ((if_neg h1).trans ((if_neg h5).trans ((if_neg h3).trans (if_pos h4))))
  exact Zv (congrArg Prod.fst e1).symm (congrArg Prod.snd e1).symm
 ·have e1:rq e l=(dK,false):=(if_neg h0).trans ((if_neg h1).trans ((if_neg h5).trans ((if_neg h3).trans (if_neg h4))))
  exact Zv (a:=dK) (congrArg Prod.fst e1).symm (congrArg Prod.snd e1).symm
def X3:=bW (α:=(List cv)×(List bT)) (qC (qL .bI) (q1 (qL .cw))) [.ro,.ro] (fun(es,l)=>[es.length<=4294967295]) (fun(es,l)=>⟨[dL .bf (nl es l),dO (np es l)],[],[]⟩)
def Dl(es:List cv)(l:List bT):List a_×Int×Unit->Prop:=fun(o,i,_)=>0<=i/\i<=es.length/\o=(es.take i.toNat).map (vm l)/\(es.drop i.toNat).all (vn l)=es.all (vn l)
def CA(es:List cv)(l:List bT):List a_×Int×Unit->Nat:=fun(o,i,_)=>es.length-i.toNat
def ajC:AX X3:=fun(es,l)=>bS [(3,aT [iO 6 .bf,iI 7] (fun _=>Dl es l) (CA es l))]
def ahV:HH:=hF X3 func247 [ahN] ajC fun x hp hb=>by
 obtain⟨es,l⟩:=x
 have aeC:L9 es.length:=kG (hb _ m0)
 have jQ:L9 l.length:=kG (hb _ m1)
 have bo:es.length<=4294967295:=hp _ m0
 clear hp hb
 apply vE (Dl es l ([],0,())/\∀(y:List a_×Int×PUnit),let x2:=y.2.1.toNat;let x1:=es.getD x2 fj;let x0:=[vm l x1];let q0:=(y.1++x0,wrap i64 (y.2.1+1),());Dl es l y->bif decide (y.2.1<(es.length:Int)) then 0<=y.2.1/\x2<es.length/\bif !vn l x1 then Lf [VL .bf [],VB false] [VL .bf (nl es l),VB (np es l)] else L4 (y.1.length+x0.length)/\Dl es l q0/\CA es l q0<CA es l y else Lf [VL .bf y.1,VB true] [VL .bf (nl es l),VB (np es l)])
 dsimp only
 refine⟨⟨by omega,by omega,by simp,rfl⟩,?_⟩
 rintro⟨o,i,⟨⟩⟩ ⟨h1,h2,rfl,hR⟩
 dsimp only
 refine aR ?_ ?_<;>intro hc
 ·rw[dW _ _ fj h1 hc] at hR
  refine⟨by omega,by omega,bx (fun g=> ?_) (fun g=> ?_)⟩
  ·have hf:np es l=false:=by rw[np,<-hR,show vn l (es.getD i.toNat fj)=false from g];rfl
   exact akC (by rw[nl,if_neg (by rw[hf];decide)];rfl) hf.symm
  ·rw[show vn l (es.getD i.toNat fj)=true from g,wQ] at hR
   have hm:(es.take i.toNat).map (vm l)++[vm l (es.getD i.toNat fj)]=(es.take (i+1).toNat).map (vm l):=by rw[<-dl es fj h1 hc,Ko];rfl
   rw[wi]
   exact⟨by simp only[wP,oq,fP,fz];omega,⟨by omega,by omega,hm,hR⟩,by simp only[CA];omega⟩
 ·have e:es.drop i.toNat=[]:=List.drop_eq_nil_of_le (by omega)
  rw[e] at hR
  have hf:np es l=true:=hR.symm
  rw[cA es (by omega)]
  exact akC (by rw[nl,if_pos hf]) hf.symm
def vO(a b:a_):Bool:=if a.K=b.K then(if a.N=b.N then Op.bytesLess a.S.toList b.S.toList else decide (a.N<b.N)) else decide (a.K<b.K)
def Az(l:List bT)(c:dy):Bool:=(cB c.L l).2&&(cB c.R l).2&&(if c.Op=1 then decide ((cB c.L l).1=(cB c.R l).1) else if c.Op=2 then !decide ((cB c.L l).1=(cB c.R l).1) else if c.Op=3 then vO (cB c.L l).1 (cB c.R l).1 else false)
def tu(cs:List dy)(l:List bT):Bool:=cs.all (Az l)
def kU(out:List bT)(a:cM)(v:a_):Option (List bT):=
 if a.K=2 then(if a.V=v then some out else none) else if a.K=1 then(if(ko out a.S).2=true then(if(ko out a.S).1=v then some out else none) else some (out++[⟨a.S,v⟩])) else some out
def ju:List cM->List a_->List bT->Option (List bT)
 |[],_,out=>some out
 |a::al,v::vs,out=>match kU out a v with|some o=>ju al vs o|none=>none
 |_::_,[],_=>none
def fI(p:cr)(f:aL)(l:List bT):Option (List bT):=if f.Kind=p.Kind/\f.ag.length=p.ay.length then ju p.ay f.ag l else none
def Sz(p:cr)(l:List bT)(x:bO):Bool:=(fI p x.F l).isSome
def AW(s:List bO)(l:List bT)(p:cr):Bool:=p.Not&&s.any (Sz p l)
def qo(r:bc)(s:List bO)(l:List bT):Bool:=r.aH.any (AW s l)
theorem Gu{out:List bT}{a:cM}{v:a_}{o:List bT}(h:kU out a v=some o):o.length<=out.length+1:=by
 simp only[kU] at h
 repeat' (split at h)
 all_goals first|(cases h;simp)|cases h
theorem wZ:∀{al:List cM}{vs:List a_}{out o:List bT},ju al vs out=some o->o.length<=out.length+al.length
 |[],_,out,o,h=>by simp only[ju,gI] at h;subst h;simp
 |a::al,v::vs,out,o,h=>by
  simp only[ju] at h
  split at h
  ·rename_i o' he
   have:=Gu he
   have:=wZ h
   simp only[fP];omega
  ·cases h
 |_::_,[],_,_,h=>by simp[ju] at h
theorem ET{p:cr}{f:aL}{l o:List bT}(h:fI p f l=some o):o.length<=l.length+p.ay.length:=by
 simp only[fI] at h
 split at h
 ·exact wZ h
 ·cases h
theorem EU{al:List cM}{vs:List a_}(o:List bT){i:Int}(h0:0<=i)(h:i<al.length)(hl:vs.length=al.length):ju (al.drop i.toNat) (vs.drop i.toNat) o=match kU o (al.getD i.toNat mX) (vs.getD i.toNat dK) with|some o'=>ju (al.drop (i+1).toNat) (vs.drop (i+1).toNat) o'|none=>none:=by
 rw[e_ al mX h0 h,e_ vs dK h0 (by omega)];rfl
theorem VX{a b:a_}{P Q:Prop}(h1:¬a=b->P)(h2:a=b->Q):bif !(a.K==b.K&&(a.N==b.N&&(a.S.toList==b.S.toList&&true))) then P else Q:=by
 rw[gO];exact bx (fun h=>h1 (yF h)) (fun h=>h2 (yT h))
theorem Oi{a b:BA}{P Q:Prop}(h1:¬a=b->P)(h2:a=b->Q):bif !(a.toList==b.toList) then P else Q:=by
 rw[aO];exact bx (fun h=>h1 (yF h)) (fun h=>h2 (yT h))
def aga:=bW (α:=a_×a_) (qC (qA .bf) (q1 (qA .bf))) [.ro,.ro] (fun _=>[]) (fun(a,b)=>⟨[dO (vO a b)],[],[]⟩)
def ahI:HH:=hF aga func272 [] a0 fun x hp hb=>by
 obtain⟨a,b⟩:=x
 clear hp hb
 apply vE (bif a.K !=b.K then Lb (decide (a.K<b.K)) (vO a b) else bif a.N !=b.N then Lb (decide (a.N<b.N)) (vO a b) else Lb (Op.bytesLess (a.S.toList) (b.S.toList)) (vO a b))
 refine mI (fun h=>cg (if_neg h).symm) (fun h=>mI (fun g=>cg ?_) (fun g=>cg ?_))
 ·exact((if_pos h).trans (if_neg g)).symm
 ·exact((if_pos h).trans (if_pos g)).symm
def agf:=bW (α:=dy×(List bT)) (qC (qA .ca) (q1 (qL .cw))) [.ro,.ro] (fun _=>[]) (fun(c,l)=>⟨[dO (Az l c)],[],[]⟩)
def ahL:HH:=hF agf func263 [YY,ahI] a0 fun x hp hb=>by
 obtain⟨c,l⟩:=x
 clear hp hb
 apply vE (let x0:=(cB {K:=c.L.K,S:=c.L.S,V:={K:=c.L.V.K,N:=c.L.V.N,S:=c.L.V.S:a_}:cM} l).1.K==(cB {K:=c.R.K,S:=c.R.S,V:={K:=c.R.V.K,N:=c.R.V.N,S:=c.R.V.S:a_}:cM} l).1.K&&((cB {K:=c.L.K,S:=c.L.S,V:={K:=c.L.V.K,N:=c.L.V.N,S:=c.L.V.S:a_}:cM} l).1.N==(cB {K:=c.R.K,S:=c.R.S,V:={K:=c.R.V.K,N:=c.R.V.N,S:=c.R.V.S:a_}:cM} l).1.N&&((cB {K:=c.L.K,S:=c.L.S,V:={K:=c.L.V.K,N:=c.L.V.N,S:=c.L.V.S:a_}:cM} l).1.S.toList==(cB {K:=c.R.K,S:=c.R.S,V:={K:=c.R.V.K,N:=c.R.V.N,S:=c.R.V.S:a_}:cM} l).1.S.toList&&true));let q0:=cB {K:=c.L.K,S:=c.L.S,V:={K:=c.L.V.K,N:=c.L.V.N,S:=c.L.V.S:a_}:cM} l;let q1:=cB {K:=c.R.K,S:=c.R.S,V:={K:=c.R.V.K,N:=c.R.V.N,S:=c.R.V.S:a_}:cM} l;let q2:=Az l c;bif !q0.2 then Lb false q2 else bif !q1.2 then Lb false q2 else bif c.Op==1 then Lb x0 q2 else bif c.Op==2 then Lb (!x0) q2 else bif c.Op==3 then Lb (vO q0.1 q1.1) q2 else Lb false q2)
 dsimp only
 have eL:(⟨c.L.K,c.L.S,⟨c.L.V.K,c.L.V.N,c.L.V.S⟩⟩:cM)=c.L:=rfl
 have eR:(⟨c.R.K,c.R.S,⟨c.R.V.K,c.R.V.N,c.R.V.S⟩⟩:cM)=c.R:=rfl
 simp only[eL,eR,gO]
 refine bx (fun h=>cg ?_) (fun h=>bx (fun h1=>cg ?_) (fun h1=>bg (fun h2=>cg ?_) (fun h2=>bg (fun h3=>cg ?_) (fun h3=>bg (fun h4=>cg ?_) (fun h4=>cg ?_)))))
 all_goals (simp only[Az];grind)
def X0:=bW (α:=(List dy)×(List bT)) (qC (qL .ca) (q1 (qL .cw))) [.ro,.ro] (fun _=>[]) (fun(cs,l)=>⟨[dO (tu cs l)],[],[]⟩)
def Di(cs:List dy)(l:List bT):Int×Unit->Prop:=fun(i,_)=>0<=i/\i<=cs.length/\(cs.drop i.toNat).all (Az l)=tu cs l
def Cx(cs:List dy)(l:List bT):Int×Unit->Nat:=fun(i,_)=>cs.length-i.toNat
def ajy:AX X0:=fun(cs,l)=>bS [(2,aT [iI 5] (fun _=>Di cs l) (Cx cs l))]
def ahO:HH:=hF X0 func257 [ahL] ajy fun x hp hb=>by
 obtain⟨cs,l⟩:=x
 have aqw:L9 cs.length:=kG (hb _ m0)
 have jQ:L9 l.length:=kG (hb _ m1)
 clear hp hb
 apply vE (Di cs l (0,())/\∀(y:Int×PUnit),let q0:=(wrap i64 (y.1+1),());Di cs l y->bif decide (y.1<(cs.length:Int)) then 0<=y.1/\y.1.toNat<cs.length/\bif !Az l (cs.getD y.1.toNat qN) then Lb false (tu cs l) else Di cs l q0/\Cx cs l q0<Cx cs l y else Lb true (tu cs l))
 dsimp only
 refine⟨⟨by omega,by omega,rfl⟩,?_⟩
 rintro⟨i,⟨⟩⟩ ⟨h1,h2,hR⟩
 simp only
 refine aR ?_ ?_<;>intro hc
 ·rw[dW _ _ qN h1 hc] at hR
  rw[wi]
  refine⟨by omega,by omega,bx (fun g=>bD (by rw[<-hR,g];rfl)) (fun g=>⟨⟨by omega,by omega,by rw[<-hR,g,wQ]⟩,by simp only[Cx];omega⟩)⟩
 ·rw[cz _ (by omega)] at hR
  exact nR hR.symm
def XZ:=bW (α:=cr×aL×(List bT)) (qC (qA .dB) (qC (qA .db) (q1 (qL .cw)))) [.ro,.ro,.ro] (fun(p,f,l)=>[l.length+p.ay.length<=4294967295]) (fun(p,f,l)=>⟨[dL .cw ((fI p f l).getD l),dO ((fI p f l).isSome)],[],[]⟩)
def ua(p:cr)(f:aL)(l:List bT):List bT×Int×O'×T5×Unit->Prop:=fun(o,i,b,g,_)=>b=(p.Kind,p.ay,p.Not,())/\g=(f.Kind,f.ag,())/\0<=i/\i<=p.ay.length/\o.length<=l.length+i/\ju (p.ay.drop i.toNat) (f.ag.drop i.toNat) o=fI p f l
def om(p:cr)(f:aL)(l:List bT):List bT×Int×O'×T5×Unit->Nat:=fun(o,i,b,g,_)=>p.ay.length-i.toNat
def ajx:AX XZ:=fun(p,f,l)=>bS [(5,aT [iO 8 .cw,iI 9,.box 3 (3,1024) [.lit .str,.shr .gM,.lit .bool],.box 4 (4,1024) [.lit .str,.shr .bf]] (fun _=>ua p f l) (om p f l))]
def Y0:HH:=hF XZ func258 [YZ] ajx fun x hp hb=>by
 obtain⟨p,f,l⟩:=x
 have ey:=IT (x:=p) (hb _ m0)
 have Hc:=ey.1
 have Hd:=ey.2
 have hH:=qq (x:=f) (hb _ m1)
 have pP:=hH.1
 have mQ:=hH.2
 have jQ:L9 l.length:=kG (hb _ m2)
 have bo:l.length+p.ay.length<=4294967295:=hp _ m0
 clear hp hb
 apply vE (let q0:=Lf [VL .cw ([]++l),VB false] [VL .cw (Option.getD (fI p f l) l),VB (Option.isSome (fI p f l))];let q1:=(0:Nat)+l.length<=4294967296/\q0;0+l.length<=4294967296/\bif !p.Kind.toList==f.Kind.toList then q0 else bif (p.ay.length:Int) !=(f.ag.length:Int) then q0 else ua p f l ([]++l,0,(p.Kind,p.ay,p.Not,()),(f.Kind,f.ag,()),())/\∀(y:List bT×Int×T20×UJ×PUnit),let x3:=y.2.1.toNat;let x5:=y.2.2.1.2.1.length;let x0:=y.2.2.2.1.2.1.getD x3 dK;let x2:=y.2.2.1.2.1.getD x3 mX;let x4:=(↑x5:Int);let x1:=x2.V;let q2:=bif x2.K==1 then bif !(ko {τ:=Cd.cw,xs:=y.1:iE UU}.xs x2.S).2 then 0<=y.2.1/\x3<y.2.2.2.1.2.1.length/\y.1.length+List.length [{Name:=x2.S,V:=x0:bT}]<=4294967296/\ua p f l (y.1++[{Name:=x2.S,V:=x0:bT}],wrap i64 (y.2.1+1),(y.2.2.1.1,y.2.2.1.2.1,y.2.2.1.2.2.1,()),(y.2.2.2.1.1,y.2.2.2.1.2.1,()),())/\om p f l (y.1++[{Name:=x2.S,V:=x0:bT}],wrap i64 (y.2.1+1),(y.2.2.1.1,y.2.2.1.2.1,y.2.2.1.2.2.1,()),(y.2.2.2.1.1,y.2.2.2.1.2.1,()),())<om p f l y else ua p f l (y.1,wrap i64 (y.2.1+1),(y.2.2.1.1,y.2.2.1.2.1,y.2.2.1.2.2.1,()),(y.2.2.2.1.1,y.2.2.2.1.2.1,()),())/\om p f l (y.1,wrap i64 (y.2.1+1),(y.2.2.1.1,y.2.2.1.2.1,y.2.2.1.2.2.1,()),(y.2.2.2.1.1,y.2.2.2.1.2.1,()),())<om p f l y else ua p f l (y.1,wrap i64 (y.2.1+1),(y.2.2.1.1,y.2.2.1.2.1,y.2.2.1.2.2.1,()),(y.2.2.2.1.1,y.2.2.2.1.2.1,()),())/\om p f l (y.1,wrap i64 (y.2.1+1),(y.2.2.1.1,y.2.2.1.2.1,y.2.2.1.2.2.1,()),(y.2.2.2.1.1,y.2.2.2.1.2.1,()),())<om p f l y;let q3:=bif x2.K==1 then bif (ko {τ:=Cd.cw,xs:=y.1:iE UU}.xs x2.S).2 then 0<=y.2.1/\x3<y.2.2.2.1.2.1.length/\bif !((ko {τ:=Cd.cw,xs:=y.1:iE UU}.xs x2.S).1.K==x0.K&&((ko {τ:=Cd.cw,xs:=y.1:iE UU}.xs x2.S).1.N==x0.N&&((ko {τ:=Cd.cw,xs:=y.1:iE UU}.xs x2.S).1.S.toList==x0.S.toList&&true))) then q1 else q2 else q2 else q2;ua p f l y->bif decide (y.2.1<x4) then 0<=y.2.1/\x3<x5/\bif x2.K==2 then 0<=y.2.1/\x3<y.2.2.2.1.2.1.length/\bif !(x1.K==x0.K&&(x1.N==x0.N&&(x1.S.toList==x0.S.toList&&true))) then q1 else q3 else q3 else Lf [VL .cw y.1,VB true] [VL .cw (Option.getD (fI p f l) l),VB (Option.isSome (fI p f l))])
 dsimp only
 have hF:fI p f l=none->Lf [.one (.sl .cw l),.one (.lit (.bool false))] [.one (.sl .cw ((fI p f l).getD l)),.one (.lit (.bool (fI p f l).isSome))]:=fun e=>by rw[e];exact aY _
 refine⟨by show 0+l.length<=_;omega,Oi (fun hk=>hF (if_neg (fun e=>hk e.1.symm))) (fun hk=>mI (fun hl=>hF (if_neg (by omega))) (fun hl=> ?_))⟩
 have hl:f.ag.length=p.ay.length:=by omega
 have hM:fI p f l=ju p.ay f.ag l:=if_pos ⟨hk.symm,hl⟩
 refine⟨⟨rfl,rfl,by omega,by omega,by show((l.length:Nat):Int)<=_;omega,hM.symm⟩,?_⟩
 rintro⟨o,i,⟨b1,b2,b3,⟨⟩⟩,⟨g1,g2,⟨⟩⟩,⟨⟩⟩
 rintro⟨hb,hg,h1,h2,h3,hR⟩
 cases hb
 cases hg
 refine aR ?_ ?_<;>intro hc
 ·have hc:i<p.ay.length:=hc
  rw[EU o h1 hc hl] at hR
  have hN:kU o (p.ay.getD i.toNat mX) (f.ag.getD i.toNat dK)=none->fI p f l=none:=fun e=>by rw[<-hR,e]
  have hS:∀o',kU o (p.ay.getD i.toNat mX) (f.ag.getD i.toNat dK)=some o'->ju (p.ay.drop (i+1).toNat) (f.ag.drop (i+1).toNat) o'=fI p f l:=fun o' e=>by rw[<-hR,e]
  clear hR
  have hs:∀o',o'.length<=o.length+1->kU o (p.ay.getD i.toNat mX) (f.ag.getD i.toNat dK)=some o'->ua p f l (o',IntKind.wrap .i64 (i+1),(p.Kind,p.ay,p.Not,()),(f.Kind,f.ag,()),())/\om p f l (o',IntKind.wrap .i64 (i+1),(p.Kind,p.ay,p.Not,()),(f.Kind,f.ag,()),())<om p f l (o,i,(p.Kind,p.ay,p.Not,()),(f.Kind,f.ag,()),()):=fun o' h4 e=>by
   rw[wi]
   exact⟨⟨rfl,rfl,by omega,by omega,by omega,hS o' e⟩,by simp only[om];omega⟩
  clear hS
  have q1:(0:Int)<=i/\i.toNat<p.ay.length:=by omega
  have q2:(0:Int)<=i/\i.toNat<f.ag.length:=by omega
  have q3:l.length<=4294967296:=by omega
  have q4:o.length+1<=4294967296:=by omega
  have q5:(0:Nat)+l.length<=4294967296:=by omega
  refine⟨q1.1,q1.2,?_⟩
  repeat' (first|refine And.intro q2.1 (And.intro q2.2 ?_)|refine And.intro q5 ?_|refine And.intro q4 ?_|refine bg (fun _=> ?_) (fun _=> ?_)|refine VX (fun _=> ?_) (fun _=> ?_)|refine bx (fun _=> ?_) (fun _=> ?_)|refine ae (fun _=> ?_) (fun _=> ?_))
  all_goals first|exact hF (hN (by(try simp only at*);simp only[kU];grind))|exact hs _ (by simp) (by(try simp only at*);simp only[kU];grind)
 ·rw[cz p.ay (by have hc:¬i<p.ay.length:=hc;omega)] at hR
  have hR:fI p f l=some o:=hR.symm
  rw[hR];exact aY _
def X1:=bW (α:=bc×aD×(List bT)) (qC (qA .bB) (qC (qA .cQ) (q1 (qL .cw)))) [.ro,.ro,.ro] (fun(r,s,l)=>[∀p,p∈r.aH->l.length+p.ay.length<=4294967295]) (fun(r,s,l)=>⟨[dO (qo r s.ab l)],[],[]⟩)
def zC(r:bc)(s:aD)(l:List bT):Int×T1×T3×Unit->Prop:=fun(i,b,g,_)=>b=(r.Name,r.jp,r.aH,r.aV,r.bH,())/\g=(s.ab,s.Next,())/\0<=i/\i<=r.aH.length/\(r.aH.drop i.toNat).any (AW s.ab l)=qo r s.ab l
def wy(r:bc)(s:aD)(l:List bT):Int×T1×T3×Unit->Nat:=fun(i,b,g,_)=>r.aH.length-i.toNat
def Dj(r:bc)(s:aD)(l:List bT):Int×Int×T1×T3×Unit->Int×Int×T1×T3×Unit->Prop:=fun(i0,k0,b0,g0,_) (i,k,b,g,_)=>i=i0/\b=b0/\g=g0/\0<=k/\k<=s.ab.length/\((r.aH.getD i.toNat cF).Not=false->k=0)/\(s.ab.drop k.toNat).any (Sz (r.aH.getD i.toNat cF) l)=s.ab.any (Sz (r.aH.getD i.toNat cF) l)
def Cy(r:bc)(s:aD)(l:List bT):Int×Int×T1×T3×Unit->Nat:=fun(i,k,b,g,_)=>s.ab.length-k.toNat
def ajz:AX X1:=fun(r,s,l)=>bS [(2,aT [iI 7,.box 3 (3,1024) [.lit .str,.lit (.int .i64),.shr .dB,.shr .ca,.shr .dE],.box 4 (4,1024) [.shr .aJ,.lit (.int .i64)]] (fun _=>zC r s l) (wy r s l)),(5,aT [iI 7,iI 8,.box 3 (3,1024) [.lit .str,.lit (.int .i64),.shr .dB,.shr .ca,.shr .dE],.box 4 (4,1024) [.shr .aJ,.lit (.int .i64)]] (Dj r s l) (Cy r s l))]
def ahP:HH:=hF X1 func256 [Y0] ajz fun x hp hb=>by
 obtain⟨r,s,l⟩:=x
 have ey:=ma (x:=r) (hb _ m0)
 have kY:=ey.1
 have kX:=ey.2.1
 have jP:=ey.2.2.1
 have kZ:=ey.2.2.2
 have i_:=la (x:=s) (hb _ m1)
 have jQ:L9 l.length:=kG (hb _ m2)
 have bo:∀p,p∈r.aH->l.length+p.ay.length<=4294967295:=hp _ m0
 clear hp hb
 apply vE (let q0:=BA×Int×List cr×List dy×List ez×PUnit;zC r s l (0,(r.Name,r.jp,r.aH,r.aV,r.bH,()),(s.ab,s.Next,()),())/\∀(y:Int×q0×NR×PUnit),let x0:=(y.2.1.2.2.1.length:Int);let q1:=(y.1,0,(y.2.1.1,y.2.1.2.1,y.2.1.2.2.1,y.2.1.2.2.2.1,y.2.1.2.2.2.2.1,()),(y.2.2.1.1,y.2.2.1.2.1,()),());zC r s l y->bif decide (y.1<x0) then Dj r s l q1 q1/\∀(aF:Int×Int×q0×NR×PUnit),let x1:=aF.2.2.1.2.2.1.getD aF.1.toNat cF;let x3:=aF.2.2.2.1.1.length;let x4:=aF.2.1.toNat;let x2:=(↑x3:Int);let q2:=(wrap i64 (aF.1+1),(aF.2.2.1.1,aF.2.2.1.2.1,aF.2.2.1.2.2.1,aF.2.2.1.2.2.2.1,aF.2.2.1.2.2.2.2.1,()),(aF.2.2.2.1.1,aF.2.2.2.1.2.1,()),());let q3:=(aF.1,wrap i64 (aF.2.1+1),(aF.2.2.1.1,aF.2.2.1.2.1,aF.2.2.1.2.2.1,aF.2.2.1.2.2.2.1,aF.2.2.1.2.2.2.2.1,()),(aF.2.2.2.1.1,aF.2.2.2.1.2.1,()),());let q4:=zC r s l q2/\wy r s l q2<wy r s l y;Dj r s l q1 aF->bif decide (aF.2.1<x2) then 0<=aF.1/\aF.1.toNat<aF.2.2.1.2.2.1.length/\bif x1.Not then 0<=aF.1/\aF.1.toNat<aF.2.2.1.2.2.1.length/\0<=aF.2.1/\x4<x3/\l.length+x1.ay.length<=4294967295/\bif Option.isSome (fI x1 (aF.2.2.2.1.1.getD x4 aZ).F l) then Lb true (qo r s.ab l) else Dj r s l q1 q3/\Cy r s l q3<Cy r s l aF else q4 else q4 else Lb false (qo r s.ab l))
 dsimp only
 refine⟨⟨rfl,rfl,by omega,by omega,rfl⟩,?_⟩
 rintro⟨i,⟨b1,b2,b3,b4,b5,⟨⟩⟩,⟨g1,g2,⟨⟩⟩,⟨⟩⟩ ⟨hb,hg,h1,h2,hR⟩
 cases hb
 cases hg
 simp only
 refine aR ?_ ?_<;>intro hc
 ·rw[zn _ _ cF h1 hc] at hR
  have hm:r.aH.getD i.toNat cF∈r.aH:=by rw[eV,fE (by omega)];exact D5 _
  have hp:=bo _ hm
  refine⟨⟨rfl,rfl,rfl,by omega,by omega,fun _=>rfl,rfl⟩,?_⟩
  rintro⟨i',k,⟨b1,b2,b3,b4,b5,⟨⟩⟩,⟨g1,g2,⟨⟩⟩,⟨⟩⟩ ⟨rfl,hb,hg,k1,k2,k3,kR⟩
  cases hb
  cases hg
  simp only
  have next:AW s.ab l (r.aH.getD i'.toNat cF)=false->zC r s l (wrap i64 (i'+1),(r.Name,r.jp,r.aH,r.aV,r.bH,()),(s.ab,s.Next,()),())/\wy r s l (wrap i64 (i'+1),(r.Name,r.jp,r.aH,r.aV,r.bH,()),(s.ab,s.Next,()),())<wy r s l (i',(r.Name,r.jp,r.aH,r.aV,r.bH,()),(s.ab,s.Next,()),()):=fun e=>by
   rw[wi]
   exact⟨⟨rfl,rfl,by omega,by omega,by rw[<-hR,e,GJ]⟩,by simp only[wy];omega⟩
  refine aR (fun hk=>⟨by omega,by omega,ae (fun g=>⟨by omega,by omega,by omega,by omega,hp,ae (fun g'=>nR ?_) (fun g'=> ?_)⟩) (fun g=>next (by rw[AW,g];rfl))⟩) (fun hk=>next ?_)
  ·rw[zn _ _ aZ k1 hk,show Sz (r.aH.getD i'.toNat cF) l (s.ab.getD k.toNat aZ)=true from g'] at kR
   rw[<-hR,AW,g,<-kR];rfl
  ·rw[zn _ _ aZ k1 hk,show Sz (r.aH.getD i'.toNat cF) l (s.ab.getD k.toNat aZ)=false from g',GJ] at kR
   rw[wi (n:=k+1)]
   exact⟨⟨rfl,rfl,rfl,by omega,by omega,fun e=>absurd g (by rw[e];decide),kR⟩,by simp only[Cy];omega⟩
  ·rw[cz _ (by omega)] at kR
   rw[AW,<-kR];exact vC _
 ·rw[cz _ (by omega)] at hR
  exact bD hR.symm
def mU(r:bc):List cr:=r.aH.filter fun p=> !p.Not
def pT(r:bc)(s:List bO):List cr->List Int->List bT->List av
 |[],ids,l=>if(!qo r s l&&tu r.aV l)=true then[⟨0,ids,l⟩] else[]
 |p::ps,ids,l=>s.flatMap fun x=>match fI p x.F l with|some more=>pT r s ps (ids++[x.Id]) more|none=>[]
def kK(r:bc)(s:List bO)(ids:List Int)(l:List bT):List av:=pT r s ((mU r).drop ids.length) ids l
def pU(r:bc)(s:List bO)(ids:List Int)(l:List bT)(x:bO):List av:=match fI ((mU r).getD ids.length cF) x.F l with|some more=>kK r s (ids++[x.Id]) more|none=>[]
theorem MW{r:bc}(s:List bO){ids:List Int}(l:List bT)(h:ids.length=cS r.aH):kK r s ids l=if(!qo r s l&&tu r.aV l)=true then[⟨0,ids,l⟩] else[]:=by
 have e:(mU r).drop ids.length=[]:=List.drop_eq_nil_of_le (by rw[h];exact uh _)
 simp only[kK,e,pT]
theorem Bl{r:bc}(s:List bO){ids:List Int}(l:List bT)(h:ids.length<cS r.aH):kK r s ids l=s.flatMap (pU r s ids l):=by
 have h:ids.length<(mU r).length:=h
 have e:(mU r).drop ids.length=(mU r).getD ids.length cF::(mU r).drop (ids.length+1):=by
  rw[Us h,eV,fE h];rfl
 simp only[kK,e,pT]
 congr 1
 funext x
 simp only[pU,kK,kF,fP,fz,vB]
theorem LF{α β:Type}(q:α->List β)(l:List α)(z:α){i:Int}(h0:0<=i)(h:i<l.length):(l.take (i+1).toNat).flatMap q=(l.take i.toNat).flatMap q++q (l.getD i.toNat z):=by
 rw[<-dl l z h0 h,Ur];simp
theorem SZ{α β:Type}(q:α->List β)(l:List α)(n:Nat):((l.take n).flatMap q).length<=(l.flatMap q).length:=by
 conv=>rhs;rw[<-Uv n l,Ur,kF]
 exact Nat.le_add_right _ _
theorem AJ{α β:Type}(q:α->List β)(c:Nat):∀(l:List α),(∀x,x∈l->(q x).length<=c)->(l.flatMap q).length<=l.length*c
 |[],_=>by simp
 |x::l,h=>by
  have h1:=h x (by simp)
  have h2:=AJ q c l (fun y hy=>h y (by simp[hy]))
  rw[zZ,kF,fP,Nat.succ_mul];omega
theorem Ak(r:bc)(s:List bO):∀(ps:List cr)(ids:List Int)(l:List bT),(pT r s ps ids l).length<=s.length^ps.length
 |[],ids,l=>by simp only[pT];split<;>simp
 |p::ps,ids,l=>by
  simp only[pT,fP,Nat.pow_succ]
  rw[UL]
  refine AJ _ _ _ (fun x _=> ?_)
  split
  ·exact Ak r s ps _ _
  ·simp
structure u5(r:bc)(s:List bO)(n:Nat)(ids:List Int)(l:List bT):Prop where
 le:ids.length<=cS r.aH
 three:cS r.aH<=3
 fC:r.aH.length<=6
 args:∀p,p∈r.aH->p.ay.length<=5
 items:s.length<=40
 binds:l.length<=5*ids.length
 room:n+(kK r s ids l).length<=4294967295
theorem K9{r:bc}{k:Nat}(h:k<cS r.aH):(mU r).getD k cF∈r.aH:=by
 have h:k<(mU r).length:=h
 rw[eV,fE h]
 exact(xR.1 (D5 h)).1
theorem KR{r:bc}{s:List bO}{n:Nat}{ids:List Int}{l more:List bT}{i:Int}(h:u5 r s n ids l)(hk:ids.length<cS r.aH)(h0:0<=i)(hi:i<s.length)(hm:fI ((mU r).getD ids.length cF) (s.getD i.toNat aZ).F l=some more):u5 r s (n+((s.take i.toNat).flatMap (pU r s ids l)).length) (ids++[(s.getD i.toNat aZ).Id]) more where
 le:=by rw[kF];simp only[fP,fz];omega
 three:=h.three
 fC:=h.fC
 args:=h.args
 items:=h.items
 binds:=by
  have h1:=ET hm
  have h2:=h.args _ (K9 hk)
  have h3:=h.binds
  rw[kF];simp only[fP,fz];omega
 room:=by
  have h1:=h.room
  rw[Bl s l hk] at h1
  have h2:=SZ (pU r s ids l) s (i+1).toNat
  rw[LF _ s aZ h0 hi,kF] at h2
  have e:pU r s ids l (s.getD i.toNat aZ)=kK r s (ids++[(s.getD i.toNat aZ).Id]) more:=by simp only[pU,hm]
  rw[e] at h2;omega
theorem Of{a b:List av}(h:a=b):fG [DV.box [.sl .aB a]]=fG [DV.box [.sl .aB b]]:=by subst h;rfl
theorem MU{r:bc}{s:List bO}{ids:List Int}{l more:List bT}{x:bO}(hm:fI ((mU r).getD ids.length cF) x.F l=some more):pU r s ids l x=kK r s (ids++[x.Id]) more:=by simp only[pU,hm]
theorem MV{r:bc}{s:List bO}{ids:List Int}{l:List bT}{x:bO}(hm:fI ((mU r).getD ids.length cF) x.F l=none):pU r s ids l x=[]:=by simp only[pU,hm]
def jZ(r:bc)(s:List bO):List av:=kK r s [] []
def N8(i:Int)(m:av):av:=⟨i,m.eo,m.bw⟩
def Mg(rs:List bc)(s:List bO)(n:Nat):List av:=(List.range n).flatMap fun i=>(jZ (rs.getD i ct) s).map (N8 i)
def allM(rs:List bc)(s:List bO):List av:=Mg rs s rs.length
theorem QC(rs:List bc)(s:List bO){i:Int}(h0:0<=i):Mg rs s (i+1).toNat=Mg rs s i.toNat++(jZ (rs.getD i.toNat ct) s).map (N8 i):=by
 have e:(i+1).toNat=i.toNat+1:=by omega
 have e2:((i.toNat:Nat):Int)=i:=by omega
 rw[e]
 simp only[Mg,List.range_succ,Ur,zZ,zen,uJ,e2]
structure mZ(r:bc):Prop where
 three:cS r.aH<=3
 fC:r.aH.length<=6
 args:∀p,p∈r.aH->p.ay.length<=5
def nZ(r:bc):Prop:=∀k,k<cS r.aH->r.aH.getD k cF=(mU r).getD k cF
theorem Nh{r:bc}{s:List bO}(h:mZ r)(hs:s.length<=40):u5 r s 0 [] [] where
 le:=Nat.zero_le _
 three:=h.three
 fC:=h.fC
 args:=h.args
 items:=hs
 binds:=Nat.zero_le _
 room:=by
  have h1:=Ak r s (mU r) [] []
  have h2:(mU r).length<=3:=h.three
  have h3:s.length^(mU r).length<=40^3:=uN (Nat.pow_le_pow_left hs _) (Nat.pow_le_pow_right (by omega) h2)
  show 0+(pT r s (mU r) [] []).length<=_
  have:(40:Nat)^3=64000:=rfl
  omega
theorem Bs{r:bc}{s:List bO}(h:mZ r)(hs:s.length<=40):(jZ r s).length<=64000:=by
 have h1:=Ak r s (mU r) [] []
 have h2:(mU r).length<=3:=h.three
 have h3:s.length^(mU r).length<=40^3:=uN (Nat.pow_le_pow_left hs _) (Nat.pow_le_pow_right (by omega) h2)
 show(pT r s (mU r) [] []).length<=_
 have:(40:Nat)^3=64000:=rfl
 omega
theorem gH{α:Type}{l:List α}{z:α}{i:Nat}(h:i<l.length):l.getD i z∈l:=by
 rw[eV,fE h];exact D5 _
theorem TJ{rs:List bc}{s:List bO}(h:∀r,r∈rs->mZ r)(hs:s.length<=40){n:Nat}(hn:n<=rs.length):(Mg rs s n).length<=n*64000:=by
 have:=AJ (fun i:Nat=>(jZ (rs.getD i ct) s).map (N8 i)) 64000 (List.range n) (fun x hx=>by
  rw[wP];exact Bs (h _ (gH (by have:=pR.1 hx;omega))) hs)
 rwa[List.length_range] at this
theorem mod_self{α:Type}{l:List α}{k:Nat}(f:α->α){z:α}(h:k<l.length):(l.modify k f).getD k z=f (l.getD k z):=by
 rw[eV,eV,Zz,fE h];simp
theorem aaN{α:Type}{l:List α}{k j:Nat}(f:α->α){z:α}(h:k≠j):(l.modify k f).getD j z=l.getD j z:=by
 rw[eV,eV,Zz];simp[h]
theorem AR{dd:Nat->Bool}{k:Int}(h0:0<=k)(h:∀j:Nat,k<=(j:Int)->dd j=false):∀j:Nat,k+1<=(j:Int)->(Nat.beq j k.toNat||dd j)=false:=fun j hj=>by
 rw[h j (by omega),QJ,<-wI,HQ];omega
def Mm:ka UU where
 α:=(List av)×bc×aD×(List Int)×(List bT)
 md:=[.box true,.ro,.ro,.ro,.ro]
 of:=fun|[.box [.sl .aB a0],.agg [.lit (.string a1),.lit (.int .i64 a2),.sl .dB a3,.sl .ca a4,.sl .dE a5],.agg [.sl .aJ a6,.lit (.int .i64 a7)],.one (.sl .int a8),.one (.sl .cw a9)]=>some (a0,⟨a1,a2,a3,a4,a5⟩,⟨a6,a7⟩,a8,a9)|_=>none
 ds:=fun(out,r,s,ids,l)=>[.box [.sl .aB out],.agg [.lit (.string r.Name),.lit (.int .i64 r.jp),.sl .dB r.aH,.sl .ca r.aV,.sl .dE r.bH],.agg [.sl .aJ s.ab,.lit (.int .i64 s.Next)],.one (.sl .int ids),.one (.sl .cw l)]
 pre:=fun(out,r,s,ids,l)=>[u5 r s.ab out.length ids l,nZ r]
 oe:=fun(out,r,s,ids,l)=>⟨[],[],[.box [.sl .aB (out++kK r s.ab ids l)]]⟩
 law:=by intro l x h;(try simp only at h);split at h<;>cases h;rfl
def ub(out:List av)(r:bc)(s:aD)(ids:List Int)(l:List bT):Int×T1×T3×(List av×Unit)×Unit->Prop:=fun(i,b,g,o,_)=>b=(r.Name,r.jp,r.aH,r.aV,r.bH,())/\g=(s.ab,s.Next,())/\0<=i/\i<=s.ab.length/\o=(out++(s.ab.take i.toNat).flatMap (pU r s.ab ids l),())
def zw(out:List av)(r:bc)(s:aD)(ids:List Int)(l:List bT):Int×T1×T3×(List av×Unit)×Unit->Nat:=fun(i,b,g,o,_)=>s.ab.length-i.toNat
def ajD:AX Mm:=fun(out,r,s,ids,l)=>bS [(5,aT [iI 10,.box 6 (6,1024) [.lit .str,.lit (.int .i64),.shr .dB,.shr .ca,.shr .dE],.box 7 (7,1024) [.shr .aJ,.lit (.int .i64)],.box 0 (2000000,0) [.own .aB true]] (fun _=>ub out r s ids l) (zw out r s ids l))]
def HN:(List av)×bc×aD×(List Int)×(List bT)->Nat:=fun(out,r,s,ids,l)=>cS r.aH-ids.length
def afe(rn:Nat):List (FuncId×ka UU):=(245,Mm.below HN rn)::us [TV,ahP,ahO,Y0]
theorem afj:Holds EE (245,Mm):=by
 refine Ha (k:=Mm) func245 (by kernel_rfl) HN (fun rn ih=> ?_)
 refine holds_of pD func245 (Mm.below HN (rn+1)) (by kernel_rfl) (afe rn) (all_cons ih (uQ _)) ajD (fun x hp hb=> ?_)
 obtain⟨out,r,s,ids,l⟩:=x
 have Sq:HN (out,r,s,ids,l)<rn+1:=hp _ iH
 have abG:gN (U:=UU) (.box [.sl .aB out]):=hb _ (iH)
 have anJ:L9 out.length:=Bd.len (U:=UU) (τ:=.aB) (xs:=out) (abG _ (by simp))
 have ID:gN (U:=UU) (.agg [.lit (.string r.Name),.lit (.int .i64 r.jp),.sl .dB r.aH,.sl .ca r.aV,.sl .dE r.bH]):=hb _ (fF _ (iH))
 have kY:L9 r.Name.size:=Bd.str (ID _ (by simp))
 have kX:L9 r.aH.length:=Bd.len (U:=UU) (τ:=.dB) (xs:=r.aH) (ID _ (by simp))
 have jP:L9 r.aV.length:=Bd.len (U:=UU) (τ:=.ca) (xs:=r.aV) (ID _ (by simp))
 have kZ:L9 r.bH.length:=Bd.len (U:=UU) (τ:=.dE) (xs:=r.bH) (ID _ (by simp))
 have an1:gN (U:=UU) (.agg [.sl .aJ s.ab,.lit (.int .i64 s.Next)]):=hb _ (fF _ (fF _ (iH)))
 have i_:L9 s.ab.length:=Bd.len (U:=UU) (τ:=.aJ) (xs:=s.ab) (an1 _ (by simp))
 have abH:gN (U:=UU) (.one (.sl .int ids)):=hb _ (fF _ (fF _ (fF _ (iH))))
 have anN:L9 ids.length:=Bd.len abH
 have aqG:gN (U:=UU) (.one (.sl .cw l)):=hb _ (fF _ (fF _ (fF _ (fF _ (iH)))))
 have bo:u5 r s.ab out.length ids l:=hp _ (fF _ (iH))
 have eJ:nZ r:=hp _ (fF _ (fF _ (iH)))
 clear hp hb
 apply vE (let x1:List Int:=[]++ids;let x0:=[{cL:=(0:Int),eo:=x1,bw:=[]++l:av}];let q0:=LM [] [] [DV.box [CL .aB out]] [DV.box [CL .aB (out++kK r s.ab ids l)]];let q1:=(ids.length:Int);bif q1==(↑(cS r.aH):Int) then(∀(p:cr),p∈r.aH->l.length+p.ay.length<=4294967295)/\bif !qo r s.ab l then bif tu r.aV l then 0+ids.length<=4294967296/\0+l.length<=4294967296/\L4 (out.length+x0.length)/\LM [] [] [DV.box [CL .aB (out++x0)]] [DV.box [CL .aB (out++kK r s.ab ids l)]] else q0 else q0 else ub out r s ids l (0,(r.Name,r.jp,r.aH,r.aV,r.bH,()),(s.ab,s.Next,()),(out,()),())/\∀(y:Int×T16×NR×(List av×PUnit)×PUnit),let x2:={Name:=y.2.1.1,jp:=y.2.1.2.1,aH:=y.2.1.2.2.1,aV:=y.2.1.2.2.2.1,bH:=y.2.1.2.2.2.2.1:bc};let x6:=y.2.2.1.1.getD y.1.toNat aZ;let x8:=y.2.2.1.1.length;let x9:=y.2.1.2.2.1.getD (Int.toNat q1) cF;let x3:=Option.getD (fI x9 x6.F l) l;let x5:=[x6.Id];let x7:=(↑x8:Int);let x4:=x1++x5;let q2:=(y.2.1.1,y.2.1.2.1,y.2.1.2.2.1,y.2.1.2.2.2.1,y.2.1.2.2.2.2.1,());let q3:=(wrap i64 (y.1+1),q2,(y.2.2.1.1,y.2.2.1.2.1,()),(y.2.2.2.1.1++kK x2 y.2.2.1.1 x4 x3,()),());let q4:=(wrap i64 (y.1+1),q2,(y.2.2.1.1,y.2.2.1.2.1,()),(y.2.2.2.1.1,()),());ub out r s ids l y->bif decide (y.1<x7) then 0<=q1/\Int.toNat q1<y.2.1.2.2.1.length/\0<=y.1/\y.1.toNat<x8/\l.length+x9.ay.length<=4294967295/\bif Option.isSome (fI x9 x6.F l) then 0+ids.length<=4294967296/\0<=y.1/\y.1.toNat<x8/\L4 (x1.length+x5.length)/\HN (y.2.2.2.1.1,x2,{ab:=y.2.2.1.1,Next:=y.2.2.1.2.1:aD},x4,x3)<rn/\u5 x2 y.2.2.1.1 (y.2.2.2.1.1.length) x4 x3/\nZ x2/\ub out r s ids l q3/\zw out r s ids l q3<zw out r s ids l y else ub out r s ids l q4/\zw out r s ids l q4<zw out r s ids l y else LM [] [] [DV.box [CL .aB y.2.2.2.1.1]] [DV.box [CL .aB (out++kK r s.ab ids l)]])
 dsimp only
 simp only[HN] at Sq
 have hle:=bo.le
 have h3:=bo.three
 have hpt:=bo.fC
 have hbd:=bo.binds
 have hA:∀p,p∈r.aH->l.length+p.ay.length<=4294967295:=fun p hm=>by have:=bo.args p hm;omega
 have hrm:=bo.room
 have By:(mU r).length=cS r.aH:=rfl
 have hpn:cS r.aH<=r.aH.length:=Mw _ _
 refine bg (fun h=>⟨hA,?_⟩) (fun h=> ?_)
 ·have h:ids.length=cS r.aH:=by omega
  have e:=MW s.ab l h
  have q1:(0:Nat)+ids.length<=4294967296:=by omega
  have q2:(0:Nat)+l.length<=4294967296:=by omega
  refine bx (fun g=>ae (fun g'=>⟨q1,q2,?_,rfl,by trivial,Of ?_⟩) (fun g'=>⟨rfl,by trivial,Of ?_⟩)) (fun g=>⟨rfl,by trivial,Of ?_⟩)
  ·rw[e,g,g'] at hrm;simp at hrm;simp only[fP,fz];omega
  ·rw[e,g,g'];rfl
  ·rw[e,g,g'];simp
  ·rw[e,g];simp
 ·have h:ids.length<cS r.aH:=by omega
  have e:=Bl s.ab l h
  refine⟨⟨rfl,rfl,by omega,by omega,by simp⟩,?_⟩
  rintro⟨i,⟨b1,b2,b3,b4,b5,⟨⟩⟩,⟨g1,g2,⟨⟩⟩,⟨o,⟨⟩⟩,⟨⟩⟩ ⟨hb,hg,h1,h2,ho⟩
  cases hb
  cases hg
  cases ho
  refine aR (fun hc=> ?_) (fun hc=>⟨by trivial,by trivial,Of ?_⟩)
  ·have hc:i<s.ab.length:=hc
   have hs:=LF (pU r s.ab ids l) s.ab aZ h1 hc
   have hi:ids.length<(mU r).length:=h
   have hm:=hA _ (K9 h)
   have et:Int.toNat (ids.length:Int)=ids.length:=by omega
   have eP:r.aH.getD (Int.toNat (ids.length:Int)) cF=(mU r).getD ids.length cF:=by rw[et];exact eJ _ h
   have q0:(0:Int)<=(ids.length:Int)/\Int.toNat (ids.length:Int)<r.aH.length:=by omega
   have q1:(0:Int)<=i/\i.toNat<s.ab.length:=by omega
   have q2:(0:Nat)+ids.length<=4294967296:=by omega
   have q3:ids.length+1<=4294967296:=by omega
   refine⟨q0.1,q0.2,q1.1,q1.2,by rw[eP];exact hm,?_⟩
   simp only[eP]
   refine ae ?_ ?_<;>intro g
   ·obtain⟨more,hM⟩:=nA.1 g
    have rh:=KR bo h h1 hc hM
    rw[MU hM] at hs
    have hw:IntKind.wrap .i64 (i+1)=i+1:=wi
    have anw:u5 r s.ab (out++(s.ab.take i.toNat).flatMap (pU r s.ab ids l)).length (ids++[(s.ab.getD i.toNat aZ).Id]) ((fI ((mU r).getD ids.length cF) (s.ab.getD i.toNat aZ).F l).getD l):=by rw[hM,Gi,kF];exact rh
    have hmu:cS r.aH-(ids++[(s.ab.getD i.toNat aZ).Id]).length<rn:=by rw[kF];simp only[fP,fz];omega
    have hI:ub out r s ids l (IntKind.wrap .i64 (i+1),(r.Name,r.jp,r.aH,r.aV,r.bH,()),(s.ab,s.Next,()),((out++(s.ab.take i.toNat).flatMap (pU r s.ab ids l))++kK r s.ab (ids++[(s.ab.getD i.toNat aZ).Id]) ((fI ((mU r).getD ids.length cF) (s.ab.getD i.toNat aZ).F l).getD l),()),()):=by
     rw[hw,hM,Gi]
     exact⟨rfl,rfl,by omega,by omega,by rw[hs,xU]⟩
    have hd:s.ab.length-(IntKind.wrap .i64 (i+1)).toNat<s.ab.length-i.toNat:=by rw[hw];omega
    exact⟨q2,q1.1,q1.2,q3,hmu,anw,eJ,hI,hd⟩
   ·have hM:fI ((mU r).getD ids.length cF) (s.ab.getD i.toNat aZ).F l=none:=Option.isNone_iff_eq_none.1 (by rw[<-Option.not_isSome,show Option.isSome (fI ((mU r).getD ids.length cF) (s.ab.getD i.toNat aZ).F l)=false from g];rfl)
    rw[MV hM,uJ] at hs
    have hw:IntKind.wrap .i64 (i+1)=i+1:=wi
    have hI:ub out r s ids l (IntKind.wrap .i64 (i+1),(r.Name,r.jp,r.aH,r.aV,r.bH,()),(s.ab,s.Next,()),(out++(s.ab.take i.toNat).flatMap (pU r s.ab ids l),()),()):=by
     rw[hw];exact⟨rfl,rfl,by omega,by omega,by rw[hs]⟩
    have hd:s.ab.length-(IntKind.wrap .i64 (i+1)).toNat<s.ab.length-i.toNat:=by rw[hw];omega
    exact⟨hI,hd⟩
  ·have hc:¬i<(s.ab.length:Int):=hc
   rw[cA s.ab (by omega),e]
def ahX:HH:=⟨_,afj⟩
def ags:=bW (α:=bc×aD) (qC (qA .bB) (q1 (qA .cQ))) [.ro,.ro] (fun(r,s)=>[mZ r,s.ab.length<=40,nZ r]) (fun(r,s)=>⟨[dL .aB (jZ r s.ab)],[],[]⟩)
def ah7:HH:=hF ags func232 [ahX] a0 fun x hp hb=>by
 obtain⟨r,s⟩:=x
 have bo:mZ r:=hp _ m0
 have eJ:s.ab.length<=40:=hp _ m1
 have G':nZ r:=hp _ m2
 clear hp hb
 apply vE (u5 r s.ab (0) [] []/\nZ r/\Lf [VL .aB ([]++kK r s.ab [] [])] [VL .aB (jZ r s.ab)])
 exact⟨Nh bo eJ,G',aY _⟩
def Yd:=bW (α:=br×aD) (qC (qA .h_) (q1 (qA .cQ))) [.ro,.ro] (fun(d,s)=>[∀r,r∈d.aw->mZ r,s.ab.length<=40/\d.aw.length<=12,∀r,r∈d.aw->nZ r]) (fun(d,s)=>⟨[dL .aB (allM d.aw s.ab)],[],[]⟩)
def Dw(d:br)(s:aD):List av×Int×T2×T3×Unit->Prop:=fun(o,i,b,g,_)=>b=(d.Name,d.aw,())/\g=(s.ab,s.Next,())/\0<=i/\i<=d.aw.length/\o=Mg d.aw s.ab i.toNat
def CK(d:br)(s:aD):List av×Int×T2×T3×Unit->Nat:=fun(o,i,b,g,_)=>d.aw.length-i.toNat
def Dv(d:br)(s:aD):List av×Int×Int×(List av×(Nat->Bool))×T2×T3×Unit->List av×Int×Int×(List av×(Nat->Bool))×T2×T3×Unit->Prop:=fun(o0,i0,k0,p0,b0,g0,_) (o,i,k,p,b,g,_)=>i=i0/\b=b0/\g=g0/\p.1.length=p0.1.length/\0<=k/\k<=p0.1.length/\(∀j:Nat,k<=(j:Int)->p.2 j=false/\p.1.getD j aX=p0.1.getD j aX)/\o=o0++(p0.1.take k.toNat).map (N8 i)
def CJ(d:br)(s:aD):List av×Int×Int×(List av×(Nat->Bool))×T2×T3×Unit->Nat:=fun(o,i,k,p,b,g,_)=>p.1.length-k.toNat
def ajP:AX Yd:=fun(d,s)=>bS [(3,aT [iO 5 .aB,iI 6,.box 2 (2,1024) [.lit .str,.shr .bB],.box 3 (3,1024) [.shr .aJ,.lit (.int .i64)]] (fun _=>Dw d s) (CK d s)),(7,aT [iO 5 .aB,iI 6,iI 8,.slot 7 (7,1024) (.part .aB),.box 2 (2,1024) [.lit .str,.shr .bB],.box 3 (3,1024) [.shr .aJ,.lit (.int .i64)]] (Dv d s) (CJ d s))]
def aio:HH:=hF Yd func207 [ah7] ajP fun x hp hb=>by
 obtain⟨d,s⟩:=x
 have bo:∀r,r∈d.aw->mZ r:=hp _ m0
 have eJ:s.ab.length<=40/\d.aw.length<=12:=hp _ m1
 have G':∀r,r∈d.aw->nZ r:=hp _ m2
 clear hp hb
 apply vE (Dw d s ([],0,(d.Name,d.aw,()),(s.ab,s.Next,()),())/\∀(y:List av×Int×T9×NR×PUnit),let x2:=y.2.2.1.2.1.length;let x3:=y.2.1.toNat;let x0:=y.2.2.1.2.1.getD x3 ct;let x1:=(↑x2:Int);let q0:=(y.2.2.2.1.1,y.2.2.2.1.2.1,());let q1:=(y.2.2.1.1,y.2.2.1.2.1,());Dw d s y->bif decide (y.2.1<x1) then 0<=y.2.1/\x3<x2/\mZ x0/\y.2.2.2.1.1.length<=40/\nZ x0/\Dv d s (y.1,y.2.1,0,(jZ x0 y.2.2.2.1.1,fun(x:Nat)=>false),q1,q0,()) (y.1,y.2.1,0,(jZ x0 y.2.2.2.1.1,fun(x:Nat)=>false),q1,q0,())/\∀(aF:List av×Int×Int×(List av×(Nat->Bool))×T9×NR×PUnit),let x5:=aF.2.2.1.toNat;let x7:=aF.2.2.2.fst.1.length;let x4:=aF.2.2.2.fst.1.modify x5 fun(x:av)=>{cL:=aF.2.1,eo:=x.eo,bw:=x.bw:av};let x6:=(↑x7:Int);let q2:=(aF.1,wrap i64 (aF.2.1+1),(aF.2.2.2.2.1.1,aF.2.2.2.2.1.2.1,()),(aF.2.2.2.2.2.1.1,aF.2.2.2.2.2.1.2.1,()),());let q3:=(aF.2.2.2.2.2.1.1,aF.2.2.2.2.2.1.2.1,());let q4:=(aF.2.2.2.2.1.1,aF.2.2.2.2.1.2.1,());Dv d s (y.1,y.2.1,0,(jZ x0 y.2.2.2.1.1,fun(x:Nat)=>false),q1,q0,()) aF->bif decide (aF.2.2.1<x6) then 0<=aF.2.2.1/\x5<x7/\x5<x7/\aF.2.2.2.fst.2 x5=false/\0<=aF.2.2.1/\x5<x4.length/\x5<x4.length/\aF.2.2.2.fst.2 x5=false/\aF.1.length+List.length [x4.getD x5 aX]<=4294967296/\Dv d s (y.1,y.2.1,0,(jZ x0 y.2.2.2.1.1,fun(x:Nat)=>false),q1,q0,()) (aF.1++[x4.getD x5 aX],aF.2.1,wrap i64 (aF.2.2.1+1),(x4,fun(j:Nat)=>Nat.beq j x5||aF.2.2.2.fst.2 j),q4,q3,())/\CJ d s (aF.1++[x4.getD x5 aX],aF.2.1,wrap i64 (aF.2.2.1+1),(x4,fun(j:Nat)=>Nat.beq j x5||aF.2.2.2.fst.2 j),q4,q3,())<CJ d s aF else Dw d s q2/\CK d s q2<CK d s y else Lf [VL .aB y.1] [VL .aB (allM d.aw s.ab)])
 dsimp only
 obtain⟨hS,hD⟩:=eJ
 refine⟨⟨rfl,rfl,by omega,by omega,rfl⟩,?_⟩
 rintro⟨o,i,⟨b1,b2,⟨⟩⟩,⟨g1,g2,⟨⟩⟩,⟨⟩⟩ ⟨hb,hg,h1,h2,rfl⟩
 cases hb
 cases hg
 simp only
 refine aR ?_ ?_<;>intro hc
 ·have hm:d.aw.getD i.toNat ct∈d.aw:=gH (by omega)
  have hs:=bo _ hm
  have hl:=Bs hs hS
  have hn:=TJ bo hS (n:=i.toNat) (by omega)
  have rh:=QC d.aw s.ab h1
  refine⟨by omega,by omega,hs,hS,G' _ hm,⟨rfl,rfl,rfl,rfl,by omega,by omega,fun _ _=>⟨rfl,rfl⟩,by simp⟩,?_⟩
  rintro⟨o',i',k,⟨xs,dd⟩,⟨b1,b2,⟨⟩⟩,⟨g1,g2,⟨⟩⟩,⟨⟩⟩ ⟨hi,hb,hg,hx,k1,k2,kd,ho⟩
  cases hb
  cases hg
  cases hi
  cases ho
  simp only at k2 kd hx⊢
  refine aR ?_ ?_<;>intro hk
  ·have ht:=dl (jZ (d.aw.getD i.toNat ct) s.ab) aX k1 (by omega)
   have hd:=kd k.toNat (by omega)
   rw[wi (n:=k+1)]
   refine⟨k1,by omega,by omega,hd.1,k1,by rw[Kk];omega,by rw[Kk];omega,hd.1,?_,⟨rfl,rfl,rfl,by rw[Kk];exact hx,by omega,by simp only;omega,fun j hj=>⟨AR k1 (fun j hj=>(kd j hj).1) j hj,?_⟩,?_⟩,by simp only[CJ,Kk];omega⟩
   ·simp only[kF,wP,oq,fP,fz];omega
   ·rw[aaN _ (by omega)];exact(kd j (by omega)).2
   ·rw[mod_self _ (by omega),hd.2]
    simp only[<-ht,Ko,xU];rfl
  ·rw[cA _ (by omega),<-rh,wi (n:=i+1)]
   exact⟨⟨rfl,rfl,by omega,by omega,rfl⟩,by simp only[CK];omega⟩
 ·have e:i.toNat=d.aw.length:=by omega
  rw[e];exact aY _
theorem nj{α:Type}{a b:List α}(z:α){i:Int}(h1:0<=i)(ha:i<a.length)(hb:i<b.length)(hR:a.drop i.toNat=b.drop i.toNat↔a=b)(h:a.getD i.toNat z≠b.getD i.toNat z):a≠b:=by
 rw[e_ a z h1 ha,e_ b z h1 hb] at hR
 exact fun e=>h (List.cons.inj (hR.2 e)).1
theorem pz{α:Type}{a b:List α}(z:α){i:Int}(h1:0<=i)(ha:i<a.length)(hb:i<b.length)(hR:a.drop i.toNat=b.drop i.toNat↔a=b)(h:a.getD i.toNat z=b.getD i.toNat z):(a.drop (i+1).toNat=b.drop (i+1).toNat↔a=b):=by
 rw[e_ a z h1 ha,e_ b z h1 hb,h] at hR
 rw[<-hR];simp
theorem lJ{α:Type}{a b:List α}{i:Int}(ha:a.length<=i)(hb:b.length<=i)(hR:a.drop i.toNat=b.drop i.toNat↔a=b):a=b:=by
 rw[cz a ha,cz b hb] at hR
 exact hR.1 rfl
theorem tm{α:Type}{a b:List α}(h:((a.length:Int) !=(b.length:Int))=false):a.length=b.length:=by
 have h:(a.length:Int)=b.length:=by simpa using h
 omega
theorem p7{α:Type}{a b:List α}(h:¬(a.length:Int)=b.length):a≠b:=fun e=>h (by rw[e])
def G5:List Int->List Int->Bool
 |a::l,b::m=>if a=b then G5 l m else decide (a<b)
 |_,_=>false
def vh(a b:av):Bool:=if a.cL=b.cL then(if a.eo.length=b.eo.length then G5 a.eo b.eo else decide (a.eo.length<b.eo.length)) else decide (a.cL<b.cL)
def nH(d:br)(m:av):Int:=(d.aw.getD m.cL.toNat ct).jp
def ob(d:br)(a b:av):Bool:=kl d a&&kl d b&&(decide (nH d b<nH d a)||(decide (nH d a=nH d b)&&vh a b))
def N7(m x:av):Bool:=decide (x.cL=m.cL/\x.eo=m.eo)
def oK(l:List av)(m:av):Bool:=l.any (N7 m)
def tE(d:br)(b_:List av)(m:av):Bool:=kl d m&& !oK b_ m
def fY(d:br)(b_:List av)(o:Option av)(m:av):Option av:=
 if(tE d b_ m&&(match o with|none=>true|some b=>ob d m b))=true then some m else o
def jY(d:br)(set b_:List av):Option av:=set.foldl (fY d b_) none
def Bo(o:Option av):av:=match o with|some m=>m|none=>aX
theorem PA(d:br)(b_ l:List av)(o:Option av){i:Int}(h0:0<=i)(h:i<l.length):(l.drop i.toNat).foldl (fY d b_) o=(l.drop (i+1).toNat).foldl (fY d b_) (fY d b_ o (l.getD i.toNat aX)):=by
 rw[e_ l aX h0 h];rfl
theorem K_{d:br}{b_:List av}{o:Option av}{m:av}(h:tE d b_ m=false):fY d b_ o m=o:=by unfold fY;rw[h,qx];rfl
theorem M'{d:br}{b_:List av}{m:av}(h:tE d b_ m=true):fY d b_ none m=some m:=by unfold fY;rw[h];rfl
theorem PB{d:br}{b_:List av}{m b:av}(h:tE d b_ m=true)(g:ob d m b=true):fY d b_ (some b) m=some m:=by simp only[fY,h,g];rfl
theorem PC{d:br}{b_:List av}{m b:av}(g:ob d m b=false):fY d b_ (some b) m=some b:=by simp only[fY,g,vC];rfl
def X_:=bW (α:=(List Int)×(List Int)) (qC (qL .int) (q1 (qL .int))) [.ro,.ro] (fun _=>[]) (fun(a,b)=>⟨[dO (decide (a=b))],[],[]⟩)
def Dt(a:List Int)(b:List Int):Int×Unit->Prop:=fun(i,_)=>0<=i/\i<=a.length/\a.length=b.length/\(a.drop i.toNat=b.drop i.toNat↔a=b)
def CG(a:List Int)(b:List Int):Int×Unit->Nat:=fun(i,_)=>a.length-i.toNat
def ajL:AX X_:=fun(a,b)=>bS [(4,aT [iI 5] (fun _=>Dt a b) (CG a b))]
def aie:HH:=hF X_ func218 [] ajL fun x hp hb=>by
 obtain⟨a,b⟩:=x
 have Ns:L9 a.length:=kG (hb _ m0)
 have Nr:L9 b.length:=kG (hb _ m1)
 clear hp hb
 apply vE (bif (a.length:Int) !=(b.length:Int) then Lb false (decide (a=b)) else Dt a b (0,())/\∀(y:Int×PUnit),let q0:=(wrap i64 (y.1+1),());Dt a b y->bif decide (y.1<(a.length:Int)) then 0<=y.1/\y.1.toNat<a.length/\0<=y.1/\y.1.toNat<b.length/\bif a.getD y.1.toNat 0 !=b.getD y.1.toNat 0 then Lb false (decide (a=b)) else Dt a b q0/\CG a b q0<CG a b y else Lb true (decide (a=b)))
 dsimp only
 refine ae (fun h=>mL (p7 (by simpa using h))) (fun h=>⟨⟨by omega,by omega,(tm (a:=a) (b:=b) (by assumption)),by simp⟩,?_⟩)
 rintro⟨i,⟨⟩⟩ ⟨h1,h2,h3,hR⟩
 simp only
 refine ae ?_ ?_<;>intro hc
 ·have hc:i<a.length:=yT hc
  rw[wi]
  try simp only[gO]
  try simp only[aO]
  have hz:True:=trivial
  repeat' (first|refine And.intro (by omega) ?_|refine ae (fun h=> ?_) (fun h=> ?_))
  all_goals first|exact mL (nj (0:Int) h1 hc (by omega) hR (by first|grind|(rw[hz];grind)))|exact⟨⟨by omega,by omega,h3,pz (0:Int) h1 hc (by omega) hR (by first|grind|(rw[hz];grind))⟩,by simp only[CG];omega⟩
 ·have hc:a.length<=i:=by have:=yF hc;omega
  exact Mv (lJ hc (by omega) hR)
def agS:=bW (α:=av×av) (qC (qA .aB) (q1 (qA .aB))) [.ro,.ro] (fun _=>[]) (fun(a,b)=>⟨[dO (decide (a.cL=b.cL/\a.eo=b.eo))],[],[]⟩)
def Y9:HH:=hF agS func187 [aie] a0 fun x hp hb=>by
 obtain⟨a,b⟩:=x
 clear hp hb
 apply vE (let q0:=decide (a.cL=b.cL/\a.eo=b.eo);bif a.cL==b.cL then Lb (decide (a.eo=b.eo)) q0 else Lb false q0)
 dsimp only
 refine ae (fun h=>cg ?_) (fun h=>cg ?_)<;>grind
def X4:=bW (α:=av×av) (qC (qA .aB) (q1 (qA .aB))) [.ro,.ro] (fun _=>[]) (fun(a,b)=>⟨[dO (vh a b)],[],[]⟩)
def Dm(a:av)(b:av):Int×T8×T8×Unit->Prop:=fun(i,p,q,_)=>p=(a.cL,a.eo,a.bw,())/\q=(b.cL,b.eo,b.bw,())/\0<=i/\i<=a.eo.length/\a.eo.length=b.eo.length/\G5 (a.eo.drop i.toNat) (b.eo.drop i.toNat)=G5 a.eo b.eo
def CB(a:av)(b:av):Int×T8×T8×Unit->Nat:=fun(i,p,q,_)=>a.eo.length-i.toNat
def ajE:AX X4:=fun(a,b)=>bS [(6,aT [iI 5,.box 2 (2,1024) [.lit (.int .i64),.shr .int,.shr .cw],.box 3 (3,1024) [.lit (.int .i64),.shr .int,.shr .cw]] (fun _=>Dm a b) (CB a b))]
def ahY:HH:=hF X4 func244 [] ajE fun x hp hb=>by
 obtain⟨a,b⟩:=x
 have ey:=sE (x:=a) (hb _ m0)
 have aeE:=ey.1
 have abp:=ey.2
 have hH:=sE (x:=b) (hb _ m1)
 have aeD:=hH.1
 have abh:=hH.2
 clear hp hb
 apply vE (let x0:=(a.eo.length:Int);let x1:=(b.eo.length:Int);let q0:=Int×List Int×List bT×PUnit;bif a.cL !=b.cL then Lb (decide (a.cL<b.cL)) (vh a b) else bif x0 !=x1 then Lb (decide (x0<x1)) (vh a b) else Dm a b (0,(a.cL,a.eo,a.bw,()),(b.cL,b.eo,b.bw,()),())/\∀(y:Int×q0×q0×PUnit),let x2:=y.2.2.1.2.1.getD y.1.toNat 0;let x3:=y.2.1.2.1.getD y.1.toNat 0;let x5:=y.2.1.2.1.length;let x4:=(↑x5:Int);let q1:=(wrap i64 (y.1+1),(y.2.1.1,y.2.1.2.1,y.2.1.2.2.1,()),(y.2.2.1.1,y.2.2.1.2.1,y.2.2.1.2.2.1,()),());Dm a b y->bif decide (y.1<x4) then 0<=y.1/\y.1.toNat<x5/\0<=y.1/\y.1.toNat<y.2.2.1.2.1.length/\bif x3 !=x2 then 0<=y.1/\y.1.toNat<x5/\0<=y.1/\y.1.toNat<y.2.2.1.2.1.length/\Lb (decide (x3<x2)) (vh a b) else Dm a b q1/\CB a b q1<CB a b y else Lb false (vh a b))
 dsimp only
 refine mI (fun h=>cg (if_neg h).symm) (fun h=>mI (fun g=>cg ?_) (fun g=> ?_))
 ·rw[vh,if_pos h,if_neg (by omega),decide_eq_decide];omega
 have g:a.eo.length=b.eo.length:=by omega
 have eM:vh a b=G5 a.eo b.eo:=by rw[vh,if_pos h,if_pos g]
 refine⟨⟨rfl,rfl,by omega,by omega,g,rfl⟩,?_⟩
 rintro⟨i,⟨p1,p2,p3,⟨⟩⟩,⟨q1,q2,q3,⟨⟩⟩,⟨⟩⟩ ⟨hp,hq,h1,h2,h3,hR⟩
 cases hp
 cases hq
 simp only
 rw[eM]
 refine aR ?_ ?_<;>intro hc
 ·rw[e_ a.eo (0:Int) h1 hc,e_ b.eo (0:Int) h1 (by omega)] at hR
  simp only[G5] at hR
  rw[wi]
  refine⟨by omega,by omega,by omega,by omega,mI (fun e=>⟨by omega,by omega,by omega,by omega,cg ?_⟩) (fun e=> ?_)⟩
  ·rw[if_neg e] at hR;exact hR
  ·rw[if_pos e] at hR;exact⟨⟨rfl,rfl,by omega,by omega,h3,hR⟩,by simp only[CB];omega⟩
 ·rw[cz a.eo (by omega)] at hR
  exact bD hR.symm
def agu:=bW (α:=br×av×av) (qC (qA .h_) (qC (qA .aB) (q1 (qA .aB)))) [.ro,.ro,.ro] (fun _=>[]) (fun(d,a,b)=>⟨[dO (ob d a b)],[],[]⟩)
def ah8:HH:=hF agu func230 [WW,ahY] a0 fun x hp hb=>by
 obtain⟨d,a,b⟩:=x
 clear hp hb
 apply vE (let x0:=(d.aw.getD b.cL.toNat ct).jp;let x1:=(d.aw.getD a.cL.toNat ct).jp;let q0:=ob d a b;bif !kl d a then Lb false q0 else bif !kl d b then Lb false q0 else 0<=a.cL/\a.cL.toNat<d.aw.length/\0<=b.cL/\b.cL.toNat<d.aw.length/\bif decide (x1>x0) then Lb true q0 else bif x1==x0 then Lb (vh a b) q0 else Lb false q0)
 dsimp only
 refine bx (fun h=>bD ?_) (fun h=>bx (fun h'=>bD ?_) (fun h'=> ?_))
 ·have h:kl d a=false:=h
  rw[ob,h];rfl
 ·have h':kl d b=false:=h'
  rw[ob,h',vC];rfl
 have h:kl d a=true:=h
 have h':kl d b=true:=h'
 obtain⟨a1,a2⟩:=oH h
 obtain⟨b1,b2⟩:=oH h'
 have e:ob d a b=(decide (nH d b<nH d a)||(decide (nH d a=nH d b)&&vh a b)):=by rw[ob,h,h'];rfl
 refine⟨a1,by omega,b1,by omega,aR (fun g=>nR ?_) (fun g=>bg (fun g'=>cg ?_) (fun g'=>bD ?_))⟩
 ·rw[e,decide_eq_true (show nH d b<nH d a from g)];rfl
 ·rw[e,decide_eq_false (show¬nH d b<nH d a from g),decide_eq_true (show nH d a=nH d b from g')];rfl
 ·rw[e,decide_eq_false (show¬nH d b<nH d a from g),decide_eq_false (show¬nH d a=nH d b from g')];rfl
def X9:=bW (α:=(List av)×av) (qC (qL .aB) (q1 (qA .aB))) [.ro,.ro] (fun _=>[]) (fun(l,m)=>⟨[dO (oK l m)],[],[]⟩)
def Dr(l:List av)(m:av):Int×T8×Unit->Prop:=fun(i,b,_)=>b=(m.cL,m.eo,m.bw,())/\0<=i/\i<=l.length/\(l.drop i.toNat).any (N7 m)=oK l m
def CE(l:List av)(m:av):Int×T8×Unit->Nat:=fun(i,b,_)=>l.length-i.toNat
def ajJ:AX X9:=fun(l,m)=>bS [(2,aT [iI 5,.box 3 (3,1024) [.lit (.int .i64),.shr .int,.shr .cw]] (fun _=>Dr l m) (CE l m))]
def ah':HH:=hF X9 func229 [Y9] ajJ fun x hp hb=>by
 obtain⟨l,m⟩:=x
 have jQ:L9 l.length:=kG (hb _ m0)
 have hH:=sE (x:=m) (hb _ m1)
 have Lx:=hH.1
 have E9:=hH.2
 clear hp hb
 apply vE (Dr l m (0,(m.cL,m.eo,m.bw,()),())/\∀(y:Int×T19×PUnit),let q0:=(wrap i64 (y.1+1),(y.2.1.1,y.2.1.2.1,y.2.1.2.2.1,()),());Dr l m y->bif decide (y.1<(l.length:Int)) then 0<=y.1/\y.1.toNat<l.length/\bif decide ((l.getD y.1.toNat aX).cL=y.2.1.1/\(l.getD y.1.toNat aX).eo=y.2.1.2.1) then Lb true (oK l m) else Dr l m q0/\CE l m q0<CE l m y else Lb false (oK l m))
 dsimp only
 refine⟨⟨rfl,by omega,by omega,rfl⟩,?_⟩
 rintro⟨i,⟨b1,b2,b3,⟨⟩⟩,⟨⟩⟩ ⟨hb,h1,h2,hR⟩
 cases hb
 simp only
 refine aR ?_ ?_<;>intro hc
 ·rw[zn _ _ aX h1 hc] at hR
  rw[wi]
  refine⟨by omega,by omega,ae (fun g=>nR ?_) (fun g=>⟨⟨rfl,by omega,by omega,?_⟩,by simp only[CE];omega⟩)⟩
  ·rw[<-hR,show N7 m (l.getD i.toNat aX)=true from g,Bool.true_or]
  ·rw[<-hR,show N7 m (l.getD i.toNat aX)=false from g,GJ]
 ·rw[cz _ (by omega)] at hR
  exact bD hR.symm
def agt:=bW (α:=av) (q1 (qA .aB)) [.ro] (fun m=>[L4 m.eo.length,L4 m.bw.length]) (fun m=>⟨[dA .aB m],[],[]⟩)
def Y1:HH:=hF agt func231 [] a0 fun(m:av) hp hb=>by
 have ey:=sE (x:=m) (hb _ m0)
 have Lx:=ey.1
 have E9:=ey.2
 have bo:m.eo.length<=4294967296:=hp _ m0
 have eJ:m.bw.length<=4294967296:=hp _ m1
 clear hp hb
 apply vE (0+m.eo.length<=4294967296/\0+m.bw.length<=4294967296/\Lf [DV.agg [CI m.cL,CL .int ([]++m.eo),CL .cw ([]++m.bw)]] [DV.agg [CI m.cL,CL .int m.eo,CL .cw m.bw]])
 have q1:(0:Nat)+m.eo.length<=4294967296:=by omega
 have q2:(0:Nat)+m.bw.length<=4294967296:=by omega
 exact⟨q1,q2,aY _⟩
def Ye:=bW (α:=br×(List av)×(List av)) (qC (qA .h_) (qC (qL .aB) (q1 (qL .aB)))) [.ro,.ro,.ro] (fun(d,set,b_)=>[∀m,m∈set->L4 m.eo.length/\L4 m.bw.length]) (fun(d,set,b_)=>⟨[dA .aB (Bo (jY d set b_)),dO ((jY d set b_).isSome)],[],[]⟩)
def wF(d:br)(set:List av)(b_:List av):Int×Int×T2×T8×Unit->Prop:=fun(e,i,b,q,_)=>b=(d.Name,d.aw,())/\0<=i/\i<=set.length/\e<set.length/\-1<=e/\(set.drop i.toNat).foldl (fY d b_) (if e<0 then none else some (set.getD e.toNat aX))=jY d set b_
def rA(d:br)(set:List av)(b_:List av):Int×Int×T2×T8×Unit->Nat:=fun(e,i,b,q,_)=>set.length-i.toNat
def ajQ:AX Ye:=fun(d,set,b_)=>bS [(3,aT [iI 8,iI 9,.box 3 (3,1024) [.lit .str,.shr .bB],.box 6 (6,1024) [.lit (.int .i64),.own .int true,.own .cw true]] (fun _=>wF d set b_) (rA d set b_))]
def aip:HH:=hF Ye func206 [WW,ah',ah8,Y1] ajQ fun x hp hb=>by
 obtain⟨d,set,b_⟩:=x
 have ey:=lc (x:=d) (hb _ m0)
 have j_:=ey.1
 have ja:=ey.2
 have anH:L9 set.length:=kG (hb _ m1)
 have aeA:L9 b_.length:=kG (hb _ m2)
 have bo:∀m,m∈set->m.eo.length<=4294967296/\m.bw.length<=4294967296:=hp _ m0
 clear hp hb
 apply vE (let q0:=Bo (jY d set b_);let q1:=Option.isSome (jY d set b_);wF d set b_ ((-1),0,(d.Name,d.aw,()),(0,[],[],()),())/\∀(y:Int×Int×T9×T19×PUnit),let x0:={Name:=y.2.2.1.1,aw:=y.2.2.1.2.1:br};let x2:=y.2.1.toNat;let x3:=set.getD y.1.toNat aX;let x4:=decide (y.1<0);let x1:=set.getD x2 aX;let q2:=wF d set b_ (y.1,wrap i64 (y.2.1+1),(y.2.2.1.1,y.2.2.1.2.1,()),(y.2.2.2.1.1,y.2.2.2.1.2.1,y.2.2.2.1.2.2.1,()),())/\rA d set b_ (y.1,wrap i64 (y.2.1+1),(y.2.2.1.1,y.2.2.1.2.1,()),(y.2.2.2.1.1,y.2.2.2.1.2.1,y.2.2.2.1.2.2.1,()),())<rA d set b_ y;let q3:=(y.2.1,wrap i64 (y.2.1+1),(y.2.2.1.1,y.2.2.1.2.1,()),(y.2.2.2.1.1,y.2.2.2.1.2.1,y.2.2.2.1.2.2.1,()),());let q4:=wF d set b_ q3/\rA d set b_ q3<rA d set b_ y;wF d set b_ y->bif decide (y.2.1<(set.length:Int)) then 0<=y.2.1/\x2<set.length/\bif kl x0 x1 then 0<=y.2.1/\x2<set.length/\bif !oK b_ x1 then bif x4 then q4 else 0<=y.2.1/\x2<set.length/\0<=y.1/\y.1.toNat<set.length/\bif ob x0 x1 x3 then q4 else q2 else q2 else q2 else bif x4 then Lf [DV.agg [CI 0,CL .int [],CL .cw []],VB false] [DV.agg [CI (q0.cL),CL .int q0.eo,CL .cw q0.bw],VB q1] else 0<=y.1/\y.1.toNat<set.length/\L4 x3.eo.length/\L4 x3.bw.length/\Lf [DV.agg [CI x3.cL,CL .int x3.eo,CL .cw x3.bw],VB true] [DV.agg [CI (q0.cL),CL .int q0.eo,CL .cw q0.bw],VB q1])
 dsimp only
 refine⟨⟨rfl,by omega,by omega,by omega,by omega,rfl⟩,?_⟩
 rintro⟨e,i,⟨b1,b2,⟨⟩⟩,⟨q1,q2,q3,⟨⟩⟩,⟨⟩⟩ ⟨hb,h1,h2,h3,h4,hR⟩
 cases hb
 simp only at h1 h2 h3 h4 hR⊢
 refine aR ?_ ?_<;>intro hc
 ·rw[PA d b_ set _ h1 hc] at hR
  have nxt:∀e':Int,e'<set.length->-1<=e'->fY d b_ (if e<0 then none else some (set.getD e.toNat aX)) (set.getD i.toNat aX)=(if e'<0 then none else some (set.getD e'.toNat aX))->wF d set b_ (e',IntKind.wrap .i64 (i+1),(d.Name,d.aw,()),(q1,q2,q3,()),())/\rA d set b_ (e',IntKind.wrap .i64 (i+1),(d.Name,d.aw,()),(q1,q2,q3,()),())<rA d set b_ (e,i,(d.Name,d.aw,()),(q1,q2,q3,()),()):=fun e' k1 k2 g=>by
   rw[wi]
   exact⟨⟨rfl,by omega,by omega,k1,k2,by rw[<-g];exact hR⟩,by simp only[rA];omega⟩
  have own:(if i<0 then none else some (set.getD i.toNat aX))=some (set.getD i.toNat aX):=if_neg (by omega)
  refine⟨h1,by omega,ae (fun g=>⟨h1,by omega,bx (fun g'=> ?_) (fun g'=>nxt e h3 h4 (K_ (by rw[tE,show oK b_ (set.getD i.toNat aX)=true from g',zfa,vC])))⟩) (fun g=>nxt e h3 h4 (K_ (by rw[tE,show kl d (set.getD i.toNat aX)=false from g];rfl)))⟩
  have oG:tE d b_ (set.getD i.toNat aX)=true:=by rw[tE,show kl d (set.getD i.toNat aX)=true from g,show oK b_ (set.getD i.toNat aX)=false from g'];rfl
  refine aR (fun k=>nxt i (by omega) (by omega) ?_) (fun k=>⟨h1,by omega,by omega,by omega,ae (fun g3=>nxt i (by omega) (by omega) ?_) (fun g3=>nxt e h3 h4 ?_)⟩)
  ·rw[own,if_pos k,M' oG]
  ·rw[own,if_neg k,PB oG g3]
  ·rw[if_neg k,PC g3]
 ·rw[cz _ (by omega)] at hR
  refine aR ?_ ?_<;>intro k
  ·rw[if_pos k] at hR
   have hR:none=jY d set b_:=hR
   rw[<-hR];exact aY _
  ·rw[if_neg k] at hR
   have hR:some (set.getD e.toNat aX)=jY d set b_:=hR
   have qG:set.getD e.toNat aX∈set:=gH (by omega)
   rw[<-hR]
   exact⟨by omega,by omega,(bo _ qG).1,(bo _ qG).2,aY _⟩
theorem BE:∀(ps:List cr),(∀i,i<ps.length->jt ps i=decide (cS ps<=i))->∀k,k<cS ps->ps.getD k cF=(ps.filter fun p=> !p.Not).getD k cF
 |[],_,k,hk=>by simp[cS] at hk
 |p::ps,h,k,hk=>by
  have h0:=h 0 (by simp)
  have e0:jt (p::ps) 0=p.Not:=rfl
  rw[e0,se] at h0
  cases hp:p.Not with
  |true=>
   rw[hp] at h0
   have h0:=yT h0.symm
   rw[se,hp] at hk
   simp only[if_true] at h0 hk;omega
  |false=>
   have ef:(p::ps).filter (fun p=> !p.Not)=p::ps.filter fun p=> !p.Not:=by rw[List.filter_cons,hp];rfl
   rw[ef]
   cases k with
   |zero=>rfl
   |succ k=>
    rw[se,hp] at hk
    refine BE ps (fun i hi=> ?_) k (by simp only[xS,if_false] at hk;omega)
    have:=h (i+1) (by simpa using hi)
    rw[se,hp] at this
    show jt ps i=_
    refine(show jt ps i=jt (p::ps) (i+1) from rfl).trans (this.trans ?_)
    rw[decide_eq_decide];simp only[xS,if_false];omega
theorem xe{r:bc}(h:fR r=true):mZ r/\nZ r:=by
 simp only[fR,cN] at h
 have hp:ir r.aH=true:=by rw[pY];exact h.1.1.2
 simp only[ir,cN,decide_eq_true_eq,gb,mD,gB,beq_iff_eq] at hp
 obtain⟨⟨h1,h2⟩,h3⟩:=hp
 refine⟨⟨h2.2,h1.2,fun p hp=> ?_⟩,fun k hk=>BE r.aH (fun i hi=>(h3 i hi).2) k hk⟩
 obtain⟨j,hj,rfl⟩:=sT hp
 have:=(h3 j hj).1.1.2
 rwa[eV,fE hj] at this
theorem v_{d:br}(h:f_ d=true):(∀r,r∈d.aw->mZ r/\nZ r)/\d.aw.length<=12:=by
 simp only[f_,cN,decide_eq_true_eq,gb,jC] at h
 refine⟨fun r hr=> ?_,h.1.2.2⟩
 obtain⟨j,hj,rfl⟩:=sT hr
 have:=(h.2 j hj).1
 rw[eV,fE hj] at this
 exact xe this
theorem Bk(r:bc)(s:List bO):∀(ps:List cr)(ids:List Int)(l:List bT),(∀p,p∈ps->p.ay.length<=5)->∀m,m∈pT r s ps ids l->m.eo.length=ids.length+ps.length/\m.bw.length<=l.length+5*ps.length
 |[],ids,l,_,m,hm=>by
  simp only[pT] at hm
  split at hm
  ·rw[mW] at hm;subst hm;simp
  ·cases hm
 |p::ps,ids,l,h,m,hm=>by
  simp only[pT,o8] at hm
  obtain⟨x,hx,hm⟩:=hm
  split at hm
  ·rename_i more he
   have h1:=Bk r s ps _ _ (fun q hq=>h q (by simp[hq])) m hm
   have h2:=ET he
   have h3:=h p (by simp)
   simp only[kF,fP,fz] at h1⊢
   omega
  ·cases hm
theorem Gt{r:bc}{s:List bO}(h:mZ r){m:av}(hm:m∈jZ r s):m.eo.length<=3/\m.bw.length<=15:=by
 have h2:(mU r).length<=3:=h.three
 have h1:=Bk r s (mU r) [] [] (fun p hp=>h.args p (xR.1 hp).1) m hm
 simp only[fz] at h1
 omega
theorem HM{rs:List bc}{s:List bO}(h:∀r,r∈rs->mZ r){m:av}(hm:m∈allM rs s):m.eo.length<=3/\m.bw.length<=15:=by
 simp only[allM,Mg,o8,mz,pR] at hm
 obtain⟨i,hi,m',vT,rfl⟩:=hm
 exact Gt (m:=m') (h _ (gH hi)) vT
theorem Vz(d:br)(b_:List av)(o:Option av)(x:av):fY d b_ o x=o\/fY d b_ o x=some x:=by
 unfold fY
 generalize (tE d b_ x&&_)=b
 cases b<;>simp
theorem La{d:br}{b_:List av}:∀{l:List av}{o:Option av}{m:av},l.foldl (fY d b_) o=some m->m∈l\/o=some m
 |[],o,m,h=> .inr h
 |x::l,o,m,h=>by
  rcases La (l:=l) h with h|h
  ·exact .inl (by simp[h])
  ·rcases Vz d b_ o x with e|e
   ·exact .inr (e.symm.trans h)
   ·rw[e] at h;cases h;exact .inl (by simp)
theorem G2{d:br}{set b_:List av}{m:av}(h:jY d set b_=some m):m∈set:=by
 rcases La h with h|h
 ·exact h
 ·cases h
def ag4:=bW (α:=br×aq) (qC (qA .h_) (q1 (qA .cp))) [.ro,.ro] (fun(d,x)=>[f_ d=true,x.S.ab.length<=40]) (fun(d,x)=>⟨[dA .aB (Bo (jY d (allM d.aw x.S.ab) x.aA)),dO ((jY d (allM d.aw x.S.ab) x.aA).isSome)],[],[]⟩)
def aiW:HH:=hF ag4 func158 [aio,aip] a0 fun x hp hb=>by
 obtain⟨d,x⟩:=x
 have bo:f_ d=true:=hp _ m0
 have eJ:x.S.ab.length<=40:=hp _ m1
 clear hp hb
 apply vE (let x0:=Bo (jY d (allM d.aw x.S.ab) x.aA);let q0:=Option.isSome (jY d (allM d.aw x.S.ab) x.aA);(∀(r:bc),r∈d.aw->mZ r)/\(x.S.ab.length<=40/\d.aw.length<=12)/\(∀(r:bc),r∈d.aw->nZ r)/\(∀(m:av),m∈allM d.aw x.S.ab->L4 m.eo.length/\L4 m.bw.length)/\Lf [DV.agg [CI x0.cL,CL .int x0.eo,CL .cw x0.bw],VB q0] [DV.agg [CI x0.cL,CL .int x0.eo,CL .cw x0.bw],VB q0])
 dsimp only
 have h:=v_ bo
 exact⟨fun r hr=>(h.1 r hr).1,⟨eJ,h.2⟩,fun r hr=>(h.1 r hr).2,fun m hm=>by have:=HM (fun r hr=>(h.1 r hr).1) hm;omega,aY _⟩
def Tz(f:aL):Bool:=decide (f.Kind=ai)&&decide (f.ag.length=0)
def eg(e:di):Bool:=
 bif decide (e.Kind=1) then bE e.F&&decide (e.Id=0)&&decide (e.N=0)&&decide (e.aW=ai)
 else bif decide (e.Kind=2) then Tz e.F&&decide (1<=e.Id)&&decide (e.N=0)&&decide (e.aW=ai)
 else bif decide (e.Kind=3) then bE e.F&&decide (e.Id=0)&&decide (e.N=0)&&fA e.aW
 else bif decide (e.Kind=4) then bE e.F&&decide (e.Id=0)&&decide (0<=e.N/\e.N<=100000)&&decide (e.aW=ai)
 else bif decide (e.Kind=5)||decide (e.Kind=6) then Tz e.F&&decide (e.Id=0)&&decide (e.N=0)&&decide (e.aW=ai) else false
def sw(m:av)(a:ez):di:=if a.Kind=2 then⟨a.Kind,uO,m.eo.getD a.N.toNat 0,0,a.aW⟩ else⟨a.Kind,⟨a.Name,nl a.ay m.bw⟩,0,if a.Kind=4 then a.N else 0,a.aW⟩
def If(m:av)(a:ez):Bool:=(decide (a.Kind=2)||np a.ay m.bw)&&eg (sw m a)
def eW(d:br)(m:av):List ez:=(d.aw.getD m.cL.toNat ct).bH
def ES(d:br)(m:av):Bool:=kl d m&&decide (m.eo.length=cS (d.aw.getD m.cL.toNat ct).aH)
def l8(d:br)(m:av):Bool:=f_ d&&ES d m&&(eW d m).all (If m)
def nD(d:br)(m:av):List di:=if l8 d m then(eW d m).map (sw m) else[]
theorem N9{d:br}{m:av}(h:f_ d=true)(h2:kl d m=true):fR (d.aw.getD m.cL.toNat ct)=true:=by
 obtain⟨r1,r2⟩:=oH h2
 simp only[f_,cN,gb] at h
 have:=h.2 m.cL.toNat (by omega)
 simp only[jC,cN] at this
 exact this.1
theorem OX{d:br}{m:av}(h:f_ d=true)(h2:ES d m=true):(eW d m).length<=6/\∀i:Int,0<=i->i<(eW d m).length->dx ((eW d m).getD i.toNat dj)=true/\(((eW d m).getD i.toNat dj).Kind=2->0<=((eW d m).getD i.toNat dj).N/\((eW d m).getD i.toNat dj).N<m.eo.length):=by
 simp only[ES,cN,decide_eq_true_eq] at h2
 have hr:=N9 h h2.1
 simp only[fR,lN,cN,decide_eq_true_eq] at hr
 obtain⟨⟨_,_⟩,⟨⟨_,hl⟩,ha⟩⟩:=hr
 refine⟨hl,fun i h0 hi=> ?_⟩
 rw[sP] at ha
 have hm:(eW d m).getD i.toNat dj∈eW d m:=by rw[eV,fE (by omega)];exact D5 _
 have hk:=ha _ hm
 generalize List.getD (eW d m) i.toNat dj=a at*
 simp only[nO,cN] at hk
 refine⟨hk.1.1,fun e=> ?_⟩
 have hd:=hk.1.2
 have hp:=hk.1.1
 simp only[ib,e,decide_true,wQ,qK,decide_eq_false_iff_not] at hd
 simp only[dx,e,show¬((2:Int)=1) by decide,decide_false,cond_false,decide_true,cond_true,cN,decide_eq_true_eq] at hp
 omega
theorem LfE{a a':di}{b b':Bool}(h1:a=a')(h2:b=b'):Lf [.agg [CI a.Kind,.lit (.string a.F.Kind),.sl .bf a.F.ag,CI a.Id,CI a.N,.lit (.string a.aW)],.one (.lit (.bool b))] [.agg [CI a'.Kind,.lit (.string a'.F.Kind),.sl .bf a'.F.ag,CI a'.Id,CI a'.N,.lit (.string a'.aW)],.one (.lit (.bool b'))]:=by
 subst h1 h2;exact aY _
theorem akE{a a':List di}{b b':Bool}(h1:a=a')(h2:b=b'):Lf [.one (.sl .eD a),.one (.lit (.bool b))] [.one (.sl .eD a'),.one (.lit (.bool b'))]:=by
 subst h1 h2;exact aY _
def agm:=bW (α:=di) (q1 (qA .eD)) [.ro] (fun _=>[]) (fun e=>⟨[dO (eg e)],[],[]⟩)
def ahW:HH:=hF agm func246 [NQ,Mq,sK] a0 fun(e:di) hp hb=>by
 clear hp hb
 apply vE (let x0:=e.Kind==5;let x1:=e.aW.toList==ByteArray.toList {data:= #[]:BA};let x2:=e.Id==0;let x3:=(e.F.ag.length:Int)==0;let q0:=Lb false (eg e);let q1:=bif x2 then bif e.N==0 then Lb x1 (eg e) else q0 else q0;let q2:=bif bE e.F then bif x2 then bif e.N==0 then bif x1 then Lb true (eg e) else Lb (bu e.aW) (eg e) else q0 else q0 else q0;let q3:=bif bE e.F then bif x2 then bif decide (0<=e.N/\e.N<=100000) then Lb x1 (eg e) else q0 else q0 else q0;bif e.F.Kind.toList==ByteArray.toList {data:= #[]:BA} then bif e.Kind==1 then bif bE e.F then q1 else q0 else bif e.Kind==3 then q2 else bif e.Kind==4 then q3 else bif e.Kind==2 then bif x3 then bif decide (e.Id≥1) then bif e.N==0 then Lb x1 (eg e) else q0 else q0 else q0 else bif x0 then bif x0 then bif x3 then q1 else q0 else q0 else bif e.Kind==6 then bif x3 then q1 else q0 else q0 else bif e.Kind==1 then bif bE e.F then q1 else q0 else bif e.Kind==3 then q2 else bif e.Kind==4 then q3 else bif e.Kind==2 then q0 else bif x0 then bif x0 then q0 else q0 else bif e.Kind==6 then q0 else q0)
 dsimp only
 have e1:∀s:BA,(s.toList==ByteArray.toList {data:= #[]})=decide (s=ai):=fun s=>aO _ _
 have e2:((e.F.ag.length:Int)==0)=decide (e.F.ag.length=0):=by rw[Gd];simp
 simp only[e1,e2,eg,Tz,fA]
 repeat' (refine ae (fun h=> ?_) (fun h=> ?_))
 all_goals (refine cg ?_;grind)
def agr:=bW (α:=ez×av) (qC (qA .dE) (q1 (qA .aB))) [.ro,.ro] (fun(a,m)=>[a.Kind=2->0<=a.N/\a.N<m.eo.length,a.ay.length<=4294967295]) (fun(a,m)=>⟨[dA .eD (sw m a),dO (If m a)],[],[]⟩)
def ah6:HH:=hF agr func233 [ahW,ahV] a0 fun x hp hb=>by
 obtain⟨a,m⟩:=x
 have bo:a.Kind=2->0<=a.N/\a.N<m.eo.length:=hp _ m0
 have eJ:a.ay.length<=4294967295:=hp _ m1
 clear hp hb
 apply vE (let q0:=(sw m a).F.Kind;let q1:=nl a.ay m.bw;let q2:=(sw m a).Kind;let q3:=(sw m a).aW;let q4:=(sw m a).Id;let q5:=(sw m a).N;bif a.Kind==2 then 0<=a.N/\a.N.toNat<m.eo.length/\Lf [DV.agg [CI a.Kind,CS ({data:= #[]:BA}),CL .bf [],CI (m.eo.getD a.N.toNat 0),CI 0,CS a.aW],VB (eg {Kind:=a.Kind,F:={Kind:={data:= #[]:BA},ag:=[]:aL},Id:=m.eo.getD a.N.toNat 0,N:=(0:Int),aW:=a.aW:di})] [DV.agg [CI q2,CS q0,CL .bf (sw m a).F.ag,CI q4,CI q5,CS q3],VB (If m a)] else bif a.Kind==4 then a.ay.length<=4294967295/\bif np a.ay m.bw then Lf [DV.agg [CI a.Kind,CS a.Name,CL .bf q1,CI 0,CI a.N,CS a.aW],VB (eg {Kind:=a.Kind,F:={Kind:=a.Name,ag:=nl a.ay m.bw:aL},Id:=(0:Int),N:=a.N,aW:=a.aW:di})] [DV.agg [CI q2,CS q0,CL .bf (sw m a).F.ag,CI q4,CI q5,CS q3],VB (If m a)] else Lf [DV.agg [CI a.Kind,CS a.Name,CL .bf q1,CI 0,CI a.N,CS a.aW],VB false] [DV.agg [CI q2,CS q0,CL .bf (sw m a).F.ag,CI q4,CI q5,CS q3],VB (If m a)] else a.ay.length<=4294967295/\bif np a.ay m.bw then Lf [DV.agg [CI a.Kind,CS a.Name,CL .bf q1,CI 0,CI 0,CS a.aW],VB (eg {Kind:=a.Kind,F:={Kind:=a.Name,ag:=nl a.ay m.bw:aL},Id:=(0:Int),N:=(0:Int),aW:=a.aW:di})] [DV.agg [CI q2,CS q0,CL .bf (sw m a).F.ag,CI q4,CI q5,CS q3],VB (If m a)] else Lf [DV.agg [CI a.Kind,CS a.Name,CL .bf q1,CI 0,CI 0,CS a.aW],VB false] [DV.agg [CI q2,CS q0,CL .bf (sw m a).F.ag,CI q4,CI q5,CS q3],VB (If m a)])
 dsimp only
 refine bg (fun h=> ?_) (fun h=>bg (fun h4=>⟨eJ,ae (fun g=> ?_) (fun g=> ?_)⟩) (fun h4=>⟨eJ,ae (fun g=> ?_) (fun g=> ?_)⟩))
 ·have e:sw m a=⟨a.Kind,uO,m.eo.getD a.N.toNat 0,0,a.aW⟩:=if_pos h
  exact⟨(bo h).1,by have:=bo h;omega,LfE (a:=⟨a.Kind,uO,m.eo.getD a.N.toNat 0,0,a.aW⟩) e.symm (by simp only[If,decide_eq_true h,Bool.true_or,wQ,e];rfl)⟩
 all_goals have e0:sw m a=⟨a.Kind,⟨a.Name,nl a.ay m.bw⟩,0,if a.Kind=4 then a.N else 0,a.aW⟩:=if_neg h
 all_goals first|rw[if_pos h4] at e0|rw[if_neg h4] at e0
 ·exact LfE (a:=⟨a.Kind,⟨a.Name,nl a.ay m.bw⟩,0,a.N,a.aW⟩) e0.symm (by simp only[If,decide_eq_false h,show np a.ay m.bw=true from g,Bool.or_true,wQ,e0])
 ·exact LfE (a:=⟨a.Kind,⟨a.Name,nl a.ay m.bw⟩,0,a.N,a.aW⟩) e0.symm (by simp only[If,decide_eq_false h,show np a.ay m.bw=false from g,QJ,qx])
 ·exact LfE (a:=⟨a.Kind,⟨a.Name,nl a.ay m.bw⟩,0,0,a.aW⟩) e0.symm (by simp only[If,decide_eq_false h,show np a.ay m.bw=true from g,Bool.or_true,wQ,e0])
 ·exact LfE (a:=⟨a.Kind,⟨a.Name,nl a.ay m.bw⟩,0,0,a.aW⟩) e0.symm (by simp only[If,decide_eq_false h,show np a.ay m.bw=false from g,QJ,qx])
theorem IL{d:br}{m:av}(h:l8 d m=false):Lf [.one (.sl .eD []),.one (.lit (.bool false))] [.one (.sl .eD (nD d m)),.one (.lit (.bool (l8 d m)))]:=
 akE (by rw[nD,h];rfl) h.symm
theorem OB{d:br}{m:av}(h:ES d m=false):l8 d m=false:=by rw[l8,h];simp
theorem WA{d:br}{m:av}(h:(eW d m).all (If m)=false):l8 d m=false:=by rw[l8,h];simp
theorem TL{d:br}{m:av}(h:kl d m=true){i:Int}(h1:0<=i)(h2:i<(eW d m).length):((eW d m).getD i.toNat dj).ay.length<=cE d:=by
 obtain⟨r1,r2⟩:=oH h
 have hs:=d_ dV d.aw ct r1 r2
 have ht:=d_ hJ (eW d m) dj h1 h2
 have e:(d.aw.getD m.cL.toNat ct).bH=eW d m:=rfl
 simp only[dV,e] at hs
 simp only[hJ,kS] at ht
 have e2:sb (eW d m)=(eW d m).length+((eW d m).map hJ).sum:=rfl
 simp only[cE,j7]
 omega
def Yc:=bW (α:=br×av) (qC (qA .h_) (q1 (qA .aB))) [.ro,.ro] (fun(d,m)=>[cE d<=4294967295]) (fun(d,m)=>⟨[dL .eD (nD d m),dO (l8 d m)],[],[]⟩)
def Du(d:br)(m:av):List di×Int×T2×T8×Unit->Prop:=fun(o,i,b,g,_)=>b=(d.Name,d.aw,())/\g=(m.cL,m.eo,m.bw,())/\ES d m=true/\0<=i/\i<=(eW d m).length/\o=((eW d m).take i.toNat).map (sw m)/\((eW d m).drop i.toNat).all (If m)=(eW d m).all (If m)
def CH(d:br)(m:av):List di×Int×T2×T8×Unit->Nat:=fun(o,i,b,g,_)=>(eW d m).length-i.toNat
def ajO:AX Yc:=fun(d,m)=>bS [(6,aT [iO 6 .eD,iI 8,.box 2 (2,1024) [.lit .str,.shr .bB],.box 3 (3,1024) [.lit (.int .i64),.shr .int,.shr .cw]] (fun _=>Du d m) (CH d m))]
def ain:HH:=hF Yc func208 [ahM,WW,TV,ah6] ajO fun x hp hb=>by
 obtain⟨d,m⟩:=x
 have bo:cE d<=4294967295:=hp _ m0
 clear hp hb
 apply vE (let x0:=(d.aw.getD m.cL.toNat ct).bH;let q0:=Lf [VL .eD [],VB false] [VL .eD (nD d m),VB (l8 d m)];cE d<=4294967295/\bif !f_ d then q0 else bif !kl d m then q0 else 0<=m.cL/\m.cL.toNat<d.aw.length/\bif (m.eo.length:Int) !=(↑(cS (d.aw.getD m.cL.toNat ct).aH):Int) then q0 else 0<=m.cL/\m.cL.toNat<d.aw.length/\Du d m ([],0,(d.Name,d.aw,()),(m.cL,m.eo,m.bw,()),())/\∀(y:List di×Int×T9×T19×PUnit),let x2:={cL:=y.2.2.2.1.1,eo:=y.2.2.2.1.2.1,bw:=y.2.2.2.1.2.2.1:av};let x4:=y.2.1.toNat;let x3:=x0.getD x4 dj;let x1:=[sw x2 x3];let q1:=(y.1++x1,wrap i64 (y.2.1+1),(y.2.2.1.1,y.2.2.1.2.1,()),(y.2.2.2.1.1,y.2.2.2.1.2.1,y.2.2.2.1.2.2.1,()),());Du d m y->bif decide (y.2.1<(x0.length:Int)) then 0<=y.2.1/\x4<x0.length/\(x3.Kind=2->0<=x3.N/\x3.N<(y.2.2.2.1.2.1.length:Int))/\x3.ay.length<=4294967295/\bif !If x2 x3 then q0 else L4 (y.1.length+x1.length)/\Du d m q1/\CH d m q1<CH d m y else Lf [VL .eD y.1,VB true] [VL .eD (nD d m),VB (l8 d m)])
 dsimp only
 refine⟨bo,bx (fun h=>IL (by rw[l8,show f_ d=false from h];rfl)) (fun hd=>bx (fun h=>IL (OB (by rw[ES,show kl d m=false from h];rfl))) (fun hr=> ?_))⟩
 obtain⟨r1,r2⟩:=oH hr
 refine⟨r1,by omega,mI (fun h=>IL (OB (by rw[ES,decide_eq_false (show¬m.eo.length=cS (d.aw.getD m.cL.toNat ct).aH by omega)];simp))) (fun hl=> ?_)⟩
 have V7:ES d m=true:=by rw[ES,show kl d m=true from hr,decide_eq_true (show m.eo.length=cS (d.aw.getD m.cL.toNat ct).aH by omega)];rfl
 obtain⟨ha1,ha2⟩:=OX hd V7
 refine⟨r1,by omega,⟨rfl,rfl,V7,by omega,by omega,by simp,rfl⟩,?_⟩
 rintro⟨o,i,⟨b1,b2,⟨⟩⟩,⟨g1,g2,g3,⟨⟩⟩,⟨⟩⟩ ⟨hb,hg,-,h1,h2,rfl,hR⟩
 cases hb
 cases hg
 have hx:(d.aw.getD m.cL.toNat ct).bH=eW d m:=rfl
 simp only[hx]
 refine aR ?_ ?_<;>intro hc
 ·obtain⟨a1,a2⟩:=ha2 i h1 hc
  have has:=TL hr h1 hc
  rw[dW _ _ dj h1 hc] at hR
  refine⟨h1,by omega,a2,by omega,bx (fun g=> ?_) (fun g=> ?_)⟩
  ·exact IL (WA (by rw[<-hR,show If m ((eW d m).getD i.toNat dj)=false from g];rfl))
  ·have g':If m ((eW d m).getD i.toNat dj)=true:=g
   rw[g',wQ] at hR
   have hm:((eW d m).take i.toNat).map (sw m)++[sw m ((eW d m).getD i.toNat dj)]=((eW d m).take (i+1).toNat).map (sw m):=by rw[<-dl (eW d m) dj h1 hc,Ko];rfl
   rw[wi]
   exact⟨by simp only[wP,oq,fP,fz];omega,⟨rfl,rfl,V7,by omega,by omega,hm,hR⟩,by simp only[CH];omega⟩
 ·have e:(eW d m).drop i.toNat=[]:=List.drop_eq_nil_of_le (by omega)
  rw[e] at hR
  have hf:l8 d m=true:=by rw[l8,V7,<-hR,show f_ d=true from hd];rfl
  rw[cA (eW d m) (by omega)]
  exact akE (by rw[nD,if_pos hf]) hf.symm
def iQ(now:Int)(l:List aI):List aI:=l.filter fun x=>decide (x.At<=now)
def BU(now:Int)(l:List aI):List aI:=l.filter fun x=> !decide (x.At<=now)
theorem rj{α:Type}(p:α->Bool)(l:List α)(z:α){i:Int}(h1:0<=i)(h2:i<l.length):
  (l.take (i+1).toNat).filter p=(l.take i.toNat).filter p++(if p (l.getD i.toNat z) then[l.getD i.toNat z] else[]):=by
 rw[<-dl l z h1 h2,List.filter_append]
 congr 1
 simp only[List.filter_cons,List.filter_nil]
theorem oj{α:Type}(p:α->Bool)(l:List α)(n:Nat):((l.take n).filter p).length<=n:=
 uN (Mw _ _) (by simp;omega)
def afK:=bW (α:=(List aI)×Int) (qC (qL .aE) (q1 qI)) [.ro,.ro] (fun(l,now)=>[L4 (cy l)]) (fun(l,now)=>⟨[dL .aE (iQ now l),dL .aE (BU now l)],[],[]⟩)
def F7(l:List aI)(now:Int):(List aI×(Nat->Bool))×Int×List aI×List aI×Unit->Prop:=fun((xs,dd),i,due,oth,_)=>0<=i/\i<=l.length/\l=xs/\(∀j,i.toNat<=j->dd j=false)/\due=iQ now (l.take i.toNat)/\oth=BU now (l.take i.toNat)
def xK(l:List aI)(now:Int):(List aI×(Nat->Bool))×Int×List aI×List aI×Unit->Nat:=fun((xs,dd),i,due,oth,_)=>l.length-i.toNat
def ap0:AX afK:=fun(l,now)=>bS [(5,aT [.slot 8 (8,1024) (.part .aE),iI 9,iO 6 .aE,iO 7 .aE] (fun _=>F7 l now) (xK l now))]
def apa:HH:=hF afK func66 [ab8] ap0 fun x hp hb=>by
 obtain⟨l,now⟩:=x
 have bo:cy l<=4294967296:=hp _ m0
 clear hp hb
 apply vE (cy l<=4294967296/\F7 l now ((l,fun(x:Nat)=>false),0,[],[],())/\∀(y:(List aI×(Nat->Bool))×Int×List aI×List aI×PUnit),let x1:=y.2.1.toNat;let x2:=wrap i64 (y.2.1+1);let x5:=y.fst.1.getD x1 cC;let x6:=y.fst.1.length;let x0:=[x5];let x3:=x5.At;let x4:=(↑x6:Int);F7 l now y->bif decide (y.2.1<x4) then 0<=y.2.1/\x1<x6/\x1<x6/\y.fst.2 x1=false/\bif decide (x3<=now) then 0<=y.2.1/\x1<x6/\x1<x6/\y.fst.2 x1=false/\L4 (y.2.2.1.length+x0.length)/\F7 l now ((y.fst.1,fun(j:Nat)=>Nat.beq j x1||y.fst.2 j),x2,y.2.2.1++x0,y.2.2.2.1,())/\xK l now ((y.fst.1,fun(j:Nat)=>Nat.beq j x1||y.fst.2 j),x2,y.2.2.1++x0,y.2.2.2.1,())<xK l now y else 0<=y.2.1/\x1<x6/\x1<x6/\y.fst.2 x1=false/\L4 (y.2.2.2.1.length+x0.length)/\F7 l now ((y.fst.1,fun(j:Nat)=>Nat.beq j x1||y.fst.2 j),x2,y.2.2.1,y.2.2.2.1++x0,())/\xK l now ((y.fst.1,fun(j:Nat)=>Nat.beq j x1||y.fst.2 j),x2,y.2.2.1,y.2.2.2.1++x0,())<xK l now y else Lf [VL .aE y.2.2.1,VL .aE y.2.2.2.1] [VL .aE (iQ now l),VL .aE (BU now l)])
 dsimp only
 refine⟨bo,⟨by omega,by omega,rfl,fun _ _=>rfl,rfl,rfl⟩,?_⟩
 rintro⟨⟨xs,dd⟩,i,due,oth,⟨⟩⟩ ⟨h1,h2,rfl,hd,rfl,rfl⟩
 simp only
 refine ae ?_ ?_<;>intro hc
 ·have hc:=yT hc
  have gy:i.toNat<l.length:=by omega
  have IB:=hd i.toNat (uh _)
  have hl:l.length<=4294967296:=by simp only[cy] at bo;omega
  have hw:IntKind.i64.wrap (i+1)=i+1:=wi
  have g1:=rj (fun x:aI=>decide (x.At<=now)) l cC h1 hc
  have g2:=rj (fun x:aI=> !decide (x.At<=now)) l cC h1 hc
  have e1:(iQ now (l.take i.toNat)).length<=i.toNat:=oj _ _ _
  have e2:(BU now (l.take i.toNat)).length<=i.toNat:=oj _ _ _
  have kM:∀j,(i+1).toNat<=j->(Nat.beq j i.toNat||dd j)=false:=fun j hj=>by
   rw[hd j (by omega),QJ,<-wI,HQ];omega
  rw[hw]
  refine⟨h1,gy,gy,IB,ae (fun ha=> ?_) (fun ha=> ?_)⟩
  ·refine⟨h1,gy,gy,IB,by simp;omega,⟨by omega,by omega,rfl,kM,?_,?_⟩,by simp only[xK];omega⟩
   ·show _=List.filter _ _
    rw[g1,if_pos ha];rfl
   ·show _=List.filter _ _
    rw[g2,if_neg (by rw[ha];decide),uJ];rfl
  ·refine⟨h1,gy,gy,IB,by simp;omega,⟨by omega,by omega,rfl,kM,?_,?_⟩,by simp only[xK];omega⟩
   ·show _=List.filter _ _
    rw[g1,if_neg (by rw[ha];decide),uJ];rfl
   ·show _=List.filter _ _
    rw[g2,if_pos (by rw[ha];decide)];rfl
 ·have hc:=yF hc
  rw[cA l (by omega)]
  exact aY _
def afR:=bW (α:=(List aI)×Int) (qC (qL .aE) (q1 qI)) [.ro,.ro] (fun(l,now)=>[L4 (cy l)]) (fun(l,now)=>⟨[dL .aE (iQ now l),dL .aE (BU now l)],[],[]⟩)
def F8(l:List aI)(now:Int):(List aI×(Nat->Bool))×Int×List aI×List aI×Unit->Prop:=fun((xs,dd),i,due,oth,_)=>0<=i/\i<=l.length/\l=xs/\(∀j,i.toNat<=j->dd j=false)/\due=iQ now (l.take i.toNat)/\oth=BU now (l.take i.toNat)
def xL(l:List aI)(now:Int):(List aI×(Nat->Bool))×Int×List aI×List aI×Unit->Nat:=fun((xs,dd),i,due,oth,_)=>l.length-i.toNat
def ap7:AX afR:=fun(l,now)=>bS [(3,aT [.slot 11 (11,1024) (.part .aE),iI 13,iO 6 .aE,iO 7 .aE] (fun _=>F8 l now) (xL l now))]
def api:HH:=hF afR func55 [ahF] ap7 fun x hp hb=>by
 obtain⟨l,now⟩:=x
 have jQ:L9 l.length:=kG (hb _ m0)
 have rN:=zk (n:=now) (hb _ m1)
 have bo:cy l<=4294967296:=hp _ m0
 clear hp hb
 apply vE (cy l<=4294967296/\F8 l now ((l,fun(x:Nat)=>false),0,[],[],())/\∀(y:(List aI×(Nat->Bool))×Int×List aI×List aI×PUnit),let x1:=y.2.1.toNat;let x2:=wrap i64 (y.2.1+1);let x4:=y.fst.1.getD x1 cC;let x0:=[x4];let x3:=x4.At;F8 l now y->bif decide (y.2.1<(l.length:Int)) then 0<=y.2.1/\x1<y.fst.1.length/\x1<y.fst.1.length/\y.fst.2 x1=false/\bif decide (x3<=now) then L4 (y.2.2.1.length+x0.length)/\F8 l now ((y.fst.1,fun(j:Nat)=>Nat.beq j x1||y.fst.2 j),x2,y.2.2.1++x0,y.2.2.2.1,())/\xL l now ((y.fst.1,fun(j:Nat)=>Nat.beq j x1||y.fst.2 j),x2,y.2.2.1++x0,y.2.2.2.1,())<xL l now y else L4 (y.2.2.2.1.length+x0.length)/\F8 l now ((y.fst.1,fun(j:Nat)=>Nat.beq j x1||y.fst.2 j),x2,y.2.2.1,y.2.2.2.1++x0,())/\xL l now ((y.fst.1,fun(j:Nat)=>Nat.beq j x1||y.fst.2 j),x2,y.2.2.1,y.2.2.2.1++x0,())<xL l now y else Lf [VL .aE y.2.2.1,VL .aE y.2.2.2.1] [VL .aE (iQ now l),VL .aE (BU now l)])
 dsimp only
 refine⟨bo,⟨by omega,by omega,rfl,fun _ _=>rfl,rfl,rfl⟩,?_⟩
 rintro⟨⟨xs,dd⟩,i,due,oth,⟨⟩⟩ ⟨h1,h2,rfl,hd,rfl,rfl⟩
 simp only
 refine ae ?_ ?_<;>intro hc
 ·have hc:=yT hc
  have gy:i.toNat<l.length:=by omega
  have IB:=hd i.toNat (uh _)
  have hl:l.length<=4294967296:=by simp only[cy] at bo;omega
  have hw:IntKind.i64.wrap (i+1)=i+1:=wi
  have g1:=rj (fun x:aI=>decide (x.At<=now)) l cC h1 hc
  have g2:=rj (fun x:aI=> !decide (x.At<=now)) l cC h1 hc
  have e1:(iQ now (l.take i.toNat)).length<=i.toNat:=oj _ _ _
  have e2:(BU now (l.take i.toNat)).length<=i.toNat:=oj _ _ _
  have kM:∀j,(i+1).toNat<=j->(Nat.beq j i.toNat||dd j)=false:=fun j hj=>by
   rw[hd j (by omega),QJ,<-wI,HQ];omega
  rw[hw]
  refine⟨h1,gy,gy,IB,ae (fun ha=> ?_) (fun ha=> ?_)⟩
  ·refine⟨by simp;omega,⟨by omega,by omega,rfl,kM,?_,?_⟩,by simp only[xL];omega⟩
   ·show _=List.filter _ _
    rw[g1,if_pos ha];rfl
   ·show _=List.filter _ _
    rw[g2,if_neg (by rw[ha];decide),uJ];rfl
  ·refine⟨by simp;omega,⟨by omega,by omega,rfl,kM,?_,?_⟩,by simp only[xL];omega⟩
   ·show _=List.filter _ _
    rw[g1,if_neg (by rw[ha];decide),uJ];rfl
   ·show _=List.filter _ _
    rw[g2,if_pos (by rw[ha];decide)];rfl
 ·have hc:=yF hc
  rw[cA l (by omega)]
  exact aY _
def ux(l:List aI)(a:Int):Nat->Nat
 |0=>0
 |n+1=>if(l.getD n cC).At>a then ux l a n else n+1
theorem Oc(l:List aI)(a:Int):∀n,ux l a n<=n
 |0=>uh _
 |n+1=>by have:=Oc l a n;simp only[ux];split<;>omega
def nu(l:List aI)(x:aI):Bool:=dt l&&iq x&&decide (l.length<30)
def rS(l:List aI)(x:aI):List aI:=if nu l x then l.take (ux l x.At l.length)++x::l.drop (ux l x.At l.length) else l
def oD(l:List aI)(k:Nat)(d:aI):List aI:=l.take k++d::l.drop k
theorem P0(l:List aI){k:Nat}(h:k<=l.length)(d:aI):(oD l k d).length=l.length+1:=by
 simp[oD];omega
theorem Sr(l:List aI){k j:Nat}(h:k<=l.length)(hj:j<k)(d:aI):(oD l k d).getD j cC=l.getD j cC:=by
 simp only[oD,eV]
 rw[zY (by simp;omega),qy,if_pos hj]
theorem G_(l:List aI){k:Nat}(h:k<=l.length)(d x:aI):(oD l k d).set k x=oD l k x:=by
 unfold oD
 rw[List.set_append_right _ _ (by simp;omega)]
 have:k-(l.take k).length=0:=by simp;omega
 rw[this];rfl
theorem Ls(l:List aI){k:Nat}(h0:0<k)(h:k<=l.length):oD l k (l.getD (k-1) cC)=oD l (k-1) (l.getD (k-1) cC):=by
 unfold oD
 obtain⟨n,rfl⟩:∃n,k=n+1:=⟨k-1,by omega⟩
 have hn:n<l.length:=by omega
 simp only[Nat.add_sub_cancel]
 have e:l.getD n cC=l[n]:=by rw[eV,fE hn];rfl
 rw[e,zcz hn,xU,<-Us hn]
 rfl
theorem LfT{a a':List aI}{b b':Bool}(h1:a=a')(h2:b=b'):Lf [.one (.sl .aE a),.one (.lit (.bool b))] [.one (.sl .aE a'),.one (.lit (.bool b'))]:=by
 subst h1 h2;exact aY _
def X7:=bW (α:=(List aI)×aI) (qC (qL .aE) (q1 (qA .aE))) [.ro,.ro] (fun(l,x)=>[L4 (cy l),L4 (ig x)]) (fun(l,x)=>⟨[dL .aE (rS l x),dO (nu l x)],[],[]⟩)
def Dq(l:List aI)(x:aI):(List aI×(Nat->Bool))×Int×T17×Unit->Prop:=fun((xs,dd),k,b,_)=>0<=k/\k<=l.length/\(∃d,xs=oD l k.toNat d)/\(∀j,j<l.length+1->j≠k.toNat->dd j=false)/\ux l x.At k.toNat=ux l x.At l.length/\b=(x.At,x.F.Kind,x.F.ag,())
def CD(l:List aI)(x:aI):(List aI×(Nat->Bool))×Int×T17×Unit->Nat:=fun((xs,dd),k,b,_)=>k.toNat
def ajH:AX X7:=fun(l,x)=>bS [(7,aT [.slot 6 (6,1024) (.part .aE),iI 7,.box 3 (3,1024) [.lit (.int .i64),.lit .str,.own .bf true]] (fun _=>Dq l x) (CD l x))]
def ah4:HH:=hF X7 func235 [ab8,ahH,ahA,A9] ajH fun x hp hb=>by
 obtain⟨l,x⟩:=x
 have bo:cy l<=4294967296:=hp _ m0
 have eJ:ig x<=4294967296:=hp _ m1
 clear hp hb
 apply vE (let q0:=Lf [VL .aE l,VB false] [VL .aE (rS l x),VB (nu l x)];L4 (cy l)/\bif !dt l then q0 else bif !iq x then q0 else bif decide ((l.length:Int)≥30) then q0 else L4 x.F.ag.length/\l.length+(List.replicate 1 cC).length<=4294967296/\Dq l x ((l++List.replicate 1 cC,fun(i:Nat)=>Nat.ble (l.length) i),(l.length:Int),(x.At,x.F.Kind,x.F.ag,()),())/\∀(y:(List aI×(Nat->Bool))×Int×(Int×BA×List a_×PUnit)×PUnit),let x1:=y.2.1.toNat;let x3:=wrap i64 (y.2.1-1);let x6:=y.fst.1.length;let x0:=y.fst.1.set x1 {At:=y.2.2.1.1,F:={Kind:=y.2.2.1.2.1,ag:=y.2.2.1.2.2.1:aL}:aI};let x2:=x3.toNat;let x5:=y.fst.1.getD x2 cC;let x4:=x5.At;let q1:=Lf [VL .aE x0,VB true] [VL .aE (rS l x),VB (nu l x)];let q2:=(y.2.2.1.1,y.2.2.1.2.1,y.2.2.1.2.2.1,());Dq l x y->bif decide (y.2.1>0) then 0<=x3/\x2<x6/\x2<x6/\y.fst.2 x2=false/\bif decide (x4>y.2.2.1.1) then 0<=x3/\x2<x6/\x2<x6/\y.fst.2 x2=false/\0<=y.2.1/\x1<x6/\x1<x6/\Dq l x ((y.fst.1.set x1 x5,fun(j:Nat)=> !Nat.beq j x1&&(Nat.beq j x2||y.fst.2 j)),x3,q2,())/\CD l x ((y.fst.1.set x1 x5,fun(j:Nat)=> !Nat.beq j x1&&(Nat.beq j x2||y.fst.2 j)),x3,q2,())<CD l x y else 0<=y.2.1/\x1<x6/\x1<x6/\(∀(i:Nat),i<x0.length->(!Nat.beq i x1&&y.fst.2 i)=false)/\q1 else 0<=y.2.1/\x1<x6/\x1<x6/\(∀(i:Nat),i<x0.length->(!Nat.beq i x1&&y.fst.2 i)=false)/\q1)
 dsimp only
 refine⟨bo,ae (fun h=> ?_) (fun h=>ae (fun h'=> ?_) (fun h'=>ae (fun pg=> ?_) (fun pg=> ?_)))⟩
 ·have hf:nu l x=false:=by simp only[nu];simp at h;simp[h]
  exact LfT (by rw[rS,hf];rfl) hf.symm
 ·have hf:nu l x=false:=by simp only[nu];simp at h';simp[h']
  exact LfT (by rw[rS,hf];rfl) hf.symm
 ·have hf:nu l x=false:=by simp only[nu];have pg:=yT pg;rw[decide_eq_false (by omega)];simp
  exact LfT (by rw[rS,hf];rfl) hf.symm
 have h3:=yF pg
 have ho:nu l x=true:=by simp only[nu];simp at h h';rw[h,h',decide_eq_true (by omega)];rfl
 have hT:rS l x=oD l (ux l x.At l.length) x:=by rw[rS,if_pos ho];rfl
 refine⟨?_,by simp;omega,⟨by omega,by omega,⟨cC,by simp[oD]⟩,fun j hj uA=> ?_,rfl,rfl⟩,?_⟩
 ·simp only[ig,dh,eG] at eJ;omega
 ·show Nat.ble l.length j=false
  rw[<-wI,QT];omega
 rintro⟨⟨xs,dd⟩,k,⟨bA,bK,bF,⟨⟩⟩,⟨⟩⟩ ⟨h1,h2,⟨d,rfl⟩,hd,PZ,hb⟩
 cases hb
 simp only
 have hlen:=P0 l (k:=k.toNat) (by omega) d
 have fin:ux l x.At k.toNat=k.toNat->0<=k/\k.toNat<(oD l k.toNat d).length/\k.toNat<(oD l k.toNat d).length/\
   (∀i,i<((oD l k.toNat d).set k.toNat x).length->(!Nat.beq i k.toNat&&dd i)=false)/\
   Lf [.one (.sl .aE ((oD l k.toNat d).set k.toNat x)),.one (.lit (.bool true))] [.one (.sl .aE (rS l x)),.one (.lit (.bool (nu l x)))]:=by
  intro hk
  refine⟨h1,by rw[hlen];omega,by rw[hlen];omega,fun i hi=> ?_,LfT ?_ ho.symm⟩
  ·rw[Mx,hlen] at hi
   by_cases hik:i=k.toNat
   ·subst hik;simp
   ·rw[hd i hi hik];simp
  ·rw[G_ l (by omega),hT,<-PZ,hk]
 refine ae ?_ ?_<;>intro hc
 ·have hc:=yT hc
  have hw:IntKind.i64.wrap (k-1)=k-1:=wi
  have ek:(k-1).toNat=k.toNat-1:=by omega
  obtain⟨n,hn⟩:∃n,k.toNat=n+1:=⟨k.toNat-1,by omega⟩
  have hlo:=Sr l (k:=k.toNat) (j:=k.toNat-1) (by omega) (by omega) d
  have XL:=hd (k.toNat-1) (by omega) (by omega)
  rw[hw,ek,hlo]
  refine⟨by omega,by rw[hlen];omega,by rw[hlen];omega,XL,ae (fun hg=> ?_) (fun hg=> ?_)⟩
  ·have hg:=yT hg
   refine⟨by omega,by rw[hlen];omega,by rw[hlen];omega,XL,by omega,by rw[hlen];omega,by rw[hlen];omega,⟨by omega,by omega,⟨l.getD (k.toNat-1) cC,?_⟩,fun j hj uA=> ?_,?_,rfl⟩,by simp only[CD];omega⟩
   ·rw[G_ l (by omega),ek]
    exact Ls l (by omega) (by omega)
   ·show(!Nat.beq j k.toNat&&(Nat.beq j (k.toNat-1)||dd j))=false
    rw[ek] at uA
    have e1:Nat.beq j (k.toNat-1)=false:=by rw[<-wI,HQ];exact uA
    by_cases hjk:j=k.toNat
    ·subst hjk;simp
    ·rw[e1,hd j hj hjk];simp
   ·rw[<-PZ,ek,hn]
    rw[hn] at hg
    simp only[Nat.add_sub_cancel] at hg⊢
    rw[ux,if_pos hg]
  ·have hg:=yF hg
   refine fin ?_
   rw[hn] at hg⊢
   simp only[Nat.add_sub_cancel] at hg
   rw[ux,if_neg hg]
 ·have hc:=yF hc
  refine fin ?_
  have:k.toNat=0:=by omega
  rw[this,ux]
structure ah where
 b:List Int
 i:Int
 h:Int
def dU (c : ah) : DV UU := .box [.sl .byte c.b, .lit (.int .i64 c.i), .lit (.int .i64 c.h)]
def oU : DV UU -> Option ah := fun | .box [.sl .byte b, .lit (.int .i64 i), .lit (.int .i64 h)] => some ⟨b, i, h⟩ | _ => none
theorem lU (d : DV UU) (x : ah) (h : oU d = some x) : dU x = d := by
  unfold oU at h
  split at h <;> cases h
  rfl
theorem QP {x : ah} (h : gN (dU x)) : x.b.length <= 9223372036854775807 := Bd.len (U := UU) (τ := .byte) (xs := x.b) (h _ List.mem_cons_self)
def qU:Q1 ah:=⟨dU,oU,lU⟩
abbrev bU(x:ah):DV UU:=.box [.sl .byte x.b,.lit (.int .i64 x.i),.lit (.int .i64 x.h)]
def VO(h:Int)(x:Int):Int:=IntKind.wrap .i64 (((BitVec.ofInt (IntKind.bits .i64) (IntKind.wrap .i64 (IntKind.wrap .i64 (IntKind.wrap .i64 (h*137)+IntKind.wrap .i64 x)+11))&&&BitVec.ofInt (IntKind.bits .i64) 1073741823).toNat:Nat):Int)
def acV(code:List Int):Int:=(code.take 4000).foldl VO (354354+code.length)
def iA(code:List Int):ah:=⟨code,0,acV code⟩
def Lj(h:Int):Int:=IntKind.wrap .i64 (IntKind.wrap .i64 (h*6364136223846793005)+1442695040888963407)
def AZ(x:Int):Int:=IntKind.wrap .i64 (((BitVec.ofInt (IntKind.bits .i64) x&&&BitVec.ofInt (IntKind.bits .i64) 255).toNat:Nat):Int)
def VN(h:Int):Int:=AZ (IntKind.wrap .i64 (((BitVec.ofInt (IntKind.bits .i64) (Int.fdiv h ((2:Int)^min (Int.toNat 33) (IntKind.bits .i64)))^^^BitVec.ofInt (IntKind.bits .i64) (Int.fdiv h ((2:Int)^min (Int.toNat 47) (IntKind.bits .i64)))).toNat:Nat):Int))
def iS(c:ah):Int:=if c.i<c.b.length then AZ (IntKind.wrap .i64 (VN (Lj c.h)+IntKind.wrap .i64 (c.b.getD c.i.toNat 0))) else VN (Lj c.h)
def ew(c:ah):ah:=⟨c.b,if c.i<c.b.length then c.i+1 else c.i,Lj c.h⟩
end
end AM
