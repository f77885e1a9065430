import Derived.Test.YthciaocifglggaaGreatDoorQAmOps2
namespace AM
set_option linter.unusedVariables false
open Go
variable{U:kz}{E:Env U}{pm:Pm}
variable{F:Nat->Prop}{kv:Key->Value}{fp:Key->List Nat}{σ:af U}{a:Act}{w:World}
def FA(σ:af U)(F:Nat->Prop)(fp:Key->List Nat)(b:Nat):Prop:=F b\/∃k e,σ.bH k=some e/\b∈fp k
theorem Rp.fh{w:World}{F F':Nat->Prop}{c:U.C}{v:Value}(h:Rp E w F false c v [])(hF:∀b,F b->F' b):Rp E w F' false c v []:=
 h.kD hF (by simp)
theorem Ka(h:cG E pm F kv fp σ a w){k:Key}{x:eK U}{d:Bool}(he:σ.bH k=some (.arr x d)):
  Rp E w (fun b=>F b\/b∈fp k) false (.sl x.τ x.xs) (kv k) []:=
 eu.kD (h.cV k _ he) (fun b hb=> .inl hb) (fun b hb=> .inr hb)
theorem dU.LD{dead:Nat->Bool}{x:eK U}{v:Value}{l:List Nat}(h:dU E w F dead x v l):∃ad c,v=.slice ad x.xs.length c/\x.xs.length<=c:=by
 rcases h with⟨h0,⟨ad,rfl⟩,_⟩|⟨b,cap,cur,vs,gA,rfl,_,hc,hm,_⟩
 ·exact⟨ad,0,by simp[h0],by simp[h0]⟩
 ·exact⟨_,_,rfl,hc⟩
theorem dU.Y_{dead:Nat->Bool}{x b:eK U}{v:Value}{l:List Nat}{i wd j:Nat}{p:Path}{ps:List Prop}(h:dU E w F dead x v l)(hw:walk ((i,wd,j)::p) x=some (ps,b))(hp:∀q∈ps,q)(OW:dead i=false):
  ∃v',nq w (fun c=>F c\/c∈l) v ((i,wd,j)::p) v'/\Rp E w (fun c=>F c\/c∈l) false (.sl b.τ b.xs) v' []:=by
 obtain⟨τ,xs⟩:=x
 simp only[walk] at hw
 cases sK:Nat.beq wd (U.wd τ)<;>simp only[sK,cond_false,cond_true] at hw
 ·cases hw
 have M0:wd=U.wd τ:=lN sK
 subst M0
 split at hw
 rotate_left
 ·cases hw
 rename_i τ1 ys hx
 split at hw
 rotate_left
 ·cases hw
 rename_i Ga b' hw'
 simp only[fJ,nE] at hw
 obtain⟨rfl,rfl⟩:=hw
 have hi:i<xs.length:=hp _ (by simp)
 have tE:=eH (d:=U.eP τ) hi
 rcases h with⟨h0,_⟩|⟨g,cap,cur,vs,gA,rfl,hb,hc,hm,hs,hv,hr,jU,rfl⟩
 ·simp only at h0;subst h0;simp at hi
 ·have jy:=hr i _ j _ OW tE hx
  have fX:=fe tE hx
  have hsh:=jy.kD (F':=fun c=>F c\/c∈g::(List.range (xs.length*U.wd τ)).flatMap gA) (fun b hb=> .inl hb) (fun b hb=> .inr (bi _ (nl.2 ⟨_,oc.2 fX,hb⟩)))
  obtain⟨v',h1,h2⟩:=Rp.Y_ (a:=⟨τ1,ys⟩) hsh hw' (fun q hq=>hp q (by simp[hq]))
  refine⟨v',⟨g,0,_,cap,_,rfl,.inr (by simp),?_,h1⟩,h2⟩
  simp only[World.cell?,hb,tW]
  simpa using(hv _ fX).1
theorem aaV{k:Key}{e:ir U}(he:σ.bH k=some e):∀b,(F b\/b∈fp k)->FA σ F fp b:=
 fun b hb=>hb.elim .inl (fun hb=> .inr ⟨k,e,he,hb⟩)
theorem DF{ks:List Key}{k:Key}{p:Path}{e:ir U}(hc:fg (restrict σ.bH ks) σ.aC k p=true)(he:restrict σ.bH ks k=some e):
  (!p.isEmpty&&bW σ k)=false:=by
 unfold fg at hc
 simp only[B3,eE,rj] at hc
 rcases hc with hc|⟨_,hc⟩
 ·simp[hc]
 ·simp[bW,hc,jx he]
theorem Rp.sub{w:World}{F:Nat->Prop}{τ:U.Ty}{xs:List (U.T τ)}{v:Value}(h:Rp E w F false (.sl τ xs) v []){lo hi:Nat}(h1:lo<=hi)(h2:hi<=xs.length):
  Rp E w F false (.sl τ ((xs.take hi).drop lo)) (pB (U.wd τ) lo hi v) []:=by
 have hlen:((xs.take hi).drop lo).length=hi-lo:=by simp;omega
 rcases h.inv with⟨h0,ad,c,rfl⟩|⟨b,off,cap,vs,rfl,hF,hc,hv,hr⟩
 ·subst h0
  simp only[om] at h2
  have:lo=0:=by omega
  have:hi=0:=by omega
  subst_vars
  simp only[List.take_nil,List.drop_nil,pB,Nat.sub_zero]
  exact .nil _ _ _ _ (by simp)
 ·by_cases h3:hi=lo
  ·subst h3
   have:(xs.take hi).drop hi=[]:=Du (by rw[hlen];omega)
   rw[this]
   simp only[pB,Y7]
   exact .nil _ _ _ _ (by simp)
  ·have et:¬cap=lo:=by omega
   have KT:(⟨b,off,none⟩:Addr).add (lo*U.wd τ)=⟨b,off+lo*U.wd τ,none⟩:=Addr.add_mid _ _ _
   have:=Rp.shr (E:=E) (w:=w) (F:=F) τ ((xs.take hi).drop lo) b (off+lo*U.wd τ) (cap-lo) (fun i=>vs (lo*U.wd τ+i)) hF (by rw[hlen];omega) (by rw[hlen];have:=h.len;omega)
    (fun i pg=>by
     rw[Lm]
     refine hv _ ?_
     rw[hlen] at pg
     have:lo*U.wd τ+(hi-lo)*U.wd τ=hi*U.wd τ:=by rw[<-wD];congr 1;omega
     have:hi*U.wd τ<=xs.length*U.wd τ:=wH _ h2
     omega)
    (fun i x j c hx hj=>by
     have pg:i<hi-lo:=by
      rcases mX i (hi-lo) with h|h
      ·exact h
      ·rw[mi (by rw[hlen];exact h)] at hx;cases hx
     have OO:xs[lo+i]? =some x:=by
      rw[Dt,nF] at hx
      rw[if_pos (by omega)] at hx
      exact hx
     have:=hr (lo+i) x j c OO hj
     rw[wD,Lm] at this
     exact this)
   simp only[pB,et,if_false,B5,KT]
   rw[hlen] at this
   exact this
theorem WC(h:cG E pm F kv fp σ a w){ks:List Key}{x:AC U}{v:Value}{ps:List Prop}{b:eK U}
  (ha:oW (restrict σ.bH ks) σ.aC x=some (ps,b)) (hp:∀p∈ps,p) (hx:RD E w F kv fp (bW σ) x v):Rp E w (FA σ F fp) false (.sl b.τ b.xs) v []:=by
 unfold oW at ha
 split at ha
 ·cases ha
  exact Rp.fh (cn hx rfl) (fun b hb=> .inl hb)
 ·cases ha
  exact Rp.fh (cn hx rfl).1 (fun b hb=> .inl hb)
 ·rename_i k p
  split at ha
  ·rename_i y d he
   cases hc:fg (restrict σ.bH ks) σ.aC k p<;>simp only[hc,cond_false,cond_true] at ha
   ·cases ha
   ·have hn:=cn hx (DF hc he)
    obtain⟨v',h1,h2⟩:=(Ka h (jx he)).Y_ ha hp
    have:v=v':=hn.unique h1
    subst this
    exact h2.fh (aaV (jx he))
  ·cases ha
 ·rename_i k wd lo hi
  split at ha
  ·rename_i y d he
   cases hw:Nat.beq wd (U.wd y.τ)<;>simp only[hw,cond_false,cond_true] at ha
   ·cases ha
   ·cases ha
    have sK:=lN hw
    subst sK
    obtain⟨h1,h2⟩:=cn hx rfl
    subst h1
    exact((Ka h (jx he)).sub h2 (hp _ (by simp))).fh (aaV (jx he))
  ·cases ha
 ·cases ha
theorem ak_{n:Nat}{P:Nat->Value->Prop}(h:∀j,j<n->∃u,P j u):∃us:List Value,us.length=n/\∀(j:Nat)(u:Value),us[j]? =some u->P j u:=by
 induction n with
 |zero=>exact⟨[],rfl,fun j u hu=>by simp at hu⟩
 |succ n ih=>
  obtain⟨us,h1,h2⟩:=ih (fun j hj=>h j (by omega))
  obtain⟨u,hu⟩:=h n (by omega)
  refine⟨us++[u],by simp[h1],fun j v hv=> ?_⟩
  by_cases hj:j<n
  ·rw[wF (by omega)] at hv;exact h2 j v hv
  ·rw[wI (by omega)] at hv
   have:j-us.length=0:=by
    rcases Nat.eq_zero_or_pos (j-us.length) with h|h
    ·exact h
    ·rw[mi (by simp;omega)] at hv;cases hv
   rw[this] at hv
   simp only[sB,fJ] at hv
   have XL:j=n:=by omega
   rw[XL,<-hv];exact hu
theorem PO{t:TypeId}{g:Bool}(h:E.isAgg t=some g):∃d,E.P.underlying t=some d/\d.isRow=g:=by
 unfold Env.isAgg at h
 split at h
 ·rename_i hu;cases h;exact⟨_,hu,rfl⟩
 ·rename_i hu;cases h;exact⟨_,hu,rfl⟩
 ·rename_i d h1 h2 hu
  cases h
  refine⟨d,hu,?_⟩
  cases d<;>first|rfl|exact(h1 _ rfl).elim|exact(h2 _ _ rfl).elim
 ·cases h
theorem Px{t:TypeId}{g:Bool}{n b off:Nat}{us:List Value}(hs:E.size t=some n)(hg:E.isAgg t=some g)(KP:(g||Nat.beq n 1)=true)(hl:us.length=n)
  (hr:w.rangeAt b off us):∃v,(Instr.loadAt t (.pointer (some ⟨b,off,none⟩))).run E.P w=.ok v w/\(if g then v=.agg us.toArray else us=[v]):=by
 obtain⟨d,hu,hd⟩:=PO hg
 cases g with
 |true=>exact⟨_,run_loadAt_mid w b off t us d hr hu hd (by simpa[hl,Env.size] using hs),by simp⟩
 |false=>
  simp only[Hv] at KP
  have hn:=lN KP
  subst hn
  obtain⟨u,rfl⟩:∃u,us=[u]:=by
   match us,hl with
   |[u],_=>exact⟨u,rfl⟩
  have hc:=hr 0 u rfl
  simp only[FD] at hc
  refine⟨u,?_,by simp⟩
  have Nz:(Go.isAgg t).run E.P w=.ok false w:=by
   unfold Go.isAgg
   rw[Sem.run_bind,run_underlying hu w]
   cases d<;>simp_all
  simp[Instr.loadAt,Instr.sureAddr,loadVar,Nz,hc]
theorem OG{bad:Key->Bool}{xs:List (AC U)}{vs:List Value}(hl:xs.length=vs.length)(h:∀(i:Nat)(x:AC U)(v:Value),xs[i]? =some x->vs[i]? =some v->RD E w F kv fp bad x v):kX E w F kv fp bad xs vs:=⟨hl,h⟩
theorem PH{k:Key}{p:Path}{i wd:Nat}:∀{cs:List U.C}{j:Nat},(gE k p i wd cs j).length=cs.length
 |[],j=>rfl
 | .lit v::r,j=>by simp[gE,PH]
 | .sl _ _::r,j=>by simp[gE,PH]
theorem PI{k:Key}{p:Path}{i wd:Nat}:∀{cs:List U.C}{j n:Nat}{x:AC U},(gE k p i wd cs j)[n]? =some x->
  ∃c,cs[n]? =some c/\((∃v,c=.lit v/\x=.c (.lit v))\/(∃τ xs,c=.sl τ xs/\x=.ref k (p++[(i,wd,j+n)])))
 |[],j,n,x,h=>by simp[gE] at h
 | .lit v::r,j,n,x,h=>by
  cases n with
  |zero=>simp only[gE,sB,fJ] at h;exact⟨.lit v,rfl,.inl ⟨v,rfl,h.symm⟩⟩
  |succ n=>
   obtain⟨c,h1,h2⟩:=PI (by simpa[gE] using h)
   exact⟨c,by simpa using h1,by rwa[show j+(n+1)=j+1+n by omega]⟩
 | .sl τ xs::r,j,n,x,h=>by
  cases n with
  |zero=>simp only[gE,sB,fJ] at h;exact⟨.sl τ xs,rfl,.inr ⟨τ,xs,rfl,h.symm⟩⟩
  |succ n=>
   obtain⟨c,h1,h2⟩:=PI (by simpa[gE] using h)
   exact⟨c,by simpa using h1,by rwa[show j+(n+1)=j+1+n by omega]⟩
theorem akv(h:cG E pm F kv fp σ a w){o:Oper}{t:TypeId}{x:Operand}{sx:SV U}{y:AC U}{n:Nat}{g:Bool}{ks:List Key}{r:ch U}(ho:o.op=.load t x)
  (hx:RS E w F kv fp (bW σ) sx (a.eval x)) (hc:sr sx=some y) (hs:E.size t=some n) (hg:E.isAgg t=some g)
  (hr:loadAt (restrict σ.bH ks) σ.aC g n y=some r) (hp:∀p∈r.pre,p):∃sv ps,r=⟨some sv,[],[],[],ps⟩/\cv E F kv fp (bW σ) a w o sv:=by
 have hx:=kt hx hc
 have fin:∀(cs:List (AC U))(us:List Value)(b off:Nat),a.eval x=.pointer (some ⟨b,off,none⟩)->(g||Nat.beq n 1)=true->us.length=n->w.rangeAt b off us->kX E w F kv fp (bW σ) cs us->
   cv E F kv fp (bW σ) a w o (.v ⟨g,cs⟩):=by
  intro cs us b off hv KP hl mo yA
  obtain⟨v,h1,h2⟩:=Px hs hg KP hl mo
  refine⟨v,?_,us,yA,h2⟩
  unfold execOp;simp only[ho,hv];exact ic h1
 unfold loadAt at hr
 cases KP:(g||Nat.beq n 1)<;>simp only[KP,cond_false,cond_true] at hr
 ·cases hr
 split at hr
 ·rename_i cs
  cases hb:Nat.ble n cs.length<;>simp only[hb,cond_false,cond_true] at hr
  ·cases hr
  ·cases hr
   refine⟨_,_,rfl,?_⟩
   have hb:=FH hb
   obtain⟨b,off,h1,h2,h3⟩:=cn hx rfl
   obtain⟨us,h4,h5⟩:=ak_ (n:=n) (P:=fun j u=>w.cell? ⟨b,off+j,none⟩=some u/\∀c,cs[j]? =some c->Rp E w F false c u []) (fun j hj=>by
    obtain⟨u,h4,h5⟩:=h3 j cs[j] (by rw[gg])
    exact⟨u,h4,fun c hc=>by rw[gg (by omega)] at hc;cases hc;exact h5⟩)
   refine fin _ us b off h1 KP h4 (fun j u hu=>(h5 j u hu).1) ⟨by simp[h4];omega,fun j y u hy hu=> ?_⟩
   rw[lZ] at hy
   cases Nt:(cs.take n)[j]? with
   |none=>rw[Nt] at hy;cases hy
   |some c=>
    rw[Nt] at hy
    cases hy
    have ams:cs[j]? =some c:=by
     rw[nF] at Nt
     split at Nt
     ·exact Nt
     ·cases Nt
    have:=(h5 j u hu).2 c ams
    exact⟨this.fB,.inr this⟩
 ·rename_i k off
  split at hr
  ·rename_i cs he
   cases hb:Nat.ble (off+n) cs.length<;>simp only[hb,cond_false,cond_true] at hr
   ·cases hr
   ·cases hr
    refine⟨_,_,rfl,?_⟩
    have hb:=FH hb
    obtain⟨b,h1,h2⟩:=cn hx rfl
    obtain⟨b',cur,e,h3,h4,h5,h6⟩:=h.cV k _ (jx he)
    rw[h1] at h3
    cases h3
    refine fin _ ((cur.toList.drop off).take n) b off h2 KP (by have:=h6.1;simp at this⊢;omega) (fun j u hu=> ?_) ⟨by have:=h6.1;simp at this⊢;omega,fun j y u hy hu=> ?_⟩
    ·rw[nF] at hu
     split at hu
     ·rw[Dt] at hu
      rw[cell_of_row w b _ cur e (0,0) h4]
      simpa using hu
     ·cases hu
    ·rw[nF] at hy hu
     split at hy
     ·rename_i fX
      rw[if_pos fX] at hu
      rw[Dt] at hy hu
      exact h6.2 _ y u hy hu
     ·cases hy
  ·cases hr
 ·rename_i k p i wd off
  split at hr
  ·rename_i z d he
   cases gU:fg (restrict σ.bH ks) σ.aC k p<;>simp only[gU,cond_false,cond_true] at hr
   ·cases hr
   ·split at hr
    ·rename_i ps b hw
     cases hb:(Nat.ble (off+n) (U.wd b.τ)&&Nat.beq wd (U.wd b.τ))<;>simp only[hb,cond_false,cond_true] at hr
     ·cases hr
     ·simp only[eE] at hb
      have sK:=lN hb.2
      have hle:=FH hb.1
      subst sK
      cases hr
      refine⟨_,_,rfl,?_⟩
      obtain⟨bb,oo,nn,cc,h1,h2⟩:=cn hx (DF gU he)
      have Ig:∀q∈ps,q:=fun q hq=>hp q (by simp[ch.cE,hq])
      have hi:i<b.xs.length:=hp _ (by simp[ch.cE])
      obtain⟨v',h3,h4⟩:=(Ka h (jx he)).Y_ hw Ig
      have M2:=h1.unique h3
      rw[<-M2] at h4 h3
      rcases h4.inv with⟨h0,_⟩|⟨b2,o2,c2,vs,h5,hF,hc,hv,W9⟩
      ·rw[h0] at hi;simp at hi
      ·simp only[Value.slice.injEq,fJ,Addr.mk.injEq,and_true] at h5
       obtain⟨⟨rfl,rfl⟩,rfl,rfl⟩:=h5
       have tE:=eH (d:=U.eP b.τ) hi
       have nj:∀j,j<U.wd b.τ->w.cell? ⟨bb,oo+(i*U.wd b.τ+j),none⟩=some (vs (i*U.wd b.τ+j)):=fun j hj=>by
        refine hv _ (fe tE (c:=(U.enc b.τ (b.xs.getD i (U.eP b.τ)))[j]'(by rw[U.cZ];exact hj)) ?_)
        rw[gg]
       refine fin _ ((List.range n).map fun j=>vs (i*U.wd b.τ+(off+j))) bb (oo+(i*U.wd b.τ+off)) h2 KP (by simp) (fun j u hu=> ?_) ⟨?_,fun j y u hy hu=> ?_⟩
       ·rw[lZ] at hu
        by_cases hj:j<n
        ·rw[IX hj] at hu
         simp only[B5,fJ] at hu
         rw[<-hu,<-nj (off+j) (by omega)]
         congr 2;omega
        ·rw[mi (by simp;omega)] at hu;cases hu
       ·rw[PH];simp[U.cZ];omega
       ·obtain⟨c,B0,Jt⟩:=PI hy
        have hj:j<n:=by
         rw[nF] at B0
         split at B0
         ·assumption
         ·cases B0
        have amt:(U.enc b.τ (b.xs.getD i (U.eP b.τ)))[off+j]? =some c:=by
         rw[nF,if_pos hj,Dt] at B0;exact B0
        have qg:u=vs (i*U.wd b.τ+(off+j)):=by
         rw[lZ,IX hj] at hu
         simpa using hu.symm
        have jy:=W9 i _ (off+j) c tE amt
        rw[<-qg] at jy
        rcases Jt with⟨v,rfl,rfl⟩|⟨τ,xs,rfl,rfl⟩
        ·refine⟨jy.fB,.inr ?_⟩
         generalize hm:false=m at jy
         generalize hcc:(Cell.lit v:U.C)=c at jy
         cases jy with
         |lit m v' M2=>cases hcc;exact .lit _ _ M2
         |nil=>cases hcc
         |shr=>cases hcc
        ·refine⟨jy.fB,.inr ?_⟩
         simp only[RA]
         refine h1.append ⟨bb,oo,_,_,u,rfl,hF,?_,rfl⟩
         rw[qg,<-nj (off+j) (by omega)]
    ·cases hr
  ·cases hr
 ·cases hr
end AM
