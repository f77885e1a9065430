/- THE ABSTRACT MACHINE: reading memory. -/
import Derived.Test.YtlachfpabecaeaaQAmOps2
namespace AM
set_option linter.unusedVariables false
open Go
variable{U:dh}{E:Env U}{pm:Pm}
variable{F:Nat->Prop}{kv:Key->Value}{fp:Key->List Nat}{σ:aa U}{a:Act}{w:World}
def FA(σ:aa U)(F:Nat->Prop)(fp:Key->List Nat)(b:Nat):Prop:=F b\/∃k e,σ.aq k=some e/\b∈fp k
theorem Rp.bG{w:World}{F F':Nat->Prop}{c:U.C}{v:Value}(h:Rp E w F false c v [])(hF:∀b,F b->F' b):Rp E w F' false c v []:=
 h.di hF (by simp)
theorem sf(h:aC E pm F kv fp σ a w){k:Key}{x:eT U}{d:Bool}(he:σ.aq k=some (.arr x d)):
  Rp E w (fun b=>F b\/b∈fp k) false (.sl x.τ x.xs) (kv k) []:=
 ba.di (h.aJ k _ he) (fun b hb=> .inl hb) (fun b hb=> .inr hb)
theorem aW.tt{dead:Nat->Bool}{x:eT U}{v:Value}{l:List Nat}(h:aW E w F dead x v l):∃ad c,v=.slice ad x.xs.length c/\x.xs.length<=c:=by
 rcases h with⟨h0,⟨ad,rfl⟩,_⟩|⟨b,cap,cur,vs,bT,rfl,_,hc,hm,_⟩
 ·exact⟨ad,0,by simp[h0],by simp[h0]⟩
 ·exact⟨_,_,rfl,hc⟩
theorem aW.BL{dead:Nat->Bool}{x b:eT U}{v:Value}{l:List Nat}{i wd j:Nat}{p:Path}{ps:List Prop}(h:aW E w F dead x v l)(hw:walk ((i,wd,j)::p) x=some (ps,b))(hp:∀q∈ps,q)(vC:dead i=false):
  ∃v',eR w (fun c=>F c\/c∈l) v ((i,wd,j)::p) v'/\Rp E w (fun c=>F c\/c∈l) false (.sl b.τ b.xs) v' []:=by
 obtain⟨τ,xs⟩:=x
 simp only[walk] at hw
 cases iF:Nat.beq wd (U.wd τ)<;>simp only[iF,cond_false,cond_true] at hw
 ·cases hw
 have uh:wd=U.wd τ:=en iF
 subst uh
 split at hw
 rotate_left
 ·cases hw
 rename_i GR ys hx
 split at hw
 rotate_left
 ·cases hw
 rename_i pP b' Em
 simp only[bM,eX] at hw
 obtain⟨rfl,rfl⟩:=hw
 have hi:i<xs.length:=hp _ (by simp)
 have iS:=bg (d:=U.bn τ) hi
 rcases h with⟨h0,_⟩|⟨g,cap,cur,vs,bT,rfl,hb,hc,hm,hs,hv,hr,dq,rfl⟩
 ·simp only at h0;subst h0;simp at hi
 ·have cK:=hr i _ j _ vC iS hx
  have bZ:=bw iS hx
  have J7:=cK.di (F':=fun c=>F c\/c∈g::(List.range (xs.length*U.wd τ)).flatMap bT) (fun b hb=> .inl hb) (fun b hb=> .inr (c9 _ (eY.2 ⟨_,hU.2 bZ,hb⟩)))
  obtain⟨v',h1,h2⟩:=Rp.BL (a:=⟨GR,ys⟩) J7 Em (fun q hq=>hp q (by simp[hq]))
  refine⟨v',⟨g,0,_,cap,_,rfl,.inr (by simp),?_,h1⟩,h2⟩
  simp only[World.cell?,hb,ke]
  simpa using(hv _ bZ).1
theorem Dx{k:Key}{e:b9 U}(he:σ.aq k=some e):∀b,(F b\/b∈fp k)->FA σ F fp b:=
 fun b hb=>hb.elim .inl (fun hb=> .inr ⟨k,e,he,hb⟩)
theorem nV{ks:List Key}{k:Key}{p:Path}{e:b9 U}(hc:bE (restrict σ.aq ks) σ.ag k p=true)(he:restrict σ.aq ks k=some e):
  (!p.isEmpty&&av σ k)=false:=by
 unfold bE at hc
 simp only[qo,dR,k_] at hc
 rcases hc with hc|⟨_,hc⟩
 ·simp[hc]
 ·simp[av,hc,cJ he]
theorem Rp.sub{w:World}{F:Nat->Prop}{τ:U.Ty}{xs:List (U.T τ)}{v:Value}(h:Rp E w F false (.sl τ xs) v []){lo hi:Nat}(h1:lo<=hi)(h2:hi<=xs.length):
  Rp E w F false (.sl τ ((xs.take hi).drop lo)) (fM (U.wd τ) lo hi v) []:=by
 have hlen:((xs.take hi).drop lo).length=hi-lo:=by simp;omega
 rcases h.inv with⟨h0,ad,c,rfl⟩|⟨b,off,cap,vs,rfl,hF,hc,hv,hr⟩
 ·subst h0
  simp only[vu] at h2
  have:lo=0:=by omega
  have:hi=0:=by omega
  subst_vars
  simp only[List.take_nil,List.drop_nil,fM,Nat.sub_zero]
  exact .nil _ _ _ _ (by simp)
 ·by_cases h3:hi=lo
  ·subst h3
   have:(xs.take hi).drop hi=[]:=pB (by rw[hlen];omega)
   rw[this]
   simp only[fM,Cf]
   exact .nil _ _ _ _ (by simp)
  ·have a_:¬cap=lo:=by omega
   have sW:(⟨b,off,none⟩:Addr).add (lo*U.wd τ)=⟨b,off+lo*U.wd τ,none⟩:=Addr.add_mid _ _ _
   have:=Rp.shr (E:=E) (w:=w) (F:=F) τ ((xs.take hi).drop lo) b (off+lo*U.wd τ) (cap-lo) (fun i=>vs (lo*U.wd τ+i)) hF (by rw[hlen];omega) (by rw[hlen];have:=h.len;omega)
    (fun i fP=>by
     rw[tf]
     refine hv _ ?_
     rw[hlen] at fP
     have:lo*U.wd τ+(hi-lo)*U.wd τ=hi*U.wd τ:=by rw[<-kc];congr 1;omega
     have:hi*U.wd τ<=xs.length*U.wd τ:=kf _ h2
     omega)
    (fun i x j c hx hj=>by
     have fP:i<hi-lo:=by
      rcases eW i (hi-lo) with h|h
      ·exact h
      ·rw[eD (by rw[hlen];exact h)] at hx;cases hx
     have sF:xs[lo+i]? =some x:=by
      rw[mQ,eP] at hx
      rw[if_pos (by omega)] at hx
      exact hx
     have:=hr (lo+i) x j c sF hj
     rw[kc,tf] at this
     exact this)
   simp only[fM,a_,if_false,mP,sW]
   rw[hlen] at this
   exact this
theorem y9(h:aC E pm F kv fp σ a w){ks:List Key}{x:AC U}{v:Value}{ps:List Prop}{b:eT U}
  (ha:eN (restrict σ.aq ks) σ.ag x=some (ps,b)) (hp:∀p∈ps,p) (hx:RD E w F kv fp (av σ) x v):Rp E w (FA σ F fp) false (.sl b.τ b.xs) v []:=by
 unfold eN at ha
 split at ha
 ·cases ha
  exact Rp.bG (ax hx rfl) (fun b hb=> .inl hb)
 ·cases ha
  exact Rp.bG (ax hx rfl).1 (fun b hb=> .inl hb)
 ·rename_i k p
  split at ha
  ·rename_i y d he
   cases hc:bE (restrict σ.aq ks) σ.ag k p<;>simp only[hc,cond_false,cond_true] at ha
   ·cases ha
   ·have hn:=ax hx (nV hc he)
    obtain⟨v',h1,h2⟩:=(sf h (cJ he)).BL ha hp
    have:v=v':=hn.unique h1
    subst this
    exact h2.bG (Dx (cJ he))
  ·cases ha
 ·rename_i k wd lo hi
  split at ha
  ·rename_i y d he
   cases hw:Nat.beq wd (U.wd y.τ)<;>simp only[hw,cond_false,cond_true] at ha
   ·cases ha
   ·cases ha
    have iF:=en hw
    subst iF
    obtain⟨h1,h2⟩:=ax hx rfl
    subst h1
    exact((sf h (cJ he)).sub h2 (hp _ (by simp))).bG (Dx (cJ he))
  ·cases ha
 ·cases ha
theorem I2{n:Nat}{P:Nat->Value->Prop}(h:∀j,j<n->∃u,P j u):∃us:List Value,us.length=n/\∀(j:Nat)(u:Value),us[j]? =some u->P j u:=by
 induction n with
 |zero=>exact⟨[],rfl,fun j u hu=>by simp at hu⟩
 |succ n ih=>
  obtain⟨us,h1,h2⟩:=ih (fun j hj=>h j (by omega))
  obtain⟨u,hu⟩:=h n (by omega)
  refine⟨us++[u],by simp[h1],fun j v hv=> ?_⟩
  by_cases hj:j<n
  ·rw[jA (by omega)] at hv;exact h2 j v hv
  ·rw[kj (by omega)] at hv
   have:j-us.length=0:=by
    rcases Nat.eq_zero_or_pos (j-us.length) with h|h
    ·exact h
    ·rw[eD (by simp;omega)] at hv;cases hv
   rw[this] at hv
   simp only[iB,bM] at hv
   have Ab:j=n:=by omega
   rw[Ab,<-hv];exact hu
theorem ww{t:TypeId}{g:Bool}(h:E.isAgg t=some g):∃d,E.P.underlying t=some d/\d.isRow=g:=by
 unfold Env.isAgg at h
 split at h
 ·rename_i hu;cases h;exact⟨_,hu,rfl⟩
 ·rename_i hu;cases h;exact⟨_,hu,rfl⟩
 ·rename_i d h1 h2 hu
  cases h
  refine⟨d,hu,?_⟩
  cases d<;>first|rfl|exact(h1 _ rfl).elim|exact(h2 _ _ rfl).elim
 ·cases h
theorem v9{t:TypeId}{g:Bool}{n b off:Nat}{us:List Value}(hs:E.size t=some n)(hg:E.isAgg t=some g)(qV:(g||Nat.beq n 1)=true)(hl:us.length=n)
  (hr:w.rangeAt b off us):∃v,(Instr.loadAt t (.pointer (some ⟨b,off,none⟩))).run E.P w=.ok v w/\(if g then v=.agg us.toArray else us=[v]):=by
 obtain⟨d,hu,hd⟩:=ww hg
 cases g with
 |true=>exact⟨_,run_loadAt_mid w b off t us d hr hu hd (by simpa[hl,Env.size] using hs),by simp⟩
 |false=>
  simp only[rh] at qV
  have hn:=en qV
  subst hn
  obtain⟨u,rfl⟩:∃u,us=[u]:=by
   match us,hl with
   |[u],_=>exact⟨u,rfl⟩
  have hc:=hr 0 u rfl
  simp only[pn] at hc
  refine⟨u,?_,by simp⟩
  have uS:(Go.isAgg t).run E.P w=.ok false w:=by
   unfold Go.isAgg
   rw[Sem.run_bind,run_underlying hu w]
   cases d<;>simp_all
  simp[Instr.loadAt,Instr.sureAddr,loadVar,uS,hc]
theorem vh{bad:Key->Bool}{xs:List (AC U)}{vs:List Value}(hl:xs.length=vs.length)(h:∀(i:Nat)(x:AC U)(v:Value),xs[i]? =some x->vs[i]? =some v->RD E w F kv fp bad x v):dC E w F kv fp bad xs vs:=⟨hl,h⟩
theorem wk{k:Key}{p:Path}{i wd:Nat}:∀{cs:List U.C}{j:Nat},(bU k p i wd cs j).length=cs.length
 |[],j=>rfl
 | .lit v::r,j=>by simp[bU,wk]
 | .sl _ _::r,j=>by simp[bU,wk]
theorem wl{k:Key}{p:Path}{i wd:Nat}:∀{cs:List U.C}{j n:Nat}{x:AC U},(bU k p i wd cs j)[n]? =some x->
  ∃c,cs[n]? =some c/\((∃v,c=.lit v/\x=.c (.lit v))\/(∃τ xs,c=.sl τ xs/\x=.ref k (p++[(i,wd,j+n)])))
 |[],j,n,x,h=>by simp[bU] at h
 | .lit v::r,j,n,x,h=>by
  cases n with
  |zero=>simp only[bU,iB,bM] at h;exact⟨.lit v,rfl,.inl ⟨v,rfl,h.symm⟩⟩
  |succ n=>
   obtain⟨c,h1,h2⟩:=wl (by simpa[bU] using h)
   exact⟨c,by simpa using h1,by rwa[show j+(n+1)=j+1+n by omega]⟩
 | .sl τ xs::r,j,n,x,h=>by
  cases n with
  |zero=>simp only[bU,iB,bM] at h;exact⟨.sl τ xs,rfl,.inr ⟨τ,xs,rfl,h.symm⟩⟩
  |succ n=>
   obtain⟨c,h1,h2⟩:=wl (by simpa[bU] using h)
   exact⟨c,by simpa using h1,by rwa[show j+(n+1)=j+1+n by omega]⟩
theorem Ij(h:aC E pm F kv fp σ a w){o:Oper}{t:TypeId}{x:Operand}{sx:SV U}{y:AC U}{n:Nat}{g:Bool}{ks:List Key}{r:aw U}(ho:o.op=.load t x)
  (hx:RS E w F kv fp (av σ) sx (a.eval x)) (hc:iA sx=some y) (hs:E.size t=some n) (hg:E.isAgg t=some g)
  (hr:loadAt (restrict σ.aq ks) σ.ag g n y=some r) (hp:∀p∈r.pre,p):∃sv ps,r=⟨some sv,[],[],[],ps⟩/\aB E F kv fp (av σ) a w o sv:=by
 have hx:=de hx hc
 have fin:∀(cs:List (AC U))(us:List Value)(b off:Nat),a.eval x=.pointer (some ⟨b,off,none⟩)->(g||Nat.beq n 1)=true->us.length=n->w.rangeAt b off us->dC E w F kv fp (av σ) cs us->
   aB E F kv fp (av σ) a w o (.v ⟨g,cs⟩):=by
  intro cs us b off hv qV hl eh lz
  obtain⟨v,h1,h2⟩:=v9 hs hg qV hl eh
  refine⟨v,?_,us,lz,h2⟩
  unfold execOp;simp only[ho,hv];exact cd h1
 unfold loadAt at hr
 cases qV:(g||Nat.beq n 1)<;>simp only[qV,cond_false,cond_true] at hr
 ·cases hr
 split at hr
 ·rename_i cs
  cases hb:Nat.ble n cs.length<;>simp only[hb,cond_false,cond_true] at hr
  ·cases hr
  ·cases hr
   refine⟨_,_,rfl,?_⟩
   have hb:=pz hb
   obtain⟨b,off,h1,h2,h3⟩:=ax hx rfl
   obtain⟨us,h4,h5⟩:=I2 (n:=n) (P:=fun j u=>w.cell? ⟨b,off+j,none⟩=some u/\∀c,cs[j]? =some c->Rp E w F false c u []) (fun j hj=>by
    obtain⟨u,h4,h5⟩:=h3 j cs[j] (by rw[cE])
    exact⟨u,h4,fun c hc=>by rw[cE (by omega)] at hc;cases hc;exact h5⟩)
   refine fin _ us b off h1 qV h4 (fun j u hu=>(h5 j u hu).1) ⟨by simp[h4];omega,fun j y u hy hu=> ?_⟩
   rw[eC] at hy
   cases uN:(cs.take n)[j]? with
   |none=>rw[uN] at hy;cases hy
   |some c=>
    rw[uN] at hy
    cases hy
    have KP:cs[j]? =some c:=by
     rw[eP] at uN
     split at uN
     ·exact uN
     ·cases uN
    have:=(h5 j u hu).2 c KP
    exact⟨this.bx,.inr this⟩
 ·rename_i k off
  split at hr
  ·rename_i cs he
   cases hb:Nat.ble (off+n) cs.length<;>simp only[hb,cond_false,cond_true] at hr
   ·cases hr
   ·cases hr
    refine⟨_,_,rfl,?_⟩
    have hb:=pz hb
    obtain⟨b,h1,h2⟩:=ax hx rfl
    obtain⟨b',cur,e,h3,h4,h5,h6⟩:=h.aJ k _ (cJ he)
    rw[h1] at h3
    cases h3
    refine fin _ ((cur.toList.drop off).take n) b off h2 qV (by have:=h6.1;simp at this⊢;omega) (fun j u hu=> ?_) ⟨by have:=h6.1;simp at this⊢;omega,fun j y u hy hu=> ?_⟩
    ·rw[eP] at hu
     split at hu
     ·rw[mQ] at hu
      rw[cell_of_row w b _ cur e (0,0) h4]
      simpa using hu
     ·cases hu
    ·rw[eP] at hy hu
     split at hy
     ·rename_i bZ
      rw[if_pos bZ] at hu
      rw[mQ] at hy hu
      exact h6.2 _ y u hy hu
     ·cases hy
  ·cases hr
 ·rename_i k p i wd off
  split at hr
  ·rename_i z d he
   cases cp:bE (restrict σ.aq ks) σ.ag k p<;>simp only[cp,cond_false,cond_true] at hr
   ·cases hr
   ·split at hr
    ·rename_i ps b hw
     cases hb:(Nat.ble (off+n) (U.wd b.τ)&&Nat.beq wd (U.wd b.τ))<;>simp only[hb,cond_false,cond_true] at hr
     ·cases hr
     ·simp only[dR] at hb
      have iF:=en hb.2
      have hle:=pz hb.1
      subst iF
      cases hr
      refine⟨_,_,rfl,?_⟩
      obtain⟨bb,oo,nn,cc,h1,h2⟩:=ax hx (nV cp he)
      have qO:∀q∈ps,q:=fun q hq=>hp q (by simp[aw.aD,hq])
      have hi:i<b.xs.length:=hp _ (by simp[aw.aD])
      obtain⟨v',h3,h4⟩:=(sf h (cJ he)).BL hw qO
      have uj:=h1.unique h3
      rw[<-uj] at h4 h3
      rcases h4.inv with⟨h0,_⟩|⟨b2,o2,c2,vs,h5,hF,hc,hv,zF⟩
      ·rw[h0] at hi;simp at hi
      ·simp only[Value.slice.injEq,bM,Addr.mk.injEq,and_true] at h5
       obtain⟨⟨rfl,rfl⟩,rfl,rfl⟩:=h5
       have iS:=bg (d:=U.bn b.τ) hi
       have fD:∀j,j<U.wd b.τ->w.cell? ⟨bb,oo+(i*U.wd b.τ+j),none⟩=some (vs (i*U.wd b.τ+j)):=fun j hj=>by
        refine hv _ (bw iS (c:=(U.enc b.τ (b.xs.getD i (U.bn b.τ)))[j]'(by rw[U.aM];exact hj)) ?_)
        rw[cE]
       refine fin _ ((List.range n).map fun j=>vs (i*U.wd b.τ+(off+j))) bb (oo+(i*U.wd b.τ+off)) h2 qV (by simp) (fun j u hu=> ?_) ⟨?_,fun j y u hy hu=> ?_⟩
       ·rw[eC] at hu
        by_cases hj:j<n
        ·rw[ri hj] at hu
         simp only[mP,bM] at hu
         rw[<-hu,<-fD (off+j) (by omega)]
         congr 2;omega
        ·rw[eD (by simp;omega)] at hu;cases hu
       ·rw[wk];simp[U.aM];omega
       ·obtain⟨c,mO,rK⟩:=wl hy
        have hj:j<n:=by
         rw[eP] at mO
         split at mO
         ·assumption
         ·cases mO
        have KR:(U.enc b.τ (b.xs.getD i (U.bn b.τ)))[off+j]? =some c:=by
         rw[eP,if_pos hj,mQ] at mO;exact mO
        have ga:u=vs (i*U.wd b.τ+(off+j)):=by
         rw[eC,ri hj] at hu
         simpa using hu.symm
        have cK:=zF i _ (off+j) c iS KR
        rw[<-ga] at cK
        rcases rK with⟨v,rfl,rfl⟩|⟨τ,xs,rfl,rfl⟩
        ·refine⟨cK.bx,.inr ?_⟩
         generalize hm:false=m at cK
         generalize KQ:(Cell.lit v:U.C)=c at cK
         cases cK with
         |lit m v' uj=>cases KQ;exact .lit _ _ uj
         |nil=>cases KQ
         |shr=>cases KQ
        ·refine⟨cK.bx,.inr ?_⟩
         simp only[RA]
         refine h1.append ⟨bb,oo,_,_,u,rfl,hF,?_,rfl⟩
         rw[ga,<-fD (off+j) (by omega)]
    ·cases hr
  ·cases hr
 ·cases hr
end AM
