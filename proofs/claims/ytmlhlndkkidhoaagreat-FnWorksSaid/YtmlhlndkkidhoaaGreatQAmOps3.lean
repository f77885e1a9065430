/- THE ABSTRACT MACHINE: reading memory. -/
import Derived.Test.YtmlhlndkkidhoaaGreatQAmOps2
namespace AM
set_option linter.unusedVariables false
open Go
variable{U:kZ}{E:Env U}{pm:Pm}
variable{F:Nat->Prop}{kv:Key->Value}{fp:Key->List Nat}{σ:ah U}{a:Act}{w:World}
def FA(σ:ah U)(F:Nat->Prop)(fp:Key->List Nat)(b:Nat):Prop:=F b\/∃k e,σ.bJ k=some e/\b∈fp k
theorem Rp.fQ{w:World}{F F':Nat->Prop}{c:U.C}{v:Value}(h:Rp E w F false c v [])(hF:∀b,F b->F' b):Rp E w F' false c v []:=
 h.k8 hF (by simp)
theorem MW(h:cE E pm F kv fp σ a w){k:Key}{x:iX U}{d:Bool}(he:σ.bJ k=some (.arr x d)):
  Rp E w (fun b=>F b\/b∈fp k) false (.sl x.τ x.xs) (kv k) []:=
 eW.k8 (h.di k _ he) (fun b hb=> .inl hb) (fun b hb=> .inr hb)
theorem eo.OC{dead:Nat->Bool}{x:iX U}{v:Value}{l:List Nat}(h:eo E w F dead x v l):∃ad c,v=.slice ad x.xs.length c/\x.xs.length<=c:=by
 rcases h with⟨h0,⟨ad,rfl⟩,_⟩|⟨b,cap,cur,vs,gV,rfl,_,hc,hm,_⟩
 ·exact⟨ad,0,by simp[h0],by simp[h0]⟩
 ·exact⟨_,_,rfl,hc⟩
theorem eo.nav{dead:Nat->Bool}{x b:iX U}{v:Value}{l:List Nat}{i wd j:Nat}{p:Path}{ps:List Prop}(h:eo E w F dead x v l)(hw:walk ((i,wd,j)::p) x=some (ps,b))(hp:∀q∈ps,q)(Te:dead i=false):
  ∃v',oE w (fun c=>F c\/c∈l) v ((i,wd,j)::p) v'/\Rp E w (fun c=>F c\/c∈l) false (.sl b.τ b.xs) v' []:=by
 obtain⟨τ,xs⟩:=x
 simp only[walk] at hw
 cases ui:Nat.beq wd (U.wd τ)<;>simp only[ui,cond_false,cond_true] at hw
 ·cases hw
 have PG:wd=U.wd τ:=mM ui
 subst PG
 split at hw
 rotate_left
 ·cases hw
 rename_i τ1 ys hx
 split at hw
 rotate_left
 ·cases hw
 rename_i IF b' hw'
 simp only[gx,ox] at hw
 obtain⟨rfl,rfl⟩:=hw
 have hi:i<xs.length:=hp _ (by simp)
 have u6:=e9 (d:=U.e_ τ) hi
 rcases h with⟨h0,_⟩|⟨g,cap,cur,vs,gV,rfl,hb,hc,hm,hs,hv,hr,kG,rfl⟩
 ·simp only at h0;subst h0;simp at hi
 ·have jT:=hr i _ j _ Te u6 hx
  have gF:=fJ u6 hx
  have hsh:=jT.k8 (F':=fun c=>F c\/c∈g::(List.range (xs.length*U.wd τ)).flatMap gV) (fun b hb=> .inl hb) (fun b hb=> .inr (cA _ (nT.2 ⟨_,oN.2 gF,hb⟩)))
  obtain⟨v',h1,h2⟩:=Rp.nav (a:=⟨τ1,ys⟩) hsh hw' (fun q hq=>hp q (by simp[hq]))
  refine⟨v',⟨g,0,_,cap,_,rfl,.inr (by simp),?_,h1⟩,h2⟩
  simp only[World.cell?,hb,tY]
  simpa using(hv _ gF).1
theorem acw{k:Key}{e:iv U}(he:σ.bJ k=some e):∀b,(F b\/b∈fp k)->FA σ F fp b:=
 fun b hb=>hb.elim .inl (fun hb=> .inr ⟨k,e,he,hb⟩)
theorem Gd{ks:List Key}{k:Key}{p:Path}{e:iv U}(hc:fL (restrict σ.bJ ks) σ.aK k p=true)(he:restrict σ.bJ ks k=some e):
  (!p.isEmpty&&bW σ k)=false:=by
 unfold fL at hc
 simp only[Ee,cK,ql] at hc
 rcases hc with hc|⟨_,hc⟩
 ·simp[hc]
 ·simp[bW,hc,jS he]
theorem Rp.sub{w:World}{F:Nat->Prop}{τ:U.Ty}{xs:List (U.T τ)}{v:Value}(h:Rp E w F false (.sl τ xs) v []){lo hi:Nat}(h1:lo<=hi)(h2:hi<=xs.length):
  Rp E w F false (.sl τ ((xs.take hi).drop lo)) (qo (U.wd τ) lo hi v) []:=by
 have hlen:((xs.take hi).drop lo).length=hi-lo:=by simp;omega
 rcases h.inv with⟨h0,ad,c,rfl⟩|⟨b,off,cap,vs,rfl,hF,hc,hv,hr⟩
 ·subst h0
  simp only[fO] at h2
  have:lo=0:=by omega
  have:hi=0:=by omega
  subst_vars
  simp only[List.take_nil,List.drop_nil,qo,Nat.sub_zero]
  exact .nil _ _ _ _ (by simp)
 ·by_cases h3:hi=lo
  ·subst h3
   have:(xs.take hi).drop hi=[]:=Em (by rw[hlen];omega)
   rw[this]
   simp only[qo,W0]
   exact .nil _ _ _ _ (by simp)
  ·have eO:¬cap=lo:=by omega
   have NI:(⟨b,off,none⟩:Addr).add (lo*U.wd τ)=⟨b,off+lo*U.wd τ,none⟩:=Addr.add_mid _ _ _
   have:=Rp.shr (E:=E) (w:=w) (F:=F) τ ((xs.take hi).drop lo) b (off+lo*U.wd τ) (cap-lo) (fun i=>vs (lo*U.wd τ+i)) hF (by rw[hlen];omega) (by rw[hlen];have:=h.len;omega)
    (fun i pN=>by
     rw[Oo]
     refine hv _ ?_
     rw[hlen] at pN
     have:lo*U.wd τ+(hi-lo)*U.wd τ=hi*U.wd τ:=by rw[<-wz];congr 1;omega
     have:hi*U.wd τ<=xs.length*U.wd τ:=zy _ h2
     omega)
    (fun i x j c hx hj=>by
     have pN:i<hi-lo:=by
      rcases nV i (hi-lo) with h|h
      ·exact h
      ·rw[nz (by rw[hlen];exact h)] at hx;cases hx
     have Ta:xs[lo+i]? =some x:=by
      rw[FV,oJ] at hx
      rw[if_pos (by omega)] at hx
      exact hx
     have:=hr (lo+i) x j c Ta hj
     rw[wz,Oo] at this
     exact this)
   simp only[qo,eO,if_false,Ek,NI]
   rw[hlen] at this
   exact this
theorem X4(h:cE E pm F kv fp σ a w){ks:List Key}{x:AC U}{v:Value}{ps:List Prop}{b:iX U}
  (ha:ou (restrict σ.bJ ks) σ.aK x=some (ps,b)) (hp:∀p∈ps,p) (hx:RD E w F kv fp (bW σ) x v):Rp E w (FA σ F fp) false (.sl b.τ b.xs) v []:=by
 unfold ou at ha
 split at ha
 ·cases ha
  exact Rp.fQ (cf hx rfl) (fun b hb=> .inl hb)
 ·cases ha
  exact Rp.fQ (cf hx rfl).1 (fun b hb=> .inl hb)
 ·rename_i k p
  split at ha
  ·rename_i y d he
   cases hc:fL (restrict σ.bJ ks) σ.aK k p<;>simp only[hc,cond_false,cond_true] at ha
   ·cases ha
   ·have hn:=cf hx (Gd hc he)
    obtain⟨v',h1,h2⟩:=(MW h (jS he)).nav ha hp
    have:v=v':=hn.unique h1
    subst this
    exact h2.fQ (acw (jS he))
  ·cases ha
 ·rename_i k wd lo hi
  split at ha
  ·rename_i y d he
   cases hw:Nat.beq wd (U.wd y.τ)<;>simp only[hw,cond_false,cond_true] at ha
   ·cases ha
   ·cases ha
    have ui:=mM hw
    subst ui
    obtain⟨h1,h2⟩:=cf hx rfl
    subst h1
    exact((MW h (jS he)).sub h2 (hp _ (by simp))).fQ (acw (jS he))
  ·cases ha
 ·cases ha
theorem am6{n:Nat}{P:Nat->Value->Prop}(h:∀j,j<n->∃u,P j u):∃us:List Value,us.length=n/\∀(j:Nat)(u:Value),us[j]? =some u->P j u:=by
 induction n with
 |zero=>exact⟨[],rfl,fun j u hu=>by simp at hu⟩
 |succ n ih=>
  obtain⟨us,h1,h2⟩:=ih (fun j hj=>h j (by omega))
  obtain⟨u,hu⟩:=h n (by omega)
  refine⟨us++[u],by simp[h1],fun j v hv=> ?_⟩
  by_cases hj:j<n
  ·rw[vC (by omega)] at hv;exact h2 j v hv
  ·rw[wC (by omega)] at hv
   have:j-us.length=0:=by
    rcases Nat.eq_zero_or_pos (j-us.length) with h|h
    ·exact h
    ·rw[nz (by simp;omega)] at hv;cases hv
   rw[this] at hv
   simp only[t_,gx] at hv
   have Y0:j=n:=by omega
   rw[Y0,<-hv];exact hu
theorem Ul{t:TypeId}{g:Bool}(h:E.isAgg t=some g):∃d,E.P.underlying t=some d/\d.isRow=g:=by
 unfold Env.isAgg at h
 split at h
 ·rename_i hu;cases h;exact⟨_,hu,rfl⟩
 ·rename_i hu;cases h;exact⟨_,hu,rfl⟩
 ·rename_i d h1 h2 hu
  cases h
  refine⟨d,hu,?_⟩
  cases d<;>first|rfl|exact(h1 _ rfl).elim|exact(h2 _ _ rfl).elim
 ·cases h
theorem TW{t:TypeId}{g:Bool}{n b off:Nat}{us:List Value}(hs:E.size t=some n)(hg:E.isAgg t=some g)(NC:(g||Nat.beq n 1)=true)(hl:us.length=n)
  (hr:w.rangeAt b off us):∃v,(Instr.loadAt t (.pointer (some ⟨b,off,none⟩))).run E.P w=.ok v w/\(if g then v=.agg us.toArray else us=[v]):=by
 obtain⟨d,hu,hd⟩:=Ul hg
 cases g with
 |true=>exact⟨_,run_loadAt_mid w b off t us d hr hu hd (by simpa[hl,Env.size] using hs),by simp⟩
 |false=>
  simp only[FT] at NC
  have hn:=mM NC
  subst hn
  obtain⟨u,rfl⟩:∃u,us=[u]:=by
   match us,hl with
   |[u],_=>exact⟨u,rfl⟩
  have hc:=hr 0 u rfl
  simp only[H0] at hc
  refine⟨u,?_,by simp⟩
  have Qf:(Go.isAgg t).run E.P w=.ok false w:=by
   unfold Go.isAgg
   rw[Sem.run_bind,run_underlying hu w]
   cases d<;>simp_all
  simp[Instr.loadAt,Instr.sureAddr,loadVar,Qf,hc]
theorem S0{bad:Key->Bool}{xs:List (AC U)}{vs:List Value}(hl:xs.length=vs.length)(h:∀(i:Nat)(x:AC U)(v:Value),xs[i]? =some x->vs[i]? =some v->RD E w F kv fp bad x v):ly E w F kv fp bad xs vs:=⟨hl,h⟩
theorem Ue{k:Key}{p:Path}{i wd:Nat}:∀{cs:List U.C}{j:Nat},(gY k p i wd cs j).length=cs.length
 |[],j=>rfl
 | .lit v::r,j=>by simp[gY,Ue]
 | .sl _ _::r,j=>by simp[gY,Ue]
theorem Uf{k:Key}{p:Path}{i wd:Nat}:∀{cs:List U.C}{j n:Nat}{x:AC U},(gY k p i wd cs j)[n]? =some x->
  ∃c,cs[n]? =some c/\((∃v,c=.lit v/\x=.c (.lit v))\/(∃τ xs,c=.sl τ xs/\x=.ref k (p++[(i,wd,j+n)])))
 |[],j,n,x,h=>by simp[gY] at h
 | .lit v::r,j,n,x,h=>by
  cases n with
  |zero=>simp only[gY,t_,gx] at h;exact⟨.lit v,rfl,.inl ⟨v,rfl,h.symm⟩⟩
  |succ n=>
   obtain⟨c,h1,h2⟩:=Uf (by simpa[gY] using h)
   exact⟨c,by simpa using h1,by rwa[show j+(n+1)=j+1+n by omega]⟩
 | .sl τ xs::r,j,n,x,h=>by
  cases n with
  |zero=>simp only[gY,t_,gx] at h;exact⟨.sl τ xs,rfl,.inr ⟨τ,xs,rfl,h.symm⟩⟩
  |succ n=>
   obtain⟨c,h1,h2⟩:=Uf (by simpa[gY] using h)
   exact⟨c,by simpa using h1,by rwa[show j+(n+1)=j+1+n by omega]⟩
theorem amq(h:cE E pm F kv fp σ a w){o:Oper}{t:TypeId}{x:Operand}{sx:SV U}{y:AC U}{n:Nat}{g:Bool}{ks:List Key}{r:cd U}(ho:o.op=.load t x)
  (hx:RS E w F kv fp (bW σ) sx (a.eval x)) (hc:tT sx=some y) (hs:E.size t=some n) (hg:E.isAgg t=some g)
  (hr:loadAt (restrict σ.bJ ks) σ.aK g n y=some r) (hp:∀p∈r.pre,p):∃sv ps,r=⟨some sv,[],[],[],ps⟩/\cB E F kv fp (bW σ) a w o sv:=by
 have hx:=kP hx hc
 have fin:∀(cs:List (AC U))(us:List Value)(b off:Nat),a.eval x=.pointer (some ⟨b,off,none⟩)->(g||Nat.beq n 1)=true->us.length=n->w.rangeAt b off us->ly E w F kv fp (bW σ) cs us->
   cB E F kv fp (bW σ) a w o (.v ⟨g,cs⟩):=by
  intro cs us b off hv NC hl ol Az
  obtain⟨v,h1,h2⟩:=TW hs hg NC hl ol
  refine⟨v,?_,us,Az,h2⟩
  unfold execOp;simp only[ho,hv];exact iA h1
 unfold loadAt at hr
 cases NC:(g||Nat.beq n 1)<;>simp only[NC,cond_false,cond_true] at hr
 ·cases hr
 split at hr
 ·rename_i cs
  cases hb:Nat.ble n cs.length<;>simp only[hb,cond_false,cond_true] at hr
  ·cases hr
  ·cases hr
   refine⟨_,_,rfl,?_⟩
   have hb:=H5 hb
   obtain⟨b,off,h1,h2,h3⟩:=cf hx rfl
   obtain⟨us,h4,h5⟩:=am6 (n:=n) (P:=fun j u=>w.cell? ⟨b,off+j,none⟩=some u/\∀c,cs[j]? =some c->Rp E w F false c u []) (fun j hj=>by
    obtain⟨u,h4,h5⟩:=h3 j cs[j] (by rw[fo])
    exact⟨u,h4,fun c hc=>by rw[fo (by omega)] at hc;cases hc;exact h5⟩)
   refine fin _ us b off h1 NC h4 (fun j u hu=>(h5 j u hu).1) ⟨by simp[h4];omega,fun j y u hy hu=> ?_⟩
   rw[nk] at hy
   cases P_:(cs.take n)[j]? with
   |none=>rw[P_] at hy;cases hy
   |some c=>
    rw[P_] at hy
    cases hy
    have aor:cs[j]? =some c:=by
     rw[oJ] at P_
     split at P_
     ·exact P_
     ·cases P_
    have:=(h5 j u hu).2 c aor
    exact⟨this.gq,.inr this⟩
 ·rename_i k off
  split at hr
  ·rename_i cs he
   cases hb:Nat.ble (off+n) cs.length<;>simp only[hb,cond_false,cond_true] at hr
   ·cases hr
   ·cases hr
    refine⟨_,_,rfl,?_⟩
    have hb:=H5 hb
    obtain⟨b,h1,h2⟩:=cf hx rfl
    obtain⟨b',cur,e,h3,h4,h5,h6⟩:=h.di k _ (jS he)
    rw[h1] at h3
    cases h3
    refine fin _ ((cur.toList.drop off).take n) b off h2 NC (by have:=h6.1;simp at this⊢;omega) (fun j u hu=> ?_) ⟨by have:=h6.1;simp at this⊢;omega,fun j y u hy hu=> ?_⟩
    ·rw[oJ] at hu
     split at hu
     ·rw[FV] at hu
      rw[cell_of_row w b _ cur e (0,0) h4]
      simpa using hu
     ·cases hu
    ·rw[oJ] at hy hu
     split at hy
     ·rename_i gF
      rw[if_pos gF] at hu
      rw[FV] at hy hu
      exact h6.2 _ y u hy hu
     ·cases hy
  ·cases hr
 ·rename_i k p i wd off
  split at hr
  ·rename_i z d he
   cases iq:fL (restrict σ.bJ ks) σ.aK k p<;>simp only[iq,cond_false,cond_true] at hr
   ·cases hr
   ·split at hr
    ·rename_i ps b hw
     cases hb:(Nat.ble (off+n) (U.wd b.τ)&&Nat.beq wd (U.wd b.τ))<;>simp only[hb,cond_false,cond_true] at hr
     ·cases hr
     ·simp only[cK] at hb
      have ui:=mM hb.2
      have hle:=H5 hb.1
      subst ui
      cases hr
      refine⟨_,_,rfl,?_⟩
      obtain⟨bb,oo,nn,cc,h1,h2⟩:=cf hx (Gd iq he)
      have KY:∀q∈ps,q:=fun q hq=>hp q (by simp[cd.cG,hq])
      have hi:i<b.xs.length:=hp _ (by simp[cd.cG])
      obtain⟨v',h3,h4⟩:=(MW h (jS he)).nav hw KY
      have PI:=h1.unique h3
      rw[<-PI] at h4 h3
      rcases h4.inv with⟨h0,_⟩|⟨b2,o2,c2,vs,h5,hF,hc,hv,YB⟩
      ·rw[h0] at hi;simp at hi
      ·simp only[Value.slice.injEq,gx,Addr.mk.injEq,and_true] at h5
       obtain⟨⟨rfl,rfl⟩,rfl,rfl⟩:=h5
       have u6:=e9 (d:=U.e_ b.τ) hi
       have p_:∀j,j<U.wd b.τ->w.cell? ⟨bb,oo+(i*U.wd b.τ+j),none⟩=some (vs (i*U.wd b.τ+j)):=fun j hj=>by
        refine hv _ (fJ u6 (c:=(U.enc b.τ (b.xs.getD i (U.e_ b.τ)))[j]'(by rw[U.dj];exact hj)) ?_)
        rw[fo]
       refine fin _ ((List.range n).map fun j=>vs (i*U.wd b.τ+(off+j))) bb (oo+(i*U.wd b.τ+off)) h2 NC (by simp) (fun j u hu=> ?_) ⟨?_,fun j y u hy hu=> ?_⟩
       ·rw[nk] at hu
        by_cases hj:j<n
        ·rw[Lz hj] at hu
         simp only[Ek,gx] at hu
         rw[<-hu,<-p_ (off+j) (by omega)]
         congr 2;omega
        ·rw[nz (by simp;omega)] at hu;cases hu
       ·rw[Ue];simp[U.dj];omega
       ·obtain⟨c,EF,NG⟩:=Uf hy
        have hj:j<n:=by
         rw[oJ] at EF
         split at EF
         ·assumption
         ·cases EF
        have aos:(U.enc b.τ (b.xs.getD i (U.e_ b.τ)))[off+j]? =some c:=by
         rw[oJ,if_pos hj,FV] at EF;exact EF
        have rI:u=vs (i*U.wd b.τ+(off+j)):=by
         rw[nk,Lz hj] at hu
         simpa using hu.symm
        have jT:=YB i _ (off+j) c u6 aos
        rw[<-rI] at jT
        rcases NG with⟨v,rfl,rfl⟩|⟨τ,xs,rfl,rfl⟩
        ·refine⟨jT.gq,.inr ?_⟩
         generalize hm:false=m at jT
         generalize hcc:(Cell.lit v:U.C)=c at jT
         cases jT with
         |lit m v' PI=>cases hcc;exact .lit _ _ PI
         |nil=>cases hcc
         |shr=>cases hcc
        ·refine⟨jT.gq,.inr ?_⟩
         simp only[RA]
         refine h1.append ⟨bb,oo,_,_,u,rfl,hF,?_,rfl⟩
         rw[rI,<-p_ (off+j) (by omega)]
    ·cases hr
  ·cases hr
 ·cases hr
end AM
