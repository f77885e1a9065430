import Derived.Test.YtnndcpncmmcaaaaGreatQAmOps2
namespace AM
set_option linter.unusedVariables false
open Go
variable{U:jO}{E:Env U}{pm:Pm}
variable{F:Nat->Prop}{kv:Key->Value}{fp:Key->List Nat}{σ:ah U}{a:Act}{w:World}
def FA(σ:ah U)(F:Nat->Prop)(fp:Key->List Nat)(b:Nat):Prop:=F b\/∃k e,σ.aU k=some e/\b∈fp k
theorem Rp.fe{w:World}{F F':Nat->Prop}{c:U.C}{v:Value}(h:Rp E w F false c v [])(hF:∀b,F b->F' b):Rp E w F' false c v []:=
 h.i_ hF (by simp)
theorem MX(h:cd E pm F kv fp σ a w){k:Key}{x:fK U}{d:Bool}(he:σ.aU k=some (.arr x d)):
  Rp E w (fun b=>F b\/b∈fp k) false (.sl x.τ x.xs) (kv k) []:=
 cF.i_ (h.cT k _ he) (fun b hb=> .inl hb) (fun b hb=> .inr hb)
theorem ZU(h:cd E pm F kv fp σ a w){k:Key}{x:fK U}(he:σ.aU k=some (.li x)):
  Rp E w (fun b=>F b\/b∈fp k) false (.sl x.τ x.xs) (kv k) []:=by
 obtain⟨tk,ht⟩:=h.bQ
 obtain⟨l,h1,h2⟩:=mA.own (ht.str k _ he rfl)
 exact h1.i_ (fun b hb=> .inl hb) (fun b hb=>((h2 b).1 hb).elim .inr fun g=> .inl (ht.own k _ b he rfl g).1)
theorem cM.OJ{dead:Nat->Bool}{x:fK U}{v:Value}{l:List Nat}(h:cM E w F dead x v l):∃ad c,v=.slice ad x.xs.length c/\x.xs.length<=c:=by
 rcases h with⟨h0,⟨ad,rfl⟩,_⟩|⟨b,cap,cur,vs,dH,rfl,_,hc,hm,_⟩
 ·exact⟨ad,0,by simp[h0],by simp[h0]⟩
 ·exact⟨_,_,rfl,hc⟩
theorem cM.Vy{dead:Nat->Bool}{x b:fK U}{v:Value}{l:List Nat}{i wd j:Nat}{p:Path}{ps:List Prop}(h:cM E w F dead x v l)(hw:walk ((i,wd,j)::p) x=some (ps,b))(hp:∀q∈ps,q)(zT:dead i=false):
  ∃v',mg w (fun c=>F c\/c∈l) v ((i,wd,j)::p) v'/\Rp E w (fun c=>F c\/c∈l) false (.sl b.τ b.xs) v' []:=by
 obtain⟨τ,xs⟩:=x
 simp only[walk] at hw
 cases mH:Nat.beq wd (U.wd τ)<;>simp only[mH,cond_false,cond_true] at hw
 ·cases hw
 have KF:wd=U.wd τ:=jp mH
 subst KF
 split at hw
 rotate_left
 ·cases hw
 rename_i τ1 ys hx
 split at hw
 rotate_left
 ·cases hw
 rename_i HV b' hw'
 simp only[eZ,kG] at hw
 obtain⟨rfl,rfl⟩:=hw
 have hi:i<xs.length:=hp _ (by simp)
 have qt:=dz (d:=U.dt τ) hi
 rcases h with⟨h0,_⟩|⟨g,cap,cur,vs,dH,rfl,hb,hc,hm,hs,hv,hr,jh,rfl⟩
 ·simp only at h0;subst h0;simp at hi
 ·have fB:=hr i _ j _ zT qt hx
  have fx:=eI qt hx
  have hsh:=fB.i_ (F':=fun c=>F c\/c∈g::(List.range (xs.length*U.wd τ)).flatMap dH) (fun b hb=> .inl hb) (fun b hb=> .inr (aJ _ (ln.2 ⟨_,oh.2 fx,hb⟩)))
  obtain⟨v',h1,h2⟩:=Rp.Vy (a:=⟨τ1,ys⟩) hsh hw' (fun q hq=>hp q (by simp[hq]))
  refine⟨v',⟨g,0,_,cap,_,rfl,.inr (by simp),?_,h1⟩,h2⟩
  refine⟨fB.za,?_⟩
  simp only[World.cell?,hb,oz]
  simpa using(hv _ fx).1
theorem ZV{k:Key}{e:eX U}(he:σ.aU k=some e):∀b,(F b\/b∈fp k)->FA σ F fp b:=
 fun b hb=>hb.elim .inl (fun hb=> .inr ⟨k,e,he,hb⟩)
theorem y4{ks:List Key}{k:Key}{p:Path}{e:eX U}(hc:eg (restrict σ.aU ks) σ.ay k p=true)(he:restrict σ.aU ks k=some e):
  (!p.isEmpty&&aZ σ k)=false:=by
 unfold eg at hc
 simp only[Ee,fY,sS] at hc
 rcases hc with hc|⟨_,hc⟩
 ·simp[hc]
 ·simp[aZ,hc,fA he]
theorem Rp.sub{w:World}{F:Nat->Prop}{τ:U.Ty}{xs:List (U.T τ)}{v:Value}(h:Rp E w F false (.sl τ xs) v []){lo hi:Nat}(h1:lo<=hi)(h2:hi<=xs.length):
  Rp E w F false (.sl τ ((xs.take hi).drop lo)) (qz (U.wd τ) lo hi v) []:=by
 have hlen:((xs.take hi).drop lo).length=hi-lo:=by simp;omega
 rcases h.inv with⟨h0,ad,c,rfl⟩|⟨b,off,cap,vs,rfl,hF,hc,hv,hr⟩
 ·subst h0
  simp only[ii] at h2
  have:lo=0:=by omega
  have:hi=0:=by omega
  subst_vars
  simp only[List.take_nil,List.drop_nil,qz,Nat.sub_zero]
  exact .nil _ _ _ _ (by simp)
 ·by_cases h3:hi=lo
  ·subst h3
   have:(xs.take hi).drop hi=[]:=yG (by rw[hlen];omega)
   rw[this]
   simp only[qz,Rr]
   exact .nil _ _ _ _ (by simp)
  ·have cO:¬cap=lo:=by omega
   have K0:(⟨b,off,none⟩:Addr).add (lo*U.wd τ)=⟨b,off+lo*U.wd τ,none⟩:=Addr.add_mid _ _ _
   have:=Rp.shr (E:=E) (w:=w) (F:=F) τ ((xs.take hi).drop lo) b (off+lo*U.wd τ) (cap-lo) (fun i=>vs (lo*U.wd τ+i)) hF (by rw[hlen];omega) (by rw[hlen];have:=h.len;omega)
    (fun i od=>by
     rw[Ot]
     refine hv _ ?_
     rw[hlen] at od
     have:lo*U.wd τ+(hi-lo)*U.wd τ=hi*U.wd τ:=by rw[<-ta];congr 1;omega
     have:hi*U.wd τ<=xs.length*U.wd τ:=u9 _ h2
     omega)
    (fun i x j c hx hj=>by
     have od:i<hi-lo:=by
      rcases lR i (hi-lo) with h|h
      ·exact h
      ·rw[lU (by rw[hlen];exact h)] at hx;cases hx
     have E3:xs[lo+i]? =some x:=by
      rw[Eo,mP] at hx
      rw[if_pos (by omega)] at hx
      exact hx
     have:=hr (lo+i) x j c E3 hj
     rw[ta,Ot] at this
     exact this)
   simp only[qz,cO,if_false,Ef,K0]
   rw[hlen] at this
   exact this
theorem Z_(h:cd E pm F kv fp σ a w){ks:List Key}{x:AC U}{v:Value}{ps:List Prop}{b:fK U}
  (ha:p7 (restrict σ.aU ks) σ.ay x=some (ps,b)) (hp:∀p∈ps,p) (hx:RD E w F kv fp (aZ σ) x v):Rp E w (FA σ F fp) false (.sl b.τ b.xs) v []:=by
 unfold p7 at ha
 split at ha
 ·cases ha
  exact Rp.fe (bG hx rfl) (fun b hb=> .inl hb)
 ·cases ha
  exact Rp.fe (bG hx rfl).1 (fun b hb=> .inl hb)
 ·rename_i k p
  split at ha
  ·rename_i y d he
   cases hc:eg (restrict σ.aU ks) σ.ay k p<;>simp only[hc,cond_false,cond_true] at ha
   ·cases ha
   ·have hn:=bG hx (y4 hc he)
    obtain⟨v',h1,h2⟩:=(MX h (fA he)).Vy ha hp
    have:v=v':=hn.unique h1
    subst this
    exact h2.fe (ZV (fA he))
  ·rename_i y he
   cases hc:eg (restrict σ.aU ks) σ.ay k p<;>simp only[hc,cond_false,cond_true] at ha
   ·cases ha
   ·have hn:=bG hx (y4 hc he)
    obtain⟨v',h1,h2⟩:=(ZU h (fA he)).Vy ha hp
    have:v=v':=hn.unique h1
    subst this
    exact h2.fe (ZV (fA he))
  ·cases ha
 ·rename_i k wd lo hi
  split at ha
  ·rename_i y d he
   cases hw:Nat.beq wd (U.wd y.τ)<;>simp only[hw,cond_false,cond_true] at ha
   ·cases ha
   ·cases ha
    have mH:=jp hw
    subst mH
    obtain⟨h1,h2⟩:=bG hx rfl
    subst h1
    exact((MX h (fA he)).sub h2 (hp _ (by simp))).fe (ZV (fA he))
  ·cases ha
 ·cases ha
theorem aob{n:Nat}{P:Nat->Value->Prop}(h:∀j,j<n->∃u,P j u):∃us:List Value,us.length=n/\∀(j:Nat)(u:Value),us[j]? =some u->P j u:=by
 induction n with
 |zero=>exact⟨[],rfl,fun j u hu=>by simp at hu⟩
 |succ n ih=>
  obtain⟨us,h1,h2⟩:=ih (fun j hj=>h j (by omega))
  obtain⟨u,hu⟩:=h n (by omega)
  refine⟨us++[u],by simp[h1],fun j v hv=> ?_⟩
  by_cases hj:j<n
  ·rw[u_ (by omega)] at hv;exact h2 j v hv
  ·rw[va (by omega)] at hv
   have:j-us.length=0:=by
    rcases Nat.eq_zero_or_pos (j-us.length) with h|h
    ·exact h
    ·rw[lU (by simp;omega)] at hv;cases hv
   rw[this] at hv
   simp only[sT,eZ] at hv
   have hjn:j=n:=by omega
   rw[hjn,<-hv];exact hu
theorem Sn{t:TypeId}{g:Bool}(h:E.isAgg t=some g):∃d,E.P.underlying t=some d/\d.isRow=g:=by
 unfold Env.isAgg at h
 split at h
 ·rename_i hu;cases h;exact⟨_,hu,rfl⟩
 ·rename_i hu;cases h;exact⟨_,hu,rfl⟩
 ·rename_i d h1 h2 hu
  cases h
  refine⟨d,hu,?_⟩
  cases d<;>first|rfl|exact(h1 _ rfl).elim|exact(h2 _ _ rfl).elim
 ·cases h
theorem MW{t:TypeId}{g:Bool}{n b off:Nat}{us:List Value}(hs:E.size t=some n)(hg:E.isAgg t=some g)(NO:(g||Nat.beq n 1)=true)(hl:us.length=n)
  (hr:w.rangeAt b off us):∃v,(Instr.loadAt t (.pointer (some ⟨b,off,none⟩))).run E.P w=.ok v w/\(if g then v=.agg us.toArray else us=[v]):=by
 obtain⟨d,hu,hd⟩:=Sn hg
 cases g with
 |true=>exact⟨_,run_loadAt_mid w b off t us d hr hu hd (by simpa[hl,Env.size] using hs),by simp⟩
 |false=>
  simp only[JY] at NO
  have hn:=jp NO
  subst hn
  obtain⟨u,rfl⟩:∃u,us=[u]:=by
   match us,hl with
   |[u],_=>exact⟨u,rfl⟩
  have hc:=hr 0 u rfl
  simp only[Aj] at hc
  refine⟨u,?_,by simp⟩
  have Qq:(Go.isAgg t).run E.P w=.ok false w:=by
   unfold Go.isAgg
   rw[Sem.run_bind,run_underlying hu w]
   cases d<;>simp_all
  simp[Instr.loadAt,Instr.sureAddr,loadVar,Qq,hc]
theorem Rj{bad:Key->Bool}{xs:List (AC U)}{vs:List Value}(hl:xs.length=vs.length)(h:∀(i:Nat)(x:AC U)(v:Value),xs[i]? =some x->vs[i]? =some v->RD E w F kv fp bad x v):kS E w F kv fp bad xs vs:=⟨hl,h⟩
theorem Sg{k:Key}{p:Path}{i wd:Nat}:∀{cs:List U.C}{j:Nat},(gz k p i wd cs j).length=cs.length
 |[],j=>rfl
 | .lit v::r,j=>by simp[gz,Sg]
 | .sl _ _::r,j=>by simp[gz,Sg]
theorem Sh{k:Key}{p:Path}{i wd:Nat}:∀{cs:List U.C}{j n:Nat}{x:AC U},(gz k p i wd cs j)[n]? =some x->
  ∃c,cs[n]? =some c/\((∃v,c=.lit v/\x=.c (.lit v))\/(∃τ xs,c=.sl τ xs/\x=.ref k (p++[(i,wd,j+n)])))
 |[],j,n,x,h=>by simp[gz] at h
 | .lit v::r,j,n,x,h=>by
  cases n with
  |zero=>simp only[gz,sT,eZ] at h;exact⟨.lit v,rfl,.inl ⟨v,rfl,h.symm⟩⟩
  |succ n=>
   obtain⟨c,h1,h2⟩:=Sh (by simpa[gz] using h)
   exact⟨c,by simpa using h1,by rwa[show j+(n+1)=j+1+n by omega]⟩
 | .sl τ xs::r,j,n,x,h=>by
  cases n with
  |zero=>simp only[gz,sT,eZ] at h;exact⟨.sl τ xs,rfl,.inr ⟨τ,xs,rfl,h.symm⟩⟩
  |succ n=>
   obtain⟨c,h1,h2⟩:=Sh (by simpa[gz] using h)
   exact⟨c,by simpa using h1,by rwa[show j+(n+1)=j+1+n by omega]⟩
theorem ano(h:cd E pm F kv fp σ a w){o:Oper}{t:TypeId}{x:Operand}{sx:SV U}{y:AC U}{n:Nat}{g:Bool}{ks:List Key}{r:bz U}(ho:o.op=.load t x)
  (hx:RS E w F kv fp (aZ σ) sx (a.eval x)) (hc:sd sx=some y) (hs:E.size t=some n) (hg:E.isAgg t=some g)
  (hr:loadAt (restrict σ.aU ks) σ.ay g n y=some r) (hp:∀p∈r.pre,p):∃sv ps,r=⟨some sv,[],[],[],ps,[]⟩/\cA E F kv fp (aZ σ) a w o sv:=by
 have hx:=bD hx hc
 have fin:∀(cs:List (AC U))(us:List Value)(b off:Nat),a.eval x=.pointer (some ⟨b,off,none⟩)->(g||Nat.beq n 1)=true->us.length=n->w.rangeAt b off us->kS E w F kv fp (aZ σ) cs us->
   cA E F kv fp (aZ σ) a w o (.v ⟨g,cs⟩):=by
  intro cs us b off hv NO hl oZ AB
  obtain⟨v,h1,h2⟩:=MW hs hg NO hl oZ
  refine⟨v,?_,us,AB,h2⟩
  unfold execOp;simp only[ho,hv];exact gF h1
 unfold loadAt at hr
 cases NO:(g||Nat.beq n 1)<;>simp only[NO,cond_false,cond_true] at hr
 ·cases hr
 split at hr
 ·rename_i cs
  cases hb:Nat.ble n cs.length<;>simp only[hb,cond_false,cond_true] at hr
  ·cases hr
  ·cases hr
   refine⟨_,_,rfl,?_⟩
   have hb:=H6 hb
   obtain⟨b,off,h1,h2,h3⟩:=bG hx rfl
   obtain⟨us,h4,h5⟩:=aob (n:=n) (P:=fun j u=>w.cell? ⟨b,off+j,none⟩=some u/\∀c,cs[j]? =some c->Rp E w F false c u []) (fun j hj=>by
    obtain⟨u,h4,h5⟩:=h3 j cs[j] (by rw[gr])
    exact⟨u,h4,fun c hc=>by rw[gr (by omega)] at hc;cases hc;exact h5⟩)
   refine fin _ us b off h1 NO h4 (fun j u hu=>(h5 j u hu).1) ⟨by simp[h4];omega,fun j y u hy hu=> ?_⟩
   rw[mE] at hy
   cases Qk:(cs.take n)[j]? with
   |none=>rw[Qk] at hy;cases hy
   |some c=>
    rw[Qk] at hy
    cases hy
    have apI:cs[j]? =some c:=by
     rw[mP] at Qk
     split at Qk
     ·exact Qk
     ·cases Qk
    have:=(h5 j u hu).2 c apI
    exact⟨this.dQ,.inr this⟩
 ·rename_i k off
  split at hr
  ·rename_i cs he
   cases hb:Nat.ble (off+n) cs.length<;>simp only[hb,cond_false,cond_true] at hr
   ·cases hr
   ·cases hr
    refine⟨_,_,rfl,?_⟩
    have hb:=H6 hb
    obtain⟨b,h1,h2⟩:=bG hx rfl
    obtain⟨b',cur,e,h3,h4,h5,h6⟩:=h.cT k _ (fA he)
    rw[h1] at h3
    cases h3
    refine fin _ ((cur.toList.drop off).take n) b off h2 NO (by have:=h6.1;simp at this⊢;omega) (fun j u hu=> ?_) ⟨by have:=h6.1;simp at this⊢;omega,fun j y u hy hu=> ?_⟩
    ·rw[mP] at hu
     split at hu
     ·rw[Eo] at hu
      rw[cell_of_row w b _ cur e (0,0) h4]
      simpa using hu
     ·cases hu
    ·rw[mP] at hy hu
     split at hy
     ·rename_i fx
      rw[if_pos fx] at hu
      rw[Eo] at hy hu
      exact h6.2 _ y u hy hu
     ·cases hy
  ·cases hr
 ·rename_i k p i wd off
  have main:∀(z:fK U)(e:eX U),restrict σ.aU ks k=some e->Rp E w (fun b=>F b\/b∈fp k) false (.sl z.τ z.xs) (kv k) []->ID (restrict σ.aU ks) σ.ay g n k p i wd off z=some r->
    ∃sv ps,r=⟨some sv,[],[],[],ps,[]⟩/\cA E F kv fp (aZ σ) a w o sv:=by
   intro z e he hz hr
   unfold ID at hr
   cases fa:eg (restrict σ.aU ks) σ.ay k p<;>simp only[fa,cond_false,cond_true] at hr
   ·cases hr
   ·split at hr
    ·rename_i ps b hw
     cases hb:(Nat.ble (off+n) (U.wd b.τ)&&Nat.beq wd (U.wd b.τ))<;>simp only[hb,cond_false,cond_true] at hr
     ·cases hr
     ·simp only[fY] at hb
      have mH:=jp hb.2
      have hle:=H6 hb.1
      subst mH
      cases hr
      refine⟨_,_,rfl,?_⟩
      obtain⟨bb,oo,nn,cc,h1,h2⟩:=bG hx (y4 fa he)
      have KK:∀q∈ps,q:=fun q hq=>hp q (by simp[bz.cv,hq])
      have hi:i<b.xs.length:=hp _ (by simp[bz.cv])
      obtain⟨v',h3,h4⟩:=hz.Vy hw KK
      have Eh:=h1.unique h3
      rw[<-Eh] at h4 h3
      rcases h4.inv with⟨h0,_⟩|⟨b2,o2,c2,vs,h5,hF,hc,hv,TA⟩
      ·rw[h0] at hi;simp at hi
      ·simp only[Value.slice.injEq,eZ,Addr.mk.injEq,and_true] at h5
       obtain⟨⟨rfl,rfl⟩,rfl,rfl⟩:=h5
       have qt:=dz (d:=U.dt b.τ) hi
       have lB:∀j,j<U.wd b.τ->w.cell? ⟨bb,oo+(i*U.wd b.τ+j),none⟩=some (vs (i*U.wd b.τ+j)):=fun j hj=>by
        refine hv _ (eI qt (c:=(U.enc b.τ (b.xs.getD i (U.dt b.τ)))[j]'(by rw[U.cP];exact hj)) ?_)
        rw[gr]
       refine fin _ ((List.range n).map fun j=>vs (i*U.wd b.τ+(off+j))) bb (oo+(i*U.wd b.τ+off)) h2 NO (by simp) (fun j u hu=> ?_) ⟨?_,fun j y u hy hu=> ?_⟩
       ·rw[mE] at hu
        by_cases hj:j<n
        ·rw[JZ hj] at hu
         simp only[Ef,eZ] at hu
         rw[<-hu,<-lB (off+j) (by omega)]
         congr 2;omega
        ·rw[lU (by simp;omega)] at hu;cases hu
       ·rw[Sg];simp[U.cP];omega
       ·obtain⟨c,yL,Fg⟩:=Sh hy
        have hj:j<n:=by
         rw[mP] at yL
         split at yL
         ·assumption
         ·cases yL
        have apK:(U.enc b.τ (b.xs.getD i (U.dt b.τ)))[off+j]? =some c:=by
         rw[mP,if_pos hj,Eo] at yL;exact yL
        have kM:u=vs (i*U.wd b.τ+(off+j)):=by
         rw[mE,JZ hj] at hu
         simpa using hu.symm
        have fB:=TA i _ (off+j) c qt apK
        rw[<-kM] at fB
        rcases Fg with⟨v,rfl,rfl⟩|⟨τ,xs,rfl,rfl⟩
        ·refine⟨fB.dQ,.inr ?_⟩
         generalize hm:false=m at fB
         generalize f_:(Cell.lit v:U.C)=c at fB
         cases fB with
         |lit m v' Eh=>cases f_;exact .lit _ _ Eh
         |nil=>cases f_
         |shr=>cases f_
        ·refine⟨fB.dQ,.inr ?_⟩
         simp only[RA]
         refine h1.append ⟨bb,oo,_,_,u,rfl,hF,⟨fB.za,?_⟩,rfl⟩
         rw[kM,<-lB (off+j) (by omega)]
    ·cases hr
  split at hr
  ·rename_i z d he
   exact main z _ he (MX h (fA he)) hr
  ·rename_i z he
   exact main z _ he (ZU h (fA he)) hr
  ·cases hr
 ·cases hr
end AM
