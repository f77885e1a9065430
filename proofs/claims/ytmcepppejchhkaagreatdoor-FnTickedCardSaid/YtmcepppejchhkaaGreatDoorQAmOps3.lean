import Derived.Test.YtmcepppejchhkaaGreatDoorQAmOps2
namespace AM
set_option linter.unusedVariables false
open Go
variable{U:lQ}{E:Env U}{pm:Pm}
variable{F:Nat->Prop}{kv:Key->Value}{fp:Key->List Nat}{σ:ak U}{a:Act}{w:World}
def FA(σ:ak U)(F:Nat->Prop)(fp:Key->List Nat)(b:Nat):Prop:=F b\/∃k e,σ.bP k=some e/\b∈fp k
theorem Rp.fW{w:World}{F F':Nat->Prop}{c:U.C}{v:Value}(h:Rp E w F false c v [])(hF:∀b,F b->F' b):Rp E w F' false c v []:=
 h.lT hF (by simp)
theorem Pv(h:cR E pm F kv fp σ a w){k:Key}{x:iE U}{d:Bool}(he:σ.bP k=some (.arr x d)):
  Rp E w (fun b=>F b\/b∈fp k) false (.sl x.τ x.xs) (kv k) []:=
 fe.lT (h.dD k _ he) (fun b hb=> .inl hb) (fun b hb=> .inr hb)
theorem eK.Q_{dead:Nat->Bool}{x:iE U}{v:Value}{l:List Nat}(h:eK E w F dead x v l):∃ad c,v=.slice ad x.xs.length c/\x.xs.length<=c:=by
 rcases h with⟨h0,⟨ad,rfl⟩,_⟩|⟨b,cap,cur,vs,ie,rfl,_,hc,hm,_⟩
 ·exact⟨ad,0,by simp[h0],by simp[h0]⟩
 ·exact⟨_,_,rfl,hc⟩
theorem eK.nav{dead:Nat->Bool}{x b:iE U}{v:Value}{l:List Nat}{i wd j:Nat}{p:Path}{ps:List Prop}(h:eK E w F dead x v l)(hw:walk ((i,wd,j)::p) x=some (ps,b))(hp:∀q∈ps,q)(UF:dead i=false):
  ∃v',pI w (fun c=>F c\/c∈l) v ((i,wd,j)::p) v'/\Rp E w (fun c=>F c\/c∈l) false (.sl b.τ b.xs) v' []:=by
 obtain⟨τ,xs⟩:=x
 simp only[walk] at hw
 cases vP:Nat.beq wd (U.wd τ)<;>simp only[vP,cond_false,cond_true] at hw
 ·cases hw
 have Sj:wd=U.wd τ:=nF vP
 subst Sj
 split at hw
 rotate_left
 ·cases hw
 rename_i τ1 ys hx
 split at hw
 rotate_left
 ·cases hw
 rename_i K6 b' hw'
 simp only[gI,pE] at hw
 obtain⟨rfl,rfl⟩:=hw
 have hi:i<xs.length:=hp _ (by simp)
 have wM:=fM (d:=U.ff τ) hi
 rcases h with⟨h0,_⟩|⟨g,cap,cur,vs,ie,rfl,hb,hc,hm,hs,hv,hr,kM,rfl⟩
 ·simp only at h0;subst h0;simp at hi
 ·have kj:=hr i _ j _ UF wM hx
  have gy:=fS wM hx
  have hsh:=kj.lT (F':=fun c=>F c\/c∈g::(List.range (xs.length*U.wd τ)).flatMap ie) (fun b hb=> .inl hb) (fun b hb=> .inr (fF _ (o8.2 ⟨_,pR.2 gy,hb⟩)))
  obtain⟨v',h1,h2⟩:=Rp.nav (a:=⟨τ1,ys⟩) hsh hw' (fun q hq=>hp q (by simp[hq]))
  refine⟨v',⟨g,0,_,cap,_,rfl,.inr (by simp),?_,h1⟩,h2⟩
  simp only[World.cell?,hb,vB]
  simpa using(hv _ gy).1
theorem adD{k:Key}{e:iX U}(he:σ.bP k=some e):∀b,(F b\/b∈fp k)->FA σ F fp b:=
 fun b hb=>hb.elim .inl (fun hb=> .inr ⟨k,e,he,hb⟩)
theorem H5{ks:List Key}{k:Key}{p:Path}{e:iX U}(hc:fU (restrict σ.bP ks) σ.aS k p=true)(he:restrict σ.bP ks k=some e):
  (!p.isEmpty&&bY σ k)=false:=by
 unfold fU at hc
 simp only[Gc,cN,qK] at hc
 rcases hc with hc|⟨_,hc⟩
 ·simp[hc]
 ·simp[bY,hc,kf he]
theorem Rp.sub{w:World}{F:Nat->Prop}{τ:U.Ty}{xs:List (U.T τ)}{v:Value}(h:Rp E w F false (.sl τ xs) v []){lo hi:Nat}(h1:lo<=hi)(h2:hi<=xs.length):
  Rp E w F false (.sl τ ((xs.take hi).drop lo)) (rY (U.wd τ) lo hi v) []:=by
 have hlen:((xs.take hi).drop lo).length=hi-lo:=by simp;omega
 rcases h.inv with⟨h0,ad,c,rfl⟩|⟨b,off,cap,vs,rfl,hF,hc,hv,hr⟩
 ·subst h0
  simp only[fz] at h2
  have:lo=0:=by omega
  have:hi=0:=by omega
  subst_vars
  simp only[List.take_nil,List.drop_nil,rY,Nat.sub_zero]
  exact .nil _ _ _ _ (by simp)
 ·by_cases h3:hi=lo
  ·subst h3
   have:(xs.take hi).drop hi=[]:=Gl (by rw[hlen];omega)
   rw[this]
   simp only[rY,Zw]
   exact .nil _ _ _ _ (by simp)
  ·have fc:¬cap=lo:=by omega
   have Qh:(⟨b,off,none⟩:Addr).add (lo*U.wd τ)=⟨b,off+lo*U.wd τ,none⟩:=Addr.add_mid _ _ _
   have:=Rp.shr (E:=E) (w:=w) (F:=F) τ ((xs.take hi).drop lo) b (off+lo*U.wd τ) (cap-lo) (fun i=>vs (lo*U.wd τ+i)) hF (by rw[hlen];omega) (by rw[hlen];have:=h.len;omega)
    (fun i qH=>by
     rw[QX]
     refine hv _ ?_
     rw[hlen] at qH
     have:lo*U.wd τ+(hi-lo)*U.wd τ=hi*U.wd τ:=by rw[<-xT];congr 1;omega
     have:hi*U.wd τ<=xs.length*U.wd τ:=Be _ h2
     omega)
    (fun i x j c hx hj=>by
     have qH:i<hi-lo:=by
      rcases pt i (hi-lo) with h|h
      ·exact h
      ·rw[ot (by rw[hlen];exact h)] at hx;cases hx
     have Ux:xs[lo+i]? =some x:=by
      rw[HR,qy] at hx
      rw[if_pos (by omega)] at hx
      exact hx
     have:=hr (lo+i) x j c Ux hj
     rw[xT,QX] at this
     exact this)
   simp only[rY,fc,if_false,Gj,Qh]
   rw[hlen] at this
   exact this
theorem aaE(h:cR E pm F kv fp σ a w){ks:List Key}{x:AC U}{v:Value}{ps:List Prop}{b:iE U}
  (ha:ru (restrict σ.bP ks) σ.aS x=some (ps,b)) (hp:∀p∈ps,p) (hx:RD E w F kv fp (bY σ) x v):Rp E w (FA σ F fp) false (.sl b.τ b.xs) v []:=by
 unfold ru at ha
 split at ha
 ·cases ha
  exact Rp.fW (cx hx rfl) (fun b hb=> .inl hb)
 ·cases ha
  exact Rp.fW (cx hx rfl).1 (fun b hb=> .inl hb)
 ·rename_i k p
  split at ha
  ·rename_i y d he
   cases hc:fU (restrict σ.bP ks) σ.aS k p<;>simp only[hc,cond_false,cond_true] at ha
   ·cases ha
   ·have hn:=cx hx (H5 hc he)
    obtain⟨v',h1,h2⟩:=(Pv h (kf he)).nav ha hp
    have:v=v':=hn.unique h1
    subst this
    exact h2.fW (adD (kf he))
  ·cases ha
 ·rename_i k wd lo hi
  split at ha
  ·rename_i y d he
   cases hw:Nat.beq wd (U.wd y.τ)<;>simp only[hw,cond_false,cond_true] at ha
   ·cases ha
   ·cases ha
    have vP:=nF hw
    subst vP
    obtain⟨h1,h2⟩:=cx hx rfl
    subst h1
    exact((Pv h (kf he)).sub h2 (hp _ (by simp))).fW (adD (kf he))
  ·cases ha
 ·cases ha
theorem amy{n:Nat}{P:Nat->Value->Prop}(h:∀j,j<n->∃u,P j u):∃us:List Value,us.length=n/\∀(j:Nat)(u:Value),us[j]? =some u->P j u:=by
 induction n with
 |zero=>exact⟨[],rfl,fun j u hu=>by simp at hu⟩
 |succ n ih=>
  obtain⟨us,h1,h2⟩:=ih (fun j hj=>h j (by omega))
  obtain⟨u,hu⟩:=h n (by omega)
  refine⟨us++[u],by simp[h1],fun j v hv=> ?_⟩
  by_cases hj:j<n
  ·rw[zY (by omega)] at hv;exact h2 j v hv
  ·rw[z_ (by omega)] at hv
   have:j-us.length=0:=by
    rcases Nat.eq_zero_or_pos (j-us.length) with h|h
    ·exact h
    ·rw[ot (by simp;omega)] at hv;cases hv
   rw[this] at hv
   simp only[vF,gI] at hv
   have hjn:j=n:=by omega
   rw[hjn,<-hv];exact hu
theorem Vx{t:TypeId}{g:Bool}(h:E.isAgg t=some g):∃d,E.P.underlying t=some d/\d.isRow=g:=by
 unfold Env.isAgg at h
 split at h
 ·rename_i hu;cases h;exact⟨_,hu,rfl⟩
 ·rename_i hu;cases h;exact⟨_,hu,rfl⟩
 ·rename_i d h1 h2 hu
  cases h
  refine⟨d,hu,?_⟩
  cases d<;>first|rfl|exact(h1 _ rfl).elim|exact(h2 _ _ rfl).elim
 ·cases h
theorem Vg{t:TypeId}{g:Bool}{n b off:Nat}{us:List Value}(hs:E.size t=some n)(hg:E.isAgg t=some g)(Qb:(g||Nat.beq n 1)=true)(hl:us.length=n)
  (hr:w.rangeAt b off us):∃v,(Instr.loadAt t (.pointer (some ⟨b,off,none⟩))).run E.P w=.ok v w/\(if g then v=.agg us.toArray else us=[v]):=by
 obtain⟨d,hu,hd⟩:=Vx hg
 cases g with
 |true=>exact⟨_,run_loadAt_mid w b off t us d hr hu hd (by simpa[hl,Env.size] using hs),by simp⟩
 |false=>
  simp only[GJ] at Qb
  have hn:=nF Qb
  subst hn
  obtain⟨u,rfl⟩:∃u,us=[u]:=by
   match us,hl with
   |[u],_=>exact⟨u,rfl⟩
  have hc:=hr 0 u rfl
  simp only[Kj] at hc
  refine⟨u,?_,by simp⟩
  have SU:(Go.isAgg t).run E.P w=.ok false w:=by
   unfold Go.isAgg
   rw[Sem.run_bind,run_underlying hu w]
   cases d<;>simp_all
  simp[Instr.loadAt,Instr.sureAddr,loadVar,SU,hc]
theorem Ul{bad:Key->Bool}{xs:List (AC U)}{vs:List Value}(hl:xs.length=vs.length)(h:∀(i:Nat)(x:AC U)(v:Value),xs[i]? =some x->vs[i]? =some v->RD E w F kv fp bad x v):mw E w F kv fp bad xs vs:=⟨hl,h⟩
theorem Vq{k:Key}{p:Path}{i wd:Nat}:∀{cs:List U.C}{j:Nat},(ii k p i wd cs j).length=cs.length
 |[],j=>rfl
 | .lit v::r,j=>by simp[ii,Vq]
 | .sl _ _::r,j=>by simp[ii,Vq]
theorem Vr{k:Key}{p:Path}{i wd:Nat}:∀{cs:List U.C}{j n:Nat}{x:AC U},(ii k p i wd cs j)[n]? =some x->
  ∃c,cs[n]? =some c/\((∃v,c=.lit v/\x=.c (.lit v))\/(∃τ xs,c=.sl τ xs/\x=.ref k (p++[(i,wd,j+n)])))
 |[],j,n,x,h=>by simp[ii] at h
 | .lit v::r,j,n,x,h=>by
  cases n with
  |zero=>simp only[ii,vF,gI] at h;exact⟨.lit v,rfl,.inl ⟨v,rfl,h.symm⟩⟩
  |succ n=>
   obtain⟨c,h1,h2⟩:=Vr (by simpa[ii] using h)
   exact⟨c,by simpa using h1,by rwa[show j+(n+1)=j+1+n by omega]⟩
 | .sl τ xs::r,j,n,x,h=>by
  cases n with
  |zero=>simp only[ii,vF,gI] at h;exact⟨.sl τ xs,rfl,.inr ⟨τ,xs,rfl,h.symm⟩⟩
  |succ n=>
   obtain⟨c,h1,h2⟩:=Vr (by simpa[ii] using h)
   exact⟨c,by simpa using h1,by rwa[show j+(n+1)=j+1+n by omega]⟩
theorem alU(h:cR E pm F kv fp σ a w){o:Oper}{t:TypeId}{x:Operand}{sx:SV U}{y:AC U}{n:Nat}{g:Bool}{ks:List Key}{r:cq U}(ho:o.op=.load t x)
  (hx:RS E w F kv fp (bY σ) sx (a.eval x)) (hc:vx sx=some y) (hs:E.size t=some n) (hg:E.isAgg t=some g)
  (hr:loadAt (restrict σ.bP ks) σ.aS g n y=some r) (hp:∀p∈r.pre,p):∃sv ps,r=⟨some sv,[],[],[],ps⟩/\cI E F kv fp (bY σ) a w o sv:=by
 have hx:=lD hx hc
 have fin:∀(cs:List (AC U))(us:List Value)(b off:Nat),a.eval x=.pointer (some ⟨b,off,none⟩)->(g||Nat.beq n 1)=true->us.length=n->w.rangeAt b off us->mw E w F kv fp (bY σ) cs us->
   cI E F kv fp (bY σ) a w o (.v ⟨g,cs⟩):=by
  intro cs us b off hv Qb hl oi Cf
  obtain⟨v,h1,h2⟩:=Vg hs hg Qb hl oi
  refine⟨v,?_,us,Cf,h2⟩
  unfold execOp;simp only[ho,hv];exact iM h1
 unfold loadAt at hr
 cases Qb:(g||Nat.beq n 1)<;>simp only[Qb,cond_false,cond_true] at hr
 ·cases hr
 split at hr
 ·rename_i cs
  cases hb:Nat.ble n cs.length<;>simp only[hb,cond_false,cond_true] at hr
  ·cases hr
  ·cases hr
   refine⟨_,_,rfl,?_⟩
   have hb:=Kp hb
   obtain⟨b,off,h1,h2,h3⟩:=cx hx rfl
   obtain⟨us,h4,h5⟩:=amy (n:=n) (P:=fun j u=>w.cell? ⟨b,off+j,none⟩=some u/\∀c,cs[j]? =some c->Rp E w F false c u []) (fun j hj=>by
    obtain⟨u,h4,h5⟩:=h3 j cs[j] (by rw[fE])
    exact⟨u,h4,fun c hc=>by rw[fE (by omega)] at hc;cases hc;exact h5⟩)
   refine fin _ us b off h1 Qb h4 (fun j u hu=>(h5 j u hu).1) ⟨by simp[h4];omega,fun j y u hy hu=> ?_⟩
   rw[nS] at hy
   cases SM:(cs.take n)[j]? with
   |none=>rw[SM] at hy;cases hy
   |some c=>
    rw[SM] at hy
    cases hy
    have anY:cs[j]? =some c:=by
     rw[qy] at SM
     split at SM
     ·exact SM
     ·cases SM
    have:=(h5 j u hu).2 c anY
    exact⟨this.gF,.inr this⟩
 ·rename_i k off
  split at hr
  ·rename_i cs he
   cases hb:Nat.ble (off+n) cs.length<;>simp only[hb,cond_false,cond_true] at hr
   ·cases hr
   ·cases hr
    refine⟨_,_,rfl,?_⟩
    have hb:=Kp hb
    obtain⟨b,h1,h2⟩:=cx hx rfl
    obtain⟨b',cur,e,h3,h4,h5,h6⟩:=h.dD k _ (kf he)
    rw[h1] at h3
    cases h3
    refine fin _ ((cur.toList.drop off).take n) b off h2 Qb (by have:=h6.1;simp at this⊢;omega) (fun j u hu=> ?_) ⟨by have:=h6.1;simp at this⊢;omega,fun j y u hy hu=> ?_⟩
    ·rw[qy] at hu
     split at hu
     ·rw[HR] at hu
      rw[cell_of_row w b _ cur e (0,0) h4]
      simpa using hu
     ·cases hu
    ·rw[qy] at hy hu
     split at hy
     ·rename_i gy
      rw[if_pos gy] at hu
      rw[HR] at hy hu
      exact h6.2 _ y u hy hu
     ·cases hy
  ·cases hr
 ·rename_i k p i wd off
  split at hr
  ·rename_i z d he
   cases ix:fU (restrict σ.bP ks) σ.aS k p<;>simp only[ix,cond_false,cond_true] at hr
   ·cases hr
   ·split at hr
    ·rename_i ps b hw
     cases hb:(Nat.ble (off+n) (U.wd b.τ)&&Nat.beq wd (U.wd b.τ))<;>simp only[hb,cond_false,cond_true] at hr
     ·cases hr
     ·simp only[cN] at hb
      have vP:=nF hb.2
      have hle:=Kp hb.1
      subst vP
      cases hr
      refine⟨_,_,rfl,?_⟩
      obtain⟨bb,oo,nn,cc,h1,h2⟩:=cx hx (H5 ix he)
      have Nn:∀q∈ps,q:=fun q hq=>hp q (by simp[cq.cP,hq])
      have hi:i<b.xs.length:=hp _ (by simp[cq.cP])
      obtain⟨v',h3,h4⟩:=(Pv h (kf he)).nav hw Nn
      have Sl:=h1.unique h3
      rw[<-Sl] at h4 h3
      rcases h4.inv with⟨h0,_⟩|⟨b2,o2,c2,vs,h5,hF,hc,hv,hrr⟩
      ·rw[h0] at hi;simp at hi
      ·simp only[Value.slice.injEq,gI,Addr.mk.injEq,and_true] at h5
       obtain⟨⟨rfl,rfl⟩,rfl,rfl⟩:=h5
       have wM:=fM (d:=U.ff b.τ) hi
       have px:∀j,j<U.wd b.τ->w.cell? ⟨bb,oo+(i*U.wd b.τ+j),none⟩=some (vs (i*U.wd b.τ+j)):=fun j hj=>by
        refine hv _ (fS wM (c:=(U.enc b.τ (b.xs.getD i (U.ff b.τ)))[j]'(by rw[U.dG];exact hj)) ?_)
        rw[fE]
       refine fin _ ((List.range n).map fun j=>vs (i*U.wd b.τ+(off+j))) bb (oo+(i*U.wd b.τ+off)) h2 Qb (by simp) (fun j u hu=> ?_) ⟨?_,fun j y u hy hu=> ?_⟩
       ·rw[nS] at hu
        by_cases hj:j<n
        ·rw[NU hj] at hu
         simp only[Gj,gI] at hu
         rw[<-hu,<-px (off+j) (by omega)]
         congr 2;omega
        ·rw[ot (by simp;omega)] at hu;cases hu
       ·rw[Vq];simp[U.dG];omega
       ·obtain⟨c,GC,Qf⟩:=Vr hy
        have hj:j<n:=by
         rw[qy] at GC
         split at GC
         ·assumption
         ·cases GC
        have anZ:(U.enc b.τ (b.xs.getD i (U.ff b.τ)))[off+j]? =some c:=by
         rw[qy,if_pos hj,HR] at GC;exact GC
        have tr:u=vs (i*U.wd b.τ+(off+j)):=by
         rw[nS,NU hj] at hu
         simpa using hu.symm
        have kj:=hrr i _ (off+j) c wM anZ
        rw[<-tr] at kj
        rcases Qf with⟨v,rfl,rfl⟩|⟨τ,xs,rfl,rfl⟩
        ·refine⟨kj.gF,.inr ?_⟩
         generalize hm:false=m at kj
         generalize hcc:(Cell.lit v:U.C)=c at kj
         cases kj with
         |lit m v' Sl=>cases hcc;exact .lit _ _ Sl
         |nil=>cases hcc
         |shr=>cases hcc
        ·refine⟨kj.gF,.inr ?_⟩
         simp only[RA]
         refine h1.append ⟨bb,oo,_,_,u,rfl,hF,?_,rfl⟩
         rw[tr,<-px (off+j) (by omega)]
    ·cases hr
  ·cases hr
 ·cases hr
end AM
