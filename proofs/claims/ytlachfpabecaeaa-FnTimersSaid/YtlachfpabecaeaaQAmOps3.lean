/- THE ABSTRACT MACHINE: reading memory. -/
import Derived.Test.YtlachfpabecaeaaQAmOps2
namespace AM
set_option linter.unusedVariables false
open Go
variable{U:dw}{E:Env U}{pm:Pm}
variable{F:Nat->Prop}{kv:Key->Value}{fp:Key->List Nat}{σ:aa U}{a:Act}{w:World}
def FA(σ:aa U)(F:Nat->Prop)(fp:Key->List Nat)(b:Nat):Prop:=F b\/∃k e,σ.aw k=some e/\b∈fp k
theorem Rp.bx{w:World}{F F':Nat->Prop}{c:U.C}{v:Value}(h:Rp E w F false c v [])(hF:∀b,F b->F' b):Rp E w F' false c v []:=
 h.dy hF (by simp)
theorem tu(h:aE E pm F kv fp σ a w){k:Key}{x:fx U}{d:Bool}(he:σ.aw k=some (.arr x d)):
  Rp E w (fun b=>F b\/b∈fp k) false (.sl x.τ x.xs) (kv k) []:=
 aZ.dy (h.aJ k _ he) (fun b hb=> .inl hb) (fun b hb=> .inr hb)
theorem aU.uK{dead:Nat->Bool}{x:fx U}{v:Value}{l:List Nat}(h:aU E w F dead x v l):∃ad c,v=.slice ad x.xs.length c/\x.xs.length<=c:=by
 rcases h with⟨h0,⟨ad,rfl⟩,_⟩|⟨b,cap,cur,vs,bM,rfl,_,hc,hm,_⟩
 ·exact⟨ad,0,by simp[h0],by simp[h0]⟩
 ·exact⟨_,_,rfl,hc⟩
theorem aU.B4{dead:Nat->Bool}{x b:fx U}{v:Value}{l:List Nat}{i wd j:Nat}{p:Path}{ps:List Prop}(h:aU E w F dead x v l)(hw:walk ((i,wd,j)::p) x=some (ps,b))(hp:∀q∈ps,q)(wJ:dead i=false):
  ∃v',fw w (fun c=>F c\/c∈l) v ((i,wd,j)::p) v'/\Rp E w (fun c=>F c\/c∈l) false (.sl b.τ b.xs) v' []:=by
 obtain⟨τ,xs⟩:=x
 simp only[walk] at hw
 cases je:Nat.beq wd (U.wd τ)<;>simp only[je,cond_false,cond_true] at hw
 ·cases hw
 have vq:wd=U.wd τ:=eI je
 subst vq
 split at hw
 rotate_left
 ·cases hw
 rename_i Hf ys hx
 split at hw
 rotate_left
 ·cases hw
 rename_i qG b' EF
 simp only[bH,fB] at hw
 obtain⟨rfl,rfl⟩:=hw
 have hi:i<xs.length:=hp _ (by simp)
 have jt:=ba (d:=U.bj τ) hi
 rcases h with⟨h0,_⟩|⟨g,cap,cur,vs,bM,rfl,hb,hc,hm,hs,hv,hr,dD,rfl⟩
 ·simp only at h0;subst h0;simp at hi
 ·have cR:=hr i _ j _ wJ jt hx
  have bU:=bm jt hx
  have Ku:=cR.dy (F':=fun c=>F c\/c∈g::(List.range (xs.length*U.wd τ)).flatMap bM) (fun b hb=> .inl hb) (fun b hb=> .inr (d_ _ (fC.2 ⟨_,iD.2 bU,hb⟩)))
  obtain⟨v',h1,h2⟩:=Rp.B4 (a:=⟨Hf,ys⟩) Ku EF (fun q hq=>hp q (by simp[hq]))
  refine⟨v',⟨g,0,_,cap,_,rfl,.inr (by simp),?_,h1⟩,h2⟩
  simp only[World.cell?,hb,kO]
  simpa using(hv _ bU).1
theorem DO{k:Key}{e:bZ U}(he:σ.aw k=some e):∀b,(F b\/b∈fp k)->FA σ F fp b:=
 fun b hb=>hb.elim .inl (fun hb=> .inr ⟨k,e,he,hb⟩)
theorem oW{ks:List Key}{k:Key}{p:Path}{e:bZ U}(hc:bw (restrict σ.aw ks) σ.ah k p=true)(he:restrict σ.aw ks k=some e):
  (!p.isEmpty&&ay σ k)=false:=by
 unfold bw at hc
 simp only[qi,c9,l6] at hc
 rcases hc with hc|⟨_,hc⟩
 ·simp[hc]
 ·simp[ay,hc,cQ he]
theorem Rp.sub{w:World}{F:Nat->Prop}{τ:U.Ty}{xs:List (U.T τ)}{v:Value}(h:Rp E w F false (.sl τ xs) v []){lo hi:Nat}(h1:lo<=hi)(h2:hi<=xs.length):
  Rp E w F false (.sl τ ((xs.take hi).drop lo)) (gq (U.wd τ) lo hi v) []:=by
 have hlen:((xs.take hi).drop lo).length=hi-lo:=by simp;omega
 rcases h.inv with⟨h0,ad,c,rfl⟩|⟨b,off,cap,vs,rfl,hF,hc,hv,hr⟩
 ·subst h0
  simp only[j9] at h2
  have:lo=0:=by omega
  have:hi=0:=by omega
  subst_vars
  simp only[List.take_nil,List.drop_nil,gq,Nat.sub_zero]
  exact .nil _ _ _ _ (by simp)
 ·by_cases h3:hi=lo
  ·subst h3
   have:(xs.take hi).drop hi=[]:=qk (by rw[hlen];omega)
   rw[this]
   simp only[gq,Hh]
   exact .nil _ _ _ _ (by simp)
  ·have aX:¬cap=lo:=by omega
   have ug:(⟨b,off,none⟩:Addr).add (lo*U.wd τ)=⟨b,off+lo*U.wd τ,none⟩:=Addr.add_mid _ _ _
   have:=Rp.shr (E:=E) (w:=w) (F:=F) τ ((xs.take hi).drop lo) b (off+lo*U.wd τ) (cap-lo) (fun i=>vs (lo*U.wd τ+i)) hF (by rw[hlen];omega) (by rw[hlen];have:=h.len;omega)
    (fun i gu=>by
     rw[uD]
     refine hv _ ?_
     rw[hlen] at gu
     have:lo*U.wd τ+(hi-lo)*U.wd τ=hi*U.wd τ:=by rw[<-j8];congr 1;omega
     have:hi*U.wd τ<=xs.length*U.wd τ:=kS _ h2
     omega)
    (fun i x j c hx hj=>by
     have gu:i<hi-lo:=by
      rcases fA i (hi-lo) with h|h
      ·exact h
      ·rw[fb (by rw[hlen];exact h)] at hx;cases hx
     have tN:xs[lo+i]? =some x:=by
      rw[nH,fg] at hx
      rw[if_pos (by omega)] at hx
      exact hx
     have:=hr (lo+i) x j c tN hj
     rw[j8,uD] at this
     exact this)
   simp only[gq,aX,if_false,nG,ug]
   rw[hlen] at this
   exact this
theorem Al(h:aE E pm F kv fp σ a w){ks:List Key}{x:AC U}{v:Value}{ps:List Prop}{b:fx U}
  (ha:fq (restrict σ.aw ks) σ.ah x=some (ps,b)) (hp:∀p∈ps,p) (hx:RD E w F kv fp (ay σ) x v):Rp E w (FA σ F fp) false (.sl b.τ b.xs) v []:=by
 unfold fq at ha
 split at ha
 ·cases ha
  exact Rp.bx (aA hx rfl) (fun b hb=> .inl hb)
 ·cases ha
  exact Rp.bx (aA hx rfl).1 (fun b hb=> .inl hb)
 ·rename_i k p
  split at ha
  ·rename_i y d he
   cases hc:bw (restrict σ.aw ks) σ.ah k p<;>simp only[hc,cond_false,cond_true] at ha
   ·cases ha
   ·have hn:=aA hx (oW hc he)
    obtain⟨v',h1,h2⟩:=(tu h (cQ he)).B4 ha hp
    have:v=v':=hn.unique h1
    subst this
    exact h2.bx (DO (cQ he))
  ·cases ha
 ·rename_i k wd lo hi
  split at ha
  ·rename_i y d he
   cases hw:Nat.beq wd (U.wd y.τ)<;>simp only[hw,cond_false,cond_true] at ha
   ·cases ha
   ·cases ha
    have je:=eI hw
    subst je
    obtain⟨h1,h2⟩:=aA hx rfl
    subst h1
    exact((tu h (cQ he)).sub h2 (hp _ (by simp))).bx (DO (cQ he))
  ·cases ha
 ·cases ha
theorem Jp{n:Nat}{P:Nat->Value->Prop}(h:∀j,j<n->∃u,P j u):∃us:List Value,us.length=n/\∀(j:Nat)(u:Value),us[j]? =some u->P j u:=by
 induction n with
 |zero=>exact⟨[],rfl,fun j u hu=>by simp at hu⟩
 |succ n ih=>
  obtain⟨us,h1,h2⟩:=ih (fun j hj=>h j (by omega))
  obtain⟨u,hu⟩:=h n (by omega)
  refine⟨us++[u],by simp[h1],fun j v hv=> ?_⟩
  by_cases hj:j<n
  ·rw[j7 (by omega)] at hv;exact h2 j v hv
  ·rw[kT (by omega)] at hv
   have:j-us.length=0:=by
    rcases Nat.eq_zero_or_pos (j-us.length) with h|h
    ·exact h
    ·rw[fb (by simp;omega)] at hv;cases hv
   rw[this] at hv
   simp only[ja,bH] at hv
   have Bh:j=n:=by omega
   rw[Bh,<-hv];exact hu
theorem xz{t:TypeId}{g:Bool}(h:E.isAgg t=some g):∃d,E.P.underlying t=some d/\d.isRow=g:=by
 unfold Env.isAgg at h
 split at h
 ·rename_i hu;cases h;exact⟨_,hu,rfl⟩
 ·rename_i hu;cases h;exact⟨_,hu,rfl⟩
 ·rename_i d h1 h2 hu
  cases h
  refine⟨d,hu,?_⟩
  cases d<;>first|rfl|exact(h1 _ rfl).elim|exact(h2 _ _ rfl).elim
 ·cases h
theorem xg{t:TypeId}{g:Bool}{n b off:Nat}{us:List Value}(hs:E.size t=some n)(hg:E.isAgg t=some g)(sh:(g||Nat.beq n 1)=true)(hl:us.length=n)
  (hr:w.rangeAt b off us):∃v,(Instr.loadAt t (.pointer (some ⟨b,off,none⟩))).run E.P w=.ok v w/\(if g then v=.agg us.toArray else us=[v]):=by
 obtain⟨d,hu,hd⟩:=xz hg
 cases g with
 |true=>exact⟨_,run_loadAt_mid w b off t us d hr hu hd (by simpa[hl,Env.size] using hs),by simp⟩
 |false=>
  simp only[sA] at sh
  have hn:=eI sh
  subst hn
  obtain⟨u,rfl⟩:∃u,us=[u]:=by
   match us,hl with
   |[u],_=>exact⟨u,rfl⟩
  have hc:=hr 0 u rfl
  simp only[qh] at hc
  refine⟨u,?_,by simp⟩
  have v3:(Go.isAgg t).run E.P w=.ok false w:=by
   unfold Go.isAgg
   rw[Sem.run_bind,run_underlying hu w]
   cases d<;>simp_all
  simp[Instr.loadAt,Instr.sureAddr,loadVar,v3,hc]
theorem wx{bad:Key->Bool}{xs:List (AC U)}{vs:List Value}(hl:xs.length=vs.length)(h:∀(i:Nat)(x:AC U)(v:Value),xs[i]? =some x->vs[i]? =some v->RD E w F kv fp bad x v):dQ E w F kv fp bad xs vs:=⟨hl,h⟩
theorem xr{k:Key}{p:Path}{i wd:Nat}:∀{cs:List U.C}{j:Nat},(bN k p i wd cs j).length=cs.length
 |[],j=>rfl
 | .lit v::r,j=>by simp[bN,xr]
 | .sl _ _::r,j=>by simp[bN,xr]
theorem xt{k:Key}{p:Path}{i wd:Nat}:∀{cs:List U.C}{j n:Nat}{x:AC U},(bN k p i wd cs j)[n]? =some x->
  ∃c,cs[n]? =some c/\((∃v,c=.lit v/\x=.c (.lit v))\/(∃τ xs,c=.sl τ xs/\x=.ref k (p++[(i,wd,j+n)])))
 |[],j,n,x,h=>by simp[bN] at h
 | .lit v::r,j,n,x,h=>by
  cases n with
  |zero=>simp only[bN,ja,bH] at h;exact⟨.lit v,rfl,.inl ⟨v,rfl,h.symm⟩⟩
  |succ n=>
   obtain⟨c,h1,h2⟩:=xt (by simpa[bN] using h)
   exact⟨c,by simpa using h1,by rwa[show j+(n+1)=j+1+n by omega]⟩
 | .sl τ xs::r,j,n,x,h=>by
  cases n with
  |zero=>simp only[bN,ja,bH] at h;exact⟨.sl τ xs,rfl,.inr ⟨τ,xs,rfl,h.symm⟩⟩
  |succ n=>
   obtain⟨c,h1,h2⟩:=xt (by simpa[bN] using h)
   exact⟨c,by simpa using h1,by rwa[show j+(n+1)=j+1+n by omega]⟩
theorem IK(h:aE E pm F kv fp σ a w){o:Oper}{t:TypeId}{x:Operand}{sx:SV U}{y:AC U}{n:Nat}{g:Bool}{ks:List Key}{r:az U}(ho:o.op=.load t x)
  (hx:RS E w F kv fp (ay σ) sx (a.eval x)) (hc:i_ sx=some y) (hs:E.size t=some n) (hg:E.isAgg t=some g)
  (hr:loadAt (restrict σ.aw ks) σ.ah g n y=some r) (hp:∀p∈r.pre,p):∃sv ps,r=⟨some sv,[],[],[],ps⟩/\aB E F kv fp (ay σ) a w o sv:=by
 have hx:=du hx hc
 have fin:∀(cs:List (AC U))(us:List Value)(b off:Nat),a.eval x=.pointer (some ⟨b,off,none⟩)->(g||Nat.beq n 1)=true->us.length=n->w.rangeAt b off us->dQ E w F kv fp (ay σ) cs us->
   aB E F kv fp (ay σ) a w o (.v ⟨g,cs⟩):=by
  intro cs us b off hv sh hl eF mr
  obtain⟨v,h1,h2⟩:=xg hs hg sh hl eF
  refine⟨v,?_,us,mr,h2⟩
  unfold execOp;simp only[ho,hv];exact b8 h1
 unfold loadAt at hr
 cases sh:(g||Nat.beq n 1)<;>simp only[sh,cond_false,cond_true] at hr
 ·cases hr
 split at hr
 ·rename_i cs
  cases hb:Nat.ble n cs.length<;>simp only[hb,cond_false,cond_true] at hr
  ·cases hr
  ·cases hr
   refine⟨_,_,rfl,?_⟩
   have hb:=qj hb
   obtain⟨b,off,h1,h2,h3⟩:=aA hx rfl
   obtain⟨us,h4,h5⟩:=Jp (n:=n) (P:=fun j u=>w.cell? ⟨b,off+j,none⟩=some u/\∀c,cs[j]? =some c->Rp E w F false c u []) (fun j hj=>by
    obtain⟨u,h4,h5⟩:=h3 j cs[j] (by rw[cF])
    exact⟨u,h4,fun c hc=>by rw[cF (by omega)] at hc;cases hc;exact h5⟩)
   refine fin _ us b off h1 sh h4 (fun j u hu=>(h5 j u hu).1) ⟨by simp[h4];omega,fun j y u hy hu=> ?_⟩
   rw[eW] at hy
   cases vV:(cs.take n)[j]? with
   |none=>rw[vV] at hy;cases hy
   |some c=>
    rw[vV] at hy
    cases hy
    have Lc:cs[j]? =some c:=by
     rw[fg] at vV
     split at vV
     ·exact vV
     ·cases vV
    have:=(h5 j u hu).2 c Lc
    exact⟨this.bn,.inr this⟩
 ·rename_i k off
  split at hr
  ·rename_i cs he
   cases hb:Nat.ble (off+n) cs.length<;>simp only[hb,cond_false,cond_true] at hr
   ·cases hr
   ·cases hr
    refine⟨_,_,rfl,?_⟩
    have hb:=qj hb
    obtain⟨b,h1,h2⟩:=aA hx rfl
    obtain⟨b',cur,e,h3,h4,h5,h6⟩:=h.aJ k _ (cQ he)
    rw[h1] at h3
    cases h3
    refine fin _ ((cur.toList.drop off).take n) b off h2 sh (by have:=h6.1;simp at this⊢;omega) (fun j u hu=> ?_) ⟨by have:=h6.1;simp at this⊢;omega,fun j y u hy hu=> ?_⟩
    ·rw[fg] at hu
     split at hu
     ·rw[nH] at hu
      rw[cell_of_row w b _ cur e (0,0) h4]
      simpa using hu
     ·cases hu
    ·rw[fg] at hy hu
     split at hy
     ·rename_i bU
      rw[if_pos bU] at hu
      rw[nH] at hy hu
      exact h6.2 _ y u hy hu
     ·cases hy
  ·cases hr
 ·rename_i k p i wd off
  split at hr
  ·rename_i z d he
   cases ck:bw (restrict σ.aw ks) σ.ah k p<;>simp only[ck,cond_false,cond_true] at hr
   ·cases hr
   ·split at hr
    ·rename_i ps b hw
     cases hb:(Nat.ble (off+n) (U.wd b.τ)&&Nat.beq wd (U.wd b.τ))<;>simp only[hb,cond_false,cond_true] at hr
     ·cases hr
     ·simp only[c9] at hb
      have je:=eI hb.2
      have hle:=qj hb.1
      subst je
      cases hr
      refine⟨_,_,rfl,?_⟩
      obtain⟨bb,oo,nn,cc,h1,h2⟩:=aA hx (oW ck he)
      have r_:∀q∈ps,q:=fun q hq=>hp q (by simp[az.aF,hq])
      have hi:i<b.xs.length:=hp _ (by simp[az.aF])
      obtain⟨v',h3,h4⟩:=(tu h (cQ he)).B4 hw r_
      have vt:=h1.unique h3
      rw[<-vt] at h4 h3
      rcases h4.inv with⟨h0,_⟩|⟨b2,o2,c2,vs,h5,hF,hc,hv,AR⟩
      ·rw[h0] at hi;simp at hi
      ·simp only[Value.slice.injEq,bH,Addr.mk.injEq,and_true] at h5
       obtain⟨⟨rfl,rfl⟩,rfl,rfl⟩:=h5
       have jt:=ba (d:=U.bj b.τ) hi
       have gf:∀j,j<U.wd b.τ->w.cell? ⟨bb,oo+(i*U.wd b.τ+j),none⟩=some (vs (i*U.wd b.τ+j)):=fun j hj=>by
        refine hv _ (bm jt (c:=(U.enc b.τ (b.xs.getD i (U.bj b.τ)))[j]'(by rw[U.aK];exact hj)) ?_)
        rw[cF]
       refine fin _ ((List.range n).map fun j=>vs (i*U.wd b.τ+(off+j))) bb (oo+(i*U.wd b.τ+off)) h2 sh (by simp) (fun j u hu=> ?_) ⟨?_,fun j y u hy hu=> ?_⟩
       ·rw[eW] at hu
        by_cases hj:j<n
        ·rw[sB hj] at hu
         simp only[nG,bH] at hu
         rw[<-hu,<-gf (off+j) (by omega)]
         congr 2;omega
        ·rw[fb (by simp;omega)] at hu;cases hu
       ·rw[xr];simp[U.aK];omega
       ·obtain⟨c,nV,ud⟩:=xt hy
        have hj:j<n:=by
         rw[fg] at nV
         split at nV
         ·assumption
         ·cases nV
        have Lg:(U.enc b.τ (b.xs.getD i (U.bj b.τ)))[off+j]? =some c:=by
         rw[fg,if_pos hj,nH] at nV;exact nV
        have gG:u=vs (i*U.wd b.τ+(off+j)):=by
         rw[eW,sB hj] at hu
         simpa using hu.symm
        have cR:=AR i _ (off+j) c jt Lg
        rw[<-gG] at cR
        rcases ud with⟨v,rfl,rfl⟩|⟨τ,xs,rfl,rfl⟩
        ·refine⟨cR.bn,.inr ?_⟩
         generalize hm:false=m at cR
         generalize Ld:(Cell.lit v:U.C)=c at cR
         cases cR with
         |lit m v' vt=>cases Ld;exact .lit _ _ vt
         |nil=>cases Ld
         |shr=>cases Ld
        ·refine⟨cR.bn,.inr ?_⟩
         simp only[RA]
         refine h1.append ⟨bb,oo,_,_,u,rfl,hF,?_,rfl⟩
         rw[gG,<-gf (off+j) (by omega)]
    ·cases hr
  ·cases hr
 ·cases hr
end AM
