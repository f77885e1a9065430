/- THE ABSTRACT MACHINE: what is taken over for good. -/
import Derived.Test.YtlachfpabecaeaaQAmMem
namespace AM
set_option linter.unusedVariables false
open Go
variable{U:dh}{E:Env U}{pm:Pm}
variable{F F':Nat->Prop}{kv:Key->Value}{fp:Key->List Nat}{σ:aa U}{a:Act}{w w':World}{bad:Key->Bool}
theorem ic{l:List Key}:distinct l=true↔l.Nodup:=by
 induction l with
 |nil=>simp[distinct]
 |cons k l ih=>
  simp only[distinct,dR,k_,fU,ih]
  rw[<-nq,gr]
theorem aW.vN{dead:Nat->Bool}{x:eT U}{v:Value}{l:List Nat}(h:aW E w F dead x v l){wd hi:Nat}(hh:hi<=x.xs.length)(vC:∀i,i<hi->dead i=false):
  ∃l',ba E w F true ⟨x.τ,x.xs.take hi⟩ (fM wd 0 hi v) l'/\l'.Sublist l:=by
 obtain⟨τ,xs⟩:=x
 simp only at hh
 rcases h with⟨h1,⟨ad,h2⟩,h3⟩|⟨b,cap,cur,vs,bT,h1,h2,h3,h4,h5,h6,h7,h8,h9⟩
 ·simp only at h1;subst h1 h2 h3
  simp only[vu] at hh
  have:hi=0:=by omega
  subst this
  exact⟨[],.inl ⟨rfl,⟨ad,by simp[fM]⟩,rfl⟩,xj _⟩
 ·simp only at h1 h2 h3 h5 h6 h7 h9
  subst h1 h9
  have hlen:(xs.take hi).length=hi:=by simp;omega
  have hle:hi*U.wd τ<=xs.length*U.wd τ:=kf _ hh
  refine⟨b::(List.range (hi*U.wd τ)).flatMap bT,.inr ⟨b,cap,cur,vs,bT,?_,h2,by simp only[hlen];omega,h4,h5,fun i fP=>(h6 i (by simp only[hlen] at fP;omega)).1,fun i y j c hx hj=> ?_,by simp only[hlen]⟩,?_⟩
  ·simp only[hlen,fM,Nat.sub_zero,Nat.zero_mul,Value.slice.injEq,and_true]
   split<;>simp[Addr.add]
  ·simp only at hx
   rw[eP] at hx
   split at hx
   ·rename_i bZ;exact h7 i y j c (vC i bZ) hx hj
   ·cases hx
  ·refine List.Sublist.cons_cons _ ?_
   have:List.range (xs.length*U.wd τ)=List.range (hi*U.wd τ)++(List.range (xs.length*U.wd τ-hi*U.wd τ)).map (·+hi*U.wd τ):=by
    have:=List.range_add (n:=hi*U.wd τ) (m:=xs.length*U.wd τ-hi*U.wd τ)
    rw[show hi*U.wd τ+(xs.length*U.wd τ-hi*U.wd τ)=xs.length*U.wd τ by omega] at this
    rw[this]
    congr 1
    refine th fun a _=> ?_
    omega
   rw[this,BH]
   exact GS _ _
def FK(F:Nat->Prop)(fp:Key->List Nat)(ks:List Key)(b:Nat):Prop:=F b\/∃k∈ks,b∈fp k
theorem Hm(h:aC E pm F kv fp σ a w){rs:List Key}{want:Option U.Ty}{x:AC U}{v:Value}{ps:List Prop}{c:U.C}{ks:List Key}{d:Bool}
  (ht:hX (restrict σ.aq rs) want x=some (ps,c,ks,d)) (hp:∀p∈ps,p) (hx:RD E w F kv fp (av σ) x v):
  ks.Nodup/\(∀k∈ks,(σ.aq k).isSome=true)/\
  (d=true->∃l,Rp E w F true c v l/\l.Nodup/\∀b∈l,∃k∈ks,b∈fp k)/\
  Rp E w (FK F fp ks) false c v []:=by
 unfold hX at ht
 split at ht
 ·cases ht
  have:=ze hx
  subst this
  have ho:bI v:=(ax hx rfl:Rp E w F false _ _ _).mc
  exact⟨by simp,by simp,fun _=>⟨[],.lit _ _ ho,by simp,by simp⟩,.lit _ _ ho⟩
 ·cases ht
  have h1:Rp E w F false _ _ _:=ax hx rfl
  exact⟨by simp,by simp,by simp,h1.bG (fun b hb=> .inl hb)⟩
 ·split at ht
  ·cases ht
   obtain⟨ad,h1⟩:=ax hx rfl
   subst h1
   exact⟨by simp,by simp,fun _=>⟨[],.nil _ _ _ _ (fun _=>rfl),by simp,by simp⟩,.nil _ _ _ _ (by simp)⟩
  ·cases ht
 ·rename_i k
  split at ht
  ·rename_i x d' he
   cases ht
   have bf:=cJ he
   have h1:v=kv k:=ax hx rfl
   subst h1
   have h2:=h.aJ k _ bf
   refine⟨by simp,by simp[bf],fun hd=> ?_,h2.di (fun b hb=> .inl hb) (fun b hb=> .inr ⟨k,by simp,hb⟩)⟩
   subst hd
   exact⟨fp k,h2.sa,h.nodup k _ bf,fun b hb=>⟨k,by simp,hb⟩⟩
  ·rename_i x dead he
   cases ht
   have bf:=cJ he
   have h1:v=kv k:=ax hx rfl
   subst h1
   have h2:ba E w F true x (kv k) (fp k):=aW.own (h.aJ k _ bf) (hp _ (by simp))
   exact⟨by simp,by simp[bf],fun _=>⟨fp k,h2.sa,h.nodup k _ bf,fun b hb=>⟨k,by simp,hb⟩⟩,h2.di (fun b hb=> .inl hb) (fun b hb=> .inr ⟨k,by simp,hb⟩)⟩
  ·cases ht
 ·rename_i k wd hi
  split at ht
  ·rename_i x d' he
   cases ht
   have bf:=cJ he
   obtain⟨h1,_⟩:=ax hx rfl
   subst h1
   have h2:ba E w F d x (kv k) (fp k):=h.aJ k _ bf
   obtain⟨l,h3,h4⟩:=h2.take (wd:=wd) (hi:=hi) (hp _ (by simp))
   refine⟨by simp,by simp[bf],fun hd=> ?_,h3.di (fun b hb=> .inl hb) (fun b hb=> .inr ⟨k,by simp,h4.subset hb⟩)⟩
   subst hd
   exact⟨l,h3.sa,h4.nodup (h.nodup k _ bf),fun b hb=>⟨k,by simp,h4.subset hb⟩⟩
  ·rename_i x dead he
   cases ht
   have bf:=cJ he
   obtain⟨h1,_⟩:=ax hx rfl
   subst h1
   have h2:aW E w F dead x (kv k) (fp k):=h.aJ k _ bf
   obtain⟨l,h3,h4⟩:=h2.vN (wd:=wd) (hi:=hi) (hp _ (by simp)) (hp _ (by simp))
   exact⟨by simp,by simp[bf],fun _=>⟨l,h3.sa,h4.nodup (h.nodup k _ bf),fun b hb=>⟨k,by simp,h4.subset hb⟩⟩,h3.di (fun b hb=> .inl hb) (fun b hb=> .inr ⟨k,by simp,h4.subset hb⟩)⟩
  ·cases ht
 ·cases ht
theorem nY{ks ks':List Key}(h:∀k∈ks,k∈ks'){b:Nat}:FK F fp ks b->FK F fp ks' b:=
 fun hb=>hb.imp id (fun⟨k,hk,hb⟩=>⟨k,h k hk,hb⟩)
theorem wv(h:aC E pm F kv fp σ a w){ks ks':List Key}(hn:(ks++ks').Nodup)(h1:∀k∈ks,(σ.aq k).isSome=true)(h2:∀k∈ks',(σ.aq k).isSome=true){l l':List Nat}
  (hl:∀b∈l,∃k∈ks,b∈fp k) (p5:∀b∈l',∃k∈ks',b∈fp k) (PD:l.Nodup) (Kh:l'.Nodup):(l++l').Nodup:=by
 rw[fW] at hn⊢
 refine⟨PD,Kh,fun b hb b' aj he=> ?_⟩
 subst he
 obtain⟨k,hk,cq⟩:=hl b hb
 obtain⟨k',aG,Aq⟩:=p5 b aj
 obtain⟨e,he⟩:=ef.1 (h1 k hk)
 obtain⟨e',bf⟩:=ef.1 (h2 k' aG)
 exact h.apart k k' e e' b (hn.2.2 k hk k' aG) he bf cq Aq
theorem qy(h:aC E pm F kv fp σ a w){rs:List Key}:∀{xs:List (AC U)}{want:List (Option U.Ty)}{vs:List Value}{ps:List Prop}{cs:List U.C}{ks:List Key}{d:Bool},
  bh (restrict σ.aq rs) want xs=some (ps,cs,ks,d)->(∀p∈ps,p)->dC E w F kv fp (av σ) xs vs->ks.Nodup->
  cs.length=xs.length/\(∀k∈ks,(σ.aq k).isSome=true)/\
  (d=true->∃fl:List (List Nat),fl.length=cs.length/\(∀(i:Nat)(c:U.C),cs[i]? =some c->Rp E w F true c (vs.getD i undef) (fl.getD i []))/\fl.flatten.Nodup/\∀b∈fl.flatten,∃k∈ks,b∈fp k)/\
  (∀(i:Nat)(c:U.C),cs[i]? =some c->Rp E w (FK F fp ks) false c (vs.getD i undef) []):=by
 intro xs
 induction xs with
 |nil=>
  intro want vs ps cs ks d ht hp hx hn
  simp only[bh,bM,eX] at ht
  obtain⟨rfl,rfl,rfl,rfl⟩:=ht
  exact⟨rfl,by simp,fun _=>⟨[],by simp,fun i c hc=>by simp at hc,by simp,by simp⟩,fun i c hc=>by simp at hc⟩
 |cons x xs ih=>
  intro want vs ps cs ks d ht hp hx hn
  simp only[bh] at ht
  split at ht
  ·rename_i vx c1 Gj d1 zf QA Gi d2 h1 h2
   cases ht
   cases vs with
   |nil=>have:=hx.1;simp at this
   |cons v vs=>
    have BN:RD E w F kv fp (av σ) x v:=hx.2 0 x v rfl rfl
    have JV:dC E w F kv fp (av σ) xs vs:=⟨by have:=hx.1;simpa using this,fun i y u hy hu=>hx.2 (i+1) y u (by simpa using hy) (by simpa using hu)⟩
    have iT:=hn
    rw[fW] at iT
    obtain⟨_,g2,g3,g4⟩:=Hm h h1 (fun p cT=>hp p (by simp[cT])) BN
    obtain⟨i1,i2,i3,i4⟩:=ih h2 (fun p cT=>hp p (by simp[cT])) JV iT.2.1
    refine⟨by simp[i1],fun k hk=> ?_,fun hd=> ?_,fun i c hc=> ?_⟩
    ·rcases cZ.1 hk with hk|hk
     ·exact g2 k hk
     ·exact i2 k hk
    ·simp only[dR] at hd
     obtain⟨l,rI,nb,sO⟩:=g3 hd.1
     obtain⟨fl,f1,f2,f3,f4⟩:=i3 hd.2
     refine⟨l::fl,by simp[f1],fun i c hc=> ?_,?_,fun b hb=> ?_⟩
     ·cases i with
      |zero=>simp only[iB,bM] at hc;subst hc;exact rI
      |succ i=>exact f2 i c (by simpa using hc)
     ·rw[qq]
      exact wv h hn g2 i2 sO f4 nb f3
     ·rw[qq,cZ] at hb
      rcases hb with hb|hb
      ·obtain⟨k,hk,hb⟩:=sO b hb;exact⟨k,by simp[hk],hb⟩
      ·obtain⟨k,hk,hb⟩:=f4 b hb;exact⟨k,by simp[hk],hb⟩
    ·cases i with
     |zero=>simp only[iB,bM] at hc;subst hc;exact g4.bG (fun b hb=>nY (fun k hk=>by simp[hk]) hb)
     |succ i=>exact(i4 i c (by simpa using hc)).bG (fun b hb=>nY (fun k hk=>by simp[hk]) hb)
  ·cases ht
theorem aR.single{deep:Bool}{τ:U.Ty}{y:U.T τ}{cs:List U.C}{vs:List Value}{fl:List (List Nat)}(hd:U.dec τ cs=some y)(hl:vs.length=cs.length)(p6:fl.length=cs.length)
  (h:∀(i:Nat)(c:U.C),cs[i]? =some c->Rp E w F deep c (vs.getD i undef) (fl.getD i [])):aR E w F deep τ [y] vs fl:=by
 have he:=U.dB τ cs y hd
 have hw:cs.length=U.wd τ:=by rw[<-he,U.aM]
 refine⟨by simp[hl,hw],by simp[p6,hw],fun i x j c hx hj=> ?_⟩
 cases i with
 |zero=>
  simp only[iB,bM] at hx
  subst hx
  rw[he] at hj
  simp only[Nat.zero_mul,ke]
  exact h j c hj
 |succ i=>simp at hx
theorem HN(h:aC E pm F kv fp σ a w){rs:List Key}{τ:U.Ty}{want:List (Option U.Ty)}:∀{xs:List (SV U)}{us:List Value}{ps:List Prop}{rows:List (U.T τ)}{ks:List Key}{d:Bool},
  rowsOf τ (restrict σ.aq rs) want xs=some (ps,rows,ks,d)->(∀p∈ps,p)->xs.length=us.length->(∀(i:Nat)(x:SV U)(u:Value),xs[i]? =some x->us[i]? =some u->RS E w F kv fp (av σ) x u)->ks.Nodup->
  rows.length=xs.length/\(∀u∈us,u.cells.size=U.wd τ)/\(∀k∈ks,(σ.aq k).isSome=true)/\
  (d=true->∃fl,aR E w F true τ rows (us.flatMap fun u=>u.cells.toList) fl/\fl.flatten.Nodup/\∀b∈fl.flatten,∃k∈ks,b∈fp k)/\
  ∃fl,aR E w (FK F fp ks) false τ rows (us.flatMap fun u=>u.cells.toList) fl/\fl.flatten=[]:=by
 intro xs
 induction xs with
 |nil=>
  intro us ps rows ks d ht hp hl hx hn
  cases us with
  |cons u us=>simp at hl
  |nil=>
   simp only[rowsOf,bM,eX] at ht
   obtain⟨rfl,rfl,rfl,rfl⟩:=ht
   exact⟨rfl,by simp,by simp,fun _=>⟨[],aR.nil,by simp,by simp⟩,[],aR.nil,rfl⟩
 |cons x xs ih=>
  intro us ps rows ks d ht hp hl hx hn
  cases us with
  |nil=>simp at hl
  |cons u us=>
   cases x with
   |iV l=>simp[rowsOf] at ht
   |fn p=>simp[rowsOf] at ht
   |nH g l=>simp[rowsOf] at ht
   |v x=>
    simp only[rowsOf] at ht
    split at ht
    ·rename_i vx GJ Gj d1 zf On Gi d2 h1 h2
     split at ht
     ·rename_i y hy
      cases ht
      obtain⟨r1,r2⟩:=sj (hx 0 (.v x) u rfl rfl)
      have iT:=hn
      rw[fW] at iT
      obtain⟨t1,t2,t3,t4⟩:=qy h h1 (fun p cT=>hp p (by simp[cT])) r1 iT.1
      obtain⟨i1,i2,i3,i4,i5⟩:=ih h2 (fun p cT=>hp p (by simp[cT])) (by simpa using hl) (fun i z v hz hv=>hx (i+1) z v (by simpa using hz) (by simpa using hv)) iT.2.1
      have he:=U.dB τ GJ y hy
      have hw:GJ.length=U.wd τ:=by rw[<-he,U.aM]
      have cp:u.cells.toList.length=GJ.length:=by simp[r2,t1]
      refine⟨by simp[i1],fun v hv=> ?_,fun k hk=> ?_,fun hd=> ?_,?_⟩
      ·rcases dQ.1 hv with rfl|hv
       ·rw[r2,<-t1,hw]
       ·exact i2 v hv
      ·rcases cZ.1 hk with hk|hk
       ·exact t2 k hk
       ·exact i3 k hk
      ·simp only[dR] at hd
       obtain⟨Qu,f1,f2,f3,f4⟩:=t3 hd.1
       obtain⟨Lg,g1,g2,g3⟩:=i4 hd.2
       refine⟨Qu++Lg,?_,?_,fun b hb=> ?_⟩
       ·rw[ln]
        exact aR.append (xs:=[y]) (aR.single hy cp f1 f2) g1
       ·rw[pq]
        exact wv h hn t2 i3 f4 g3 f3 g2
       ·rw[pq,cZ] at hb
        rcases hb with hb|hb
        ·obtain⟨k,hk,hb⟩:=f4 b hb;exact⟨k,by simp[hk],hb⟩
        ·obtain⟨k,hk,hb⟩:=g3 b hb;exact⟨k,by simp[hk],hb⟩
      ·obtain⟨Lg,g1,g2⟩:=i5
       refine⟨List.replicate GJ.length []++Lg,?_,by rw[pq,kt,g2];rfl⟩
       rw[ln]
       refine aR.append (xs:=[y]) (aR.single hy cp (by simp) (fun i c hc=> ?_)) (g1.bD (fun b hb=>⟨nY (fun k hk=>by simp[hk]) hb,rfl⟩) (by simp[g2]))
       rw[nT]
       exact(t4 i c hc).bG (fun b hb=>nY (fun k hk=>by simp[hk]) hb)
     ·cases ht
    ·cases ht
end AM
