/- THE ABSTRACT MACHINE: what is taken over for good. -/
import Derived.Test.YtlachfpabecaeaaQAmMem
namespace AM
set_option linter.unusedVariables false
open Go
variable{U:dw}{E:Env U}{pm:Pm}
variable{F F':Nat->Prop}{kv:Key->Value}{fp:Key->List Nat}{σ:aa U}{a:Act}{w w':World}{bad:Key->Bool}
theorem iL{l:List Key}:distinct l=true↔l.Nodup:=by
 induction l with
 |nil=>simp[distinct]
 |cons k l ih=>
  simp only[distinct,c9,l6,gx,ih]
  rw[<-n7,gX]
theorem aU.wY{dead:Nat->Bool}{x:fx U}{v:Value}{l:List Nat}(h:aU E w F dead x v l){wd hi:Nat}(hh:hi<=x.xs.length)(wJ:∀i,i<hi->dead i=false):
  ∃l',aZ E w F true ⟨x.τ,x.xs.take hi⟩ (gq wd 0 hi v) l'/\l'.Sublist l:=by
 obtain⟨τ,xs⟩:=x
 simp only at hh
 rcases h with⟨h1,⟨ad,h2⟩,h3⟩|⟨b,cap,cur,vs,bM,h1,h2,h3,h4,h5,h6,h7,h8,h9⟩
 ·simp only at h1;subst h1 h2 h3
  simp only[j9] at hh
  have:hi=0:=by omega
  subst this
  exact⟨[],.inl ⟨rfl,⟨ad,by simp[gq]⟩,rfl⟩,yu _⟩
 ·simp only at h1 h2 h3 h5 h6 h7 h9
  subst h1 h9
  have hlen:(xs.take hi).length=hi:=by simp;omega
  have hle:hi*U.wd τ<=xs.length*U.wd τ:=kS _ hh
  refine⟨b::(List.range (hi*U.wd τ)).flatMap bM,.inr ⟨b,cap,cur,vs,bM,?_,h2,by simp only[hlen];omega,h4,h5,fun i gu=>(h6 i (by simp only[hlen] at gu;omega)).1,fun i y j c hx hj=> ?_,by simp only[hlen]⟩,?_⟩
  ·simp only[hlen,gq,Nat.sub_zero,Nat.zero_mul,Value.slice.injEq,and_true]
   split<;>simp[Addr.add]
  ·simp only at hx
   rw[fg] at hx
   split at hx
   ·rename_i bU;exact h7 i y j c (wJ i bU) hx hj
   ·cases hx
  ·refine List.Sublist.cons_cons _ ?_
   have:List.range (xs.length*U.wd τ)=List.range (hi*U.wd τ)++(List.range (xs.length*U.wd τ-hi*U.wd τ)).map (·+hi*U.wd τ):=by
    have:=List.range_add (n:=hi*U.wd τ) (m:=xs.length*U.wd τ-hi*U.wd τ)
    rw[show hi*U.wd τ+(xs.length*U.wd τ-hi*U.wd τ)=xs.length*U.wd τ by omega] at this
    rw[this]
    congr 1
    refine uE fun a _=> ?_
    omega
   rw[this,BY]
   exact Hi _ _
def FK(F:Nat->Prop)(fp:Key->List Nat)(ks:List Key)(b:Nat):Prop:=F b\/∃k∈ks,b∈fp k
theorem HN(h:aE E pm F kv fp σ a w){rs:List Key}{want:Option U.Ty}{x:AC U}{v:Value}{ps:List Prop}{c:U.C}{ks:List Key}{d:Bool}
  (ht:iE (restrict σ.aw rs) want x=some (ps,c,ks,d)) (hp:∀p∈ps,p) (hx:RD E w F kv fp (ay σ) x v):
  ks.Nodup/\(∀k∈ks,(σ.aw k).isSome=true)/\
  (d=true->∃l,Rp E w F true c v l/\l.Nodup/\∀b∈l,∃k∈ks,b∈fp k)/\
  Rp E w (FK F fp ks) false c v []:=by
 unfold iE at ht
 split at ht
 ·cases ht
  have:=Aq hx
  subst this
  have ho:bD v:=(aA hx rfl:Rp E w F false _ _ _).mU
  exact⟨by simp,by simp,fun _=>⟨[],.lit _ _ ho,by simp,by simp⟩,.lit _ _ ho⟩
 ·cases ht
  have h1:Rp E w F false _ _ _:=aA hx rfl
  exact⟨by simp,by simp,by simp,h1.bx (fun b hb=> .inl hb)⟩
 ·split at ht
  ·cases ht
   obtain⟨ad,h1⟩:=aA hx rfl
   subst h1
   exact⟨by simp,by simp,fun _=>⟨[],.nil _ _ _ _ (fun _=>rfl),by simp,by simp⟩,.nil _ _ _ _ (by simp)⟩
  ·cases ht
 ·rename_i k
  split at ht
  ·rename_i x d' he
   cases ht
   have a_:=cQ he
   have h1:v=kv k:=aA hx rfl
   subst h1
   have h2:=h.aJ k _ a_
   refine⟨by simp,by simp[a_],fun hd=> ?_,h2.dy (fun b hb=> .inl hb) (fun b hb=> .inr ⟨k,by simp,hb⟩)⟩
   subst hd
   exact⟨fp k,h2.tn,h.nodup k _ a_,fun b hb=>⟨k,by simp,hb⟩⟩
  ·rename_i x dead he
   cases ht
   have a_:=cQ he
   have h1:v=kv k:=aA hx rfl
   subst h1
   have h2:aZ E w F true x (kv k) (fp k):=aU.own (h.aJ k _ a_) (hp _ (by simp))
   exact⟨by simp,by simp[a_],fun _=>⟨fp k,h2.tn,h.nodup k _ a_,fun b hb=>⟨k,by simp,hb⟩⟩,h2.dy (fun b hb=> .inl hb) (fun b hb=> .inr ⟨k,by simp,hb⟩)⟩
  ·cases ht
 ·rename_i k wd hi
  split at ht
  ·rename_i x d' he
   cases ht
   have a_:=cQ he
   obtain⟨h1,_⟩:=aA hx rfl
   subst h1
   have h2:aZ E w F d x (kv k) (fp k):=h.aJ k _ a_
   obtain⟨l,h3,h4⟩:=h2.take (wd:=wd) (hi:=hi) (hp _ (by simp))
   refine⟨by simp,by simp[a_],fun hd=> ?_,h3.dy (fun b hb=> .inl hb) (fun b hb=> .inr ⟨k,by simp,h4.subset hb⟩)⟩
   subst hd
   exact⟨l,h3.tn,h4.nodup (h.nodup k _ a_),fun b hb=>⟨k,by simp,h4.subset hb⟩⟩
  ·rename_i x dead he
   cases ht
   have a_:=cQ he
   obtain⟨h1,_⟩:=aA hx rfl
   subst h1
   have h2:aU E w F dead x (kv k) (fp k):=h.aJ k _ a_
   obtain⟨l,h3,h4⟩:=h2.wY (wd:=wd) (hi:=hi) (hp _ (by simp)) (hp _ (by simp))
   exact⟨by simp,by simp[a_],fun _=>⟨l,h3.tn,h4.nodup (h.nodup k _ a_),fun b hb=>⟨k,by simp,h4.subset hb⟩⟩,h3.dy (fun b hb=> .inl hb) (fun b hb=> .inr ⟨k,by simp,h4.subset hb⟩)⟩
  ·cases ht
 ·cases ht
theorem o6{ks ks':List Key}(h:∀k∈ks,k∈ks'){b:Nat}:FK F fp ks b->FK F fp ks' b:=
 fun hb=>hb.imp id (fun⟨k,hk,hb⟩=>⟨k,h k hk,hb⟩)
theorem xy(h:aE E pm F kv fp σ a w){ks ks':List Key}(hn:(ks++ks').Nodup)(h1:∀k∈ks,(σ.aw k).isSome=true)(h2:∀k∈ks',(σ.aw k).isSome=true){l l':List Nat}
  (hl:∀b∈l,∃k∈ks,b∈fp k) (rb:∀b∈l',∃k∈ks',b∈fp k) (Oo:l.Nodup) (KF:l'.Nodup):(l++l').Nodup:=by
 rw[gz] at hn⊢
 refine⟨Oo,KF,fun b hb b' ap he=> ?_⟩
 subst he
 obtain⟨k,hk,cn⟩:=hl b hb
 obtain⟨k',aG,Bx⟩:=rb b ap
 obtain⟨e,he⟩:=eD.1 (h1 k hk)
 obtain⟨e',a_⟩:=eD.1 (h2 k' aG)
 exact h.apart k k' e e' b (hn.2.2 k hk k' aG) he a_ cn Bx
theorem rO(h:aE E pm F kv fp σ a w){rs:List Key}:∀{xs:List (AC U)}{want:List (Option U.Ty)}{vs:List Value}{ps:List Prop}{cs:List U.C}{ks:List Key}{d:Bool},
  bc (restrict σ.aw rs) want xs=some (ps,cs,ks,d)->(∀p∈ps,p)->dQ E w F kv fp (ay σ) xs vs->ks.Nodup->
  cs.length=xs.length/\(∀k∈ks,(σ.aw k).isSome=true)/\
  (d=true->∃fl:List (List Nat),fl.length=cs.length/\(∀(i:Nat)(c:U.C),cs[i]? =some c->Rp E w F true c (vs.getD i undef) (fl.getD i []))/\fl.flatten.Nodup/\∀b∈fl.flatten,∃k∈ks,b∈fp k)/\
  (∀(i:Nat)(c:U.C),cs[i]? =some c->Rp E w (FK F fp ks) false c (vs.getD i undef) []):=by
 intro xs
 induction xs with
 |nil=>
  intro want vs ps cs ks d ht hp hx hn
  simp only[bc,bH,fB] at ht
  obtain⟨rfl,rfl,rfl,rfl⟩:=ht
  exact⟨rfl,by simp,fun _=>⟨[],by simp,fun i c hc=>by simp at hc,by simp,by simp⟩,fun i c hc=>by simp at hc⟩
 |cons x xs ih=>
  intro want vs ps cs ks d ht hp hx hn
  simp only[bc] at ht
  split at ht
  ·rename_i wF c1 GM d1 Ar Pu GL d2 h1 h2
   cases ht
   cases vs with
   |nil=>have:=hx.1;simp at this
   |cons v vs=>
    have B6:RD E w F kv fp (ay σ) x v:=hx.2 0 x v rfl rfl
    have Ki:dQ E w F kv fp (ay σ) xs vs:=⟨by have:=hx.1;simpa using this,fun i y u hy hu=>hx.2 (i+1) y u (by simpa using hy) (by simpa using hu)⟩
    have ju:=hn
    rw[gz] at ju
    obtain⟨_,g2,g3,g4⟩:=HN h h1 (fun p dj=>hp p (by simp[dj])) B6
    obtain⟨i1,i2,i3,i4⟩:=ih h2 (fun p dj=>hp p (by simp[dj])) Ki ju.2.1
    refine⟨by simp[i1],fun k hk=> ?_,fun hd=> ?_,fun i c hc=> ?_⟩
    ·rcases cY.1 hk with hk|hk
     ·exact g2 k hk
     ·exact i2 k hk
    ·simp only[c9] at hd
     obtain⟨l,qf,nT,tY⟩:=g3 hd.1
     obtain⟨fl,f1,f2,f3,f4⟩:=i3 hd.2
     refine⟨l::fl,by simp[f1],fun i c hc=> ?_,?_,fun b hb=> ?_⟩
     ·cases i with
      |zero=>simp only[ja,bH] at hc;subst hc;exact qf
      |succ i=>exact f2 i c (by simpa using hc)
     ·rw[rJ]
      exact xy h hn g2 i2 tY f4 nT f3
     ·rw[rJ,cY] at hb
      rcases hb with hb|hb
      ·obtain⟨k,hk,hb⟩:=tY b hb;exact⟨k,by simp[hk],hb⟩
      ·obtain⟨k,hk,hb⟩:=f4 b hb;exact⟨k,by simp[hk],hb⟩
    ·cases i with
     |zero=>simp only[ja,bH] at hc;subst hc;exact g4.bx (fun b hb=>o6 (fun k hk=>by simp[hk]) hb)
     |succ i=>exact(i4 i c (by simpa using hc)).bx (fun b hb=>o6 (fun k hk=>by simp[hk]) hb)
  ·cases ht
theorem aO.single{deep:Bool}{τ:U.Ty}{y:U.T τ}{cs:List U.C}{vs:List Value}{fl:List (List Nat)}(hd:U.dec τ cs=some y)(hl:vs.length=cs.length)(rc:fl.length=cs.length)
  (h:∀(i:Nat)(c:U.C),cs[i]? =some c->Rp E w F deep c (vs.getD i undef) (fl.getD i [])):aO E w F deep τ [y] vs fl:=by
 have he:=U.dN τ cs y hd
 have hw:cs.length=U.wd τ:=by rw[<-he,U.aK]
 refine⟨by simp[hl,hw],by simp[rc,hw],fun i x j c hx hj=> ?_⟩
 cases i with
 |zero=>
  simp only[ja,bH] at hx
  subst hx
  rw[he] at hj
  simp only[Nat.zero_mul,kO]
  exact h j c hj
 |succ i=>simp at hx
theorem Ib(h:aE E pm F kv fp σ a w){rs:List Key}{τ:U.Ty}{want:List (Option U.Ty)}:∀{xs:List (SV U)}{us:List Value}{ps:List Prop}{rows:List (U.T τ)}{ks:List Key}{d:Bool},
  rowsOf τ (restrict σ.aw rs) want xs=some (ps,rows,ks,d)->(∀p∈ps,p)->xs.length=us.length->(∀(i:Nat)(x:SV U)(u:Value),xs[i]? =some x->us[i]? =some u->RS E w F kv fp (ay σ) x u)->ks.Nodup->
  rows.length=xs.length/\(∀u∈us,u.cells.size=U.wd τ)/\(∀k∈ks,(σ.aw k).isSome=true)/\
  (d=true->∃fl,aO E w F true τ rows (us.flatMap fun u=>u.cells.toList) fl/\fl.flatten.Nodup/\∀b∈fl.flatten,∃k∈ks,b∈fp k)/\
  ∃fl,aO E w (FK F fp ks) false τ rows (us.flatMap fun u=>u.cells.toList) fl/\fl.flatten=[]:=by
 intro xs
 induction xs with
 |nil=>
  intro us ps rows ks d ht hp hl hx hn
  cases us with
  |cons u us=>simp at hl
  |nil=>
   simp only[rowsOf,bH,fB] at ht
   obtain⟨rfl,rfl,rfl,rfl⟩:=ht
   exact⟨rfl,by simp,by simp,fun _=>⟨[],aO.nil,by simp,by simp⟩,[],aO.nil,rfl⟩
 |cons x xs ih=>
  intro us ps rows ks d ht hp hl hx hn
  cases us with
  |nil=>simp at hl
  |cons u us=>
   cases x with
   |jx l=>simp[rowsOf] at ht
   |fn p=>simp[rowsOf] at ht
   |ox g l=>simp[rowsOf] at ht
   |v x=>
    simp only[rowsOf] at ht
    split at ht
    ·rename_i wF G_ GM d1 Ar Nc GL d2 h1 h2
     split at ht
     ·rename_i y hy
      cases ht
      obtain⟨r1,r2⟩:=tz (hx 0 (.v x) u rfl rfl)
      have ju:=hn
      rw[gz] at ju
      obtain⟨t1,t2,t3,t4⟩:=rO h h1 (fun p dj=>hp p (by simp[dj])) r1 ju.1
      obtain⟨i1,i2,i3,i4,i5⟩:=ih h2 (fun p dj=>hp p (by simp[dj])) (by simpa using hl) (fun i z v hz hv=>hx (i+1) z v (by simpa using hz) (by simpa using hv)) ju.2.1
      have he:=U.dN τ G_ y hy
      have hw:G_.length=U.wd τ:=by rw[<-he,U.aK]
      have ck:u.cells.toList.length=G_.length:=by simp[r2,t1]
      refine⟨by simp[i1],fun v hv=> ?_,fun k hk=> ?_,fun hd=> ?_,?_⟩
      ·rcases dJ.1 hv with rfl|hv
       ·rw[r2,<-t1,hw]
       ·exact i2 v hv
      ·rcases cY.1 hk with hk|hk
       ·exact t2 k hk
       ·exact i3 k hk
      ·simp only[c9] at hd
       obtain⟨Po,f1,f2,f3,f4⟩:=t3 hd.1
       obtain⟨LF,g1,g2,g3⟩:=i4 hd.2
       refine⟨Po++LF,?_,?_,fun b hb=> ?_⟩
       ·rw[mf]
        exact aO.append (xs:=[y]) (aO.single hy ck f1 f2) g1
       ·rw[qb]
        exact xy h hn t2 i3 f4 g3 f3 g2
       ·rw[qb,cY] at hb
        rcases hb with hb|hb
        ·obtain⟨k,hk,hb⟩:=f4 b hb;exact⟨k,by simp[hk],hb⟩
        ·obtain⟨k,hk,hb⟩:=g3 b hb;exact⟨k,by simp[hk],hb⟩
      ·obtain⟨LF,g1,g2⟩:=i5
       refine⟨List.replicate G_.length []++LF,?_,by rw[qb,k_,g2];rfl⟩
       rw[mf]
       refine aO.append (xs:=[y]) (aO.single hy ck (by simp) (fun i c hc=> ?_)) (g1.bu (fun b hb=>⟨o6 (fun k hk=>by simp[hk]) hb,rfl⟩) (by simp[g2]))
       rw[oT]
       exact(t4 i c hc).bx (fun b hb=>o6 (fun k hk=>by simp[hk]) hb)
     ·cases ht
    ·cases ht
end AM
