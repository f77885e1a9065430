import Derived.Test.YtknfcngfhlpaeaaGreatDoorQAmMem
namespace AM
set_option linter.unusedVariables false
open Go
variable{U:kz}{E:Env U}{pm:Pm}
variable{F F':Nat->Prop}{kv:Key->Value}{fp:Key->List Nat}{σ:ak U}{a:Act}{w w':World}{bad:Key->Bool}
theorem tf{l:List Key}:distinct l=true↔l.Nodup:=by
 induction l with
 |nil=>simp[distinct]
 |cons k l ih=>
  simp only[distinct,cH,pc,sC,ih]
  rw[<-uO,q_]
theorem dK.Rc{dead:Nat->Bool}{x:cC U}{v:Value}{l:List Nat}(h:dK E w F dead x v l){wd hi:Nat}(hh:hi<=x.xs.length)(Q0:∀i,i<hi->dead i=false):
  ∃l',eo E w F true ⟨x.τ,x.xs.take hi⟩ (p9 wd 0 hi v) l'/\l'.Sublist l:=by
 obtain⟨τ,xs⟩:=x
 simp only at hh
 rcases h with⟨h1,⟨ad,h2⟩,h3⟩|⟨b,cap,cur,vs,gr,h1,h2,h3,h4,h5,h6,h7,h8,h9⟩
 ·simp only at h1;subst h1 h2 h3
  simp only[ig] at hh
  have:hi=0:=by omega
  subst this
  exact⟨[],.inl ⟨rfl,⟨ad,by simp[p9]⟩,rfl⟩,Tr _⟩
 ·simp only at h1 h2 h3 h5 h6 h7 h9
  subst h1 h9
  have hlen:(xs.take hi).length=hi:=by simp;omega
  have hle:hi*U.wd τ<=xs.length*U.wd τ:=ze _ hh
  refine⟨b::(List.range (hi*U.wd τ)).flatMap gr,.inr ⟨b,cap,cur,vs,gr,?_,h2,by simp only[hlen];omega,h4,h5,fun i pa=>(h6 i (by simp only[hlen] at pa;omega)).1,fun i y j c hx hj=> ?_,by simp only[hlen]⟩,?_⟩
  ·simp only[hlen,p9,Nat.sub_zero,Nat.zero_mul,Value.slice.injEq,and_true]
   split<;>simp[Addr.add]
  ·simp only at hx
   rw[oT] at hx
   split at hx
   ·rename_i fU;exact h7 i y j c (Q0 i fU) hx hj
   ·cases hx
  ·refine List.Sublist.cons_cons _ ?_
   have:List.range (xs.length*U.wd τ)=List.range (hi*U.wd τ)++(List.range (xs.length*U.wd τ-hi*U.wd τ)).map (·+hi*U.wd τ):=by
    have:=List.range_add (n:=hi*U.wd τ) (m:=xs.length*U.wd τ-hi*U.wd τ)
    rw[show hi*U.wd τ+(xs.length*U.wd τ-hi*U.wd τ)=xs.length*U.wd τ by omega] at this
    rw[this]
    congr 1
    refine LW fun a _=> ?_
    omega
   rw[this,Nj]
   exact zer _ _
def FK(F:Nat->Prop)(fp:Key->List Nat)(ks:List Key)(b:Nat):Prop:=F b\/∃k∈ks,b∈fp k
theorem ahu(h:cG E pm F kv fp σ a w){rs:List Key}{want:Option U.Ty}{x:AC U}{v:Value}{ps:List Prop}{c:U.C}{ks:List Key}{d:Bool}
  (ht:s6 (restrict σ.bH rs) want x=some (ps,c,ks,d)) (hp:∀p∈ps,p) (hx:RD E w F kv fp (bR σ) x v):
  ks.Nodup/\(∀k∈ks,(σ.bH k).isSome=true)/\
  (d=true->∃l,Rp E w F true c v l/\l.Nodup/\∀b∈l,∃k∈ks,b∈fp k)/\
  Rp E w (FK F fp ks) false c v []:=by
 unfold s6 at ht
 split at ht
 ·cases ht
  have:=W7 hx
  subst this
  have ho:fI v:=(ca hx rfl:Rp E w F false _ _ _).CZ
  exact⟨by simp,by simp,fun _=>⟨[],.lit _ _ ho,by simp,by simp⟩,.lit _ _ ho⟩
 ·cases ht
  have h1:Rp E w F false _ _ _:=ca hx rfl
  exact⟨by simp,by simp,by simp,h1.fq (fun b hb=> .inl hb)⟩
 ·split at ht
  ·cases ht
   obtain⟨ad,h1⟩:=ca hx rfl
   subst h1
   exact⟨by simp,by simp,fun _=>⟨[],.nil _ _ _ _ (fun _=>rfl),by simp,by simp⟩,.nil _ _ _ _ (by simp)⟩
  ·cases ht
 ·rename_i k
  split at ht
  ·rename_i x d' he
   cases ht
   have ew:=jx he
   have h1:v=kv k:=ca hx rfl
   subst h1
   have h2:=h.cW k _ ew
   refine⟨by simp,by simp[ew],fun hd=> ?_,h2.kB (fun b hb=> .inl hb) (fun b hb=> .inr ⟨k,by simp,hb⟩)⟩
   subst hd
   exact⟨fp k,h2.NJ,h.nodup k _ ew,fun b hb=>⟨k,by simp,hb⟩⟩
  ·rename_i x dead he
   cases ht
   have ew:=jx he
   have h1:v=kv k:=ca hx rfl
   subst h1
   have h2:eo E w F true x (kv k) (fp k):=dK.own (h.cW k _ ew) (hp _ (by simp))
   exact⟨by simp,by simp[ew],fun _=>⟨fp k,h2.NJ,h.nodup k _ ew,fun b hb=>⟨k,by simp,hb⟩⟩,h2.kB (fun b hb=> .inl hb) (fun b hb=> .inr ⟨k,by simp,hb⟩)⟩
  ·cases ht
 ·rename_i k wd hi
  split at ht
  ·rename_i x d' he
   cases ht
   have ew:=jx he
   obtain⟨h1,_⟩:=ca hx rfl
   subst h1
   have h2:eo E w F d x (kv k) (fp k):=h.cW k _ ew
   obtain⟨l,h3,h4⟩:=h2.take (wd:=wd) (hi:=hi) (hp _ (by simp))
   refine⟨by simp,by simp[ew],fun hd=> ?_,h3.kB (fun b hb=> .inl hb) (fun b hb=> .inr ⟨k,by simp,h4.subset hb⟩)⟩
   subst hd
   exact⟨l,h3.NJ,h4.nodup (h.nodup k _ ew),fun b hb=>⟨k,by simp,h4.subset hb⟩⟩
  ·rename_i x dead he
   cases ht
   have ew:=jx he
   obtain⟨h1,_⟩:=ca hx rfl
   subst h1
   have h2:dK E w F dead x (kv k) (fp k):=h.cW k _ ew
   obtain⟨l,h3,h4⟩:=h2.Rc (wd:=wd) (hi:=hi) (hp _ (by simp)) (hp _ (by simp))
   exact⟨by simp,by simp[ew],fun _=>⟨l,h3.NJ,h4.nodup (h.nodup k _ ew),fun b hb=>⟨k,by simp,h4.subset hb⟩⟩,h3.kB (fun b hb=> .inl hb) (fun b hb=> .inr ⟨k,by simp,h4.subset hb⟩)⟩
  ·cases ht
 ·cases ht
theorem FP{ks ks':List Key}(h:∀k∈ks,k∈ks'){b:Nat}:FK F fp ks b->FK F fp ks' b:=
 fun hb=>hb.imp id (fun⟨k,hk,hb⟩=>⟨k,h k hk,hb⟩)
theorem RQ(h:cG E pm F kv fp σ a w){ks ks':List Key}(hn:(ks++ks').Nodup)(h1:∀k∈ks,(σ.bH k).isSome=true)(h2:∀k∈ks',(σ.bH k).isSome=true){l l':List Nat}
  (hl:∀b∈l,∃k∈ks,b∈fp k) (Gf:∀b∈l',∃k∈ks',b∈fp k) (hnl:l.Nodup) (aj5:l'.Nodup):(l++l').Nodup:=by
 rw[p8] at hn⊢
 refine⟨hnl,aj5,fun b hb b' bg he=> ?_⟩
 subst he
 obtain⟨k,hk,ic⟩:=hl b hb
 obtain⟨k',cK,Yp⟩:=Gf b bg
 obtain⟨e,he⟩:=l6.1 (h1 k hk)
 obtain⟨e',ew⟩:=l6.1 (h2 k' cK)
 exact h.apart k k' e e' b (hn.2.2 k hk k' cK) he ew ic Yp
theorem JZ(h:cG E pm F kv fp σ a w){rs:List Key}:∀{xs:List (AC U)}{want:List (Option U.Ty)}{vs:List Value}{ps:List Prop}{cs:List U.C}{ks:List Key}{d:Bool},
  eE (restrict σ.bH rs) want xs=some (ps,cs,ks,d)->(∀p∈ps,p)->kU E w F kv fp (bR σ) xs vs->ks.Nodup->
  cs.length=xs.length/\(∀k∈ks,(σ.bH k).isSome=true)/\
  (d=true->∃fl:List (List Nat),fl.length=cs.length/\(∀(i:Nat)(c:U.C),cs[i]? =some c->Rp E w F true c (vs.getD i undef) (fl.getD i []))/\fl.flatten.Nodup/\∀b∈fl.flatten,∃k∈ks,b∈fp k)/\
  (∀(i:Nat)(c:U.C),cs[i]? =some c->Rp E w (FK F fp ks) false c (vs.getD i undef) []):=by
 intro xs
 induction xs with
 |nil=>
  intro want vs ps cs ks d ht hp hx hn
  simp only[eE,fM,nT] at ht
  obtain⟨rfl,rfl,rfl,rfl⟩:=ht
  exact⟨rfl,by simp,fun _=>⟨[],by simp,fun i c hc=>by simp at hc,by simp,by simp⟩,fun i c hc=>by simp at hc⟩
 |cons x xs ih=>
  intro want vs ps cs ks d ht hp hx hn
  simp only[eE] at ht
  split at ht
  ·rename_i QR c1 ks1 d1 W9 cs2 ks2 d2 h1 h2
   cases ht
   cases vs with
   |nil=>have:=hx.1;simp at this
   |cons v vs=>
    have Zf:RD E w F kv fp (bR σ) x v:=hx.2 0 x v rfl rfl
    have hx2:kU E w F kv fp (bR σ) xs vs:=⟨by have:=hx.1;simpa using this,fun i y u hy hu=>hx.2 (i+1) y u (by simpa using hy) (by simpa using hu)⟩
    have uS:=hn
    rw[p8] at uS
    obtain⟨_,g2,g3,g4⟩:=ahu h h1 (fun p j6=>hp p (by simp[j6])) Zf
    obtain⟨i1,i2,i3,i4⟩:=ih h2 (fun p j6=>hp p (by simp[j6])) hx2 uS.2.1
    refine⟨by simp[i1],fun k hk=> ?_,fun hd=> ?_,fun i c hc=> ?_⟩
    ·rcases jE.1 hk with hk|hk
     ·exact g2 k hk
     ·exact i2 k hk
    ·simp only[cH] at hd
     obtain⟨l,Ls,zv,MQ⟩:=g3 hd.1
     obtain⟨fl,f1,f2,f3,f4⟩:=i3 hd.2
     refine⟨l::fl,by simp[f1],fun i c hc=> ?_,?_,fun b hb=> ?_⟩
     ·cases i with
      |zero=>simp only[tJ,fM] at hc;subst hc;exact Ls
      |succ i=>exact f2 i c (by simpa using hc)
     ·rw[JD]
      exact RQ h hn g2 i2 MQ f4 zv f3
     ·rw[JD,jE] at hb
      rcases hb with hb|hb
      ·obtain⟨k,hk,hb⟩:=MQ b hb;exact⟨k,by simp[hk],hb⟩
      ·obtain⟨k,hk,hb⟩:=f4 b hb;exact⟨k,by simp[hk],hb⟩
    ·cases i with
     |zero=>simp only[tJ,fM] at hc;subst hc;exact g4.fq (fun b hb=>FP (fun k hk=>by simp[hk]) hb)
     |succ i=>exact(i4 i c (by simpa using hc)).fq (fun b hb=>FP (fun k hk=>by simp[hk]) hb)
  ·cases ht
theorem eg.single{deep:Bool}{τ:U.Ty}{y:U.T τ}{cs:List U.C}{vs:List Value}{fl:List (List Nat)}(hd:U.dec τ cs=some y)(hl:vs.length=cs.length)(An:fl.length=cs.length)
  (h:∀(i:Nat)(c:U.C),cs[i]? =some c->Rp E w F deep c (vs.getD i undef) (fl.getD i [])):eg E w F deep τ [y] vs fl:=by
 have he:=U.lK τ cs y hd
 have hw:cs.length=U.wd τ:=by rw[<-he,U.cY]
 refine⟨by simp[hl,hw],by simp[An,hw],fun i x j c hx hj=> ?_⟩
 cases i with
 |zero=>
  simp only[tJ,fM] at hx
  subst hx
  rw[he] at hj
  simp only[Nat.zero_mul,tH]
  exact h j c hj
 |succ i=>simp at hx
theorem ahT(h:cG E pm F kv fp σ a w){rs:List Key}{τ:U.Ty}{want:List (Option U.Ty)}:∀{xs:List (SV U)}{us:List Value}{ps:List Prop}{rows:List (U.T τ)}{ks:List Key}{d:Bool},
  rowsOf τ (restrict σ.bH rs) want xs=some (ps,rows,ks,d)->(∀p∈ps,p)->xs.length=us.length->(∀(i:Nat)(x:SV U)(u:Value),xs[i]? =some x->us[i]? =some u->RS E w F kv fp (bR σ) x u)->ks.Nodup->
  rows.length=xs.length/\(∀u∈us,u.cells.size=U.wd τ)/\(∀k∈ks,(σ.bH k).isSome=true)/\
  (d=true->∃fl,eg E w F true τ rows (us.flatMap fun u=>u.cells.toList) fl/\fl.flatten.Nodup/\∀b∈fl.flatten,∃k∈ks,b∈fp k)/\
  ∃fl,eg E w (FK F fp ks) false τ rows (us.flatMap fun u=>u.cells.toList) fl/\fl.flatten=[]:=by
 intro xs
 induction xs with
 |nil=>
  intro us ps rows ks d ht hp hl hx hn
  cases us with
  |cons u us=>simp at hl
  |nil=>
   simp only[rowsOf,fM,nT] at ht
   obtain⟨rfl,rfl,rfl,rfl⟩:=ht
   exact⟨rfl,by simp,by simp,fun _=>⟨[],eg.nil,by simp,by simp⟩,[],eg.nil,rfl⟩
 |cons x xs ih=>
  intro us ps rows ks d ht hp hl hx hn
  cases us with
  |nil=>simp at hl
  |cons u us=>
   cases x with
   |uZ l=>simp[rowsOf] at ht
   |fn p=>simp[rowsOf] at ht
   |Ff g l=>simp[rowsOf] at ht
   |v x=>
    simp only[rowsOf] at ht
    split at ht
    ·rename_i QR cs1 ks1 d1 W9 amX ks2 d2 h1 h2
     split at ht
     ·rename_i y hy
      cases ht
      obtain⟨r1,r2⟩:=Mi (hx 0 (.v x) u rfl rfl)
      have uS:=hn
      rw[p8] at uS
      obtain⟨t1,t2,t3,t4⟩:=JZ h h1 (fun p j6=>hp p (by simp[j6])) r1 uS.1
      obtain⟨i1,i2,i3,i4,i5⟩:=ih h2 (fun p j6=>hp p (by simp[j6])) (by simpa using hl) (fun i z v hz hv=>hx (i+1) z v (by simpa using hz) (by simpa using hv)) uS.2.1
      have he:=U.lK τ cs1 y hy
      have hw:cs1.length=U.wd τ:=by rw[<-he,U.cY]
      have gB:u.cells.toList.length=cs1.length:=by simp[r2,t1]
      refine⟨by simp[i1],fun v hv=> ?_,fun k hk=> ?_,fun hd=> ?_,?_⟩
      ·rcases jF.1 hv with rfl|hv
       ·rw[r2,<-t1,hw]
       ·exact i2 v hv
      ·rcases jE.1 hk with hk|hk
       ·exact t2 k hk
       ·exact i3 k hk
      ·simp only[cH] at hd
       obtain⟨fl1,f1,f2,f3,f4⟩:=t3 hd.1
       obtain⟨fl2,g1,g2,g3⟩:=i4 hd.2
       refine⟨fl1++fl2,?_,?_,fun b hb=> ?_⟩
       ·rw[yb]
        exact eg.append (xs:=[y]) (eg.single hy gB f1 f2) g1
       ·rw[Ju]
        exact RQ h hn t2 i3 f4 g3 f3 g2
       ·rw[Ju,jE] at hb
        rcases hb with hb|hb
        ·obtain⟨k,hk,hb⟩:=f4 b hb;exact⟨k,by simp[hk],hb⟩
        ·obtain⟨k,hk,hb⟩:=g3 b hb;exact⟨k,by simp[hk],hb⟩
      ·obtain⟨fl2,g1,g2⟩:=i5
       refine⟨List.replicate cs1.length []++fl2,?_,by rw[Ju,ym,g2];rfl⟩
       rw[yb]
       refine eg.append (xs:=[y]) (eg.single hy gB (by simp) (fun i c hc=> ?_)) (g1.fC (fun b hb=>⟨FP (fun k hk=>by simp[hk]) hb,rfl⟩) (by simp[g2]))
       rw[FJ]
       exact(t4 i c hc).fq (fun b hb=>FP (fun k hk=>by simp[hk]) hb)
     ·cases ht
    ·cases ht
end AM
