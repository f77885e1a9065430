import Derived.Test.YtnndcpncmmcaaaaGreatQAmMem
namespace AM
set_option linter.unusedVariables false
open Go
variable{U:jO}{E:Env U}{pm:Pm}
variable{F F':Nat->Prop}{kv:Key->Value}{fp:Key->List Nat}{σ:ah U}{a:Act}{w w':World}{bad:Key->Bool}
theorem sV{l:List Key}:distinct l=true↔l.Nodup:=by
 induction l with
 |nil=>simp[distinct]
 |cons k l ih=>
  simp only[distinct,fY,sS,pH,ih]
  rw[<-Al,nP]
theorem cM.RU{dead:Nat->Bool}{x:fK U}{v:Value}{l:List Nat}(h:cM E w F dead x v l){wd hi:Nat}(hh:hi<=x.xs.length)(zT:∀i,i<hi->dead i=false):
  ∃l',cF E w F true ⟨x.τ,x.xs.take hi⟩ (qz wd 0 hi v) l'/\l'.Sublist l:=by
 obtain⟨τ,xs⟩:=x
 simp only at hh
 rcases h with⟨h1,⟨ad,h2⟩,h3⟩|⟨b,cap,cur,vs,dH,h1,h2,h3,h4,h5,h6,h7,h8,h9⟩
 ·simp only at h1;subst h1 h2 h3
  simp only[ii] at hh
  have:hi=0:=by omega
  subst this
  exact⟨[],.inl ⟨rfl,⟨ad,by simp[qz]⟩,rfl⟩,Ou _⟩
 ·simp only at h1 h2 h3 h5 h6 h7 h9
  subst h1 h9
  have hlen:(xs.take hi).length=hi:=by simp;omega
  have hle:hi*U.wd τ<=xs.length*U.wd τ:=u9 _ hh
  refine⟨b::(List.range (hi*U.wd τ)).flatMap dH,.inr ⟨b,cap,cur,vs,dH,?_,h2,by simp only[hlen];omega,h4,h5,fun i od=>(h6 i (by simp only[hlen] at od;omega)).1,fun i y j c hx hj=> ?_,by simp only[hlen]⟩,?_⟩
  ·simp only[hlen,qz,Nat.sub_zero,Nat.zero_mul,Value.slice.injEq,and_true]
   split<;>simp[Addr.add]
  ·simp only at hx
   rw[mP] at hx
   split at hx
   ·rename_i fx;exact h7 i y j c (zT i fx) hx hj
   ·cases hx
  ·refine List.Sublist.cons_cons _ ?_
   have:List.range (xs.length*U.wd τ)=List.range (hi*U.wd τ)++(List.range (xs.length*U.wd τ-hi*U.wd τ)).map (·+hi*U.wd τ):=by
    have:=List.range_add (n:=hi*U.wd τ) (m:=xs.length*U.wd τ-hi*U.wd τ)
    rw[show hi*U.wd τ+(xs.length*U.wd τ-hi*U.wd τ)=xs.length*U.wd τ by omega] at this
    rw[this]
    congr 1
    refine Lp fun a _=> ?_
    omega
   rw[this,N3]
   exact zer _ _
def FK(F:Nat->Prop)(fp:Key->List Nat)(ks:List Key)(b:Nat):Prop:=F b\/∃k∈ks,b∈fp k
theorem amc(h:cd E pm F kv fp σ a w){rs:List Key}{want:Option U.Ty}{x:AC U}{v:Value}{ps:List Prop}{c:U.C}{ks:List Key}{d:Bool}
  (ht:nM (restrict σ.aU rs) want x=some (ps,c,ks,d)) (hp:∀p∈ps,p) (hx:RD E w F kv fp (aZ σ) x v):
  ks.Nodup/\(∀k∈ks,(σ.aU k).isSome=true)/\
  (d=true->∃l,Rp E w F true c v l/\l.Nodup/\∀b∈l,∃k∈ks,b∈fp k)/\
  Rp E w (FK F fp ks) false c v []:=by
 unfold nM at ht
 split at ht
 ·cases ht
  have:=aae hx
  subst this
  have ho:fu v:=(bG hx rfl:Rp E w F false _ _ _).C7
  exact⟨by simp,by simp,fun _=>⟨[],.lit _ _ ho,by simp,by simp⟩,.lit _ _ ho⟩
 ·cases ht
  have h1:Rp E w F false _ _ _:=bG hx rfl
  exact⟨by simp,by simp,by simp,h1.fe (fun b hb=> .inl hb)⟩
 ·split at ht
  ·cases ht
   obtain⟨ad,h1⟩:=bG hx rfl
   subst h1
   exact⟨by simp,by simp,fun _=>⟨[],.nil _ _ _ _ (fun _=>rfl),by simp,by simp⟩,.nil _ _ _ _ (by simp)⟩
  ·cases ht
 ·rename_i k
  split at ht
  ·rename_i x d' he
   cases ht
   have dr:=fA he
   have h1:v=kv k:=bG hx rfl
   subst h1
   have h2:=h.cT k _ dr
   refine⟨by simp,by simp[dr],fun hd=> ?_,h2.i_ (fun b hb=> .inl hb) (fun b hb=> .inr ⟨k,by simp,hb⟩)⟩
   subst hd
   exact⟨fp k,h2.MK,h.nodup k _ dr,fun b hb=>⟨k,by simp,hb⟩⟩
  ·rename_i x dead he
   cases ht
   have dr:=fA he
   have h1:v=kv k:=bG hx rfl
   subst h1
   have h2:cF E w F true x (kv k) (fp k):=cM.own (h.cT k _ dr) (hp _ (by simp))
   exact⟨by simp,by simp[dr],fun _=>⟨fp k,h2.MK,h.nodup k _ dr,fun b hb=>⟨k,by simp,hb⟩⟩,h2.i_ (fun b hb=> .inl hb) (fun b hb=> .inr ⟨k,by simp,hb⟩)⟩
  ·cases ht
 ·rename_i k wd hi
  split at ht
  ·rename_i x d' he
   cases ht
   have dr:=fA he
   obtain⟨h1,_⟩:=bG hx rfl
   subst h1
   have h2:cF E w F d x (kv k) (fp k):=h.cT k _ dr
   obtain⟨l,h3,h4⟩:=h2.take (wd:=wd) (hi:=hi) (hp _ (by simp))
   refine⟨by simp,by simp[dr],fun hd=> ?_,h3.i_ (fun b hb=> .inl hb) (fun b hb=> .inr ⟨k,by simp,h4.subset hb⟩)⟩
   subst hd
   exact⟨l,h3.MK,h4.nodup (h.nodup k _ dr),fun b hb=>⟨k,by simp,h4.subset hb⟩⟩
  ·rename_i x dead he
   cases ht
   have dr:=fA he
   obtain⟨h1,_⟩:=bG hx rfl
   subst h1
   have h2:cM E w F dead x (kv k) (fp k):=h.cT k _ dr
   obtain⟨l,h3,h4⟩:=h2.RU (wd:=wd) (hi:=hi) (hp _ (by simp)) (hp _ (by simp))
   exact⟨by simp,by simp[dr],fun _=>⟨l,h3.MK,h4.nodup (h.nodup k _ dr),fun b hb=>⟨k,by simp,h4.subset hb⟩⟩,h3.i_ (fun b hb=> .inl hb) (fun b hb=> .inr ⟨k,by simp,h4.subset hb⟩)⟩
  ·cases ht
 ·cases ht
theorem Ga{ks ks':List Key}(h:∀k∈ks,k∈ks'){b:Nat}:FK F fp ks b->FK F fp ks' b:=
 fun hb=>hb.imp id (fun⟨k,hk,hb⟩=>⟨k,h k hk,hb⟩)
theorem Sm(h:cd E pm F kv fp σ a w){ks ks':List Key}(hn:(ks++ks').Nodup)(h1:∀k∈ks,(σ.aU k).isSome=true)(h2:∀k∈ks',(σ.aU k).isSome=true){l l':List Nat}
  (hl:∀b∈l,∃k∈ks,b∈fp k) (zh:∀b∈l',∃k∈ks',b∈fp k) (hnl:l.Nodup) (apj:l'.Nodup):(l++l').Nodup:=by
 rw[nH] at hn⊢
 refine⟨hnl,apj,fun b hb b' aI he=> ?_⟩
 subst he
 obtain⟨k,hk,gX⟩:=hl b hb
 obtain⟨k',bp,aa8⟩:=zh b aI
 obtain⟨e,he⟩:=kH.1 (h1 k hk)
 obtain⟨e',dr⟩:=kH.1 (h2 k' bp)
 exact h.apart k k' e e' b (hn.2.2 k hk k' bp) he dr gX aa8
theorem Kj(h:cd E pm F kv fp σ a w){rs:List Key}:∀{xs:List (AC U)}{want:List (Option U.Ty)}{vs:List Value}{ps:List Prop}{cs:List U.C}{ks:List Key}{d:Bool},
  dy (restrict σ.aU rs) want xs=some (ps,cs,ks,d)->(∀p∈ps,p)->kS E w F kv fp (aZ σ) xs vs->ks.Nodup->
  cs.length=xs.length/\(∀k∈ks,(σ.aU k).isSome=true)/\
  (d=true->∃fl:List (List Nat),fl.length=cs.length/\(∀(i:Nat)(c:U.C),cs[i]? =some c->Rp E w F true c (vs.getD i undef) (fl.getD i []))/\fl.flatten.Nodup/\∀b∈fl.flatten,∃k∈ks,b∈fp k)/\
  (∀(i:Nat)(c:U.C),cs[i]? =some c->Rp E w (FK F fp ks) false c (vs.getD i undef) []):=by
 intro xs
 induction xs with
 |nil=>
  intro want vs ps cs ks d ht hp hx hn
  simp only[dy,eZ,kG] at ht
  obtain⟨rfl,rfl,rfl,rfl⟩:=ht
  exact⟨rfl,by simp,fun _=>⟨[],by simp,fun i c hc=>by simp at hc,by simp,by simp⟩,fun i c hc=>by simp at hc⟩
 |cons x xs ih=>
  intro want vs ps cs ks d ht hp hx hn
  simp only[dy] at ht
  split at ht
  ·rename_i Rv c1 ks1 d1 ps2 cs2 ks2 d2 h1 h2
   cases ht
   cases vs with
   |nil=>have:=hx.1;simp at this
   |cons v vs=>
    have hx1:RD E w F kv fp (aZ σ) x v:=hx.2 0 x v rfl rfl
    have hx2:kS E w F kv fp (aZ σ) xs vs:=⟨by have:=hx.1;simpa using this,fun i y u hy hu=>hx.2 (i+1) y u (by simpa using hy) (by simpa using hu)⟩
    have qi:=hn
    rw[nH] at qi
    obtain⟨_,g2,g3,g4⟩:=amc h h1 (fun p jf=>hp p (by simp[jf])) hx1
    obtain⟨i1,i2,i3,i4⟩:=ih h2 (fun p jf=>hp p (by simp[jf])) hx2 qi.2.1
    refine⟨by simp[i1],fun k hk=> ?_,fun hd=> ?_,fun i c hc=> ?_⟩
    ·rcases gA.1 hk with hk|hk
     ·exact g2 k hk
     ·exact i2 k hk
    ·simp only[fY] at hd
     obtain⟨l,zS,pf,KS⟩:=g3 hd.1
     obtain⟨fl,f1,f2,f3,f4⟩:=i3 hd.2
     refine⟨l::fl,by simp[f1],fun i c hc=> ?_,?_,fun b hb=> ?_⟩
     ·cases i with
      |zero=>simp only[sT,eZ] at hc;subst hc;exact zS
      |succ i=>exact f2 i c (by simpa using hc)
     ·rw[Lq]
      exact Sm h hn g2 i2 KS f4 pf f3
     ·rw[Lq,gA] at hb
      rcases hb with hb|hb
      ·obtain⟨k,hk,hb⟩:=KS b hb;exact⟨k,by simp[hk],hb⟩
      ·obtain⟨k,hk,hb⟩:=f4 b hb;exact⟨k,by simp[hk],hb⟩
    ·cases i with
     |zero=>simp only[sT,eZ] at hc;subst hc;exact g4.fe (fun b hb=>Ga (fun k hk=>by simp[hk]) hb)
     |succ i=>exact(i4 i c (by simpa using hc)).fe (fun b hb=>Ga (fun k hk=>by simp[hk]) hb)
  ·cases ht
theorem dD.single{deep:Bool}{τ:U.Ty}{y:U.T τ}{cs:List U.C}{vs:List Value}{fl:List (List Nat)}(hd:U.dec τ cs=some y)(hl:vs.length=cs.length)(Ek:fl.length=cs.length)
  (h:∀(i:Nat)(c:U.C),cs[i]? =some c->Rp E w F deep c (vs.getD i undef) (fl.getD i [])):dD E w F deep τ [y] vs fl:=by
 have he:=U.jn τ cs y hd
 have hw:cs.length=U.wd τ:=by rw[<-he,U.cP]
 refine⟨by simp[hl,hw],by simp[Ek,hw],fun i x j c hx hj=> ?_⟩
 cases i with
 |zero=>
  simp only[sT,eZ] at hx
  subst hx
  rw[he] at hj
  simp only[Nat.zero_mul,oz]
  exact h j c hj
 |succ i=>simp at hx
theorem amG(h:cd E pm F kv fp σ a w){rs:List Key}{τ:U.Ty}{want:List (Option U.Ty)}:∀{xs:List (SV U)}{us:List Value}{ps:List Prop}{rows:List (U.T τ)}{ks:List Key}{d:Bool},
  rowsOf τ (restrict σ.aU rs) want xs=some (ps,rows,ks,d)->(∀p∈ps,p)->xs.length=us.length->(∀(i:Nat)(x:SV U)(u:Value),xs[i]? =some x->us[i]? =some u->RS E w F kv fp (aZ σ) x u)->ks.Nodup->
  rows.length=xs.length/\(∀u∈us,u.cells.size=U.wd τ)/\(∀k∈ks,(σ.aU k).isSome=true)/\
  (d=true->∃fl,dD E w F true τ rows (us.flatMap fun u=>u.cells.toList) fl/\fl.flatten.Nodup/\∀b∈fl.flatten,∃k∈ks,b∈fp k)/\
  ∃fl,dD E w (FK F fp ks) false τ rows (us.flatMap fun u=>u.cells.toList) fl/\fl.flatten=[]:=by
 intro xs
 induction xs with
 |nil=>
  intro us ps rows ks d ht hp hl hx hn
  cases us with
  |cons u us=>simp at hl
  |nil=>
   simp only[rowsOf,eZ,kG] at ht
   obtain⟨rfl,rfl,rfl,rfl⟩:=ht
   exact⟨rfl,by simp,by simp,fun _=>⟨[],dD.nil,by simp,by simp⟩,[],dD.nil,rfl⟩
 |cons x xs ih=>
  intro us ps rows ks d ht hp hl hx hn
  cases us with
  |nil=>simp at hl
  |cons u us=>
   cases x with
   |tX l=>simp[rowsOf] at ht
   |fn p=>simp[rowsOf] at ht
   |El g l=>simp[rowsOf] at ht
   |v x=>
    simp only[rowsOf] at ht
    split at ht
    ·rename_i Rv cs1 ks1 d1 ps2 asM ks2 d2 h1 h2
     split at ht
     ·rename_i y hy
      cases ht
      obtain⟨r1,r2⟩:=Ko (hx 0 (.v x) u rfl rfl)
      have qi:=hn
      rw[nH] at qi
      obtain⟨t1,t2,t3,t4⟩:=Kj h h1 (fun p jf=>hp p (by simp[jf])) r1 qi.1
      obtain⟨i1,i2,i3,i4,i5⟩:=ih h2 (fun p jf=>hp p (by simp[jf])) (by simpa using hl) (fun i z v hz hv=>hx (i+1) z v (by simpa using hz) (by simpa using hv)) qi.2.1
      have he:=U.jn τ cs1 y hy
      have hw:cs1.length=U.wd τ:=by rw[<-he,U.cP]
      have fa:u.cells.toList.length=cs1.length:=by simp[r2,t1]
      refine⟨by simp[i1],fun v hv=> ?_,fun k hk=> ?_,fun hd=> ?_,?_⟩
      ·rcases h_.1 hv with rfl|hv
       ·rw[r2,<-t1,hw]
       ·exact i2 v hv
      ·rcases gA.1 hk with hk|hk
       ·exact t2 k hk
       ·exact i3 k hk
      ·simp only[fY] at hd
       obtain⟨fl1,f1,f2,f3,f4⟩:=t3 hd.1
       obtain⟨fl2,g1,g2,g3⟩:=i4 hd.2
       refine⟨fl1++fl2,?_,?_,fun b hb=> ?_⟩
       ·rw[tV]
        exact dD.append (xs:=[y]) (dD.single hy fa f1 f2) g1
       ·rw[Ak]
        exact Sm h hn t2 i3 f4 g3 f3 g2
       ·rw[Ak,gA] at hb
        rcases hb with hb|hb
        ·obtain⟨k,hk,hb⟩:=f4 b hb;exact⟨k,by simp[hk],hb⟩
        ·obtain⟨k,hk,hb⟩:=g3 b hb;exact⟨k,by simp[hk],hb⟩
      ·obtain⟨fl2,g1,g2⟩:=i5
       refine⟨List.replicate cs1.length []++fl2,?_,by rw[Ak,yY,g2];rfl⟩
       rw[tV]
       refine dD.append (xs:=[y]) (dD.single hy fa (by simp) (fun i c hc=> ?_)) (g1.cI (fun b hb=>⟨Ga (fun k hk=>by simp[hk]) hb,rfl⟩) (by simp[g2]))
       rw[kA]
       exact(t4 i c hc).fe (fun b hb=>Ga (fun k hk=>by simp[hk]) hb)
     ·cases ht
    ·cases ht
end AM
