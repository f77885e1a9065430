import Derived.Test.YthciaocifglggaaGreatDoorQAmMem
namespace AM
set_option linter.unusedVariables false
open Go
variable{U:kz}{E:Env U}{pm:Pm}
variable{F F':Nat->Prop}{kv:Key->Value}{fp:Key->List Nat}{σ:af U}{a:Act}{w w':World}{bad:Key->Bool}
theorem rW{l:List Key}:distinct l=true↔l.Nodup:=by
 induction l with
 |nil=>simp[distinct]
 |cons k l ih=>
  simp only[distinct,eE,rj,rv,ih]
  rw[<-uK,qe]
theorem dU.O9{dead:Nat->Bool}{x:eK U}{v:Value}{l:List Nat}(h:dU E w F dead x v l){wd hi:Nat}(hh:hi<=x.xs.length)(OW:∀i,i<hi->dead i=false):
  ∃l',eu E w F true ⟨x.τ,x.xs.take hi⟩ (pB wd 0 hi v) l'/\l'.Sublist l:=by
 obtain⟨τ,xs⟩:=x
 simp only at hh
 rcases h with⟨h1,⟨ad,h2⟩,h3⟩|⟨b,cap,cur,vs,gA,h1,h2,h3,h4,h5,h6,h7,h8,h9⟩
 ·simp only at h1;subst h1 h2 h3
  simp only[om] at hh
  have:hi=0:=by omega
  subst this
  exact⟨[],.inl ⟨rfl,⟨ad,by simp[pB]⟩,rfl⟩,RU _⟩
 ·simp only at h1 h2 h3 h5 h6 h7 h9
  subst h1 h9
  have hlen:(xs.take hi).length=hi:=by simp;omega
  have hle:hi*U.wd τ<=xs.length*U.wd τ:=wH _ hh
  refine⟨b::(List.range (hi*U.wd τ)).flatMap gA,.inr ⟨b,cap,cur,vs,gA,?_,h2,by simp only[hlen];omega,h4,h5,fun i pg=>(h6 i (by simp only[hlen] at pg;omega)).1,fun i y j c hx hj=> ?_,by simp only[hlen]⟩,?_⟩
  ·simp only[hlen,pB,Nat.sub_zero,Nat.zero_mul,Value.slice.injEq,and_true]
   split<;>simp[Addr.add]
  ·simp only at hx
   rw[nF] at hx
   split at hx
   ·rename_i fX;exact h7 i y j c (OW i fX) hx hj
   ·cases hx
  ·refine List.Sublist.cons_cons _ ?_
   have:List.range (xs.length*U.wd τ)=List.range (hi*U.wd τ)++(List.range (xs.length*U.wd τ-hi*U.wd τ)).map (·+hi*U.wd τ):=by
    have:=List.range_add (n:=hi*U.wd τ) (m:=xs.length*U.wd τ-hi*U.wd τ)
    rw[show hi*U.wd τ+(xs.length*U.wd τ-hi*U.wd τ)=xs.length*U.wd τ by omega] at this
    rw[this]
    congr 1
    refine J1 fun a _=> ?_
    omega
   rw[this,UN]
   exact zer _ _
def FK(F:Nat->Prop)(fp:Key->List Nat)(ks:List Key)(b:Nat):Prop:=F b\/∃k∈ks,b∈fp k
theorem ajB(h:cG E pm F kv fp σ a w){rs:List Key}{want:Option U.Ty}{x:AC U}{v:Value}{ps:List Prop}{c:U.C}{ks:List Key}{d:Bool}
  (ht:rO (restrict σ.bH rs) want x=some (ps,c,ks,d)) (hp:∀p∈ps,p) (hx:RD E w F kv fp (bW σ) x v):
  ks.Nodup/\(∀k∈ks,(σ.bH k).isSome=true)/\
  (d=true->∃l,Rp E w F true c v l/\l.Nodup/\∀b∈l,∃k∈ks,b∈fp k)/\
  Rp E w (FK F fp ks) false c v []:=by
 unfold rO at ht
 split at ht
 ·cases ht
  have:=WI hx
  subst this
  have ho:fA v:=(cn hx rfl:Rp E w F false _ _ _).A7
  exact⟨by simp,by simp,fun _=>⟨[],.lit _ _ ho,by simp,by simp⟩,.lit _ _ ho⟩
 ·cases ht
  have h1:Rp E w F false _ _ _:=cn hx rfl
  exact⟨by simp,by simp,by simp,h1.fh (fun b hb=> .inl hb)⟩
 ·split at ht
  ·cases ht
   obtain⟨ad,h1⟩:=cn hx rfl
   subst h1
   exact⟨by simp,by simp,fun _=>⟨[],.nil _ _ _ _ (fun _=>rfl),by simp,by simp⟩,.nil _ _ _ _ (by simp)⟩
  ·cases ht
 ·rename_i k
  split at ht
  ·rename_i x d' he
   cases ht
   have eG:=jx he
   have h1:v=kv k:=cn hx rfl
   subst h1
   have h2:=h.cV k _ eG
   refine⟨by simp,by simp[eG],fun hd=> ?_,h2.kD (fun b hb=> .inl hb) (fun b hb=> .inr ⟨k,by simp,hb⟩)⟩
   subst hd
   exact⟨fp k,h2.LB,h.nodup k _ eG,fun b hb=>⟨k,by simp,hb⟩⟩
  ·rename_i x dead he
   cases ht
   have eG:=jx he
   have h1:v=kv k:=cn hx rfl
   subst h1
   have h2:eu E w F true x (kv k) (fp k):=dU.own (h.cV k _ eG) (hp _ (by simp))
   exact⟨by simp,by simp[eG],fun _=>⟨fp k,h2.LB,h.nodup k _ eG,fun b hb=>⟨k,by simp,hb⟩⟩,h2.kD (fun b hb=> .inl hb) (fun b hb=> .inr ⟨k,by simp,hb⟩)⟩
  ·cases ht
 ·rename_i k wd hi
  split at ht
  ·rename_i x d' he
   cases ht
   have eG:=jx he
   obtain⟨h1,_⟩:=cn hx rfl
   subst h1
   have h2:eu E w F d x (kv k) (fp k):=h.cV k _ eG
   obtain⟨l,h3,h4⟩:=h2.take (wd:=wd) (hi:=hi) (hp _ (by simp))
   refine⟨by simp,by simp[eG],fun hd=> ?_,h3.kD (fun b hb=> .inl hb) (fun b hb=> .inr ⟨k,by simp,h4.subset hb⟩)⟩
   subst hd
   exact⟨l,h3.LB,h4.nodup (h.nodup k _ eG),fun b hb=>⟨k,by simp,h4.subset hb⟩⟩
  ·rename_i x dead he
   cases ht
   have eG:=jx he
   obtain⟨h1,_⟩:=cn hx rfl
   subst h1
   have h2:dU E w F dead x (kv k) (fp k):=h.cV k _ eG
   obtain⟨l,h3,h4⟩:=h2.O9 (wd:=wd) (hi:=hi) (hp _ (by simp)) (hp _ (by simp))
   exact⟨by simp,by simp[eG],fun _=>⟨l,h3.LB,h4.nodup (h.nodup k _ eG),fun b hb=>⟨k,by simp,h4.subset hb⟩⟩,h3.kD (fun b hb=> .inl hb) (fun b hb=> .inr ⟨k,by simp,h4.subset hb⟩)⟩
  ·cases ht
 ·cases ht
theorem DI{ks ks':List Key}(h:∀k∈ks,k∈ks'){b:Nat}:FK F fp ks b->FK F fp ks' b:=
 fun hb=>hb.imp id (fun⟨k,hk,hb⟩=>⟨k,h k hk,hb⟩)
theorem PN(h:cG E pm F kv fp σ a w){ks ks':List Key}(hn:(ks++ks').Nodup)(h1:∀k∈ks,(σ.bH k).isSome=true)(h2:∀k∈ks',(σ.bH k).isSome=true){l l':List Nat}
  (hl:∀b∈l,∃k∈ks,b∈fp k) (D3:∀b∈l',∃k∈ks',b∈fp k) (hnl:l.Nodup) (ama:l'.Nodup):(l++l').Nodup:=by
 rw[pu] at hn⊢
 refine⟨hnl,ama,fun b hb b' aY he=> ?_⟩
 subst he
 obtain⟨k,hk,iq⟩:=hl b hb
 obtain⟨k',cM,X0⟩:=D3 b aY
 obtain⟨e,he⟩:=lJ.1 (h1 k hk)
 obtain⟨e',eG⟩:=lJ.1 (h2 k' cM)
 exact h.apart k k' e e' b (hn.2.2 k hk k' cM) he eG iq X0
theorem HV(h:cG E pm F kv fp σ a w){rs:List Key}:∀{xs:List (AC U)}{want:List (Option U.Ty)}{vs:List Value}{ps:List Prop}{cs:List U.C}{ks:List Key}{d:Bool},
  eL (restrict σ.bH rs) want xs=some (ps,cs,ks,d)->(∀p∈ps,p)->kX E w F kv fp (bW σ) xs vs->ks.Nodup->
  cs.length=xs.length/\(∀k∈ks,(σ.bH k).isSome=true)/\
  (d=true->∃fl:List (List Nat),fl.length=cs.length/\(∀(i:Nat)(c:U.C),cs[i]? =some c->Rp E w F true c (vs.getD i undef) (fl.getD i []))/\fl.flatten.Nodup/\∀b∈fl.flatten,∃k∈ks,b∈fp k)/\
  (∀(i:Nat)(c:U.C),cs[i]? =some c->Rp E w (FK F fp ks) false c (vs.getD i undef) []):=by
 intro xs
 induction xs with
 |nil=>
  intro want vs ps cs ks d ht hp hx hn
  simp only[eL,fJ,nE] at ht
  obtain⟨rfl,rfl,rfl,rfl⟩:=ht
  exact⟨rfl,by simp,fun _=>⟨[],by simp,fun i c hc=>by simp at hc,by simp,by simp⟩,fun i c hc=>by simp at hc⟩
 |cons x xs ih=>
  intro want vs ps cs ks d ht hp hx hn
  simp only[eL] at ht
  split at ht
  ·rename_i ON c1 ks1 d1 WJ cs2 ks2 d2 h1 h2
   cases ht
   cases vs with
   |nil=>have:=hx.1;simp at this
   |cons v vs=>
    have Zb:RD E w F kv fp (bW σ) x v:=hx.2 0 x v rfl rfl
    have hx2:kX E w F kv fp (bW σ) xs vs:=⟨by have:=hx.1;simpa using this,fun i y u hy hu=>hx.2 (i+1) y u (by simpa using hy) (by simpa using hu)⟩
    have tF:=hn
    rw[pu] at tF
    obtain⟨_,g2,g3,g4⟩:=ajB h h1 (fun p j_=>hp p (by simp[j_])) Zb
    obtain⟨i1,i2,i3,i4⟩:=ih h2 (fun p j_=>hp p (by simp[j_])) hx2 tF.2.1
    refine⟨by simp[i1],fun k hk=> ?_,fun hd=> ?_,fun i c hc=> ?_⟩
    ·rcases kA.1 hk with hk|hk
     ·exact g2 k hk
     ·exact i2 k hk
    ·simp only[eE] at hd
     obtain⟨l,Jq,yk,KK⟩:=g3 hd.1
     obtain⟨fl,f1,f2,f3,f4⟩:=i3 hd.2
     refine⟨l::fl,by simp[f1],fun i c hc=> ?_,?_,fun b hb=> ?_⟩
     ·cases i with
      |zero=>simp only[sB,fJ] at hc;subst hc;exact Jq
      |succ i=>exact f2 i c (by simpa using hc)
     ·rw[HI]
      exact PN h hn g2 i2 KK f4 yk f3
     ·rw[HI,kA] at hb
      rcases hb with hb|hb
      ·obtain⟨k,hk,hb⟩:=KK b hb;exact⟨k,by simp[hk],hb⟩
      ·obtain⟨k,hk,hb⟩:=f4 b hb;exact⟨k,by simp[hk],hb⟩
    ·cases i with
     |zero=>simp only[sB,fJ] at hc;subst hc;exact g4.fh (fun b hb=>DI (fun k hk=>by simp[hk]) hb)
     |succ i=>exact(i4 i c (by simpa using hc)).fh (fun b hb=>DI (fun k hk=>by simp[hk]) hb)
  ·cases ht
theorem ep.single{deep:Bool}{τ:U.Ty}{y:U.T τ}{cs:List U.C}{vs:List Value}{fl:List (List Nat)}(hd:U.dec τ cs=some y)(hl:vs.length=cs.length)(yD:fl.length=cs.length)
  (h:∀(i:Nat)(c:U.C),cs[i]? =some c->Rp E w F deep c (vs.getD i undef) (fl.getD i [])):ep E w F deep τ [y] vs fl:=by
 have he:=U.kV τ cs y hd
 have hw:cs.length=U.wd τ:=by rw[<-he,U.cZ]
 refine⟨by simp[hl,hw],by simp[yD,hw],fun i x j c hx hj=> ?_⟩
 cases i with
 |zero=>
  simp only[sB,fJ] at hx
  subst hx
  rw[he] at hj
  simp only[Nat.zero_mul,tW]
  exact h j c hj
 |succ i=>simp at hx
theorem aj0(h:cG E pm F kv fp σ a w){rs:List Key}{τ:U.Ty}{want:List (Option U.Ty)}:∀{xs:List (SV U)}{us:List Value}{ps:List Prop}{rows:List (U.T τ)}{ks:List Key}{d:Bool},
  rowsOf τ (restrict σ.bH rs) want xs=some (ps,rows,ks,d)->(∀p∈ps,p)->xs.length=us.length->(∀(i:Nat)(x:SV U)(u:Value),xs[i]? =some x->us[i]? =some u->RS E w F kv fp (bW σ) x u)->ks.Nodup->
  rows.length=xs.length/\(∀u∈us,u.cells.size=U.wd τ)/\(∀k∈ks,(σ.bH k).isSome=true)/\
  (d=true->∃fl,ep E w F true τ rows (us.flatMap fun u=>u.cells.toList) fl/\fl.flatten.Nodup/\∀b∈fl.flatten,∃k∈ks,b∈fp k)/\
  ∃fl,ep E w (FK F fp ks) false τ rows (us.flatMap fun u=>u.cells.toList) fl/\fl.flatten=[]:=by
 intro xs
 induction xs with
 |nil=>
  intro us ps rows ks d ht hp hl hx hn
  cases us with
  |cons u us=>simp at hl
  |nil=>
   simp only[rowsOf,fJ,nE] at ht
   obtain⟨rfl,rfl,rfl,rfl⟩:=ht
   exact⟨rfl,by simp,by simp,fun _=>⟨[],ep.nil,by simp,by simp⟩,[],ep.nil,rfl⟩
 |cons x xs ih=>
  intro us ps rows ks d ht hp hl hx hn
  cases us with
  |nil=>simp at hl
  |cons u us=>
   cases x with
   |tJ l=>simp[rowsOf] at ht
   |fn p=>simp[rowsOf] at ht
   |Db g l=>simp[rowsOf] at ht
   |v x=>
    simp only[rowsOf] at ht
    split at ht
    ·rename_i ON cs1 ks1 d1 WJ apI ks2 d2 h1 h2
     split at ht
     ·rename_i y hy
      cases ht
      obtain⟨r1,r2⟩:=Ke (hx 0 (.v x) u rfl rfl)
      have tF:=hn
      rw[pu] at tF
      obtain⟨t1,t2,t3,t4⟩:=HV h h1 (fun p j_=>hp p (by simp[j_])) r1 tF.1
      obtain⟨i1,i2,i3,i4,i5⟩:=ih h2 (fun p j_=>hp p (by simp[j_])) (by simpa using hl) (fun i z v hz hv=>hx (i+1) z v (by simpa using hz) (by simpa using hv)) tF.2.1
      have he:=U.kV τ cs1 y hy
      have hw:cs1.length=U.wd τ:=by rw[<-he,U.cZ]
      have gU:u.cells.toList.length=cs1.length:=by simp[r2,t1]
      refine⟨by simp[i1],fun v hv=> ?_,fun k hk=> ?_,fun hd=> ?_,?_⟩
      ·rcases jw.1 hv with rfl|hv
       ·rw[r2,<-t1,hw]
       ·exact i2 v hv
      ·rcases kA.1 hk with hk|hk
       ·exact t2 k hk
       ·exact i3 k hk
      ·simp only[eE] at hd
       obtain⟨fl1,f1,f2,f3,f4⟩:=t3 hd.1
       obtain⟨fl2,g1,g2,g3⟩:=i4 hd.2
       refine⟨fl1++fl2,?_,?_,fun b hb=> ?_⟩
       ·rw[xv]
        exact ep.append (xs:=[y]) (ep.single hy gU f1 f2) g1
       ·rw[Hw]
        exact PN h hn t2 i3 f4 g3 f3 g2
       ·rw[Hw,kA] at hb
        rcases hb with hb|hb
        ·obtain⟨k,hk,hb⟩:=f4 b hb;exact⟨k,by simp[hk],hb⟩
        ·obtain⟨k,hk,hb⟩:=g3 b hb;exact⟨k,by simp[hk],hb⟩
      ·obtain⟨fl2,g1,g2⟩:=i5
       refine⟨List.replicate cs1.length []++fl2,?_,by rw[Hw,wS,g2];rfl⟩
       rw[xv]
       refine ep.append (xs:=[y]) (ep.single hy gU (by simp) (fun i c hc=> ?_)) (g1.fE (fun b hb=>⟨DI (fun k hk=>by simp[hk]) hb,rfl⟩) (by simp[g2]))
       rw[DD]
       exact(t4 i c hc).fh (fun b hb=>DI (fun k hk=>by simp[hk]) hb)
     ·cases ht
    ·cases ht
end AM
