/- THE ABSTRACT MACHINE: what is taken over for good. -/
import Derived.Test.YtpkdgcookaobfaaGreatDoorQAmMem
namespace AM
set_option linter.unusedVariables false
open Go
variable{U:lz}{E:Env U}{pm:Pm}
variable{F F':Nat->Prop}{kv:Key->Value}{fp:Key->List Nat}{σ:ak U}{a:Act}{w w':World}{bad:Key->Bool}
theorem uN{l:List Key}:distinct l=true↔l.Nodup:=by
 induction l with
 |nil=>simp[distinct]
 |cons k l ih=>
  simp only[distinct,cJ,ru,tY,ih]
  rw[<-wu,sR]
theorem eE.UI{dead:Nat->Bool}{x:fu U}{v:Value}{l:List Nat}(h:eE E w F dead x v l){wd hi:Nat}(hh:hi<=x.xs.length)(Uu:∀i,i<hi->dead i=false):
  ∃l',e7 E w F true ⟨x.τ,x.xs.take hi⟩ (rL wd 0 hi v) l'/\l'.Sublist l:=by
 obtain⟨τ,xs⟩:=x
 simp only at hh
 rcases h with⟨h1,⟨ad,h2⟩,h3⟩|⟨b,cap,cur,vs,hZ,h1,h2,h3,h4,h5,h6,h7,h8,h9⟩
 ·simp only at h1;subst h1 h2 h3
  simp only[fv] at hh
  have:hi=0:=by omega
  subst this
  exact⟨[],.inl ⟨rfl,⟨ad,by simp[rL]⟩,rfl⟩,WQ _⟩
 ·simp only at h1 h2 h3 h5 h6 h7 h9
  subst h1 h9
  have hlen:(xs.take hi).length=hi:=by simp;omega
  have hle:hi*U.wd τ<=xs.length*U.wd τ:=AL _ hh
  refine⟨b::(List.range (hi*U.wd τ)).flatMap hZ,.inr ⟨b,cap,cur,vs,hZ,?_,h2,by simp only[hlen];omega,h4,h5,fun i qw=>(h6 i (by simp only[hlen] at qw;omega)).1,fun i y j c hx hj=> ?_,by simp only[hlen]⟩,?_⟩
  ·simp only[hlen,rL,Nat.sub_zero,Nat.zero_mul,Value.slice.injEq,and_true]
   split<;>simp[Addr.add]
  ·simp only at hx
   rw[qn] at hx
   split at hx
   ·rename_i gI;exact h7 i y j c (Uu i gI) hx hj
   ·cases hx
  ·refine List.Sublist.cons_cons _ ?_
   have:List.range (xs.length*U.wd τ)=List.range (hi*U.wd τ)++(List.range (xs.length*U.wd τ-hi*U.wd τ)).map (·+hi*U.wd τ):=by
    have:=List.range_add (n:=hi*U.wd τ) (m:=xs.length*U.wd τ-hi*U.wd τ)
    rw[show hi*U.wd τ+(xs.length*U.wd τ-hi*U.wd τ)=xs.length*U.wd τ by omega] at this
    rw[this]
    congr 1
    refine O1 fun a _=> ?_
    omega
   rw[this,Uh]
   exact zer _ _
def FK(F:Nat->Prop)(fp:Key->List Nat)(ks:List Key)(b:Nat):Prop:=F b\/∃k∈ks,b∈fp k
theorem akx(h:cM E pm F kv fp σ a w){rs:List Key}{want:Option U.Ty}{x:AC U}{v:Value}{ps:List Prop}{c:U.C}{ks:List Key}{d:Bool}
  (ht:uB (restrict σ.bO rs) want x=some (ps,c,ks,d)) (hp:∀p∈ps,p) (hx:RD E w F kv fp (bW σ) x v):
  ks.Nodup/\(∀k∈ks,(σ.bO k).isSome=true)/\
  (d=true->∃l,Rp E w F true c v l/\l.Nodup/\∀b∈l,∃k∈ks,b∈fp k)/\
  Rp E w (FK F fp ks) false c v []:=by
 unfold uB at ht
 split at ht
 ·cases ht
  have:=aap hx
  subst this
  have ho:gr v:=(cw hx rfl:Rp E w F false _ _ _).EB
  exact⟨by simp,by simp,fun _=>⟨[],.lit _ _ ho,by simp,by simp⟩,.lit _ _ ho⟩
 ·cases ht
  have h1:Rp E w F false _ _ _:=cw hx rfl
  exact⟨by simp,by simp,by simp,h1.fT (fun b hb=> .inl hb)⟩
 ·split at ht
  ·cases ht
   obtain⟨ad,h1⟩:=cw hx rfl
   subst h1
   exact⟨by simp,by simp,fun _=>⟨[],.nil _ _ _ _ (fun _=>rfl),by simp,by simp⟩,.nil _ _ _ _ (by simp)⟩
  ·cases ht
 ·rename_i k
  split at ht
  ·rename_i x d' he
   cases ht
   have fc:=j0 he
   have h1:v=kv k:=cw hx rfl
   subst h1
   have h2:=h.dH k _ fc
   refine⟨by simp,by simp[fc],fun hd=> ?_,h2.lD (fun b hb=> .inl hb) (fun b hb=> .inr ⟨k,by simp,hb⟩)⟩
   subst hd
   exact⟨fp k,h2.QX,h.nodup k _ fc,fun b hb=>⟨k,by simp,hb⟩⟩
  ·rename_i x dead he
   cases ht
   have fc:=j0 he
   have h1:v=kv k:=cw hx rfl
   subst h1
   have h2:e7 E w F true x (kv k) (fp k):=eE.own (h.dH k _ fc) (hp _ (by simp))
   exact⟨by simp,by simp[fc],fun _=>⟨fp k,h2.QX,h.nodup k _ fc,fun b hb=>⟨k,by simp,hb⟩⟩,h2.lD (fun b hb=> .inl hb) (fun b hb=> .inr ⟨k,by simp,hb⟩)⟩
  ·cases ht
 ·rename_i k wd hi
  split at ht
  ·rename_i x d' he
   cases ht
   have fc:=j0 he
   obtain⟨h1,_⟩:=cw hx rfl
   subst h1
   have h2:e7 E w F d x (kv k) (fp k):=h.dH k _ fc
   obtain⟨l,h3,h4⟩:=h2.take (wd:=wd) (hi:=hi) (hp _ (by simp))
   refine⟨by simp,by simp[fc],fun hd=> ?_,h3.lD (fun b hb=> .inl hb) (fun b hb=> .inr ⟨k,by simp,h4.subset hb⟩)⟩
   subst hd
   exact⟨l,h3.QX,h4.nodup (h.nodup k _ fc),fun b hb=>⟨k,by simp,h4.subset hb⟩⟩
  ·rename_i x dead he
   cases ht
   have fc:=j0 he
   obtain⟨h1,_⟩:=cw hx rfl
   subst h1
   have h2:eE E w F dead x (kv k) (fp k):=h.dH k _ fc
   obtain⟨l,h3,h4⟩:=h2.UI (wd:=wd) (hi:=hi) (hp _ (by simp)) (hp _ (by simp))
   exact⟨by simp,by simp[fc],fun _=>⟨l,h3.QX,h4.nodup (h.nodup k _ fc),fun b hb=>⟨k,by simp,h4.subset hb⟩⟩,h3.lD (fun b hb=> .inl hb) (fun b hb=> .inr ⟨k,by simp,h4.subset hb⟩)⟩
  ·cases ht
 ·cases ht
theorem HU{ks ks':List Key}(h:∀k∈ks,k∈ks'){b:Nat}:FK F fp ks b->FK F fp ks' b:=
 fun hb=>hb.imp id (fun⟨k,hk,hb⟩=>⟨k,h k hk,hb⟩)
theorem Vm(h:cM E pm F kv fp σ a w){ks ks':List Key}(hn:(ks++ks').Nodup)(h1:∀k∈ks,(σ.bO k).isSome=true)(h2:∀k∈ks',(σ.bO k).isSome=true){l l':List Nat}
  (hl:∀b∈l,∃k∈ks,b∈fp k) (Ii:∀b∈l',∃k∈ks',b∈fp k) (hnl:l.Nodup) (am7:l'.Nodup):(l++l').Nodup:=by
 rw[rK] at hn⊢
 refine⟨hnl,am7,fun b hb b' bj he=> ?_⟩
 subst he
 obtain⟨k,hk,iM⟩:=hl b hb
 obtain⟨k',cU,abk⟩:=Ii b bj
 obtain⟨e,he⟩:=nf.1 (h1 k hk)
 obtain⟨e',fc⟩:=nf.1 (h2 k' cU)
 exact h.apart k k' e e' b (hn.2.2 k hk k' cU) he fc iM abk
theorem MM(h:cM E pm F kv fp σ a w){rs:List Key}:∀{xs:List (AC U)}{want:List (Option U.Ty)}{vs:List Value}{ps:List Prop}{cs:List U.C}{ks:List Key}{d:Bool},
  fe (restrict σ.bO rs) want xs=some (ps,cs,ks,d)->(∀p∈ps,p)->mc E w F kv fp (bW σ) xs vs->ks.Nodup->
  cs.length=xs.length/\(∀k∈ks,(σ.bO k).isSome=true)/\
  (d=true->∃fl:List (List Nat),fl.length=cs.length/\(∀(i:Nat)(c:U.C),cs[i]? =some c->Rp E w F true c (vs.getD i undef) (fl.getD i []))/\fl.flatten.Nodup/\∀b∈fl.flatten,∃k∈ks,b∈fp k)/\
  (∀(i:Nat)(c:U.C),cs[i]? =some c->Rp E w (FK F fp ks) false c (vs.getD i undef) []):=by
 intro xs
 induction xs with
 |nil=>
  intro want vs ps cs ks d ht hp hx hn
  simp only[fe,gA,pq] at ht
  obtain⟨rfl,rfl,rfl,rfl⟩:=ht
  exact⟨rfl,by simp,fun _=>⟨[],by simp,fun i c hc=>by simp at hc,by simp,by simp⟩,fun i c hc=>by simp at hc⟩
 |cons x xs ih=>
  intro want vs ps cs ks d ht hp hx hn
  simp only[fe] at ht
  split at ht
  ·rename_i Um c1 ks1 d1 ps2 cs2 ks2 d2 h1 h2
   cases ht
   cases vs with
   |nil=>have:=hx.1;simp at this
   |cons v vs=>
    have hx1:RD E w F kv fp (bW σ) x v:=hx.2 0 x v rfl rfl
    have hx2:mc E w F kv fp (bW σ) xs vs:=⟨by have:=hx.1;simpa using this,fun i y u hy hu=>hx.2 (i+1) y u (by simpa using hy) (by simpa using hu)⟩
    have wm:=hn
    rw[rK] at wm
    obtain⟨_,g2,g3,g4⟩:=akx h h1 (fun p kJ=>hp p (by simp[kJ])) hx1
    obtain⟨i1,i2,i3,i4⟩:=ih h2 (fun p kJ=>hp p (by simp[kJ])) hx2 wm.2.1
    refine⟨by simp[i1],fun k hk=> ?_,fun hd=> ?_,fun i c hc=> ?_⟩
    ·rcases jC.1 hk with hk|hk
     ·exact g2 k hk
     ·exact i2 k hk
    ·simp only[cJ] at hd
     obtain⟨l,Oe,Bc,PV⟩:=g3 hd.1
     obtain⟨fl,f1,f2,f3,f4⟩:=i3 hd.2
     refine⟨l::fl,by simp[f1],fun i c hc=> ?_,?_,fun b hb=> ?_⟩
     ·cases i with
      |zero=>simp only[vn,gA] at hc;subst hc;exact Oe
      |succ i=>exact f2 i c (by simpa using hc)
     ·rw[Ms]
      exact Vm h hn g2 i2 PV f4 Bc f3
     ·rw[Ms,jC] at hb
      rcases hb with hb|hb
      ·obtain⟨k,hk,hb⟩:=PV b hb;exact⟨k,by simp[hk],hb⟩
      ·obtain⟨k,hk,hb⟩:=f4 b hb;exact⟨k,by simp[hk],hb⟩
    ·cases i with
     |zero=>simp only[vn,gA] at hc;subst hc;exact g4.fT (fun b hb=>HU (fun k hk=>by simp[hk]) hb)
     |succ i=>exact(i4 i c (by simpa using hc)).fT (fun b hb=>HU (fun k hk=>by simp[hk]) hb)
  ·cases ht
theorem eW.single{deep:Bool}{τ:U.Ty}{y:U.T τ}{cs:List U.C}{vs:List Value}{fl:List (List Nat)}(hd:U.dec τ cs=some y)(hl:vs.length=cs.length)(Gd:fl.length=cs.length)
  (h:∀(i:Nat)(c:U.C),cs[i]? =some c->Rp E w F deep c (vs.getD i undef) (fl.getD i [])):eW E w F deep τ [y] vs fl:=by
 have he:=U.mT τ cs y hd
 have hw:cs.length=U.wd τ:=by rw[<-he,U.dz]
 refine⟨by simp[hl,hw],by simp[Gd,hw],fun i x j c hx hj=> ?_⟩
 cases i with
 |zero=>
  simp only[vn,gA] at hx
  subst hx
  rw[he] at hj
  simp only[Nat.zero_mul,vk]
  exact h j c hj
 |succ i=>simp at hx
theorem akW(h:cM E pm F kv fp σ a w){rs:List Key}{τ:U.Ty}{want:List (Option U.Ty)}:∀{xs:List (SV U)}{us:List Value}{ps:List Prop}{rows:List (U.T τ)}{ks:List Key}{d:Bool},
  rowsOf τ (restrict σ.bO rs) want xs=some (ps,rows,ks,d)->(∀p∈ps,p)->xs.length=us.length->(∀(i:Nat)(x:SV U)(u:Value),xs[i]? =some x->us[i]? =some u->RS E w F kv fp (bW σ) x u)->ks.Nodup->
  rows.length=xs.length/\(∀u∈us,u.cells.size=U.wd τ)/\(∀k∈ks,(σ.bO k).isSome=true)/\
  (d=true->∃fl,eW E w F true τ rows (us.flatMap fun u=>u.cells.toList) fl/\fl.flatten.Nodup/\∀b∈fl.flatten,∃k∈ks,b∈fp k)/\
  ∃fl,eW E w (FK F fp ks) false τ rows (us.flatMap fun u=>u.cells.toList) fl/\fl.flatten=[]:=by
 intro xs
 induction xs with
 |nil=>
  intro us ps rows ks d ht hp hl hx hn
  cases us with
  |cons u us=>simp at hl
  |nil=>
   simp only[rowsOf,gA,pq] at ht
   obtain⟨rfl,rfl,rfl,rfl⟩:=ht
   exact⟨rfl,by simp,by simp,fun _=>⟨[],eW.nil,by simp,by simp⟩,[],eW.nil,rfl⟩
 |cons x xs ih=>
  intro us ps rows ks d ht hp hl hx hn
  cases us with
  |nil=>simp at hl
  |cons u us=>
   cases x with
   |wv l=>simp[rowsOf] at ht
   |fn p=>simp[rowsOf] at ht
   |Hk g l=>simp[rowsOf] at ht
   |v x=>
    simp only[rowsOf] at ht
    split at ht
    ·rename_i Um cs1 ks1 d1 ps2 ap3 ks2 d2 h1 h2
     split at ht
     ·rename_i y hy
      cases ht
      obtain⟨r1,r2⟩:=Pp (hx 0 (.v x) u rfl rfl)
      have wm:=hn
      rw[rK] at wm
      obtain⟨t1,t2,t3,t4⟩:=MM h h1 (fun p kJ=>hp p (by simp[kJ])) r1 wm.1
      obtain⟨i1,i2,i3,i4,i5⟩:=ih h2 (fun p kJ=>hp p (by simp[kJ])) (by simpa using hl) (fun i z v hz hv=>hx (i+1) z v (by simpa using hz) (by simpa using hv)) wm.2.1
      have he:=U.mT τ cs1 y hy
      have hw:cs1.length=U.wd τ:=by rw[<-he,U.dz]
      have iv:u.cells.toList.length=cs1.length:=by simp[r2,t1]
      refine⟨by simp[i1],fun v hv=> ?_,fun k hk=> ?_,fun hd=> ?_,?_⟩
      ·rcases jZ.1 hv with rfl|hv
       ·rw[r2,<-t1,hw]
       ·exact i2 v hv
      ·rcases jC.1 hk with hk|hk
       ·exact t2 k hk
       ·exact i3 k hk
      ·simp only[cJ] at hd
       obtain⟨fl1,f1,f2,f3,f4⟩:=t3 hd.1
       obtain⟨fl2,g1,g2,g3⟩:=i4 hd.2
       refine⟨fl1++fl2,?_,?_,fun b hb=> ?_⟩
       ·rw[zB]
        exact eW.append (xs:=[y]) (eW.single hy iv f1 f2) g1
       ·rw[Mg]
        exact Vm h hn t2 i3 f4 g3 f3 g2
       ·rw[Mg,jC] at hb
        rcases hb with hb|hb
        ·obtain⟨k,hk,hb⟩:=f4 b hb;exact⟨k,by simp[hk],hb⟩
        ·obtain⟨k,hk,hb⟩:=g3 b hb;exact⟨k,by simp[hk],hb⟩
      ·obtain⟨fl2,g1,g2⟩:=i5
       refine⟨List.replicate cs1.length []++fl2,?_,by rw[Mg,zN,g2];rfl⟩
       rw[zB]
       refine eW.append (xs:=[y]) (eW.single hy iv (by simp) (fun i c hc=> ?_)) (g1.gg (fun b hb=>⟨HU (fun k hk=>by simp[hk]) hb,rfl⟩) (by simp[g2]))
       rw[HP]
       exact(t4 i c hc).fT (fun b hb=>HU (fun k hk=>by simp[hk]) hb)
     ·cases ht
    ·cases ht
end AM
