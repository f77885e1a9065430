/- THE ABSTRACT MACHINE: what is taken over for good. -/
import Derived.Test.YtceiiofmelhipaaGreatAmMem
namespace AM
set_option linter.unusedVariables false
open Go
variable{U:Uni}{E:Env U}{pm:Pm}
variable{F F':Nat→Prop}{kv:Key→Value}{fp:Key→List Nat}{σ:AState U}{a:Act}{w w':World}{bad:Key→Bool}
theorem qade{l:List Key}:distinct l=true↔l.Nodup:=by
 induction l with
 |nil=>simp[distinct]
 |cons k l ih=>
  simp only[distinct,zaf,zbd,zbe,ih]
  rw[←zbj,qaaw]
theorem ROwnP.takeOwn{dead:Nat→Bool}{x:Arr U}{v:Value}{l:List Nat}(h:ROwnP E w F dead x v l){wd hi:Nat}(hh:hi≤x.xs.length)(hal:∀i,i<hi→dead i=false):
  ∃l',ROwn E w F true ⟨x.τ,x.xs.take hi⟩ (subV wd 0 hi v) l'∧l'.Sublist l:=by
 obtain⟨τ,xs⟩:=x
 simp only at hh
 rcases h with⟨h1,⟨ad,h2⟩,h3⟩|⟨b,cap,cur,vs,fps,h1,h2,h3,h4,h5,h6,h7,h8,h9⟩
 ·simp only at h1;subst h1 h2 h3
  simp only[zbo] at hh
  have:hi=0:=by omega
  subst this
  exact⟨[],.inl ⟨rfl,⟨ad,by simp[subV]⟩,rfl⟩,zdi _⟩
 ·simp only at h1 h2 h3 h5 h6 h7 h9
  subst h1 h9
  have hlen:(xs.take hi).length=hi:=by simp;omega
  have hle:hi*U.wd τ≤xs.length*U.wd τ:=zbc _ hh
  refine⟨b::(List.range (hi*U.wd τ)).flatMap fps,.inr ⟨b,cap,cur,vs,fps,?_,h2,by simp only[hlen];omega,h4,h5,fun i hi'=>(h6 i (by simp only[hlen] at hi';omega)).1,fun i y j c hx hj=> ?_,by simp only[hlen]⟩,?_⟩
  ·simp only[hlen,subV,Nat.sub_zero,Nat.zero_mul,Value.slice.injEq,and_true]
   split<;>simp[Addr.add]
  ·simp only at hx
   rw[zan] at hx
   split at hx
   ·rename_i hlt;exact h7 i y j c (hal i hlt) hx hj
   ·cases hx
  ·refine List.Sublist.cons_cons _ ?_
   have:List.range (xs.length*U.wd τ)=List.range (hi*U.wd τ)++(List.range (xs.length*U.wd τ-hi*U.wd τ)).map (·+hi*U.wd τ):=by
    have:=List.range_add (n:=hi*U.wd τ) (m:=xs.length*U.wd τ-hi*U.wd τ)
    rw[show hi*U.wd τ+(xs.length*U.wd τ-hi*U.wd τ)=xs.length*U.wd τ by omega] at this
    rw[this]
    congr 1
    refine zcr fun a _=> ?_
    omega
   rw[this,zep]
   exact zer _ _
def FK(F:Nat→Prop)(fp:Key→List Nat)(ks:List Key)(b:Nat):Prop:=F b∨∃k∈ks,b∈fp k
theorem qand(h:Sim E pm F kv fp σ a w){rs:List Key}{want:Option U.Ty}{x:AC U}{v:Value}{ps:List Prop}{c:U.C}{ks:List Key}{d:Bool}
  (ht:takeCell (restrict σ.ent rs) want x=some (ps,c,ks,d)) (hp:∀p∈ps,p) (hx:RD E w F kv fp (badK σ) x v):
  ks.Nodup∧(∀k∈ks,(σ.ent k).isSome=true)∧
  (d=true→∃l,Rp E w F true c v l∧l.Nodup∧∀b∈l,∃k∈ks,b∈fp k)∧
  Rp E w (FK F fp ks) false c v []:=by
 unfold takeCell at ht
 split at ht
 ·cases ht
  have:=qaac hx
  subst this
  have ho:LitOk v:=(RA_of hx rfl:Rp E w F false _ _ _).litOk
  exact⟨by simp,by simp,fun _=>⟨[],.lit _ _ ho,by simp,by simp⟩,.lit _ _ ho⟩
 ·cases ht
  have h1:Rp E w F false _ _ _:=RA_of hx rfl
  exact⟨by simp,by simp,by simp,h1.widen (fun b hb=> .inl hb)⟩
 ·split at ht
  ·cases ht
   obtain⟨ad,h1⟩:=RA_of hx rfl
   subst h1
   exact⟨by simp,by simp,fun _=>⟨[],.nil _ _ _ _ (fun _=>rfl),by simp,by simp⟩,.nil _ _ _ _ (by simp)⟩
  ·cases ht
 ·rename_i k
  split at ht
  ·rename_i x d' he
   cases ht
   have he':=qald he
   have h1:v=kv k:=RA_of hx rfl
   subst h1
   have h2:=h.ents k _ he'
   refine⟨by simp,by simp[he'],fun hd=> ?_,h2.share (fun b hb=> .inl hb) (fun b hb=> .inr ⟨k,by simp,hb⟩)⟩
   subst hd
   exact⟨fp k,h2.toRp,h.nodup k _ he',fun b hb=>⟨k,by simp,hb⟩⟩
  ·rename_i x dead he
   cases ht
   have he':=qald he
   have h1:v=kv k:=RA_of hx rfl
   subst h1
   have h2:ROwn E w F true x (kv k) (fp k):=ROwnP.own (h.ents k _ he') (hp _ (by simp))
   exact⟨by simp,by simp[he'],fun _=>⟨fp k,h2.toRp,h.nodup k _ he',fun b hb=>⟨k,by simp,hb⟩⟩,h2.share (fun b hb=> .inl hb) (fun b hb=> .inr ⟨k,by simp,hb⟩)⟩
  ·cases ht
 ·rename_i k wd hi
  split at ht
  ·rename_i x d' he
   cases ht
   have he':=qald he
   obtain⟨h1,_⟩:=RA_of hx rfl
   subst h1
   have h2:ROwn E w F d x (kv k) (fp k):=h.ents k _ he'
   obtain⟨l,h3,h4⟩:=h2.take (wd:=wd) (hi:=hi) (hp _ (by simp))
   refine⟨by simp,by simp[he'],fun hd=> ?_,h3.share (fun b hb=> .inl hb) (fun b hb=> .inr ⟨k,by simp,h4.subset hb⟩)⟩
   subst hd
   exact⟨l,h3.toRp,h4.nodup (h.nodup k _ he'),fun b hb=>⟨k,by simp,h4.subset hb⟩⟩
  ·rename_i x dead he
   cases ht
   have he':=qald he
   obtain⟨h1,_⟩:=RA_of hx rfl
   subst h1
   have h2:ROwnP E w F dead x (kv k) (fp k):=h.ents k _ he'
   obtain⟨l,h3,h4⟩:=h2.takeOwn (wd:=wd) (hi:=hi) (hp _ (by simp)) (hp _ (by simp))
   exact⟨by simp,by simp[he'],fun _=>⟨l,h3.toRp,h4.nodup (h.nodup k _ he'),fun b hb=>⟨k,by simp,h4.subset hb⟩⟩,h3.share (fun b hb=> .inl hb) (fun b hb=> .inr ⟨k,by simp,h4.subset hb⟩)⟩
  ·cases ht
 ·cases ht
theorem qaab{ks ks':List Key}(h:∀k∈ks,k∈ks'){b:Nat}:FK F fp ks b→FK F fp ks' b:=
 fun hb=>hb.imp id (fun⟨k,hk,hb⟩=>⟨k,h k hk,hb⟩)
theorem qaax(h:Sim E pm F kv fp σ a w){ks ks':List Key}(hn:(ks++ks').Nodup)(h1:∀k∈ks,(σ.ent k).isSome=true)(h2:∀k∈ks',(σ.ent k).isSome=true){l l':List Nat}
  (hl:∀b∈l,∃k∈ks,b∈fp k) (hl':∀b∈l',∃k∈ks',b∈fp k) (hnl:l.Nodup) (hnl':l'.Nodup):(l++l').Nodup:=by
 rw[zav] at hn⊢
 refine⟨hnl,hnl',fun b hb b' hb' he=> ?_⟩
 subst he
 obtain⟨k,hk,hbk⟩:=hl b hb
 obtain⟨k',hk',hbk'⟩:=hl' b hb'
 obtain⟨e,he⟩:=zag.1 (h1 k hk)
 obtain⟨e',he'⟩:=zag.1 (h2 k' hk')
 exact h.apart k k' e e' b (hn.2.2 k hk k' hk') he he' hbk hbk'
theorem qang(h:Sim E pm F kv fp σ a w){rs:List Key}:∀{xs:List (AC U)}{want:List (Option U.Ty)}{vs:List Value}{ps:List Prop}{cs:List U.C}{ks:List Key}{d:Bool},
  takeCells (restrict σ.ent rs) want xs=some (ps,cs,ks,d)→(∀p∈ps,p)→RDs E w F kv fp (badK σ) xs vs→ks.Nodup→
  cs.length=xs.length∧(∀k∈ks,(σ.ent k).isSome=true)∧
  (d=true→∃fl:List (List Nat),fl.length=cs.length∧(∀(i:Nat)(c:U.C),cs[i]? =some c→Rp E w F true c (vs.getD i undef) (fl.getD i []))∧fl.flatten.Nodup∧∀b∈fl.flatten,∃k∈ks,b∈fp k)∧
  (∀(i:Nat)(c:U.C),cs[i]? =some c→Rp E w (FK F fp ks) false c (vs.getD i undef) []):=by
 intro xs
 induction xs with
 |nil=>
  intro want vs ps cs ks d ht hp hx hn
  simp only[takeCells,zae,zax] at ht
  obtain⟨rfl,rfl,rfl,rfl⟩:=ht
  exact⟨rfl,by simp,fun _=>⟨[],by simp,fun i c hc=>by simp at hc,by simp,by simp⟩,fun i c hc=>by simp at hc⟩
 |cons x xs ih=>
  intro want vs ps cs ks d ht hp hx hn
  simp only[takeCells] at ht
  split at ht
  ·rename_i ps1 c1 ks1 d1 ps2 cs2 ks2 d2 h1 h2
   cases ht
   cases vs with
   |nil=>have:=hx.1;simp at this
   |cons v vs=>
    have hx1:RD E w F kv fp (badK σ) x v:=hx.2 0 x v rfl rfl
    have hx2:RDs E w F kv fp (badK σ) xs vs:=⟨by have:=hx.1;simpa using this,fun i y u hy hu=>hx.2 (i+1) y u (by simpa using hy) (by simpa using hu)⟩
    have hn':=hn
    rw[zav] at hn'
    obtain⟨_,g2,g3,g4⟩:=qand h h1 (fun p hp'=>hp p (by simp[hp'])) hx1
    obtain⟨i1,i2,i3,i4⟩:=ih h2 (fun p hp'=>hp p (by simp[hp'])) hx2 hn'.2.1
    refine⟨by simp[i1],fun k hk=> ?_,fun hd=> ?_,fun i c hc=> ?_⟩
    ·rcases zao.1 hk with hk|hk
     ·exact g2 k hk
     ·exact i2 k hk
    ·simp only[zaf] at hd
     obtain⟨l,hl1,hl2,hl3⟩:=g3 hd.1
     obtain⟨fl,f1,f2,f3,f4⟩:=i3 hd.2
     refine⟨l::fl,by simp[f1],fun i c hc=> ?_,?_,fun b hb=> ?_⟩
     ·cases i with
      |zero=>simp only[zam,zae] at hc;subst hc;exact hl1
      |succ i=>exact f2 i c (by simpa using hc)
     ·rw[zbz]
      exact qaax h hn g2 i2 hl3 f4 hl2 f3
     ·rw[zbz,zao] at hb
      rcases hb with hb|hb
      ·obtain⟨k,hk,hb⟩:=hl3 b hb;exact⟨k,by simp[hk],hb⟩
      ·obtain⟨k,hk,hb⟩:=f4 b hb;exact⟨k,by simp[hk],hb⟩
    ·cases i with
     |zero=>simp only[zam,zae] at hc;subst hc;exact g4.widen (fun b hb=>qaab (fun k hk=>by simp[hk]) hb)
     |succ i=>exact(i4 i c (by simpa using hc)).widen (fun b hb=>qaab (fun k hk=>by simp[hk]) hb)
  ·cases ht
theorem RRow.single{deep:Bool}{τ:U.Ty}{y:U.T τ}{cs:List U.C}{vs:List Value}{fl:List (List Nat)}(hd:U.dec τ cs=some y)(hl:vs.length=cs.length)(hfl:fl.length=cs.length)
  (h:∀(i:Nat)(c:U.C),cs[i]? =some c→Rp E w F deep c (vs.getD i undef) (fl.getD i [])):RRow E w F deep τ [y] vs fl:=by
 have he:=U.enc_dec τ cs y hd
 have hw:cs.length=U.wd τ:=by rw[←he,U.enc_len]
 refine⟨by simp[hl,hw],by simp[hfl,hw],fun i x j c hx hj=> ?_⟩
 cases i with
 |zero=>
  simp only[zam,zae] at hx
  subst hx
  rw[he] at hj
  simp only[Nat.zero_mul,zbw]
  exact h j c hj
 |succ i=>simp at hx
theorem qali(h:Sim E pm F kv fp σ a w){rs:List Key}{τ:U.Ty}{want:List (Option U.Ty)}:∀{xs:List (SV U)}{us:List Value}{ps:List Prop}{rows:List (U.T τ)}{ks:List Key}{d:Bool},
  rowsOf τ (restrict σ.ent rs) want xs=some (ps,rows,ks,d)→(∀p∈ps,p)→xs.length=us.length→(∀(i:Nat)(x:SV U)(u:Value),xs[i]? =some x→us[i]? =some u→RS E w F kv fp (badK σ) x u)→ks.Nodup→
  rows.length=xs.length∧(∀u∈us,u.cells.size=U.wd τ)∧(∀k∈ks,(σ.ent k).isSome=true)∧
  (d=true→∃fl,RRow E w F true τ rows (us.flatMap fun u=>u.cells.toList) fl∧fl.flatten.Nodup∧∀b∈fl.flatten,∃k∈ks,b∈fp k)∧
  ∃fl,RRow E w (FK F fp ks) false τ rows (us.flatMap fun u=>u.cells.toList) fl∧fl.flatten=[]:=by
 intro xs
 induction xs with
 |nil=>
  intro us ps rows ks d ht hp hl hx hn
  cases us with
  |cons u us=>simp at hl
  |nil=>
   simp only[rowsOf,zae,zax] at ht
   obtain⟨rfl,rfl,rfl,rfl⟩:=ht
   exact⟨rfl,by simp,by simp,fun _=>⟨[],RRow.nil,by simp,by simp⟩,[],RRow.nil,rfl⟩
 |cons x xs ih=>
  intro us ps rows ks d ht hp hl hx hn
  cases us with
  |nil=>simp at hl
  |cons u us=>
   cases x with
   |tup l=>simp[rowsOf] at ht
   |fn p=>simp[rowsOf] at ht
   |clo g l=>simp[rowsOf] at ht
   |v x=>
    simp only[rowsOf] at ht
    split at ht
    ·rename_i ps1 cs1 ks1 d1 ps2 rows2 ks2 d2 h1 h2
     split at ht
     ·rename_i y hy
      cases ht
      obtain⟨r1,r2⟩:=qaaj (hx 0 (.v x) u rfl rfl)
      have hn':=hn
      rw[zav] at hn'
      obtain⟨t1,t2,t3,t4⟩:=qang h h1 (fun p hp'=>hp p (by simp[hp'])) r1 hn'.1
      obtain⟨i1,i2,i3,i4,i5⟩:=ih h2 (fun p hp'=>hp p (by simp[hp'])) (by simpa using hl) (fun i z v hz hv=>hx (i+1) z v (by simpa using hz) (by simpa using hv)) hn'.2.1
      have he:=U.enc_dec τ cs1 y hy
      have hw:cs1.length=U.wd τ:=by rw[←he,U.enc_len]
      have hcl:u.cells.toList.length=cs1.length:=by simp[r2,t1]
      refine⟨by simp[i1],fun v hv=> ?_,fun k hk=> ?_,fun hd=> ?_,?_⟩
      ·rcases zak.1 hv with rfl|hv
       ·rw[r2,←t1,hw]
       ·exact i2 v hv
      ·rcases zao.1 hk with hk|hk
       ·exact t2 k hk
       ·exact i3 k hk
      ·simp only[zaf] at hd
       obtain⟨fl1,f1,f2,f3,f4⟩:=t3 hd.1
       obtain⟨fl2,g1,g2,g3⟩:=i4 hd.2
       refine⟨fl1++fl2,?_,?_,fun b hb=> ?_⟩
       ·rw[zbm]
        exact RRow.append (xs:=[y]) (RRow.single hy hcl f1 f2) g1
       ·rw[zcc]
        exact qaax h hn t2 i3 f4 g3 f3 g2
       ·rw[zcc,zao] at hb
        rcases hb with hb|hb
        ·obtain⟨k,hk,hb⟩:=f4 b hb;exact⟨k,by simp[hk],hb⟩
        ·obtain⟨k,hk,hb⟩:=g3 b hb;exact⟨k,by simp[hk],hb⟩
      ·obtain⟨fl2,g1,g2⟩:=i5
       refine⟨List.replicate cs1.length []++fl2,?_,by rw[zcc,qaer,g2];rfl⟩
       rw[zbm]
       refine RRow.append (xs:=[y]) (RRow.single hy hcl (by simp) (fun i c hc=> ?_)) (g1.keep (fun b hb=>⟨qaab (fun k hk=>by simp[hk]) hb,rfl⟩) (by simp[g2]))
       rw[qafs]
       exact(t4 i c hc).widen (fun b hb=>qaab (fun k hk=>by simp[hk]) hb)
     ·cases ht
    ·cases ht
end AM
