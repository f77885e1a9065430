import Derived.Test.YtknfcngfhlpaeaaGreatDoorQAmCall2
namespace AM
set_option linter.unusedVariables false
open Go
variable{U:kz}{E:Env U}{pm:Pm}
variable{F F':Nat->Prop}{kv:Key->Value}{fp:Key->List Nat}{σ:ak U}{a:Act}{w w':World}{bad:Key->Bool}
theorem ahA{kv':Key->Value}{fp':Key->List Nat}{bad':Key->Bool}{y:AC U}{v:Value}(hs:y.still=true)(h:RD E w F kv fp bad y v)(hk:∀k∈y.keys,kv' k=kv k)
  (hF:∀b,F b->F' b/\w'.heap[b]? =w.heap[b]?):RD E w' F' kv' fp' bad' y v:=by
 have hb:hJ bad y=false:=by
  unfold AC.still at hs
  split at hs<;>first|rfl|cases hs
 refine⟨h.1,.inr ?_⟩
 have h0:=ca h hb
 unfold AC.still at hs
 split at hs
 ·exact Rp.fC h0 hF (by simp)
 ·exact h0
 ·rename_i k
  simp only[RA] at h0⊢
  rw[hk k (by simp[AC.keys])];exact h0
 ·rename_i k off
  simp only[RA] at h0⊢
  rw[hk k (by simp[AC.keys])];exact h0
 ·cases hs
theorem aah{kv':Key->Value}{fp':Key->List Nat}{bad':Key->Bool}{xs:List (AC U)}{vs:List Value}(hs:xs.all AC.still=true)(h:kU E w F kv fp bad xs vs)(hk:∀y∈xs,∀k∈y.keys,kv' k=kv k)
  (hF:∀b,F b->F' b/\w'.heap[b]? =w.heap[b]?):kU E w' F' kv' fp' bad' xs vs:=
 ⟨h.1,fun i y v hy hv=>ahA (sh.1 hs y (Em hy)) (h.2 i y v hy hv) (hk y (Em hy)) hF⟩
theorem WV(h:cG E pm F kv fp σ a w):∀{ks:List Key},ks.Nodup->(∀k∈ks,(σ.bH k).isSome=true)->(ks.flatMap fp).Nodup
 |[],_,_=>by simp
 |k::ks,hn,hl=>by
  rw[yb,p8]
  obtain⟨e,he⟩:=l6.1 (hl k gS)
  rw[sC] at hn
  refine⟨h.nodup k e he,WV h hn.2 (fun k' cK=>hl k' (e8 _ cK)),fun b hb c hc e'=> ?_⟩
  subst e'
  obtain⟨k',cK,bg⟩:=nF.1 hc
  obtain⟨e2,sJ⟩:=l6.1 (hl k' (e8 _ cK))
  exact h.apart k k' e e2 b (fun e=>hn.1 (e▸cK)) he sJ hb bg
theorem Wu(h:cG E pm F kv fp σ a w){rs:List Key}:∀{xs:List (AC U)}{vs:List Value}{cs uy:List U.C}{ks:List Key}{us:List (Key×ie U)}{fl:List (List Nat)},iT (restrict σ.bH rs) xs=some (cs,ks)->kU E w F kv fp (bR σ) xs vs->
  lh xs uy=some us->fl.length=uy.length->(∀(i:Nat)(c:U.C),uy[i]? =some c->Rp E w' F' true c (vs.getD i undef) (fl.getD i []))->
  us.map (·.1)=ks/\∃tl:List (Key×ie U×List Nat),tl.map (fun t=>(t.1,t.2.1))=us/\(∀s∈tl,∀kv' fp' bad',sg E w' F' kv' fp' bad' s.2.1 (kv s.1) s.2.2)/\tl.flatMap (·.2.2)=fl.flatten
 |[],vs,cs,uy,ks,us,fl,hw,hx,hu,hl,hr=>by
  simp only[iT,fM,nT] at hw
  obtain⟨rfl,rfl⟩:=hw
  cases uy with
  |cons _ _=>simp[lh] at hu
  |nil=>
   simp only[lh,fM] at hu
   subst hu
   have:fl=[]:=Fy hl
   subst this
   exact⟨rfl,[],rfl,by simp,rfl⟩
 |x::xs,vs,cs,uy,ks,us,fl,hw,hx,hu,hl,hr=>by
  obtain⟨v,uP,rfl,h1,h2⟩:=hx.cons_inv
  cases uy with
  |nil=>unfold lh at hu;split at hu<;>first|(rename_i e1 e2;cases e1;done)|(rename_i e1 e2;cases e2;done)|cases hu
  |cons c uy=>
   cases fl with
   |nil=>simp at hl
   |cons l fl=>
    have Sh:Rp E w' F' true c v l:=by simpa using hr 0 c rfl
    have Ed:∀(i:Nat)(c:U.C),uy[i]? =some c->Rp E w' F' true c (uP.getD i undef) (fl.getD i []):=fun i c hc=>by simpa using hr (i+1) c (by simpa using hc)
    have Ls:fl.length=uy.length:=by simpa using hl
    unfold iT at hw
    split at hw
    ·rename_i oq;cases oq
    ·rename_i u r oq
     cases oq
     split at hw
     ·rename_i cs0 ks0 EN
      cases hw
      cases c with
      |sl τ ys=>simp[lh] at hu
      |lit u'=>
       simp only[lh] at hu
       obtain⟨i1,tl,i2,i3,i4⟩:=Wu h EN h2 hu Ls Ed
       obtain⟨rfl,_,_⟩:=Sh.jI
       exact⟨i1,tl,i2,i3,by simpa using i4⟩
     ·cases hw
    ·rename_i k r oq
     cases oq
     split at hw
     ·rename_i y cs0 ks0 he EN
      cases hw
      cases c with
      |lit _=>simp[lh] at hu
      |sl τ ys=>
       simp only[lh] at hu
       split at hu
       ·rename_i Nn rf
        cases hu
        obtain⟨i1,tl,i2,i3,i4⟩:=Wu h EN h2 rf Ls Ed
        have hv:v=kv k:=ca h1 rfl
        refine⟨by simp[i1],(k,.arr ⟨τ,ys⟩ true,l)::tl,by simp[i2],fun s hs kv' fp' bad'=> ?_,by simp[i4]⟩
        rcases jF.1 hs with rfl|hs
        ·rw[<-hv];exact Sh.F9
        ·exact i3 s hs kv' fp' bad'
       ·cases hu
     ·cases hw
    ·cases hw
theorem Rp.R3{c:U.C}{v:Value}{l:List Nat}(h:Rp E w F false c v l){b:Nat}(hb:b∈l):F' b:=by
 generalize hm:false=m at h
 cases h with
 |lit=>cases hb
 |nil=>cases hb
 |shr=>cases hb
 |own=>cases hm
def KJ(E:Env U)(σ:ak U)(w:World)(F:Nat->Prop)(kv:Key->Value)(fp:Key->List Nat)(mB:Nat)(ks:List Key)(l:List Nat)(us:List (Key×ie U))(es:List (Nat×ie U))(w':World)(F':Nat->Prop)(ml:List Nat):Prop:=
 ∃(tl:List (Key×ie U×List Nat))(t:eX U),tl.map (fun t=>(t.1,t.2.1))=us/\es=t.es/\
  (∀s∈tl,∀kv' fp' bad',(∀k,Names σ k->kv' k=kv k)->(∀s∈t,kv' (mB,s.1)=s.2.2.1)->sg E w' F' kv' fp' bad' s.2.1 (kv s.1) s.2.2)/\
  (∀s∈t,∀kv' fp' bad',sg E w' F' kv' fp' bad' s.2.1 s.2.2.1 s.2.2.2)/\
  (tl.flatMap (·.2.2)++t.bl).Nodup/\∀b∈tl.flatMap (·.2.2)++t.bl,b∈ml\/(b∉l/\∃k∈ks,b∈fp k)
theorem ahv{tb:pL U}{want:Option U.Ty}{x:AC U}{ps:List Prop}{c:U.C}{ks:List Key}{d:Bool}(h:s6 tb want x=some (ps,c,ks,d)):∀k∈ks,k∈x.keys:=by
 unfold s6 at h
 split at h
 ·cases h;simp
 ·cases h;simp
 ·split at h<;>cases h;simp
 ·split at h<;>cases h<;>simp[AC.keys]
 ·split at h<;>cases h<;>simp[AC.keys]
 ·cases h
theorem aaf{tb:pL U}:∀{xs:List (AC U)}{want:List (Option U.Ty)}{ps:List Prop}{cs:List U.C}{ks:List Key}{d:Bool},eE tb want xs=some (ps,cs,ks,d)->cs.length=xs.length
 |[],want,ps,cs,ks,d,h=>by
  simp only[eE,fM,nT] at h
  obtain⟨_,rfl,_⟩:=h
  rfl
 |x::xs,want,ps,cs,ks,d,h=>by
  simp only[eE] at h
  split at h
  ·rename_i h1 h2
   cases h
   simp[aaf h2]
  ·cases h
theorem kU.CZ{xs:List (AC U)}{vs:List Value}(h:kU E w F kv fp bad xs vs):∀v∈vs,fI v:=by
 intro v hv
 obtain⟨n,hn,rfl⟩:=qD hv
 exact(h.2 n (xs[n]'(by rw[h.1];exact hn)) _ (eW _) (eW hn)).1
theorem Wz{tb:pL U}:∀{xs:List (AC U)}{want:List (Option U.Ty)}{ps:List Prop}{cs:List U.C}{ks:List Key}{d:Bool},eE tb want xs=some (ps,cs,ks,d)->∀k∈ks,∃x∈xs,k∈x.keys
 |[],want,ps,cs,ks,d,h,k,hk=>by
  simp only[eE,fM,nT] at h
  obtain⟨_,_,rfl,_⟩:=h
  cases hk
 |x::xs,want,ps,cs,ks,d,h,k,hk=>by
  simp only[eE] at h
  split at h
  ·rename_i h1 h2
   cases h
   rcases jE.1 hk with hk|hk
   ·exact⟨x,gS,ahv h1 k hk⟩
   ·obtain⟨y,hy,hk⟩:=Wz h2 k hk
    exact⟨y,e8 _ hy,hk⟩
  ·cases h
theorem Ww{tb:pL U}:∀{xs:List (AC U)}{cs:List U.C}{ks:List Key},iT tb xs=some (cs,ks)->∀k∈ks,∃x∈xs,k∈x.keys
 |[],cs,ks,h,k,hk=>by
  simp only[iT,fM,nT] at h
  obtain⟨_,rfl⟩:=h
  cases hk
 |x::xs,cs,ks,h,k,hk=>by
  unfold iT at h
  split at h
  ·rename_i oq;cases oq
  ·rename_i oq;cases oq
   split at h
   ·rename_i h1
    cases h
    obtain⟨y,hy,hk⟩:=Ww h1 k hk
    exact⟨y,e8 _ hy,hk⟩
   ·cases h
  ·rename_i oq;cases oq
   split at h
   ·rename_i h0 h1
    cases h
    rcases jF.1 hk with rfl|hk
    ·exact⟨_,gS,by simp[AC.keys]⟩
    ·obtain⟨y,hy,hk⟩:=Ww h1 k hk
     exact⟨y,e8 _ hy,hk⟩
   ·cases h
  ·cases h
theorem aiP{rs:List Key}{want:List (Option U.Ty)}{m:Mode}{x:SV U}{ps:List Prop}{d:DV U}{ks:List Key}(h:k8 (restrict σ.bH rs) σ.aR want m x=some (ps,d,ks))(tW:∀k∈x.keys,Names σ k):∀k∈ks,Names σ k:=by
 unfold k8 at h
 split at h
 ·split at h
  ·rw[gI] at h
   split at h
   ·split at h
    ·cases h
     intro k hk
     exact tW k (by simpa[SV.keys,SV.Ax,AC.keys] using hk)
    ·cases h
   ·cases h
  ·cases h
 ·rename_i cs
  split at h
  ·rename_i hw
   rw[gI] at h
   split at h
   ·cases h
    intro k hk
    obtain⟨y,hy,hk⟩:=Ww hw k hk
    exact tW k (SV.mem_keys.2 ⟨y,hy,hk⟩)
   ·cases h
  ·cases h
 ·rename_i y
  split at h
  ·rename_i hw
   split at h
   ·rw[gI] at h
    split at h
    ·cases h
     intro k hk
     obtain⟨z,hz,hk⟩:=Wz hw k hk
     exact tW k (SV.mem_keys.2 ⟨z,hz,hk⟩)
    ·cases h
   ·cases h
  ·cases h
 ·rename_i k0
  have Am:Names σ k0:=tW k0 (by simp[SV.keys,SV.Ax,AC.keys])
  split at h
  ·rename_i cs he
   rw[gI] at h
   split at h
   ·split at h
    ·rename_i hw
     rw[gI] at h
     split at h
     ·cases h
      intro k hk
      rcases jF.1 hk with rfl|hk
      ·exact Am
      ·obtain⟨z,hz,hk⟩:=Wz hw k hk
       exact .inr ⟨k0,cs,jx he,z,List.mem_of_mem_take hz,hk⟩
     ·cases h
    ·cases h
   ·cases h
  ·cases h
 ·rename_i k0
  have Am:Names σ k0:=tW k0 (by simp[SV.keys,SV.Ax,AC.keys])
  split at h
  ·rw[gI] at h
   split at h
   ·split at h
    ·cases h
     intro k hk
     rw[mb.1 hk]
     exact Am
    ·cases h
   ·cases h
  ·cases h
 ·cases h
theorem aiO(h:cG E pm F kv fp σ a w){rs:List Key}{want:List (Option U.Ty)}{m:Mode}{x:SV U}{v:Value}{ps:List Prop}{d:DV U}{ks:List Key}
  (ha:k8 (restrict σ.bH rs) σ.aR want m x=some (ps,d,ks)) (hp:∀p∈ps,p) (hx:RS E w F kv fp (bR σ) x v) (tW:∀k∈x.keys,Names σ k)
  {mB:Nat} {dm:List (DV U)} {us:List (Key×ie U)} {es:List (Nat×ie U)} (ic:gO (restrict σ.bH rs) mB want.length m x dm=some (us,es)):
  ∃l,nC E w F m d v l/\ks.Nodup/\(∀k∈ks,(σ.bH k).isSome=true)/\l.Nodup/\(∀b∈l,∃k∈ks,b∈fp k)/\
   (us.map (·.1)).Nodup/\(∀u∈us,u.1∈ks)/\
    ∀(w':World)(F':Nat->Prop)(iw:List (List Nat)),eQ E w' F' w [m] [v] dm iw->(∀b,F b->F' b/\w'.heap[b]? =w.heap[b]?)->(∀k∈ks,∀c∈fp k,c∉l->w'.heap[c]? =w.heap[c]?)->iw.flatten.Nodup->
     (∀b∈iw.flatten,b∈l\/∀k∈ks,b∉fp k)->KJ E σ w F kv fp mB ks l us es w' F' iw.flatten:=by
 have iN:∀{k:Key}{b:Nat},(σ.bH k).isSome=true->b∈fp k->b<w.heap.size:=by
  intro k b hk hb
  obtain⟨e,he⟩:=l6.1 hk
  exact(h.fj k e b he hb).2.2
 unfold k8 at ha
 split at ha
 ·
  rename_i k p
  split at ha
  ·rename_i y he
   have ew:=jx he
   cases gB:fm (restrict σ.bH rs) σ.aR k p<;>simp only[gB,cond_false,cond_true] at ha
   ·cases ha
   ·split at ha
    ·rename_i H_ b hw
     cases ha
     have Aj:=FO hx
     have nt:=ca Aj (FM gB he)
     have h0:eo E w F true y (kv k) (fp k):=h.cW k _ ew
     have X4:(σ.bH k).isSome=true:=by rw[ew];rfl
     unfold gO at ic
     split at ic
     ·rename_i k' p' τ ys oq
      cases oq
      simp only[he] at ic
      split at ic
      ·rename_i a' Ub
       cases ic
       obtain⟨vb,Np,pre,post,b',f1,f2,f3,f4,f5⟩:=h0.focus (h.nodup k _ ew) hw hp Ub
       have hvb:v=vb:=nt.unique f2
       subst hvb
       have hn:=h.nodup k _ ew
       rw[f4,p8,p8] at hn
       refine⟨Np,f3,by simp,by simpa using X4,hn.1.2.1,fun c hc=>⟨k,by simp,by rw[f4];simp[hc]⟩,by simp,by simp,fun w' F' iw IC zx iv Jy MK=> ?_⟩
       cases iw with
       |nil=>exact IC.elim
       |cons l' iw=>
        obtain⟨ML,HE⟩:=IC
        cases iw with
        |cons _ _=>exact HE.elim
        |nil=>
         obtain⟨⟨n1,n2,n3⟩,n4,n5⟩:=hn
         have vB:∀c∈pre++post,c∈fp k/\c∉Np:=by
          intro c hc
          rcases jE.1 hc with hc|hc
          ·exact⟨by rw[f4];simp[hc],fun l_=>n3 c hc c l_ rfl⟩
          ·exact⟨by rw[f4];simp[hc],fun l_=>n5 c (pd _ l_) c hc rfl⟩
         have TT:∀c∈pre++post,c∉l':=by
          intro c hc l_
          rcases MK c (by simpa using l_) with g|g
          ·exact(vB c hc).2 g
          ·exact g k (by simp) (vB c hc).1
         refine⟨[(k,.arr a' true,pre++l'++post)],[],rfl,rfl,fun s hs kv' fp' bad' _ _=> ?_,by simp,?_,fun c hc=> ?_⟩
         ·rw[mb.1 hs]
          split at f1
          ·rename_i zs hz
           have:=dr hz
           cases this
           cases f1
           exact f5 w' F' l' rfl ML (fun c hc=>iv k (by simp) c (vB c hc).1 (vB c hc).2)
          ·cases f1
         ·simp only[yb,Y7,sR,eX.bl]
          have Gb:l'.Nodup:=by simpa using Jy
          rw[p8,p8]
          refine⟨⟨n1,Gb,fun c hc e he e'=>TT c (pP _ hc) (e'▸he)⟩,n4,fun c hc e he e'=> ?_⟩
          rcases jE.1 hc with hc|hc
          ·exact n5 c (pP _ hc) e he e'
          ·exact TT e (pd _ he) (e'▸hc)
         ·simp only[yb,Y7,sR,eX.bl,jE] at hc
          rcases hc with(hc|hc)|hc
          ·exact .inr ⟨(vB c (pP _ hc)).2,k,by simp,(vB c (pP _ hc)).1⟩
          ·exact .inl (by simpa using hc)
          ·exact .inr ⟨(vB c (pd _ hc)).2,k,by simp,(vB c (pd _ hc)).1⟩
      ·cases ic
     all_goals first|(rename_i oq;cases oq;done)|(rename_i oq _;cases oq;done)|cases ic
    ·cases ha
  ·cases ha
 ·
  rename_i cs
  split at ha
  ·rename_i ds ks0 hw
   rw[gI] at ha
   split at ha
   ·rename_i rq
    cases ha
    have sP:=tf.1 rq
    obtain⟨vs,DZ,hv⟩:=hx
    simp only[if_true] at hv
    obtain⟨g1,g2,fl,f1,f2,f3⟩:=Wv h hw DZ
    unfold gO at ic
    split at ic
    ·rename_i oq;cases oq
    ·rename_i uy ds' oq
     cases oq
     split at ic
     ·rename_i Nn hu
      cases ic
      have Am:us.map (·.1)=ks:=by
       have:∀{xs:List (AC U)}{cs uy:List U.C}{ks:List Key}{us:List (Key×ie U)},iT (restrict σ.bH rs) xs=some (cs,ks)->lh xs uy=some us->us.map (·.1)=ks:=by
        intro xs
        induction xs with
        |nil=>
         intro cs uy ks us h1 h2
         simp only[iT,fM,nT] at h1
         cases uy with
         |cons _ _=>simp[lh] at h2
         |nil=>simp only[lh,fM] at h2;subst h2;rw[<-h1.2];rfl
        |cons x xs ih=>
         intro cs uy ks us h1 h2
         unfold iT at h1
         split at h1
         ·rename_i oq;cases oq
         ·rename_i u r oq
          cases oq
          split at h1
          ·rename_i cs0 ks0 hr
           cases h1
           cases uy with
           |nil=>simp[lh] at h2
           |cons c uy=>cases c with
            |sl _ _=>simp[lh] at h2
            |lit _=>simp only[lh] at h2;exact ih hr h2
          ·cases h1
         ·rename_i k r oq
          cases oq
          split at h1
          ·rename_i y cs0 ks0 he hr
           cases h1
           cases uy with
           |nil=>simp[lh] at h2
           |cons c uy=>cases c with
            |lit _=>simp[lh] at h2
            |sl τ ys=>
             simp only[lh] at h2
             split at h2
             ·rename_i Nn rf
              cases h2
              simp[ih hr rf]
             ·cases h2
          ·cases h1
         ·cases h1
       exact this hw hu
      refine⟨fl.flatten,⟨vs,fl,hv,by rw[g1];exact DZ.1.symm,f1,f2,rfl⟩,sP,g2,by rw[f3];exact WV h sP g2,fun c hc=>by rw[f3] at hc;exact nF.1 hc,by rw[Am];exact sP,fun u rf=>by rw[<-Am];exact kW.2 ⟨u,rf,rfl⟩,fun w' F' iw IC zx iv Jy MK=> ?_⟩
      cases iw with
      |nil=>exact IC.elim
      |cons l' iw=>
       obtain⟨ML,HE⟩:=IC
       cases iw with
       |cons _ _=>exact HE.elim
       |nil=>
        obtain⟨uP,fl',e1,e2,e3,e4,e5⟩:=ML
        rw[hv] at e1
        have:uP=vs:=by simpa using e1.symm
        subst this
        obtain⟨i1,tl,i2,i3,i4⟩:=Wu (w':=w') (F':=F') h hw DZ hu e3 e4
        have Gb:l'.Nodup:=by simpa using Jy
        refine⟨tl,[],i2,rfl,fun s hs kv' fp' bad' _ _=>i3 s hs kv' fp' bad',by simp,?_,fun c hc=> ?_⟩
        ·rw[i4,<-e5];simpa[eX.bl] using Gb
        ·rw[i4,<-e5] at hc
         exact .inl (by simpa[eX.bl] using hc)
     ·cases ic
    all_goals first|(rename_i oq;cases oq;done)|(rename_i oq _;cases oq;done)|cases ic
   ·cases ha
  ·cases ha
 ·
  rename_i y
  split at ha
  ·rename_i H_ cs ks' ht
   split at ha
   ·rename_i d' hd
    rw[gI] at ha
    split at ha
    ·rename_i rq
     cases ha
     have sP:=tf.1 rq
     obtain⟨vs,DZ,hv⟩:=hx
     obtain⟨g1,g2,g3,_⟩:=JZ h ht hp DZ sP
     obtain⟨fl,f1,f2,f3,f4⟩:=g3 rfl
     have mV:nC E w F .mv d v fl.flatten:=by
      unfold Kv at hd
      cases Q2:y.agg<;>rw[Q2] at hd hv<;>simp only[cond_true,cond_false,wb,if_false,if_true] at hd hv
      ·split at hd
       ·cases hd
        subst hv
        simp only[ir,ig] at f1
        obtain⟨l,rfl⟩:=List.length_eq_one_iff.1 f1
        simpa[nC] using f2 0 _ rfl
       ·cases hd
      ·cases hd
       exact⟨vs,fl,hv,by rw[g1];exact DZ.1.symm,f1,f2,rfl⟩
     have hdm:dm=[]/\us=[]/\es=[]:=by
      cases dm with
      |nil=>simp only[gO,fM,nT] at ic;exact⟨rfl,ic.1.symm,ic.2.symm⟩
      |cons _ _=>simp[gO] at ic
     obtain⟨rfl,rfl,rfl⟩:=hdm
     refine⟨fl.flatten,mV,sP,g2,f3,f4,by simp,by simp,fun w' F' iw IC zx iv Jy MK=> ?_⟩
     have:iw=[]:=by cases iw with|nil=>rfl|cons _ _=>exact IC.elim
     subst this
     exact⟨[],[],rfl,rfl,by simp,by simp,by simp[eX.bl],by simp[eX.bl]⟩
    ·cases ha
   ·cases ha
  ·cases ha
 ·
  rename_i k
  split at ha
  ·rename_i cs he
   have ew:=jx he
   have X4:(σ.bH k).isSome=true:=by rw[ew];rfl
   rw[gI] at ha
   split at ha
   ·rename_i Yn
    simp only[cH,Nt] at Yn
    obtain⟨Sm,oW⟩:=Yn
    split at ha
    ·rename_i H_ l0 ks' ht
     rw[gI] at ha
     split at ha
     ·rename_i rq
      cases ha
      have sP:=tf.1 rq
      obtain⟨b,h1,h2⟩:=ca (FO hx) rfl
      obtain⟨b',cur,e,h3,h4,h5,h6⟩:=h.cW k _ ew
      rw[h1] at h3;cases h3
      subst h2
      have hlen:cs.length=cur.size:=by have:=h6.1;simpa using this
      obtain⟨g1,g2,g3,_⟩:=JZ h ht hp (h6.take want.length) (sC.1 sP).2
      obtain⟨fl,f1,f2,f3,f4⟩:=g3 rfl
      have Kk:l0.length=want.length:=by rw[g1,nE];omega
      have jn:∀u∈cur.toList.drop l0.length,fI u:=(h6.drop l0.length).CZ
      have rk:∀(i:Nat)(c:U.C),l0[i]? =some c->cur.toList.getD i undef=(cur.toList.take want.length).getD i undef:=by
       intro i c hc
       have hi:i<want.length:=by
        rw[<-Kk]
        rcases nL i l0.length with g|g
        ·exact g
        ·rw[nb g] at hc;cases hc
       simp only[dB,oT,if_pos hi]
      have Yq:b∉fl.flatten:=by
       intro hb
       obtain⟨k',cK,bg⟩:=f4 b hb
       obtain⟨e2,sJ⟩:=l6.1 (g2 k' cK)
       exact h.apart k k' _ e2 b (fun e=>(sC.1 sP).1 (by rw[e];exact cK)) ew sJ (by rw[h5];simp) bg
      have hdm:∃ds,dm=[.box ds]/\ds.length=want.length/\us=[(k,.box ((putCells mB true 512 ds).1++cs.drop want.length))]/\es=(putCells mB true 512 ds).2:=by
       cases dm with
       |nil=>simp[gO] at ic
       |cons d0 dm=>
        cases dm with
        |cons _ _=>simp[gO] at ic
        |nil=>
         cases d0 with
         |one _=>simp[gO] at ic
         |agg _=>simp[gO] at ic
         |ptr _=>simp[gO] at ic
         |fn _=>simp[gO] at ic
         |box ds=>
          simp only[gO,he] at ic
          rw[gI] at ic
          split at ic
          ·rename_i ID
           cases ic
           exact⟨ds,rfl,mc ID,rfl,rfl⟩
          ·cases ic
      obtain⟨ds,rfl,Gj,rfl,rfl⟩:=hdm
      refine⟨b::fl.flatten,⟨b,cur,e,fl,rfl,h4,by omega,by rw[J0 h4],by rw[J0 h4];exact jn,f1,fun i c hc=>by rw[rk i c hc];exact f2 i c hc,rfl⟩,sP,fun k' cK=>by
       rcases jF.1 cK with rfl|cK
       ·exact X4
       ·exact g2 k' cK,sC.2 ⟨Yq,f3⟩,fun c hc=>by
       rcases jF.1 hc with rfl|hc
       ·exact⟨k,by simp,by rw[h5];simp⟩
       ·obtain⟨k',cK,hc⟩:=f4 c hc;exact⟨k',e8 _ cK,hc⟩,by simp,by simp,fun w' F' iw IC zx iv Jy MK=> ?_⟩
      cases iw with
      |nil=>exact IC.elim
      |cons l' iw=>
       obtain⟨ML,HE⟩:=IC
       cases iw with
       |cons _ _=>exact HE.elim
       |nil=>
        obtain⟨b2,cur',e',fl',k1,k2,k3,k4,k5,k6,k7,rfl⟩:=ML
        cases k1
        rw[J0 h4,Gj] at k4
        have Gb:(b::fl'.flatten).Nodup:=by simpa using Jy
        have gB:cur'.toList.take ds.length++cur'.toList.drop ds.length=cur'.toList:=QP _ _
        obtain⟨t,t1,t2,t3,t4⟩:=H4 (E:=E) (w:=w') (F:=F') (dst:=mB) (base:=512) (cs:=ds) (vs:=cur'.toList.take ds.length) (fl:=fl') (by simp;omega) k6 (fun i c hc=>by
         have hi:i<ds.length:=by
          rcases nL i ds.length with g|g
          ·exact g
          ·rw[nb g] at hc;cases hc
         have:=k7 i c hc
         rw[dB,oT,if_pos hi,<-dB]
         exact this)
        refine⟨[(k,.box ((putCells mB true 512 ds).1++cs.drop want.length),[b])],t,rfl,t1,fun s hs kv' fp' bad' X6 QU=> ?_,t2,?_,fun c hc=> ?_⟩
        ·rw[mb.1 hs]
         refine⟨b,cur',e',h1,k2,rfl,?_⟩
         rw[<-gB]
         refine(t4 kv' fp' bad' QU).append ?_
         rw[Gj,k4]
         exact aah oW (h6.drop want.length) (fun y hy k' cK=>X6 k' (.inr ⟨k,cs,ew,y,List.mem_of_mem_drop hy,cK⟩)) zx
        ·simp only[yb,Y7,sR]
         rw[t3]
         exact Gb
        ·simp only[yb,Y7,sR] at hc
         rw[t3] at hc
         exact .inl (by simpa using hc)
     ·cases ha
    ·cases ha
   ·cases ha
  ·cases ha
 ·
  rename_i k
  split at ha
  ·rename_i cs he
   have ew:=jx he
   have X4:(σ.bH k).isSome=true:=by rw[ew];rfl
   rw[gI] at ha
   split at ha
   ·rename_i Yn
    simp only[cH,Nt] at Yn
    obtain⟨Sm,oW⟩:=Yn
    split at ha
    ·rename_i l0 zU
     cases ha
     have tY:=Mc zU
     obtain⟨b,h1,h2⟩:=ca (FO hx) rfl
     obtain⟨b',cur,e,h3,h4,h5,h6⟩:=h.cW k _ ew
     rw[h1] at h3;cases h3
     subst h2
     have hlen:cs.length=cur.size:=by have:=h6.1;simpa using this
     have Kk:l0.length=want.length:=by
      have:=congrArg List.length tY
      rw[nE,uW] at this
      omega
     have jn:∀u∈cur.toList.drop l0.length,fI u:=(h6.drop l0.length).CZ
     have hdm:∃ds,dm=[.box ds]/\ds.length=want.length/\us=[(k,.box (ds.map .c++cs.drop want.length))]/\es=[]:=by
      cases dm with
      |nil=>simp[gO] at ic
      |cons d0 dm=>
       cases dm with
       |cons _ _=>simp[gO] at ic
       |nil=>
        cases d0 with
        |one _=>simp[gO] at ic
        |agg _=>simp[gO] at ic
        |ptr _=>simp[gO] at ic
        |fn _=>simp[gO] at ic
        |box ds=>
         simp only[gO,he] at ic
         rw[gI] at ic
         split at ic
         ·rename_i ID
          cases ic
          exact⟨ds,rfl,mc ID,rfl,rfl⟩
         ·cases ic
     obtain⟨ds,rfl,Gj,rfl,rfl⟩:=hdm
     refine⟨[b],⟨b,cur,e,List.replicate l0.length [],rfl,h4,by omega,by rw[J0 h4],by rw[J0 h4];exact jn,by simp,fun i c hc=> ?_,by rw[ym]⟩,by simp,by simpa using X4,by simp,by simp[h5],by simp,by simp,fun w' F' iw IC zx iv Jy MK=> ?_⟩
     ·have hi:i<want.length:=by
       rw[<-Kk]
       rcases nL i l0.length with g|g
       ·exact g
       ·rw[nb g] at hc;cases hc
      have hci:cs[i]? =some (.c c):=by
       have:(cs.take want.length)[i]? =some (.c c):=by rw[tY,mw,hc];rfl
       rwa[oT,if_pos hi] at this
      have h7:=ca (h6.2 i (.c c) (cur.toList.getD i undef) hci (ff (by simp;omega))) rfl
      rw[FJ]
      exact h7
     ·cases iw with
      |nil=>exact IC.elim
      |cons l' iw=>
       obtain⟨ML,HE⟩:=IC
       cases iw with
       |cons _ _=>exact HE.elim
       |nil=>
        obtain⟨b2,cur',e',fl',k1,k2,k3,k4,k5,k6,k7,rfl⟩:=ML
        cases k1
        rw[J0 h4,Gj] at k4
        have Gb:(b::fl'.flatten).Nodup:=by simpa using Jy
        have gB:cur'.toList.take ds.length++cur'.toList.drop ds.length=cur'.toList:=QP _ _
        refine⟨[(k,.box (ds.map .c++cs.drop want.length),[b])],[],rfl,rfl,fun s hs kv' fp' bad' X6 QU=> ?_,by simp,by simp[eX.bl],fun c hc=> ?_⟩
        ·rw[mb.1 hs]
         refine⟨b,cur',e',h1,k2,rfl,?_⟩
         rw[<-gB]
         refine kU.append ?_ ?_
         ·refine J4 (by simp;omega) (fun i c hc=> ?_)
          have hi:i<ds.length:=by
           rcases nL i ds.length with g|g
           ·exact g
           ·rw[nb g] at hc;cases hc
          have:=k7 i c hc
          rw[dB,oT,if_pos hi,<-dB]
          exact this.kB (fun _ hb=>hb) (fun b' bg=>this.R3 bg)
         ·rw[Gj,k4]
          exact aah oW (h6.drop want.length) (fun y hy k' cK=>X6 k' (.inr ⟨k,cs,ew,y,List.mem_of_mem_drop hy,cK⟩)) zx
        ·simp only[yb,Y7,sR,eX.bl,mb] at hc
         subst hc
         exact .inl (by simp)
    ·cases ha
   ·cases ha
  ·cases ha
 ·cases ha
theorem qx.fq{own:Bool}{cs:List U.C}{rest:List Value}{v:Value}{l:List Nat}(h:qx E w F own cs rest v l)(hF:∀b,F b->F' b):qx E w F' own cs rest v l:=by
 obtain⟨b,cur,e,fl,h1,h2,h3,h4,h5,h6,h7,h8⟩:=h
 exact⟨b,cur,e,fl,h1,h2,h3,h4,h5,h6,fun i c hc=>(h7 i c hc).fC (fun b hb=>⟨hF b hb,rfl⟩) (fun _ _=>rfl),h8⟩
theorem nC.fq{m:Mode}{d:DV U}{v:Value}{l:List Nat}(hm:m≠ .ro)(h:nC E w F m d v l)(hF:∀b,F b->F' b):nC E w F' m d v l:=by
 cases m with
 |ro=>exact absurd rfl hm
 |wr=>
  cases d with
  |one c=>
   cases c with
   |lit _=>exact h
   |sl τ xs=>exact eo.any h
  |agg _=>exact lr.any h
  |box _=>exact h
  |ptr _=>exact h
  |fn _=>exact h
 |mv=>
  cases d with
  |one c=>exact Rp.sw h (fun _ _=>rfl)
  |agg _=>exact lr.any h
  |box _=>exact h
  |ptr _=>exact h
  |fn _=>exact h
 |box own=>
  cases d with
  |box cs=>exact qx.fq h hF
  |one _=>exact h
  |agg _=>exact h
  |ptr _=>exact h
  |fn _=>exact h
theorem aaj(h:cG E pm F kv fp σ a w){ks ks':List Key}(hn:(ks++ks').Nodup)(hl:∀k∈ks,(σ.bH k).isSome=true)(Gf:∀k∈ks',(σ.bH k).isSome=true){b:Nat}(hb:∃k∈ks,b∈fp k):∀k∈ks',b∉fp k:=by
 intro k' cK bg
 obtain⟨k,hk,hb⟩:=hb
 obtain⟨e,he⟩:=l6.1 (hl k hk)
 obtain⟨e2,sJ⟩:=l6.1 (Gf k' cK)
 exact h.apart k k' e e2 b (fun e3=>(p8.1 hn).2.2 k hk k' cK e3) he sJ hb bg
theorem Xc{a1 a2 b1 b2:List Nat}(n1:(a1++b1).Nodup)(n2:(a2++b2).Nodup)(x:∀b∈a1++b1,b∉a2++b2):((a1++a2)++(b1++b2)).Nodup:=by
 have hp:((a1++a2)++(b1++b2)).Perm ((a1++b1)++(a2++b2)):=by
  rw[we,we]
  refine List.Perm.append_left a1 ?_
  rw[<-we,<-we]
  exact List.Perm.append_right b2 List.perm_append_comm
 rw[hp.nodup_iff,p8]
 exact⟨n1,n2,fun b hb c hc e=>x b hb (e▸hc)⟩
theorem KJ.merge(h:cG E pm F kv fp σ a w){ks ks':List Key}(hn:(ks++ks').Nodup)(hl:∀k∈ks,(σ.bH k).isSome=true)(Gf:∀k∈ks',(σ.bH k).isSome=true){mB:Nat}{l l':List Nat}{us Nn:List (Key×ie U)}{es YE:List (Nat×ie U)}{ml ml':List Nat}
  (h1:KJ E σ w F kv fp mB ks l us es w' F' ml) (h2:KJ E σ w F kv fp mB ks' l' Nn YE w' F' ml') (Jy:(ml++ml').Nodup) (hf:∀b∈l,∃k∈ks,b∈fp k) (Zt:∀b∈l',∃k∈ks',b∈fp k)
  (ho:∀b∈ml++ml',b∈l++l'\/∀k∈ks++ks',b∉fp k):KJ E σ w F kv fp mB (ks++ks') (l++l') (us++Nn) (es++YE) w' F' (ml++ml'):=by
 obtain⟨tl,t,a1,a2,a3,a4,a5,a6⟩:=h1
 obtain⟨tl',t',b1,b2,b3,b4,b5,b6⟩:=h2
 have w5:∀{b:Nat},(∃k∈ks,b∈fp k)->¬∃k∈ks',b∈fp k:=fun hb hc=>by
  obtain⟨k,hk,l_⟩:=hc
  exact aaj h hn hl Gf hb k hk l_
 have hx:∀b∈tl.flatMap (·.2.2)++t.bl,b∉tl'.flatMap (·.2.2)++t'.bl:=by
  intro b hb bg
  rcases a6 b hb with g|⟨g,gk⟩
  ·rcases b6 b bg with g'|⟨g',gk'⟩
   ·exact(p8.1 Jy).2.2 b g b g' rfl
   ·rcases ho b (pP _ g) with q|q
    ·rcases jE.1 q with q|q
     ·exact w5 (hf b q) gk'
     ·exact g' q
    ·obtain⟨k,hk,ic⟩:=gk'
     exact q k (pd _ hk) ic
  ·rcases b6 b bg with g'|⟨g',gk'⟩
   ·rcases ho b (pd _ g') with q|q
    ·rcases jE.1 q with q|q
     ·exact g q
     ·exact w5 gk (Zt b q)
    ·obtain⟨k,hk,ic⟩:=gk
     exact q k (pP _ hk) ic
   ·exact w5 gk gk'
 refine⟨tl++tl',t++t',by rw[HC,a1,b1],by rw[eX.E0,a2,b2],fun s hs kv' fp' bad' q1 q2=> ?_,fun s hs=> ?_,?_,fun b hb=> ?_⟩
 ·rcases jE.1 hs with hs|hs
  ·exact a3 s hs kv' fp' bad' q1 fun s' jK=>q2 s' (pP _ jK)
  ·exact b3 s hs kv' fp' bad' q1 fun s' jK=>q2 s' (pd _ jK)
 ·rcases jE.1 hs with hs|hs
  ·exact a4 s hs
  ·exact b4 s hs
 ·rw[Nj,eX.uz]
  exact Xc a5 b5 hx
 ·rw[Nj,eX.uz] at hb
  have hb:b∈tl.flatMap (·.2.2)++t.bl\/b∈tl'.flatMap (·.2.2)++t'.bl:=by
   simp only[jE] at hb⊢
   rcases hb with(hb|hb)|(hb|hb)
   ·exact .inl (.inl hb)
   ·exact .inr (.inl hb)
   ·exact .inl (.inr hb)
   ·exact .inr (.inr hb)
  rcases hb with hb|hb
  ·rcases a6 b hb with g|⟨g,k,hk,ic⟩
   ·exact .inl (pP _ g)
   ·exact .inr ⟨fun q=>(jE.1 q).elim g (fun q=>w5 ⟨k,hk,ic⟩ (Zt b q)),k,pP _ hk,ic⟩
  ·rcases b6 b hb with g|⟨g,k,hk,ic⟩
   ·exact .inl (pd _ g)
   ·exact .inr ⟨fun q=>(jE.1 q).elim (fun q=>w5 (hf b q) ⟨k,hk,ic⟩) g,k,pd _ hk,ic⟩
theorem eQ.split{w0:World}{m:Mode}{v:Value}{ms:List Mode}{vs:List Value}{dm:List (DV U)}{iw:List (List Nat)}(hm:m≠ .ro)(h:eQ E w F w0 (m::ms) (v::vs) dm iw):
  ∃EI R4,iw=EI++R4/\eQ E w F w0 [m] [v] (Af m dm) EI/\eQ E w F w0 ms vs (wO m dm) R4:=by
 cases m with
 |ro=>exact absurd rfl hm
 |mv=>exact⟨[],iw,rfl,trivial,by simpa[eQ,wO] using h⟩
 |wr=>
  cases dm with
  |nil=>cases iw<;>exact h.elim
  |cons d dm=>
   cases iw with
   |nil=>cases d<;>first|exact h.elim|(rename_i c;cases c<;>exact h.elim)
   |cons l' iw=>
    cases d with
    |one c=>
     cases c with
     |lit _=>exact h.elim
     |sl τ ys=>exact⟨[l'],iw,rfl,⟨h.1,trivial⟩,h.2⟩
    |agg _=>exact⟨[l'],iw,rfl,⟨h.1,trivial⟩,h.2⟩
    |box _=>exact h.elim
    |ptr _=>exact h.elim
    |fn _=>exact h.elim
 |box own=>
  cases dm with
  |nil=>cases iw<;>exact h.elim
  |cons d dm=>
   cases iw with
   |nil=>cases d<;>exact h.elim
   |cons l' iw=>
    cases d with
    |box cs=>exact⟨[l'],iw,rfl,⟨h.1,trivial⟩,h.2⟩
    |one _=>exact h.elim
    |agg _=>exact h.elim
    |ptr _=>exact h.elim
    |fn _=>exact h.elim
theorem ahW(h:cG E pm F kv fp σ a w){rs:List Key}{n:Nat}:∀{ms:List Mode}{ws:List (List (Option U.Ty))}{xs:List (SV U)}{vs:List Value}{ps:List Prop}{ds:List (DV U)},
  mL E (restrict σ.bH rs) σ.aR ms ws xs=some (ps,ds)->xs.length=vs.length->(∀(i:Nat)(x:SV U)(v:Value),xs[i]? =some x->vs[i]? =some v->RS E w F kv fp (bR σ) x v)->CD (restrict σ.bH rs) n ms ws xs=true->sf w n ms ds vs:=by
 intro ms
 induction ms with
 |nil=>intro ws xs vs ps ds _ _ _ _;trivial
 |cons m ms ih=>
  intro ws xs vs ps ds ha hl hx hr
  cases xs with
  |nil=>cases m<;>simp[mL] at ha
  |cons x xs=>
   cases vs with
   |nil=>simp at hl
   |cons v vs=>
    simp only[mL] at ha
    split at ha
    rotate_left
    ·cases ha
    rename_i QR d1 W9 ZA h1 h2
    cases ha
    simp only[CD,cH] at hr
    refine⟨fun own cs hm hd=> ?_,ih h2 (by simpa using hl) (fun i y u hy hu=>hx (i+1) y u (by simpa using hy) (by simpa using hu)) hr.2⟩
    subst hm
    subst hd
    have Ed:=hr.1
    split at Ed
    ·rename_i o1 k off Zv
     split at Ed
     rotate_left
     ·cases Ed
     rename_i bs he
     have ew:=jx he
     have hlen:=mc Ed
     simp only[tD] at h1
     split at h1
     rotate_left
     ·cases h1
     rename_i ps0 d0 ks0 lH
     cases h1
     have gB:cs.length=(ws.headD []).length/\off=0:=by
      cases own with
      |true=>
       cases off with
       |succ n'=>simp[k8] at lH
       |zero=>
        simp only[k8,he] at lH
        rw[gI] at lH
        split at lH
        rotate_left
        ·cases lH
        split at lH
        rotate_left
        ·cases lH
        rename_i q1 q2 q3 ht
        rw[gI] at lH
        split at lH
        rotate_left
        ·cases lH
        cases lH
        have:=aaf ht
        rw[nE] at this
        exact⟨by omega,rfl⟩
      |false=>
       cases off with
       |succ n'=>simp[k8] at lH
       |zero=>
        simp only[k8,he] at lH
        rw[gI] at lH
        split at lH
        rotate_left
        ·cases lH
        split at lH
        rotate_left
        ·cases lH
        rename_i l0 zU
        cases lH
        have:=congrArg List.length (Mc zU)
        rw[nE,uW] at this
        exact⟨by omega,rfl⟩
     obtain⟨gB,rfl⟩:=gB
     have hxv:=hx 0 _ v rfl rfl
     obtain⟨b,g1,g2⟩:=ca (FO hxv) rfl
     obtain⟨b',cur,e,g3,g4,g5,g6⟩:=h.cW k _ ew
     rw[g1] at g3;cases g3
     rw[g2,J0 g4,Jt,<-g6.1]
     omega
    ·cases Ed
    ·rename_i IB _
     exact absurd rfl (IB own)
theorem ajH(hC:∀g k,E.Na g=some k->xY E.P g/\dR E g k)(h:cG E pm F kv fp σ a w){rs:List Key}{K:List Key}{mB:Nat}:∀{ms:List Mode}{ws:List (List (Option U.Ty))}{xs:List (SV U)}{vs:List Value}{ps:List Prop}{ds dm:List (DV U)}{us:List (Key×ie U)}{es:List (Nat×ie U)}{lk:List Key},
  mL E (restrict σ.bH rs) σ.aR ms ws xs=some (ps,ds)->(∀p∈ps,p)->xs.length=vs.length->(∀(i:Nat)(x:SV U)(v:Value),xs[i]? =some x->vs[i]? =some v->RS E w F kv fp (bR σ) x v)->
  (∀x∈xs,∀k∈x.keys,Names σ k)->(∀k∈fB ms xs,(σ.bH k).isSome=true->k∈K)->kZ (restrict σ.bH rs) σ.aR mB ms ws xs dm=some (us,es,lk)->
  ∃ls,iP E w (FK F fp K) ms ds vs ls/\lk.Nodup/\(∀k∈lk,(σ.bH k).isSome=true/\Names σ k)/\ls.flatten.Nodup/\(∀b∈ls.flatten,∃k∈lk,b∈fp k)/\(us.map (·.1)).Nodup/\(∀u∈us,u.1∈lk)/\
   ∀(w':World)(F':Nat->Prop)(iw:List (List Nat)),eQ E w' F' w ms vs dm iw->(∀b,F b->F' b/\w'.heap[b]? =w.heap[b]?)->(∀k∈lk,∀c∈fp k,c∉ls.flatten->w'.heap[c]? =w.heap[c]?)->iw.flatten.Nodup->
    (∀b∈iw.flatten,b∈ls.flatten\/∀k∈lk,b∉fp k)->KJ E σ w F kv fp mB lk ls.flatten us es w' F' iw.flatten:=by
 intro ms
 induction ms with
 |nil=>
  intro ws xs vs ps ds dm us es lk ha hp hl hx tW hK hu
  cases xs with
  |cons x xs=>simp[mL] at ha
  |nil=>
   cases vs with
   |cons v vs=>simp at hl
   |nil=>
    cases dm with
    |cons d dm=>simp[kZ] at hu
    |nil=>
     simp only[mL,fM,nT] at ha
     obtain⟨rfl,rfl⟩:=ha
     simp only[kZ,fM,nT] at hu
     obtain⟨rfl,rfl,rfl⟩:=hu
     refine⟨[],trivial,by simp,by simp,by simp,by simp,by simp,by simp,fun w' F' iw hm _ _ _ _=> ?_⟩
     cases iw with
     |nil=>exact⟨[],[],rfl,rfl,by simp,by simp,by simp[eX.bl],by simp[eX.bl]⟩
     |cons _ _=>exact hm.elim
 |cons m ms ih=>
  intro ws xs vs ps ds dm us es lk ha hp hl hx tW hK hu
  cases xs with
  |nil=>cases m<;>simp[mL] at ha
  |cons x xs=>
   cases vs with
   |nil=>simp at hl
   |cons v vs=>
    simp only[mL] at ha
    split at ha
    ·rename_i QR d1 W9 ZA h1 h2
     cases ha
     have QT:∀(i:Nat)(y:SV U)(u:Value),xs[i]? =some y->vs[i]? =some u->RS E w F kv fp (bR σ) y u:=fun i y u hy hu=>hx (i+1) y u (by simpa using hy) (by simpa using hu)
     by_cases hm:m=.ro
     ·subst hm
      simp only[kZ] at hu
      obtain⟨ls,i1,i2,i3,i4,i5,i6,i7,i8⟩:=ih h2 (fun p j6=>hp p (by simp[j6])) (by simpa using hl) QT (fun y hy=>tW y (e8 _ hy)) (fun k hk=>hK k (by simp[fB,hk])) hu
      refine⟨[]::ls,⟨ajK hC h h1 (fun p j6=>hp p (by simp[j6])) (hx 0 x v rfl rfl) (fun k hk=>hK k (by simp[fB,hk])),i1⟩,i2,i3,by simpa using i4,by simpa using i5,i6,i7,fun w' F' iw IC zx iv Jy MK=> ?_⟩
      have:=i8 w' F' iw (by simpa[eQ] using IC) zx (by simpa using iv) Jy (by simpa using MK)
      simpa using this
     ·have rf:∃ps0 d0 ks ks' us1 es1 us2 es2,k8 (restrict σ.bH rs) σ.aR (ws.headD []) m x=some (ps0,d0,ks)/\gO (restrict σ.bH rs) mB (ws.headD []).length m x (Af m dm)=some (us1,es1)/\kZ (restrict σ.bH rs) σ.aR mB ms ws.tail xs (wO m dm)=some (us2,es2,ks')/\(ks++ks').Nodup/\us=us1++us2/\es=es1++es2/\lk=ks++ks'/\QR=ps0/\d1=d0:=by
       have TK:(match k8 (restrict σ.bH rs) σ.aR (ws.headD []) m x,gO (restrict σ.bH rs) mB (ws.headD []).length m x (Af m dm) with
        |some (_,_,ks),some (us,es)=>match kZ (restrict σ.bH rs) σ.aR mB ms ws.tail xs (wO m dm) with
         |some (Nn,YE,ks')=>bif distinct (ks++ks') then some (us++Nn,es++YE,ks++ks') else none
         |none=>none
        |_,_=>none)=some (us,es,lk):=by
        cases m with
        |ro=>exact absurd rfl hm
        |wr=>exact hu
        |mv=>exact hu
        |box _=>exact hu
       split at TK
       ·rename_i p0 d0 ks us0 es0 g1 g2
        split at TK
        ·rename_i us2 es2 ks' g3
         rw[gI] at TK
         split at TK
         ·rename_i rq
          cases TK
          have:tD E (restrict σ.bH rs) σ.aR (ws.headD []) m x=some (p0,d0):=by
           cases m with
           |ro=>exact absurd rfl hm
           |wr=>simp only[tD,g1]
           |mv=>simp only[tD,g1]
           |box _=>simp only[tD,g1]
          rw[this] at h1
          cases h1
          exact⟨_,_,ks,ks',_,_,_,_,g1,g2,g3,tf.1 rq,rfl,rfl,rfl,rfl,rfl⟩
         ·cases TK
        ·cases TK
       ·cases TK
      obtain⟨ps0,d0,ks,ks',us1,es1,us2,es2,g1,g2,g3,sP,rfl,rfl,rfl,rfl,rfl⟩:=rf
      obtain⟨l,r1,r2,r3,r4,r5,r6,r7,r8⟩:=aiO h g1 (fun p j6=>hp p (by simp[j6])) (hx 0 x v rfl rfl) (tW x gS) g2
      obtain⟨ls,i1,i2,i3,i4,i5,i6,i7,i8⟩:=ih h2 (fun p j6=>hp p (by simp[j6])) (by simpa using hl) QT (fun y hy=>tW y (e8 _ hy)) (fun k hk=>hK k (by cases m<;>first|exact absurd rfl hm|simpa[fB] using hk)) g3
      have w5:∀{b:Nat},(∃k∈ks,b∈fp k)->¬∃k∈ks',b∈fp k:=fun hb hc=>by
       obtain⟨k,hk,l_⟩:=hc
       exact aaj h sP r3 (fun k hk=>(i3 k hk).1) hb k hk l_
      refine⟨l::ls,⟨r1.fq hm (fun b hb=> .inl hb),i1⟩,sP,fun k hk=> ?_,?_,fun b hb=> ?_,?_,fun u hu=> ?_,fun w' F' iw IC zx iv Jy MK=> ?_⟩
      ·rcases jE.1 hk with hk|hk
       ·exact⟨r3 k hk,aiP g1 (tW x gS) k hk⟩
       ·exact i3 k hk
      ·rw[JD,p8]
       exact⟨r4,i4,fun b hb c hc e=>w5 (r5 b hb) (i5 b (e▸hc))⟩
      ·rw[JD] at hb
       rcases jE.1 hb with hb|hb
       ·obtain⟨k,hk,hb⟩:=r5 b hb;exact⟨k,pP _ hk,hb⟩
       ·obtain⟨k,hk,hb⟩:=i5 b hb;exact⟨k,pd _ hk,hb⟩
      ·rw[HC,p8]
       refine⟨r6,i6,fun k hk k' cK e=> ?_⟩
       obtain⟨u,hu,rfl⟩:=kW.1 hk
       obtain⟨u',rf,rfl⟩:=kW.1 cK
       exact(p8.1 sP).2.2 _ (r7 u hu) _ (i7 u' rf) e
      ·rcases jE.1 hu with hu|hu
       ·exact pP _ (r7 u hu)
       ·exact pd _ (i7 u hu)
      obtain⟨EI,R4,rfl,q1,q2⟩:=IC.split hm
      rw[Ju] at Jy MK⊢
      rw[JD] at iv MK⊢
      have Gb:=p8.1 Jy
      have B1:=r8 w' F' EI q1 zx (fun k hk c hc gB=>iv k (pP _ hk) c hc (by
        rw[jE]
        exact fun hor=>hor.elim gB (fun q=>w5 ⟨k,hk,hc⟩ (i5 c q)))) Gb.1 (fun b hb=>by
        rcases MK b (pP _ hb) with g|g
        ·rcases jE.1 g with g|g
         ·exact .inl g
         ·exact .inr fun k hk ic=>w5 ⟨k,hk,ic⟩ (i5 b g)
        ·exact .inr fun k hk=>g k (pP _ hk))
      have B2:=i8 w' F' R4 q2 zx (fun k hk c hc gB=>iv k (pd _ hk) c hc (by
        rw[jE]
        exact fun hor=>hor.elim (fun q=>w5 (r5 c q) ⟨k,hk,hc⟩) gB)) Gb.2.1 (fun b hb=>by
        rcases MK b (pd _ hb) with g|g
        ·rcases jE.1 g with g|g
         ·exact .inr fun k hk ic=>w5 (r5 b g) ⟨k,hk,ic⟩
         ·exact .inl g
        ·exact .inr fun k hk=>g k (pd _ hk))
      exact KJ.merge h sP r3 (fun k hk=>(i3 k hk).1) B1 B2 Jy r5 i5 MK
    ·cases ha
end AM
