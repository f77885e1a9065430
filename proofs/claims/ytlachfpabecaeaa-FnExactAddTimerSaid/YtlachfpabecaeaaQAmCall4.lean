/- THE ABSTRACT MACHINE: an argument that is lent to a call, and what comes back. -/
import Derived.Test.YtlachfpabecaeaaQAmCall2
namespace AM
set_option linter.unusedVariables false
open Go
variable{U:dh}{E:Env U}{pm:Pm}
variable{F F':Nat->Prop}{kv:Key->Value}{fp:Key->List Nat}{σ:aa U}{a:Act}{w w':World}{bad:Key->Bool}
theorem Hs{kv':Key->Value}{fp':Key->List Nat}{bad':Key->Bool}{y:AC U}{v:Value}(hs:y.still=true)(h:RD E w F kv fp bad y v)(hk:∀k∈y.keys,kv' k=kv k)
  (hF:∀b,F b->F' b/\w'.heap[b]? =w.heap[b]?):RD E w' F' kv' fp' bad' y v:=by
 have hb:ck bad y=false:=by
  unfold AC.still at hs
  split at hs<;>first|rfl|cases hs
 refine⟨h.1,.inr ?_⟩
 have h0:=ax h hb
 unfold AC.still at hs
 split at hs
 ·exact Rp.bD h0 hF (by simp)
 ·exact h0
 ·rename_i k
  simp only[RA] at h0⊢
  rw[hk k (by simp[AC.keys])];exact h0
 ·rename_i k off
  simp only[RA] at h0⊢
  rw[hk k (by simp[AC.keys])];exact h0
 ·cases hs
theorem CR{kv':Key->Value}{fp':Key->List Nat}{bad':Key->Bool}{xs:List (AC U)}{vs:List Value}(hs:xs.all AC.still=true)(h:dC E w F kv fp bad xs vs)(hk:∀y∈xs,∀k∈y.keys,kv' k=kv k)
  (hF:∀b,F b->F' b/\w'.heap[b]? =w.heap[b]?):dC E w' F' kv' fp' bad' xs vs:=
 ⟨h.1,fun i y v hy hv=>Hs (qp.1 hs y (np hy)) (h.2 i y v hy hv) (hk y (np hy)) hF⟩
theorem yZ(h:aC E pm F kv fp σ a w):∀{ks:List Key},ks.Nodup->(∀k∈ks,(σ.aq k).isSome=true)->(ks.flatMap fp).Nodup
 |[],_,_=>by simp
 |k::ks,hn,hl=>by
  rw[ln,fW]
  obtain⟨e,he⟩:=ef.1 (hl k e_)
  rw[fU] at hn
  refine⟨h.nodup k e he,yZ h hn.2 (fun k' aG=>hl k' (c9 _ aG)),fun b hb c hc e'=> ?_⟩
  subst e'
  obtain⟨k',aG,aj⟩:=eY.1 hc
  obtain⟨e2,g_⟩:=ef.1 (hl k' (c9 _ aG))
  exact h.apart k k' e e2 b (fun e=>hn.1 (e▸aG)) he g_ hb aj
theorem yw(h:aC E pm F kv fp σ a w){rs:List Key}:∀{xs:List (AC U)}{vs:List Value}{cs iP:List U.C}{ks:List Key}{us:List (Key×b9 U)}{fl:List (List Nat)},cy (restrict σ.aq rs) xs=some (cs,ks)->dC E w F kv fp (av σ) xs vs->
  dJ xs iP=some us->fl.length=iP.length->(∀(i:Nat)(c:U.C),iP[i]? =some c->Rp E w' F' true c (vs.getD i undef) (fl.getD i []))->
  us.map (·.1)=ks/\∃tl:List (Key×b9 U×List Nat),tl.map (fun t=>(t.1,t.2.1))=us/\(∀s∈tl,∀kv' fp' bad',gO E w' F' kv' fp' bad' s.2.1 (kv s.1) s.2.2)/\tl.flatMap (·.2.2)=fl.flatten
 |[],vs,cs,iP,ks,us,fl,hw,hx,hu,hl,hr=>by
  simp only[cy,bM,eX] at hw
  obtain⟨rfl,rfl⟩:=hw
  cases iP with
  |cons _ _=>simp[dJ] at hu
  |nil=>
   simp only[dJ,bM] at hu
   subst hu
   have:fl=[]:=pB hl
   subst this
   exact⟨rfl,[],rfl,by simp,rfl⟩
 |x::xs,vs,cs,iP,ks,us,fl,hw,hx,hu,hl,hr=>by
  obtain⟨v,jh,rfl,h1,h2⟩:=hx.cons_inv
  cases iP with
  |nil=>unfold dJ at hu;split at hu<;>first|(rename_i e1 e2;cases e1;done)|(rename_i e1 e2;cases e2;done)|cases hu
  |cons c iP=>
   cases fl with
   |nil=>simp at hl
   |cons l fl=>
    have wK:Rp E w' F' true c v l:=by simpa using hr 0 c rfl
    have m8:∀(i:Nat)(c:U.C),iP[i]? =some c->Rp E w' F' true c (jh.getD i undef) (fl.getD i []):=fun i c hc=>by simpa using hr (i+1) c (by simpa using hc)
    have rI:fl.length=iP.length:=by simpa using hl
    unfold cy at hw
    split at hw
    ·rename_i ff;cases ff
    ·rename_i u r ff
     cases ff
     split at hw
     ·rename_i Fs Ed nw
      cases hw
      cases c with
      |sl τ ys=>simp[dJ] at hu
      |lit u'=>
       simp only[dJ] at hu
       obtain⟨i1,tl,i2,i3,i4⟩:=yw h nw h2 hu rI m8
       obtain⟨rfl,_,_⟩:=wK.dy
       exact⟨i1,tl,i2,i3,by simpa using i4⟩
     ·cases hw
    ·rename_i k r ff
     cases ff
     split at hw
     ·rename_i y Fs Ed he nw
      cases hw
      cases c with
      |lit _=>simp[dJ] at hu
      |sl τ ys=>
       simp only[dJ] at hu
       split at hu
       ·rename_i s7 ga
        cases hu
        obtain⟨i1,tl,i2,i3,i4⟩:=yw h nw h2 ga rI m8
        have hv:v=kv k:=ax h1 rfl
        refine⟨by simp[i1],(k,.arr ⟨τ,ys⟩ true,l)::tl,by simp[i2],fun s hs kv' fp' bad'=> ?_,by simp[i4]⟩
        rcases dQ.1 hs with rfl|hs
        ·rw[<-hv];exact wK.jK
        ·exact i3 s hs kv' fp' bad'
       ·cases hu
     ·cases hw
    ·cases hw
theorem Rp.wD{c:U.C}{v:Value}{l:List Nat}(h:Rp E w F false c v l){b:Nat}(hb:b∈l):F' b:=by
 generalize hm:false=m at h
 cases h with
 |lit=>cases hb
 |nil=>cases hb
 |shr=>cases hb
 |own=>cases hm
def rf(E:Env U)(σ:aa U)(w:World)(F:Nat->Prop)(kv:Key->Value)(fp:Key->List Nat)(er:Nat)(ks:List Key)(l:List Nat)(us:List (Key×b9 U))(es:List (Nat×b9 U))(w':World)(F':Nat->Prop)(ml:List Nat):Prop:=
 ∃(tl:List (Key×b9 U×List Nat))(t:bm U),tl.map (fun t=>(t.1,t.2.1))=us/\es=t.es/\
  (∀s∈tl,∀kv' fp' bad',(∀k,Names σ k->kv' k=kv k)->(∀s∈t,kv' (er,s.1)=s.2.2.1)->gO E w' F' kv' fp' bad' s.2.1 (kv s.1) s.2.2)/\
  (∀s∈t,∀kv' fp' bad',gO E w' F' kv' fp' bad' s.2.1 s.2.2.1 s.2.2.2)/\
  (tl.flatMap (·.2.2)++t.bl).Nodup/\∀b∈tl.flatMap (·.2.2)++t.bl,b∈ml\/(b∉l/\∃k∈ks,b∈fp k)
theorem Hn{tb:fw U}{want:Option U.Ty}{x:AC U}{ps:List Prop}{c:U.C}{ks:List Key}{d:Bool}(h:hX tb want x=some (ps,c,ks,d)):∀k∈ks,k∈x.keys:=by
 unfold hX at h
 split at h
 ·cases h;simp
 ·cases h;simp
 ·split at h<;>cases h;simp
 ·split at h<;>cases h<;>simp[AC.keys]
 ·split at h<;>cases h<;>simp[AC.keys]
 ·cases h
theorem CP{tb:fw U}:∀{xs:List (AC U)}{want:List (Option U.Ty)}{ps:List Prop}{cs:List U.C}{ks:List Key}{d:Bool},bh tb want xs=some (ps,cs,ks,d)->cs.length=xs.length
 |[],want,ps,cs,ks,d,h=>by
  simp only[bh,bM,eX] at h
  obtain⟨_,rfl,_⟩:=h
  rfl
 |x::xs,want,ps,cs,ks,d,h=>by
  simp only[bh] at h
  split at h
  ·rename_i h1 h2
   cases h
   simp[CP h2]
  ·cases h
theorem dC.mc{xs:List (AC U)}{vs:List Value}(h:dC E w F kv fp bad xs vs):∀v∈vs,bI v:=by
 intro v hv
 obtain⟨n,hn,rfl⟩:=pA hv
 exact(h.2 n (xs[n]'(by rw[h.1];exact hn)) _ (cE _) (cE hn)).1
theorem yD{tb:fw U}:∀{xs:List (AC U)}{want:List (Option U.Ty)}{ps:List Prop}{cs:List U.C}{ks:List Key}{d:Bool},bh tb want xs=some (ps,cs,ks,d)->∀k∈ks,∃x∈xs,k∈x.keys
 |[],want,ps,cs,ks,d,h,k,hk=>by
  simp only[bh,bM,eX] at h
  obtain⟨_,_,rfl,_⟩:=h
  cases hk
 |x::xs,want,ps,cs,ks,d,h,k,hk=>by
  simp only[bh] at h
  split at h
  ·rename_i h1 h2
   cases h
   rcases cZ.1 hk with hk|hk
   ·exact⟨x,e_,Hn h1 k hk⟩
   ·obtain⟨y,hy,hk⟩:=yD h2 k hk
    exact⟨y,c9 _ hy,hk⟩
  ·cases h
theorem yA{tb:fw U}:∀{xs:List (AC U)}{cs:List U.C}{ks:List Key},cy tb xs=some (cs,ks)->∀k∈ks,∃x∈xs,k∈x.keys
 |[],cs,ks,h,k,hk=>by
  simp only[cy,bM,eX] at h
  obtain⟨_,rfl⟩:=h
  cases hk
 |x::xs,cs,ks,h,k,hk=>by
  unfold cy at h
  split at h
  ·rename_i ff;cases ff
  ·rename_i ff;cases ff
   split at h
   ·rename_i h1
    cases h
    obtain⟨y,hy,hk⟩:=yA h1 k hk
    exact⟨y,c9 _ hy,hk⟩
   ·cases h
  ·rename_i ff;cases ff
   split at h
   ·rename_i h0 h1
    cases h
    rcases dQ.1 hk with rfl|hk
    ·exact⟨_,e_,by simp[AC.keys]⟩
    ·obtain⟨y,hy,hk⟩:=yA h1 k hk
     exact⟨y,c9 _ hy,hk⟩
   ·cases h
  ·cases h
theorem IL{rs:List Key}{want:List (Option U.Ty)}{m:Mode}{x:SV U}{ps:List Prop}{d:DV U}{ks:List Key}(h:dG (restrict σ.aq rs) σ.ag want m x=some (ps,d,ks))(gi:∀k∈x.keys,Names σ k):∀k∈ks,Names σ k:=by
 unfold dG at h
 split at h
 ·split at h
  ·rw[bY] at h
   split at h
   ·split at h
    ·cases h
     intro k hk
     exact gi k (by simpa[SV.keys,SV.lM,AC.keys] using hk)
    ·cases h
   ·cases h
  ·cases h
 ·rename_i cs
  split at h
  ·rename_i hw
   rw[bY] at h
   split at h
   ·cases h
    intro k hk
    obtain⟨y,hy,hk⟩:=yA hw k hk
    exact gi k (SV.mem_keys.2 ⟨y,hy,hk⟩)
   ·cases h
  ·cases h
 ·rename_i y
  split at h
  ·rename_i hw
   split at h
   ·rw[bY] at h
    split at h
    ·cases h
     intro k hk
     obtain⟨z,hz,hk⟩:=yD hw k hk
     exact gi k (SV.mem_keys.2 ⟨z,hz,hk⟩)
    ·cases h
   ·cases h
  ·cases h
 ·rename_i k0
  have mM:Names σ k0:=gi k0 (by simp[SV.keys,SV.lM,AC.keys])
  split at h
  ·rename_i cs he
   rw[bY] at h
   split at h
   ·split at h
    ·rename_i hw
     rw[bY] at h
     split at h
     ·cases h
      intro k hk
      rcases dQ.1 hk with rfl|hk
      ·exact mM
      ·obtain⟨z,hz,hk⟩:=yD hw k hk
       exact .inr ⟨k0,cs,cJ he,z,List.mem_of_mem_take hz,hk⟩
     ·cases h
    ·cases h
   ·cases h
  ·cases h
 ·rename_i k0
  have mM:Names σ k0:=gi k0 (by simp[SV.keys,SV.lM,AC.keys])
  split at h
  ·rw[bY] at h
   split at h
   ·split at h
    ·cases h
     intro k hk
     rw[gj.1 hk]
     exact mM
    ·cases h
   ·cases h
  ·cases h
 ·cases h
theorem IK(h:aC E pm F kv fp σ a w){rs:List Key}{want:List (Option U.Ty)}{m:Mode}{x:SV U}{v:Value}{ps:List Prop}{d:DV U}{ks:List Key}
  (ha:dG (restrict σ.aq rs) σ.ag want m x=some (ps,d,ks)) (hp:∀p∈ps,p) (hx:RS E w F kv fp (av σ) x v) (gi:∀k∈x.keys,Names σ k)
  {er:Nat} {dm:List (DV U)} {us:List (Key×b9 U)} {es:List (Nat×b9 U)} (cq:b7 (restrict σ.aq rs) er want.length m x dm=some (us,es)):
  ∃l,dV E w F m d v l/\ks.Nodup/\(∀k∈ks,(σ.aq k).isSome=true)/\l.Nodup/\(∀b∈l,∃k∈ks,b∈fp k)/\
   (us.map (·.1)).Nodup/\(∀u∈us,u.1∈ks)/\
    ∀(w':World)(F':Nat->Prop)(bQ:List (List Nat)),bk E w' F' w [m] [v] dm bQ->(∀b,F b->F' b/\w'.heap[b]? =w.heap[b]?)->(∀k∈ks,∀c∈fp k,c∉l->w'.heap[c]? =w.heap[c]?)->bQ.flatten.Nodup->
     (∀b∈bQ.flatten,b∈l\/∀k∈ks,b∉fp k)->rf E σ w F kv fp er ks l us es w' F' bQ.flatten:=by
 have cG:∀{k:Key}{b:Nat},(σ.aq k).isSome=true->b∈fp k->b<w.heap.size:=by
  intro k b hk hb
  obtain⟨e,he⟩:=ef.1 hk
  exact(h.bC k e b he hb).2.2
 unfold dG at ha
 split at ha
 ·
  rename_i k p
  split at ha
  ·rename_i y he
   have bf:=cJ he
   cases cp:bE (restrict σ.aq rs) σ.ag k p<;>simp only[cp,cond_false,cond_true] at ha
   ·cases ha
   ·split at ha
    ·rename_i pP b hw
     cases ha
     have lz:=nX hx
     have eG:=ax lz (nV cp he)
     have h0:ba E w F true y (kv k) (fp k):=h.aJ k _ bf
     have EK:(σ.aq k).isSome=true:=by rw[bf];rfl
     unfold b7 at cq
     split at cq
     ·rename_i k' p' τ ys ff
      cases ff
      simp only[he] at cq
      split at cq
      ·rename_i a' xV
       cases cq
       obtain⟨vb,s8,pre,post,b',f1,f2,f3,f4,f5⟩:=h0.focus (h.nodup k _ bf) hw hp xV
       have s9:v=vb:=eG.unique f2
       subst s9
       have hn:=h.nodup k _ bf
       rw[f4,fW,fW] at hn
       refine⟨s8,f3,by simp,by simpa using EK,hn.1.2.1,fun c hc=>⟨k,by simp,by rw[f4];simp[hc]⟩,by simp,by simp,fun w' F' bQ pY kY bW ql sK=> ?_⟩
       cases bQ with
       |nil=>exact pY.elim
       |cons l' bQ=>
        obtain⟨sL,pt⟩:=pY
        cases bQ with
        |cons _ _=>exact pt.elim
        |nil=>
         obtain⟨⟨n1,n2,n3⟩,n4,n5⟩:=hn
         have jn:∀c∈pre++post,c∈fp k/\c∉s8:=by
          intro c hc
          rcases cZ.1 hc with hc|hc
          ·exact⟨by rw[f4];simp[hc],fun dM=>n3 c hc c dM rfl⟩
          ·exact⟨by rw[f4];simp[hc],fun dM=>n5 c (eZ _ dM) c hc rfl⟩
         have xN:∀c∈pre++post,c∉l':=by
          intro c hc dM
          rcases sK c (by simpa using dM) with g|g
          ·exact(jn c hc).2 g
          ·exact g k (by simp) (jn c hc).1
         refine⟨[(k,.arr a' true,pre++l'++post)],[],rfl,rfl,fun s hs kv' fp' bad' _ _=> ?_,by simp,?_,fun c hc=> ?_⟩
         ·rw[gj.1 hs]
          split at f1
          ·rename_i zs hz
           have:=aT hz
           cases this
           cases f1
           exact f5 w' F' l' rfl sL (fun c hc=>bW k (by simp) c (jn c hc).1 (jn c hc).2)
          ·cases f1
         ·simp only[ln,Ch,nk,bm.bl]
          have oh:l'.Nodup:=by simpa using ql
          rw[fW,fW]
          refine⟨⟨n1,oh,fun c hc e he e'=>xN c (fy _ hc) (e'▸he)⟩,n4,fun c hc e he e'=> ?_⟩
          rcases cZ.1 hc with hc|hc
          ·exact n5 c (fy _ hc) e he e'
          ·exact xN e (eZ _ he) (e'▸hc)
         ·simp only[ln,Ch,nk,bm.bl,cZ] at hc
          rcases hc with(hc|hc)|hc
          ·exact .inr ⟨(jn c (fy _ hc)).2,k,by simp,(jn c (fy _ hc)).1⟩
          ·exact .inl (by simpa using hc)
          ·exact .inr ⟨(jn c (eZ _ hc)).2,k,by simp,(jn c (eZ _ hc)).1⟩
      ·cases cq
     all_goals first|(rename_i ff;cases ff;done)|(rename_i ff _;cases ff;done)|cases cq
    ·cases ha
  ·cases ha
 ·
  rename_i cs
  split at ha
  ·rename_i ds Ed hw
   rw[bY] at ha
   split at ha
   ·rename_i gD
    cases ha
    have kW:=ic.1 gD
    obtain⟨vs,qj,hv⟩:=hx
    simp only[if_true] at hv
    obtain⟨g1,g2,fl,f1,f2,f3⟩:=yz h hw qj
    unfold b7 at cq
    split at cq
    ·rename_i ff;cases ff
    ·rename_i iP OX ff
     cases ff
     split at cq
     ·rename_i s7 hu
      cases cq
      have mM:us.map (·.1)=ks:=by
       have:∀{xs:List (AC U)}{cs iP:List U.C}{ks:List Key}{us:List (Key×b9 U)},cy (restrict σ.aq rs) xs=some (cs,ks)->dJ xs iP=some us->us.map (·.1)=ks:=by
        intro xs
        induction xs with
        |nil=>
         intro cs iP ks us h1 h2
         simp only[cy,bM,eX] at h1
         cases iP with
         |cons _ _=>simp[dJ] at h2
         |nil=>simp only[dJ,bM] at h2;subst h2;rw[<-h1.2];rfl
        |cons x xs ih=>
         intro cs iP ks us h1 h2
         unfold cy at h1
         split at h1
         ·rename_i ff;cases ff
         ·rename_i u r ff
          cases ff
          split at h1
          ·rename_i Fs Ed hr
           cases h1
           cases iP with
           |nil=>simp[dJ] at h2
           |cons c iP=>cases c with
            |sl _ _=>simp[dJ] at h2
            |lit _=>simp only[dJ] at h2;exact ih hr h2
          ·cases h1
         ·rename_i k r ff
          cases ff
          split at h1
          ·rename_i y Fs Ed he hr
           cases h1
           cases iP with
           |nil=>simp[dJ] at h2
           |cons c iP=>cases c with
            |lit _=>simp[dJ] at h2
            |sl τ ys=>
             simp only[dJ] at h2
             split at h2
             ·rename_i s7 ga
              cases h2
              simp[ih hr ga]
             ·cases h2
          ·cases h1
         ·cases h1
       exact this hw hu
      refine⟨fl.flatten,⟨vs,fl,hv,by rw[g1];exact qj.1.symm,f1,f2,rfl⟩,kW,g2,by rw[f3];exact yZ h kW g2,fun c hc=>by rw[f3] at hc;exact eY.1 hc,by rw[mM];exact kW,fun u ga=>by rw[<-mM];exact ez.2 ⟨u,ga,rfl⟩,fun w' F' bQ pY kY bW ql sK=> ?_⟩
      cases bQ with
      |nil=>exact pY.elim
      |cons l' bQ=>
       obtain⟨sL,pt⟩:=pY
       cases bQ with
       |cons _ _=>exact pt.elim
       |nil=>
        obtain⟨jh,Fl,e1,e2,e3,e4,e5⟩:=sL
        rw[hv] at e1
        have:jh=vs:=by simpa using e1.symm
        subst this
        obtain⟨i1,tl,i2,i3,i4⟩:=yw (w':=w') (F':=F') h hw qj hu e3 e4
        have oh:l'.Nodup:=by simpa using ql
        refine⟨tl,[],i2,rfl,fun s hs kv' fp' bad' _ _=>i3 s hs kv' fp' bad',by simp,?_,fun c hc=> ?_⟩
        ·rw[i4,<-e5];simpa[bm.bl] using oh
        ·rw[i4,<-e5] at hc
         exact .inl (by simpa[bm.bl] using hc)
     ·cases cq
    all_goals first|(rename_i ff;cases ff;done)|(rename_i ff _;cases ff;done)|cases cq
   ·cases ha
  ·cases ha
 ·
  rename_i y
  split at ha
  ·rename_i pP cs ks' ht
   split at ha
   ·rename_i d' hd
    rw[bY] at ha
    split at ha
    ·rename_i gD
     cases ha
     have kW:=ic.1 gD
     obtain⟨vs,qj,hv⟩:=hx
     obtain⟨g1,g2,g3,_⟩:=qy h ht hp qj kW
     obtain⟨fl,f1,f2,f3,f4⟩:=g3 rfl
     have eh:dV E w F .mv d v fl.flatten:=by
      unfold ra at hd
      cases vD:y.agg<;>rw[vD] at hd hv<;>simp only[cond_true,cond_false,lN,if_false,if_true] at hd hv
      ·split at hd
       ·cases hd
        subst hv
        simp only[xl,vu] at f1
        obtain⟨l,rfl⟩:=List.length_eq_one_iff.1 f1
        simpa[dV] using f2 0 _ rfl
       ·cases hd
      ·cases hd
       exact⟨vs,fl,hv,by rw[g1];exact qj.1.symm,f1,f2,rfl⟩
     have EX:dm=[]/\us=[]/\es=[]:=by
      cases dm with
      |nil=>simp only[b7,bM,eX] at cq;exact⟨rfl,cq.1.symm,cq.2.symm⟩
      |cons _ _=>simp[b7] at cq
     obtain⟨rfl,rfl,rfl⟩:=EX
     refine⟨fl.flatten,eh,kW,g2,f3,f4,by simp,by simp,fun w' F' bQ pY kY bW ql sK=> ?_⟩
     have:bQ=[]:=by cases bQ with|nil=>rfl|cons _ _=>exact pY.elim
     subst this
     exact⟨[],[],rfl,rfl,by simp,by simp,by simp[bm.bl],by simp[bm.bl]⟩
    ·cases ha
   ·cases ha
  ·cases ha
 ·
  rename_i k
  split at ha
  ·rename_i cs he
   have bf:=cJ he
   have EK:(σ.aq k).isSome=true:=by rw[bf];rfl
   rw[bY] at ha
   split at ha
   ·rename_i Ao
    simp only[dR,vo] at Ao
    obtain⟨xM,gW⟩:=Ao
    split at ha
    ·rename_i pP l0 ks' ht
     rw[bY] at ha
     split at ha
     ·rename_i gD
      cases ha
      have kW:=ic.1 gD
      obtain⟨b,h1,h2⟩:=ax (nX hx) rfl
      obtain⟨b',cur,e,h3,h4,h5,h6⟩:=h.aJ k _ bf
      rw[h1] at h3;cases h3
      subst h2
      have hlen:cs.length=cur.size:=by have:=h6.1;simpa using this
      obtain⟨g1,g2,g3,_⟩:=qy h ht hp (h6.take want.length) (fU.1 kW).2
      obtain⟨fl,f1,f2,f3,f4⟩:=g3 rfl
      have qU:l0.length=want.length:=by rw[g1,kg];omega
      have jN:∀u∈cur.toList.drop l0.length,bI u:=(h6.drop l0.length).mc
      have gA:∀(i:Nat)(c:U.C),l0[i]? =some c->cur.toList.getD i undef=(cur.toList.take want.length).getD i undef:=by
       intro i c hc
       have hi:i<want.length:=by
        rw[<-qU]
        rcases eW i l0.length with g|g
        ·exact g
        ·rw[eD g] at hc;cases hc
       simp only[cI,eP,if_pos hi]
      have Ar:b∉fl.flatten:=by
       intro hb
       obtain⟨k',aG,aj⟩:=f4 b hb
       obtain⟨e2,g_⟩:=ef.1 (g2 k' aG)
       exact h.apart k k' _ e2 b (fun e=>(fU.1 kW).1 (by rw[e];exact aG)) bf g_ (by rw[h5];simp) aj
      have EX:∃ds,dm=[.box ds]/\ds.length=want.length/\us=[(k,.box ((ai er true 512 ds).1++cs.drop want.length))]/\es=(ai er true 512 ds).2:=by
       cases dm with
       |nil=>simp[b7] at cq
       |cons d0 dm=>
        cases dm with
        |cons _ _=>simp[b7] at cq
        |nil=>
         cases d0 with
         |one _=>simp[b7] at cq
         |agg _=>simp[b7] at cq
         |ptr _=>simp[b7] at cq
         |fn _=>simp[b7] at cq
         |box ds=>
          simp only[b7,he] at cq
          rw[bY] at cq
          split at cq
          ·rename_i pZ
           cases cq
           exact⟨ds,rfl,en pZ,rfl,rfl⟩
          ·cases cq
      obtain⟨ds,rfl,oq,rfl,rfl⟩:=EX
      refine⟨b::fl.flatten,⟨b,cur,e,fl,rfl,h4,by omega,by rw[qz h4],by rw[qz h4];exact jN,f1,fun i c hc=>by rw[gA i c hc];exact f2 i c hc,rfl⟩,kW,fun k' aG=>by
       rcases dQ.1 aG with rfl|aG
       ·exact EK
       ·exact g2 k' aG,fU.2 ⟨Ar,f3⟩,fun c hc=>by
       rcases dQ.1 hc with rfl|hc
       ·exact⟨k,by simp,by rw[h5];simp⟩
       ·obtain⟨k',aG,hc⟩:=f4 c hc;exact⟨k',c9 _ aG,hc⟩,by simp,by simp,fun w' F' bQ pY kY bW ql sK=> ?_⟩
      cases bQ with
      |nil=>exact pY.elim
      |cons l' bQ=>
       obtain⟨sL,pt⟩:=pY
       cases bQ with
       |cons _ _=>exact pt.elim
       |nil=>
        obtain⟨b2,cur',e',Fl,k1,k2,k3,k4,k5,k6,k7,rfl⟩:=sL
        cases k1
        rw[qz h4,oq] at k4
        have oh:(b::Fl.flatten).Nodup:=by simpa using ql
        have cp:cur'.toList.take ds.length++cur'.toList.drop ds.length=cur'.toList:=vq _ _
        obtain⟨t,t1,t2,t3,t4⟩:=pJ (E:=E) (w:=w') (F:=F') (dst:=er) (base:=512) (cs:=ds) (vs:=cur'.toList.take ds.length) (fl:=Fl) (by simp;omega) k6 (fun i c hc=>by
         have hi:i<ds.length:=by
          rcases eW i ds.length with g|g
          ·exact g
          ·rw[eD g] at hc;cases hc
         have:=k7 i c hc
         rw[cI,eP,if_pos hi,<-cI]
         exact this)
        refine⟨[(k,.box ((ai er true 512 ds).1++cs.drop want.length),[b])],t,rfl,t1,fun s hs kv' fp' bad' z9 vy=> ?_,t2,?_,fun c hc=> ?_⟩
        ·rw[gj.1 hs]
         refine⟨b,cur',e',h1,k2,rfl,?_⟩
         rw[<-cp]
         refine(t4 kv' fp' bad' vy).append ?_
         rw[oq,k4]
         exact CR gW (h6.drop want.length) (fun y hy k' aG=>z9 k' (.inr ⟨k,cs,bf,y,List.mem_of_mem_drop hy,aG⟩)) kY
        ·simp only[ln,Ch,nk]
         rw[t3]
         exact oh
        ·simp only[ln,Ch,nk] at hc
         rw[t3] at hc
         exact .inl (by simpa using hc)
     ·cases ha
    ·cases ha
   ·cases ha
  ·cases ha
 ·
  rename_i k
  split at ha
  ·rename_i cs he
   have bf:=cJ he
   have EK:(σ.aq k).isSome=true:=by rw[bf];rfl
   rw[bY] at ha
   split at ha
   ·rename_i Ao
    simp only[dR,vo] at Ao
    obtain⟨xM,gW⟩:=Ao
    split at ha
    ·rename_i l0 oe
     cases ha
     have gS:=sd oe
     obtain⟨b,h1,h2⟩:=ax (nX hx) rfl
     obtain⟨b',cur,e,h3,h4,h5,h6⟩:=h.aJ k _ bf
     rw[h1] at h3;cases h3
     subst h2
     have hlen:cs.length=cur.size:=by have:=h6.1;simpa using this
     have qU:l0.length=want.length:=by
      have:=congrArg List.length gS
      rw[kg,tj] at this
      omega
     have jN:∀u∈cur.toList.drop l0.length,bI u:=(h6.drop l0.length).mc
     have EX:∃ds,dm=[.box ds]/\ds.length=want.length/\us=[(k,.box (ds.map .c++cs.drop want.length))]/\es=[]:=by
      cases dm with
      |nil=>simp[b7] at cq
      |cons d0 dm=>
       cases dm with
       |cons _ _=>simp[b7] at cq
       |nil=>
        cases d0 with
        |one _=>simp[b7] at cq
        |agg _=>simp[b7] at cq
        |ptr _=>simp[b7] at cq
        |fn _=>simp[b7] at cq
        |box ds=>
         simp only[b7,he] at cq
         rw[bY] at cq
         split at cq
         ·rename_i pZ
          cases cq
          exact⟨ds,rfl,en pZ,rfl,rfl⟩
         ·cases cq
     obtain⟨ds,rfl,oq,rfl,rfl⟩:=EX
     refine⟨[b],⟨b,cur,e,List.replicate l0.length [],rfl,h4,by omega,by rw[qz h4],by rw[qz h4];exact jN,by simp,fun i c hc=> ?_,by rw[kt]⟩,by simp,by simpa using EK,by simp,by simp[h5],by simp,by simp,fun w' F' bQ pY kY bW ql sK=> ?_⟩
     ·have hi:i<want.length:=by
       rw[<-qU]
       rcases eW i l0.length with g|g
       ·exact g
       ·rw[eD g] at hc;cases hc
      have Gu:cs[i]? =some (.c c):=by
       have:(cs.take want.length)[i]? =some (.c c):=by rw[gS,eC,hc];rfl
       rwa[eP,if_pos hi] at this
      have h7:=ax (h6.2 i (.c c) (cur.toList.getD i undef) Gu (bg (by simp;omega))) rfl
      rw[nT]
      exact h7
     ·cases bQ with
      |nil=>exact pY.elim
      |cons l' bQ=>
       obtain⟨sL,pt⟩:=pY
       cases bQ with
       |cons _ _=>exact pt.elim
       |nil=>
        obtain⟨b2,cur',e',Fl,k1,k2,k3,k4,k5,k6,k7,rfl⟩:=sL
        cases k1
        rw[qz h4,oq] at k4
        have oh:(b::Fl.flatten).Nodup:=by simpa using ql
        have cp:cur'.toList.take ds.length++cur'.toList.drop ds.length=cur'.toList:=vq _ _
        refine⟨[(k,.box (ds.map .c++cs.drop want.length),[b])],[],rfl,rfl,fun s hs kv' fp' bad' z9 vy=> ?_,by simp,by simp[bm.bl],fun c hc=> ?_⟩
        ·rw[gj.1 hs]
         refine⟨b,cur',e',h1,k2,rfl,?_⟩
         rw[<-cp]
         refine dC.append ?_ ?_
         ·refine qD (by simp;omega) (fun i c hc=> ?_)
          have hi:i<ds.length:=by
           rcases eW i ds.length with g|g
           ·exact g
           ·rw[eD g] at hc;cases hc
          have:=k7 i c hc
          rw[cI,eP,if_pos hi,<-cI]
          exact this.di (fun _ hb=>hb) (fun b' aj=>this.wD aj)
         ·rw[oq,k4]
          exact CR gW (h6.drop want.length) (fun y hy k' aG=>z9 k' (.inr ⟨k,cs,bf,y,List.mem_of_mem_drop hy,aG⟩)) kY
        ·simp only[ln,Ch,nk,bm.bl,gj] at hc
         subst hc
         exact .inl (by simp)
    ·cases ha
   ·cases ha
  ·cases ha
 ·cases ha
theorem gh.bG{own:Bool}{cs:List U.C}{rest:List Value}{v:Value}{l:List Nat}(h:gh E w F own cs rest v l)(hF:∀b,F b->F' b):gh E w F' own cs rest v l:=by
 obtain⟨b,cur,e,fl,h1,h2,h3,h4,h5,h6,h7,h8⟩:=h
 exact⟨b,cur,e,fl,h1,h2,h3,h4,h5,h6,fun i c hc=>(h7 i c hc).bD (fun b hb=>⟨hF b hb,rfl⟩) (fun _ _=>rfl),h8⟩
theorem dV.bG{m:Mode}{d:DV U}{v:Value}{l:List Nat}(hm:m≠ .ro)(h:dV E w F m d v l)(hF:∀b,F b->F' b):dV E w F' m d v l:=by
 cases m with
 |ro=>exact absurd rfl hm
 |wr=>
  cases d with
  |one c=>
   cases c with
   |lit _=>exact h
   |sl τ xs=>exact ba.any h
  |agg _=>exact dN.any h
  |box _=>exact h
  |ptr _=>exact h
  |fn _=>exact h
 |mv=>
  cases d with
  |one c=>exact Rp.gR h (fun _ _=>rfl)
  |agg _=>exact dN.any h
  |box _=>exact h
  |ptr _=>exact h
  |fn _=>exact h
 |box own=>
  cases d with
  |box cs=>exact gh.bG h hF
  |one _=>exact h
  |agg _=>exact h
  |ptr _=>exact h
  |fn _=>exact h
theorem CU(h:aC E pm F kv fp σ a w){ks ks':List Key}(hn:(ks++ks').Nodup)(hl:∀k∈ks,(σ.aq k).isSome=true)(p5:∀k∈ks',(σ.aq k).isSome=true){b:Nat}(hb:∃k∈ks,b∈fp k):∀k∈ks',b∉fp k:=by
 intro k' aG aj
 obtain⟨k,hk,hb⟩:=hb
 obtain⟨e,he⟩:=ef.1 (hl k hk)
 obtain⟨e2,g_⟩:=ef.1 (p5 k' aG)
 exact h.apart k k' e e2 b (fun e3=>(fW.1 hn).2.2 k hk k' aG e3) he g_ hb aj
theorem zh{a1 a2 b1 b2:List Nat}(n1:(a1++b1).Nodup)(n2:(a2++b2).Nodup)(x:∀b∈a1++b1,b∉a2++b2):((a1++a2)++(b1++b2)).Nodup:=by
 have hp:((a1++a2)++(b1++b2)).Perm ((a1++b1)++(a2++b2)):=by
  rw[jz,jz]
  refine List.Perm.append_left a1 ?_
  rw[<-jz,<-jz]
  exact List.Perm.append_right b2 List.perm_append_comm
 rw[hp.nodup_iff,fW]
 exact⟨n1,n2,fun b hb c hc e=>x b hb (e▸hc)⟩
theorem rf.merge(h:aC E pm F kv fp σ a w){ks ks':List Key}(hn:(ks++ks').Nodup)(hl:∀k∈ks,(σ.aq k).isSome=true)(p5:∀k∈ks',(σ.aq k).isSome=true){er:Nat}{l l':List Nat}{us s7:List (Key×b9 U)}{es AE:List (Nat×b9 U)}{ml Gg:List Nat}
  (h1:rf E σ w F kv fp er ks l us es w' F' ml) (h2:rf E σ w F kv fp er ks' l' s7 AE w' F' Gg) (ql:(ml++Gg).Nodup) (hf:∀b∈l,∃k∈ks,b∈fp k) (B3:∀b∈l',∃k∈ks',b∈fp k)
  (ho:∀b∈ml++Gg,b∈l++l'\/∀k∈ks++ks',b∉fp k):rf E σ w F kv fp er (ks++ks') (l++l') (us++s7) (es++AE) w' F' (ml++Gg):=by
 obtain⟨tl,t,a1,a2,a3,a4,a5,a6⟩:=h1
 obtain⟨G',t',b1,b2,b3,b4,b5,b6⟩:=h2
 have jS:∀{b:Nat},(∃k∈ks,b∈fp k)->¬∃k∈ks',b∈fp k:=fun hb hc=>by
  obtain⟨k,hk,dM⟩:=hc
  exact CU h hn hl p5 hb k hk dM
 have hx:∀b∈tl.flatMap (·.2.2)++t.bl,b∉G'.flatMap (·.2.2)++t'.bl:=by
  intro b hb aj
  rcases a6 b hb with g|⟨g,gk⟩
  ·rcases b6 b aj with g'|⟨g',GD⟩
   ·exact(fW.1 ql).2.2 b g b g' rfl
   ·rcases ho b (fy _ g) with q|q
    ·rcases cZ.1 q with q|q
     ·exact jS (hf b q) GD
     ·exact g' q
    ·obtain⟨k,hk,cq⟩:=GD
     exact q k (eZ _ hk) cq
  ·rcases b6 b aj with g'|⟨g',GD⟩
   ·rcases ho b (eZ _ g') with q|q
    ·rcases cZ.1 q with q|q
     ·exact g q
     ·exact jS gk (B3 b q)
    ·obtain⟨k,hk,cq⟩:=gk
     exact q k (fy _ hk) cq
   ·exact jS gk GD
 refine⟨tl++G',t++t',by rw[GX,a1,b1],by rw[bm.nz,a2,b2],fun s hs kv' fp' bad' q1 q2=> ?_,fun s hs=> ?_,?_,fun b hb=> ?_⟩
 ·rcases cZ.1 hs with hs|hs
  ·exact a3 s hs kv' fp' bad' q1 fun s' cO=>q2 s' (fy _ cO)
  ·exact b3 s hs kv' fp' bad' q1 fun s' cO=>q2 s' (eZ _ cO)
 ·rcases cZ.1 hs with hs|hs
  ·exact a4 s hs
  ·exact b4 s hs
 ·rw[BH,bm.iQ]
  exact zh a5 b5 hx
 ·rw[BH,bm.iQ] at hb
  have hb:b∈tl.flatMap (·.2.2)++t.bl\/b∈G'.flatMap (·.2.2)++t'.bl:=by
   simp only[cZ] at hb⊢
   rcases hb with(hb|hb)|(hb|hb)
   ·exact .inl (.inl hb)
   ·exact .inr (.inl hb)
   ·exact .inl (.inr hb)
   ·exact .inr (.inr hb)
  rcases hb with hb|hb
  ·rcases a6 b hb with g|⟨g,k,hk,cq⟩
   ·exact .inl (fy _ g)
   ·exact .inr ⟨fun q=>(cZ.1 q).elim g (fun q=>jS ⟨k,hk,cq⟩ (B3 b q)),k,fy _ hk,cq⟩
  ·rcases b6 b hb with g|⟨g,k,hk,cq⟩
   ·exact .inl (eZ _ g)
   ·exact .inr ⟨fun q=>(cZ.1 q).elim (fun q=>jS (hf b q) ⟨k,hk,cq⟩) g,k,eZ _ hk,cq⟩
theorem bk.split{w0:World}{m:Mode}{v:Value}{ms:List Mode}{vs:List Value}{dm:List (DV U)}{bQ:List (List Nat)}(hm:m≠ .ro)(h:bk E w F w0 (m::ms) (v::vs) dm bQ):
  ∃nu wE,bQ=nu++wE/\bk E w F w0 [m] [v] (lu m dm) nu/\bk E w F w0 ms vs (jH m dm) wE:=by
 cases m with
 |ro=>exact absurd rfl hm
 |mv=>exact⟨[],bQ,rfl,trivial,by simpa[bk,jH] using h⟩
 |wr=>
  cases dm with
  |nil=>cases bQ<;>exact h.elim
  |cons d dm=>
   cases bQ with
   |nil=>cases d<;>first|exact h.elim|(rename_i c;cases c<;>exact h.elim)
   |cons l' bQ=>
    cases d with
    |one c=>
     cases c with
     |lit _=>exact h.elim
     |sl τ ys=>exact⟨[l'],bQ,rfl,⟨h.1,trivial⟩,h.2⟩
    |agg _=>exact⟨[l'],bQ,rfl,⟨h.1,trivial⟩,h.2⟩
    |box _=>exact h.elim
    |ptr _=>exact h.elim
    |fn _=>exact h.elim
 |box own=>
  cases dm with
  |nil=>cases bQ<;>exact h.elim
  |cons d dm=>
   cases bQ with
   |nil=>cases d<;>exact h.elim
   |cons l' bQ=>
    cases d with
    |box cs=>exact⟨[l'],bQ,rfl,⟨h.1,trivial⟩,h.2⟩
    |one _=>exact h.elim
    |agg _=>exact h.elim
    |ptr _=>exact h.elim
    |fn _=>exact h.elim
theorem HQ(h:aC E pm F kv fp σ a w){rs:List Key}{n:Nat}:∀{ms:List Mode}{ws:List (List (Option U.Ty))}{xs:List (SV U)}{vs:List Value}{ps:List Prop}{ds:List (DV U)},
  ew E (restrict σ.aq rs) σ.ag ms ws xs=some (ps,ds)->xs.length=vs.length->(∀(i:Nat)(x:SV U)(v:Value),xs[i]? =some x->vs[i]? =some v->RS E w F kv fp (av σ) x v)->lW (restrict σ.aq rs) n ms ws xs=true->gN w n ms ds vs:=by
 intro ms
 induction ms with
 |nil=>intro ws xs vs ps ds _ _ _ _;trivial
 |cons m ms ih=>
  intro ws xs vs ps ds ha hl hx hr
  cases xs with
  |nil=>cases m<;>simp[ew] at ha
  |cons x xs=>
   cases vs with
   |nil=>simp at hl
   |cons v vs=>
    simp only[ew] at ha
    split at ha
    rotate_left
    ·cases ha
    rename_i vx d1 zf B_ h1 h2
    cases ha
    simp only[lW,dR] at hr
    refine⟨fun own cs hm hd=> ?_,ih h2 (by simpa using hl) (fun i y u hy hu=>hx (i+1) y u (by simpa using hy) (by simpa using hu)) hr.2⟩
    subst hm
    subst hd
    have m8:=hr.1
    split at m8
    ·rename_i o1 k off B5
     split at m8
     rotate_left
     ·cases m8
     rename_i bs he
     have bf:=cJ he
     have hlen:=en m8
     simp only[iy] at h1
     split at h1
     rotate_left
     ·cases h1
     rename_i Ge d0 Ed ed
     cases h1
     have cp:cs.length=(ws.headD []).length/\off=0:=by
      cases own with
      |true=>
       cases off with
       |succ n'=>simp[dG] at ed
       |zero=>
        simp only[dG,he] at ed
        rw[bY] at ed
        split at ed
        rotate_left
        ·cases ed
        split at ed
        rotate_left
        ·cases ed
        rename_i q1 q2 q3 ht
        rw[bY] at ed
        split at ed
        rotate_left
        ·cases ed
        cases ed
        have:=CP ht
        rw[kg] at this
        exact⟨by omega,rfl⟩
      |false=>
       cases off with
       |succ n'=>simp[dG] at ed
       |zero=>
        simp only[dG,he] at ed
        rw[bY] at ed
        split at ed
        rotate_left
        ·cases ed
        split at ed
        rotate_left
        ·cases ed
        rename_i l0 oe
        cases ed
        have:=congrArg List.length (sd oe)
        rw[kg,tj] at this
        exact⟨by omega,rfl⟩
     obtain⟨cp,rfl⟩:=cp
     have Pk:=hx 0 _ v rfl rfl
     obtain⟨b,g1,g2⟩:=ax (nX Pk) rfl
     obtain⟨b',cur,e,g3,g4,g5,g6⟩:=h.aJ k _ bf
     rw[g1] at g3;cases g3
     rw[g2,qz g4,px,<-g6.1]
     omega
    ·cases m8
    ·rename_i s_ _
     exact absurd rfl (s_ own)
theorem JE(hC:∀g k,E.s3 g=some k->j_ E.P g/\aZ E g k)(h:aC E pm F kv fp σ a w){rs:List Key}{K:List Key}{er:Nat}:∀{ms:List Mode}{ws:List (List (Option U.Ty))}{xs:List (SV U)}{vs:List Value}{ps:List Prop}{ds dm:List (DV U)}{us:List (Key×b9 U)}{es:List (Nat×b9 U)}{lk:List Key},
  ew E (restrict σ.aq rs) σ.ag ms ws xs=some (ps,ds)->(∀p∈ps,p)->xs.length=vs.length->(∀(i:Nat)(x:SV U)(v:Value),xs[i]? =some x->vs[i]? =some v->RS E w F kv fp (av σ) x v)->
  (∀x∈xs,∀k∈x.keys,Names σ k)->(∀k∈bi ms xs,(σ.aq k).isSome=true->k∈K)->dE (restrict σ.aq rs) σ.ag er ms ws xs dm=some (us,es,lk)->
  ∃ls,cv E w (FK F fp K) ms ds vs ls/\lk.Nodup/\(∀k∈lk,(σ.aq k).isSome=true/\Names σ k)/\ls.flatten.Nodup/\(∀b∈ls.flatten,∃k∈lk,b∈fp k)/\(us.map (·.1)).Nodup/\(∀u∈us,u.1∈lk)/\
   ∀(w':World)(F':Nat->Prop)(bQ:List (List Nat)),bk E w' F' w ms vs dm bQ->(∀b,F b->F' b/\w'.heap[b]? =w.heap[b]?)->(∀k∈lk,∀c∈fp k,c∉ls.flatten->w'.heap[c]? =w.heap[c]?)->bQ.flatten.Nodup->
    (∀b∈bQ.flatten,b∈ls.flatten\/∀k∈lk,b∉fp k)->rf E σ w F kv fp er lk ls.flatten us es w' F' bQ.flatten:=by
 intro ms
 induction ms with
 |nil=>
  intro ws xs vs ps ds dm us es lk ha hp hl hx gi hK hu
  cases xs with
  |cons x xs=>simp[ew] at ha
  |nil=>
   cases vs with
   |cons v vs=>simp at hl
   |nil=>
    cases dm with
    |cons d dm=>simp[dE] at hu
    |nil=>
     simp only[ew,bM,eX] at ha
     obtain⟨rfl,rfl⟩:=ha
     simp only[dE,bM,eX] at hu
     obtain⟨rfl,rfl,rfl⟩:=hu
     refine⟨[],trivial,by simp,by simp,by simp,by simp,by simp,by simp,fun w' F' bQ hm _ _ _ _=> ?_⟩
     cases bQ with
     |nil=>exact⟨[],[],rfl,rfl,by simp,by simp,by simp[bm.bl],by simp[bm.bl]⟩
     |cons _ _=>exact hm.elim
 |cons m ms ih=>
  intro ws xs vs ps ds dm us es lk ha hp hl hx gi hK hu
  cases xs with
  |nil=>cases m<;>simp[ew] at ha
  |cons x xs=>
   cases vs with
   |nil=>simp at hl
   |cons v vs=>
    simp only[ew] at ha
    split at ha
    ·rename_i vx d1 zf B_ h1 h2
     cases ha
     have sF:∀(i:Nat)(y:SV U)(u:Value),xs[i]? =some y->vs[i]? =some u->RS E w F kv fp (av σ) y u:=fun i y u hy hu=>hx (i+1) y u (by simpa using hy) (by simpa using hu)
     by_cases hm:m=.ro
     ·subst hm
      simp only[dE] at hu
      obtain⟨ls,i1,i2,i3,i4,i5,i6,i7,i8⟩:=ih h2 (fun p cT=>hp p (by simp[cT])) (by simpa using hl) sF (fun y hy=>gi y (c9 _ hy)) (fun k hk=>hK k (by simp[bi,hk])) hu
      refine⟨[]::ls,⟨JH hC h h1 (fun p cT=>hp p (by simp[cT])) (hx 0 x v rfl rfl) (fun k hk=>hK k (by simp[bi,hk])),i1⟩,i2,i3,by simpa using i4,by simpa using i5,i6,i7,fun w' F' bQ pY kY bW ql sK=> ?_⟩
      have:=i8 w' F' bQ (by simpa[bk] using pY) kY (by simpa using bW) ql (by simpa using sK)
      simpa using this
     ·have ga:∃Ge d0 ks ks' G7 Lh Gc GG,dG (restrict σ.aq rs) σ.ag (ws.headD []) m x=some (Ge,d0,ks)/\b7 (restrict σ.aq rs) er (ws.headD []).length m x (lu m dm)=some (G7,Lh)/\dE (restrict σ.aq rs) σ.ag er ms ws.tail xs (jH m dm)=some (Gc,GG,ks')/\(ks++ks').Nodup/\us=G7++Gc/\es=Lh++GG/\lk=ks++ks'/\vx=Ge/\d1=d0:=by
       have xD:(match dG (restrict σ.aq rs) σ.ag (ws.headD []) m x,b7 (restrict σ.aq rs) er (ws.headD []).length m x (lu m dm) with
        |some (_,_,ks),some (us,es)=>match dE (restrict σ.aq rs) σ.ag er ms ws.tail xs (jH m dm) with
         |some (s7,AE,ks')=>bif distinct (ks++ks') then some (us++s7,es++AE,ks++ks') else none
         |none=>none
        |_,_=>none)=some (us,es,lk):=by
        cases m with
        |ro=>exact absurd rfl hm
        |wr=>exact hu
        |mv=>exact hu
        |box _=>exact hu
       split at xD
       ·rename_i p0 d0 ks Q8 Ro g1 g2
        split at xD
        ·rename_i Gc GG ks' g3
         rw[bY] at xD
         split at xD
         ·rename_i gD
          cases xD
          have:iy E (restrict σ.aq rs) σ.ag (ws.headD []) m x=some (p0,d0):=by
           cases m with
           |ro=>exact absurd rfl hm
           |wr=>simp only[iy,g1]
           |mv=>simp only[iy,g1]
           |box _=>simp only[iy,g1]
          rw[this] at h1
          cases h1
          exact⟨_,_,ks,ks',_,_,_,_,g1,g2,g3,ic.1 gD,rfl,rfl,rfl,rfl,rfl⟩
         ·cases xD
        ·cases xD
       ·cases xD
      obtain⟨Ge,d0,ks,ks',G7,Lh,Gc,GG,g1,g2,g3,kW,rfl,rfl,rfl,rfl,rfl⟩:=ga
      obtain⟨l,r1,r2,r3,r4,r5,r6,r7,r8⟩:=IK h g1 (fun p cT=>hp p (by simp[cT])) (hx 0 x v rfl rfl) (gi x e_) g2
      obtain⟨ls,i1,i2,i3,i4,i5,i6,i7,i8⟩:=ih h2 (fun p cT=>hp p (by simp[cT])) (by simpa using hl) sF (fun y hy=>gi y (c9 _ hy)) (fun k hk=>hK k (by cases m<;>first|exact absurd rfl hm|simpa[bi] using hk)) g3
      have jS:∀{b:Nat},(∃k∈ks,b∈fp k)->¬∃k∈ks',b∈fp k:=fun hb hc=>by
       obtain⟨k,hk,dM⟩:=hc
       exact CU h kW r3 (fun k hk=>(i3 k hk).1) hb k hk dM
      refine⟨l::ls,⟨r1.bG hm (fun b hb=> .inl hb),i1⟩,kW,fun k hk=> ?_,?_,fun b hb=> ?_,?_,fun u hu=> ?_,fun w' F' bQ pY kY bW ql sK=> ?_⟩
      ·rcases cZ.1 hk with hk|hk
       ·exact⟨r3 k hk,IL g1 (gi x e_) k hk⟩
       ·exact i3 k hk
      ·rw[qq,fW]
       exact⟨r4,i4,fun b hb c hc e=>jS (r5 b hb) (i5 b (e▸hc))⟩
      ·rw[qq] at hb
       rcases cZ.1 hb with hb|hb
       ·obtain⟨k,hk,hb⟩:=r5 b hb;exact⟨k,fy _ hk,hb⟩
       ·obtain⟨k,hk,hb⟩:=i5 b hb;exact⟨k,eZ _ hk,hb⟩
      ·rw[GX,fW]
       refine⟨r6,i6,fun k hk k' aG e=> ?_⟩
       obtain⟨u,hu,rfl⟩:=ez.1 hk
       obtain⟨u',ga,rfl⟩:=ez.1 aG
       exact(fW.1 kW).2.2 _ (r7 u hu) _ (i7 u' ga) e
      ·rcases cZ.1 hu with hu|hu
       ·exact fy _ (r7 u hu)
       ·exact eZ _ (i7 u hu)
      obtain⟨nu,wE,rfl,q1,q2⟩:=pY.split hm
      rw[pq] at ql sK⊢
      rw[qq] at bW sK⊢
      have oh:=fW.1 ql
      have B1:=r8 w' F' nu q1 kY (fun k hk c hc cp=>bW k (fy _ hk) c hc (by
        rw[cZ]
        exact fun Ke=>Ke.elim cp (fun q=>jS ⟨k,hk,hc⟩ (i5 c q)))) oh.1 (fun b hb=>by
        rcases sK b (fy _ hb) with g|g
        ·rcases cZ.1 g with g|g
         ·exact .inl g
         ·exact .inr fun k hk cq=>jS ⟨k,hk,cq⟩ (i5 b g)
        ·exact .inr fun k hk=>g k (fy _ hk))
      have B2:=i8 w' F' wE q2 kY (fun k hk c hc cp=>bW k (eZ _ hk) c hc (by
        rw[cZ]
        exact fun Ke=>Ke.elim (fun q=>jS (r5 c q) ⟨k,hk,hc⟩) cp)) oh.2.1 (fun b hb=>by
        rcases sK b (eZ _ hb) with g|g
        ·rcases cZ.1 g with g|g
         ·exact .inr fun k hk cq=>jS (r5 b g) ⟨k,hk,cq⟩
         ·exact .inl g
        ·exact .inr fun k hk=>g k (eZ _ hk))
      exact rf.merge h kW r3 (fun k hk=>(i3 k hk).1) B1 B2 ql r5 i5 sK
    ·cases ha
end AM
