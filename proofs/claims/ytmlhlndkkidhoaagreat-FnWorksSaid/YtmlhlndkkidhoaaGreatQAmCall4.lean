/- THE ABSTRACT MACHINE: an argument that is lent to a call, and what comes back. -/
import Derived.Test.YtmlhlndkkidhoaaGreatQAmCall2
namespace AM
set_option linter.unusedVariables false
open Go
variable{U:kZ}{E:Env U}{pm:Pm}
variable{F F':Nat->Prop}{kv:Key->Value}{fp:Key->List Nat}{σ:ah U}{a:Act}{w w':World}{bad:Key->Bool}
theorem alD{kv':Key->Value}{fp':Key->List Nat}{bad':Key->Bool}{y:AC U}{v:Value}(hs:y.still=true)(h:RD E w F kv fp bad y v)(hk:∀k∈y.keys,kv' k=kv k)
  (hF:∀b,F b->F' b/\w'.heap[b]? =w.heap[b]?):RD E w' F' kv' fp' bad' y v:=by
 have hb:iG bad y=false:=by
  unfold AC.still at hs
  split at hs<;>first|rfl|cases hs
 refine⟨h.1,.inr ?_⟩
 have h0:=cf h hb
 unfold AC.still at hs
 split at hs
 ·exact Rp.f_ h0 hF (by simp)
 ·exact h0
 ·rename_i k
  simp only[RA] at h0⊢
  rw[hk k (by simp[AC.keys])];exact h0
 ·rename_i k off
  simp only[RA] at h0⊢
  rw[hk k (by simp[AC.keys])];exact h0
 ·cases hs
theorem abR{kv':Key->Value}{fp':Key->List Nat}{bad':Key->Bool}{xs:List (AC U)}{vs:List Value}(hs:xs.all AC.still=true)(h:ly E w F kv fp bad xs vs)(hk:∀y∈xs,∀k∈y.keys,kv' k=kv k)
  (hF:∀b,F b->F' b/\w'.heap[b]? =w.heap[b]?):ly E w' F' kv' fp' bad' xs vs:=
 ⟨h.1,fun i y v hy hv=>alD (rh.1 hs y (EM hy)) (h.2 i y v hy hv) (hk y (EM hy)) hF⟩
theorem XX(h:cE E pm F kv fp σ a w):∀{ks:List Key},ks.Nodup->(∀k∈ks,(σ.bJ k).isSome=true)->(ks.flatMap fp).Nodup
 |[],_,_=>by simp
 |k::ks,hn,hl=>by
  rw[yh,qB]
  obtain⟨e,he⟩:=mI.1 (hl k gj)
  rw[sN] at hn
  refine⟨h.nodup k e he,XX h hn.2 (fun k' cO=>hl k' (cA _ cO)),fun b hb c hc e'=> ?_⟩
  subst e'
  obtain⟨k',cO,bf⟩:=nT.1 hc
  obtain⟨e2,sS⟩:=mI.1 (hl k' (cA _ cO))
  exact h.apart k k' e e2 b (fun e=>hn.1 (e▸cO)) he sS hb bf
theorem Xy(h:cE E pm F kv fp σ a w){rs:List Key}:∀{xs:List (AC U)}{vs:List Value}{cs uK:List U.C}{ks:List Key}{us:List (Key×iv U)}{fl:List (List Nat)},js (restrict σ.bJ rs) xs=some (cs,ks)->ly E w F kv fp (bW σ) xs vs->
  lN xs uK=some us->fl.length=uK.length->(∀(i:Nat)(c:U.C),uK[i]? =some c->Rp E w' F' true c (vs.getD i undef) (fl.getD i []))->
  us.map (·.1)=ks/\∃tl:List (Key×iv U×List Nat),tl.map (fun t=>(t.1,t.2.1))=us/\(∀s∈tl,∀kv' fp' bad',sE E w' F' kv' fp' bad' s.2.1 (kv s.1) s.2.2)/\tl.flatMap (·.2.2)=fl.flatten
 |[],vs,cs,uK,ks,us,fl,hw,hx,hu,hl,hr=>by
  simp only[js,gx,ox] at hw
  obtain⟨rfl,rfl⟩:=hw
  cases uK with
  |cons _ _=>simp[lN] at hu
  |nil=>
   simp only[lN,gx] at hu
   subst hu
   have:fl=[]:=Em hl
   subst this
   exact⟨rfl,[],rfl,by simp,rfl⟩
 |x::xs,vs,cs,uK,ks,us,fl,hw,hx,hu,hl,hr=>by
  obtain⟨v,uZ,rfl,h1,h2⟩:=hx.cons_inv
  cases uK with
  |nil=>unfold lN at hu;split at hu<;>first|(rename_i e1 e2;cases e1;done)|(rename_i e1 e2;cases e2;done)|cases hu
  |cons c uK=>
   cases fl with
   |nil=>simp at hl
   |cons l fl=>
    have UN:Rp E w' F' true c v l:=by simpa using hr 0 c rfl
    have Ey:∀(i:Nat)(c:U.C),uK[i]? =some c->Rp E w' F' true c (uZ.getD i undef) (fl.getD i []):=fun i c hc=>by simpa using hr (i+1) c (by simpa using hc)
    have L8:fl.length=uK.length:=by simpa using hl
    unfold js at hw
    split at hw
    ·rename_i pe;cases pe
    ·rename_i u r pe
     cases pe
     split at hw
     ·rename_i cs0 ks0 Fe
      cases hw
      cases c with
      |sl τ ys=>simp[lN] at hu
      |lit u'=>
       simp only[lN] at hu
       obtain⟨i1,tl,i2,i3,i4⟩:=Xy h Fe h2 hu L8 Ey
       obtain⟨rfl,_,_⟩:=UN.mh
       exact⟨i1,tl,i2,i3,by simpa using i4⟩
     ·cases hw
    ·rename_i k r pe
     cases pe
     split at hw
     ·rename_i y cs0 ks0 he Fe
      cases hw
      cases c with
      |lit _=>simp[lN] at hu
      |sl τ ys=>
       simp only[lN] at hu
       split at hu
       ·rename_i Od rI
        cases hu
        obtain⟨i1,tl,i2,i3,i4⟩:=Xy h Fe h2 rI L8 Ey
        have hv:v=kv k:=cf h1 rfl
        refine⟨by simp[i1],(k,.arr ⟨τ,ys⟩ true,l)::tl,by simp[i2],fun s hs kv' fp' bad'=> ?_,by simp[i4]⟩
        rcases jQ.1 hs with rfl|hs
        ·rw[<-hv];exact UN.Gx
        ·exact i3 s hs kv' fp' bad'
       ·cases hu
     ·cases hw
    ·cases hw
theorem Rp.Uw{c:U.C}{v:Value}{l:List Nat}(h:Rp E w F false c v l){b:Nat}(hb:b∈l):F' b:=by
 generalize hm:false=m at h
 cases h with
 |lit=>cases hb
 |nil=>cases hb
 |shr=>cases hb
 |own=>cases hm
def Lw(E:Env U)(σ:ah U)(w:World)(F:Nat->Prop)(kv:Key->Value)(fp:Key->List Nat)(m8:Nat)(ks:List Key)(l:List Nat)(us:List (Key×iv U))(es:List (Nat×iv U))(w':World)(F':Nat->Prop)(ml:List Nat):Prop:=
 ∃(tl:List (Key×iv U×List Nat))(t:fi U),tl.map (fun t=>(t.1,t.2.1))=us/\es=t.es/\
  (∀s∈tl,∀kv' fp' bad',(∀k,Names σ k->kv' k=kv k)->(∀s∈t,kv' (m8,s.1)=s.2.2.1)->sE E w' F' kv' fp' bad' s.2.1 (kv s.1) s.2.2)/\
  (∀s∈t,∀kv' fp' bad',sE E w' F' kv' fp' bad' s.2.1 s.2.2.1 s.2.2.2)/\
  (tl.flatMap (·.2.2)++t.bl).Nodup/\∀b∈tl.flatMap (·.2.2)++t.bl,b∈ml\/(b∉l/\∃k∈ks,b∈fp k)
theorem aly{tb:pQ U}{want:Option U.Ty}{x:AC U}{ps:List Prop}{c:U.C}{ks:List Key}{d:Bool}(h:tf tb want x=some (ps,c,ks,d)):∀k∈ks,k∈x.keys:=by
 unfold tf at h
 split at h
 ·cases h;simp
 ·cases h;simp
 ·split at h<;>cases h;simp
 ·split at h<;>cases h<;>simp[AC.keys]
 ·split at h<;>cases h<;>simp[AC.keys]
 ·cases h
theorem abP{tb:pQ U}:∀{xs:List (AC U)}{want:List (Option U.Ty)}{ps:List Prop}{cs:List U.C}{ks:List Key}{d:Bool},fa tb want xs=some (ps,cs,ks,d)->cs.length=xs.length
 |[],want,ps,cs,ks,d,h=>by
  simp only[fa,gx,ox] at h
  obtain⟨_,rfl,_⟩:=h
  rfl
 |x::xs,want,ps,cs,ks,d,h=>by
  simp only[fa] at h
  split at h
  ·rename_i h1 h2
   cases h
   simp[abP h2]
  ·cases h
theorem ly.CW{xs:List (AC U)}{vs:List Value}(h:ly E w F kv fp bad xs vs):∀v∈vs,gp v:=by
 intro v hv
 obtain⟨n,hn,rfl⟩:=ri hv
 exact(h.2 n (xs[n]'(by rw[h.1];exact hn)) _ (fo _) (fo hn)).1
theorem XD{tb:pQ U}:∀{xs:List (AC U)}{want:List (Option U.Ty)}{ps:List Prop}{cs:List U.C}{ks:List Key}{d:Bool},fa tb want xs=some (ps,cs,ks,d)->∀k∈ks,∃x∈xs,k∈x.keys
 |[],want,ps,cs,ks,d,h,k,hk=>by
  simp only[fa,gx,ox] at h
  obtain⟨_,_,rfl,_⟩:=h
  cases hk
 |x::xs,want,ps,cs,ks,d,h,k,hk=>by
  simp only[fa] at h
  split at h
  ·rename_i h1 h2
   cases h
   rcases jr.1 hk with hk|hk
   ·exact⟨x,gj,aly h1 k hk⟩
   ·obtain⟨y,hy,hk⟩:=XD h2 k hk
    exact⟨y,cA _ hy,hk⟩
  ·cases h
theorem XA{tb:pQ U}:∀{xs:List (AC U)}{cs:List U.C}{ks:List Key},js tb xs=some (cs,ks)->∀k∈ks,∃x∈xs,k∈x.keys
 |[],cs,ks,h,k,hk=>by
  simp only[js,gx,ox] at h
  obtain⟨_,rfl⟩:=h
  cases hk
 |x::xs,cs,ks,h,k,hk=>by
  unfold js at h
  split at h
  ·rename_i pe;cases pe
  ·rename_i pe;cases pe
   split at h
   ·rename_i h1
    cases h
    obtain⟨y,hy,hk⟩:=XA h1 k hk
    exact⟨y,cA _ hy,hk⟩
   ·cases h
  ·rename_i pe;cases pe
   split at h
   ·rename_i h0 h1
    cases h
    rcases jQ.1 hk with rfl|hk
    ·exact⟨_,gj,by simp[AC.keys]⟩
    ·obtain⟨y,hy,hk⟩:=XA h1 k hk
     exact⟨y,cA _ hy,hk⟩
   ·cases h
  ·cases h
theorem amQ{rs:List Key}{want:List (Option U.Ty)}{m:Mode}{x:SV U}{ps:List Prop}{d:DV U}{ks:List Key}(h:lJ (restrict σ.bJ rs) σ.aK want m x=some (ps,d,ks))(uk:∀k∈x.keys,Names σ k):∀k∈ks,Names σ k:=by
 unfold lJ at h
 split at h
 ·split at h
  ·rw[h_] at h
   split at h
   ·split at h
    ·cases h
     intro k hk
     exact uk k (by simpa[SV.keys,SV.AQ,AC.keys] using hk)
    ·cases h
   ·cases h
  ·cases h
 ·rename_i cs
  split at h
  ·rename_i hw
   rw[h_] at h
   split at h
   ·cases h
    intro k hk
    obtain⟨y,hy,hk⟩:=XA hw k hk
    exact uk k (SV.mem_keys.2 ⟨y,hy,hk⟩)
   ·cases h
  ·cases h
 ·rename_i y
  split at h
  ·rename_i hw
   split at h
   ·rw[h_] at h
    split at h
    ·cases h
     intro k hk
     obtain⟨z,hz,hk⟩:=XD hw k hk
     exact uk k (SV.mem_keys.2 ⟨z,hz,hk⟩)
    ·cases h
   ·cases h
  ·cases h
 ·rename_i k0
  have AB:Names σ k0:=uk k0 (by simp[SV.keys,SV.AQ,AC.keys])
  split at h
  ·rename_i cs he
   rw[h_] at h
   split at h
   ·split at h
    ·rename_i hw
     rw[h_] at h
     split at h
     ·cases h
      intro k hk
      rcases jQ.1 hk with rfl|hk
      ·exact AB
      ·obtain⟨z,hz,hk⟩:=XD hw k hk
       exact .inr ⟨k0,cs,jS he,z,List.mem_of_mem_take hz,hk⟩
     ·cases h
    ·cases h
   ·cases h
  ·cases h
 ·rename_i k0
  have AB:Names σ k0:=uk k0 (by simp[SV.keys,SV.AQ,AC.keys])
  split at h
  ·rw[h_] at h
   split at h
   ·split at h
    ·cases h
     intro k hk
     rw[ma.1 hk]
     exact AB
    ·cases h
   ·cases h
  ·cases h
 ·cases h
theorem amP(h:cE E pm F kv fp σ a w){rs:List Key}{want:List (Option U.Ty)}{m:Mode}{x:SV U}{v:Value}{ps:List Prop}{d:DV U}{ks:List Key}
  (ha:lJ (restrict σ.bJ rs) σ.aK want m x=some (ps,d,ks)) (hp:∀p∈ps,p) (hx:RS E w F kv fp (bW σ) x v) (uk:∀k∈x.keys,Names σ k)
  {m8:Nat} {dm:List (DV U)} {us:List (Key×iv U)} {es:List (Nat×iv U)} (iO:ij (restrict σ.bJ rs) m8 want.length m x dm=some (us,es)):
  ∃l,l_ E w F m d v l/\ks.Nodup/\(∀k∈ks,(σ.bJ k).isSome=true)/\l.Nodup/\(∀b∈l,∃k∈ks,b∈fp k)/\
   (us.map (·.1)).Nodup/\(∀u∈us,u.1∈ks)/\
    ∀(w':World)(F':Nat->Prop)(iQ:List (List Nat)),fe E w' F' w [m] [v] dm iQ->(∀b,F b->F' b/\w'.heap[b]? =w.heap[b]?)->(∀k∈ks,∀c∈fp k,c∉l->w'.heap[c]? =w.heap[c]?)->iQ.flatten.Nodup->
     (∀b∈iQ.flatten,b∈l\/∀k∈ks,b∉fp k)->Lw E σ w F kv fp m8 ks l us es w' F' iQ.flatten:=by
 have jf:∀{k:Key}{b:Nat},(σ.bJ k).isSome=true->b∈fp k->b<w.heap.size:=by
  intro k b hk hb
  obtain⟨e,he⟩:=mI.1 hk
  exact(h.fK k e b he hb).2.2
 unfold lJ at ha
 split at ha
 ·
  rename_i k p
  split at ha
  ·rename_i y he
   have e8:=jS he
   cases iq:fL (restrict σ.bJ rs) σ.aK k p<;>simp only[iq,cond_false,cond_true] at ha
   ·cases ha
   ·split at ha
    ·rename_i IF b hw
     cases ha
     have Az:=Gf hx
     have nK:=cf Az (Gd iq he)
     have h0:eW E w F true y (kv k) (fp k):=h.di k _ e8
     have YU:(σ.bJ k).isSome=true:=by rw[e8];rfl
     unfold ij at iO
     split at iO
     ·rename_i k' p' τ ys pe
      cases pe
      simp only[he] at iO
      split at iO
      ·rename_i a' Wj
       cases iO
       obtain⟨vb,Og,pre,post,b',f1,f2,f3,f4,f5⟩:=h0.focus (h.nodup k _ e8) hw hp Wj
       have hvb:v=vb:=nK.unique f2
       subst hvb
       have hn:=h.nodup k _ e8
       rw[f4,qB,qB] at hn
       refine⟨Og,f3,by simp,by simpa using YU,hn.1.2.1,fun c hc=>⟨k,by simp,by rw[f4];simp[hc]⟩,by simp,by simp,fun w' F' iQ I9 zW iN Kb Nr=> ?_⟩
       cases iQ with
       |nil=>exact I9.elim
       |cons l' iQ=>
        obtain⟨Ns,H3⟩:=I9
        cases iQ with
        |cons _ _=>exact H3.elim
        |nil=>
         obtain⟨⟨n1,n2,n3⟩,n4,n5⟩:=hn
         have vT:∀c∈pre++post,c∈fp k/\c∉Og:=by
          intro c hc
          rcases jr.1 hc with hc|hc
          ·exact⟨by rw[f4];simp[hc],fun l4=>n3 c hc c l4 rfl⟩
          ·exact⟨by rw[f4];simp[hc],fun l4=>n5 c (pS _ l4) c hc rfl⟩
         have V':∀c∈pre++post,c∉l':=by
          intro c hc l4
          rcases Nr c (by simpa using l4) with g|g
          ·exact(vT c hc).2 g
          ·exact g k (by simp) (vT c hc).1
         refine⟨[(k,.arr a' true,pre++l'++post)],[],rfl,rfl,fun s hs kv' fp' bad' _ _=> ?_,by simp,?_,fun c hc=> ?_⟩
         ·rw[ma.1 hs]
          split at f1
          ·rename_i zs hz
           have:=dQ hz
           cases this
           cases f1
           exact f5 w' F' l' rfl Ns (fun c hc=>iN k (by simp) c (vT c hc).1 (vT c hc).2)
          ·cases f1
         ·simp only[yh,zen,ww,fi.bl]
          have GC:l'.Nodup:=by simpa using Kb
          rw[qB,qB]
          refine⟨⟨n1,GC,fun c hc e he e'=>V' c (qC _ hc) (e'▸he)⟩,n4,fun c hc e he e'=> ?_⟩
          rcases jr.1 hc with hc|hc
          ·exact n5 c (qC _ hc) e he e'
          ·exact V' e (pS _ he) (e'▸hc)
         ·simp only[yh,zen,ww,fi.bl,jr] at hc
          rcases hc with(hc|hc)|hc
          ·exact .inr ⟨(vT c (qC _ hc)).2,k,by simp,(vT c (qC _ hc)).1⟩
          ·exact .inl (by simpa using hc)
          ·exact .inr ⟨(vT c (pS _ hc)).2,k,by simp,(vT c (pS _ hc)).1⟩
      ·cases iO
     all_goals first|(rename_i pe;cases pe;done)|(rename_i pe _;cases pe;done)|cases iO
    ·cases ha
  ·cases ha
 ·
  rename_i cs
  split at ha
  ·rename_i ds ks0 hw
   rw[h_] at ha
   split at ha
   ·rename_i rO
    cases ha
    have s7:=tu.1 rO
    obtain⟨vs,Eh,hv⟩:=hx
    simp only[if_true] at hv
    obtain⟨g1,g2,fl,f1,f2,f3⟩:=Xz h hw Eh
    unfold ij at iO
    split at iO
    ·rename_i pe;cases pe
    ·rename_i uK ds' pe
     cases pe
     split at iO
     ·rename_i Od hu
      cases iO
      have AB:us.map (·.1)=ks:=by
       have:∀{xs:List (AC U)}{cs uK:List U.C}{ks:List Key}{us:List (Key×iv U)},js (restrict σ.bJ rs) xs=some (cs,ks)->lN xs uK=some us->us.map (·.1)=ks:=by
        intro xs
        induction xs with
        |nil=>
         intro cs uK ks us h1 h2
         simp only[js,gx,ox] at h1
         cases uK with
         |cons _ _=>simp[lN] at h2
         |nil=>simp only[lN,gx] at h2;subst h2;rw[<-h1.2];rfl
        |cons x xs ih=>
         intro cs uK ks us h1 h2
         unfold js at h1
         split at h1
         ·rename_i pe;cases pe
         ·rename_i u r pe
          cases pe
          split at h1
          ·rename_i cs0 ks0 hr
           cases h1
           cases uK with
           |nil=>simp[lN] at h2
           |cons c uK=>cases c with
            |sl _ _=>simp[lN] at h2
            |lit _=>simp only[lN] at h2;exact ih hr h2
          ·cases h1
         ·rename_i k r pe
          cases pe
          split at h1
          ·rename_i y cs0 ks0 he hr
           cases h1
           cases uK with
           |nil=>simp[lN] at h2
           |cons c uK=>cases c with
            |lit _=>simp[lN] at h2
            |sl τ ys=>
             simp only[lN] at h2
             split at h2
             ·rename_i Od rI
              cases h2
              simp[ih hr rI]
             ·cases h2
          ·cases h1
         ·cases h1
       exact this hw hu
      refine⟨fl.flatten,⟨vs,fl,hv,by rw[g1];exact Eh.1.symm,f1,f2,rfl⟩,s7,g2,by rw[f3];exact XX h s7 g2,fun c hc=>by rw[f3] at hc;exact nT.1 hc,by rw[AB];exact s7,fun u rI=>by rw[<-AB];exact lB.2 ⟨u,rI,rfl⟩,fun w' F' iQ I9 zW iN Kb Nr=> ?_⟩
      cases iQ with
      |nil=>exact I9.elim
      |cons l' iQ=>
       obtain⟨Ns,H3⟩:=I9
       cases iQ with
       |cons _ _=>exact H3.elim
       |nil=>
        obtain⟨uZ,fl',e1,e2,e3,e4,e5⟩:=Ns
        rw[hv] at e1
        have:uZ=vs:=by simpa using e1.symm
        subst this
        obtain⟨i1,tl,i2,i3,i4⟩:=Xy (w':=w') (F':=F') h hw Eh hu e3 e4
        have GC:l'.Nodup:=by simpa using Kb
        refine⟨tl,[],i2,rfl,fun s hs kv' fp' bad' _ _=>i3 s hs kv' fp' bad',by simp,?_,fun c hc=> ?_⟩
        ·rw[i4,<-e5];simpa[fi.bl] using GC
        ·rw[i4,<-e5] at hc
         exact .inl (by simpa[fi.bl] using hc)
     ·cases iO
    all_goals first|(rename_i pe;cases pe;done)|(rename_i pe _;cases pe;done)|cases iO
   ·cases ha
  ·cases ha
 ·
  rename_i y
  split at ha
  ·rename_i IF cs ks' ht
   split at ha
   ·rename_i d' hd
    rw[h_] at ha
    split at ha
    ·rename_i rO
     cases ha
     have s7:=tu.1 rO
     obtain⟨vs,Eh,hv⟩:=hx
     obtain⟨g1,g2,g3,_⟩:=KC h ht hp Eh s7
     obtain⟨fl,f1,f2,f3,f4⟩:=g3 rfl
     have ol:l_ E w F .mv d v fl.flatten:=by
      unfold Lj at hd
      cases Tf:y.agg<;>rw[Tf] at hd hv<;>simp only[cond_true,cond_false,wx,if_false,if_true] at hd hv
      ·split at hd
       ·cases hd
        subst hv
        simp only[gv,fO] at f1
        obtain⟨l,rfl⟩:=List.length_eq_one_iff.1 f1
        simpa[l_] using f2 0 _ rfl
       ·cases hd
      ·cases hd
       exact⟨vs,fl,hv,by rw[g1];exact Eh.1.symm,f1,f2,rfl⟩
     have hdm:dm=[]/\us=[]/\es=[]:=by
      cases dm with
      |nil=>simp only[ij,gx,ox] at iO;exact⟨rfl,iO.1.symm,iO.2.symm⟩
      |cons _ _=>simp[ij] at iO
     obtain⟨rfl,rfl,rfl⟩:=hdm
     refine⟨fl.flatten,ol,s7,g2,f3,f4,by simp,by simp,fun w' F' iQ I9 zW iN Kb Nr=> ?_⟩
     have:iQ=[]:=by cases iQ with|nil=>rfl|cons _ _=>exact I9.elim
     subst this
     exact⟨[],[],rfl,rfl,by simp,by simp,by simp[fi.bl],by simp[fi.bl]⟩
    ·cases ha
   ·cases ha
  ·cases ha
 ·
  rename_i k
  split at ha
  ·rename_i cs he
   have e8:=jS he
   have YU:(σ.bJ k).isSome=true:=by rw[e8];rfl
   rw[h_] at ha
   split at ha
   ·rename_i Za
    simp only[cK,S7] at Za
    obtain⟨V9,p9⟩:=Za
    split at ha
    ·rename_i IF l0 ks' ht
     rw[h_] at ha
     split at ha
     ·rename_i rO
      cases ha
      have s7:=tu.1 rO
      obtain⟨b,h1,h2⟩:=cf (Gf hx) rfl
      obtain⟨b',cur,e,h3,h4,h5,h6⟩:=h.di k _ e8
      rw[h1] at h3;cases h3
      subst h2
      have hlen:cs.length=cur.size:=by have:=h6.1;simpa using this
      obtain⟨g1,g2,g3,_⟩:=KC h ht hp (h6.take want.length) (sN.1 s7).2
      obtain⟨fl,f1,f2,f3,f4⟩:=g3 rfl
      have K6:l0.length=want.length:=by rw[g1,oH];omega
      have nH:∀u∈cur.toList.drop l0.length,gp u:=(h6.drop l0.length).CW
      have rL:∀(i:Nat)(c:U.C),l0[i]? =some c->cur.toList.getD i undef=(cur.toList.take want.length).getD i undef:=by
       intro i c hc
       have hi:i<want.length:=by
        rw[<-K6]
        rcases nV i l0.length with g|g
        ·exact g
        ·rw[nz g] at hc;cases hc
       simp only[eY,oJ,if_pos hi]
      have Zd:b∉fl.flatten:=by
       intro hb
       obtain⟨k',cO,bf⟩:=f4 b hb
       obtain⟨e2,sS⟩:=mI.1 (g2 k' cO)
       exact h.apart k k' _ e2 b (fun e=>(sN.1 s7).1 (by rw[e];exact cO)) e8 sS (by rw[h5];simp) bf
      have hdm:∃ds,dm=[.box ds]/\ds.length=want.length/\us=[(k,.box ((putCells m8 true 512 ds).1++cs.drop want.length))]/\es=(putCells m8 true 512 ds).2:=by
       cases dm with
       |nil=>simp[ij] at iO
       |cons d0 dm=>
        cases dm with
        |cons _ _=>simp[ij] at iO
        |nil=>
         cases d0 with
         |one _=>simp[ij] at iO
         |agg _=>simp[ij] at iO
         |ptr _=>simp[ij] at iO
         |fn _=>simp[ij] at iO
         |box ds=>
          simp only[ij,he] at iO
          rw[h_] at iO
          split at iO
          ·rename_i I'
           cases iO
           exact⟨ds,rfl,mM I',rfl,rfl⟩
          ·cases iO
      obtain⟨ds,rfl,GL,rfl,rfl⟩:=hdm
      refine⟨b::fl.flatten,⟨b,cur,e,fl,rfl,h4,by omega,by rw[KD h4],by rw[KD h4];exact nH,f1,fun i c hc=>by rw[rL i c hc];exact f2 i c hc,rfl⟩,s7,fun k' cO=>by
       rcases jQ.1 cO with rfl|cO
       ·exact YU
       ·exact g2 k' cO,sN.2 ⟨Zd,f3⟩,fun c hc=>by
       rcases jQ.1 hc with rfl|hc
       ·exact⟨k,by simp,by rw[h5];simp⟩
       ·obtain⟨k',cO,hc⟩:=f4 c hc;exact⟨k',cA _ cO,hc⟩,by simp,by simp,fun w' F' iQ I9 zW iN Kb Nr=> ?_⟩
      cases iQ with
      |nil=>exact I9.elim
      |cons l' iQ=>
       obtain⟨Ns,H3⟩:=I9
       cases iQ with
       |cons _ _=>exact H3.elim
       |nil=>
        obtain⟨b2,cur',e',fl',k1,k2,k3,k4,k5,k6,k7,rfl⟩:=Ns
        cases k1
        rw[KD h4,GL] at k4
        have GC:(b::fl'.flatten).Nodup:=by simpa using Kb
        have iq:cur'.toList.take ds.length++cur'.toList.drop ds.length=cur'.toList:=Tr _ _
        obtain⟨t,t1,t2,t3,t4⟩:=Iy (E:=E) (w:=w') (F:=F') (dst:=m8) (base:=512) (cs:=ds) (vs:=cur'.toList.take ds.length) (fl:=fl') (by simp;omega) k6 (fun i c hc=>by
         have hi:i<ds.length:=by
          rcases nV i ds.length with g|g
          ·exact g
          ·rw[nz g] at hc;cases hc
         have:=k7 i c hc
         rw[eY,oJ,if_pos hi,<-eY]
         exact this)
        refine⟨[(k,.box ((putCells m8 true 512 ds).1++cs.drop want.length),[b])],t,rfl,t1,fun s hs kv' fp' bad' YW Tb=> ?_,t2,?_,fun c hc=> ?_⟩
        ·rw[ma.1 hs]
         refine⟨b,cur',e',h1,k2,rfl,?_⟩
         rw[<-iq]
         refine(t4 kv' fp' bad' Tb).append ?_
         rw[GL,k4]
         exact abR p9 (h6.drop want.length) (fun y hy k' cO=>YW k' (.inr ⟨k,cs,e8,y,List.mem_of_mem_drop hy,cO⟩)) zW
        ·simp only[yh,zen,ww]
         rw[t3]
         exact GC
        ·simp only[yh,zen,ww] at hc
         rw[t3] at hc
         exact .inl (by simpa using hc)
     ·cases ha
    ·cases ha
   ·cases ha
  ·cases ha
 ·
  rename_i k
  split at ha
  ·rename_i cs he
   have e8:=jS he
   have YU:(σ.bJ k).isSome=true:=by rw[e8];rfl
   rw[h_] at ha
   split at ha
   ·rename_i Za
    simp only[cK,S7] at Za
    obtain⟨V9,p9⟩:=Za
    split at ha
    ·rename_i l0 AA
     cases ha
     have ur:=MU AA
     obtain⟨b,h1,h2⟩:=cf (Gf hx) rfl
     obtain⟨b',cur,e,h3,h4,h5,h6⟩:=h.di k _ e8
     rw[h1] at h3;cases h3
     subst h2
     have hlen:cs.length=cur.size:=by have:=h6.1;simpa using this
     have K6:l0.length=want.length:=by
      have:=congrArg List.length ur
      rw[oH,wv] at this
      omega
     have nH:∀u∈cur.toList.drop l0.length,gp u:=(h6.drop l0.length).CW
     have hdm:∃ds,dm=[.box ds]/\ds.length=want.length/\us=[(k,.box (ds.map .c++cs.drop want.length))]/\es=[]:=by
      cases dm with
      |nil=>simp[ij] at iO
      |cons d0 dm=>
       cases dm with
       |cons _ _=>simp[ij] at iO
       |nil=>
        cases d0 with
        |one _=>simp[ij] at iO
        |agg _=>simp[ij] at iO
        |ptr _=>simp[ij] at iO
        |fn _=>simp[ij] at iO
        |box ds=>
         simp only[ij,he] at iO
         rw[h_] at iO
         split at iO
         ·rename_i I'
          cases iO
          exact⟨ds,rfl,mM I',rfl,rfl⟩
         ·cases iO
     obtain⟨ds,rfl,GL,rfl,rfl⟩:=hdm
     refine⟨[b],⟨b,cur,e,List.replicate l0.length [],rfl,h4,by omega,by rw[KD h4],by rw[KD h4];exact nH,by simp,fun i c hc=> ?_,by rw[yC]⟩,by simp,by simpa using YU,by simp,by simp[h5],by simp,by simp,fun w' F' iQ I9 zW iN Kb Nr=> ?_⟩
     ·have hi:i<want.length:=by
       rw[<-K6]
       rcases nV i l0.length with g|g
       ·exact g
       ·rw[nz g] at hc;cases hc
      have hci:cs[i]? =some (.c c):=by
       have:(cs.take want.length)[i]? =some (.c c):=by rw[ur,nk,hc];rfl
       rwa[oJ,if_pos hi] at this
      have h7:=cf (h6.2 i (.c c) (cur.toList.getD i undef) hci (e9 (by simp;omega))) rfl
      rw[Gb]
      exact h7
     ·cases iQ with
      |nil=>exact I9.elim
      |cons l' iQ=>
       obtain⟨Ns,H3⟩:=I9
       cases iQ with
       |cons _ _=>exact H3.elim
       |nil=>
        obtain⟨b2,cur',e',fl',k1,k2,k3,k4,k5,k6,k7,rfl⟩:=Ns
        cases k1
        rw[KD h4,GL] at k4
        have GC:(b::fl'.flatten).Nodup:=by simpa using Kb
        have iq:cur'.toList.take ds.length++cur'.toList.drop ds.length=cur'.toList:=Tr _ _
        refine⟨[(k,.box (ds.map .c++cs.drop want.length),[b])],[],rfl,rfl,fun s hs kv' fp' bad' YW Tb=> ?_,by simp,by simp[fi.bl],fun c hc=> ?_⟩
        ·rw[ma.1 hs]
         refine⟨b,cur',e',h1,k2,rfl,?_⟩
         rw[<-iq]
         refine ly.append ?_ ?_
         ·refine KH (by simp;omega) (fun i c hc=> ?_)
          have hi:i<ds.length:=by
           rcases nV i ds.length with g|g
           ·exact g
           ·rw[nz g] at hc;cases hc
          have:=k7 i c hc
          rw[eY,oJ,if_pos hi,<-eY]
          exact this.k8 (fun _ hb=>hb) (fun b' bf=>this.Uw bf)
         ·rw[GL,k4]
          exact abR p9 (h6.drop want.length) (fun y hy k' cO=>YW k' (.inr ⟨k,cs,e8,y,List.mem_of_mem_drop hy,cO⟩)) zW
        ·simp only[yh,zen,ww,fi.bl,ma] at hc
         subst hc
         exact .inl (by simp)
    ·cases ha
   ·cases ha
  ·cases ha
 ·cases ha
theorem ra.fQ{own:Bool}{cs:List U.C}{rest:List Value}{v:Value}{l:List Nat}(h:ra E w F own cs rest v l)(hF:∀b,F b->F' b):ra E w F' own cs rest v l:=by
 obtain⟨b,cur,e,fl,h1,h2,h3,h4,h5,h6,h7,h8⟩:=h
 exact⟨b,cur,e,fl,h1,h2,h3,h4,h5,h6,fun i c hc=>(h7 i c hc).f_ (fun b hb=>⟨hF b hb,rfl⟩) (fun _ _=>rfl),h8⟩
theorem l_.fQ{m:Mode}{d:DV U}{v:Value}{l:List Nat}(hm:m≠ .ro)(h:l_ E w F m d v l)(hF:∀b,F b->F' b):l_ E w F' m d v l:=by
 cases m with
 |ro=>exact absurd rfl hm
 |wr=>
  cases d with
  |one c=>
   cases c with
   |lit _=>exact h
   |sl τ xs=>exact eW.any h
  |agg _=>exact l8.any h
  |box _=>exact h
  |ptr _=>exact h
  |fn _=>exact h
 |mv=>
  cases d with
  |one c=>exact Rp.sI h (fun _ _=>rfl)
  |agg _=>exact l8.any h
  |box _=>exact h
  |ptr _=>exact h
  |fn _=>exact h
 |box own=>
  cases d with
  |box cs=>exact ra.fQ h hF
  |one _=>exact h
  |agg _=>exact h
  |ptr _=>exact h
  |fn _=>exact h
theorem abT(h:cE E pm F kv fp σ a w){ks ks':List Key}(hn:(ks++ks').Nodup)(hl:∀k∈ks,(σ.bJ k).isSome=true)(GH:∀k∈ks',(σ.bJ k).isSome=true){b:Nat}(hb:∃k∈ks,b∈fp k):∀k∈ks',b∉fp k:=by
 intro k' cO bf
 obtain⟨k,hk,hb⟩:=hb
 obtain⟨e,he⟩:=mI.1 (hl k hk)
 obtain⟨e2,sS⟩:=mI.1 (GH k' cO)
 exact h.apart k k' e e2 b (fun e3=>(qB.1 hn).2.2 k hk k' cO e3) he sS hb bf
theorem Yb{a1 a2 b1 b2:List Nat}(n1:(a1++b1).Nodup)(n2:(a2++b2).Nodup)(x:∀b∈a1++b1,b∉a2++b2):((a1++a2)++(b1++b2)).Nodup:=by
 have hp:((a1++a2)++(b1++b2)).Perm ((a1++b1)++(a2++b2)):=by
  rw[wB,wB]
  refine List.Perm.append_left a1 ?_
  rw[<-wB,<-wB]
  exact List.Perm.append_right b2 List.perm_append_comm
 rw[hp.nodup_iff,qB]
 exact⟨n1,n2,fun b hb c hc e=>x b hb (e▸hc)⟩
theorem Lw.merge(h:cE E pm F kv fp σ a w){ks ks':List Key}(hn:(ks++ks').Nodup)(hl:∀k∈ks,(σ.bJ k).isSome=true)(GH:∀k∈ks',(σ.bJ k).isSome=true){m8:Nat}{l l':List Nat}{us Od:List (Key×iv U)}{es Zs:List (Nat×iv U)}{ml ml':List Nat}
  (h1:Lw E σ w F kv fp m8 ks l us es w' F' ml) (h2:Lw E σ w F kv fp m8 ks' l' Od Zs w' F' ml') (Kb:(ml++ml').Nodup) (hf:∀b∈l,∃k∈ks,b∈fp k) (hf':∀b∈l',∃k∈ks',b∈fp k)
  (ho:∀b∈ml++ml',b∈l++l'\/∀k∈ks++ks',b∉fp k):Lw E σ w F kv fp m8 (ks++ks') (l++l') (us++Od) (es++Zs) w' F' (ml++ml'):=by
 obtain⟨tl,t,a1,a2,a3,a4,a5,a6⟩:=h1
 obtain⟨tl',t',b1,b2,b3,b4,b5,b6⟩:=h2
 have xb:∀{b:Nat},(∃k∈ks,b∈fp k)->¬∃k∈ks',b∈fp k:=fun hb hc=>by
  obtain⟨k,hk,l4⟩:=hc
  exact abT h hn hl GH hb k hk l4
 have hx:∀b∈tl.flatMap (·.2.2)++t.bl,b∉tl'.flatMap (·.2.2)++t'.bl:=by
  intro b hb bf
  rcases a6 b hb with g|⟨g,gk⟩
  ·rcases b6 b bf with g'|⟨g',gk'⟩
   ·exact(qB.1 Kb).2.2 b g b g' rfl
   ·rcases ho b (qC _ g) with q|q
    ·rcases jr.1 q with q|q
     ·exact xb (hf b q) gk'
     ·exact g' q
    ·obtain⟨k,hk,iO⟩:=gk'
     exact q k (pS _ hk) iO
  ·rcases b6 b bf with g'|⟨g',gk'⟩
   ·rcases ho b (pS _ g') with q|q
    ·rcases jr.1 q with q|q
     ·exact g q
     ·exact xb gk (hf' b q)
    ·obtain⟨k,hk,iO⟩:=gk
     exact q k (qC _ hk) iO
   ·exact xb gk gk'
 refine⟨tl++tl',t++t',by rw[Kg,a1,b1],by rw[fi.Fs,a2,b2],fun s hs kv' fp' bad' q1 q2=> ?_,fun s hs=> ?_,?_,fun b hb=> ?_⟩
 ·rcases jr.1 hs with hs|hs
  ·exact a3 s hs kv' fp' bad' q1 fun s' j0=>q2 s' (qC _ j0)
  ·exact b3 s hs kv' fp' bad' q1 fun s' j0=>q2 s' (pS _ j0)
 ·rcases jr.1 hs with hs|hs
  ·exact a4 s hs
  ·exact b4 s hs
 ·rw[S8,fi.uL]
  exact Yb a5 b5 hx
 ·rw[S8,fi.uL] at hb
  have hb:b∈tl.flatMap (·.2.2)++t.bl\/b∈tl'.flatMap (·.2.2)++t'.bl:=by
   simp only[jr] at hb⊢
   rcases hb with(hb|hb)|(hb|hb)
   ·exact .inl (.inl hb)
   ·exact .inr (.inl hb)
   ·exact .inl (.inr hb)
   ·exact .inr (.inr hb)
  rcases hb with hb|hb
  ·rcases a6 b hb with g|⟨g,k,hk,iO⟩
   ·exact .inl (qC _ g)
   ·exact .inr ⟨fun q=>(jr.1 q).elim g (fun q=>xb ⟨k,hk,iO⟩ (hf' b q)),k,qC _ hk,iO⟩
  ·rcases b6 b hb with g|⟨g,k,hk,iO⟩
   ·exact .inl (pS _ g)
   ·exact .inr ⟨fun q=>(jr.1 q).elim (fun q=>xb (hf b q) ⟨k,hk,iO⟩) g,k,pS _ hk,iO⟩
theorem fe.split{w0:World}{m:Mode}{v:Value}{ms:List Mode}{vs:List Value}{dm:List (DV U)}{iQ:List (List Nat)}(hm:m≠ .ro)(h:fe E w F w0 (m::ms) (v::vs) dm iQ):
  ∃E8 Uy,iQ=E8++Uy/\fe E w F w0 [m] [v] (Aw m dm) E8/\fe E w F w0 ms vs (wZ m dm) Uy:=by
 cases m with
 |ro=>exact absurd rfl hm
 |mv=>exact⟨[],iQ,rfl,trivial,by simpa[fe,wZ] using h⟩
 |wr=>
  cases dm with
  |nil=>cases iQ<;>exact h.elim
  |cons d dm=>
   cases iQ with
   |nil=>cases d<;>first|exact h.elim|(rename_i c;cases c<;>exact h.elim)
   |cons l' iQ=>
    cases d with
    |one c=>
     cases c with
     |lit _=>exact h.elim
     |sl τ ys=>exact⟨[l'],iQ,rfl,⟨h.1,trivial⟩,h.2⟩
    |agg _=>exact⟨[l'],iQ,rfl,⟨h.1,trivial⟩,h.2⟩
    |box _=>exact h.elim
    |ptr _=>exact h.elim
    |fn _=>exact h.elim
 |box own=>
  cases dm with
  |nil=>cases iQ<;>exact h.elim
  |cons d dm=>
   cases iQ with
   |nil=>cases d<;>exact h.elim
   |cons l' iQ=>
    cases d with
    |box cs=>exact⟨[l'],iQ,rfl,⟨h.1,trivial⟩,h.2⟩
    |one _=>exact h.elim
    |agg _=>exact h.elim
    |ptr _=>exact h.elim
    |fn _=>exact h.elim
theorem alZ(h:cE E pm F kv fp σ a w){rs:List Key}{n:Nat}:∀{ms:List Mode}{ws:List (List (Option U.Ty))}{xs:List (SV U)}{vs:List Value}{ps:List Prop}{ds:List (DV U)},
  nf E (restrict σ.bJ rs) σ.aK ms ws xs=some (ps,ds)->xs.length=vs.length->(∀(i:Nat)(x:SV U)(v:Value),xs[i]? =some x->vs[i]? =some v->RS E w F kv fp (bW σ) x v)->Cz (restrict σ.bJ rs) n ms ws xs=true->sD w n ms ds vs:=by
 intro ms
 induction ms with
 |nil=>intro ws xs vs ps ds _ _ _ _;trivial
 |cons m ms ih=>
  intro ws xs vs ps ds ha hl hx hr
  cases xs with
  |nil=>cases m<;>simp[nf] at ha
  |cons x xs=>
   cases vs with
   |nil=>simp at hl
   |cons v vs=>
    simp only[nf] at ha
    split at ha
    rotate_left
    ·cases ha
    rename_i S_ d1 X' ds2 h1 h2
    cases ha
    simp only[Cz,cK] at hr
    refine⟨fun own cs hm hd=> ?_,ih h2 (by simpa using hl) (fun i y u hy hu=>hx (i+1) y u (by simpa using hy) (by simpa using hu)) hr.2⟩
    subst hm
    subst hd
    have Ey:=hr.1
    split at Ey
    ·rename_i o1 k off hbo
     split at Ey
     rotate_left
     ·cases Ey
     rename_i bs he
     have e8:=jS he
     have hlen:=mM Ey
     simp only[tQ] at h1
     split at h1
     rotate_left
     ·cases h1
     rename_i ps0 d0 ks0 mo
     cases h1
     have iq:cs.length=(ws.headD []).length/\off=0:=by
      cases own with
      |true=>
       cases off with
       |succ n'=>simp[lJ] at mo
       |zero=>
        simp only[lJ,he] at mo
        rw[h_] at mo
        split at mo
        rotate_left
        ·cases mo
        split at mo
        rotate_left
        ·cases mo
        rename_i q1 q2 q3 ht
        rw[h_] at mo
        split at mo
        rotate_left
        ·cases mo
        cases mo
        have:=abP ht
        rw[oH] at this
        exact⟨by omega,rfl⟩
      |false=>
       cases off with
       |succ n'=>simp[lJ] at mo
       |zero=>
        simp only[lJ,he] at mo
        rw[h_] at mo
        split at mo
        rotate_left
        ·cases mo
        split at mo
        rotate_left
        ·cases mo
        rename_i l0 AA
        cases mo
        have:=congrArg List.length (MU AA)
        rw[oH,wv] at this
        exact⟨by omega,rfl⟩
     obtain⟨iq,rfl⟩:=iq
     have hxv:=hx 0 _ v rfl rfl
     obtain⟨b,g1,g2⟩:=cf (Gf hxv) rfl
     obtain⟨b',cur,e,g3,g4,g5,g6⟩:=h.di k _ e8
     rw[g1] at g3;cases g3
     rw[g2,KD g4,J6,<-g6.1]
     omega
    ·cases Ey
    ·rename_i L4 _
     exact absurd rfl (L4 own)
theorem anN(hC:∀g k,E.NY g=some k->yf E.P g/\eu E g k)(h:cE E pm F kv fp σ a w){rs:List Key}{K:List Key}{m8:Nat}:∀{ms:List Mode}{ws:List (List (Option U.Ty))}{xs:List (SV U)}{vs:List Value}{ps:List Prop}{ds dm:List (DV U)}{us:List (Key×iv U)}{es:List (Nat×iv U)}{lk:List Key},
  nf E (restrict σ.bJ rs) σ.aK ms ws xs=some (ps,ds)->(∀p∈ps,p)->xs.length=vs.length->(∀(i:Nat)(x:SV U)(v:Value),xs[i]? =some x->vs[i]? =some v->RS E w F kv fp (bW σ) x v)->
  (∀x∈xs,∀k∈x.keys,Names σ k)->(∀k∈fc ms xs,(σ.bJ k).isSome=true->k∈K)->lH (restrict σ.bJ rs) σ.aK m8 ms ws xs dm=some (us,es,lk)->
  ∃ls,jj E w (FK F fp K) ms ds vs ls/\lk.Nodup/\(∀k∈lk,(σ.bJ k).isSome=true/\Names σ k)/\ls.flatten.Nodup/\(∀b∈ls.flatten,∃k∈lk,b∈fp k)/\(us.map (·.1)).Nodup/\(∀u∈us,u.1∈lk)/\
   ∀(w':World)(F':Nat->Prop)(iQ:List (List Nat)),fe E w' F' w ms vs dm iQ->(∀b,F b->F' b/\w'.heap[b]? =w.heap[b]?)->(∀k∈lk,∀c∈fp k,c∉ls.flatten->w'.heap[c]? =w.heap[c]?)->iQ.flatten.Nodup->
    (∀b∈iQ.flatten,b∈ls.flatten\/∀k∈lk,b∉fp k)->Lw E σ w F kv fp m8 lk ls.flatten us es w' F' iQ.flatten:=by
 intro ms
 induction ms with
 |nil=>
  intro ws xs vs ps ds dm us es lk ha hp hl hx uk hK hu
  cases xs with
  |cons x xs=>simp[nf] at ha
  |nil=>
   cases vs with
   |cons v vs=>simp at hl
   |nil=>
    cases dm with
    |cons d dm=>simp[lH] at hu
    |nil=>
     simp only[nf,gx,ox] at ha
     obtain⟨rfl,rfl⟩:=ha
     simp only[lH,gx,ox] at hu
     obtain⟨rfl,rfl,rfl⟩:=hu
     refine⟨[],trivial,by simp,by simp,by simp,by simp,by simp,by simp,fun w' F' iQ hm _ _ _ _=> ?_⟩
     cases iQ with
     |nil=>exact⟨[],[],rfl,rfl,by simp,by simp,by simp[fi.bl],by simp[fi.bl]⟩
     |cons _ _=>exact hm.elim
 |cons m ms ih=>
  intro ws xs vs ps ds dm us es lk ha hp hl hx uk hK hu
  cases xs with
  |nil=>cases m<;>simp[nf] at ha
  |cons x xs=>
   cases vs with
   |nil=>simp at hl
   |cons v vs=>
    simp only[nf] at ha
    split at ha
    ·rename_i S_ d1 X' ds2 h1 h2
     cases ha
     have Ta:∀(i:Nat)(y:SV U)(u:Value),xs[i]? =some y->vs[i]? =some u->RS E w F kv fp (bW σ) y u:=fun i y u hy hu=>hx (i+1) y u (by simpa using hy) (by simpa using hu)
     by_cases hm:m=.ro
     ·subst hm
      simp only[lH] at hu
      obtain⟨ls,i1,i2,i3,i4,i5,i6,i7,i8⟩:=ih h2 (fun p kq=>hp p (by simp[kq])) (by simpa using hl) Ta (fun y hy=>uk y (cA _ hy)) (fun k hk=>hK k (by simp[fc,hk])) hu
      refine⟨[]::ls,⟨anQ hC h h1 (fun p kq=>hp p (by simp[kq])) (hx 0 x v rfl rfl) (fun k hk=>hK k (by simp[fc,hk])),i1⟩,i2,i3,by simpa using i4,by simpa using i5,i6,i7,fun w' F' iQ I9 zW iN Kb Nr=> ?_⟩
      have:=i8 w' F' iQ (by simpa[fe] using I9) zW (by simpa using iN) Kb (by simpa using Nr)
      simpa using this
     ·have rI:∃ps0 d0 ks ks' us1 es1 us2 es2,lJ (restrict σ.bJ rs) σ.aK (ws.headD []) m x=some (ps0,d0,ks)/\ij (restrict σ.bJ rs) m8 (ws.headD []).length m x (Aw m dm)=some (us1,es1)/\lH (restrict σ.bJ rs) σ.aK m8 ms ws.tail xs (wZ m dm)=some (us2,es2,ks')/\(ks++ks').Nodup/\us=us1++us2/\es=es1++es2/\lk=ks++ks'/\S_=ps0/\d1=d0:=by
       have V0:(match lJ (restrict σ.bJ rs) σ.aK (ws.headD []) m x,ij (restrict σ.bJ rs) m8 (ws.headD []).length m x (Aw m dm) with
        |some (_,_,ks),some (us,es)=>match lH (restrict σ.bJ rs) σ.aK m8 ms ws.tail xs (wZ m dm) with
         |some (Od,Zs,ks')=>bif distinct (ks++ks') then some (us++Od,es++Zs,ks++ks') else none
         |none=>none
        |_,_=>none)=some (us,es,lk):=by
        cases m with
        |ro=>exact absurd rfl hm
        |wr=>exact hu
        |mv=>exact hu
        |box _=>exact hu
       split at V0
       ·rename_i p0 d0 ks us0 es0 g1 g2
        split at V0
        ·rename_i us2 es2 ks' g3
         rw[h_] at V0
         split at V0
         ·rename_i rO
          cases V0
          have:tQ E (restrict σ.bJ rs) σ.aK (ws.headD []) m x=some (p0,d0):=by
           cases m with
           |ro=>exact absurd rfl hm
           |wr=>simp only[tQ,g1]
           |mv=>simp only[tQ,g1]
           |box _=>simp only[tQ,g1]
          rw[this] at h1
          cases h1
          exact⟨_,_,ks,ks',_,_,_,_,g1,g2,g3,tu.1 rO,rfl,rfl,rfl,rfl,rfl⟩
         ·cases V0
        ·cases V0
       ·cases V0
      obtain⟨ps0,d0,ks,ks',us1,es1,us2,es2,g1,g2,g3,s7,rfl,rfl,rfl,rfl,rfl⟩:=rI
      obtain⟨l,r1,r2,r3,r4,r5,r6,r7,r8⟩:=amP h g1 (fun p kq=>hp p (by simp[kq])) (hx 0 x v rfl rfl) (uk x gj) g2
      obtain⟨ls,i1,i2,i3,i4,i5,i6,i7,i8⟩:=ih h2 (fun p kq=>hp p (by simp[kq])) (by simpa using hl) Ta (fun y hy=>uk y (cA _ hy)) (fun k hk=>hK k (by cases m<;>first|exact absurd rfl hm|simpa[fc] using hk)) g3
      have xb:∀{b:Nat},(∃k∈ks,b∈fp k)->¬∃k∈ks',b∈fp k:=fun hb hc=>by
       obtain⟨k,hk,l4⟩:=hc
       exact abT h s7 r3 (fun k hk=>(i3 k hk).1) hb k hk l4
      refine⟨l::ls,⟨r1.fQ hm (fun b hb=> .inl hb),i1⟩,s7,fun k hk=> ?_,?_,fun b hb=> ?_,?_,fun u hu=> ?_,fun w' F' iQ I9 zW iN Kb Nr=> ?_⟩
      ·rcases jr.1 hk with hk|hk
       ·exact⟨r3 k hk,amQ g1 (uk x gj) k hk⟩
       ·exact i3 k hk
      ·rw[Kj,qB]
       exact⟨r4,i4,fun b hb c hc e=>xb (r5 b hb) (i5 b (e▸hc))⟩
      ·rw[Kj] at hb
       rcases jr.1 hb with hb|hb
       ·obtain⟨k,hk,hb⟩:=r5 b hb;exact⟨k,qC _ hk,hb⟩
       ·obtain⟨k,hk,hb⟩:=i5 b hb;exact⟨k,pS _ hk,hb⟩
      ·rw[Kg,qB]
       refine⟨r6,i6,fun k hk k' cO e=> ?_⟩
       obtain⟨u,hu,rfl⟩:=lB.1 hk
       obtain⟨u',rI,rfl⟩:=lB.1 cO
       exact(qB.1 s7).2.2 _ (r7 u hu) _ (i7 u' rI) e
      ·rcases jr.1 hu with hu|hu
       ·exact qC _ (r7 u hu)
       ·exact pS _ (i7 u hu)
      obtain⟨E8,Uy,rfl,q1,q2⟩:=I9.split hm
      rw[J7] at Kb Nr⊢
      rw[Kj] at iN Nr⊢
      have GC:=qB.1 Kb
      have B1:=r8 w' F' E8 q1 zW (fun k hk c hc iq=>iN k (qC _ hk) c hc (by
        rw[jr]
        exact fun hor=>hor.elim iq (fun q=>xb ⟨k,hk,hc⟩ (i5 c q)))) GC.1 (fun b hb=>by
        rcases Nr b (qC _ hb) with g|g
        ·rcases jr.1 g with g|g
         ·exact .inl g
         ·exact .inr fun k hk iO=>xb ⟨k,hk,iO⟩ (i5 b g)
        ·exact .inr fun k hk=>g k (qC _ hk))
      have B2:=i8 w' F' Uy q2 zW (fun k hk c hc iq=>iN k (pS _ hk) c hc (by
        rw[jr]
        exact fun hor=>hor.elim (fun q=>xb (r5 c q) ⟨k,hk,hc⟩) iq)) GC.2.1 (fun b hb=>by
        rcases Nr b (pS _ hb) with g|g
        ·rcases jr.1 g with g|g
         ·exact .inr fun k hk iO=>xb (r5 b g) ⟨k,hk,iO⟩
         ·exact .inl g
        ·exact .inr fun k hk=>g k (pS _ hk))
      exact Lw.merge h s7 r3 (fun k hk=>(i3 k hk).1) B1 B2 Kb r5 i5 Nr
    ·cases ha
end AM
