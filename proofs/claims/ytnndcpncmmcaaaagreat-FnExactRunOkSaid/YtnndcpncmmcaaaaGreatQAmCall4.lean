import Derived.Test.YtnndcpncmmcaaaaGreatQAmCall2
namespace AM
set_option linter.unusedVariables false
open Go
variable{U:jO}{E:Env U}{pm:Pm}
variable{F F':Nat->Prop}{kv:Key->Value}{fp:Key->List Nat}{σ:ah U}{a:Act}{w w':World}{bad:Key->Bool}
theorem amj{kv':Key->Value}{fp':Key->List Nat}{bad':Key->Bool}{y:AC U}{v:Value}(hs:y.still=true)(h:RD E w F kv fp bad y v)(hk:∀k∈y.keys,kv' k=kv k)
  (hF:∀b,F b->F' b/\w'.heap[b]? =w.heap[b]?):RD E w' F' kv' fp' bad' y v:=by
 have hb:gg bad y=false:=by
  unfold AC.still at hs
  split at hs<;>first|rfl|cases hs
 refine⟨h.1,.inr ?_⟩
 have h0:=bG h hb
 unfold AC.still at hs
 split at hs
 ·exact Rp.cI h0 hF (by simp)
 ·exact h0
 ·rename_i k
  simp only[RA] at h0⊢
  rw[hk k (by simp[AC.keys])];exact h0
 ·rename_i k off
  simp only[RA] at h0⊢
  rw[hk k (by simp[AC.keys])];exact h0
 ·cases hs
theorem ac3{kv':Key->Value}{fp':Key->List Nat}{bad':Key->Bool}{xs:List (AC U)}{vs:List Value}(hs:xs.all AC.still=true)(h:kS E w F kv fp bad xs vs)(hk:∀y∈xs,∀k∈y.keys,kv' k=kv k)
  (hF:∀b,F b->F' b/\w'.heap[b]? =w.heap[b]?):kS E w' F' kv' fp' bad' xs vs:=
 ⟨h.1,fun i y v hy hv=>amj (FU.1 hs y (Ep hy)) (h.2 i y v hy hv) (hk y (Ep hy)) hF⟩
theorem Z7(h:cd E pm F kv fp σ a w):∀{ks:List Key},ks.Nodup->(∀k∈ks,(σ.aU k).isSome=true)->(ks.flatMap fp).Nodup
 |[],_,_=>by simp
 |k::ks,hn,hl=>by
  rw[tV,nH]
  obtain⟨e,he⟩:=kH.1 (hl k cH)
  rw[pH] at hn
  refine⟨h.nodup k e he,Z7 h hn.2 (fun k' bp=>hl k' (aJ _ bp)),fun b hb c hc e'=> ?_⟩
  subst e'
  obtain⟨k',bp,aI⟩:=ln.1 hc
  obtain⟨e2,nX⟩:=kH.1 (hl k' (aJ _ bp))
  exact h.apart k k' e e2 b (fun e=>hn.1 (e▸bp)) he nX hb aI
theorem Zv(h:cd E pm F kv fp σ a w){rs:List Key}:∀{xs:List (AC U)}{vs:List Value}{cs uJ:List U.C}{ks:List Key}{us:List (Key×eX U)}{fl:List (List Nat)},iP (restrict σ.aU rs) xs=some (cs,ks)->kS E w F kv fp (aZ σ) xs vs->
  jY xs uJ=some us->fl.length=uJ.length->(∀(i:Nat)(c:U.C),uJ[i]? =some c->Rp E w' F' true c (vs.getD i undef) (fl.getD i []))->
  us.map (·.1)=ks/\∃tl:List (Key×eX U×List Nat),tl.map (fun t=>(t.1,t.2.1))=us/\(∀s∈tl,∀kv' fp' bad',lm E w' F' kv' fp' bad' s.2.1 (kv s.1) s.2.2)/\tl.flatMap (·.2.2)=fl.flatten
 |[],vs,cs,uJ,ks,us,fl,hw,hx,hu,hl,hr=>by
  simp only[iP,eZ,kG] at hw
  obtain⟨rfl,rfl⟩:=hw
  cases uJ with
  |cons _ _=>simp[jY] at hu
  |nil=>
   simp only[jY,eZ] at hu
   subst hu
   have:fl=[]:=yG hl
   subst this
   exact⟨rfl,[],rfl,by simp,rfl⟩
 |x::xs,vs,cs,uJ,ks,us,fl,hw,hx,hu,hl,hr=>by
  obtain⟨v,rm,rfl,h1,h2⟩:=hx.cons_inv
  cases uJ with
  |nil=>unfold jY at hu;split at hu<;>first|(rename_i e1 e2;cases e1;done)|(rename_i e1 e2;cases e2;done)|cases hu
  |cons c uJ=>
   cases fl with
   |nil=>simp at hl
   |cons l fl=>
    have Ob:Rp E w' F' true c v l:=by simpa using hr 0 c rfl
    have zc:∀(i:Nat)(c:U.C),uJ[i]? =some c->Rp E w' F' true c (rm.getD i undef) (fl.getD i []):=fun i c hc=>by simpa using hr (i+1) c (by simpa using hc)
    have zS:fl.length=uJ.length:=by simpa using hl
    unfold iP at hw
    split at hw
    ·rename_i ph;cases ph
    ·rename_i u r ph
     cases ph
     split at hw
     ·rename_i cs0 ks0 nZ
      cases hw
      cases c with
      |sl τ ys=>simp[jY] at hu
      |lit u'=>
       simp only[jY] at hu
       obtain⟨i1,tl,i2,i3,i4⟩:=Zv h nZ h2 hu zS zc
       obtain⟨rfl,_,_⟩:=Ob.kL
       exact⟨i1,tl,i2,i3,by simpa using i4⟩
     ·cases hw
    ·rename_i k r ph
     cases ph
     split at hw
     ·rename_i y cs0 ks0 he nZ
      cases hw
      cases c with
      |lit _=>simp[jY] at hu
      |sl τ ys=>
       simp only[jY] at hu
       split at hu
       ·rename_i N8 kM
        cases hu
        obtain⟨i1,tl,i2,i3,i4⟩:=Zv h nZ h2 kM zS zc
        have hv:v=kv k:=bG h1 rfl
        refine⟨by simp[i1],(k,.arr ⟨τ,ys⟩ true,l)::tl,by simp[i2],fun s hs kv' fp' bad'=> ?_,by simp[i4]⟩
        rcases h_.1 hs with rfl|hs
        ·rw[<-hv];exact Ob.ud
        ·exact i3 s hs kv' fp' bad'
       ·cases hu
     ·cases hw
    ·cases hw
theorem Rp.SY{c:U.C}{v:Value}{l:List Nat}(h:Rp E w F false c v l){b:Nat}(hb:b∈l):F' b:=by
 generalize hm:false=m at h
 cases h with
 |lit=>cases hb
 |nil=>cases hb
 |shr=>cases hb
 |own=>cases hm
def Lm(E:Env U)(σ:ah U)(w:World)(F:Nat->Prop)(kv:Key->Value)(fp:Key->List Nat)(ku:Nat)(ks:List Key)(l:List Nat)(us:List (Key×eX U))(es:List (Nat×eX U))(w':World)(F':Nat->Prop)(ml:List Nat):Prop:=
 ∃(tl:List (Key×eX U×List Nat))(t:eV U),tl.map (fun t=>(t.1,t.2.1))=us/\es=t.es/\
  (∀s∈tl,∀kv' fp' bad',(∀k,Names σ k->kv' k=kv k)->(∀s∈t,kv' (ku,s.1)=s.2.2.1)->lm E w' F' kv' fp' bad' s.2.1 (kv s.1) s.2.2)/\
  (∀s∈t,∀kv' fp' bad',lm E w' F' kv' fp' bad' s.2.1 s.2.2.1 s.2.2.2)/\
  (tl.flatMap (·.2.2)++t.bl).Nodup/\∀b∈tl.flatMap (·.2.2)++t.bl,b∈ml\/(b∉l/\∃k∈ks,b∈fp k)
theorem ame{tb:mG U}{want:Option U.Ty}{x:AC U}{ps:List Prop}{c:U.C}{ks:List Key}{d:Bool}(h:nM tb want x=some (ps,c,ks,d)):∀k∈ks,k∈x.keys:=by
 unfold nM at h
 split at h
 ·cases h;simp
 ·cases h;simp
 ·split at h<;>cases h;simp
 ·split at h<;>cases h<;>simp[AC.keys]
 ·split at h<;>cases h<;>simp[AC.keys]
 ·cases h
theorem ac0{tb:mG U}:∀{xs:List (AC U)}{want:List (Option U.Ty)}{ps:List Prop}{cs:List U.C}{ks:List Key}{d:Bool},dy tb want xs=some (ps,cs,ks,d)->cs.length=xs.length
 |[],want,ps,cs,ks,d,h=>by
  simp only[dy,eZ,kG] at h
  obtain⟨_,rfl,_⟩:=h
  rfl
 |x::xs,want,ps,cs,ks,d,h=>by
  simp only[dy] at h
  split at h
  ·rename_i h1 h2
   cases h
   simp[ac0 h2]
  ·cases h
theorem kS.C7{xs:List (AC U)}{vs:List Value}(h:kS E w F kv fp bad xs vs):∀v∈vs,fu v:=by
 intro v hv
 obtain⟨n,hn,rfl⟩:=zG hv
 exact(h.2 n (xs[n]'(by rw[h.1];exact hn)) _ (gr _) (gr hn)).1
theorem ZA{tb:mG U}:∀{xs:List (AC U)}{want:List (Option U.Ty)}{ps:List Prop}{cs:List U.C}{ks:List Key}{d:Bool},dy tb want xs=some (ps,cs,ks,d)->∀k∈ks,∃x∈xs,k∈x.keys
 |[],want,ps,cs,ks,d,h,k,hk=>by
  simp only[dy,eZ,kG] at h
  obtain⟨_,_,rfl,_⟩:=h
  cases hk
 |x::xs,want,ps,cs,ks,d,h,k,hk=>by
  simp only[dy] at h
  split at h
  ·rename_i h1 h2
   cases h
   rcases gA.1 hk with hk|hk
   ·exact⟨x,cH,ame h1 k hk⟩
   ·obtain⟨y,hy,hk⟩:=ZA h2 k hk
    exact⟨y,aJ _ hy,hk⟩
  ·cases h
theorem Zx{tb:mG U}:∀{xs:List (AC U)}{cs:List U.C}{ks:List Key},iP tb xs=some (cs,ks)->∀k∈ks,∃x∈xs,k∈x.keys
 |[],cs,ks,h,k,hk=>by
  simp only[iP,eZ,kG] at h
  obtain⟨_,rfl⟩:=h
  cases hk
 |x::xs,cs,ks,h,k,hk=>by
  unfold iP at h
  split at h
  ·rename_i ph;cases ph
  ·rename_i ph;cases ph
   split at h
   ·rename_i h1
    cases h
    obtain⟨y,hy,hk⟩:=Zx h1 k hk
    exact⟨y,aJ _ hy,hk⟩
   ·cases h
  ·rename_i ph;cases ph
   split at h
   ·rename_i h0 h1
    cases h
    rcases h_.1 hk with rfl|hk
    ·exact⟨_,cH,by simp[AC.keys]⟩
    ·obtain⟨y,hy,hk⟩:=Zx h1 k hk
     exact⟨y,aJ _ hy,hk⟩
   ·cases h
  ·cases h
theorem anT{rs:List Key}{want:List (Option U.Ty)}{m:Mode}{x:SV U}{ps:List Prop}{d:DV U}{ks:List Key}(h:kY (restrict σ.aU rs) σ.ay want m x=some (ps,d,ks))(ol:∀k∈x.keys,Names σ k):∀k∈ks,Names σ k:=by
 unfold kY at h
 split at h
 ·split at h
  ·rw[fc] at h
   split at h
   ·split at h
    ·cases h
     intro k hk
     exact ol k (by simpa[SV.keys,SV.xE,AC.keys] using hk)
    ·cases h
   ·cases h
  ·cases h
 ·rename_i cs
  split at h
  ·rename_i hw
   rw[fc] at h
   split at h
   ·cases h
    intro k hk
    obtain⟨y,hy,hk⟩:=Zx hw k hk
    exact ol k (SV.mem_keys.2 ⟨y,hy,hk⟩)
   ·cases h
  ·cases h
 ·rename_i y
  split at h
  ·rename_i hw
   split at h
   ·rw[fc] at h
    split at h
    ·cases h
     intro k hk
     obtain⟨z,hz,hk⟩:=ZA hw k hk
     exact ol k (SV.mem_keys.2 ⟨z,hz,hk⟩)
    ·cases h
   ·cases h
  ·cases h
 ·rename_i k0
  have qu:Names σ k0:=ol k0 (by simp[SV.keys,SV.xE,AC.keys])
  split at h
  ·rename_i cs he
   rw[fc] at h
   split at h
   ·split at h
    ·rename_i hw
     rw[fc] at h
     split at h
     ·cases h
      intro k hk
      rcases h_.1 hk with rfl|hk
      ·exact qu
      ·obtain⟨z,hz,hk⟩:=ZA hw k hk
       exact .inr ⟨k0,cs,.inl (fA he),z,List.mem_of_mem_take hz,hk⟩
     ·cases h
    ·cases h
   ·cases h
  ·cases h
 ·rename_i k0
  have qu:Names σ k0:=ol k0 (by simp[SV.keys,SV.xE,AC.keys])
  split at h
  ·rw[fc] at h
   split at h
   ·split at h
    ·cases h
     intro k hk
     rw[g_.1 hk]
     exact qu
    ·cases h
   ·cases h
  ·cases h
 ·cases h
theorem anS(h:cd E pm F kv fp σ a w){rs:List Key}{want:List (Option U.Ty)}{m:Mode}{x:SV U}{v:Value}{ps:List Prop}{d:DV U}{ks:List Key}
  (ha:kY (restrict σ.aU rs) σ.ay want m x=some (ps,d,ks)) (hp:∀p∈ps,p) (hx:RS E w F kv fp (aZ σ) x v) (ol:∀k∈x.keys,Names σ k)
  {ku:Nat} {dm:List (DV U)} {us:List (Key×eX U)} {es:List (Nat×eX U)} (gX:gn (restrict σ.aU rs) ku want.length m x dm=some (us,es)):
  ∃l,mN E w F m d v l/\ks.Nodup/\(∀k∈ks,(σ.aU k).isSome=true)/\l.Nodup/\(∀b∈l,∃k∈ks,b∈fp k)/\
   (us.map (·.1)).Nodup/\(∀u∈us,u.1∈ks)/\
    ∀(w':World)(F':Nat->Prop)(gS:List (List Nat)),e_ E w' F' w [m] [v] dm gS->(∀b,F b->F' b/\w'.heap[b]? =w.heap[b]?)->(∀k∈ks,∀c∈fp k,c∉l->w'.heap[c]? =w.heap[c]?)->gS.flatten.Nodup->
     (∀b∈gS.flatten,b∈l\/∀k∈ks,b∉fp k)->Lm E σ w F kv fp ku ks l us es w' F' gS.flatten:=by
 have fQ:∀{k:Key}{b:Nat},(σ.aU k).isSome=true->b∈fp k->b<w.heap.size:=by
  intro k b hk hb
  obtain⟨e,he⟩:=kH.1 hk
  exact(h.cU k e b he hb).2.2
 unfold kY at ha
 split at ha
 ·
  rename_i k p
  split at ha
  ·rename_i y he
   have dr:=fA he
   cases fa:eg (restrict σ.aU rs) σ.ay k p<;>simp only[fa,cond_false,cond_true] at ha
   ·cases ha
   ·split at ha
    ·rename_i HV b hw
     cases ha
     have AB:=F_ hx
     have iz:=bG AB (y4 fa he)
     have h0:cF E w F true y (kv k) (fp k):=h.cT k _ dr
     have hl0:(σ.aU k).isSome=true:=by rw[dr];rfl
     unfold gn at gX
     split at gX
     ·rename_i k' p' τ ys ph
      cases ph
      simp only[he] at gX
      split at gX
      ·rename_i a' V7
       cases gX
       obtain⟨vb,N9,pre,post,b',f1,f2,f3,f4,f5⟩:=h0.focus (h.nodup k _ dr) hw hp V7
       have hvb:v=vb:=iz.unique f2
       subst hvb
       have hn:=h.nodup k _ dr
       rw[f4,nH,nH] at hn
       refine⟨N9,f3,by simp,by simpa using hl0,hn.1.2.1,fun c hc=>⟨k,by simp,by rw[f4];simp[hc]⟩,by simp,by simp,fun w' F' gS IM mF eW J5 NG=> ?_⟩
       cases gS with
       |nil=>exact IM.elim
       |cons l' gS=>
        obtain⟨yJ,vH⟩:=IM
        cases gS with
        |cons _ _=>exact vH.elim
        |nil=>
         obtain⟨⟨n1,n2,n3⟩,n4,n5⟩:=hn
         have rE:∀c∈pre++post,c∈fp k/\c∉N9:=by
          intro c hc
          rcases gA.1 hc with hc|hc
          ·exact⟨by rw[f4];simp[hc],fun jr=>n3 c hc c jr rfl⟩
          ·exact⟨by rw[f4];simp[hc],fun jr=>n5 c (pA _ jr) c hc rfl⟩
         have TI:∀c∈pre++post,c∉l':=by
          intro c hc jr
          rcases NG c (by simpa using jr) with g|g
          ·exact(rE c hc).2 g
          ·exact g k (by simp) (rE c hc).1
         refine⟨[(k,.arr a' true,pre++l'++post)],[],rfl,rfl,fun s hs kv' fp' bad' _ _=> ?_,by simp,?_,fun c hc=> ?_⟩
         ·rw[g_.1 hs]
          split at f1
          ·rename_i zs hz
           have:=bJ hz
           cases this
           cases f1
           exact f5 w' F' l' rfl yJ (fun c hc=>eW k (by simp) c (rE c hc).1 (rE c hc).2)
          ·cases f1
         ·simp only[tV,Vo,sI,eV.bl]
          have Gu:l'.Nodup:=by simpa using J5
          rw[nH,nH]
          refine⟨⟨n1,Gu,fun c hc e he e'=>TI c (oE _ hc) (e'▸he)⟩,n4,fun c hc e he e'=> ?_⟩
          rcases gA.1 hc with hc|hc
          ·exact n5 c (oE _ hc) e he e'
          ·exact TI e (pA _ he) (e'▸hc)
         ·simp only[tV,Vo,sI,eV.bl,gA] at hc
          rcases hc with(hc|hc)|hc
          ·exact .inr ⟨(rE c (oE _ hc)).2,k,by simp,(rE c (oE _ hc)).1⟩
          ·exact .inl (by simpa using hc)
          ·exact .inr ⟨(rE c (pA _ hc)).2,k,by simp,(rE c (pA _ hc)).1⟩
      ·cases gX
     all_goals first|(rename_i ph;cases ph;done)|(rename_i ph _;cases ph;done)|cases gX
    ·cases ha
  ·cases ha
 ·
  rename_i cs
  split at ha
  ·rename_i ds ks0 hw
   rw[fc] at ha
   split at ha
   ·rename_i pj
    cases ha
    have tG:=sV.1 pj
    obtain⟨vs,HX,hv⟩:=hx
    simp only[if_true] at hv
    obtain⟨g1,g2,fl,f1,f2,f3⟩:=Zw h hw HX
    unfold gn at gX
    split at gX
    ·rename_i ph;cases ph
    ·rename_i uJ ds' ph
     cases ph
     split at gX
     ·rename_i N8 hu
      cases gX
      have qu:us.map (·.1)=ks:=by
       have:∀{xs:List (AC U)}{cs uJ:List U.C}{ks:List Key}{us:List (Key×eX U)},iP (restrict σ.aU rs) xs=some (cs,ks)->jY xs uJ=some us->us.map (·.1)=ks:=by
        intro xs
        induction xs with
        |nil=>
         intro cs uJ ks us h1 h2
         simp only[iP,eZ,kG] at h1
         cases uJ with
         |cons _ _=>simp[jY] at h2
         |nil=>simp only[jY,eZ] at h2;subst h2;rw[<-h1.2];rfl
        |cons x xs ih=>
         intro cs uJ ks us h1 h2
         unfold iP at h1
         split at h1
         ·rename_i ph;cases ph
         ·rename_i u r ph
          cases ph
          split at h1
          ·rename_i cs0 ks0 hr
           cases h1
           cases uJ with
           |nil=>simp[jY] at h2
           |cons c uJ=>cases c with
            |sl _ _=>simp[jY] at h2
            |lit _=>simp only[jY] at h2;exact ih hr h2
          ·cases h1
         ·rename_i k r ph
          cases ph
          split at h1
          ·rename_i y cs0 ks0 he hr
           cases h1
           cases uJ with
           |nil=>simp[jY] at h2
           |cons c uJ=>cases c with
            |lit _=>simp[jY] at h2
            |sl τ ys=>
             simp only[jY] at h2
             split at h2
             ·rename_i N8 kM
              cases h2
              simp[ih hr kM]
             ·cases h2
          ·cases h1
         ·cases h1
       exact this hw hu
      refine⟨fl.flatten,⟨vs,fl,hv,by rw[g1];exact HX.1.symm,f1,f2,rfl⟩,tG,g2,by rw[f3];exact Z7 h tG g2,fun c hc=>by rw[f3] at hc;exact ln.1 hc,by rw[qu];exact tG,fun u kM=>by rw[<-qu];exact jX.2 ⟨u,kM,rfl⟩,fun w' F' gS IM mF eW J5 NG=> ?_⟩
      cases gS with
      |nil=>exact IM.elim
      |cons l' gS=>
       obtain⟨yJ,vH⟩:=IM
       cases gS with
       |cons _ _=>exact vH.elim
       |nil=>
        obtain⟨rm,fl',e1,e2,e3,e4,e5⟩:=yJ
        rw[hv] at e1
        have:rm=vs:=by simpa using e1.symm
        subst this
        obtain⟨i1,tl,i2,i3,i4⟩:=Zv (w':=w') (F':=F') h hw HX hu e3 e4
        have Gu:l'.Nodup:=by simpa using J5
        refine⟨tl,[],i2,rfl,fun s hs kv' fp' bad' _ _=>i3 s hs kv' fp' bad',by simp,?_,fun c hc=> ?_⟩
        ·rw[i4,<-e5];simpa[eV.bl] using Gu
        ·rw[i4,<-e5] at hc
         exact .inl (by simpa[eV.bl] using hc)
     ·cases gX
    all_goals first|(rename_i ph;cases ph;done)|(rename_i ph _;cases ph;done)|cases gX
   ·cases ha
  ·cases ha
 ·
  rename_i y
  split at ha
  ·rename_i HV cs ks' ht
   split at ha
   ·rename_i d' hd
    rw[fc] at ha
    split at ha
    ·rename_i pj
     cases ha
     have tG:=sV.1 pj
     obtain⟨vs,HX,hv⟩:=hx
     obtain⟨g1,g2,g3,_⟩:=Kj h ht hp HX tG
     obtain⟨fl,f1,f2,f3,f4⟩:=g3 rfl
     have oZ:mN E w F .mv d v fl.flatten:=by
      unfold K7 at hd
      cases J7:y.agg<;>rw[J7] at hd hv<;>simp only[cond_true,cond_false,yN,if_false,if_true] at hd hv
      ·split at hd
       ·cases hd
        subst hv
        simp only[iD,ii] at f1
        obtain⟨l,rfl⟩:=List.length_eq_one_iff.1 f1
        simpa[mN] using f2 0 _ rfl
       ·cases hd
      ·cases hd
       exact⟨vs,fl,hv,by rw[g1];exact HX.1.symm,f1,f2,rfl⟩
     have Og:dm=[]/\us=[]/\es=[]:=by
      cases dm with
      |nil=>simp only[gn,eZ,kG] at gX;exact⟨rfl,gX.1.symm,gX.2.symm⟩
      |cons _ _=>simp[gn] at gX
     obtain⟨rfl,rfl,rfl⟩:=Og
     refine⟨fl.flatten,oZ,tG,g2,f3,f4,by simp,by simp,fun w' F' gS IM mF eW J5 NG=> ?_⟩
     have:gS=[]:=by cases gS with|nil=>rfl|cons _ _=>exact IM.elim
     subst this
     exact⟨[],[],rfl,rfl,by simp,by simp,by simp[eV.bl],by simp[eV.bl]⟩
    ·cases ha
   ·cases ha
  ·cases ha
 ·
  rename_i k
  split at ha
  ·rename_i cs he
   have dr:=fA he
   have hl0:(σ.aU k).isSome=true:=by rw[dr];rfl
   rw[fc] at ha
   split at ha
   ·rename_i L6
    simp only[fY,Vn] at L6
    obtain⟨NF,nd⟩:=L6
    split at ha
    ·rename_i HV l0 ks' ht
     rw[fc] at ha
     split at ha
     ·rename_i pj
      cases ha
      have tG:=sV.1 pj
      obtain⟨b,h1,h2⟩:=bG (F_ hx) rfl
      obtain⟨b',cur,e,h3,h4,h5,h6⟩:=h.cT k _ dr
      rw[h1] at h3;cases h3
      subst h2
      have hlen:cs.length=cur.size:=by have:=h6.1;simpa using this
      obtain⟨g1,g2,g3,_⟩:=Kj h ht hp (h6.take want.length) (pH.1 tG).2
      obtain⟨fl,f1,f2,f3,f4⟩:=g3 rfl
      have KT:l0.length=want.length:=by rw[g1,mO];omega
      have wK:∀u∈cur.toList.drop l0.length,fu u:=(h6.drop l0.length).C7
      have qk:∀(i:Nat)(c:U.C),l0[i]? =some c->cur.toList.getD i undef=(cur.toList.take want.length).getD i undef:=by
       intro i c hc
       have hi:i<want.length:=by
        rw[<-KT]
        rcases lR i l0.length with g|g
        ·exact g
        ·rw[lU g] at hc;cases hc
       simp only[gh,mP,if_pos hi]
      have aa9:b∉fl.flatten:=by
       intro hb
       obtain⟨k',bp,aI⟩:=f4 b hb
       obtain⟨e2,nX⟩:=kH.1 (g2 k' bp)
       exact h.apart k k' _ e2 b (fun e=>(pH.1 tG).1 (by rw[e];exact bp)) dr nX (by rw[h5];simp) aI
      have Og:∃ds,dm=[.box ds]/\ds.length=want.length/\us=[(k,.box ((putCells ku true 512 ds).1++cs.drop want.length))]/\es=(putCells ku true 512 ds).2:=by
       cases dm with
       |nil=>simp[gn] at gX
       |cons d0 dm=>
        cases dm with
        |cons _ _=>simp[gn] at gX
        |nil=>
         cases d0 with
         |one _=>simp[gn] at gX
         |agg _=>simp[gn] at gX
         |ptr _=>simp[gn] at gX
         |fn _=>simp[gn] at gX
         |box ds=>
          simp only[gn,he] at gX
          rw[fc] at gX
          split at gX
          ·rename_i IP
           cases gX
           exact⟨ds,rfl,jp IP,rfl,rfl⟩
          ·cases gX
      obtain⟨ds,rfl,EC,rfl,rfl⟩:=Og
      refine⟨b::fl.flatten,⟨b,cur,e,fl,rfl,h4,by omega,by rw[Kk h4],by rw[Kk h4];exact wK,f1,fun i c hc=>by rw[qk i c hc];exact f2 i c hc,rfl⟩,tG,fun k' bp=>by
       rcases h_.1 bp with rfl|bp
       ·exact hl0
       ·exact g2 k' bp,pH.2 ⟨aa9,f3⟩,fun c hc=>by
       rcases h_.1 hc with rfl|hc
       ·exact⟨k,by simp,by rw[h5];simp⟩
       ·obtain⟨k',bp,hc⟩:=f4 c hc;exact⟨k',aJ _ bp,hc⟩,by simp,by simp,fun w' F' gS IM mF eW J5 NG=> ?_⟩
      cases gS with
      |nil=>exact IM.elim
      |cons l' gS=>
       obtain⟨yJ,vH⟩:=IM
       cases gS with
       |cons _ _=>exact vH.elim
       |nil=>
        obtain⟨b2,cur',e',fl',k1,k2,k3,k4,k5,k6,k7,rfl⟩:=yJ
        cases k1
        rw[Kk h4,EC] at k4
        have Gu:(b::fl'.flatten).Nodup:=by simpa using J5
        have fa:cur'.toList.take ds.length++cur'.toList.drop ds.length=cur'.toList:=HS _ _
        obtain⟨t,t1,t2,t3,t4⟩:=Ik (E:=E) (w:=w') (F:=F') (dst:=ku) (base:=512) (cs:=ds) (vs:=cur'.toList.take ds.length) (fl:=fl') (by simp;omega) k6 (fun i c hc=>by
         have hi:i<ds.length:=by
          rcases lR i ds.length with g|g
          ·exact g
          ·rw[lU g] at hc;cases hc
         have:=k7 i c hc
         rw[gh,mP,if_pos hi,<-gh]
         exact this)
        refine⟨[(k,.box ((putCells ku true 512 ds).1++cs.drop want.length),[b])],t,rfl,t1,fun s hs kv' fp' bad' aaT Ei=> ?_,t2,?_,fun c hc=> ?_⟩
        ·rw[g_.1 hs]
         refine⟨b,cur',e',h1,k2,rfl,?_⟩
         rw[<-fa]
         refine(t4 kv' fp' bad' Ei).append ?_
         rw[EC,k4]
         exact ac3 nd (h6.drop want.length) (fun y hy k' bp=>aaT k' (.inr ⟨k,cs,.inl dr,y,List.mem_of_mem_drop hy,bp⟩)) mF
        ·simp only[tV,Vo,sI]
         rw[t3]
         exact Gu
        ·simp only[tV,Vo,sI] at hc
         rw[t3] at hc
         exact .inl (by simpa using hc)
     ·cases ha
    ·cases ha
   ·cases ha
  ·cases ha
 ·
  rename_i k
  split at ha
  ·rename_i cs he
   have dr:=fA he
   have hl0:(σ.aU k).isSome=true:=by rw[dr];rfl
   rw[fc] at ha
   split at ha
   ·rename_i L6
    simp only[fY,Vn] at L6
    obtain⟨NF,nd⟩:=L6
    split at ha
    ·rename_i l0 wl
     cases ha
     have lh:=MU wl
     obtain⟨b,h1,h2⟩:=bG (F_ hx) rfl
     obtain⟨b',cur,e,h3,h4,h5,h6⟩:=h.cT k _ dr
     rw[h1] at h3;cases h3
     subst h2
     have hlen:cs.length=cur.size:=by have:=h6.1;simpa using this
     have KT:l0.length=want.length:=by
      have:=congrArg List.length lh
      rw[mO,wj] at this
      omega
     have wK:∀u∈cur.toList.drop l0.length,fu u:=(h6.drop l0.length).C7
     have Og:∃ds,dm=[.box ds]/\ds.length=want.length/\us=[(k,.box (ds.map .c++cs.drop want.length))]/\es=[]:=by
      cases dm with
      |nil=>simp[gn] at gX
      |cons d0 dm=>
       cases dm with
       |cons _ _=>simp[gn] at gX
       |nil=>
        cases d0 with
        |one _=>simp[gn] at gX
        |agg _=>simp[gn] at gX
        |ptr _=>simp[gn] at gX
        |fn _=>simp[gn] at gX
        |box ds=>
         simp only[gn,he] at gX
         rw[fc] at gX
         split at gX
         ·rename_i IP
          cases gX
          exact⟨ds,rfl,jp IP,rfl,rfl⟩
         ·cases gX
     obtain⟨ds,rfl,EC,rfl,rfl⟩:=Og
     refine⟨[b],⟨b,cur,e,List.replicate l0.length [],rfl,h4,by omega,by rw[Kk h4],by rw[Kk h4];exact wK,by simp,fun i c hc=> ?_,by rw[yY]⟩,by simp,by simpa using hl0,by simp,by simp[h5],by simp,by simp,fun w' F' gS IM mF eW J5 NG=> ?_⟩
     ·have hi:i<want.length:=by
       rw[<-KT]
       rcases lR i l0.length with g|g
       ·exact g
       ·rw[lU g] at hc;cases hc
      have hci:cs[i]? =some (.c c):=by
       have:(cs.take want.length)[i]? =some (.c c):=by rw[lh,mE,hc];rfl
       rwa[mP,if_pos hi] at this
      have h7:=bG (h6.2 i (.c c) (cur.toList.getD i undef) hci (dz (by simp;omega))) rfl
      rw[kA]
      exact h7
     ·cases gS with
      |nil=>exact IM.elim
      |cons l' gS=>
       obtain⟨yJ,vH⟩:=IM
       cases gS with
       |cons _ _=>exact vH.elim
       |nil=>
        obtain⟨b2,cur',e',fl',k1,k2,k3,k4,k5,k6,k7,rfl⟩:=yJ
        cases k1
        rw[Kk h4,EC] at k4
        have Gu:(b::fl'.flatten).Nodup:=by simpa using J5
        have fa:cur'.toList.take ds.length++cur'.toList.drop ds.length=cur'.toList:=HS _ _
        refine⟨[(k,.box (ds.map .c++cs.drop want.length),[b])],[],rfl,rfl,fun s hs kv' fp' bad' aaT Ei=> ?_,by simp,by simp[eV.bl],fun c hc=> ?_⟩
        ·rw[g_.1 hs]
         refine⟨b,cur',e',h1,k2,rfl,?_⟩
         rw[<-fa]
         refine kS.append ?_ ?_
         ·refine Kp (by simp;omega) (fun i c hc=> ?_)
          have hi:i<ds.length:=by
           rcases lR i ds.length with g|g
           ·exact g
           ·rw[lU g] at hc;cases hc
          have:=k7 i c hc
          rw[gh,mP,if_pos hi,<-gh]
          exact this.i_ (fun _ hb=>hb) (fun b' aI=>this.SY aI)
         ·rw[EC,k4]
          exact ac3 nd (h6.drop want.length) (fun y hy k' bp=>aaT k' (.inr ⟨k,cs,.inl dr,y,List.mem_of_mem_drop hy,bp⟩)) mF
        ·simp only[tV,Vo,sI,eV.bl,g_] at hc
         subst hc
         exact .inl (by simp)
    ·cases ha
   ·cases ha
  ·cases ha
 ·cases ha
theorem rf.fe{own:Bool}{cs:List U.C}{rest:List Value}{v:Value}{l:List Nat}(h:rf E w F own cs rest v l)(hF:∀b,F b->F' b):rf E w F' own cs rest v l:=by
 obtain⟨b,cur,e,fl,h1,h2,h3,h4,h5,h6,h7,h8⟩:=h
 exact⟨b,cur,e,fl,h1,h2,h3,h4,h5,h6,fun i c hc=>(h7 i c hc).cI (fun b hb=>⟨hF b hb,rfl⟩) (fun _ _=>rfl),h8⟩
theorem mN.fe{m:Mode}{d:DV U}{v:Value}{l:List Nat}(hm:m≠ .ro)(h:mN E w F m d v l)(hF:∀b,F b->F' b):mN E w F' m d v l:=by
 cases m with
 |ro=>exact absurd rfl hm
 |wr=>
  cases d with
  |one c=>
   cases c with
   |lit _=>exact h
   |sl τ xs=>exact cF.any h
  |agg _=>exact lH.any h
  |box _=>exact h
  |ptr _=>exact h
  |fn _=>exact h
 |mv=>
  cases d with
  |one c=>exact Rp.oV h (fun _ _=>rfl)
  |agg _=>exact lH.any h
  |box _=>exact h
  |ptr _=>exact h
  |fn _=>exact h
 |box own=>
  cases d with
  |box cs=>exact rf.fe h hF
  |one _=>exact h
  |agg _=>exact h
  |ptr _=>exact h
  |fn _=>exact h
theorem ac5(h:cd E pm F kv fp σ a w){ks ks':List Key}(hn:(ks++ks').Nodup)(hl:∀k∈ks,(σ.aU k).isSome=true)(zh:∀k∈ks',(σ.aU k).isSome=true){b:Nat}(hb:∃k∈ks,b∈fp k):∀k∈ks',b∉fp k:=by
 intro k' bp aI
 obtain⟨k,hk,hb⟩:=hb
 obtain⟨e,he⟩:=kH.1 (hl k hk)
 obtain⟨e2,nX⟩:=kH.1 (zh k' bp)
 exact h.apart k k' e e2 b (fun e3=>(nH.1 hn).2.2 k hk k' bp e3) he nX hb aI
theorem aah{a1 a2 b1 b2:List Nat}(n1:(a1++b1).Nodup)(n2:(a2++b2).Nodup)(x:∀b∈a1++b1,b∉a2++b2):((a1++a2)++(b1++b2)).Nodup:=by
 have hp:((a1++a2)++(b1++b2)).Perm ((a1++b1)++(a2++b2)):=by
  rw[qc,qc]
  refine List.Perm.append_left a1 ?_
  rw[<-qc,<-qc]
  exact List.Perm.append_right b2 List.perm_append_comm
 rw[hp.nodup_iff,nH]
 exact⟨n1,n2,fun b hb c hc e=>x b hb (e▸hc)⟩
theorem Lm.merge(h:cd E pm F kv fp σ a w){ks ks':List Key}(hn:(ks++ks').Nodup)(hl:∀k∈ks,(σ.aU k).isSome=true)(zh:∀k∈ks',(σ.aU k).isSome=true){ku:Nat}{l l':List Nat}{us N8:List (Key×eX U)}{es V9:List (Nat×eX U)}{ml ml':List Nat}
  (h1:Lm E σ w F kv fp ku ks l us es w' F' ml) (h2:Lm E σ w F kv fp ku ks' l' N8 V9 w' F' ml') (J5:(ml++ml').Nodup) (hf:∀b∈l,∃k∈ks,b∈fp k) (hf':∀b∈l',∃k∈ks',b∈fp k)
  (ho:∀b∈ml++ml',b∈l++l'\/∀k∈ks++ks',b∉fp k):Lm E σ w F kv fp ku (ks++ks') (l++l') (us++N8) (es++V9) w' F' (ml++ml'):=by
 obtain⟨tl,t,a1,a2,a3,a4,a5,a6⟩:=h1
 obtain⟨tl',t',b1,b2,b3,b4,b5,b6⟩:=h2
 have wV:∀{b:Nat},(∃k∈ks,b∈fp k)->¬∃k∈ks',b∈fp k:=fun hb hc=>by
  obtain⟨k,hk,jr⟩:=hc
  exact ac5 h hn hl zh hb k hk jr
 have hx:∀b∈tl.flatMap (·.2.2)++t.bl,b∉tl'.flatMap (·.2.2)++t'.bl:=by
  intro b hb aI
  rcases a6 b hb with g|⟨g,gk⟩
  ·rcases b6 b aI with g'|⟨g',gk'⟩
   ·exact(nH.1 J5).2.2 b g b g' rfl
   ·rcases ho b (oE _ g) with q|q
    ·rcases gA.1 q with q|q
     ·exact wV (hf b q) gk'
     ·exact g' q
    ·obtain⟨k,hk,gX⟩:=gk'
     exact q k (pA _ hk) gX
  ·rcases b6 b aI with g'|⟨g',gk'⟩
   ·rcases ho b (pA _ g') with q|q
    ·rcases gA.1 q with q|q
     ·exact g q
     ·exact wV gk (hf' b q)
    ·obtain⟨k,hk,gX⟩:=gk
     exact q k (oE _ hk) gX
   ·exact wV gk gk'
 refine⟨tl++tl',t++t',by rw[Em,a1,b1],by rw[eV.Fk,a2,b2],fun s hs kv' fp' bad' q1 q2=> ?_,fun s hs=> ?_,?_,fun b hb=> ?_⟩
 ·rcases gA.1 hs with hs|hs
  ·exact a3 s hs kv' fp' bad' q1 fun s' ky=>q2 s' (oE _ ky)
  ·exact b3 s hs kv' fp' bad' q1 fun s' ky=>q2 s' (pA _ ky)
 ·rcases gA.1 hs with hs|hs
  ·exact a4 s hs
  ·exact b4 s hs
 ·rw[N3,eV.uM]
  exact aah a5 b5 hx
 ·rw[N3,eV.uM] at hb
  have hb:b∈tl.flatMap (·.2.2)++t.bl\/b∈tl'.flatMap (·.2.2)++t'.bl:=by
   simp only[gA] at hb⊢
   rcases hb with(hb|hb)|(hb|hb)
   ·exact .inl (.inl hb)
   ·exact .inr (.inl hb)
   ·exact .inl (.inr hb)
   ·exact .inr (.inr hb)
  rcases hb with hb|hb
  ·rcases a6 b hb with g|⟨g,k,hk,gX⟩
   ·exact .inl (oE _ g)
   ·exact .inr ⟨fun q=>(gA.1 q).elim g (fun q=>wV ⟨k,hk,gX⟩ (hf' b q)),k,oE _ hk,gX⟩
  ·rcases b6 b hb with g|⟨g,k,hk,gX⟩
   ·exact .inl (pA _ g)
   ·exact .inr ⟨fun q=>(gA.1 q).elim (fun q=>wV (hf b q) ⟨k,hk,gX⟩) g,k,pA _ hk,gX⟩
theorem e_.split{w0:World}{m:Mode}{v:Value}{ms:List Mode}{vs:List Value}{dm:List (DV U)}{gS:List (List Nat)}(hm:m≠ .ro)(h:e_ E w F w0 (m::ms) (v::vs) dm gS):
  ∃E2 S1,gS=E2++S1/\e_ E w F w0 [m] [v] (Az m dm) E2/\e_ E w F w0 ms vs (wG m dm) S1:=by
 cases m with
 |ro=>exact absurd rfl hm
 |mv=>exact⟨[],gS,rfl,trivial,by simpa[e_,wG] using h⟩
 |wr=>
  cases dm with
  |nil=>cases gS<;>exact h.elim
  |cons d dm=>
   cases gS with
   |nil=>cases d<;>first|exact h.elim|(rename_i c;cases c<;>exact h.elim)
   |cons l' gS=>
    cases d with
    |one c=>
     cases c with
     |lit _=>exact h.elim
     |sl τ ys=>exact⟨[l'],gS,rfl,⟨h.1,trivial⟩,h.2⟩
    |agg _=>exact⟨[l'],gS,rfl,⟨h.1,trivial⟩,h.2⟩
    |box _=>exact h.elim
    |ptr _=>exact h.elim
    |fn _=>exact h.elim
 |box own=>
  cases dm with
  |nil=>cases gS<;>exact h.elim
  |cons d dm=>
   cases gS with
   |nil=>cases d<;>exact h.elim
   |cons l' gS=>
    cases d with
    |box cs=>exact⟨[l'],gS,rfl,⟨h.1,trivial⟩,h.2⟩
    |one _=>exact h.elim
    |agg _=>exact h.elim
    |ptr _=>exact h.elim
    |fn _=>exact h.elim
theorem amK(h:cd E pm F kv fp σ a w){rs:List Key}{n:Nat}:∀{ms:List Mode}{ws:List (List (Option U.Ty))}{xs:List (SV U)}{vs:List Value}{ps:List Prop}{ds:List (DV U)},
  nw E (restrict σ.aU rs) σ.ay ms ws xs=some (ps,ds)->xs.length=vs.length->(∀(i:Nat)(x:SV U)(v:Value),xs[i]? =some x->vs[i]? =some v->RS E w F kv fp (aZ σ) x v)->CQ (restrict σ.aU rs) n ms ws xs=true->sH w n ms ds vs:=by
 intro ms
 induction ms with
 |nil=>intro ws xs vs ps ds _ _ _ _;trivial
 |cons m ms ih=>
  intro ws xs vs ps ds ha hl hx hr
  cases xs with
  |nil=>cases m<;>simp[nw] at ha
  |cons x xs=>
   cases vs with
   |nil=>simp at hl
   |cons v vs=>
    simp only[nw] at ha
    split at ha
    rotate_left
    ·cases ha
    rename_i Rv d1 ps2 ds2 h1 h2
    cases ha
    simp only[CQ,fY] at hr
    refine⟨fun own cs hm hd=> ?_,ih h2 (by simpa using hl) (fun i y u hy hu=>hx (i+1) y u (by simpa using hy) (by simpa using hu)) hr.2⟩
    subst hm
    subst hd
    have zc:=hr.1
    split at zc
    ·rename_i o1 k off hbo
     split at zc
     rotate_left
     ·cases zc
     rename_i bs he
     have dr:=fA he
     have hlen:=jp zc
     simp only[tN] at h1
     split at h1
     rotate_left
     ·cases h1
     rename_i ps0 d0 ks0 mo
     cases h1
     have fa:cs.length=(ws.headD []).length/\off=0:=by
      cases own with
      |true=>
       cases off with
       |succ n'=>simp[kY] at mo
       |zero=>
        simp only[kY,he] at mo
        rw[fc] at mo
        split at mo
        rotate_left
        ·cases mo
        split at mo
        rotate_left
        ·cases mo
        rename_i q1 q2 q3 ht
        rw[fc] at mo
        split at mo
        rotate_left
        ·cases mo
        cases mo
        have:=ac0 ht
        rw[mO] at this
        exact⟨by omega,rfl⟩
      |false=>
       cases off with
       |succ n'=>simp[kY] at mo
       |zero=>
        simp only[kY,he] at mo
        rw[fc] at mo
        split at mo
        rotate_left
        ·cases mo
        split at mo
        rotate_left
        ·cases mo
        rename_i l0 wl
        cases mo
        have:=congrArg List.length (MU wl)
        rw[mO,wj] at this
        exact⟨by omega,rfl⟩
     obtain⟨fa,rfl⟩:=fa
     have hxv:=hx 0 _ v rfl rfl
     obtain⟨b,g1,g2⟩:=bG (F_ hxv) rfl
     obtain⟨b',cur,e,g3,g4,g5,g6⟩:=h.cT k _ dr
     rw[g1] at g3;cases g3
     rw[g2,Kk g4,FT,<-g6.1]
     omega
    ·cases zc
    ·rename_i Gt _
     exact absurd rfl (Gt own)
theorem aoT(hC:∀g k,E.NU g=some k->u7 E.P g/\eL E g k)(h:cd E pm F kv fp σ a w){rs:List Key}{K:List Key}{ku:Nat}:∀{ms:List Mode}{ws:List (List (Option U.Ty))}{xs:List (SV U)}{vs:List Value}{ps:List Prop}{ds dm:List (DV U)}{us:List (Key×eX U)}{es:List (Nat×eX U)}{lk:List Key},
  nw E (restrict σ.aU rs) σ.ay ms ws xs=some (ps,ds)->(∀p∈ps,p)->xs.length=vs.length->(∀(i:Nat)(x:SV U)(v:Value),xs[i]? =some x->vs[i]? =some v->RS E w F kv fp (aZ σ) x v)->
  (∀x∈xs,∀k∈x.keys,Names σ k)->(∀k∈fD ms xs,(σ.aU k).isSome=true->k∈K)->jE (restrict σ.aU rs) σ.ay ku ms ws xs dm=some (us,es,lk)->
  ∃ls,iN E w (FK F fp K) ms ds vs ls/\lk.Nodup/\(∀k∈lk,(σ.aU k).isSome=true/\Names σ k)/\ls.flatten.Nodup/\(∀b∈ls.flatten,∃k∈lk,b∈fp k)/\(us.map (·.1)).Nodup/\(∀u∈us,u.1∈lk)/\
   ∀(w':World)(F':Nat->Prop)(gS:List (List Nat)),e_ E w' F' w ms vs dm gS->(∀b,F b->F' b/\w'.heap[b]? =w.heap[b]?)->(∀k∈lk,∀c∈fp k,c∉ls.flatten->w'.heap[c]? =w.heap[c]?)->gS.flatten.Nodup->
    (∀b∈gS.flatten,b∈ls.flatten\/∀k∈lk,b∉fp k)->Lm E σ w F kv fp ku lk ls.flatten us es w' F' gS.flatten:=by
 intro ms
 induction ms with
 |nil=>
  intro ws xs vs ps ds dm us es lk ha hp hl hx ol hK hu
  cases xs with
  |cons x xs=>simp[nw] at ha
  |nil=>
   cases vs with
   |cons v vs=>simp at hl
   |nil=>
    cases dm with
    |cons d dm=>simp[jE] at hu
    |nil=>
     simp only[nw,eZ,kG] at ha
     obtain⟨rfl,rfl⟩:=ha
     simp only[jE,eZ,kG] at hu
     obtain⟨rfl,rfl,rfl⟩:=hu
     refine⟨[],trivial,by simp,by simp,by simp,by simp,by simp,by simp,fun w' F' gS hm _ _ _ _=> ?_⟩
     cases gS with
     |nil=>exact⟨[],[],rfl,rfl,by simp,by simp,by simp[eV.bl],by simp[eV.bl]⟩
     |cons _ _=>exact hm.elim
 |cons m ms ih=>
  intro ws xs vs ps ds dm us es lk ha hp hl hx ol hK hu
  cases xs with
  |nil=>cases m<;>simp[nw] at ha
  |cons x xs=>
   cases vs with
   |nil=>simp at hl
   |cons v vs=>
    simp only[nw] at ha
    split at ha
    ·rename_i Rv d1 ps2 ds2 h1 h2
     cases ha
     have E3:∀(i:Nat)(y:SV U)(u:Value),xs[i]? =some y->vs[i]? =some u->RS E w F kv fp (aZ σ) y u:=fun i y u hy hu=>hx (i+1) y u (by simpa using hy) (by simpa using hu)
     by_cases hm:m=.ro
     ·subst hm
      simp only[jE] at hu
      obtain⟨ls,i1,i2,i3,i4,i5,i6,i7,i8⟩:=ih h2 (fun p jf=>hp p (by simp[jf])) (by simpa using hl) E3 (fun y hy=>ol y (aJ _ hy)) (fun k hk=>hK k (by simp[fD,hk])) hu
      refine⟨[]::ls,⟨aoW hC h h1 (fun p jf=>hp p (by simp[jf])) (hx 0 x v rfl rfl) (fun k hk=>hK k (by simp[fD,hk])),i1⟩,i2,i3,by simpa using i4,by simpa using i5,i6,i7,fun w' F' gS IM mF eW J5 NG=> ?_⟩
      have:=i8 w' F' gS (by simpa[e_] using IM) mF (by simpa using eW) J5 (by simpa using NG)
      simpa using this
     ·have kM:∃ps0 d0 ks ks' us1 es1 us2 es2,kY (restrict σ.aU rs) σ.ay (ws.headD []) m x=some (ps0,d0,ks)/\gn (restrict σ.aU rs) ku (ws.headD []).length m x (Az m dm)=some (us1,es1)/\jE (restrict σ.aU rs) σ.ay ku ms ws.tail xs (wG m dm)=some (us2,es2,ks')/\(ks++ks').Nodup/\us=us1++us2/\es=es1++es2/\lk=ks++ks'/\Rv=ps0/\d1=d0:=by
       have Ry:(match kY (restrict σ.aU rs) σ.ay (ws.headD []) m x,gn (restrict σ.aU rs) ku (ws.headD []).length m x (Az m dm) with
        |some (_,_,ks),some (us,es)=>match jE (restrict σ.aU rs) σ.ay ku ms ws.tail xs (wG m dm) with
         |some (N8,V9,ks')=>bif distinct (ks++ks') then some (us++N8,es++V9,ks++ks') else none
         |none=>none
        |_,_=>none)=some (us,es,lk):=by
        cases m with
        |ro=>exact absurd rfl hm
        |wr=>exact hu
        |mv=>exact hu
        |box _=>exact hu
       split at Ry
       ·rename_i p0 d0 ks us0 es0 g1 g2
        split at Ry
        ·rename_i us2 es2 ks' g3
         rw[fc] at Ry
         split at Ry
         ·rename_i pj
          cases Ry
          have:tN E (restrict σ.aU rs) σ.ay (ws.headD []) m x=some (p0,d0):=by
           cases m with
           |ro=>exact absurd rfl hm
           |wr=>simp only[tN,g1]
           |mv=>simp only[tN,g1]
           |box _=>simp only[tN,g1]
          rw[this] at h1
          cases h1
          exact⟨_,_,ks,ks',_,_,_,_,g1,g2,g3,sV.1 pj,rfl,rfl,rfl,rfl,rfl⟩
         ·cases Ry
        ·cases Ry
       ·cases Ry
      obtain⟨ps0,d0,ks,ks',us1,es1,us2,es2,g1,g2,g3,tG,rfl,rfl,rfl,rfl,rfl⟩:=kM
      obtain⟨l,r1,r2,r3,r4,r5,r6,r7,r8⟩:=anS h g1 (fun p jf=>hp p (by simp[jf])) (hx 0 x v rfl rfl) (ol x cH) g2
      obtain⟨ls,i1,i2,i3,i4,i5,i6,i7,i8⟩:=ih h2 (fun p jf=>hp p (by simp[jf])) (by simpa using hl) E3 (fun y hy=>ol y (aJ _ hy)) (fun k hk=>hK k (by cases m<;>first|exact absurd rfl hm|simpa[fD] using hk)) g3
      have wV:∀{b:Nat},(∃k∈ks,b∈fp k)->¬∃k∈ks',b∈fp k:=fun hb hc=>by
       obtain⟨k,hk,jr⟩:=hc
       exact ac5 h tG r3 (fun k hk=>(i3 k hk).1) hb k hk jr
      refine⟨l::ls,⟨r1.fe hm (fun b hb=> .inl hb),i1⟩,tG,fun k hk=> ?_,?_,fun b hb=> ?_,?_,fun u hu=> ?_,fun w' F' gS IM mF eW J5 NG=> ?_⟩
      ·rcases gA.1 hk with hk|hk
       ·exact⟨r3 k hk,anT g1 (ol x cH) k hk⟩
       ·exact i3 k hk
      ·rw[Lq,nH]
       exact⟨r4,i4,fun b hb c hc e=>wV (r5 b hb) (i5 b (e▸hc))⟩
      ·rw[Lq] at hb
       rcases gA.1 hb with hb|hb
       ·obtain⟨k,hk,hb⟩:=r5 b hb;exact⟨k,oE _ hk,hb⟩
       ·obtain⟨k,hk,hb⟩:=i5 b hb;exact⟨k,pA _ hk,hb⟩
      ·rw[Em,nH]
       refine⟨r6,i6,fun k hk k' bp e=> ?_⟩
       obtain⟨u,hu,rfl⟩:=jX.1 hk
       obtain⟨u',kM,rfl⟩:=jX.1 bp
       exact(nH.1 tG).2.2 _ (r7 u hu) _ (i7 u' kM) e
      ·rcases gA.1 hu with hu|hu
       ·exact oE _ (r7 u hu)
       ·exact pA _ (i7 u hu)
      obtain⟨E2,S1,rfl,q1,q2⟩:=IM.split hm
      rw[Ak] at J5 NG⊢
      rw[Lq] at eW NG⊢
      have Gu:=nH.1 J5
      have B1:=r8 w' F' E2 q1 mF (fun k hk c hc fa=>eW k (oE _ hk) c hc (by
        rw[gA]
        exact fun hor=>hor.elim fa (fun q=>wV ⟨k,hk,hc⟩ (i5 c q)))) Gu.1 (fun b hb=>by
        rcases NG b (oE _ hb) with g|g
        ·rcases gA.1 g with g|g
         ·exact .inl g
         ·exact .inr fun k hk gX=>wV ⟨k,hk,gX⟩ (i5 b g)
        ·exact .inr fun k hk=>g k (oE _ hk))
      have B2:=i8 w' F' S1 q2 mF (fun k hk c hc fa=>eW k (pA _ hk) c hc (by
        rw[gA]
        exact fun hor=>hor.elim (fun q=>wV (r5 c q) ⟨k,hk,hc⟩) fa)) Gu.2.1 (fun b hb=>by
        rcases NG b (pA _ hb) with g|g
        ·rcases gA.1 g with g|g
         ·exact .inr fun k hk gX=>wV (r5 b g) ⟨k,hk,gX⟩
         ·exact .inl g
        ·exact .inr fun k hk=>g k (pA _ hk))
      exact Lm.merge h tG r3 (fun k hk=>(i3 k hk).1) B1 B2 J5 r5 i5 NG
    ·cases ha
end AM
