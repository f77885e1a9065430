/- THE ABSTRACT MACHINE: an argument that is lent to a call, and what comes back. -/
import Derived.Test.YtceiiofmelhipaaGreatAmCall2
namespace AM
set_option linter.unusedVariables false
open Go
variable{U:Uni}{E:Env U}{pm:Pm}
variable{F F':Nat→Prop}{kv:Key→Value}{fp:Key→List Nat}{σ:AState U}{a:Act}{w w':World}{bad:Key→Bool}
theorem qams{kv':Key→Value}{fp':Key→List Nat}{bad':Key→Bool}{y:AC U}{v:Value}(hs:y.still=true)(h:RD E w F kv fp bad y v)(hk:∀k∈y.keys,kv' k=kv k)
  (hF:∀b,F b→F' b∧w'.heap[b]? =w.heap[b]?):RD E w' F' kv' fp' bad' y v:=by
 have hb:badAC bad y=false:=by
  unfold AC.still at hs
  split at hs<;>first|rfl|cases hs
 refine⟨h.1,.inr ?_⟩
 have h0:=RA_of h hb
 unfold AC.still at hs
 split at hs
 ·exact Rp.keep h0 hF (by simp)
 ·exact h0
 ·rename_i k
  simp only[RA] at h0⊢
  rw[hk k (by simp[AC.keys])];exact h0
 ·rename_i k off
  simp only[RA] at h0⊢
  rw[hk k (by simp[AC.keys])];exact h0
 ·cases hs
theorem qamt{kv':Key→Value}{fp':Key→List Nat}{bad':Key→Bool}{xs:List (AC U)}{vs:List Value}(hs:xs.all AC.still=true)(h:RDs E w F kv fp bad xs vs)(hk:∀y∈xs,∀k∈y.keys,kv' k=kv k)
  (hF:∀b,F b→F' b∧w'.heap[b]? =w.heap[b]?):RDs E w' F' kv' fp' bad' xs vs:=
 ⟨h.1,fun i y v hy hv=>qams (zcb.1 hs y (zbl hy)) (h.2 i y v hy hv) (hk y (zbl hy)) hF⟩
theorem qaen(h:Sim E pm F kv fp σ a w):∀{ks:List Key},ks.Nodup→(∀k∈ks,(σ.ent k).isSome=true)→(ks.flatMap fp).Nodup
 |[],_,_=>by simp
 |k::ks,hn,hl=>by
  rw[zbm,zav]
  obtain⟨e,he⟩:=zag.1 (hl k zab)
  rw[zbe] at hn
  refine⟨h.nodup k e he,qaen h hn.2 (fun k' hk'=>hl k' (zaa _ hk')),fun b hb c hc e'=> ?_⟩
  subst e'
  obtain⟨k',hk',hb'⟩:=zat.1 hc
  obtain⟨e2,he2⟩:=zag.1 (hl k' (zaa _ hk'))
  exact h.apart k k' e e2 b (fun e=>hn.1 (e▸hk')) he he2 hb hb'
theorem qany(h:Sim E pm F kv fp σ a w){rs:List Key}:∀{xs:List (AC U)}{vs:List Value}{cs cs':List U.C}{ks:List Key}{us:List (Key×Ent U)}{fl:List (List Nat)},wrCells (restrict σ.ent rs) xs=some (cs,ks)→RDs E w F kv fp (badK σ) xs vs→
  wrUpd xs cs'=some us→fl.length=cs'.length→(∀(i:Nat)(c:U.C),cs'[i]? =some c→Rp E w' F' true c (vs.getD i undef) (fl.getD i []))→
  us.map (·.1)=ks∧∃tl:List (Key×Ent U×List Nat),tl.map (fun t=>(t.1,t.2.1))=us∧(∀s∈tl,∀kv' fp' bad',REnt E w' F' kv' fp' bad' s.2.1 (kv s.1) s.2.2)∧tl.flatMap (·.2.2)=fl.flatten
 |[],vs,cs,cs',ks,us,fl,hw,hx,hu,hl,hr=>by
  simp only[wrCells,zae,zax] at hw
  obtain⟨rfl,rfl⟩:=hw
  cases cs' with
  |cons _ _=>simp[wrUpd] at hu
  |nil=>
   simp only[wrUpd,zae] at hu
   subst hu
   have:fl=[]:=zbh hl
   subst this
   exact⟨rfl,[],rfl,by simp,rfl⟩
 |x::xs,vs,cs,cs',ks,us,fl,hw,hx,hu,hl,hr=>by
  obtain⟨v,vs',rfl,h1,h2⟩:=hx.cons_inv
  cases cs' with
  |nil=>unfold wrUpd at hu;split at hu<;>first|(rename_i e1 e2;cases e1;done)|(rename_i e1 e2;cases e2;done)|cases hu
  |cons c cs'=>
   cases fl with
   |nil=>simp at hl
   |cons l fl=>
    have hr0:Rp E w' F' true c v l:=by simpa using hr 0 c rfl
    have hr1:∀(i:Nat)(c:U.C),cs'[i]? =some c→Rp E w' F' true c (vs'.getD i undef) (fl.getD i []):=fun i c hc=>by simpa using hr (i+1) c (by simpa using hc)
    have hl1:fl.length=cs'.length:=by simpa using hl
    unfold wrCells at hw
    split at hw
    ·rename_i heq;cases heq
    ·rename_i u r heq
     cases heq
     split at hw
     ·rename_i cs0 ks0 hr'
      cases hw
      cases c with
      |sl τ ys=>simp[wrUpd] at hu
      |lit u'=>
       simp only[wrUpd] at hu
       obtain⟨i1,tl,i2,i3,i4⟩:=qany h hr' h2 hu hl1 hr1
       obtain⟨rfl,_,_⟩:=hr0.lit_all
       exact⟨i1,tl,i2,i3,by simpa using i4⟩
     ·cases hw
    ·rename_i k r heq
     cases heq
     split at hw
     ·rename_i y cs0 ks0 he hr'
      cases hw
      cases c with
      |lit _=>simp[wrUpd] at hu
      |sl τ ys=>
       simp only[wrUpd] at hu
       split at hu
       ·rename_i us' hu'
        cases hu
        obtain⟨i1,tl,i2,i3,i4⟩:=qany h hr' h2 hu' hl1 hr1
        have hv:v=kv k:=RA_of h1 rfl
        refine⟨by simp[i1],(k,.arr ⟨τ,ys⟩ true,l)::tl,by simp[i2],fun s hs kv' fp' bad'=> ?_,by simp[i4]⟩
        rcases zak.1 hs with rfl|hs
        ·rw[←hv];exact hr0.inv_own
        ·exact i3 s hs kv' fp' bad'
       ·cases hu
     ·cases hw
    ·cases hw
theorem Rp.noFp{c:U.C}{v:Value}{l:List Nat}(h:Rp E w F false c v l){b:Nat}(hb:b∈l):F' b:=by
 generalize hm:false=m at h
 cases h with
 |lit=>cases hb
 |nil=>cases hb
 |shr=>cases hb
 |own=>cases hm
def Back(E:Env U)(σ:AState U)(w:World)(F:Nat→Prop)(kv:Key→Value)(fp:Key→List Nat)(okey:Nat)(ks:List Key)(l:List Nat)(us:List (Key×Ent U))(es:List (Nat×Ent U))(w':World)(F':Nat→Prop)(ml:List Nat):Prop:=
 ∃(tl:List (Key×Ent U×List Nat))(t:Dat U),tl.map (fun t=>(t.1,t.2.1))=us∧es=t.es∧
  (∀s∈tl,∀kv' fp' bad',(∀k,Names σ k→kv' k=kv k)→(∀s∈t,kv' (okey,s.1)=s.2.2.1)→REnt E w' F' kv' fp' bad' s.2.1 (kv s.1) s.2.2)∧
  (∀s∈t,∀kv' fp' bad',REnt E w' F' kv' fp' bad' s.2.1 s.2.2.1 s.2.2.2)∧
  (tl.flatMap (·.2.2)++t.bl).Nodup∧∀b∈tl.flatMap (·.2.2)++t.bl,b∈ml∨(b∉l∧∃k∈ks,b∈fp k)
theorem qanc{tb:Tab U}{want:Option U.Ty}{x:AC U}{ps:List Prop}{c:U.C}{ks:List Key}{d:Bool}(h:takeCell tb want x=some (ps,c,ks,d)):∀k∈ks,k∈x.keys:=by
 unfold takeCell at h
 split at h
 ·cases h;simp
 ·cases h;simp
 ·split at h<;>cases h;simp
 ·split at h<;>cases h<;>simp[AC.keys]
 ·split at h<;>cases h<;>simp[AC.keys]
 ·cases h
theorem qanf{tb:Tab U}:∀{xs:List (AC U)}{want:List (Option U.Ty)}{ps:List Prop}{cs:List U.C}{ks:List Key}{d:Bool},takeCells tb want xs=some (ps,cs,ks,d)→cs.length=xs.length
 |[],want,ps,cs,ks,d,h=>by
  simp only[takeCells,zae,zax] at h
  obtain⟨_,rfl,_⟩:=h
  rfl
 |x::xs,want,ps,cs,ks,d,h=>by
  simp only[takeCells] at h
  split at h
  ·rename_i h1 h2
   cases h
   simp[qanf h2]
  ·cases h
theorem RDs.litOk{xs:List (AC U)}{vs:List Value}(h:RDs E w F kv fp bad xs vs):∀v∈vs,LitOk v:=by
 intro v hv
 obtain⟨n,hn,rfl⟩:=zbk hv
 exact(h.2 n (xs[n]'(by rw[h.1];exact hn)) _ (zad _) (zad hn)).1
theorem qane{tb:Tab U}:∀{xs:List (AC U)}{want:List (Option U.Ty)}{ps:List Prop}{cs:List U.C}{ks:List Key}{d:Bool},takeCells tb want xs=some (ps,cs,ks,d)→∀k∈ks,∃x∈xs,k∈x.keys
 |[],want,ps,cs,ks,d,h,k,hk=>by
  simp only[takeCells,zae,zax] at h
  obtain⟨_,_,rfl,_⟩:=h
  cases hk
 |x::xs,want,ps,cs,ks,d,h,k,hk=>by
  simp only[takeCells] at h
  split at h
  ·rename_i h1 h2
   cases h
   rcases zao.1 hk with hk|hk
   ·exact⟨x,zab,qanc h1 k hk⟩
   ·obtain⟨y,hy,hk⟩:=qane h2 k hk
    exact⟨y,zaa _ hy,hk⟩
  ·cases h
theorem qanw{tb:Tab U}:∀{xs:List (AC U)}{cs:List U.C}{ks:List Key},wrCells tb xs=some (cs,ks)→∀k∈ks,∃x∈xs,k∈x.keys
 |[],cs,ks,h,k,hk=>by
  simp only[wrCells,zae,zax] at h
  obtain⟨_,rfl⟩:=h
  cases hk
 |x::xs,cs,ks,h,k,hk=>by
  unfold wrCells at h
  split at h
  ·rename_i heq;cases heq
  ·rename_i heq;cases heq
   split at h
   ·rename_i h1
    cases h
    obtain⟨y,hy,hk⟩:=qanw h1 k hk
    exact⟨y,zaa _ hy,hk⟩
   ·cases h
  ·rename_i heq;cases heq
   split at h
   ·rename_i h0 h1
    cases h
    rcases zak.1 hk with rfl|hk
    ·exact⟨_,zab,by simp[AC.keys]⟩
    ·obtain⟨y,hy,hk⟩:=qanw h1 k hk
     exact⟨y,zaa _ hy,hk⟩
   ·cases h
  ·cases h
theorem qagn{rs:List Key}{want:List (Option U.Ty)}{m:Mode}{x:SV U}{ps:List Prop}{d:DV U}{ks:List Key}(h:lentOf (restrict σ.ent rs) σ.dirty want m x=some (ps,d,ks))(hnm:∀k∈x.keys,Names σ k):∀k∈ks,Names σ k:=by
 unfold lentOf at h
 split at h
 ·split at h
  ·rw[zah] at h
   split at h
   ·split at h
    ·cases h
     intro k hk
     exact hnm k (by simpa[SV.keys,SV.acs,AC.keys] using hk)
    ·cases h
   ·cases h
  ·cases h
 ·rename_i cs
  split at h
  ·rename_i hw
   rw[zah] at h
   split at h
   ·cases h
    intro k hk
    obtain⟨y,hy,hk⟩:=qanw hw k hk
    exact hnm k (SV.mem_keys.2 ⟨y,hy,hk⟩)
   ·cases h
  ·cases h
 ·rename_i y
  split at h
  ·rename_i hw
   split at h
   ·rw[zah] at h
    split at h
    ·cases h
     intro k hk
     obtain⟨z,hz,hk⟩:=qane hw k hk
     exact hnm k (SV.mem_keys.2 ⟨z,hz,hk⟩)
    ·cases h
   ·cases h
  ·cases h
 ·rename_i k0
  have hk0:Names σ k0:=hnm k0 (by simp[SV.keys,SV.acs,AC.keys])
  split at h
  ·rename_i cs he
   rw[zah] at h
   split at h
   ·split at h
    ·rename_i hw
     rw[zah] at h
     split at h
     ·cases h
      intro k hk
      rcases zak.1 hk with rfl|hk
      ·exact hk0
      ·obtain⟨z,hz,hk⟩:=qane hw k hk
       exact .inr ⟨k0,cs,qald he,z,List.mem_of_mem_take hz,hk⟩
     ·cases h
    ·cases h
   ·cases h
  ·cases h
 ·rename_i k0
  have hk0:Names σ k0:=hnm k0 (by simp[SV.keys,SV.acs,AC.keys])
  split at h
  ·rw[zah] at h
   split at h
   ·split at h
    ·cases h
     intro k hk
     rw[zau.1 hk]
     exact hk0
    ·cases h
   ·cases h
  ·cases h
 ·cases h
theorem qago(h:Sim E pm F kv fp σ a w){rs:List Key}{want:List (Option U.Ty)}{m:Mode}{x:SV U}{v:Value}{ps:List Prop}{d:DV U}{ks:List Key}
  (ha:lentOf (restrict σ.ent rs) σ.dirty want m x=some (ps,d,ks)) (hp:∀p∈ps,p) (hx:RS E w F kv fp (badK σ) x v) (hnm:∀k∈x.keys,Names σ k)
  {okey:Nat} {dm:List (DV U)} {us:List (Key×Ent U)} {es:List (Nat×Ent U)} (hbk:backOf (restrict σ.ent rs) okey want.length m x dm=some (us,es)):
  ∃l,RArg E w F m d v l∧ks.Nodup∧(∀k∈ks,(σ.ent k).isSome=true)∧l.Nodup∧(∀b∈l,∃k∈ks,b∈fp k)∧
   (us.map (·.1)).Nodup∧(∀u∈us,u.1∈ks)∧
    ∀(w':World)(F':Nat→Prop)(mls:List (List Nat)),RMuts E w' F' w [m] [v] dm mls→(∀b,F b→F' b∧w'.heap[b]? =w.heap[b]?)→(∀k∈ks,∀c∈fp k,c∉l→w'.heap[c]? =w.heap[c]?)→mls.flatten.Nodup→
     (∀b∈mls.flatten,b∈l∨∀k∈ks,b∉fp k)→Back E σ w F kv fp okey ks l us es w' F' mls.flatten:=by
 have hlive:∀{k:Key}{b:Nat},(σ.ent k).isSome=true→b∈fp k→b<w.heap.size:=by
  intro k b hk hb
  obtain⟨e,he⟩:=zag.1 hk
  exact(h.mine k e b he hb).2.2
 unfold lentOf at ha
 split at ha
 ·
  rename_i k p
  split at ha
  ·rename_i y he
   have he':=qald he
   cases hcl:clearP (restrict σ.ent rs) σ.dirty k p<;>simp only[hcl,cond_false,cond_true] at ha
   ·cases ha
   ·split at ha
    ·rename_i ps' b hw
     cases ha
     have hrd:=qaak hx
     have hnav:=RA_of hrd (qaco hcl he)
     have h0:ROwn E w F true y (kv k) (fp k):=h.ents k _ he'
     have hl0:(σ.ent k).isSome=true:=by rw[he'];rfl
     unfold backOf at hbk
     split at hbk
     ·rename_i k' p' τ ys heq
      cases heq
      simp only[he] at hbk
      split at hbk
      ·rename_i a' hch
       cases hbk
       obtain⟨vb,lb',pre,post,b',f1,f2,f3,f4,f5⟩:=h0.focus (h.nodup k _ he') hw hp hch
       have hvb:v=vb:=hnav.unique f2
       subst hvb
       have hn:=h.nodup k _ he'
       rw[f4,zav,zav] at hn
       refine⟨lb',f3,by simp,by simpa using hl0,hn.1.2.1,fun c hc=>⟨k,by simp,by rw[f4];simp[hc]⟩,by simp,by simp,fun w' F' mls hmm hFF hkeep hmn hmo=> ?_⟩
       cases mls with
       |nil=>exact hmm.elim
       |cons l' mls=>
        obtain⟨hm1,hm2⟩:=hmm
        cases mls with
        |cons _ _=>exact hm2.elim
        |nil=>
         obtain⟨⟨n1,n2,n3⟩,n4,n5⟩:=hn
         have hout:∀c∈pre++post,c∈fp k∧c∉lb':=by
          intro c hc
          rcases zao.1 hc with hc|hc
          ·exact⟨by rw[f4];simp[hc],fun hc'=>n3 c hc c hc' rfl⟩
          ·exact⟨by rw[f4];simp[hc],fun hc'=>n5 c (zas _ hc') c hc rfl⟩
         have hml:∀c∈pre++post,c∉l':=by
          intro c hc hc'
          rcases hmo c (by simpa using hc') with g|g
          ·exact(hout c hc).2 g
          ·exact g k (by simp) (hout c hc).1
         refine⟨[(k,.arr a' true,pre++l'++post)],[],rfl,rfl,fun s hs kv' fp' bad' _ _=> ?_,by simp,?_,fun c hc=> ?_⟩
         ·rw[zau.1 hs]
          split at f1
          ·rename_i zs hz
           have:=castArr_some hz
           cases this
           cases f1
           exact f5 w' F' l' rfl hm1 (fun c hc=>hkeep k (by simp) c (hout c hc).1 (hout c hc).2)
          ·cases f1
         ·simp only[zbm,zen,zch,Dat.bl]
          have hmn':l'.Nodup:=by simpa using hmn
          rw[zav,zav]
          refine⟨⟨n1,hmn',fun c hc e he e'=>hml c (zar _ hc) (e'▸he)⟩,n4,fun c hc e he e'=> ?_⟩
          rcases zao.1 hc with hc|hc
          ·exact n5 c (zar _ hc) e he e'
          ·exact hml e (zas _ he) (e'▸hc)
         ·simp only[zbm,zen,zch,Dat.bl,zao] at hc
          rcases hc with(hc|hc)|hc
          ·exact .inr ⟨(hout c (zar _ hc)).2,k,by simp,(hout c (zar _ hc)).1⟩
          ·exact .inl (by simpa using hc)
          ·exact .inr ⟨(hout c (zas _ hc)).2,k,by simp,(hout c (zas _ hc)).1⟩
      ·cases hbk
     all_goals first|(rename_i heq;cases heq;done)|(rename_i heq _;cases heq;done)|cases hbk
    ·cases ha
  ·cases ha
 ·
  rename_i cs
  split at ha
  ·rename_i ds ks0 hw
   rw[zah] at ha
   split at ha
   ·rename_i hdis
    cases ha
    have hkn:=qade.1 hdis
    obtain⟨vs,hvs,hv⟩:=hx
    simp only[if_true] at hv
    obtain⟨g1,g2,fl,f1,f2,f3⟩:=qanx h hw hvs
    unfold backOf at hbk
    split at hbk
    ·rename_i heq;cases heq
    ·rename_i cs' ds' heq
     cases heq
     split at hbk
     ·rename_i us' hu
      cases hbk
      have hk0:us.map (·.1)=ks:=by
       have:∀{xs:List (AC U)}{cs cs':List U.C}{ks:List Key}{us:List (Key×Ent U)},wrCells (restrict σ.ent rs) xs=some (cs,ks)→wrUpd xs cs'=some us→us.map (·.1)=ks:=by
        intro xs
        induction xs with
        |nil=>
         intro cs cs' ks us h1 h2
         simp only[wrCells,zae,zax] at h1
         cases cs' with
         |cons _ _=>simp[wrUpd] at h2
         |nil=>simp only[wrUpd,zae] at h2;subst h2;rw[←h1.2];rfl
        |cons x xs ih=>
         intro cs cs' ks us h1 h2
         unfold wrCells at h1
         split at h1
         ·rename_i heq;cases heq
         ·rename_i u r heq
          cases heq
          split at h1
          ·rename_i cs0 ks0 hr
           cases h1
           cases cs' with
           |nil=>simp[wrUpd] at h2
           |cons c cs'=>cases c with
            |sl _ _=>simp[wrUpd] at h2
            |lit _=>simp only[wrUpd] at h2;exact ih hr h2
          ·cases h1
         ·rename_i k r heq
          cases heq
          split at h1
          ·rename_i y cs0 ks0 he hr
           cases h1
           cases cs' with
           |nil=>simp[wrUpd] at h2
           |cons c cs'=>cases c with
            |lit _=>simp[wrUpd] at h2
            |sl τ ys=>
             simp only[wrUpd] at h2
             split at h2
             ·rename_i us' hu'
              cases h2
              simp[ih hr hu']
             ·cases h2
          ·cases h1
         ·cases h1
       exact this hw hu
      refine⟨fl.flatten,⟨vs,fl,hv,by rw[g1];exact hvs.1.symm,f1,f2,rfl⟩,hkn,g2,by rw[f3];exact qaen h hkn g2,fun c hc=>by rw[f3] at hc;exact zat.1 hc,by rw[hk0];exact hkn,fun u hu'=>by rw[←hk0];exact zaz.2 ⟨u,hu',rfl⟩,fun w' F' mls hmm hFF hkeep hmn hmo=> ?_⟩
      cases mls with
      |nil=>exact hmm.elim
      |cons l' mls=>
       obtain⟨hm1,hm2⟩:=hmm
       cases mls with
       |cons _ _=>exact hm2.elim
       |nil=>
        obtain⟨vs',fl',e1,e2,e3,e4,e5⟩:=hm1
        rw[hv] at e1
        have:vs'=vs:=by simpa using e1.symm
        subst this
        obtain⟨i1,tl,i2,i3,i4⟩:=qany (w':=w') (F':=F') h hw hvs hu e3 e4
        have hmn':l'.Nodup:=by simpa using hmn
        refine⟨tl,[],i2,rfl,fun s hs kv' fp' bad' _ _=>i3 s hs kv' fp' bad',by simp,?_,fun c hc=> ?_⟩
        ·rw[i4,←e5];simpa[Dat.bl] using hmn'
        ·rw[i4,←e5] at hc
         exact .inl (by simpa[Dat.bl] using hc)
     ·cases hbk
    all_goals first|(rename_i heq;cases heq;done)|(rename_i heq _;cases heq;done)|cases hbk
   ·cases ha
  ·cases ha
 ·
  rename_i y
  split at ha
  ·rename_i ps' cs ks' ht
   split at ha
   ·rename_i d' hd
    rw[zah] at ha
    split at ha
    ·rename_i hdis
     cases ha
     have hkn:=qade.1 hdis
     obtain⟨vs,hvs,hv⟩:=hx
     obtain⟨g1,g2,g3,_⟩:=qang h ht hp hvs hkn
     obtain⟨fl,f1,f2,f3,f4⟩:=g3 rfl
     have hra:RArg E w F .mv d v fl.flatten:=by
      unfold dvOf at hd
      cases hag:y.agg<;>rw[hag] at hd hv<;>simp only[cond_true,cond_false,zbg,if_false,if_true] at hd hv
      ·split at hd
       ·cases hd
        subst hv
        simp only[zbq,zbo] at f1
        obtain⟨l,rfl⟩:=List.length_eq_one_iff.1 f1
        simpa[RArg] using f2 0 _ rfl
       ·cases hd
      ·cases hd
       exact⟨vs,fl,hv,by rw[g1];exact hvs.1.symm,f1,f2,rfl⟩
     have hdm:dm=[]∧us=[]∧es=[]:=by
      cases dm with
      |nil=>simp only[backOf,zae,zax] at hbk;exact⟨rfl,hbk.1.symm,hbk.2.symm⟩
      |cons _ _=>simp[backOf] at hbk
     obtain⟨rfl,rfl,rfl⟩:=hdm
     refine⟨fl.flatten,hra,hkn,g2,f3,f4,by simp,by simp,fun w' F' mls hmm hFF hkeep hmn hmo=> ?_⟩
     have:mls=[]:=by cases mls with|nil=>rfl|cons _ _=>exact hmm.elim
     subst this
     exact⟨[],[],rfl,rfl,by simp,by simp,by simp[Dat.bl],by simp[Dat.bl]⟩
    ·cases ha
   ·cases ha
  ·cases ha
 ·
  rename_i k
  split at ha
  ·rename_i cs he
   have he':=qald he
   have hl0:(σ.ent k).isSome=true:=by rw[he'];rfl
   rw[zah] at ha
   split at ha
   ·rename_i hc0
    simp only[zaf,zeq] at hc0
    obtain⟨hn0,hst⟩:=hc0
    split at ha
    ·rename_i ps' l0 ks' ht
     rw[zah] at ha
     split at ha
     ·rename_i hdis
      cases ha
      have hkn:=qade.1 hdis
      obtain⟨b,h1,h2⟩:=RA_of (qaak hx) rfl
      obtain⟨b',cur,e,h3,h4,h5,h6⟩:=h.ents k _ he'
      rw[h1] at h3;cases h3
      subst h2
      have hlen:cs.length=cur.size:=by have:=h6.1;simpa using this
      obtain⟨g1,g2,g3,_⟩:=qang h ht hp (h6.take want.length) (zbe.1 hkn).2
      obtain⟨fl,f1,f2,f3,f4⟩:=g3 rfl
      have hl0len:l0.length=want.length:=by rw[g1,zaw];omega
      have hrest:∀u∈cur.toList.drop l0.length,LitOk u:=(h6.drop l0.length).litOk
      have hget:∀(i:Nat)(c:U.C),l0[i]? =some c→cur.toList.getD i undef=(cur.toList.take want.length).getD i undef:=by
       intro i c hc
       have hi:i<want.length:=by
        rw[←hl0len]
        rcases zba i l0.length with g|g
        ·exact g
        ·rw[zaj g] at hc;cases hc
       simp only[zac,zan,if_pos hi]
      have hbfl:b∉fl.flatten:=by
       intro hb
       obtain⟨k',hk',hb'⟩:=f4 b hb
       obtain⟨e2,he2⟩:=zag.1 (g2 k' hk')
       exact h.apart k k' _ e2 b (fun e=>(zbe.1 hkn).1 (by rw[e];exact hk')) he' he2 (by rw[h5];simp) hb'
      have hdm:∃ds,dm=[.box ds]∧ds.length=want.length∧us=[(k,.box ((putCells okey true 512 ds).1++cs.drop want.length))]∧es=(putCells okey true 512 ds).2:=by
       cases dm with
       |nil=>simp[backOf] at hbk
       |cons d0 dm=>
        cases dm with
        |cons _ _=>simp[backOf] at hbk
        |nil=>
         cases d0 with
         |one _=>simp[backOf] at hbk
         |agg _=>simp[backOf] at hbk
         |ptr _=>simp[backOf] at hbk
         |fn _=>simp[backOf] at hbk
         |box ds=>
          simp only[backOf,he] at hbk
          rw[zah] at hbk
          split at hbk
          ·rename_i hln
           cases hbk
           exact⟨ds,rfl,zai hln,rfl,rfl⟩
          ·cases hbk
      obtain⟨ds,rfl,hds,rfl,rfl⟩:=hdm
      refine⟨b::fl.flatten,⟨b,cur,e,fl,rfl,h4,by omega,by rw[qaky h4],by rw[qaky h4];exact hrest,f1,fun i c hc=>by rw[hget i c hc];exact f2 i c hc,rfl⟩,hkn,fun k' hk'=>by
       rcases zak.1 hk' with rfl|hk'
       ·exact hl0
       ·exact g2 k' hk',zbe.2 ⟨hbfl,f3⟩,fun c hc=>by
       rcases zak.1 hc with rfl|hc
       ·exact⟨k,by simp,by rw[h5];simp⟩
       ·obtain⟨k',hk',hc⟩:=f4 c hc;exact⟨k',zaa _ hk',hc⟩,by simp,by simp,fun w' F' mls hmm hFF hkeep hmn hmo=> ?_⟩
      cases mls with
      |nil=>exact hmm.elim
      |cons l' mls=>
       obtain⟨hm1,hm2⟩:=hmm
       cases mls with
       |cons _ _=>exact hm2.elim
       |nil=>
        obtain⟨b2,cur',e',fl',k1,k2,k3,k4,k5,k6,k7,rfl⟩:=hm1
        cases k1
        rw[qaky h4,hds] at k4
        have hmn':(b::fl'.flatten).Nodup:=by simpa using hmn
        have hcl:cur'.toList.take ds.length++cur'.toList.drop ds.length=cur'.toList:=zcq _ _
        obtain⟨t,t1,t2,t3,t4⟩:=qakj (E:=E) (w:=w') (F:=F') (dst:=okey) (base:=512) (cs:=ds) (vs:=cur'.toList.take ds.length) (fl:=fl') (by simp;omega) k6 (fun i c hc=>by
         have hi:i<ds.length:=by
          rcases zba i ds.length with g|g
          ·exact g
          ·rw[zaj g] at hc;cases hc
         have:=k7 i c hc
         rw[zac,zan,if_pos hi,←zac]
         exact this)
        refine⟨[(k,.box ((putCells okey true 512 ds).1++cs.drop want.length),[b])],t,rfl,t1,fun s hs kv' fp' bad' hkv' ht'=> ?_,t2,?_,fun c hc=> ?_⟩
        ·rw[zau.1 hs]
         refine⟨b,cur',e',h1,k2,rfl,?_⟩
         rw[←hcl]
         refine(t4 kv' fp' bad' ht').append ?_
         rw[hds,k4]
         exact qamt hst (h6.drop want.length) (fun y hy k' hk'=>hkv' k' (.inr ⟨k,cs,he',y,List.mem_of_mem_drop hy,hk'⟩)) hFF
        ·simp only[zbm,zen,zch]
         rw[t3]
         exact hmn'
        ·simp only[zbm,zen,zch] at hc
         rw[t3] at hc
         exact .inl (by simpa using hc)
     ·cases ha
    ·cases ha
   ·cases ha
  ·cases ha
 ·
  rename_i k
  split at ha
  ·rename_i cs he
   have he':=qald he
   have hl0:(σ.ent k).isSome=true:=by rw[he'];rfl
   rw[zah] at ha
   split at ha
   ·rename_i hc0
    simp only[zaf,zeq] at hc0
    obtain⟨hn0,hst⟩:=hc0
    split at ha
    ·rename_i l0 hpl
     cases ha
     have hcs:=qaka hpl
     obtain⟨b,h1,h2⟩:=RA_of (qaak hx) rfl
     obtain⟨b',cur,e,h3,h4,h5,h6⟩:=h.ents k _ he'
     rw[h1] at h3;cases h3
     subst h2
     have hlen:cs.length=cur.size:=by have:=h6.1;simpa using this
     have hl0len:l0.length=want.length:=by
      have:=congrArg List.length hcs
      rw[zaw,zco] at this
      omega
     have hrest:∀u∈cur.toList.drop l0.length,LitOk u:=(h6.drop l0.length).litOk
     have hdm:∃ds,dm=[.box ds]∧ds.length=want.length∧us=[(k,.box (ds.map .c++cs.drop want.length))]∧es=[]:=by
      cases dm with
      |nil=>simp[backOf] at hbk
      |cons d0 dm=>
       cases dm with
       |cons _ _=>simp[backOf] at hbk
       |nil=>
        cases d0 with
        |one _=>simp[backOf] at hbk
        |agg _=>simp[backOf] at hbk
        |ptr _=>simp[backOf] at hbk
        |fn _=>simp[backOf] at hbk
        |box ds=>
         simp only[backOf,he] at hbk
         rw[zah] at hbk
         split at hbk
         ·rename_i hln
          cases hbk
          exact⟨ds,rfl,zai hln,rfl,rfl⟩
         ·cases hbk
     obtain⟨ds,rfl,hds,rfl,rfl⟩:=hdm
     refine⟨[b],⟨b,cur,e,List.replicate l0.length [],rfl,h4,by omega,by rw[qaky h4],by rw[qaky h4];exact hrest,by simp,fun i c hc=> ?_,by rw[qaer]⟩,by simp,by simpa using hl0,by simp,by simp[h5],by simp,by simp,fun w' F' mls hmm hFF hkeep hmn hmo=> ?_⟩
     ·have hi:i<want.length:=by
       rw[←hl0len]
       rcases zba i l0.length with g|g
       ·exact g
       ·rw[zaj g] at hc;cases hc
      have hci:cs[i]? =some (.c c):=by
       have:(cs.take want.length)[i]? =some (.c c):=by rw[hcs,zal,hc];rfl
       rwa[zan,if_pos hi] at this
      have h7:=RA_of (h6.2 i (.c c) (cur.toList.getD i undef) hci (getD_of_lt (by simp;omega))) rfl
      rw[qafs]
      exact h7
     ·cases mls with
      |nil=>exact hmm.elim
      |cons l' mls=>
       obtain⟨hm1,hm2⟩:=hmm
       cases mls with
       |cons _ _=>exact hm2.elim
       |nil=>
        obtain⟨b2,cur',e',fl',k1,k2,k3,k4,k5,k6,k7,rfl⟩:=hm1
        cases k1
        rw[qaky h4,hds] at k4
        have hmn':(b::fl'.flatten).Nodup:=by simpa using hmn
        have hcl:cur'.toList.take ds.length++cur'.toList.drop ds.length=cur'.toList:=zcq _ _
        refine⟨[(k,.box (ds.map .c++cs.drop want.length),[b])],[],rfl,rfl,fun s hs kv' fp' bad' hkv' ht'=> ?_,by simp,by simp[Dat.bl],fun c hc=> ?_⟩
        ·rw[zau.1 hs]
         refine⟨b,cur',e',h1,k2,rfl,?_⟩
         rw[←hcl]
         refine RDs.append ?_ ?_
         ·refine qaae (by simp;omega) (fun i c hc=> ?_)
          have hi:i<ds.length:=by
           rcases zba i ds.length with g|g
           ·exact g
           ·rw[zaj g] at hc;cases hc
          have:=k7 i c hc
          rw[zac,zan,if_pos hi,←zac]
          exact this.share (fun _ hb=>hb) (fun b' hb'=>this.noFp hb')
         ·rw[hds,k4]
          exact qamt hst (h6.drop want.length) (fun y hy k' hk'=>hkv' k' (.inr ⟨k,cs,he',y,List.mem_of_mem_drop hy,hk'⟩)) hFF
        ·simp only[zbm,zen,zch,Dat.bl,zau] at hc
         subst hc
         exact .inl (by simp)
    ·cases ha
   ·cases ha
  ·cases ha
 ·cases ha
theorem RBoxD.widen{own:Bool}{cs:List U.C}{rest:List Value}{v:Value}{l:List Nat}(h:RBoxD E w F own cs rest v l)(hF:∀b,F b→F' b):RBoxD E w F' own cs rest v l:=by
 obtain⟨b,cur,e,fl,h1,h2,h3,h4,h5,h6,h7,h8⟩:=h
 exact⟨b,cur,e,fl,h1,h2,h3,h4,h5,h6,fun i c hc=>(h7 i c hc).keep (fun b hb=>⟨hF b hb,rfl⟩) (fun _ _=>rfl),h8⟩
theorem RArg.widen{m:Mode}{d:DV U}{v:Value}{l:List Nat}(hm:m≠ .ro)(h:RArg E w F m d v l)(hF:∀b,F b→F' b):RArg E w F' m d v l:=by
 cases m with
 |ro=>exact absurd rfl hm
 |wr=>
  cases d with
  |one c=>
   cases c with
   |lit _=>exact h
   |sl τ xs=>exact ROwn.any h
  |agg _=>exact RAggO.any h
  |box _=>exact h
  |ptr _=>exact h
  |fn _=>exact h
 |mv=>
  cases d with
  |one c=>exact Rp.keepT h (fun _ _=>rfl)
  |agg _=>exact RAggO.any h
  |box _=>exact h
  |ptr _=>exact h
  |fn _=>exact h
 |box own=>
  cases d with
  |box cs=>exact RBoxD.widen h hF
  |one _=>exact h
  |agg _=>exact h
  |ptr _=>exact h
  |fn _=>exact h
theorem qamj(h:Sim E pm F kv fp σ a w){ks ks':List Key}(hn:(ks++ks').Nodup)(hl:∀k∈ks,(σ.ent k).isSome=true)(hl':∀k∈ks',(σ.ent k).isSome=true){b:Nat}(hb:∃k∈ks,b∈fp k):∀k∈ks',b∉fp k:=by
 intro k' hk' hb'
 obtain⟨k,hk,hb⟩:=hb
 obtain⟨e,he⟩:=zag.1 (hl k hk)
 obtain⟨e2,he2⟩:=zag.1 (hl' k' hk')
 exact h.apart k k' e e2 b (fun e3=>(zav.1 hn).2.2 k hk k' hk' e3) he he2 hb hb'
theorem qabk(hC:∀g k,E.con g=some k→FnOk E.P g∧SoundCon E g k)(h:Sim E pm F kv fp σ a w){rs:List Key}{K:List Key}:∀{ms:List Mode}{ws:List (List (Option U.Ty))}{xs:List (SV U)}{vs:List Value}{ps:List Prop}{ds:List (DV U)}{ks:List Key},
  argsOf E (restrict σ.ent rs) σ.dirty ms ws xs=some (ps,ds)→(∀p∈ps,p)→xs.length=vs.length→(∀(i:Nat)(x:SV U)(v:Value),xs[i]? =some x→vs[i]? =some v→RS E w F kv fp (badK σ) x v)→mvKeys (restrict σ.ent rs) σ.dirty ms ws xs=some ks→
  (∀x∈xs,∀k∈x.keys,Names σ k)→(∀k∈ownedKeys ms xs,(σ.ent k).isSome=true→k∈K)→∃ls,RArgs E w (FK F fp K) ms ds vs ls∧ks.Nodup∧(∀k∈ks,(σ.ent k).isSome=true∧Names σ k)∧ls.flatten.Nodup∧(∀b∈ls.flatten,∃k∈ks,b∈fp k)∧
   (∀w' F' w0 dm mls,RMuts E w' F' w0 ms vs dm mls→mls=[]∧dm=[]):=by
 intro ms
 induction ms with
 |nil=>
  intro ws xs vs ps ds ks ha hp hl hx hr hnm hK
  cases xs with
  |cons x xs=>simp[argsOf] at ha
  |nil=>
   cases vs with
   |cons v vs=>simp at hl
   |nil=>
    simp only[argsOf,zae,zax] at ha
    obtain⟨rfl,rfl⟩:=ha
    simp only[mvKeys,zae] at hr
    subst hr
    refine⟨[],trivial,by simp,by simp,by simp,by simp,fun w' F' w0 dm mls hm=> ?_⟩
    cases dm<;>cases mls<;>first|exact⟨rfl,rfl⟩|exact hm.elim
 |cons m ms ih=>
  intro ws xs vs ps ds ks ha hp hl hx hr hnm hK
  cases xs with
  |nil=>cases m<;>simp[argsOf] at ha
  |cons x xs=>
   cases vs with
   |nil=>simp at hl
   |cons v vs=>
    simp only[argsOf] at ha
    split at ha
    rotate_left
    ·cases ha
    rename_i ps1 d1 ps2 ds2 h1 h2
    cases ha
    have hx':∀(i:Nat)(y:SV U)(u:Value),xs[i]? =some y→vs[i]? =some u→RS E w F kv fp (badK σ) y u:=fun i y u hy hu=>hx (i+1) y u (by simpa using hy) (by simpa using hu)
    cases m with
    |wr=>simp[mvKeys] at hr
    |box _=>simp[mvKeys] at hr
    |ro=>
     simp only[mvKeys] at hr
     obtain⟨ls,i1,i2,i3,i4,i5,i6⟩:=ih h2 (fun p hp'=>hp p (by simp[hp'])) (by simpa using hl) hx' hr (fun y hy=>hnm y (zaa _ hy)) (fun k hk=>hK k (by simp[ownedKeys,hk]))
     refine⟨[]::ls,⟨qabf hC h h1 (fun p hp'=>hp p (by simp[hp'])) (hx 0 x v rfl rfl) (fun k hk=>hK k (by simp[ownedKeys,hk])),i1⟩,i2,i3,by simpa using i4,by simpa using i5,fun w' F' w0 dm mls hm=>i6 w' F' w0 dm mls ?_⟩
     simpa[RMuts] using hm
    |mv=>
     simp only[mvKeys] at hr
     split at hr
     rotate_left
     ·cases hr
     rename_i p0 d0 ks1 ks2 g1 g2
     rw[zah] at hr
     split at hr
     rotate_left
     ·cases hr
     rename_i hdis
     cases hr
     have hkn:=qade.1 hdis
     have:argOf E (restrict σ.ent rs) σ.dirty (ws.headD []) .mv x=some (p0,d0):=by simp only[argOf,g1]
     rw[this] at h1
     cases h1
     obtain⟨ls,i1,i2,i3,i4,i5,i6⟩:=ih h2 (fun p hp'=>hp p (by simp[hp'])) (by simpa using hl) hx' g2 (fun y hy=>hnm y (zaa _ hy)) (fun k hk=>hK k (by simpa[ownedKeys] using hk))
     obtain⟨l,r1,r2,r3,r4,r5,_⟩:=qago h g1 (fun p hp'=>hp p (by simp[hp'])) (hx 0 x v rfl rfl) (hnm x zab) (okey:=0) (dm:=[]) (us:=[]) (es:=[]) (by simp[backOf])
     refine⟨l::ls,⟨r1.widen (by simp) (fun b hb=> .inl hb),i1⟩,hkn,fun k hk=> ?_,?_,fun b hb=> ?_,fun w' F' w0 dm mls hm=>i6 w' F' w0 dm mls (by simpa[RMuts] using hm)⟩
     ·rcases zao.1 hk with hk|hk
      ·exact⟨r3 k hk,qagn g1 (hnm x zab) k hk⟩
      ·exact i3 k hk
     ·rw[zbz,zav]
      refine⟨r4,i4,fun b hb c hc e=> ?_⟩
      subst e
      obtain⟨k,hk,hc'⟩:=i5 b hc
      exact qamj h hkn r3 (fun k hk=>(i3 k hk).1) (r5 b hb) k hk hc'
     ·rw[zbz] at hb
      rcases zao.1 hb with hb|hb
      ·obtain⟨k,hk,hb⟩:=r5 b hb;exact⟨k,zar _ hk,hb⟩
      ·obtain⟨k,hk,hb⟩:=i5 b hb;exact⟨k,zas _ hk,hb⟩
theorem qalc(h:Sim E pm F kv fp σ a w){rs:List Key}{n:Nat}:∀{ms:List Mode}{ws:List (List (Option U.Ty))}{xs:List (SV U)}{vs:List Value}{ps:List Prop}{ds:List (DV U)},
  argsOf E (restrict σ.ent rs) σ.dirty ms ws xs=some (ps,ds)→xs.length=vs.length→(∀(i:Nat)(x:SV U)(v:Value),xs[i]? =some x→vs[i]? =some v→RS E w F kv fp (badK σ) x v)→restOk (restrict σ.ent rs) n ms ws xs=true→RestLen w n ms ds vs:=by
 intro ms
 induction ms with
 |nil=>intro ws xs vs ps ds _ _ _ _;trivial
 |cons m ms ih=>
  intro ws xs vs ps ds ha hl hx hr
  cases xs with
  |nil=>cases m<;>simp[argsOf] at ha
  |cons x xs=>
   cases vs with
   |nil=>simp at hl
   |cons v vs=>
    simp only[argsOf] at ha
    split at ha
    rotate_left
    ·cases ha
    rename_i ps1 d1 ps2 ds2 h1 h2
    cases ha
    simp only[restOk,zaf] at hr
    refine⟨fun own cs hm hd=> ?_,ih h2 (by simpa using hl) (fun i y u hy hu=>hx (i+1) y u (by simpa using hy) (by simpa using hu)) hr.2⟩
    subst hm
    subst hd
    have hr1:=hr.1
    split at hr1
    ·rename_i o1 k off hbo
     split at hr1
     rotate_left
     ·cases hr1
     rename_i bs he
     have he':=qald he
     have hlen:=zai hr1
     simp only[argOf] at h1
     split at h1
     rotate_left
     ·cases h1
     rename_i ps0 d0 ks0 hlent
     cases h1
     have hcl:cs.length=(ws.headD []).length∧off=0:=by
      cases own with
      |true=>
       cases off with
       |succ n'=>simp[lentOf] at hlent
       |zero=>
        simp only[lentOf,he] at hlent
        rw[zah] at hlent
        split at hlent
        rotate_left
        ·cases hlent
        split at hlent
        rotate_left
        ·cases hlent
        rename_i q1 q2 q3 ht
        rw[zah] at hlent
        split at hlent
        rotate_left
        ·cases hlent
        cases hlent
        have:=qanf ht
        rw[zaw] at this
        exact⟨by omega,rfl⟩
      |false=>
       cases off with
       |succ n'=>simp[lentOf] at hlent
       |zero=>
        simp only[lentOf,he] at hlent
        rw[zah] at hlent
        split at hlent
        rotate_left
        ·cases hlent
        split at hlent
        rotate_left
        ·cases hlent
        rename_i l0 hpl
        cases hlent
        have:=congrArg List.length (qaka hpl)
        rw[zaw,zco] at this
        exact⟨by omega,rfl⟩
     obtain⟨hcl,rfl⟩:=hcl
     have hxv:=hx 0 _ v rfl rfl
     obtain⟨b,g1,g2⟩:=RA_of (qaak hxv) rfl
     obtain⟨b',cur,e,g3,g4,g5,g6⟩:=h.ents k _ he'
     rw[g1] at g3;cases g3
     rw[g2,qaky g4,zcs,←g6.1]
     omega
    ·cases hr1
    ·rename_i hno _
     exact absurd rfl (hno own)
theorem qabl(hC:∀g k,E.con g=some k→FnOk E.P g∧SoundCon E g k)(h:Sim E pm F kv fp σ a w){rs:List Key}{K:List Key}{okey:Nat}:∀{ms:List Mode}{ws:List (List (Option U.Ty))}{xs:List (SV U)}{vs:List Value}{ps:List Prop}{ds dm:List (DV U)}{us:List (Key×Ent U)}{es:List (Nat×Ent U)}{lk:List Key},
  argsOf E (restrict σ.ent rs) σ.dirty ms ws xs=some (ps,ds)→(∀p∈ps,p)→xs.length=vs.length→(∀(i:Nat)(x:SV U)(v:Value),xs[i]? =some x→vs[i]? =some v→RS E w F kv fp (badK σ) x v)→
  (∀x∈xs,∀k∈x.keys,Names σ k)→(∀k∈ownedKeys ms xs,(σ.ent k).isSome=true→k∈K)→mutsOf (restrict σ.ent rs) σ.dirty okey ms ws xs dm=some (us,es,lk)→
  ∃ls,RArgs E w (FK F fp K) ms ds vs ls∧lk.Nodup∧(∀k∈lk,(σ.ent k).isSome=true∧Names σ k)∧ls.flatten.Nodup∧(∀b∈ls.flatten,∃k∈lk,b∈fp k)∧(us.map (·.1)).Nodup∧(∀u∈us,u.1∈lk)∧
   ∀(w':World)(F':Nat→Prop)(mls:List (List Nat)),RMuts E w' F' w ms vs dm mls→(∀b,F b→F' b∧w'.heap[b]? =w.heap[b]?)→(∀c,c<w.heap.size→c∉ls.flatten→w'.heap[c]? =w.heap[c]?)→mls.flatten.Nodup→
    (∀b∈mls.flatten,b∈ls.flatten∨w.heap.size≤b)→Back E σ w F kv fp okey lk ls.flatten us es w' F' mls.flatten:=by
 intro ms
 induction ms with
 |nil=>
  intro ws xs vs ps ds dm us es lk ha hp hl hx hnm hK hu
  cases xs with
  |cons x xs=>simp[argsOf] at ha
  |nil=>
   cases dm with
   |cons d dm=>simp[mutsOf] at hu
   |nil=>
    obtain⟨ls,h1,_,_,_,h2,h3⟩:=qabk hC h ha hp hl hx (show mvKeys (restrict σ.ent rs) σ.dirty [] ws []=some [] from rfl) hnm hK
    have h2:ls.flatten=[]:=zdm.2 fun b hb=>by obtain⟨k,hk,_⟩:=h2 b hb;cases hk
    simp only[mutsOf,zae,zax] at hu
    obtain⟨rfl,rfl,rfl⟩:=hu
    refine⟨ls,h1,by simp,by simp,by simp[h2],by simp[h2],by simp,by simp,fun w' F' mls hm _ _ _ _=> ?_⟩
    obtain⟨rfl,_⟩:=h3 w' F' _ _ mls hm
    exact⟨[],[],rfl,rfl,by simp,by simp,by simp[Dat.bl],by simp[Dat.bl]⟩
 |cons m ms ih=>
  intro ws xs vs ps ds dm us es lk ha hp hl hx hnm hK hu
  cases xs with
  |nil=>cases m<;>simp[argsOf] at ha
  |cons x xs=>
   cases vs with
   |nil=>simp at hl
   |cons v vs=>
    simp only[argsOf] at ha
    split at ha
    ·rename_i ps1 d1 ps2 ds2 h1 h2
     cases ha
     have hx':∀(i:Nat)(y:SV U)(u:Value),xs[i]? =some y→vs[i]? =some u→RS E w F kv fp (badK σ) y u:=fun i y u hy hu=>hx (i+1) y u (by simpa using hy) (by simpa using hu)
     by_cases hm:m=.ro
     ·subst hm
      simp only[mutsOf] at hu
      obtain⟨ls,i1,i2,i3,i4,i5,i6,i7,i8⟩:=ih h2 (fun p hp'=>hp p (by simp[hp'])) (by simpa using hl) hx' (fun y hy=>hnm y (zaa _ hy)) (fun k hk=>hK k (by simp[ownedKeys,hk])) hu
      refine⟨[]::ls,⟨qabf hC h h1 (fun p hp'=>hp p (by simp[hp'])) (hx 0 x v rfl rfl) (fun k hk=>hK k (by simp[ownedKeys,hk])),i1⟩,i2,i3,by simpa using i4,by simpa using i5,i6,i7,fun w' F' mls hmm hFF hkeep hmn hmo=> ?_⟩
      have:=i8 w' F' mls (by simpa[RMuts] using hmm) hFF (by simpa using hkeep) hmn (by simpa using hmo)
      simpa using this
     ·have hu':∃ps0 d0 ks ks',lentOf (restrict σ.ent rs) σ.dirty (ws.headD []) m x=some (ps0,d0,ks)∧backOf (restrict σ.ent rs) okey (ws.headD []).length m x dm=some (us,es)∧mvKeys (restrict σ.ent rs) σ.dirty ms ws.tail xs=some ks'∧(ks++ks').Nodup∧lk=ks++ks'∧ps1=ps0∧d1=d0:=by
       have hu2:(match lentOf (restrict σ.ent rs) σ.dirty (ws.headD []) m x,backOf (restrict σ.ent rs) okey (ws.headD []).length m x dm with
        |some (_,_,ks),some (us,es)=>match mvKeys (restrict σ.ent rs) σ.dirty ms ws.tail xs with
         |some ks'=>bif distinct (ks++ks') then some (us,es,ks++ks') else none
         |none=>none
        |_,_=>none)=some (us,es,lk):=by
        cases m with
        |ro=>exact absurd rfl hm
        |wr=>exact hu
        |mv=>exact hu
        |box _=>exact hu
       split at hu2
       ·rename_i p0 d0 ks us0 es0 g1 g2
        split at hu2
        ·rename_i ks' g3
         rw[zah] at hu2
         split at hu2
         ·rename_i hdis
          cases hu2
          have:argOf E (restrict σ.ent rs) σ.dirty (ws.headD []) m x=some (p0,d0):=by
           cases m with
           |ro=>exact absurd rfl hm
           |wr=>simp only[argOf,g1]
           |mv=>simp only[argOf,g1]
           |box _=>simp only[argOf,g1]
          rw[this] at h1
          cases h1
          exact⟨_,_,ks,ks',g1,g2,g3,qade.1 hdis,rfl,rfl,rfl⟩
         ·cases hu2
        ·cases hu2
       ·cases hu2
      obtain⟨ps0,d0,ks,ks',g1,g2,hro,hkn,rfl,rfl,rfl⟩:=hu'
      obtain⟨l,r1,r2,r3,r4,r5,r6,r7,r8⟩:=qago h g1 (fun p hp'=>hp p (by simp[hp'])) (hx 0 x v rfl rfl) (hnm x zab) g2
      obtain⟨ls,i1,j1,j2,j3,j4,i3⟩:=qabk (K:=K) hC h h2 (fun p hp'=>hp p (by simp[hp'])) (by simpa using hl) hx' hro (fun y hy=>hnm y (zaa _ hy)) (fun k hk=>hK k (by cases m<;>first|exact absurd rfl hm|simpa[ownedKeys] using hk))
      have hap:∀{b:Nat},(∃k∈ks,b∈fp k)→b∉ls.flatten:=fun hb hc=>by
       obtain⟨k,hk,hc'⟩:=j4 _ hc
       exact qamj h hkn r3 (fun k hk=>(j2 k hk).1) hb k hk hc'
      refine⟨l::ls,⟨r1.widen hm (fun b hb=> .inl hb),i1⟩,hkn,fun k hk=> ?_,?_,fun b hb=> ?_,r6,fun u hu=>zar _ (r7 u hu),fun w' F' mls hmm hFF hkeep hmn hmo=> ?_⟩
      ·rcases zao.1 hk with hk|hk
       ·exact⟨r3 k hk,qagn g1 (hnm x zab) k hk⟩
       ·exact j2 k hk
      ·rw[zbz,zav]
       exact⟨r4,j3,fun b hb c hc e=>hap (r5 b hb) (e▸hc)⟩
      ·rw[zbz] at hb
       rcases zao.1 hb with hb|hb
       ·obtain⟨k,hk,hb⟩:=r5 b hb;exact⟨k,zar _ hk,hb⟩
       ·obtain⟨k,hk,hb⟩:=j4 b hb;exact⟨k,zas _ hk,hb⟩
      have hsplit:RMuts E w' F' w [m] [v] dm mls:=by
       cases m with
       |ro=>exact absurd rfl hm
       |mv=>
        simp only[RMuts] at hmm
        obtain⟨rfl,rfl⟩:=i3 w' F' w dm mls hmm
        trivial
       |wr=>
        cases dm with
        |nil=>cases mls<;>exact hmm.elim
        |cons d dm=>
         cases mls with
         |nil=>cases d<;>first|exact hmm.elim|(rename_i c;cases c<;>exact hmm.elim)
         |cons l' mls=>
          cases d with
          |one c=>
           cases c with
           |lit _=>exact hmm.elim
           |sl τ ys=>obtain⟨rfl,rfl⟩:=i3 w' F' w dm mls hmm.2;exact⟨hmm.1,trivial⟩
          |agg _=>obtain⟨rfl,rfl⟩:=i3 w' F' w dm mls hmm.2;exact⟨hmm.1,trivial⟩
          |box _=>exact hmm.elim
          |ptr _=>exact hmm.elim
          |fn _=>exact hmm.elim
       |box own=>
        cases dm with
        |nil=>cases mls<;>exact hmm.elim
        |cons d dm=>
         cases mls with
         |nil=>cases d<;>exact hmm.elim
         |cons l' mls=>
          cases d with
          |box cs=>obtain⟨rfl,rfl⟩:=i3 w' F' w dm mls hmm.2;exact⟨hmm.1,trivial⟩
          |one _=>exact hmm.elim
          |agg _=>exact hmm.elim
          |ptr _=>exact hmm.elim
          |fn _=>exact hmm.elim
      have hfin:∀{k:Key},k∈ks→∀{c:Nat},c∈fp k→c<w.heap.size:=fun hk c hc=>by
       obtain⟨e,he⟩:=zag.1 (r3 _ hk)
       exact(h.mine _ e c he hc).2.2
      obtain⟨tl,t,b1,b2,b3,b4,b5,b6⟩:=r8 w' F' mls hsplit hFF (fun k hk c hc hcl=>hkeep c (hfin hk hc) (by
        rw[zbz,zao]
        exact fun hor=>hor.elim hcl (hap ⟨k,hk,hc⟩))) hmn (fun b hb=>by
        rcases hmo b hb with g|g
        ·rw[zbz,zao] at g
         rcases g with g|g
         ·exact .inl g
         ·exact .inr fun k hk hbk=>hap ⟨k,hk,hbk⟩ g
        ·exact .inr fun k hk hbk=>by have:=hfin hk hbk;omega)
      refine⟨tl,t,b1,b2,b3,b4,b5,fun b hb=> ?_⟩
      rcases b6 b hb with g|⟨g,k,hk,hbk⟩
      ·exact .inl g
      ·refine .inr ⟨?_,k,zar _ hk,hbk⟩
       rw[zbz,zao]
       exact fun hor=>hor.elim g (hap ⟨k,hk,hbk⟩)
    ·cases ha
end AM
