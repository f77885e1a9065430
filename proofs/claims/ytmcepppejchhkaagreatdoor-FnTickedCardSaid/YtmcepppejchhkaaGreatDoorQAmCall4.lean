import Derived.Test.YtmcepppejchhkaaGreatDoorQAmCall2
namespace AM
set_option linter.unusedVariables false
open Go
variable{U:lQ}{E:Env U}{pm:Pm}
variable{F F':Nat->Prop}{kv:Key->Value}{fp:Key->List Nat}{σ:ak U}{a:Act}{w w':World}{bad:Key->Bool}
theorem ak4{kv':Key->Value}{fp':Key->List Nat}{bad':Key->Bool}{y:AC U}{v:Value}(hs:y.still=true)(h:RD E w F kv fp bad y v)(hk:∀k∈y.keys,kv' k=kv k)
  (hF:∀b,F b->F' b/\w'.heap[b]? =w.heap[b]?):RD E w' F' kv' fp' bad' y v:=by
 have hb:iT bad y=false:=by
  unfold AC.still at hs
  split at hs<;>first|rfl|cases hs
 refine⟨h.1,.inr ?_⟩
 have h0:=cx h hb
 unfold AC.still at hs
 split at hs
 ·exact Rp.gv h0 hF (by simp)
 ·exact h0
 ·rename_i k
  simp only[RA] at h0⊢
  rw[hk k (by simp[AC.keys])];exact h0
 ·rename_i k off
  simp only[RA] at h0⊢
  rw[hk k (by simp[AC.keys])];exact h0
 ·cases hs
theorem ac2{kv':Key->Value}{fp':Key->List Nat}{bad':Key->Bool}{xs:List (AC U)}{vs:List Value}(hs:xs.all AC.still=true)(h:mw E w F kv fp bad xs vs)(hk:∀y∈xs,∀k∈y.keys,kv' k=kv k)
  (hF:∀b,F b->F' b/\w'.heap[b]? =w.heap[b]?):mw E w' F' kv' fp' bad' xs vs:=
 ⟨h.1,fun i y v hy hv=>ak4 (sP.1 hs y (GK hy)) (h.2 i y v hy hv) (hk y (GK hy)) hF⟩
theorem aax(h:cR E pm F kv fp σ a w):∀{ks:List Key},ks.Nodup->(∀k∈ks,(σ.bP k).isSome=true)->(ks.flatMap fp).Nodup
 |[],_,_=>by simp
 |k::ks,hn,hl=>by
  rw[zZ,rV]
  obtain⟨e,he⟩:=nA.1 (hl k iH)
  rw[ur] at hn
  refine⟨h.nodup k e he,aax h hn.2 (fun k' cY=>hl k' (fF _ cY)),fun b hb c hc e'=> ?_⟩
  subst e'
  obtain⟨k',cY,bj⟩:=o8.1 hc
  obtain⟨e2,uB⟩:=nA.1 (hl k' (fF _ cY))
  exact h.apart k k' e e2 b (fun e=>hn.1 (e▸cY)) he uB hb bj
theorem Z'(h:cR E pm F kv fp σ a w){rs:List Key}:∀{xs:List (AC U)}{vs:List Value}{cs wu:List U.C}{ks:List Key}{us:List (Key×iX U)}{fl:List (List Nat)},jJ (restrict σ.bP rs) xs=some (cs,ks)->mw E w F kv fp (bY σ) xs vs->
  mM xs wu=some us->fl.length=wu.length->(∀(i:Nat)(c:U.C),wu[i]? =some c->Rp E w' F' true c (vs.getD i undef) (fl.getD i []))->
  us.map (·.1)=ks/\∃tl:List (Key×iX U×List Nat),tl.map (fun t=>(t.1,t.2.1))=us/\(∀s∈tl,∀kv' fp' bad',ug E w' F' kv' fp' bad' s.2.1 (kv s.1) s.2.2)/\tl.flatMap (·.2.2)=fl.flatten
 |[],vs,cs,wu,ks,us,fl,hw,hx,hu,hl,hr=>by
  simp only[jJ,gI,pE] at hw
  obtain⟨rfl,rfl⟩:=hw
  cases wu with
  |cons _ _=>simp[mM] at hu
  |nil=>
   simp only[mM,gI] at hu
   subst hu
   have:fl=[]:=Gl hl
   subst this
   exact⟨rfl,[],rfl,by simp,rfl⟩
 |x::xs,vs,cs,wu,ks,us,fl,hw,hx,hu,hl,hr=>by
  obtain⟨v,wJ,rfl,h1,h2⟩:=hx.cons_inv
  cases wu with
  |nil=>unfold mM at hu;split at hu<;>first|(rename_i e1 e2;cases e1;done)|(rename_i e1 e2;cases e2;done)|cases hu
  |cons c wu=>
   cases fl with
   |nil=>simp at hl
   |cons l fl=>
    have V3:Rp E w' F' true c v l:=by simpa using hr 0 c rfl
    have Gy:∀(i:Nat)(c:U.C),wu[i]? =some c->Rp E w' F' true c (wJ.getD i undef) (fl.getD i []):=fun i c hc=>by simpa using hr (i+1) c (by simpa using hc)
    have Ot:fl.length=wu.length:=by simpa using hl
    unfold jJ at hw
    split at hw
    ·rename_i qc;cases qc
    ·rename_i u r qc
     cases qc
     split at hw
     ·rename_i cs0 ks0 G9
      cases hw
      cases c with
      |sl τ ys=>simp[mM] at hu
      |lit u'=>
       simp only[mM] at hu
       obtain⟨i1,tl,i2,i3,i4⟩:=Z' h G9 h2 hu Ot Gy
       obtain⟨rfl,_,_⟩:=V3.kt
       exact⟨i1,tl,i2,i3,by simpa using i4⟩
     ·cases hw
    ·rename_i k r qc
     cases qc
     split at hw
     ·rename_i y cs0 ks0 he G9
      cases hw
      cases c with
      |lit _=>simp[mM] at hu
      |sl τ ys=>
       simp only[mM] at hu
       split at hu
       ·rename_i QL tr
        cases hu
        obtain⟨i1,tl,i2,i3,i4⟩:=Z' h G9 h2 tr Ot Gy
        have hv:v=kv k:=cx h1 rfl
        refine⟨by simp[i1],(k,.arr ⟨τ,ys⟩ true,l)::tl,by simp[i2],fun s hs kv' fp' bad'=> ?_,by simp[i4]⟩
        rcases kc.1 hs with rfl|hs
        ·rw[<-hv];exact V3.Io
        ·exact i3 s hs kv' fp' bad'
       ·cases hu
     ·cases hw
    ·cases hw
theorem Rp.VJ{c:U.C}{v:Value}{l:List Nat}(h:Rp E w F false c v l){b:Nat}(hb:b∈l):F' b:=by
 generalize hm:false=m at h
 cases h with
 |lit=>cases hb
 |nil=>cases hb
 |shr=>cases hb
 |own=>cases hm
def NT(E:Env U)(σ:ak U)(w:World)(F:Nat->Prop)(kv:Key->Value)(fp:Key->List Nat)(nV:Nat)(ks:List Key)(l:List Nat)(us:List (Key×iX U))(es:List (Nat×iX U))(w':World)(F':Nat->Prop)(ml:List Nat):Prop:=
 ∃(tl:List (Key×iX U×List Nat))(t:fw U),tl.map (fun t=>(t.1,t.2.1))=us/\es=t.es/\
  (∀s∈tl,∀kv' fp' bad',(∀k,Names σ k->kv' k=kv k)->(∀s∈t,kv' (nV,s.1)=s.2.2.1)->ug E w' F' kv' fp' bad' s.2.1 (kv s.1) s.2.2)/\
  (∀s∈t,∀kv' fp' bad',ug E w' F' kv' fp' bad' s.2.1 s.2.2.1 s.2.2.2)/\
  (tl.flatMap (·.2.2)++t.bl).Nodup/\∀b∈tl.flatMap (·.2.2)++t.bl,b∈ml\/(b∉l/\∃k∈ks,b∈fp k)
theorem akZ{tb:rF U}{want:Option U.Ty}{x:AC U}{ps:List Prop}{c:U.C}{ks:List Key}{d:Bool}(h:uU tb want x=some (ps,c,ks,d)):∀k∈ks,k∈x.keys:=by
 unfold uU at h
 split at h
 ·cases h;simp
 ·cases h;simp
 ·split at h<;>cases h;simp
 ·split at h<;>cases h<;>simp[AC.keys]
 ·split at h<;>cases h<;>simp[AC.keys]
 ·cases h
theorem ac0{tb:rF U}:∀{xs:List (AC U)}{want:List (Option U.Ty)}{ps:List Prop}{cs:List U.C}{ks:List Key}{d:Bool},fm tb want xs=some (ps,cs,ks,d)->cs.length=xs.length
 |[],want,ps,cs,ks,d,h=>by
  simp only[fm,gI,pE] at h
  obtain⟨_,rfl,_⟩:=h
  rfl
 |x::xs,want,ps,cs,ks,d,h=>by
  simp only[fm] at h
  split at h
  ·rename_i h1 h2
   cases h
   simp[ac0 h2]
  ·cases h
theorem mw.EY{xs:List (AC U)}{vs:List Value}(h:mw E w F kv fp bad xs vs):∀v∈vs,gD v:=by
 intro v hv
 obtain⟨n,hn,rfl⟩:=sT hv
 exact(h.2 n (xs[n]'(by rw[h.1];exact hn)) _ (fE _) (fE hn)).1
theorem aad{tb:rF U}:∀{xs:List (AC U)}{want:List (Option U.Ty)}{ps:List Prop}{cs:List U.C}{ks:List Key}{d:Bool},fm tb want xs=some (ps,cs,ks,d)->∀k∈ks,∃x∈xs,k∈x.keys
 |[],want,ps,cs,ks,d,h,k,hk=>by
  simp only[fm,gI,pE] at h
  obtain⟨_,_,rfl,_⟩:=h
  cases hk
 |x::xs,want,ps,cs,ks,d,h,k,hk=>by
  simp only[fm] at h
  split at h
  ·rename_i h1 h2
   cases h
   rcases jI.1 hk with hk|hk
   ·exact⟨x,iH,akZ h1 k hk⟩
   ·obtain⟨y,hy,hk⟩:=aad h2 k hk
    exact⟨y,fF _ hy,hk⟩
  ·cases h
theorem aaa{tb:rF U}:∀{xs:List (AC U)}{cs:List U.C}{ks:List Key},jJ tb xs=some (cs,ks)->∀k∈ks,∃x∈xs,k∈x.keys
 |[],cs,ks,h,k,hk=>by
  simp only[jJ,gI,pE] at h
  obtain⟨_,rfl⟩:=h
  cases hk
 |x::xs,cs,ks,h,k,hk=>by
  unfold jJ at h
  split at h
  ·rename_i qc;cases qc
  ·rename_i qc;cases qc
   split at h
   ·rename_i h1
    cases h
    obtain⟨y,hy,hk⟩:=aaa h1 k hk
    exact⟨y,fF _ hy,hk⟩
   ·cases h
  ·rename_i qc;cases qc
   split at h
   ·rename_i h0 h1
    cases h
    rcases kc.1 hk with rfl|hk
    ·exact⟨_,iH,by simp[AC.keys]⟩
    ·obtain⟨y,hy,hk⟩:=aaa h1 k hk
     exact⟨y,fF _ hy,hk⟩
   ·cases h
  ·cases h
theorem ami{rs:List Key}{want:List (Option U.Ty)}{m:Mode}{x:SV U}{ps:List Prop}{d:DV U}{ks:List Key}(h:mG (restrict σ.bP rs) σ.aS want m x=some (ps,d,ks))(vS:∀k∈x.keys,Names σ k):∀k∈ks,Names σ k:=by
 unfold mG at h
 split at h
 ·split at h
  ·rw[iw] at h
   split at h
   ·split at h
    ·cases h
     intro k hk
     exact vS k (by simpa[SV.keys,SV.Cu,AC.keys] using hk)
    ·cases h
   ·cases h
  ·cases h
 ·rename_i cs
  split at h
  ·rename_i hw
   rw[iw] at h
   split at h
   ·cases h
    intro k hk
    obtain⟨y,hy,hk⟩:=aaa hw k hk
    exact vS k (SV.mem_keys.2 ⟨y,hy,hk⟩)
   ·cases h
  ·cases h
 ·rename_i y
  split at h
  ·rename_i hw
   split at h
   ·rw[iw] at h
    split at h
    ·cases h
     intro k hk
     obtain⟨z,hz,hk⟩:=aad hw k hk
     exact vS k (SV.mem_keys.2 ⟨z,hz,hk⟩)
    ·cases h
   ·cases h
  ·cases h
 ·rename_i k0
  have Ci:Names σ k0:=vS k0 (by simp[SV.keys,SV.Cu,AC.keys])
  split at h
  ·rename_i cs he
   rw[iw] at h
   split at h
   ·split at h
    ·rename_i hw
     rw[iw] at h
     split at h
     ·cases h
      intro k hk
      rcases kc.1 hk with rfl|hk
      ·exact Ci
      ·obtain⟨z,hz,hk⟩:=aad hw k hk
       exact .inr ⟨k0,cs,kf he,z,List.mem_of_mem_take hz,hk⟩
     ·cases h
    ·cases h
   ·cases h
  ·cases h
 ·rename_i k0
  have Ci:Names σ k0:=vS k0 (by simp[SV.keys,SV.Cu,AC.keys])
  split at h
  ·rw[iw] at h
   split at h
   ·split at h
    ·cases h
     intro k hk
     rw[mW.1 hk]
     exact Ci
    ·cases h
   ·cases h
  ·cases h
 ·cases h
theorem amh(h:cR E pm F kv fp σ a w){rs:List Key}{want:List (Option U.Ty)}{m:Mode}{x:SV U}{v:Value}{ps:List Prop}{d:DV U}{ks:List Key}
  (ha:mG (restrict σ.bP rs) σ.aS want m x=some (ps,d,ks)) (hp:∀p∈ps,p) (hx:RS E w F kv fp (bY σ) x v) (vS:∀k∈x.keys,Names σ k)
  {nV:Nat} {dm:List (DV U)} {us:List (Key×iX U)} {es:List (Nat×iX U)} (iW:iC (restrict σ.bP rs) nV want.length m x dm=some (us,es)):
  ∃l,o6 E w F m d v l/\ks.Nodup/\(∀k∈ks,(σ.bP k).isSome=true)/\l.Nodup/\(∀b∈l,∃k∈ks,b∈fp k)/\
   (us.map (·.1)).Nodup/\(∀u∈us,u.1∈ks)/\
    ∀(w':World)(F':Nat->Prop)(jh:List (List Nat)),fq E w' F' w [m] [v] dm jh->(∀b,F b->F' b/\w'.heap[b]? =w.heap[b]?)->(∀k∈ks,∀c∈fp k,c∉l->w'.heap[c]? =w.heap[c]?)->jh.flatten.Nodup->
     (∀b∈jh.flatten,b∈l\/∀k∈ks,b∉fp k)->NT E σ w F kv fp nV ks l us es w' F' jh.flatten:=by
 have jA:∀{k:Key}{b:Nat},(σ.bP k).isSome=true->b∈fp k->b<w.heap.size:=by
  intro k b hk hb
  obtain⟨e,he⟩:=nA.1 hk
  exact(h.fT k e b he hb).2.2
 unfold mG at ha
 split at ha
 ·
  rename_i k p
  split at ha
  ·rename_i y he
   have fi:=kf he
   cases ix:fU (restrict σ.bP rs) σ.aS k p<;>simp only[ix,cond_false,cond_true] at ha
   ·cases ha
   ·split at ha
    ·rename_i K6 b hw
     cases ha
     have Cf:=H7 hx
     have oE:=cx Cf (H5 ix he)
     have h0:fe E w F true y (kv k) (fp k):=h.dD k _ fi
     have hl0:(σ.bP k).isSome=true:=by rw[fi];rfl
     unfold iC at iW
     split at iW
     ·rename_i k' p' τ ys qc
      cases qc
      simp only[he] at iW
      split at iW
      ·rename_i a' XM
       cases iW
       obtain⟨vb,QN,pre,post,b',f1,f2,f3,f4,f5⟩:=h0.focus (h.nodup k _ fi) hw hp XM
       have hvb:v=vb:=oE.unique f2
       subst hvb
       have hn:=h.nodup k _ fi
       rw[f4,rV,rV] at hn
       refine⟨QN,f3,by simp,by simpa using hl0,hn.1.2.1,fun c hc=>⟨k,by simp,by rw[f4];simp[hc]⟩,by simp,by simp,fun w' F' jh Lv BC jg MD P4=> ?_⟩
       cases jh with
       |nil=>exact Lv.elim
       |cons l' jh=>
        obtain⟨P5,Kl⟩:=Lv
        cases jh with
        |cons _ _=>exact Kl.elim
        |nil=>
         obtain⟨⟨n1,n2,n3⟩,n4,n5⟩:=hn
         have xp:∀c∈pre++post,c∈fp k/\c∉QN:=by
          intro c hc
          rcases jI.1 hc with hc|hc
          ·exact⟨by rw[f4];simp[hc],fun nC=>n3 c hc c nC rfl⟩
          ·exact⟨by rw[f4];simp[hc],fun nC=>n5 c (qM _ nC) c hc rfl⟩
         have XA:∀c∈pre++post,c∉l':=by
          intro c hc nC
          rcases P4 c (by simpa using nC) with g|g
          ·exact(xp c hc).2 g
          ·exact g k (by simp) (xp c hc).1
         refine⟨[(k,.arr a' true,pre++l'++post)],[],rfl,rfl,fun s hs kv' fp' bad' _ _=> ?_,by simp,?_,fun c hc=> ?_⟩
         ·rw[mW.1 hs]
          split at f1
          ·rename_i zs hz
           have:=eh hz
           cases this
           cases f1
           exact f5 w' F' l' rfl P5 (fun c hc=>jg k (by simp) c (xp c hc).1 (xp c hc).2)
          ·cases f1
         ·simp only[zZ,zen,uJ,fw.bl]
          have Is:l'.Nodup:=by simpa using MD
          rw[rV,rV]
          refine⟨⟨n1,Is,fun c hc e he e'=>XA c (rW _ hc) (e'▸he)⟩,n4,fun c hc e he e'=> ?_⟩
          rcases jI.1 hc with hc|hc
          ·exact n5 c (rW _ hc) e he e'
          ·exact XA e (qM _ he) (e'▸hc)
         ·simp only[zZ,zen,uJ,fw.bl,jI] at hc
          rcases hc with(hc|hc)|hc
          ·exact .inr ⟨(xp c (rW _ hc)).2,k,by simp,(xp c (rW _ hc)).1⟩
          ·exact .inl (by simpa using hc)
          ·exact .inr ⟨(xp c (qM _ hc)).2,k,by simp,(xp c (qM _ hc)).1⟩
      ·cases iW
     all_goals first|(rename_i qc;cases qc;done)|(rename_i qc _;cases qc;done)|cases iW
    ·cases ha
  ·cases ha
 ·
  rename_i cs
  split at ha
  ·rename_i ds ks0 hw
   rw[iw] at ha
   split at ha
   ·rename_i tz
    cases ha
    have uL:=va.1 tz
    obtain⟨vs,Gf,hv⟩:=hx
    simp only[if_true] at hv
    obtain⟨g1,g2,fl,f1,f2,f3⟩:=Z_ h hw Gf
    unfold iC at iW
    split at iW
    ·rename_i qc;cases qc
    ·rename_i wu ds' qc
     cases qc
     split at iW
     ·rename_i QL hu
      cases iW
      have Ci:us.map (·.1)=ks:=by
       have:∀{xs:List (AC U)}{cs wu:List U.C}{ks:List Key}{us:List (Key×iX U)},jJ (restrict σ.bP rs) xs=some (cs,ks)->mM xs wu=some us->us.map (·.1)=ks:=by
        intro xs
        induction xs with
        |nil=>
         intro cs wu ks us h1 h2
         simp only[jJ,gI,pE] at h1
         cases wu with
         |cons _ _=>simp[mM] at h2
         |nil=>simp only[mM,gI] at h2;subst h2;rw[<-h1.2];rfl
        |cons x xs ih=>
         intro cs wu ks us h1 h2
         unfold jJ at h1
         split at h1
         ·rename_i qc;cases qc
         ·rename_i u r qc
          cases qc
          split at h1
          ·rename_i cs0 ks0 hr
           cases h1
           cases wu with
           |nil=>simp[mM] at h2
           |cons c wu=>cases c with
            |sl _ _=>simp[mM] at h2
            |lit _=>simp only[mM] at h2;exact ih hr h2
          ·cases h1
         ·rename_i k r qc
          cases qc
          split at h1
          ·rename_i y cs0 ks0 he hr
           cases h1
           cases wu with
           |nil=>simp[mM] at h2
           |cons c wu=>cases c with
            |lit _=>simp[mM] at h2
            |sl τ ys=>
             simp only[mM] at h2
             split at h2
             ·rename_i QL tr
              cases h2
              simp[ih hr tr]
             ·cases h2
          ·cases h1
         ·cases h1
       exact this hw hu
      refine⟨fl.flatten,⟨vs,fl,hv,by rw[g1];exact Gf.1.symm,f1,f2,rfl⟩,uL,g2,by rw[f3];exact aax h uL g2,fun c hc=>by rw[f3] at hc;exact o8.1 hc,by rw[Ci];exact uL,fun u tr=>by rw[<-Ci];exact mz.2 ⟨u,tr,rfl⟩,fun w' F' jh Lv BC jg MD P4=> ?_⟩
      cases jh with
      |nil=>exact Lv.elim
      |cons l' jh=>
       obtain⟨P5,Kl⟩:=Lv
       cases jh with
       |cons _ _=>exact Kl.elim
       |nil=>
        obtain⟨wJ,fl',e1,e2,e3,e4,e5⟩:=P5
        rw[hv] at e1
        have:wJ=vs:=by simpa using e1.symm
        subst this
        obtain⟨i1,tl,i2,i3,i4⟩:=Z' (w':=w') (F':=F') h hw Gf hu e3 e4
        have Is:l'.Nodup:=by simpa using MD
        refine⟨tl,[],i2,rfl,fun s hs kv' fp' bad' _ _=>i3 s hs kv' fp' bad',by simp,?_,fun c hc=> ?_⟩
        ·rw[i4,<-e5];simpa[fw.bl] using Is
        ·rw[i4,<-e5] at hc
         exact .inl (by simpa[fw.bl] using hc)
     ·cases iW
    all_goals first|(rename_i qc;cases qc;done)|(rename_i qc _;cases qc;done)|cases iW
   ·cases ha
  ·cases ha
 ·
  rename_i y
  split at ha
  ·rename_i K6 cs ks' ht
   split at ha
   ·rename_i d' hd
    rw[iw] at ha
    split at ha
    ·rename_i tz
     cases ha
     have uL:=va.1 tz
     obtain⟨vs,Gf,hv⟩:=hx
     obtain⟨g1,g2,g3,_⟩:=M2 h ht hp Gf uL
     obtain⟨fl,f1,f2,f3,f4⟩:=g3 rfl
     have oi:o6 E w F .mv d v fl.flatten:=by
      unfold NE at hd
      cases UG:y.agg<;>rw[UG] at hd hv<;>simp only[cond_true,cond_false,xS,if_false,if_true] at hd hv
      ·split at hd
       ·cases hd
        subst hv
        simp only[fP,fz] at f1
        obtain⟨l,rfl⟩:=List.length_eq_one_iff.1 f1
        simpa[o6] using f2 0 _ rfl
       ·cases hd
      ·cases hd
       exact⟨vs,fl,hv,by rw[g1];exact Gf.1.symm,f1,f2,rfl⟩
     have hdm:dm=[]/\us=[]/\es=[]:=by
      cases dm with
      |nil=>simp only[iC,gI,pE] at iW;exact⟨rfl,iW.1.symm,iW.2.symm⟩
      |cons _ _=>simp[iC] at iW
     obtain⟨rfl,rfl,rfl⟩:=hdm
     refine⟨fl.flatten,oi,uL,g2,f3,f4,by simp,by simp,fun w' F' jh Lv BC jg MD P4=> ?_⟩
     have:jh=[]:=by cases jh with|nil=>rfl|cons _ _=>exact Lv.elim
     subst this
     exact⟨[],[],rfl,rfl,by simp,by simp,by simp[fw.bl],by simp[fw.bl]⟩
    ·cases ha
   ·cases ha
  ·cases ha
 ·
  rename_i k
  split at ha
  ·rename_i cs he
   have fi:=kf he
   have hl0:(σ.bP k).isSome=true:=by rw[fi];rfl
   rw[iw] at ha
   split at ha
   ·rename_i hc0
    simp only[cN,QT] at hc0
    obtain⟨Xz,rh⟩:=hc0
    split at ha
    ·rename_i K6 l0 ks' ht
     rw[iw] at ha
     split at ha
     ·rename_i tz
      cases ha
      have uL:=va.1 tz
      obtain⟨b,h1,h2⟩:=cx (H7 hx) rfl
      obtain⟨b',cur,e,h3,h4,h5,h6⟩:=h.dD k _ fi
      rw[h1] at h3;cases h3
      subst h2
      have hlen:cs.length=cur.size:=by have:=h6.1;simpa using this
      obtain⟨g1,g2,g3,_⟩:=M2 h ht hp (h6.take want.length) (ur.1 uL).2
      obtain⟨fl,f1,f2,f3,f4⟩:=g3 rfl
      have Nt:l0.length=want.length:=by rw[g1,oq];omega
      have j0:∀u∈cur.toList.drop l0.length,gD u:=(h6.drop l0.length).EY
      have tv:∀(i:Nat)(c:U.C),l0[i]? =some c->cur.toList.getD i undef=(cur.toList.take want.length).getD i undef:=by
       intro i c hc
       have hi:i<want.length:=by
        rw[<-Nt]
        rcases pt i l0.length with g|g
        ·exact g
        ·rw[ot g] at hc;cases hc
       simp only[eV,qy,if_pos hi]
      have abF:b∉fl.flatten:=by
       intro hb
       obtain⟨k',cY,bj⟩:=f4 b hb
       obtain⟨e2,uB⟩:=nA.1 (g2 k' cY)
       exact h.apart k k' _ e2 b (fun e=>(ur.1 uL).1 (by rw[e];exact cY)) fi uB (by rw[h5];simp) bj
      have hdm:∃ds,dm=[.box ds]/\ds.length=want.length/\us=[(k,.box ((putCells nV true 512 ds).1++cs.drop want.length))]/\es=(putCells nV true 512 ds).2:=by
       cases dm with
       |nil=>simp[iC] at iW
       |cons d0 dm=>
        cases dm with
        |cons _ _=>simp[iC] at iW
        |nil=>
         cases d0 with
         |one _=>simp[iC] at iW
         |agg _=>simp[iC] at iW
         |ptr _=>simp[iC] at iW
         |fn _=>simp[iC] at iW
         |box ds=>
          simp only[iC,he] at iW
          rw[iw] at iW
          split at iW
          ·rename_i Lw
           cases iW
           exact⟨ds,rfl,nF Lw,rfl,rfl⟩
          ·cases iW
      obtain⟨ds,rfl,IA,rfl,rfl⟩:=hdm
      refine⟨b::fl.flatten,⟨b,cur,e,fl,rfl,h4,by omega,by rw[M3 h4],by rw[M3 h4];exact j0,f1,fun i c hc=>by rw[tv i c hc];exact f2 i c hc,rfl⟩,uL,fun k' cY=>by
       rcases kc.1 cY with rfl|cY
       ·exact hl0
       ·exact g2 k' cY,ur.2 ⟨abF,f3⟩,fun c hc=>by
       rcases kc.1 hc with rfl|hc
       ·exact⟨k,by simp,by rw[h5];simp⟩
       ·obtain⟨k',cY,hc⟩:=f4 c hc;exact⟨k',fF _ cY,hc⟩,by simp,by simp,fun w' F' jh Lv BC jg MD P4=> ?_⟩
      cases jh with
      |nil=>exact Lv.elim
      |cons l' jh=>
       obtain⟨P5,Kl⟩:=Lv
       cases jh with
       |cons _ _=>exact Kl.elim
       |nil=>
        obtain⟨b2,cur',e',fl',k1,k2,k3,k4,k5,k6,k7,rfl⟩:=P5
        cases k1
        rw[M3 h4,IA] at k4
        have Is:(b::fl'.flatten).Nodup:=by simpa using MD
        have ix:cur'.toList.take ds.length++cur'.toList.drop ds.length=cur'.toList:=Uv _ _
        obtain⟨t,t1,t2,t3,t4⟩:=KX (E:=E) (w:=w') (F:=F') (dst:=nV) (base:=512) (cs:=ds) (vs:=cur'.toList.take ds.length) (fl:=fl') (by simp;omega) k6 (fun i c hc=>by
         have hi:i<ds.length:=by
          rcases pt i ds.length with g|g
          ·exact g
          ·rw[ot g] at hc;cases hc
         have:=k7 i c hc
         rw[eV,qy,if_pos hi,<-eV]
         exact this)
        refine⟨[(k,.box ((putCells nV true 512 ds).1++cs.drop want.length),[b])],t,rfl,t1,fun s hs kv' fp' bad' abq Uy=> ?_,t2,?_,fun c hc=> ?_⟩
        ·rw[mW.1 hs]
         refine⟨b,cur',e',h1,k2,rfl,?_⟩
         rw[<-ix]
         refine(t4 kv' fp' bad' Uy).append ?_
         rw[IA,k4]
         exact ac2 rh (h6.drop want.length) (fun y hy k' cY=>abq k' (.inr ⟨k,cs,fi,y,List.mem_of_mem_drop hy,cY⟩)) BC
        ·simp only[zZ,zen,uJ]
         rw[t3]
         exact Is
        ·simp only[zZ,zen,uJ] at hc
         rw[t3] at hc
         exact .inl (by simpa using hc)
     ·cases ha
    ·cases ha
   ·cases ha
  ·cases ha
 ·
  rename_i k
  split at ha
  ·rename_i cs he
   have fi:=kf he
   have hl0:(σ.bP k).isSome=true:=by rw[fi];rfl
   rw[iw] at ha
   split at ha
   ·rename_i hc0
    simp only[cN,QT] at hc0
    obtain⟨Xz,rh⟩:=hc0
    split at ha
    ·rename_i l0 By
     cases ha
     have vU:=Pt By
     obtain⟨b,h1,h2⟩:=cx (H7 hx) rfl
     obtain⟨b',cur,e,h3,h4,h5,h6⟩:=h.dD k _ fi
     rw[h1] at h3;cases h3
     subst h2
     have hlen:cs.length=cur.size:=by have:=h6.1;simpa using this
     have Nt:l0.length=want.length:=by
      have:=congrArg List.length vU
      rw[oq,wP] at this
      omega
     have j0:∀u∈cur.toList.drop l0.length,gD u:=(h6.drop l0.length).EY
     have hdm:∃ds,dm=[.box ds]/\ds.length=want.length/\us=[(k,.box (ds.map .c++cs.drop want.length))]/\es=[]:=by
      cases dm with
      |nil=>simp[iC] at iW
      |cons d0 dm=>
       cases dm with
       |cons _ _=>simp[iC] at iW
       |nil=>
        cases d0 with
        |one _=>simp[iC] at iW
        |agg _=>simp[iC] at iW
        |ptr _=>simp[iC] at iW
        |fn _=>simp[iC] at iW
        |box ds=>
         simp only[iC,he] at iW
         rw[iw] at iW
         split at iW
         ·rename_i Lw
          cases iW
          exact⟨ds,rfl,nF Lw,rfl,rfl⟩
         ·cases iW
     obtain⟨ds,rfl,IA,rfl,rfl⟩:=hdm
     refine⟨[b],⟨b,cur,e,List.replicate l0.length [],rfl,h4,by omega,by rw[M3 h4],by rw[M3 h4];exact j0,by simp,fun i c hc=> ?_,by rw[An]⟩,by simp,by simpa using hl0,by simp,by simp[h5],by simp,by simp,fun w' F' jh Lv BC jg MD P4=> ?_⟩
     ·have hi:i<want.length:=by
       rw[<-Nt]
       rcases pt i l0.length with g|g
       ·exact g
       ·rw[ot g] at hc;cases hc
      have hci:cs[i]? =some (.c c):=by
       have:(cs.take want.length)[i]? =some (.c c):=by rw[vU,nS,hc];rfl
       rwa[qy,if_pos hi] at this
      have h7:=cx (h6.2 i (.c c) (cur.toList.getD i undef) hci (fM (by simp;omega))) rfl
      rw[H3]
      exact h7
     ·cases jh with
      |nil=>exact Lv.elim
      |cons l' jh=>
       obtain⟨P5,Kl⟩:=Lv
       cases jh with
       |cons _ _=>exact Kl.elim
       |nil=>
        obtain⟨b2,cur',e',fl',k1,k2,k3,k4,k5,k6,k7,rfl⟩:=P5
        cases k1
        rw[M3 h4,IA] at k4
        have Is:(b::fl'.flatten).Nodup:=by simpa using MD
        have ix:cur'.toList.take ds.length++cur'.toList.drop ds.length=cur'.toList:=Uv _ _
        refine⟨[(k,.box (ds.map .c++cs.drop want.length),[b])],[],rfl,rfl,fun s hs kv' fp' bad' abq Uy=> ?_,by simp,by simp[fw.bl],fun c hc=> ?_⟩
        ·rw[mW.1 hs]
         refine⟨b,cur',e',h1,k2,rfl,?_⟩
         rw[<-ix]
         refine mw.append ?_ ?_
         ·refine M7 (by simp;omega) (fun i c hc=> ?_)
          have hi:i<ds.length:=by
           rcases pt i ds.length with g|g
           ·exact g
           ·rw[ot g] at hc;cases hc
          have:=k7 i c hc
          rw[eV,qy,if_pos hi,<-eV]
          exact this.lT (fun _ hb=>hb) (fun b' bj=>this.VJ bj)
         ·rw[IA,k4]
          exact ac2 rh (h6.drop want.length) (fun y hy k' cY=>abq k' (.inr ⟨k,cs,fi,y,List.mem_of_mem_drop hy,cY⟩)) BC
        ·simp only[zZ,zen,uJ,fw.bl,mW] at hc
         subst hc
         exact .inl (by simp)
    ·cases ha
   ·cases ha
  ·cases ha
 ·cases ha
theorem sM.fW{own:Bool}{cs:List U.C}{rest:List Value}{v:Value}{l:List Nat}(h:sM E w F own cs rest v l)(hF:∀b,F b->F' b):sM E w F' own cs rest v l:=by
 obtain⟨b,cur,e,fl,h1,h2,h3,h4,h5,h6,h7,h8⟩:=h
 exact⟨b,cur,e,fl,h1,h2,h3,h4,h5,h6,fun i c hc=>(h7 i c hc).gv (fun b hb=>⟨hF b hb,rfl⟩) (fun _ _=>rfl),h8⟩
theorem o6.fW{m:Mode}{d:DV U}{v:Value}{l:List Nat}(hm:m≠ .ro)(h:o6 E w F m d v l)(hF:∀b,F b->F' b):o6 E w F' m d v l:=by
 cases m with
 |ro=>exact absurd rfl hm
 |wr=>
  cases d with
  |one c=>
   cases c with
   |lit _=>exact h
   |sl τ xs=>exact fe.any h
  |agg _=>exact mT.any h
  |box _=>exact h
  |ptr _=>exact h
  |fn _=>exact h
 |mv=>
  cases d with
  |one c=>exact Rp.um h (fun _ _=>rfl)
  |agg _=>exact mT.any h
  |box _=>exact h
  |ptr _=>exact h
  |fn _=>exact h
 |box own=>
  cases d with
  |box cs=>exact sM.fW h hF
  |one _=>exact h
  |agg _=>exact h
  |ptr _=>exact h
  |fn _=>exact h
theorem ac4(h:cR E pm F kv fp σ a w){ks ks':List Key}(hn:(ks++ks').Nodup)(hl:∀k∈ks,(σ.bP k).isSome=true)(Iw:∀k∈ks',(σ.bP k).isSome=true){b:Nat}(hb:∃k∈ks,b∈fp k):∀k∈ks',b∉fp k:=by
 intro k' cY bj
 obtain⟨k,hk,hb⟩:=hb
 obtain⟨e,he⟩:=nA.1 (hl k hk)
 obtain⟨e2,uB⟩:=nA.1 (Iw k' cY)
 exact h.apart k k' e e2 b (fun e3=>(rV.1 hn).2.2 k hk k' cY e3) he uB hb bj
theorem aaM{a1 a2 b1 b2:List Nat}(n1:(a1++b1).Nodup)(n2:(a2++b2).Nodup)(x:∀b∈a1++b1,b∉a2++b2):((a1++a2)++(b1++b2)).Nodup:=by
 have hp:((a1++a2)++(b1++b2)).Perm ((a1++b1)++(a2++b2)):=by
  rw[xU,xU]
  refine List.Perm.append_left a1 ?_
  rw[<-xU,<-xU]
  exact List.Perm.append_right b2 List.perm_append_comm
 rw[hp.nodup_iff,rV]
 exact⟨n1,n2,fun b hb c hc e=>x b hb (e▸hc)⟩
theorem NT.merge(h:cR E pm F kv fp σ a w){ks ks':List Key}(hn:(ks++ks').Nodup)(hl:∀k∈ks,(σ.bP k).isSome=true)(Iw:∀k∈ks',(σ.bP k).isSome=true){nV:Nat}{l l':List Nat}{us QL:List (Key×iX U)}{es es':List (Nat×iX U)}{ml ml':List Nat}
  (h1:NT E σ w F kv fp nV ks l us es w' F' ml) (h2:NT E σ w F kv fp nV ks' l' QL es' w' F' ml') (MD:(ml++ml').Nodup) (hf:∀b∈l,∃k∈ks,b∈fp k) (hf':∀b∈l',∃k∈ks',b∈fp k)
  (ho:∀b∈ml++ml',b∈l++l'\/∀k∈ks++ks',b∉fp k):NT E σ w F kv fp nV (ks++ks') (l++l') (us++QL) (es++es') w' F' (ml++ml'):=by
 obtain⟨tl,t,a1,a2,a3,a4,a5,a6⟩:=h1
 obtain⟨tl',t',b1,b2,b3,b4,b5,b6⟩:=h2
 have yN:∀{b:Nat},(∃k∈ks,b∈fp k)->¬∃k∈ks',b∈fp k:=fun hb hc=>by
  obtain⟨k,hk,nC⟩:=hc
  exact ac4 h hn hl Iw hb k hk nC
 have hx:∀b∈tl.flatMap (·.2.2)++t.bl,b∉tl'.flatMap (·.2.2)++t'.bl:=by
  intro b hb bj
  rcases a6 b hb with g|⟨g,gk⟩
  ·rcases b6 b bj with g'|⟨g',gk'⟩
   ·exact(rV.1 MD).2.2 b g b g' rfl
   ·rcases ho b (rW _ g) with q|q
    ·rcases jI.1 q with q|q
     ·exact yN (hf b q) gk'
     ·exact g' q
    ·obtain⟨k,hk,iW⟩:=gk'
     exact q k (qM _ hk) iW
  ·rcases b6 b bj with g'|⟨g',gk'⟩
   ·rcases ho b (qM _ g') with q|q
    ·rcases jI.1 q with q|q
     ·exact g q
     ·exact yN gk (hf' b q)
    ·obtain⟨k,hk,iW⟩:=gk
     exact q k (rW _ hk) iW
   ·exact yN gk gk'
 refine⟨tl++tl',t++t',by rw[Ko,a1,b1],by rw[fw.Hl,a2,b2],fun s hs kv' fp' bad' q1 q2=> ?_,fun s hs=> ?_,?_,fun b hb=> ?_⟩
 ·rcases jI.1 hs with hs|hs
  ·exact a3 s hs kv' fp' bad' q1 fun s' kE=>q2 s' (rW _ kE)
  ·exact b3 s hs kv' fp' bad' q1 fun s' kE=>q2 s' (qM _ kE)
 ·rcases jI.1 hs with hs|hs
  ·exact a4 s hs
  ·exact b4 s hs
 ·rw[Ur,fw.wv]
  exact aaM a5 b5 hx
 ·rw[Ur,fw.wv] at hb
  have hb:b∈tl.flatMap (·.2.2)++t.bl\/b∈tl'.flatMap (·.2.2)++t'.bl:=by
   simp only[jI] at hb⊢
   rcases hb with(hb|hb)|(hb|hb)
   ·exact .inl (.inl hb)
   ·exact .inr (.inl hb)
   ·exact .inl (.inr hb)
   ·exact .inr (.inr hb)
  rcases hb with hb|hb
  ·rcases a6 b hb with g|⟨g,k,hk,iW⟩
   ·exact .inl (rW _ g)
   ·exact .inr ⟨fun q=>(jI.1 q).elim g (fun q=>yN ⟨k,hk,iW⟩ (hf' b q)),k,rW _ hk,iW⟩
  ·rcases b6 b hb with g|⟨g,k,hk,iW⟩
   ·exact .inl (qM _ g)
   ·exact .inr ⟨fun q=>(jI.1 q).elim (fun q=>yN (hf b q) ⟨k,hk,iW⟩) g,k,qM _ hk,iW⟩
theorem fq.split{w0:World}{m:Mode}{v:Value}{ms:List Mode}{vs:List Value}{dm:List (DV U)}{jh:List (List Nat)}(hm:m≠ .ro)(h:fq E w F w0 (m::ms) (v::vs) dm jh):
  ∃G4 VM,jh=G4++VM/\fq E w F w0 [m] [v] (B_ m dm) G4/\fq E w F w0 ms vs (yz m dm) VM:=by
 cases m with
 |ro=>exact absurd rfl hm
 |mv=>exact⟨[],jh,rfl,trivial,by simpa[fq,yz] using h⟩
 |wr=>
  cases dm with
  |nil=>cases jh<;>exact h.elim
  |cons d dm=>
   cases jh with
   |nil=>cases d<;>first|exact h.elim|(rename_i c;cases c<;>exact h.elim)
   |cons l' jh=>
    cases d with
    |one c=>
     cases c with
     |lit _=>exact h.elim
     |sl τ ys=>exact⟨[l'],jh,rfl,⟨h.1,trivial⟩,h.2⟩
    |agg _=>exact⟨[l'],jh,rfl,⟨h.1,trivial⟩,h.2⟩
    |box _=>exact h.elim
    |ptr _=>exact h.elim
    |fn _=>exact h.elim
 |box own=>
  cases dm with
  |nil=>cases jh<;>exact h.elim
  |cons d dm=>
   cases jh with
   |nil=>cases d<;>exact h.elim
   |cons l' jh=>
    cases d with
    |box cs=>exact⟨[l'],jh,rfl,⟨h.1,trivial⟩,h.2⟩
    |one _=>exact h.elim
    |agg _=>exact h.elim
    |ptr _=>exact h.elim
    |fn _=>exact h.elim
theorem alp(h:cR E pm F kv fp σ a w){rs:List Key}{n:Nat}:∀{ms:List Mode}{ws:List (List (Option U.Ty))}{xs:List (SV U)}{vs:List Value}{ps:List Prop}{ds:List (DV U)},
  n9 E (restrict σ.bP rs) σ.aS ms ws xs=some (ps,ds)->xs.length=vs.length->(∀(i:Nat)(x:SV U)(v:Value),xs[i]? =some x->vs[i]? =some v->RS E w F kv fp (bY σ) x v)->ED (restrict σ.bP rs) n ms ws xs=true->uf w n ms ds vs:=by
 intro ms
 induction ms with
 |nil=>intro ws xs vs ps ds _ _ _ _;trivial
 |cons m ms ih=>
  intro ws xs vs ps ds ha hl hx hr
  cases xs with
  |nil=>cases m<;>simp[n9] at ha
  |cons x xs=>
   cases vs with
   |nil=>simp at hl
   |cons v vs=>
    simp only[n9] at ha
    split at ha
    rotate_left
    ·cases ha
    rename_i Uw d1 ps2 ds2 h1 h2
    cases ha
    simp only[ED,cN] at hr
    refine⟨fun own cs hm hd=> ?_,ih h2 (by simpa using hl) (fun i y u hy hu=>hx (i+1) y u (by simpa using hy) (by simpa using hu)) hr.2⟩
    subst hm
    subst hd
    have Gy:=hr.1
    split at Gy
    ·rename_i o1 k off hbo
     split at Gy
     rotate_left
     ·cases Gy
     rename_i bs he
     have fi:=kf he
     have hlen:=nF Gy
     simp only[vu] at h1
     split at h1
     rotate_left
     ·cases h1
     rename_i ps0 d0 ks0 nd
     cases h1
     have ix:cs.length=(ws.headD []).length/\off=0:=by
      cases own with
      |true=>
       cases off with
       |succ n'=>simp[mG] at nd
       |zero=>
        simp only[mG,he] at nd
        rw[iw] at nd
        split at nd
        rotate_left
        ·cases nd
        split at nd
        rotate_left
        ·cases nd
        rename_i q1 q2 q3 ht
        rw[iw] at nd
        split at nd
        rotate_left
        ·cases nd
        cases nd
        have:=ac0 ht
        rw[oq] at this
        exact⟨by omega,rfl⟩
      |false=>
       cases off with
       |succ n'=>simp[mG] at nd
       |zero=>
        simp only[mG,he] at nd
        rw[iw] at nd
        split at nd
        rotate_left
        ·cases nd
        split at nd
        rotate_left
        ·cases nd
        rename_i l0 By
        cases nd
        have:=congrArg List.length (Pt By)
        rw[oq,wP] at this
        exact⟨by omega,rfl⟩
     obtain⟨ix,rfl⟩:=ix
     have hxv:=hx 0 _ v rfl rfl
     obtain⟨b,g1,g2⟩:=cx (H7 hxv) rfl
     obtain⟨b',cur,e,g3,g4,g5,g6⟩:=h.dD k _ fi
     rw[g1] at g3;cases g3
     rw[g2,M3 g4,My,<-g6.1]
     omega
    ·cases Gy
    ·rename_i On _
     exact absurd rfl (On own)
theorem ana(hC:∀g k,E.Qw g=some k->zW E.P g/\eQ E g k)(h:cR E pm F kv fp σ a w){rs:List Key}{K:List Key}{nV:Nat}:∀{ms:List Mode}{ws:List (List (Option U.Ty))}{xs:List (SV U)}{vs:List Value}{ps:List Prop}{ds dm:List (DV U)}{us:List (Key×iX U)}{es:List (Nat×iX U)}{lk:List Key},
  n9 E (restrict σ.bP rs) σ.aS ms ws xs=some (ps,ds)->(∀p∈ps,p)->xs.length=vs.length->(∀(i:Nat)(x:SV U)(v:Value),xs[i]? =some x->vs[i]? =some v->RS E w F kv fp (bY σ) x v)->
  (∀x∈xs,∀k∈x.keys,Names σ k)->(∀k∈gr ms xs,(σ.bP k).isSome=true->k∈K)->mF (restrict σ.bP rs) σ.aS nV ms ws xs dm=some (us,es,lk)->
  ∃ls,jD E w (FK F fp K) ms ds vs ls/\lk.Nodup/\(∀k∈lk,(σ.bP k).isSome=true/\Names σ k)/\ls.flatten.Nodup/\(∀b∈ls.flatten,∃k∈lk,b∈fp k)/\(us.map (·.1)).Nodup/\(∀u∈us,u.1∈lk)/\
   ∀(w':World)(F':Nat->Prop)(jh:List (List Nat)),fq E w' F' w ms vs dm jh->(∀b,F b->F' b/\w'.heap[b]? =w.heap[b]?)->(∀k∈lk,∀c∈fp k,c∉ls.flatten->w'.heap[c]? =w.heap[c]?)->jh.flatten.Nodup->
    (∀b∈jh.flatten,b∈ls.flatten\/∀k∈lk,b∉fp k)->NT E σ w F kv fp nV lk ls.flatten us es w' F' jh.flatten:=by
 intro ms
 induction ms with
 |nil=>
  intro ws xs vs ps ds dm us es lk ha hp hl hx vS hK hu
  cases xs with
  |cons x xs=>simp[n9] at ha
  |nil=>
   cases vs with
   |cons v vs=>simp at hl
   |nil=>
    cases dm with
    |cons d dm=>simp[mF] at hu
    |nil=>
     simp only[n9,gI,pE] at ha
     obtain⟨rfl,rfl⟩:=ha
     simp only[mF,gI,pE] at hu
     obtain⟨rfl,rfl,rfl⟩:=hu
     refine⟨[],trivial,by simp,by simp,by simp,by simp,by simp,by simp,fun w' F' jh hm _ _ _ _=> ?_⟩
     cases jh with
     |nil=>exact⟨[],[],rfl,rfl,by simp,by simp,by simp[fw.bl],by simp[fw.bl]⟩
     |cons _ _=>exact hm.elim
 |cons m ms ih=>
  intro ws xs vs ps ds dm us es lk ha hp hl hx vS hK hu
  cases xs with
  |nil=>cases m<;>simp[n9] at ha
  |cons x xs=>
   cases vs with
   |nil=>simp at hl
   |cons v vs=>
    simp only[n9] at ha
    split at ha
    ·rename_i Uw d1 ps2 ds2 h1 h2
     cases ha
     have Ux:∀(i:Nat)(y:SV U)(u:Value),xs[i]? =some y->vs[i]? =some u->RS E w F kv fp (bY σ) y u:=fun i y u hy hu=>hx (i+1) y u (by simpa using hy) (by simpa using hu)
     by_cases hm:m=.ro
     ·subst hm
      simp only[mF] at hu
      obtain⟨ls,i1,i2,i3,i4,i5,i6,i7,i8⟩:=ih h2 (fun p kW=>hp p (by simp[kW])) (by simpa using hl) Ux (fun y hy=>vS y (fF _ hy)) (fun k hk=>hK k (by simp[gr,hk])) hu
      refine⟨[]::ls,⟨ane hC h h1 (fun p kW=>hp p (by simp[kW])) (hx 0 x v rfl rfl) (fun k hk=>hK k (by simp[gr,hk])),i1⟩,i2,i3,by simpa using i4,by simpa using i5,i6,i7,fun w' F' jh Lv BC jg MD P4=> ?_⟩
      have:=i8 w' F' jh (by simpa[fq] using Lv) BC (by simpa using jg) MD (by simpa using P4)
      simpa using this
     ·have tr:∃ps0 d0 ks ks' us1 es1 us2 es2,mG (restrict σ.bP rs) σ.aS (ws.headD []) m x=some (ps0,d0,ks)/\iC (restrict σ.bP rs) nV (ws.headD []).length m x (B_ m dm)=some (us1,es1)/\mF (restrict σ.bP rs) σ.aS nV ms ws.tail xs (yz m dm)=some (us2,es2,ks')/\(ks++ks').Nodup/\us=us1++us2/\es=es1++es2/\lk=ks++ks'/\Uw=ps0/\d1=d0:=by
       have Xq:(match mG (restrict σ.bP rs) σ.aS (ws.headD []) m x,iC (restrict σ.bP rs) nV (ws.headD []).length m x (B_ m dm) with
        |some (_,_,ks),some (us,es)=>match mF (restrict σ.bP rs) σ.aS nV ms ws.tail xs (yz m dm) with
         |some (QL,es',ks')=>bif distinct (ks++ks') then some (us++QL,es++es',ks++ks') else none
         |none=>none
        |_,_=>none)=some (us,es,lk):=by
        cases m with
        |ro=>exact absurd rfl hm
        |wr=>exact hu
        |mv=>exact hu
        |box _=>exact hu
       split at Xq
       ·rename_i p0 d0 ks us0 es0 g1 g2
        split at Xq
        ·rename_i us2 es2 ks' g3
         rw[iw] at Xq
         split at Xq
         ·rename_i tz
          cases Xq
          have:vu E (restrict σ.bP rs) σ.aS (ws.headD []) m x=some (p0,d0):=by
           cases m with
           |ro=>exact absurd rfl hm
           |wr=>simp only[vu,g1]
           |mv=>simp only[vu,g1]
           |box _=>simp only[vu,g1]
          rw[this] at h1
          cases h1
          exact⟨_,_,ks,ks',_,_,_,_,g1,g2,g3,va.1 tz,rfl,rfl,rfl,rfl,rfl⟩
         ·cases Xq
        ·cases Xq
       ·cases Xq
      obtain⟨ps0,d0,ks,ks',us1,es1,us2,es2,g1,g2,g3,uL,rfl,rfl,rfl,rfl,rfl⟩:=tr
      obtain⟨l,r1,r2,r3,r4,r5,r6,r7,r8⟩:=amh h g1 (fun p kW=>hp p (by simp[kW])) (hx 0 x v rfl rfl) (vS x iH) g2
      obtain⟨ls,i1,i2,i3,i4,i5,i6,i7,i8⟩:=ih h2 (fun p kW=>hp p (by simp[kW])) (by simpa using hl) Ux (fun y hy=>vS y (fF _ hy)) (fun k hk=>hK k (by cases m<;>first|exact absurd rfl hm|simpa[gr] using hk)) g3
      have yN:∀{b:Nat},(∃k∈ks,b∈fp k)->¬∃k∈ks',b∈fp k:=fun hb hc=>by
       obtain⟨k,hk,nC⟩:=hc
       exact ac4 h uL r3 (fun k hk=>(i3 k hk).1) hb k hk nC
      refine⟨l::ls,⟨r1.fW hm (fun b hb=> .inl hb),i1⟩,uL,fun k hk=> ?_,?_,fun b hb=> ?_,?_,fun u hu=> ?_,fun w' F' jh Lv BC jg MD P4=> ?_⟩
      ·rcases jI.1 hk with hk|hk
       ·exact⟨r3 k hk,ami g1 (vS x iH) k hk⟩
       ·exact i3 k hk
      ·rw[MJ,rV]
       exact⟨r4,i4,fun b hb c hc e=>yN (r5 b hb) (i5 b (e▸hc))⟩
      ·rw[MJ] at hb
       rcases jI.1 hb with hb|hb
       ·obtain⟨k,hk,hb⟩:=r5 b hb;exact⟨k,rW _ hk,hb⟩
       ·obtain⟨k,hk,hb⟩:=i5 b hb;exact⟨k,qM _ hk,hb⟩
      ·rw[Ko,rV]
       refine⟨r6,i6,fun k hk k' cY e=> ?_⟩
       obtain⟨u,hu,rfl⟩:=mz.1 hk
       obtain⟨u',tr,rfl⟩:=mz.1 cY
       exact(rV.1 uL).2.2 _ (r7 u hu) _ (i7 u' tr) e
      ·rcases jI.1 hu with hu|hu
       ·exact rW _ (r7 u hu)
       ·exact qM _ (i7 u hu)
      obtain⟨G4,VM,rfl,q1,q2⟩:=Lv.split hm
      rw[Mz] at MD P4⊢
      rw[MJ] at jg P4⊢
      have Is:=rV.1 MD
      have B1:=r8 w' F' G4 q1 BC (fun k hk c hc ix=>jg k (rW _ hk) c hc (by
        rw[jI]
        exact fun hor=>hor.elim ix (fun q=>yN ⟨k,hk,hc⟩ (i5 c q)))) Is.1 (fun b hb=>by
        rcases P4 b (rW _ hb) with g|g
        ·rcases jI.1 g with g|g
         ·exact .inl g
         ·exact .inr fun k hk iW=>yN ⟨k,hk,iW⟩ (i5 b g)
        ·exact .inr fun k hk=>g k (rW _ hk))
      have B2:=i8 w' F' VM q2 BC (fun k hk c hc ix=>jg k (qM _ hk) c hc (by
        rw[jI]
        exact fun hor=>hor.elim (fun q=>yN (r5 c q) ⟨k,hk,hc⟩) ix)) Is.2.1 (fun b hb=>by
        rcases P4 b (qM _ hb) with g|g
        ·rcases jI.1 g with g|g
         ·exact .inr fun k hk iW=>yN (r5 b g) ⟨k,hk,iW⟩
         ·exact .inl g
        ·exact .inr fun k hk=>g k (qM _ hk))
      exact NT.merge h uL r3 (fun k hk=>(i3 k hk).1) B1 B2 MD r5 i5 P4
    ·cases ha
end AM
