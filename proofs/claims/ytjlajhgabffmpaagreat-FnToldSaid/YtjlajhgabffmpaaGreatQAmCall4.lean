/- THE ABSTRACT MACHINE: an argument that is lent to a call, and what comes back. -/
import Derived.Test.YtjlajhgabffmpaaGreatQAmCall2
namespace AM
set_option linter.unusedVariables false
open Go
variable{U:lu}{E:Env U}{pm:Pm}
variable{F F':Nat->Prop}{kv:Key->Value}{fp:Key->List Nat}{σ:ai U}{a:Act}{w w':World}{bad:Key->Bool}
theorem ajQ{kv':Key->Value}{fp':Key->List Nat}{bad':Key->Bool}{y:AC U}{v:Value}(hs:y.still=true)(h:RD E w F kv fp bad y v)(hk:∀k∈y.keys,kv' k=kv k)
  (hF:∀b,F b->F' b/\w'.heap[b]? =w.heap[b]?):RD E w' F' kv' fp' bad' y v:=by
 have hb:iX bad y=false:=by
  unfold AC.still at hs
  split at hs<;>first|rfl|cases hs
 refine⟨h.1,.inr ?_⟩
 have h0:=cw h hb
 unfold AC.still at hs
 split at hs
 ·exact Rp.gx h0 hF (by simp)
 ·exact h0
 ·rename_i k
  simp only[RA] at h0⊢
  rw[hk k (by simp[AC.keys])];exact h0
 ·rename_i k off
  simp only[RA] at h0⊢
  rw[hk k (by simp[AC.keys])];exact h0
 ·cases hs
theorem aca{kv':Key->Value}{fp':Key->List Nat}{bad':Key->Bool}{xs:List (AC U)}{vs:List Value}(hs:xs.all AC.still=true)(h:l8 E w F kv fp bad xs vs)(hk:∀y∈xs,∀k∈y.keys,kv' k=kv k)
  (hF:∀b,F b->F' b/\w'.heap[b]? =w.heap[b]?):l8 E w' F' kv' fp' bad' xs vs:=
 ⟨h.1,fun i y v hy hv=>ajQ (sk.1 hs y (Gn hy)) (h.2 i y v hy hv) (hk y (Gn hy)) hF⟩
theorem ZV(h:cQ E pm F kv fp σ a w):∀{ks:List Key},ks.Nodup->(∀k∈ks,(σ.bM k).isSome=true)->(ks.flatMap fp).Nodup
 |[],_,_=>by simp
 |k::ks,hn,hl=>by
  rw[zt,rz]
  obtain⟨e,he⟩:=m8.1 (hl k gB)
  rw[tS] at hn
  refine⟨h.nodup k e he,ZV h hn.2 (fun k' db=>hl k' (cI _ db)),fun b hb c hc e'=> ?_⟩
  subst e'
  obtain⟨k',db,bg⟩:=ow.1 hc
  obtain⟨e2,tX⟩:=m8.1 (hl k' (cI _ db))
  exact h.apart k k' e e2 b (fun e=>hn.1 (e▸db)) he tX hb bg
theorem Zw(h:cQ E pm F kv fp σ a w){rs:List Key}:∀{xs:List (AC U)}{vs:List Value}{cs vS:List U.C}{ks:List Key}{us:List (Key×i_ U)}{fl:List (List Nat)},jP (restrict σ.bM rs) xs=some (cs,ks)->l8 E w F kv fp (bR σ) xs vs->
  mr xs vS=some us->fl.length=vS.length->(∀(i:Nat)(c:U.C),vS[i]? =some c->Rp E w' F' true c (vs.getD i undef) (fl.getD i []))->
  us.map (·.1)=ks/\∃tl:List (Key×i_ U×List Nat),tl.map (fun t=>(t.1,t.2.1))=us/\(∀s∈tl,∀kv' fp' bad',tH E w' F' kv' fp' bad' s.2.1 (kv s.1) s.2.2)/\tl.flatMap (·.2.2)=fl.flatten
 |[],vs,cs,vS,ks,us,fl,hw,hx,hu,hl,hr=>by
  simp only[jP,gJ,pb] at hw
  obtain⟨rfl,rfl⟩:=hw
  cases vS with
  |cons _ _=>simp[mr] at hu
  |nil=>
   simp only[mr,gJ] at hu
   subst hu
   have:fl=[]:=FU hl
   subst this
   exact⟨rfl,[],rfl,by simp,rfl⟩
 |x::xs,vs,cs,vS,ks,us,fl,hw,hx,hu,hl,hr=>by
  obtain⟨v,wc,rfl,h1,h2⟩:=hx.cons_inv
  cases vS with
  |nil=>unfold mr at hu;split at hu<;>first|(rename_i e1 e2;cases e1;done)|(rename_i e1 e2;cases e2;done)|cases hu
  |cons c vS=>
   cases fl with
   |nil=>simp at hl
   |cons l fl=>
    have VO:Rp E w' F' true c v l:=by simpa using hr 0 c rfl
    have F_:∀(i:Nat)(c:U.C),vS[i]? =some c->Rp E w' F' true c (wc.getD i undef) (fl.getD i []):=fun i c hc=>by simpa using hr (i+1) c (by simpa using hc)
    have Ol:fl.length=vS.length:=by simpa using hl
    unfold jP at hw
    split at hw
    ·rename_i pK;cases pK
    ·rename_i u r pK
     cases pK
     split at hw
     ·rename_i cs0 ks0 GP
      cases hw
      cases c with
      |sl τ ys=>simp[mr] at hu
      |lit u'=>
       simp only[mr] at hu
       obtain⟨i1,tl,i2,i3,i4⟩:=Zw h GP h2 hu Ol F_
       obtain⟨rfl,_,_⟩:=VO.mJ
       exact⟨i1,tl,i2,i3,by simpa using i4⟩
     ·cases hw
    ·rename_i k r pK
     cases pK
     split at hw
     ·rename_i y cs0 ks0 he GP
      cases hw
      cases c with
      |lit _=>simp[mr] at hu
      |sl τ ys=>
       simp only[mr] at hu
       split at hu
       ·rename_i QM sN
        cases hu
        obtain⟨i1,tl,i2,i3,i4⟩:=Zw h GP h2 sN Ol F_
        have hv:v=kv k:=cw h1 rfl
        refine⟨by simp[i1],(k,.arr ⟨τ,ys⟩ true,l)::tl,by simp[i2],fun s hs kv' fp' bad'=> ?_,by simp[i4]⟩
        rcases kf.1 hs with rfl|hs
        ·rw[<-hv];exact VO.H2
        ·exact i3 s hs kv' fp' bad'
       ·cases hu
     ·cases hw
    ·cases hw
theorem Rp.Vv{c:U.C}{v:Value}{l:List Nat}(h:Rp E w F false c v l){b:Nat}(hb:b∈l):F' b:=by
 generalize hm:false=m at h
 cases h with
 |lit=>cases hb
 |nil=>cases hb
 |shr=>cases hb
 |own=>cases hm
def NM(E:Env U)(σ:ai U)(w:World)(F:Nat->Prop)(kv:Key->Value)(fp:Key->List Nat)(nC:Nat)(ks:List Key)(l:List Nat)(us:List (Key×i_ U))(es:List (Nat×i_ U))(w':World)(F':Nat->Prop)(ml:List Nat):Prop:=
 ∃(tl:List (Key×i_ U×List Nat))(t:fA U),tl.map (fun t=>(t.1,t.2.1))=us/\es=t.es/\
  (∀s∈tl,∀kv' fp' bad',(∀k,Names σ k->kv' k=kv k)->(∀s∈t,kv' (nC,s.1)=s.2.2.1)->tH E w' F' kv' fp' bad' s.2.1 (kv s.1) s.2.2)/\
  (∀s∈t,∀kv' fp' bad',tH E w' F' kv' fp' bad' s.2.1 s.2.2.1 s.2.2.2)/\
  (tl.flatMap (·.2.2)++t.bl).Nodup/\∀b∈tl.flatMap (·.2.2)++t.bl,b∈ml\/(b∉l/\∃k∈ks,b∈fp k)
theorem ajL{tb:qW U}{want:Option U.Ty}{x:AC U}{ps:List Prop}{c:U.C}{ks:List Key}{d:Bool}(h:um tb want x=some (ps,c,ks,d)):∀k∈ks,k∈x.keys:=by
 unfold um at h
 split at h
 ·cases h;simp
 ·cases h;simp
 ·split at h<;>cases h;simp
 ·split at h<;>cases h<;>simp[AC.keys]
 ·split at h<;>cases h<;>simp[AC.keys]
 ·cases h
theorem ab'{tb:qW U}:∀{xs:List (AC U)}{want:List (Option U.Ty)}{ps:List Prop}{cs:List U.C}{ks:List Key}{d:Bool},fu tb want xs=some (ps,cs,ks,d)->cs.length=xs.length
 |[],want,ps,cs,ks,d,h=>by
  simp only[fu,gJ,pb] at h
  obtain⟨_,rfl,_⟩:=h
  rfl
 |x::xs,want,ps,cs,ks,d,h=>by
  simp only[fu] at h
  split at h
  ·rename_i h1 h2
   cases h
   simp[ab' h2]
  ·cases h
theorem l8.Es{xs:List (AC U)}{vs:List Value}(h:l8 E w F kv fp bad xs vs):∀v∈vs,gM v:=by
 intro v hv
 obtain⟨n,hn,rfl⟩:=sn hv
 exact(h.2 n (xs[n]'(by rw[h.1];exact hn)) _ (fH _) (fH hn)).1
theorem ZB{tb:qW U}:∀{xs:List (AC U)}{want:List (Option U.Ty)}{ps:List Prop}{cs:List U.C}{ks:List Key}{d:Bool},fu tb want xs=some (ps,cs,ks,d)->∀k∈ks,∃x∈xs,k∈x.keys
 |[],want,ps,cs,ks,d,h,k,hk=>by
  simp only[fu,gJ,pb] at h
  obtain⟨_,_,rfl,_⟩:=h
  cases hk
 |x::xs,want,ps,cs,ks,d,h,k,hk=>by
  simp only[fu] at h
  split at h
  ·rename_i h1 h2
   cases h
   rcases jO.1 hk with hk|hk
   ·exact⟨x,gB,ajL h1 k hk⟩
   ·obtain⟨y,hy,hk⟩:=ZB h2 k hk
    exact⟨y,cI _ hy,hk⟩
  ·cases h
theorem Zy{tb:qW U}:∀{xs:List (AC U)}{cs:List U.C}{ks:List Key},jP tb xs=some (cs,ks)->∀k∈ks,∃x∈xs,k∈x.keys
 |[],cs,ks,h,k,hk=>by
  simp only[jP,gJ,pb] at h
  obtain⟨_,rfl⟩:=h
  cases hk
 |x::xs,cs,ks,h,k,hk=>by
  unfold jP at h
  split at h
  ·rename_i pK;cases pK
  ·rename_i pK;cases pK
   split at h
   ·rename_i h1
    cases h
    obtain⟨y,hy,hk⟩:=Zy h1 k hk
    exact⟨y,cI _ hy,hk⟩
   ·cases h
  ·rename_i pK;cases pK
   split at h
   ·rename_i h0 h1
    cases h
    rcases kf.1 hk with rfl|hk
    ·exact⟨_,gB,by simp[AC.keys]⟩
    ·obtain⟨y,hy,hk⟩:=Zy h1 k hk
     exact⟨y,cI _ hy,hk⟩
   ·cases h
  ·cases h
theorem ak4{rs:List Key}{want:List (Option U.Ty)}{m:Mode}{x:SV U}{ps:List Prop}{d:DV U}{ks:List Key}(h:mf (restrict σ.bM rs) σ.aN want m x=some (ps,d,ks))(vv:∀k∈x.keys,Names σ k):∀k∈ks,Names σ k:=by
 unfold mf at h
 split at h
 ·split at h
  ·rw[iu] at h
   split at h
   ·split at h
    ·cases h
     intro k hk
     exact vv k (by simpa[SV.keys,SV.B7,AC.keys] using hk)
    ·cases h
   ·cases h
  ·cases h
 ·rename_i cs
  split at h
  ·rename_i hw
   rw[iu] at h
   split at h
   ·cases h
    intro k hk
    obtain⟨y,hy,hk⟩:=Zy hw k hk
    exact vv k (SV.mem_keys.2 ⟨y,hy,hk⟩)
   ·cases h
  ·cases h
 ·rename_i y
  split at h
  ·rename_i hw
   split at h
   ·rw[iu] at h
    split at h
    ·cases h
     intro k hk
     obtain⟨z,hz,hk⟩:=ZB hw k hk
     exact vv k (SV.mem_keys.2 ⟨z,hz,hk⟩)
    ·cases h
   ·cases h
  ·cases h
 ·rename_i k0
  have BS:Names σ k0:=vv k0 (by simp[SV.keys,SV.B7,AC.keys])
  split at h
  ·rename_i cs he
   rw[iu] at h
   split at h
   ·split at h
    ·rename_i hw
     rw[iu] at h
     split at h
     ·cases h
      intro k hk
      rcases kf.1 hk with rfl|hk
      ·exact BS
      ·obtain⟨z,hz,hk⟩:=ZB hw k hk
       exact .inr ⟨k0,cs,kj he,z,List.mem_of_mem_take hz,hk⟩
     ·cases h
    ·cases h
   ·cases h
  ·cases h
 ·rename_i k0
  have BS:Names σ k0:=vv k0 (by simp[SV.keys,SV.B7,AC.keys])
  split at h
  ·rw[iu] at h
   split at h
   ·split at h
    ·cases h
     intro k hk
     rw[mF.1 hk]
     exact BS
    ·cases h
   ·cases h
  ·cases h
 ·cases h
theorem ak3(h:cQ E pm F kv fp σ a w){rs:List Key}{want:List (Option U.Ty)}{m:Mode}{x:SV U}{v:Value}{ps:List Prop}{d:DV U}{ks:List Key}
  (ha:mf (restrict σ.bM rs) σ.aN want m x=some (ps,d,ks)) (hp:∀p∈ps,p) (hx:RS E w F kv fp (bR σ) x v) (vv:∀k∈x.keys,Names σ k)
  {nC:Nat} {dm:List (DV U)} {us:List (Key×i_ U)} {es:List (Nat×i_ U)} (jg:iB (restrict σ.bM rs) nC want.length m x dm=some (us,es)):
  ∃l,ou E w F m d v l/\ks.Nodup/\(∀k∈ks,(σ.bM k).isSome=true)/\l.Nodup/\(∀b∈l,∃k∈ks,b∈fp k)/\
   (us.map (·.1)).Nodup/\(∀u∈us,u.1∈ks)/\
    ∀(w':World)(F':Nat->Prop)(ji:List (List Nat)),fE E w' F' w [m] [v] dm ji->(∀b,F b->F' b/\w'.heap[b]? =w.heap[b]?)->(∀k∈ks,∀c∈fp k,c∉l->w'.heap[c]? =w.heap[c]?)->ji.flatten.Nodup->
     (∀b∈ji.flatten,b∈l\/∀k∈ks,b∉fp k)->NM E σ w F kv fp nC ks l us es w' F' ji.flatten:=by
 have jA:∀{k:Key}{b:Nat},(σ.bM k).isSome=true->b∈fp k->b<w.heap.size:=by
  intro k b hk hb
  obtain⟨e,he⟩:=m8.1 hk
  exact(h.fV k e b he hb).2.2
 unfold mf at ha
 split at ha
 ·
  rename_i k p
  split at ha
  ·rename_i y he
   have fo:=kj he
   cases iH:fW (restrict σ.bM rs) σ.aN k p<;>simp only[iH,cond_false,cond_true] at ha
   ·cases ha
   ·split at ha
    ·rename_i Kz b hw
     cases ha
     have BQ:=HL hx
     have oc:=cw BQ (HJ iH he)
     have h0:fi E w F true y (kv k) (fp k):=h.dV k _ fo
     have hl0:(σ.bM k).isSome=true:=by rw[fo];rfl
     unfold iB at jg
     split at jg
     ·rename_i k' p' τ ys pK
      cases pK
      simp only[he] at jg
      split at jg
      ·rename_i a' Xg
       cases jg
       obtain⟨vb,QO,pre,post,b',f1,f2,f3,f4,f5⟩:=h0.focus (h.nodup k _ fo) hw hp Xg
       have hvb:v=vb:=oc.unique f2
       subst hvb
       have hn:=h.nodup k _ fo
       rw[f4,rz,rz] at hn
       refine⟨QO,f3,by simp,by simpa using hl0,hn.1.2.1,fun c hc=>⟨k,by simp,by rw[f4];simp[hc]⟩,by simp,by simp,fun w' F' ji KY A' jf Mk PU=> ?_⟩
       cases ji with
       |nil=>exact KY.elim
       |cons l' ji=>
        obtain⟨PV,JX⟩:=KY
        cases ji with
        |cons _ _=>exact JX.elim
        |nil=>
         obtain⟨⟨n1,n2,n3⟩,n4,n5⟩:=hn
         have wZ:∀c∈pre++post,c∈fp k/\c∉QO:=by
          intro c hc
          rcases jO.1 hc with hc|hc
          ·exact⟨by rw[f4];simp[hc],fun m_=>n3 c hc c m_ rfl⟩
          ·exact⟨by rw[f4];simp[hc],fun m_=>n5 c (rb _ m_) c hc rfl⟩
         have W8:∀c∈pre++post,c∉l':=by
          intro c hc m_
          rcases PU c (by simpa using m_) with g|g
          ·exact(wZ c hc).2 g
          ·exact g k (by simp) (wZ c hc).1
         refine⟨[(k,.arr a' true,pre++l'++post)],[],rfl,rfl,fun s hs kv' fp' bad' _ _=> ?_,by simp,?_,fun c hc=> ?_⟩
         ·rw[mF.1 hs]
          split at f1
          ·rename_i zs hz
           have:=eE hz
           cases this
           cases f1
           exact f5 w' F' l' rfl PV (fun c hc=>jf k (by simp) c (wZ c hc).1 (wZ c hc).2)
          ·cases f1
         ·simp only[zt,zen,xr,fA.bl]
          have H6:l'.Nodup:=by simpa using Mk
          rw[rz,rz]
          refine⟨⟨n1,H6,fun c hc e he e'=>W8 c (sh _ hc) (e'▸he)⟩,n4,fun c hc e he e'=> ?_⟩
          rcases jO.1 hc with hc|hc
          ·exact n5 c (sh _ hc) e he e'
          ·exact W8 e (rb _ he) (e'▸hc)
         ·simp only[zt,zen,xr,fA.bl,jO] at hc
          rcases hc with(hc|hc)|hc
          ·exact .inr ⟨(wZ c (sh _ hc)).2,k,by simp,(wZ c (sh _ hc)).1⟩
          ·exact .inl (by simpa using hc)
          ·exact .inr ⟨(wZ c (rb _ hc)).2,k,by simp,(wZ c (rb _ hc)).1⟩
      ·cases jg
     all_goals first|(rename_i pK;cases pK;done)|(rename_i pK _;cases pK;done)|cases jg
    ·cases ha
  ·cases ha
 ·
  rename_i cs
  split at ha
  ·rename_i ds ks0 hw
   rw[iu] at ha
   split at ha
   ·rename_i sT
    cases ha
    have uf:=uC.1 sT
    obtain⟨vs,FO,hv⟩:=hx
    simp only[if_true] at hv
    obtain⟨g1,g2,fl,f1,f2,f3⟩:=Zx h hw FO
    unfold iB at jg
    split at jg
    ·rename_i pK;cases pK
    ·rename_i vS ds' pK
     cases pK
     split at jg
     ·rename_i QM hu
      cases jg
      have BS:us.map (·.1)=ks:=by
       have:∀{xs:List (AC U)}{cs vS:List U.C}{ks:List Key}{us:List (Key×i_ U)},jP (restrict σ.bM rs) xs=some (cs,ks)->mr xs vS=some us->us.map (·.1)=ks:=by
        intro xs
        induction xs with
        |nil=>
         intro cs vS ks us h1 h2
         simp only[jP,gJ,pb] at h1
         cases vS with
         |cons _ _=>simp[mr] at h2
         |nil=>simp only[mr,gJ] at h2;subst h2;rw[<-h1.2];rfl
        |cons x xs ih=>
         intro cs vS ks us h1 h2
         unfold jP at h1
         split at h1
         ·rename_i pK;cases pK
         ·rename_i u r pK
          cases pK
          split at h1
          ·rename_i cs0 ks0 hr
           cases h1
           cases vS with
           |nil=>simp[mr] at h2
           |cons c vS=>cases c with
            |sl _ _=>simp[mr] at h2
            |lit _=>simp only[mr] at h2;exact ih hr h2
          ·cases h1
         ·rename_i k r pK
          cases pK
          split at h1
          ·rename_i y cs0 ks0 he hr
           cases h1
           cases vS with
           |nil=>simp[mr] at h2
           |cons c vS=>cases c with
            |lit _=>simp[mr] at h2
            |sl τ ys=>
             simp only[mr] at h2
             split at h2
             ·rename_i QM sN
              cases h2
              simp[ih hr sN]
             ·cases h2
          ·cases h1
         ·cases h1
       exact this hw hu
      refine⟨fl.flatten,⟨vs,fl,hv,by rw[g1];exact FO.1.symm,f1,f2,rfl⟩,uf,g2,by rw[f3];exact ZV h uf g2,fun c hc=>by rw[f3] at hc;exact ow.1 hc,by rw[BS];exact uf,fun u sN=>by rw[<-BS];exact l_.2 ⟨u,sN,rfl⟩,fun w' F' ji KY A' jf Mk PU=> ?_⟩
      cases ji with
      |nil=>exact KY.elim
      |cons l' ji=>
       obtain⟨PV,JX⟩:=KY
       cases ji with
       |cons _ _=>exact JX.elim
       |nil=>
        obtain⟨wc,fl',e1,e2,e3,e4,e5⟩:=PV
        rw[hv] at e1
        have:wc=vs:=by simpa using e1.symm
        subst this
        obtain⟨i1,tl,i2,i3,i4⟩:=Zw (w':=w') (F':=F') h hw FO hu e3 e4
        have H6:l'.Nodup:=by simpa using Mk
        refine⟨tl,[],i2,rfl,fun s hs kv' fp' bad' _ _=>i3 s hs kv' fp' bad',by simp,?_,fun c hc=> ?_⟩
        ·rw[i4,<-e5];simpa[fA.bl] using H6
        ·rw[i4,<-e5] at hc
         exact .inl (by simpa[fA.bl] using hc)
     ·cases jg
    all_goals first|(rename_i pK;cases pK;done)|(rename_i pK _;cases pK;done)|cases jg
   ·cases ha
  ·cases ha
 ·
  rename_i y
  split at ha
  ·rename_i Kz cs ks' ht
   split at ha
   ·rename_i d' hd
    rw[iu] at ha
    split at ha
    ·rename_i sT
     cases ha
     have uf:=uC.1 sT
     obtain⟨vs,FO,hv⟩:=hx
     obtain⟨g1,g2,g3,_⟩:=MM h ht hp FO uf
     obtain⟨fl,f1,f2,f3,f4⟩:=g3 rfl
     have pI:ou E w F .mv d v fl.flatten:=by
      unfold Nx at hd
      cases Uu:y.agg<;>rw[Uu] at hd hv<;>simp only[cond_true,cond_false,xt,if_false,if_true] at hd hv
      ·split at hd
       ·cases hd
        subst hv
        simp only[fY,fG] at f1
        obtain⟨l,rfl⟩:=List.length_eq_one_iff.1 f1
        simpa[ou] using f2 0 _ rfl
       ·cases hd
      ·cases hd
       exact⟨vs,fl,hv,by rw[g1];exact FO.1.symm,f1,f2,rfl⟩
     have hdm:dm=[]/\us=[]/\es=[]:=by
      cases dm with
      |nil=>simp only[iB,gJ,pb] at jg;exact⟨rfl,jg.1.symm,jg.2.symm⟩
      |cons _ _=>simp[iB] at jg
     obtain⟨rfl,rfl,rfl⟩:=hdm
     refine⟨fl.flatten,pI,uf,g2,f3,f4,by simp,by simp,fun w' F' ji KY A' jf Mk PU=> ?_⟩
     have:ji=[]:=by cases ji with|nil=>rfl|cons _ _=>exact KY.elim
     subst this
     exact⟨[],[],rfl,rfl,by simp,by simp,by simp[fA.bl],by simp[fA.bl]⟩
    ·cases ha
   ·cases ha
  ·cases ha
 ·
  rename_i k
  split at ha
  ·rename_i cs he
   have fo:=kj he
   have hl0:(σ.bM k).isSome=true:=by rw[fo];rfl
   rw[iu] at ha
   split at ha
   ·rename_i hc0
    simp only[cO,QS] at hc0
    obtain⟨W7,qB⟩:=hc0
    split at ha
    ·rename_i Kz l0 ks' ht
     rw[iu] at ha
     split at ha
     ·rename_i sT
      cases ha
      have uf:=uC.1 sT
      obtain⟨b,h1,h2⟩:=cw (HL hx) rfl
      obtain⟨b',cur,e,h3,h4,h5,h6⟩:=h.dV k _ fo
      rw[h1] at h3;cases h3
      subst h2
      have hlen:cs.length=cur.size:=by have:=h6.1;simpa using this
      obtain⟨g1,g2,g3,_⟩:=MM h ht hp (h6.take want.length) (tS.1 uf).2
      obtain⟨fl,f1,f2,f3,f4⟩:=g3 rfl
      have Nm:l0.length=want.length:=by rw[g1,oz];omega
      have lG:∀u∈cur.toList.drop l0.length,gM u:=(h6.drop l0.length).Es
      have sQ:∀(i:Nat)(c:U.C),l0[i]? =some c->cur.toList.getD i undef=(cur.toList.take want.length).getD i undef:=by
       intro i c hc
       have hi:i<want.length:=by
        rw[<-Nm]
        rcases pa i l0.length with g|g
        ·exact g
        ·rw[ox g] at hc;cases hc
       simp only[eX,qa,if_pos hi]
      have aaY:b∉fl.flatten:=by
       intro hb
       obtain⟨k',db,bg⟩:=f4 b hb
       obtain⟨e2,tX⟩:=m8.1 (g2 k' db)
       exact h.apart k k' _ e2 b (fun e=>(tS.1 uf).1 (by rw[e];exact db)) fo tX (by rw[h5];simp) bg
      have hdm:∃ds,dm=[.box ds]/\ds.length=want.length/\us=[(k,.box ((putCells nC true 512 ds).1++cs.drop want.length))]/\es=(putCells nC true 512 ds).2:=by
       cases dm with
       |nil=>simp[iB] at jg
       |cons d0 dm=>
        cases dm with
        |cons _ _=>simp[iB] at jg
        |nil=>
         cases d0 with
         |one _=>simp[iB] at jg
         |agg _=>simp[iB] at jg
         |ptr _=>simp[iB] at jg
         |fn _=>simp[iB] at jg
         |box ds=>
          simp only[iB,he] at jg
          rw[iu] at jg
          split at jg
          ·rename_i KZ
           cases jg
           exact⟨ds,rfl,nc KZ,rfl,rfl⟩
          ·cases jg
      obtain⟨ds,rfl,Ie,rfl,rfl⟩:=hdm
      refine⟨b::fl.flatten,⟨b,cur,e,fl,rfl,h4,by omega,by rw[MN h4],by rw[MN h4];exact lG,f1,fun i c hc=>by rw[sQ i c hc];exact f2 i c hc,rfl⟩,uf,fun k' db=>by
       rcases kf.1 db with rfl|db
       ·exact hl0
       ·exact g2 k' db,tS.2 ⟨aaY,f3⟩,fun c hc=>by
       rcases kf.1 hc with rfl|hc
       ·exact⟨k,by simp,by rw[h5];simp⟩
       ·obtain⟨k',db,hc⟩:=f4 c hc;exact⟨k',cI _ db,hc⟩,by simp,by simp,fun w' F' ji KY A' jf Mk PU=> ?_⟩
      cases ji with
      |nil=>exact KY.elim
      |cons l' ji=>
       obtain⟨PV,JX⟩:=KY
       cases ji with
       |cons _ _=>exact JX.elim
       |nil=>
        obtain⟨b2,cur',e',fl',k1,k2,k3,k4,k5,k6,k7,rfl⟩:=PV
        cases k1
        rw[MN h4,Ie] at k4
        have H6:(b::fl'.flatten).Nodup:=by simpa using Mk
        have iH:cur'.toList.take ds.length++cur'.toList.drop ds.length=cur'.toList:=UB _ _
        obtain⟨t,t1,t2,t3,t4⟩:=Ks (E:=E) (w:=w') (F:=F') (dst:=nC) (base:=512) (cs:=ds) (vs:=cur'.toList.take ds.length) (fl:=fl') (by simp;omega) k6 (fun i c hc=>by
         have hi:i<ds.length:=by
          rcases pa i ds.length with g|g
          ·exact g
          ·rw[ox g] at hc;cases hc
         have:=k7 i c hc
         rw[eX,qa,if_pos hi,<-eX]
         exact this)
        refine⟨[(k,.box ((putCells nC true 512 ds).1++cs.drop want.length),[b])],t,rfl,t1,fun s hs kv' fp' bad' aaK Up=> ?_,t2,?_,fun c hc=> ?_⟩
        ·rw[mF.1 hs]
         refine⟨b,cur',e',h1,k2,rfl,?_⟩
         rw[<-iH]
         refine(t4 kv' fp' bad' Up).append ?_
         rw[Ie,k4]
         exact aca qB (h6.drop want.length) (fun y hy k' db=>aaK k' (.inr ⟨k,cs,fo,y,List.mem_of_mem_drop hy,db⟩)) A'
        ·simp only[zt,zen,xr]
         rw[t3]
         exact H6
        ·simp only[zt,zen,xr] at hc
         rw[t3] at hc
         exact .inl (by simpa using hc)
     ·cases ha
    ·cases ha
   ·cases ha
  ·cases ha
 ·
  rename_i k
  split at ha
  ·rename_i cs he
   have fo:=kj he
   have hl0:(σ.bM k).isSome=true:=by rw[fo];rfl
   rw[iu] at ha
   split at ha
   ·rename_i hc0
    simp only[cO,QS] at hc0
    obtain⟨W7,qB⟩:=hc0
    split at ha
    ·rename_i l0 A7
     cases ha
     have vz:=Pn A7
     obtain⟨b,h1,h2⟩:=cw (HL hx) rfl
     obtain⟨b',cur,e,h3,h4,h5,h6⟩:=h.dV k _ fo
     rw[h1] at h3;cases h3
     subst h2
     have hlen:cs.length=cur.size:=by have:=h6.1;simpa using this
     have Nm:l0.length=want.length:=by
      have:=congrArg List.length vz
      rw[oz,xp] at this
      omega
     have lG:∀u∈cur.toList.drop l0.length,gM u:=(h6.drop l0.length).Es
     have hdm:∃ds,dm=[.box ds]/\ds.length=want.length/\us=[(k,.box (ds.map .c++cs.drop want.length))]/\es=[]:=by
      cases dm with
      |nil=>simp[iB] at jg
      |cons d0 dm=>
       cases dm with
       |cons _ _=>simp[iB] at jg
       |nil=>
        cases d0 with
        |one _=>simp[iB] at jg
        |agg _=>simp[iB] at jg
        |ptr _=>simp[iB] at jg
        |fn _=>simp[iB] at jg
        |box ds=>
         simp only[iB,he] at jg
         rw[iu] at jg
         split at jg
         ·rename_i KZ
          cases jg
          exact⟨ds,rfl,nc KZ,rfl,rfl⟩
         ·cases jg
     obtain⟨ds,rfl,Ie,rfl,rfl⟩:=hdm
     refine⟨[b],⟨b,cur,e,List.replicate l0.length [],rfl,h4,by omega,by rw[MN h4],by rw[MN h4];exact lG,by simp,fun i c hc=> ?_,by rw[zI]⟩,by simp,by simpa using hl0,by simp,by simp[h5],by simp,by simp,fun w' F' ji KY A' jf Mk PU=> ?_⟩
     ·have hi:i<want.length:=by
       rw[<-Nm]
       rcases pa i l0.length with g|g
       ·exact g
       ·rw[ox g] at hc;cases hc
      have hci:cs[i]? =some (.c c):=by
       have:(cs.take want.length)[i]? =some (.c c):=by rw[vz,nO,hc];rfl
       rwa[qa,if_pos hi] at this
      have h7:=cw (h6.2 i (.c c) (cur.toList.getD i undef) hci (fM (by simp;omega))) rfl
      rw[HG]
      exact h7
     ·cases ji with
      |nil=>exact KY.elim
      |cons l' ji=>
       obtain⟨PV,JX⟩:=KY
       cases ji with
       |cons _ _=>exact JX.elim
       |nil=>
        obtain⟨b2,cur',e',fl',k1,k2,k3,k4,k5,k6,k7,rfl⟩:=PV
        cases k1
        rw[MN h4,Ie] at k4
        have H6:(b::fl'.flatten).Nodup:=by simpa using Mk
        have iH:cur'.toList.take ds.length++cur'.toList.drop ds.length=cur'.toList:=UB _ _
        refine⟨[(k,.box (ds.map .c++cs.drop want.length),[b])],[],rfl,rfl,fun s hs kv' fp' bad' aaK Up=> ?_,by simp,by simp[fA.bl],fun c hc=> ?_⟩
        ·rw[mF.1 hs]
         refine⟨b,cur',e',h1,k2,rfl,?_⟩
         rw[<-iH]
         refine l8.append ?_ ?_
         ·refine MR (by simp;omega) (fun i c hc=> ?_)
          have hi:i<ds.length:=by
           rcases pa i ds.length with g|g
           ·exact g
           ·rw[ox g] at hc;cases hc
          have:=k7 i c hc
          rw[eX,qa,if_pos hi,<-eX]
          exact this.lz (fun _ hb=>hb) (fun b' bg=>this.Vv bg)
         ·rw[Ie,k4]
          exact aca qB (h6.drop want.length) (fun y hy k' db=>aaK k' (.inr ⟨k,cs,fo,y,List.mem_of_mem_drop hy,db⟩)) A'
        ·simp only[zt,zen,xr,fA.bl,mF] at hc
         subst hc
         exact .inl (by simp)
    ·cases ha
   ·cases ha
  ·cases ha
 ·cases ha
theorem se.fZ{own:Bool}{cs:List U.C}{rest:List Value}{v:Value}{l:List Nat}(h:se E w F own cs rest v l)(hF:∀b,F b->F' b):se E w F' own cs rest v l:=by
 obtain⟨b,cur,e,fl,h1,h2,h3,h4,h5,h6,h7,h8⟩:=h
 exact⟨b,cur,e,fl,h1,h2,h3,h4,h5,h6,fun i c hc=>(h7 i c hc).gx (fun b hb=>⟨hF b hb,rfl⟩) (fun _ _=>rfl),h8⟩
theorem ou.fZ{m:Mode}{d:DV U}{v:Value}{l:List Nat}(hm:m≠ .ro)(h:ou E w F m d v l)(hF:∀b,F b->F' b):ou E w F' m d v l:=by
 cases m with
 |ro=>exact absurd rfl hm
 |wr=>
  cases d with
  |one c=>
   cases c with
   |lit _=>exact h
   |sl τ xs=>exact fi.any h
  |agg _=>exact mD.any h
  |box _=>exact h
  |ptr _=>exact h
  |fn _=>exact h
 |mv=>
  cases d with
  |one c=>exact Rp.tO h (fun _ _=>rfl)
  |agg _=>exact mD.any h
  |box _=>exact h
  |ptr _=>exact h
  |fn _=>exact h
 |box own=>
  cases d with
  |box cs=>exact se.fZ h hF
  |one _=>exact h
  |agg _=>exact h
  |ptr _=>exact h
  |fn _=>exact h
theorem acd(h:cQ E pm F kv fp σ a w){ks ks':List Key}(hn:(ks++ks').Nodup)(hl:∀k∈ks,(σ.bM k).isSome=true)(H_:∀k∈ks',(σ.bM k).isSome=true){b:Nat}(hb:∃k∈ks,b∈fp k):∀k∈ks',b∉fp k:=by
 intro k' db bg
 obtain⟨k,hk,hb⟩:=hb
 obtain⟨e,he⟩:=m8.1 (hl k hk)
 obtain⟨e2,tX⟩:=m8.1 (H_ k' db)
 exact h.apart k k' e e2 b (fun e3=>(rz.1 hn).2.2 k hk k' db e3) he tX hb bg
theorem Z_{a1 a2 b1 b2:List Nat}(n1:(a1++b1).Nodup)(n2:(a2++b2).Nodup)(x:∀b∈a1++b1,b∉a2++b2):((a1++a2)++(b1++b2)).Nodup:=by
 have hp:((a1++a2)++(b1++b2)).Perm ((a1++b1)++(a2++b2)):=by
  rw[xw,xw]
  refine List.Perm.append_left a1 ?_
  rw[<-xw,<-xw]
  exact List.Perm.append_right b2 List.perm_append_comm
 rw[hp.nodup_iff,rz]
 exact⟨n1,n2,fun b hb c hc e=>x b hb (e▸hc)⟩
theorem NM.merge(h:cQ E pm F kv fp σ a w){ks ks':List Key}(hn:(ks++ks').Nodup)(hl:∀k∈ks,(σ.bM k).isSome=true)(H_:∀k∈ks',(σ.bM k).isSome=true){nC:Nat}{l l':List Nat}{us QM:List (Key×i_ U)}{es es':List (Nat×i_ U)}{ml ml':List Nat}
  (h1:NM E σ w F kv fp nC ks l us es w' F' ml) (h2:NM E σ w F kv fp nC ks' l' QM es' w' F' ml') (Mk:(ml++ml').Nodup) (hf:∀b∈l,∃k∈ks,b∈fp k) (hf':∀b∈l',∃k∈ks',b∈fp k)
  (ho:∀b∈ml++ml',b∈l++l'\/∀k∈ks++ks',b∉fp k):NM E σ w F kv fp nC (ks++ks') (l++l') (us++QM) (es++es') w' F' (ml++ml'):=by
 obtain⟨tl,t,a1,a2,a3,a4,a5,a6⟩:=h1
 obtain⟨tl',t',b1,b2,b3,b4,b5,b6⟩:=h2
 have yb:∀{b:Nat},(∃k∈ks,b∈fp k)->¬∃k∈ks',b∈fp k:=fun hb hc=>by
  obtain⟨k,hk,m_⟩:=hc
  exact acd h hn hl H_ hb k hk m_
 have hx:∀b∈tl.flatMap (·.2.2)++t.bl,b∉tl'.flatMap (·.2.2)++t'.bl:=by
  intro b hb bg
  rcases a6 b hb with g|⟨g,gk⟩
  ·rcases b6 b bg with g'|⟨g',gk'⟩
   ·exact(rz.1 Mk).2.2 b g b g' rfl
   ·rcases ho b (sh _ g) with q|q
    ·rcases jO.1 q with q|q
     ·exact yb (hf b q) gk'
     ·exact g' q
    ·obtain⟨k,hk,jg⟩:=gk'
     exact q k (rb _ hk) jg
  ·rcases b6 b bg with g'|⟨g',gk'⟩
   ·rcases ho b (rb _ g') with q|q
    ·rcases jO.1 q with q|q
     ·exact g q
     ·exact yb gk (hf' b q)
    ·obtain⟨k,hk,jg⟩:=gk
     exact q k (sh _ hk) jg
   ·exact yb gk gk'
 refine⟨tl++tl',t++t',by rw[Mp,a1,b1],by rw[fA.G3,a2,b2],fun s hs kv' fp' bad' q1 q2=> ?_,fun s hs=> ?_,?_,fun b hb=> ?_⟩
 ·rcases jO.1 hs with hs|hs
  ·exact a3 s hs kv' fp' bad' q1 fun s' ky=>q2 s' (sh _ ky)
  ·exact b3 s hs kv' fp' bad' q1 fun s' ky=>q2 s' (rb _ ky)
 ·rcases jO.1 hs with hs|hs
  ·exact a4 s hs
  ·exact b4 s hs
 ·rw[Ui,fA.vT]
  exact Z_ a5 b5 hx
 ·rw[Ui,fA.vT] at hb
  have hb:b∈tl.flatMap (·.2.2)++t.bl\/b∈tl'.flatMap (·.2.2)++t'.bl:=by
   simp only[jO] at hb⊢
   rcases hb with(hb|hb)|(hb|hb)
   ·exact .inl (.inl hb)
   ·exact .inr (.inl hb)
   ·exact .inl (.inr hb)
   ·exact .inr (.inr hb)
  rcases hb with hb|hb
  ·rcases a6 b hb with g|⟨g,k,hk,jg⟩
   ·exact .inl (sh _ g)
   ·exact .inr ⟨fun q=>(jO.1 q).elim g (fun q=>yb ⟨k,hk,jg⟩ (hf' b q)),k,sh _ hk,jg⟩
  ·rcases b6 b hb with g|⟨g,k,hk,jg⟩
   ·exact .inl (rb _ g)
   ·exact .inr ⟨fun q=>(jO.1 q).elim (fun q=>yb (hf b q) ⟨k,hk,jg⟩) g,k,rb _ hk,jg⟩
theorem fE.split{w0:World}{m:Mode}{v:Value}{ms:List Mode}{vs:List Value}{dm:List (DV U)}{ji:List (List Nat)}(hm:m≠ .ro)(h:fE E w F w0 (m::ms) (v::vs) dm ji):
  ∃GJ Vx,ji=GJ++Vx/\fE E w F w0 [m] [v] (BJ m dm) GJ/\fE E w F w0 ms vs (xU m dm) Vx:=by
 cases m with
 |ro=>exact absurd rfl hm
 |mv=>exact⟨[],ji,rfl,trivial,by simpa[fE,xU] using h⟩
 |wr=>
  cases dm with
  |nil=>cases ji<;>exact h.elim
  |cons d dm=>
   cases ji with
   |nil=>cases d<;>first|exact h.elim|(rename_i c;cases c<;>exact h.elim)
   |cons l' ji=>
    cases d with
    |one c=>
     cases c with
     |lit _=>exact h.elim
     |sl τ ys=>exact⟨[l'],ji,rfl,⟨h.1,trivial⟩,h.2⟩
    |agg _=>exact⟨[l'],ji,rfl,⟨h.1,trivial⟩,h.2⟩
    |box _=>exact h.elim
    |ptr _=>exact h.elim
    |fn _=>exact h.elim
 |box own=>
  cases dm with
  |nil=>cases ji<;>exact h.elim
  |cons d dm=>
   cases ji with
   |nil=>cases d<;>exact h.elim
   |cons l' ji=>
    cases d with
    |box cs=>exact⟨[l'],ji,rfl,⟨h.1,trivial⟩,h.2⟩
    |one _=>exact h.elim
    |agg _=>exact h.elim
    |ptr _=>exact h.elim
    |fn _=>exact h.elim
theorem aka(h:cQ E pm F kv fp σ a w){rs:List Key}{n:Nat}:∀{ms:List Mode}{ws:List (List (Option U.Ty))}{xs:List (SV U)}{vs:List Value}{ps:List Prop}{ds:List (DV U)},
  nK E (restrict σ.bM rs) σ.aN ms ws xs=some (ps,ds)->xs.length=vs.length->(∀(i:Nat)(x:SV U)(v:Value),xs[i]? =some x->vs[i]? =some v->RS E w F kv fp (bR σ) x v)->D7 (restrict σ.bM rs) n ms ws xs=true->tG w n ms ds vs:=by
 intro ms
 induction ms with
 |nil=>intro ws xs vs ps ds _ _ _ _;trivial
 |cons m ms ih=>
  intro ws xs vs ps ds ha hl hx hr
  cases xs with
  |nil=>cases m<;>simp[nK] at ha
  |cons x xs=>
   cases vs with
   |nil=>simp at hl
   |cons v vs=>
    simp only[nK] at ha
    split at ha
    rotate_left
    ·cases ha
    rename_i Un d1 Z8 ds2 h1 h2
    cases ha
    simp only[D7,cO] at hr
    refine⟨fun own cs hm hd=> ?_,ih h2 (by simpa using hl) (fun i y u hy hu=>hx (i+1) y u (by simpa using hy) (by simpa using hu)) hr.2⟩
    subst hm
    subst hd
    have F_:=hr.1
    split at F_
    ·rename_i o1 k off hbo
     split at F_
     rotate_left
     ·cases F_
     rename_i bs he
     have fo:=kj he
     have hlen:=nc F_
     simp only[uX] at h1
     split at h1
     rotate_left
     ·cases h1
     rename_i ps0 d0 ks0 mM
     cases h1
     have iH:cs.length=(ws.headD []).length/\off=0:=by
      cases own with
      |true=>
       cases off with
       |succ n'=>simp[mf] at mM
       |zero=>
        simp only[mf,he] at mM
        rw[iu] at mM
        split at mM
        rotate_left
        ·cases mM
        split at mM
        rotate_left
        ·cases mM
        rename_i q1 q2 q3 ht
        rw[iu] at mM
        split at mM
        rotate_left
        ·cases mM
        cases mM
        have:=ab' ht
        rw[oz] at this
        exact⟨by omega,rfl⟩
      |false=>
       cases off with
       |succ n'=>simp[mf] at mM
       |zero=>
        simp only[mf,he] at mM
        rw[iu] at mM
        split at mM
        rotate_left
        ·cases mM
        split at mM
        rotate_left
        ·cases mM
        rename_i l0 A7
        cases mM
        have:=congrArg List.length (Pn A7)
        rw[oz,xp] at this
        exact⟨by omega,rfl⟩
     obtain⟨iH,rfl⟩:=iH
     have hxv:=hx 0 _ v rfl rfl
     obtain⟨b,g1,g2⟩:=cw (HL hxv) rfl
     obtain⟨b',cur,e,g3,g4,g5,g6⟩:=h.dV k _ fo
     rw[g1] at g3;cases g3
     rw[g2,MN g4,Me,<-g6.1]
     omega
    ·cases F_
    ·rename_i Og _
     exact absurd rfl (Og own)
theorem alY(hC:∀g k,E.Qu g=some k->zp E.P g/\fh E g k)(h:cQ E pm F kv fp σ a w){rs:List Key}{K:List Key}{nC:Nat}:∀{ms:List Mode}{ws:List (List (Option U.Ty))}{xs:List (SV U)}{vs:List Value}{ps:List Prop}{ds dm:List (DV U)}{us:List (Key×i_ U)}{es:List (Nat×i_ U)}{lk:List Key},
  nK E (restrict σ.bM rs) σ.aN ms ws xs=some (ps,ds)->(∀p∈ps,p)->xs.length=vs.length->(∀(i:Nat)(x:SV U)(v:Value),xs[i]? =some x->vs[i]? =some v->RS E w F kv fp (bR σ) x v)->
  (∀x∈xs,∀k∈x.keys,Names σ k)->(∀k∈gv ms xs,(σ.bM k).isSome=true->k∈K)->me (restrict σ.bM rs) σ.aN nC ms ws xs dm=some (us,es,lk)->
  ∃ls,kw E w (FK F fp K) ms ds vs ls/\lk.Nodup/\(∀k∈lk,(σ.bM k).isSome=true/\Names σ k)/\ls.flatten.Nodup/\(∀b∈ls.flatten,∃k∈lk,b∈fp k)/\(us.map (·.1)).Nodup/\(∀u∈us,u.1∈lk)/\
   ∀(w':World)(F':Nat->Prop)(ji:List (List Nat)),fE E w' F' w ms vs dm ji->(∀b,F b->F' b/\w'.heap[b]? =w.heap[b]?)->(∀k∈lk,∀c∈fp k,c∉ls.flatten->w'.heap[c]? =w.heap[c]?)->ji.flatten.Nodup->
    (∀b∈ji.flatten,b∈ls.flatten\/∀k∈lk,b∉fp k)->NM E σ w F kv fp nC lk ls.flatten us es w' F' ji.flatten:=by
 intro ms
 induction ms with
 |nil=>
  intro ws xs vs ps ds dm us es lk ha hp hl hx vv hK hu
  cases xs with
  |cons x xs=>simp[nK] at ha
  |nil=>
   cases vs with
   |cons v vs=>simp at hl
   |nil=>
    cases dm with
    |cons d dm=>simp[me] at hu
    |nil=>
     simp only[nK,gJ,pb] at ha
     obtain⟨rfl,rfl⟩:=ha
     simp only[me,gJ,pb] at hu
     obtain⟨rfl,rfl,rfl⟩:=hu
     refine⟨[],trivial,by simp,by simp,by simp,by simp,by simp,by simp,fun w' F' ji hm _ _ _ _=> ?_⟩
     cases ji with
     |nil=>exact⟨[],[],rfl,rfl,by simp,by simp,by simp[fA.bl],by simp[fA.bl]⟩
     |cons _ _=>exact hm.elim
 |cons m ms ih=>
  intro ws xs vs ps ds dm us es lk ha hp hl hx vv hK hu
  cases xs with
  |nil=>cases m<;>simp[nK] at ha
  |cons x xs=>
   cases vs with
   |nil=>simp at hl
   |cons v vs=>
    simp only[nK] at ha
    split at ha
    ·rename_i Un d1 Z8 ds2 h1 h2
     cases ha
     have Uo:∀(i:Nat)(y:SV U)(u:Value),xs[i]? =some y->vs[i]? =some u->RS E w F kv fp (bR σ) y u:=fun i y u hy hu=>hx (i+1) y u (by simpa using hy) (by simpa using hu)
     by_cases hm:m=.ro
     ·subst hm
      simp only[me] at hu
      obtain⟨ls,i1,i2,i3,i4,i5,i6,i7,i8⟩:=ih h2 (fun p kP=>hp p (by simp[kP])) (by simpa using hl) Uo (fun y hy=>vv y (cI _ hy)) (fun k hk=>hK k (by simp[gv,hk])) hu
      refine⟨[]::ls,⟨al1 hC h h1 (fun p kP=>hp p (by simp[kP])) (hx 0 x v rfl rfl) (fun k hk=>hK k (by simp[gv,hk])),i1⟩,i2,i3,by simpa using i4,by simpa using i5,i6,i7,fun w' F' ji KY A' jf Mk PU=> ?_⟩
      have:=i8 w' F' ji (by simpa[fE] using KY) A' (by simpa using jf) Mk (by simpa using PU)
      simpa using this
     ·have sN:∃ps0 d0 ks ks' us1 es1 us2 es2,mf (restrict σ.bM rs) σ.aN (ws.headD []) m x=some (ps0,d0,ks)/\iB (restrict σ.bM rs) nC (ws.headD []).length m x (BJ m dm)=some (us1,es1)/\me (restrict σ.bM rs) σ.aN nC ms ws.tail xs (xU m dm)=some (us2,es2,ks')/\(ks++ks').Nodup/\us=us1++us2/\es=es1++es2/\lk=ks++ks'/\Un=ps0/\d1=d0:=by
       have WY:(match mf (restrict σ.bM rs) σ.aN (ws.headD []) m x,iB (restrict σ.bM rs) nC (ws.headD []).length m x (BJ m dm) with
        |some (_,_,ks),some (us,es)=>match me (restrict σ.bM rs) σ.aN nC ms ws.tail xs (xU m dm) with
         |some (QM,es',ks')=>bif distinct (ks++ks') then some (us++QM,es++es',ks++ks') else none
         |none=>none
        |_,_=>none)=some (us,es,lk):=by
        cases m with
        |ro=>exact absurd rfl hm
        |wr=>exact hu
        |mv=>exact hu
        |box _=>exact hu
       split at WY
       ·rename_i p0 d0 ks us0 es0 g1 g2
        split at WY
        ·rename_i us2 es2 ks' g3
         rw[iu] at WY
         split at WY
         ·rename_i sT
          cases WY
          have:uX E (restrict σ.bM rs) σ.aN (ws.headD []) m x=some (p0,d0):=by
           cases m with
           |ro=>exact absurd rfl hm
           |wr=>simp only[uX,g1]
           |mv=>simp only[uX,g1]
           |box _=>simp only[uX,g1]
          rw[this] at h1
          cases h1
          exact⟨_,_,ks,ks',_,_,_,_,g1,g2,g3,uC.1 sT,rfl,rfl,rfl,rfl,rfl⟩
         ·cases WY
        ·cases WY
       ·cases WY
      obtain⟨ps0,d0,ks,ks',us1,es1,us2,es2,g1,g2,g3,uf,rfl,rfl,rfl,rfl,rfl⟩:=sN
      obtain⟨l,r1,r2,r3,r4,r5,r6,r7,r8⟩:=ak3 h g1 (fun p kP=>hp p (by simp[kP])) (hx 0 x v rfl rfl) (vv x gB) g2
      obtain⟨ls,i1,i2,i3,i4,i5,i6,i7,i8⟩:=ih h2 (fun p kP=>hp p (by simp[kP])) (by simpa using hl) Uo (fun y hy=>vv y (cI _ hy)) (fun k hk=>hK k (by cases m<;>first|exact absurd rfl hm|simpa[gv] using hk)) g3
      have yb:∀{b:Nat},(∃k∈ks,b∈fp k)->¬∃k∈ks',b∈fp k:=fun hb hc=>by
       obtain⟨k,hk,m_⟩:=hc
       exact acd h uf r3 (fun k hk=>(i3 k hk).1) hb k hk m_
      refine⟨l::ls,⟨r1.fZ hm (fun b hb=> .inl hb),i1⟩,uf,fun k hk=> ?_,?_,fun b hb=> ?_,?_,fun u hu=> ?_,fun w' F' ji KY A' jf Mk PU=> ?_⟩
      ·rcases jO.1 hk with hk|hk
       ·exact⟨r3 k hk,ak4 g1 (vv x gB) k hk⟩
       ·exact i3 k hk
      ·rw[Ms,rz]
       exact⟨r4,i4,fun b hb c hc e=>yb (r5 b hb) (i5 b (e▸hc))⟩
      ·rw[Ms] at hb
       rcases jO.1 hb with hb|hb
       ·obtain⟨k,hk,hb⟩:=r5 b hb;exact⟨k,sh _ hk,hb⟩
       ·obtain⟨k,hk,hb⟩:=i5 b hb;exact⟨k,rb _ hk,hb⟩
      ·rw[Mp,rz]
       refine⟨r6,i6,fun k hk k' db e=> ?_⟩
       obtain⟨u,hu,rfl⟩:=l_.1 hk
       obtain⟨u',sN,rfl⟩:=l_.1 db
       exact(rz.1 uf).2.2 _ (r7 u hu) _ (i7 u' sN) e
      ·rcases jO.1 hu with hu|hu
       ·exact sh _ (r7 u hu)
       ·exact rb _ (i7 u hu)
      obtain⟨GJ,Vx,rfl,q1,q2⟩:=KY.split hm
      rw[Mf] at Mk PU⊢
      rw[Ms] at jf PU⊢
      have H6:=rz.1 Mk
      have B1:=r8 w' F' GJ q1 A' (fun k hk c hc iH=>jf k (sh _ hk) c hc (by
        rw[jO]
        exact fun hor=>hor.elim iH (fun q=>yb ⟨k,hk,hc⟩ (i5 c q)))) H6.1 (fun b hb=>by
        rcases PU b (sh _ hb) with g|g
        ·rcases jO.1 g with g|g
         ·exact .inl g
         ·exact .inr fun k hk jg=>yb ⟨k,hk,jg⟩ (i5 b g)
        ·exact .inr fun k hk=>g k (sh _ hk))
      have B2:=i8 w' F' Vx q2 A' (fun k hk c hc iH=>jf k (rb _ hk) c hc (by
        rw[jO]
        exact fun hor=>hor.elim (fun q=>yb (r5 c q) ⟨k,hk,hc⟩) iH)) H6.2.1 (fun b hb=>by
        rcases PU b (rb _ hb) with g|g
        ·rcases jO.1 g with g|g
         ·exact .inr fun k hk jg=>yb (r5 b g) ⟨k,hk,jg⟩
         ·exact .inl g
        ·exact .inr fun k hk=>g k (rb _ hk))
      exact NM.merge h uf r3 (fun k hk=>(i3 k hk).1) B1 B2 Mk r5 i5 PU
    ·cases ha
end AM
