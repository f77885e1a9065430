import Derived.Test.YthciaocifglggaaGreatDoorQAmCall2
namespace AM
set_option linter.unusedVariables false
open Go
variable{U:kz}{E:Env U}{pm:Pm}
variable{F F':Nat->Prop}{kv:Key->Value}{fp:Key->List Nat}{σ:af U}{a:Act}{w w':World}{bad:Key->Bool}
theorem ajH{kv':Key->Value}{fp':Key->List Nat}{bad':Key->Bool}{y:AC U}{v:Value}(hs:y.still=true)(h:RD E w F kv fp bad y v)(hk:∀k∈y.keys,kv' k=kv k)
  (hF:∀b,F b->F' b/\w'.heap[b]? =w.heap[b]?):RD E w' F' kv' fp' bad' y v:=by
 have hb:io bad y=false:=by
  unfold AC.still at hs
  split at hs<;>first|rfl|cases hs
 refine⟨h.1,.inr ?_⟩
 have h0:=cn h hb
 unfold AC.still at hs
 split at hs
 ·exact Rp.fE h0 hF (by simp)
 ·exact h0
 ·rename_i k
  simp only[RA] at h0⊢
  rw[hk k (by simp[AC.keys])];exact h0
 ·rename_i k off
  simp only[RA] at h0⊢
  rw[hk k (by simp[AC.keys])];exact h0
 ·cases hs
theorem aak{kv':Key->Value}{fp':Key->List Nat}{bad':Key->Bool}{xs:List (AC U)}{vs:List Value}(hs:xs.all AC.still=true)(h:kX E w F kv fp bad xs vs)(hk:∀y∈xs,∀k∈y.keys,kv' k=kv k)
  (hF:∀b,F b->F' b/\w'.heap[b]? =w.heap[b]?):kX E w' F' kv' fp' bad' xs vs:=
 ⟨h.1,fun i y v hy hv=>ajH (As.1 hs y (Cs hy)) (h.2 i y v hy hv) (hk y (Cs hy)) hF⟩
theorem Wv(h:cG E pm F kv fp σ a w):∀{ks:List Key},ks.Nodup->(∀k∈ks,(σ.bH k).isSome=true)->(ks.flatMap fp).Nodup
 |[],_,_=>by simp
 |k::ks,hn,hl=>by
  rw[xv,pu]
  obtain⟨e,he⟩:=lJ.1 (hl k dw)
  rw[rv] at hn
  refine⟨h.nodup k e he,Wv h hn.2 (fun k' cM=>hl k' (bi _ cM)),fun b hb c hc e'=> ?_⟩
  subst e'
  obtain⟨k',cM,aY⟩:=nl.1 hc
  obtain⟨e2,rD⟩:=lJ.1 (hl k' (bi _ cM))
  exact h.apart k k' e e2 b (fun e=>hn.1 (e▸cM)) he rD hb aY
theorem V8(h:cG E pm F kv fp σ a w){rs:List Key}:∀{xs:List (AC U)}{vs:List Value}{cs tt:List U.C}{ks:List Key}{us:List (Key×ir U)}{fl:List (List Nat)},i_ (restrict σ.bH rs) xs=some (cs,ks)->kX E w F kv fp (bW σ) xs vs->
  lj xs tt=some us->fl.length=tt.length->(∀(i:Nat)(c:U.C),tt[i]? =some c->Rp E w' F' true c (vs.getD i undef) (fl.getD i []))->
  us.map (·.1)=ks/\∃tl:List (Key×ir U×List Nat),tl.map (fun t=>(t.1,t.2.1))=us/\(∀s∈tl,∀kv' fp' bad',ri E w' F' kv' fp' bad' s.2.1 (kv s.1) s.2.2)/\tl.flatMap (·.2.2)=fl.flatten
 |[],vs,cs,tt,ks,us,fl,hw,hx,hu,hl,hr=>by
  simp only[i_,fJ,nE] at hw
  obtain⟨rfl,rfl⟩:=hw
  cases tt with
  |cons _ _=>simp[lj] at hu
  |nil=>
   simp only[lj,fJ] at hu
   subst hu
   have:fl=[]:=Du hl
   subst this
   exact⟨rfl,[],rfl,by simp,rfl⟩
 |x::xs,vs,cs,tt,ks,us,fl,hw,hx,hu,hl,hr=>by
  obtain⟨v,tY,rfl,h1,h2⟩:=hx.cons_inv
  cases tt with
  |nil=>unfold lj at hu;split at hu<;>first|(rename_i e1 e2;cases e1;done)|(rename_i e1 e2;cases e2;done)|cases hu
  |cons c tt=>
   cases fl with
   |nil=>simp at hl
   |cons l fl=>
    have Ql:Rp E w' F' true c v l:=by simpa using hr 0 c rfl
    have Cj:∀(i:Nat)(c:U.C),tt[i]? =some c->Rp E w' F' true c (tY.getD i undef) (fl.getD i []):=fun i c hc=>by simpa using hr (i+1) c (by simpa using hc)
    have Jq:fl.length=tt.length:=by simpa using hl
    unfold i_ at hw
    split at hw
    ·rename_i nV;cases nV
    ·rename_i u r nV
     cases nV
     split at hw
     ·rename_i cs0 ks0 CK
      cases hw
      cases c with
      |sl τ ys=>simp[lj] at hu
      |lit u'=>
       simp only[lj] at hu
       obtain⟨i1,tl,i2,i3,i4⟩:=V8 h CK h2 hu Jq Cj
       obtain⟨rfl,_,_⟩:=Ql.jC
       exact⟨i1,tl,i2,i3,by simpa using i4⟩
     ·cases hw
    ·rename_i k r nV
     cases nV
     split at hw
     ·rename_i y cs0 ks0 he CK
      cases hw
      cases c with
      |lit _=>simp[lj] at hu
      |sl τ ys=>
       simp only[lj] at hu
       split at hu
       ·rename_i Le qg
        cases hu
        obtain⟨i1,tl,i2,i3,i4⟩:=V8 h CK h2 qg Jq Cj
        have hv:v=kv k:=cn h1 rfl
        refine⟨by simp[i1],(k,.arr ⟨τ,ys⟩ true,l)::tl,by simp[i2],fun s hs kv' fp' bad'=> ?_,by simp[i4]⟩
        rcases jw.1 hs with rfl|hs
        ·rw[<-hv];exact Ql.DY
        ·exact i3 s hs kv' fp' bad'
       ·cases hu
     ·cases hw
    ·cases hw
theorem Rp.P5{c:U.C}{v:Value}{l:List Nat}(h:Rp E w F false c v l){b:Nat}(hb:b∈l):F' b:=by
 generalize hm:false=m at h
 cases h with
 |lit=>cases hb
 |nil=>cases hb
 |shr=>cases hb
 |own=>cases hm
def IV(E:Env U)(σ:af U)(w:World)(F:Nat->Prop)(kv:Key->Value)(fp:Key->List Nat)(l8:Nat)(ks:List Key)(l:List Nat)(us:List (Key×ir U))(es:List (Nat×ir U))(w':World)(F':Nat->Prop)(ml:List Nat):Prop:=
 ∃(tl:List (Key×ir U×List Nat))(t:eZ U),tl.map (fun t=>(t.1,t.2.1))=us/\es=t.es/\
  (∀s∈tl,∀kv' fp' bad',(∀k,Names σ k->kv' k=kv k)->(∀s∈t,kv' (l8,s.1)=s.2.2.1)->ri E w' F' kv' fp' bad' s.2.1 (kv s.1) s.2.2)/\
  (∀s∈t,∀kv' fp' bad',ri E w' F' kv' fp' bad' s.2.1 s.2.2.1 s.2.2.2)/\
  (tl.flatMap (·.2.2)++t.bl).Nodup/\∀b∈tl.flatMap (·.2.2)++t.bl,b∈ml\/(b∉l/\∃k∈ks,b∈fp k)
theorem ajC{tb:o7 U}{want:Option U.Ty}{x:AC U}{ps:List Prop}{c:U.C}{ks:List Key}{d:Bool}(h:rO tb want x=some (ps,c,ks,d)):∀k∈ks,k∈x.keys:=by
 unfold rO at h
 split at h
 ·cases h;simp
 ·cases h;simp
 ·split at h<;>cases h;simp
 ·split at h<;>cases h<;>simp[AC.keys]
 ·split at h<;>cases h<;>simp[AC.keys]
 ·cases h
theorem aai{tb:o7 U}:∀{xs:List (AC U)}{want:List (Option U.Ty)}{ps:List Prop}{cs:List U.C}{ks:List Key}{d:Bool},eL tb want xs=some (ps,cs,ks,d)->cs.length=xs.length
 |[],want,ps,cs,ks,d,h=>by
  simp only[eL,fJ,nE] at h
  obtain⟨_,rfl,_⟩:=h
  rfl
 |x::xs,want,ps,cs,ks,d,h=>by
  simp only[eL] at h
  split at h
  ·rename_i h1 h2
   cases h
   simp[aai h2]
  ·cases h
theorem kX.A7{xs:List (AC U)}{vs:List Value}(h:kX E w F kv fp bad xs vs):∀v∈vs,fA v:=by
 intro v hv
 obtain⟨n,hn,rfl⟩:=tX hv
 exact(h.2 n (xs[n]'(by rw[h.1];exact hn)) _ (gg _) (gg hn)).1
theorem Wb{tb:o7 U}:∀{xs:List (AC U)}{want:List (Option U.Ty)}{ps:List Prop}{cs:List U.C}{ks:List Key}{d:Bool},eL tb want xs=some (ps,cs,ks,d)->∀k∈ks,∃x∈xs,k∈x.keys
 |[],want,ps,cs,ks,d,h,k,hk=>by
  simp only[eL,fJ,nE] at h
  obtain⟨_,_,rfl,_⟩:=h
  cases hk
 |x::xs,want,ps,cs,ks,d,h,k,hk=>by
  simp only[eL] at h
  split at h
  ·rename_i h1 h2
   cases h
   rcases kA.1 hk with hk|hk
   ·exact⟨x,dw,ajC h1 k hk⟩
   ·obtain⟨y,hy,hk⟩:=Wb h2 k hk
    exact⟨y,bi _ hy,hk⟩
  ·cases h
theorem V'{tb:o7 U}:∀{xs:List (AC U)}{cs:List U.C}{ks:List Key},i_ tb xs=some (cs,ks)->∀k∈ks,∃x∈xs,k∈x.keys
 |[],cs,ks,h,k,hk=>by
  simp only[i_,fJ,nE] at h
  obtain⟨_,rfl⟩:=h
  cases hk
 |x::xs,cs,ks,h,k,hk=>by
  unfold i_ at h
  split at h
  ·rename_i nV;cases nV
  ·rename_i nV;cases nV
   split at h
   ·rename_i h1
    cases h
    obtain⟨y,hy,hk⟩:=V' h1 k hk
    exact⟨y,bi _ hy,hk⟩
   ·cases h
  ·rename_i nV;cases nV
   split at h
   ·rename_i h0 h1
    cases h
    rcases jw.1 hk with rfl|hk
    ·exact⟨_,dw,by simp[AC.keys]⟩
    ·obtain⟨y,hy,hk⟩:=V' h1 k hk
     exact⟨y,bi _ hy,hk⟩
   ·cases h
  ·cases h
theorem akV{rs:List Key}{want:List (Option U.Ty)}{m:Mode}{x:SV U}{ps:List Prop}{d:DV U}{ks:List Key}(h:k9 (restrict σ.bH rs) σ.aC want m x=some (ps,d,ks))(sM:∀k∈x.keys,Names σ k):∀k∈ks,Names σ k:=by
 unfold k9 at h
 split at h
 ·split at h
  ·rw[gT] at h
   split at h
   ·split at h
    ·cases h
     intro k hk
     exact sM k (by simpa[SV.keys,SV.yL,AC.keys] using hk)
    ·cases h
   ·cases h
  ·cases h
 ·rename_i cs
  split at h
  ·rename_i hw
   rw[gT] at h
   split at h
   ·cases h
    intro k hk
    obtain⟨y,hy,hk⟩:=V' hw k hk
    exact sM k (SV.mem_keys.2 ⟨y,hy,hk⟩)
   ·cases h
  ·cases h
 ·rename_i y
  split at h
  ·rename_i hw
   split at h
   ·rw[gT] at h
    split at h
    ·cases h
     intro k hk
     obtain⟨z,hz,hk⟩:=Wb hw k hk
     exact sM k (SV.mem_keys.2 ⟨z,hz,hk⟩)
    ·cases h
   ·cases h
  ·cases h
 ·rename_i k0
  have yC:Names σ k0:=sM k0 (by simp[SV.keys,SV.yL,AC.keys])
  split at h
  ·rename_i cs he
   rw[gT] at h
   split at h
   ·split at h
    ·rename_i hw
     rw[gT] at h
     split at h
     ·cases h
      intro k hk
      rcases jw.1 hk with rfl|hk
      ·exact yC
      ·obtain⟨z,hz,hk⟩:=Wb hw k hk
       exact .inr ⟨k0,cs,jx he,z,List.mem_of_mem_take hz,hk⟩
     ·cases h
    ·cases h
   ·cases h
  ·cases h
 ·rename_i k0
  have yC:Names σ k0:=sM k0 (by simp[SV.keys,SV.yL,AC.keys])
  split at h
  ·rw[gT] at h
   split at h
   ·split at h
    ·cases h
     intro k hk
     rw[oa.1 hk]
     exact yC
    ·cases h
   ·cases h
  ·cases h
 ·cases h
theorem akU(h:cG E pm F kv fp σ a w){rs:List Key}{want:List (Option U.Ty)}{m:Mode}{x:SV U}{v:Value}{ps:List Prop}{d:DV U}{ks:List Key}
  (ha:k9 (restrict σ.bH rs) σ.aC want m x=some (ps,d,ks)) (hp:∀p∈ps,p) (hx:RS E w F kv fp (bW σ) x v) (sM:∀k∈x.keys,Names σ k)
  {l8:Nat} {dm:List (DV U)} {us:List (Key×ir U)} {es:List (Nat×ir U)} (iq:gY (restrict σ.bH rs) l8 want.length m x dm=some (us,es)):
  ∃l,mg E w F m d v l/\ks.Nodup/\(∀k∈ks,(σ.bH k).isSome=true)/\l.Nodup/\(∀b∈l,∃k∈ks,b∈fp k)/\
   (us.map (·.1)).Nodup/\(∀u∈us,u.1∈ks)/\
    ∀(w':World)(F':Nat->Prop)(iB:List (List Nat)),eR E w' F' w [m] [v] dm iB->(∀b,F b->F' b/\w'.heap[b]? =w.heap[b]?)->(∀k∈ks,∀c∈fp k,c∉l->w'.heap[c]? =w.heap[c]?)->iB.flatten.Nodup->
     (∀b∈iB.flatten,b∈l\/∀k∈ks,b∉fp k)->IV E σ w F kv fp l8 ks l us es w' F' iB.flatten:=by
 have jq:∀{k:Key}{b:Nat},(σ.bH k).isSome=true->b∈fp k->b<w.heap.size:=by
  intro k b hk hb
  obtain⟨e,he⟩:=lJ.1 hk
  exact(h.ff k e b he hb).2.2
 unfold k9 at ha
 split at ha
 ·
  rename_i k p
  split at ha
  ·rename_i y he
   have eG:=jx he
   cases gU:fg (restrict σ.bH rs) σ.aC k p<;>simp only[gU,cond_false,cond_true] at ha
   ·cases ha
   ·split at ha
    ·rename_i Ga b hw
     cases ha
     have yA:=DH hx
     have mN:=cn yA (DF gU he)
     have h0:eu E w F true y (kv k) (fp k):=h.cV k _ eG
     have XE:(σ.bH k).isSome=true:=by rw[eG];rfl
     unfold gY at iq
     split at iq
     ·rename_i k' p' τ ys nV
      cases nV
      simp only[he] at iq
      split at iq
      ·rename_i a' SB
       cases iq
       obtain⟨vb,Lg,pre,post,b',f1,f2,f3,f4,f5⟩:=h0.focus (h.nodup k _ eG) hw hp SB
       have hvb:v=vb:=mN.unique f2
       subst hvb
       have hn:=h.nodup k _ eG
       rw[f4,pu,pu] at hn
       refine⟨Lg,f3,by simp,by simpa using XE,hn.1.2.1,fun c hc=>⟨k,by simp,by rw[f4];simp[hc]⟩,by simp,by simp,fun w' F' iB Gt xM iA HC KE=> ?_⟩
       cases iB with
       |nil=>exact Gt.elim
       |cons l' iB=>
        obtain⟨Be,Bc⟩:=Gt
        cases iB with
        |cons _ _=>exact Bc.elim
        |nil=>
         obtain⟨⟨n1,n2,n3⟩,n4,n5⟩:=hn
         have uj:∀c∈pre++post,c∈fp k/\c∉Lg:=by
          intro c hc
          rcases kA.1 hc with hc|hc
          ·exact⟨by rw[f4];simp[hc],fun ln=>n3 c hc c ln rfl⟩
          ·exact⟨by rw[f4];simp[hc],fun ln=>n5 c (oq _ ln) c hc rfl⟩
         have Sn:∀c∈pre++post,c∉l':=by
          intro c hc ln
          rcases KE c (by simpa using ln) with g|g
          ·exact(uj c hc).2 g
          ·exact g k (by simp) (uj c hc).1
         refine⟨[(k,.arr a' true,pre++l'++post)],[],rfl,rfl,fun s hs kv' fp' bad' _ _=> ?_,by simp,?_,fun c hc=> ?_⟩
         ·rw[oa.1 hs]
          split at f1
          ·rename_i zs hz
           have:=dC hz
           cases this
           cases f1
           exact f5 w' F' l' rfl Be (fun c hc=>iA k (by simp) c (uj c hc).1 (uj c hc).2)
          ·cases f1
         ·simp only[xv,Zw,tV,eZ.bl]
          have D1:l'.Nodup:=by simpa using HC
          rw[pu,pu]
          refine⟨⟨n1,D1,fun c hc e he e'=>Sn c (pw _ hc) (e'▸he)⟩,n4,fun c hc e he e'=> ?_⟩
          rcases kA.1 hc with hc|hc
          ·exact n5 c (pw _ hc) e he e'
          ·exact Sn e (oq _ he) (e'▸hc)
         ·simp only[xv,Zw,tV,eZ.bl,kA] at hc
          rcases hc with(hc|hc)|hc
          ·exact .inr ⟨(uj c (pw _ hc)).2,k,by simp,(uj c (pw _ hc)).1⟩
          ·exact .inl (by simpa using hc)
          ·exact .inr ⟨(uj c (oq _ hc)).2,k,by simp,(uj c (oq _ hc)).1⟩
      ·cases iq
     all_goals first|(rename_i nV;cases nV;done)|(rename_i nV _;cases nV;done)|cases iq
    ·cases ha
  ·cases ha
 ·
  rename_i cs
  split at ha
  ·rename_i ds ks0 hw
   rw[gT] at ha
   split at ha
   ·rename_i qp
    cases ha
    have xK:=rW.1 qp
    obtain⟨vs,Ic,hv⟩:=hx
    simp only[if_true] at hv
    obtain⟨g1,g2,fl,f1,f2,f3⟩:=V9 h hw Ic
    unfold gY at iq
    split at iq
    ·rename_i nV;cases nV
    ·rename_i tt ds' nV
     cases nV
     split at iq
     ·rename_i Le hu
      cases iq
      have yC:us.map (·.1)=ks:=by
       have:∀{xs:List (AC U)}{cs tt:List U.C}{ks:List Key}{us:List (Key×ir U)},i_ (restrict σ.bH rs) xs=some (cs,ks)->lj xs tt=some us->us.map (·.1)=ks:=by
        intro xs
        induction xs with
        |nil=>
         intro cs tt ks us h1 h2
         simp only[i_,fJ,nE] at h1
         cases tt with
         |cons _ _=>simp[lj] at h2
         |nil=>simp only[lj,fJ] at h2;subst h2;rw[<-h1.2];rfl
        |cons x xs ih=>
         intro cs tt ks us h1 h2
         unfold i_ at h1
         split at h1
         ·rename_i nV;cases nV
         ·rename_i u r nV
          cases nV
          split at h1
          ·rename_i cs0 ks0 hr
           cases h1
           cases tt with
           |nil=>simp[lj] at h2
           |cons c tt=>cases c with
            |sl _ _=>simp[lj] at h2
            |lit _=>simp only[lj] at h2;exact ih hr h2
          ·cases h1
         ·rename_i k r nV
          cases nV
          split at h1
          ·rename_i y cs0 ks0 he hr
           cases h1
           cases tt with
           |nil=>simp[lj] at h2
           |cons c tt=>cases c with
            |lit _=>simp[lj] at h2
            |sl τ ys=>
             simp only[lj] at h2
             split at h2
             ·rename_i Le qg
              cases h2
              simp[ih hr qg]
             ·cases h2
          ·cases h1
         ·cases h1
       exact this hw hu
      refine⟨fl.flatten,⟨vs,fl,hv,by rw[g1];exact Ic.1.symm,f1,f2,rfl⟩,xK,g2,by rw[f3];exact Wv h xK g2,fun c hc=>by rw[f3] at hc;exact nl.1 hc,by rw[yC];exact xK,fun u qg=>by rw[<-yC];exact lH.2 ⟨u,qg,rfl⟩,fun w' F' iB Gt xM iA HC KE=> ?_⟩
      cases iB with
      |nil=>exact Gt.elim
      |cons l' iB=>
       obtain⟨Be,Bc⟩:=Gt
       cases iB with
       |cons _ _=>exact Bc.elim
       |nil=>
        obtain⟨tY,fl',e1,e2,e3,e4,e5⟩:=Be
        rw[hv] at e1
        have:tY=vs:=by simpa using e1.symm
        subst this
        obtain⟨i1,tl,i2,i3,i4⟩:=V8 (w':=w') (F':=F') h hw Ic hu e3 e4
        have D1:l'.Nodup:=by simpa using HC
        refine⟨tl,[],i2,rfl,fun s hs kv' fp' bad' _ _=>i3 s hs kv' fp' bad',by simp,?_,fun c hc=> ?_⟩
        ·rw[i4,<-e5];simpa[eZ.bl] using D1
        ·rw[i4,<-e5] at hc
         exact .inl (by simpa[eZ.bl] using hc)
     ·cases iq
    all_goals first|(rename_i nV;cases nV;done)|(rename_i nV _;cases nV;done)|cases iq
   ·cases ha
  ·cases ha
 ·
  rename_i y
  split at ha
  ·rename_i Ga cs ks' ht
   split at ha
   ·rename_i d' hd
    rw[gT] at ha
    split at ha
    ·rename_i qp
     cases ha
     have xK:=rW.1 qp
     obtain⟨vs,Ic,hv⟩:=hx
     obtain⟨g1,g2,g3,_⟩:=HV h ht hp Ic xK
     obtain⟨fl,f1,f2,f3,f4⟩:=g3 rfl
     have mo:mg E w F .mv d v fl.flatten:=by
      unfold Iw at hd
      cases OX:y.agg<;>rw[OX] at hd hv<;>simp only[cond_true,cond_false,wE,if_false,if_true] at hd hv
      ·split at hd
       ·cases hd
        subst hv
        simp only[n_,om] at f1
        obtain⟨l,rfl⟩:=List.length_eq_one_iff.1 f1
        simpa[mg] using f2 0 _ rfl
       ·cases hd
      ·cases hd
       exact⟨vs,fl,hv,by rw[g1];exact Ic.1.symm,f1,f2,rfl⟩
     have hdm:dm=[]/\us=[]/\es=[]:=by
      cases dm with
      |nil=>simp only[gY,fJ,nE] at iq;exact⟨rfl,iq.1.symm,iq.2.symm⟩
      |cons _ _=>simp[gY] at iq
     obtain⟨rfl,rfl,rfl⟩:=hdm
     refine⟨fl.flatten,mo,xK,g2,f3,f4,by simp,by simp,fun w' F' iB Gt xM iA HC KE=> ?_⟩
     have:iB=[]:=by cases iB with|nil=>rfl|cons _ _=>exact Gt.elim
     subst this
     exact⟨[],[],rfl,rfl,by simp,by simp,by simp[eZ.bl],by simp[eZ.bl]⟩
    ·cases ha
   ·cases ha
  ·cases ha
 ·
  rename_i k
  split at ha
  ·rename_i cs he
   have eG:=jx he
   have XE:(σ.bH k).isSome=true:=by rw[eG];rfl
   rw[gT] at ha
   split at ha
   ·rename_i XY
    simp only[eE,OL] at XY
    obtain⟨Sm,pZ⟩:=XY
    split at ha
    ·rename_i Ga l0 ks' ht
     rw[gT] at ha
     split at ha
     ·rename_i qp
      cases ha
      have xK:=rW.1 qp
      obtain⟨b,h1,h2⟩:=cn (DH hx) rfl
      obtain⟨b',cur,e,h3,h4,h5,h6⟩:=h.cV k _ eG
      rw[h1] at h3;cases h3
      subst h2
      have hlen:cs.length=cur.size:=by have:=h6.1;simpa using this
      obtain⟨g1,g2,g3,_⟩:=HV h ht hp (h6.take want.length) (rv.1 xK).2
      obtain⟨fl,f1,f2,f3,f4⟩:=g3 rfl
      have Im:l0.length=want.length:=by rw[g1,od];omega
      have kI:∀u∈cur.toList.drop l0.length,fA u:=(h6.drop l0.length).A7
      have qm:∀(i:Nat)(c:U.C),l0[i]? =some c->cur.toList.getD i undef=(cur.toList.take want.length).getD i undef:=by
       intro i c hc
       have hi:i<want.length:=by
        rw[<-Im]
        rcases mX i l0.length with g|g
        ·exact g
        ·rw[mi g] at hc;cases hc
       simp only[fY,nF,if_pos hi]
      have X1:b∉fl.flatten:=by
       intro hb
       obtain⟨k',cM,aY⟩:=f4 b hb
       obtain⟨e2,rD⟩:=lJ.1 (g2 k' cM)
       exact h.apart k k' _ e2 b (fun e=>(rv.1 xK).1 (by rw[e];exact cM)) eG rD (by rw[h5];simp) aY
      have hdm:∃ds,dm=[.box ds]/\ds.length=want.length/\us=[(k,.box ((putCells l8 true 512 ds).1++cs.drop want.length))]/\es=(putCells l8 true 512 ds).2:=by
       cases dm with
       |nil=>simp[gY] at iq
       |cons d0 dm=>
        cases dm with
        |cons _ _=>simp[gY] at iq
        |nil=>
         cases d0 with
         |one _=>simp[gY] at iq
         |agg _=>simp[gY] at iq
         |ptr _=>simp[gY] at iq
         |fn _=>simp[gY] at iq
         |box ds=>
          simp only[gY,he] at iq
          rw[gT] at iq
          split at iq
          ·rename_i Gu
           cases iq
           exact⟨ds,rfl,lN Gu,rfl,rfl⟩
          ·cases iq
      obtain⟨ds,rfl,D7,rfl,rfl⟩:=hdm
      refine⟨b::fl.flatten,⟨b,cur,e,fl,rfl,h4,by omega,by rw[HW h4],by rw[HW h4];exact kI,f1,fun i c hc=>by rw[qm i c hc];exact f2 i c hc,rfl⟩,xK,fun k' cM=>by
       rcases jw.1 cM with rfl|cM
       ·exact XE
       ·exact g2 k' cM,rv.2 ⟨X1,f3⟩,fun c hc=>by
       rcases jw.1 hc with rfl|hc
       ·exact⟨k,by simp,by rw[h5];simp⟩
       ·obtain⟨k',cM,hc⟩:=f4 c hc;exact⟨k',bi _ cM,hc⟩,by simp,by simp,fun w' F' iB Gt xM iA HC KE=> ?_⟩
      cases iB with
      |nil=>exact Gt.elim
      |cons l' iB=>
       obtain⟨Be,Bc⟩:=Gt
       cases iB with
       |cons _ _=>exact Bc.elim
       |nil=>
        obtain⟨b2,cur',e',fl',k1,k2,k3,k4,k5,k6,k7,rfl⟩:=Be
        cases k1
        rw[HW h4,D7] at k4
        have D1:(b::fl'.flatten).Nodup:=by simpa using HC
        have gU:cur'.toList.take ds.length++cur'.toList.drop ds.length=cur'.toList:=Lq _ _
        obtain⟨t,t1,t2,t3,t4⟩:=F5 (E:=E) (w:=w') (F:=F') (dst:=l8) (base:=512) (cs:=ds) (vs:=cur'.toList.take ds.length) (fl:=fl') (by simp;omega) k6 (fun i c hc=>by
         have hi:i<ds.length:=by
          rcases mX i ds.length with g|g
          ·exact g
          ·rw[mi g] at hc;cases hc
         have:=k7 i c hc
         rw[fY,nF,if_pos hi,<-fY]
         exact this)
        refine⟨[(k,.box ((putCells l8 true 512 ds).1++cs.drop want.length),[b])],t,rfl,t1,fun s hs kv' fp' bad' XG OP=> ?_,t2,?_,fun c hc=> ?_⟩
        ·rw[oa.1 hs]
         refine⟨b,cur',e',h1,k2,rfl,?_⟩
         rw[<-gU]
         refine(t4 kv' fp' bad' OP).append ?_
         rw[D7,k4]
         exact aak pZ (h6.drop want.length) (fun y hy k' cM=>XG k' (.inr ⟨k,cs,eG,y,List.mem_of_mem_drop hy,cM⟩)) xM
        ·simp only[xv,Zw,tV]
         rw[t3]
         exact D1
        ·simp only[xv,Zw,tV] at hc
         rw[t3] at hc
         exact .inl (by simpa using hc)
     ·cases ha
    ·cases ha
   ·cases ha
  ·cases ha
 ·
  rename_i k
  split at ha
  ·rename_i cs he
   have eG:=jx he
   have XE:(σ.bH k).isSome=true:=by rw[eG];rfl
   rw[gT] at ha
   split at ha
   ·rename_i XY
    simp only[eE,OL] at XY
    obtain⟨Sm,pZ⟩:=XY
    split at ha
    ·rename_i l0 yB
     cases ha
     have sN:=J' yB
     obtain⟨b,h1,h2⟩:=cn (DH hx) rfl
     obtain⟨b',cur,e,h3,h4,h5,h6⟩:=h.cV k _ eG
     rw[h1] at h3;cases h3
     subst h2
     have hlen:cs.length=cur.size:=by have:=h6.1;simpa using this
     have Im:l0.length=want.length:=by
      have:=congrArg List.length sN
      rw[od,BV] at this
      omega
     have kI:∀u∈cur.toList.drop l0.length,fA u:=(h6.drop l0.length).A7
     have hdm:∃ds,dm=[.box ds]/\ds.length=want.length/\us=[(k,.box (ds.map .c++cs.drop want.length))]/\es=[]:=by
      cases dm with
      |nil=>simp[gY] at iq
      |cons d0 dm=>
       cases dm with
       |cons _ _=>simp[gY] at iq
       |nil=>
        cases d0 with
        |one _=>simp[gY] at iq
        |agg _=>simp[gY] at iq
        |ptr _=>simp[gY] at iq
        |fn _=>simp[gY] at iq
        |box ds=>
         simp only[gY,he] at iq
         rw[gT] at iq
         split at iq
         ·rename_i Gu
          cases iq
          exact⟨ds,rfl,lN Gu,rfl,rfl⟩
         ·cases iq
     obtain⟨ds,rfl,D7,rfl,rfl⟩:=hdm
     refine⟨[b],⟨b,cur,e,List.replicate l0.length [],rfl,h4,by omega,by rw[HW h4],by rw[HW h4];exact kI,by simp,fun i c hc=> ?_,by rw[wS]⟩,by simp,by simpa using XE,by simp,by simp[h5],by simp,by simp,fun w' F' iB Gt xM iA HC KE=> ?_⟩
     ·have hi:i<want.length:=by
       rw[<-Im]
       rcases mX i l0.length with g|g
       ·exact g
       ·rw[mi g] at hc;cases hc
      have hci:cs[i]? =some (.c c):=by
       have:(cs.take want.length)[i]? =some (.c c):=by rw[sN,lZ,hc];rfl
       rwa[nF,if_pos hi] at this
      have h7:=cn (h6.2 i (.c c) (cur.toList.getD i undef) hci (eH (by simp;omega))) rfl
      rw[DD]
      exact h7
     ·cases iB with
      |nil=>exact Gt.elim
      |cons l' iB=>
       obtain⟨Be,Bc⟩:=Gt
       cases iB with
       |cons _ _=>exact Bc.elim
       |nil=>
        obtain⟨b2,cur',e',fl',k1,k2,k3,k4,k5,k6,k7,rfl⟩:=Be
        cases k1
        rw[HW h4,D7] at k4
        have D1:(b::fl'.flatten).Nodup:=by simpa using HC
        have gU:cur'.toList.take ds.length++cur'.toList.drop ds.length=cur'.toList:=Lq _ _
        refine⟨[(k,.box (ds.map .c++cs.drop want.length),[b])],[],rfl,rfl,fun s hs kv' fp' bad' XG OP=> ?_,by simp,by simp[eZ.bl],fun c hc=> ?_⟩
        ·rw[oa.1 hs]
         refine⟨b,cur',e',h1,k2,rfl,?_⟩
         rw[<-gU]
         refine kX.append ?_ ?_
         ·refine H0 (by simp;omega) (fun i c hc=> ?_)
          have hi:i<ds.length:=by
           rcases mX i ds.length with g|g
           ·exact g
           ·rw[mi g] at hc;cases hc
          have:=k7 i c hc
          rw[fY,nF,if_pos hi,<-fY]
          exact this.kD (fun _ hb=>hb) (fun b' aY=>this.P5 aY)
         ·rw[D7,k4]
          exact aak pZ (h6.drop want.length) (fun y hy k' cM=>XG k' (.inr ⟨k,cs,eG,y,List.mem_of_mem_drop hy,cM⟩)) xM
        ·simp only[xv,Zw,tV,eZ.bl,oa] at hc
         subst hc
         exact .inl (by simp)
    ·cases ha
   ·cases ha
  ·cases ha
 ·cases ha
theorem pW.fh{own:Bool}{cs:List U.C}{rest:List Value}{v:Value}{l:List Nat}(h:pW E w F own cs rest v l)(hF:∀b,F b->F' b):pW E w F' own cs rest v l:=by
 obtain⟨b,cur,e,fl,h1,h2,h3,h4,h5,h6,h7,h8⟩:=h
 exact⟨b,cur,e,fl,h1,h2,h3,h4,h5,h6,fun i c hc=>(h7 i c hc).fE (fun b hb=>⟨hF b hb,rfl⟩) (fun _ _=>rfl),h8⟩
theorem mg.fh{m:Mode}{d:DV U}{v:Value}{l:List Nat}(hm:m≠ .ro)(h:mg E w F m d v l)(hF:∀b,F b->F' b):mg E w F' m d v l:=by
 cases m with
 |ro=>exact absurd rfl hm
 |wr=>
  cases d with
  |one c=>
   cases c with
   |lit _=>exact h
   |sl τ xs=>exact eu.any h
  |agg _=>exact lp.any h
  |box _=>exact h
  |ptr _=>exact h
  |fn _=>exact h
 |mv=>
  cases d with
  |one c=>exact Rp.rr h (fun _ _=>rfl)
  |agg _=>exact lp.any h
  |box _=>exact h
  |ptr _=>exact h
  |fn _=>exact h
 |box own=>
  cases d with
  |box cs=>exact pW.fh h hF
  |one _=>exact h
  |agg _=>exact h
  |ptr _=>exact h
  |fn _=>exact h
theorem aam(h:cG E pm F kv fp σ a w){ks ks':List Key}(hn:(ks++ks').Nodup)(hl:∀k∈ks,(σ.bH k).isSome=true)(D3:∀k∈ks',(σ.bH k).isSome=true){b:Nat}(hb:∃k∈ks,b∈fp k):∀k∈ks',b∉fp k:=by
 intro k' cM aY
 obtain⟨k,hk,hb⟩:=hb
 obtain⟨e,he⟩:=lJ.1 (hl k hk)
 obtain⟨e2,rD⟩:=lJ.1 (D3 k' cM)
 exact h.apart k k' e e2 b (fun e3=>(pu.1 hn).2.2 k hk k' cM e3) he rD hb aY
theorem WN{a1 a2 b1 b2:List Nat}(n1:(a1++b1).Nodup)(n2:(a2++b2).Nodup)(x:∀b∈a1++b1,b∉a2++b2):((a1++a2)++(b1++b2)).Nodup:=by
 have hp:((a1++a2)++(b1++b2)).Perm ((a1++b1)++(a2++b2)):=by
  rw[xu,xu]
  refine List.Perm.append_left a1 ?_
  rw[<-xu,<-xu]
  exact List.Perm.append_right b2 List.perm_append_comm
 rw[hp.nodup_iff,pu]
 exact⟨n1,n2,fun b hb c hc e=>x b hb (e▸hc)⟩
theorem IV.merge(h:cG E pm F kv fp σ a w){ks ks':List Key}(hn:(ks++ks').Nodup)(hl:∀k∈ks,(σ.bH k).isSome=true)(D3:∀k∈ks',(σ.bH k).isSome=true){l8:Nat}{l l':List Nat}{us Le:List (Key×ir U)}{es Yb:List (Nat×ir U)}{ml ml':List Nat}
  (h1:IV E σ w F kv fp l8 ks l us es w' F' ml) (h2:IV E σ w F kv fp l8 ks' l' Le Yb w' F' ml') (HC:(ml++ml').Nodup) (hf:∀b∈l,∃k∈ks,b∈fp k) (Zk:∀b∈l',∃k∈ks',b∈fp k)
  (ho:∀b∈ml++ml',b∈l++l'\/∀k∈ks++ks',b∉fp k):IV E σ w F kv fp l8 (ks++ks') (l++l') (us++Le) (es++Yb) w' F' (ml++ml'):=by
 obtain⟨tl,t,a1,a2,a3,a4,a5,a6⟩:=h1
 obtain⟨tl',t',b1,b2,b3,b4,b5,b6⟩:=h2
 have vq:∀{b:Nat},(∃k∈ks,b∈fp k)->¬∃k∈ks',b∈fp k:=fun hb hc=>by
  obtain⟨k,hk,ln⟩:=hc
  exact aam h hn hl D3 hb k hk ln
 have hx:∀b∈tl.flatMap (·.2.2)++t.bl,b∉tl'.flatMap (·.2.2)++t'.bl:=by
  intro b hb aY
  rcases a6 b hb with g|⟨g,gk⟩
  ·rcases b6 b aY with g'|⟨g',gk'⟩
   ·exact(pu.1 HC).2.2 b g b g' rfl
   ·rcases ho b (pw _ g) with q|q
    ·rcases kA.1 q with q|q
     ·exact vq (hf b q) gk'
     ·exact g' q
    ·obtain⟨k,hk,iq⟩:=gk'
     exact q k (oq _ hk) iq
  ·rcases b6 b aY with g'|⟨g',gk'⟩
   ·rcases ho b (oq _ g') with q|q
    ·rcases kA.1 q with q|q
     ·exact g q
     ·exact vq gk (Zk b q)
    ·obtain⟨k,hk,iq⟩:=gk
     exact q k (pw _ hk) iq
   ·exact vq gk gk'
 refine⟨tl++tl',t++t',by rw[La,a1,b1],by rw[eZ.CX,a2,b2],fun s hs kv' fp' bad' q1 q2=> ?_,fun s hs=> ?_,?_,fun b hb=> ?_⟩
 ·rcases kA.1 hs with hs|hs
  ·exact a3 s hs kv' fp' bad' q1 fun s' jG=>q2 s' (pw _ jG)
  ·exact b3 s hs kv' fp' bad' q1 fun s' jG=>q2 s' (oq _ jG)
 ·rcases kA.1 hs with hs|hs
  ·exact a4 s hs
  ·exact b4 s hs
 ·rw[UN,eZ.tu]
  exact WN a5 b5 hx
 ·rw[UN,eZ.tu] at hb
  have hb:b∈tl.flatMap (·.2.2)++t.bl\/b∈tl'.flatMap (·.2.2)++t'.bl:=by
   simp only[kA] at hb⊢
   rcases hb with(hb|hb)|(hb|hb)
   ·exact .inl (.inl hb)
   ·exact .inr (.inl hb)
   ·exact .inl (.inr hb)
   ·exact .inr (.inr hb)
  rcases hb with hb|hb
  ·rcases a6 b hb with g|⟨g,k,hk,iq⟩
   ·exact .inl (pw _ g)
   ·exact .inr ⟨fun q=>(kA.1 q).elim g (fun q=>vq ⟨k,hk,iq⟩ (Zk b q)),k,pw _ hk,iq⟩
  ·rcases b6 b hb with g|⟨g,k,hk,iq⟩
   ·exact .inl (oq _ g)
   ·exact .inr ⟨fun q=>(kA.1 q).elim (fun q=>vq (hf b q) ⟨k,hk,iq⟩) g,k,oq _ hk,iq⟩
theorem eR.split{w0:World}{m:Mode}{v:Value}{ms:List Mode}{vs:List Value}{dm:List (DV U)}{iB:List (List Nat)}(hm:m≠ .ro)(h:eR E w F w0 (m::ms) (v::vs) dm iB):
  ∃CD P6,iB=CD++P6/\eR E w F w0 [m] [v] (yt m dm) CD/\eR E w F w0 ms vs (u4 m dm) P6:=by
 cases m with
 |ro=>exact absurd rfl hm
 |mv=>exact⟨[],iB,rfl,trivial,by simpa[eR,u4] using h⟩
 |wr=>
  cases dm with
  |nil=>cases iB<;>exact h.elim
  |cons d dm=>
   cases iB with
   |nil=>cases d<;>first|exact h.elim|(rename_i c;cases c<;>exact h.elim)
   |cons l' iB=>
    cases d with
    |one c=>
     cases c with
     |lit _=>exact h.elim
     |sl τ ys=>exact⟨[l'],iB,rfl,⟨h.1,trivial⟩,h.2⟩
    |agg _=>exact⟨[l'],iB,rfl,⟨h.1,trivial⟩,h.2⟩
    |box _=>exact h.elim
    |ptr _=>exact h.elim
    |fn _=>exact h.elim
 |box own=>
  cases dm with
  |nil=>cases iB<;>exact h.elim
  |cons d dm=>
   cases iB with
   |nil=>cases d<;>exact h.elim
   |cons l' iB=>
    cases d with
    |box cs=>exact⟨[l'],iB,rfl,⟨h.1,trivial⟩,h.2⟩
    |one _=>exact h.elim
    |agg _=>exact h.elim
    |ptr _=>exact h.elim
    |fn _=>exact h.elim
theorem aj3(h:cG E pm F kv fp σ a w){rs:List Key}{n:Nat}:∀{ms:List Mode}{ws:List (List (Option U.Ty))}{xs:List (SV U)}{vs:List Value}{ps:List Prop}{ds:List (DV U)},
  mf E (restrict σ.bH rs) σ.aC ms ws xs=some (ps,ds)->xs.length=vs.length->(∀(i:Nat)(x:SV U)(v:Value),xs[i]? =some x->vs[i]? =some v->RS E w F kv fp (bW σ) x v)->AI (restrict σ.bH rs) n ms ws xs=true->rh w n ms ds vs:=by
 intro ms
 induction ms with
 |nil=>intro ws xs vs ps ds _ _ _ _;trivial
 |cons m ms ih=>
  intro ws xs vs ps ds ha hl hx hr
  cases xs with
  |nil=>cases m<;>simp[mf] at ha
  |cons x xs=>
   cases vs with
   |nil=>simp at hl
   |cons v vs=>
    simp only[mf] at ha
    split at ha
    rotate_left
    ·cases ha
    rename_i ON d1 WJ Yf h1 h2
    cases ha
    simp only[AI,eE] at hr
    refine⟨fun own cs hm hd=> ?_,ih h2 (by simpa using hl) (fun i y u hy hu=>hx (i+1) y u (by simpa using hy) (by simpa using hu)) hr.2⟩
    subst hm
    subst hd
    have Cj:=hr.1
    split at Cj
    ·rename_i o1 k off Zm
     split at Cj
     rotate_left
     ·cases Cj
     rename_i bs he
     have eG:=jx he
     have hlen:=lN Cj
     simp only[sn] at h1
     split at h1
     rotate_left
     ·cases h1
     rename_i ps0 d0 ks0 lr
     cases h1
     have gU:cs.length=(ws.headD []).length/\off=0:=by
      cases own with
      |true=>
       cases off with
       |succ n'=>simp[k9] at lr
       |zero=>
        simp only[k9,he] at lr
        rw[gT] at lr
        split at lr
        rotate_left
        ·cases lr
        split at lr
        rotate_left
        ·cases lr
        rename_i q1 q2 q3 ht
        rw[gT] at lr
        split at lr
        rotate_left
        ·cases lr
        cases lr
        have:=aai ht
        rw[od] at this
        exact⟨by omega,rfl⟩
      |false=>
       cases off with
       |succ n'=>simp[k9] at lr
       |zero=>
        simp only[k9,he] at lr
        rw[gT] at lr
        split at lr
        rotate_left
        ·cases lr
        split at lr
        rotate_left
        ·cases lr
        rename_i l0 yB
        cases lr
        have:=congrArg List.length (J' yB)
        rw[od,BV] at this
        exact⟨by omega,rfl⟩
     obtain⟨gU,rfl⟩:=gU
     have hxv:=hx 0 _ v rfl rfl
     obtain⟨b,g1,g2⟩:=cn (DH hxv) rfl
     obtain⟨b',cur,e,g3,g4,g5,g6⟩:=h.cV k _ eG
     rw[g1] at g3;cases g3
     rw[g2,HW g4,J0,<-g6.1]
     omega
    ·cases Cj
    ·rename_i Jm _
     exact absurd rfl (Jm own)
theorem alP(hC:∀g k,E.K3 g=some k->wB E.P g/\ee E g k)(h:cG E pm F kv fp σ a w){rs:List Key}{K:List Key}{l8:Nat}:∀{ms:List Mode}{ws:List (List (Option U.Ty))}{xs:List (SV U)}{vs:List Value}{ps:List Prop}{ds dm:List (DV U)}{us:List (Key×ir U)}{es:List (Nat×ir U)}{lk:List Key},
  mf E (restrict σ.bH rs) σ.aC ms ws xs=some (ps,ds)->(∀p∈ps,p)->xs.length=vs.length->(∀(i:Nat)(x:SV U)(v:Value),xs[i]? =some x->vs[i]? =some v->RS E w F kv fp (bW σ) x v)->
  (∀x∈xs,∀k∈x.keys,Names σ k)->(∀k∈fu ms xs,(σ.bH k).isSome=true->k∈K)->k8 (restrict σ.bH rs) σ.aC l8 ms ws xs dm=some (us,es,lk)->
  ∃ls,iY E w (FK F fp K) ms ds vs ls/\lk.Nodup/\(∀k∈lk,(σ.bH k).isSome=true/\Names σ k)/\ls.flatten.Nodup/\(∀b∈ls.flatten,∃k∈lk,b∈fp k)/\(us.map (·.1)).Nodup/\(∀u∈us,u.1∈lk)/\
   ∀(w':World)(F':Nat->Prop)(iB:List (List Nat)),eR E w' F' w ms vs dm iB->(∀b,F b->F' b/\w'.heap[b]? =w.heap[b]?)->(∀k∈lk,∀c∈fp k,c∉ls.flatten->w'.heap[c]? =w.heap[c]?)->iB.flatten.Nodup->
    (∀b∈iB.flatten,b∈ls.flatten\/∀k∈lk,b∉fp k)->IV E σ w F kv fp l8 lk ls.flatten us es w' F' iB.flatten:=by
 intro ms
 induction ms with
 |nil=>
  intro ws xs vs ps ds dm us es lk ha hp hl hx sM hK hu
  cases xs with
  |cons x xs=>simp[mf] at ha
  |nil=>
   cases vs with
   |cons v vs=>simp at hl
   |nil=>
    cases dm with
    |cons d dm=>simp[k8] at hu
    |nil=>
     simp only[mf,fJ,nE] at ha
     obtain⟨rfl,rfl⟩:=ha
     simp only[k8,fJ,nE] at hu
     obtain⟨rfl,rfl,rfl⟩:=hu
     refine⟨[],trivial,by simp,by simp,by simp,by simp,by simp,by simp,fun w' F' iB hm _ _ _ _=> ?_⟩
     cases iB with
     |nil=>exact⟨[],[],rfl,rfl,by simp,by simp,by simp[eZ.bl],by simp[eZ.bl]⟩
     |cons _ _=>exact hm.elim
 |cons m ms ih=>
  intro ws xs vs ps ds dm us es lk ha hp hl hx sM hK hu
  cases xs with
  |nil=>cases m<;>simp[mf] at ha
  |cons x xs=>
   cases vs with
   |nil=>simp at hl
   |cons v vs=>
    simp only[mf] at ha
    split at ha
    ·rename_i ON d1 WJ Yf h1 h2
     cases ha
     have OO:∀(i:Nat)(y:SV U)(u:Value),xs[i]? =some y->vs[i]? =some u->RS E w F kv fp (bW σ) y u:=fun i y u hy hu=>hx (i+1) y u (by simpa using hy) (by simpa using hu)
     by_cases hm:m=.ro
     ·subst hm
      simp only[k8] at hu
      obtain⟨ls,i1,i2,i3,i4,i5,i6,i7,i8⟩:=ih h2 (fun p j_=>hp p (by simp[j_])) (by simpa using hl) OO (fun y hy=>sM y (bi _ hy)) (fun k hk=>hK k (by simp[fu,hk])) hu
      refine⟨[]::ls,⟨alS hC h h1 (fun p j_=>hp p (by simp[j_])) (hx 0 x v rfl rfl) (fun k hk=>hK k (by simp[fu,hk])),i1⟩,i2,i3,by simpa using i4,by simpa using i5,i6,i7,fun w' F' iB Gt xM iA HC KE=> ?_⟩
      have:=i8 w' F' iB (by simpa[eR] using Gt) xM (by simpa using iA) HC (by simpa using KE)
      simpa using this
     ·have qg:∃ps0 d0 ks ks' us1 es1 us2 es2,k9 (restrict σ.bH rs) σ.aC (ws.headD []) m x=some (ps0,d0,ks)/\gY (restrict σ.bH rs) l8 (ws.headD []).length m x (yt m dm)=some (us1,es1)/\k8 (restrict σ.bH rs) σ.aC l8 ms ws.tail xs (u4 m dm)=some (us2,es2,ks')/\(ks++ks').Nodup/\us=us1++us2/\es=es1++es2/\lk=ks++ks'/\ON=ps0/\d1=d0:=by
       have Sd:(match k9 (restrict σ.bH rs) σ.aC (ws.headD []) m x,gY (restrict σ.bH rs) l8 (ws.headD []).length m x (yt m dm) with
        |some (_,_,ks),some (us,es)=>match k8 (restrict σ.bH rs) σ.aC l8 ms ws.tail xs (u4 m dm) with
         |some (Le,Yb,ks')=>bif distinct (ks++ks') then some (us++Le,es++Yb,ks++ks') else none
         |none=>none
        |_,_=>none)=some (us,es,lk):=by
        cases m with
        |ro=>exact absurd rfl hm
        |wr=>exact hu
        |mv=>exact hu
        |box _=>exact hu
       split at Sd
       ·rename_i p0 d0 ks us0 es0 g1 g2
        split at Sd
        ·rename_i us2 es2 ks' g3
         rw[gT] at Sd
         split at Sd
         ·rename_i qp
          cases Sd
          have:sn E (restrict σ.bH rs) σ.aC (ws.headD []) m x=some (p0,d0):=by
           cases m with
           |ro=>exact absurd rfl hm
           |wr=>simp only[sn,g1]
           |mv=>simp only[sn,g1]
           |box _=>simp only[sn,g1]
          rw[this] at h1
          cases h1
          exact⟨_,_,ks,ks',_,_,_,_,g1,g2,g3,rW.1 qp,rfl,rfl,rfl,rfl,rfl⟩
         ·cases Sd
        ·cases Sd
       ·cases Sd
      obtain⟨ps0,d0,ks,ks',us1,es1,us2,es2,g1,g2,g3,xK,rfl,rfl,rfl,rfl,rfl⟩:=qg
      obtain⟨l,r1,r2,r3,r4,r5,r6,r7,r8⟩:=akU h g1 (fun p j_=>hp p (by simp[j_])) (hx 0 x v rfl rfl) (sM x dw) g2
      obtain⟨ls,i1,i2,i3,i4,i5,i6,i7,i8⟩:=ih h2 (fun p j_=>hp p (by simp[j_])) (by simpa using hl) OO (fun y hy=>sM y (bi _ hy)) (fun k hk=>hK k (by cases m<;>first|exact absurd rfl hm|simpa[fu] using hk)) g3
      have vq:∀{b:Nat},(∃k∈ks,b∈fp k)->¬∃k∈ks',b∈fp k:=fun hb hc=>by
       obtain⟨k,hk,ln⟩:=hc
       exact aam h xK r3 (fun k hk=>(i3 k hk).1) hb k hk ln
      refine⟨l::ls,⟨r1.fh hm (fun b hb=> .inl hb),i1⟩,xK,fun k hk=> ?_,?_,fun b hb=> ?_,?_,fun u hu=> ?_,fun w' F' iB Gt xM iA HC KE=> ?_⟩
      ·rcases kA.1 hk with hk|hk
       ·exact⟨r3 k hk,akV g1 (sM x dw) k hk⟩
       ·exact i3 k hk
      ·rw[HI,pu]
       exact⟨r4,i4,fun b hb c hc e=>vq (r5 b hb) (i5 b (e▸hc))⟩
      ·rw[HI] at hb
       rcases kA.1 hb with hb|hb
       ·obtain⟨k,hk,hb⟩:=r5 b hb;exact⟨k,pw _ hk,hb⟩
       ·obtain⟨k,hk,hb⟩:=i5 b hb;exact⟨k,oq _ hk,hb⟩
      ·rw[La,pu]
       refine⟨r6,i6,fun k hk k' cM e=> ?_⟩
       obtain⟨u,hu,rfl⟩:=lH.1 hk
       obtain⟨u',qg,rfl⟩:=lH.1 cM
       exact(pu.1 xK).2.2 _ (r7 u hu) _ (i7 u' qg) e
      ·rcases kA.1 hu with hu|hu
       ·exact pw _ (r7 u hu)
       ·exact oq _ (i7 u hu)
      obtain⟨CD,P6,rfl,q1,q2⟩:=Gt.split hm
      rw[Hw] at HC KE⊢
      rw[HI] at iA KE⊢
      have D1:=pu.1 HC
      have B1:=r8 w' F' CD q1 xM (fun k hk c hc gU=>iA k (pw _ hk) c hc (by
        rw[kA]
        exact fun hor=>hor.elim gU (fun q=>vq ⟨k,hk,hc⟩ (i5 c q)))) D1.1 (fun b hb=>by
        rcases KE b (pw _ hb) with g|g
        ·rcases kA.1 g with g|g
         ·exact .inl g
         ·exact .inr fun k hk iq=>vq ⟨k,hk,iq⟩ (i5 b g)
        ·exact .inr fun k hk=>g k (pw _ hk))
      have B2:=i8 w' F' P6 q2 xM (fun k hk c hc gU=>iA k (oq _ hk) c hc (by
        rw[kA]
        exact fun hor=>hor.elim (fun q=>vq (r5 c q) ⟨k,hk,hc⟩) gU)) D1.2.1 (fun b hb=>by
        rcases KE b (oq _ hb) with g|g
        ·rcases kA.1 g with g|g
         ·exact .inr fun k hk iq=>vq (r5 b g) ⟨k,hk,iq⟩
         ·exact .inl g
        ·exact .inr fun k hk=>g k (oq _ hk))
      exact IV.merge h xK r3 (fun k hk=>(i3 k hk).1) B1 B2 HC r5 i5 KE
    ·cases ha
end AM
