/- THE ABSTRACT MACHINE: an argument that is lent to a call, and what comes back. -/
import Derived.Test.YtlachfpabecaeaaQAmCall2
namespace AM
set_option linter.unusedVariables false
open Go
variable{U:dw}{E:Env U}{pm:Pm}
variable{F F':Nat->Prop}{kv:Key->Value}{fp:Key->List Nat}{σ:aa U}{a:Act}{w w':World}{bad:Key->Bool}
theorem HT{kv':Key->Value}{fp':Key->List Nat}{bad':Key->Bool}{y:AC U}{v:Value}(hs:y.still=true)(h:RD E w F kv fp bad y v)(hk:∀k∈y.keys,kv' k=kv k)
  (hF:∀b,F b->F' b/\w'.heap[b]? =w.heap[b]?):RD E w' F' kv' fp' bad' y v:=by
 have hb:cd bad y=false:=by
  unfold AC.still at hs
  split at hs<;>first|rfl|cases hs
 refine⟨h.1,.inr ?_⟩
 have h0:=aA h hb
 unfold AC.still at hs
 split at hs
 ·exact Rp.bu h0 hF (by simp)
 ·exact h0
 ·rename_i k
  simp only[RA] at h0⊢
  rw[hk k (by simp[AC.keys])];exact h0
 ·rename_i k off
  simp only[RA] at h0⊢
  rw[hk k (by simp[AC.keys])];exact h0
 ·cases hs
theorem C_{kv':Key->Value}{fp':Key->List Nat}{bad':Key->Bool}{xs:List (AC U)}{vs:List Value}(hs:xs.all AC.still=true)(h:dQ E w F kv fp bad xs vs)(hk:∀y∈xs,∀k∈y.keys,kv' k=kv k)
  (hF:∀b,F b->F' b/\w'.heap[b]? =w.heap[b]?):dQ E w' F' kv' fp' bad' xs vs:=
 ⟨h.1,fun i y v hy hv=>HT (qc.1 hs y (n6 hy)) (h.2 i y v hy hv) (hk y (n6 hy)) hF⟩
theorem Ae(h:aE E pm F kv fp σ a w):∀{ks:List Key},ks.Nodup->(∀k∈ks,(σ.aw k).isSome=true)->(ks.flatMap fp).Nodup
 |[],_,_=>by simp
 |k::ks,hn,hl=>by
  rw[mf,gz]
  obtain⟨e,he⟩:=eD.1 (hl k gp)
  rw[gx] at hn
  refine⟨h.nodup k e he,Ae h hn.2 (fun k' aG=>hl k' (d_ _ aG)),fun b hb c hc e'=> ?_⟩
  subst e'
  obtain⟨k',aG,ap⟩:=fC.1 hc
  obtain⟨e2,iw⟩:=eD.1 (hl k' (d_ _ aG))
  exact h.apart k k' e e2 b (fun e=>hn.1 (e▸aG)) he iw hb ap
theorem zH(h:aE E pm F kv fp σ a w){rs:List Key}:∀{xs:List (AC U)}{vs:List Value}{cs jo:List U.C}{ks:List Key}{us:List (Key×bZ U)}{fl:List (List Nat)},cG (restrict σ.aw rs) xs=some (cs,ks)->dQ E w F kv fp (ay σ) xs vs->
  ea xs jo=some us->fl.length=jo.length->(∀(i:Nat)(c:U.C),jo[i]? =some c->Rp E w' F' true c (vs.getD i undef) (fl.getD i []))->
  us.map (·.1)=ks/\∃tl:List (Key×bZ U×List Nat),tl.map (fun t=>(t.1,t.2.1))=us/\(∀s∈tl,∀kv' fp' bad',ig E w' F' kv' fp' bad' s.2.1 (kv s.1) s.2.2)/\tl.flatMap (·.2.2)=fl.flatten
 |[],vs,cs,jo,ks,us,fl,hw,hx,hu,hl,hr=>by
  simp only[cG,bH,fB] at hw
  obtain⟨rfl,rfl⟩:=hw
  cases jo with
  |cons _ _=>simp[ea] at hu
  |nil=>
   simp only[ea,bH] at hu
   subst hu
   have:fl=[]:=qk hl
   subst this
   exact⟨rfl,[],rfl,by simp,rfl⟩
 |x::xs,vs,cs,jo,ks,us,fl,hw,hx,hu,hl,hr=>by
  obtain⟨v,jJ,rfl,h1,h2⟩:=hx.cons_inv
  cases jo with
  |nil=>unfold ea at hu;split at hu<;>first|(rename_i e1 e2;cases e1;done)|(rename_i e1 e2;cases e2;done)|cases hu
  |cons c jo=>
   cases fl with
   |nil=>simp at hl
   |cons l fl=>
    have xQ:Rp E w' F' true c v l:=by simpa using hr 0 c rfl
    have nP:∀(i:Nat)(c:U.C),jo[i]? =some c->Rp E w' F' true c (jJ.getD i undef) (fl.getD i []):=fun i c hc=>by simpa using hr (i+1) c (by simpa using hc)
    have qf:fl.length=jo.length:=by simpa using hl
    unfold cG at hw
    split at hw
    ·rename_i fI;cases fI
    ·rename_i u r fI
     cases fI
     split at hw
     ·rename_i FJ Eu od
      cases hw
      cases c with
      |sl τ ys=>simp[ea] at hu
      |lit u'=>
       simp only[ea] at hu
       obtain⟨i1,tl,i2,i3,i4⟩:=zH h od h2 hu qf nP
       obtain⟨rfl,_,_⟩:=xQ.dK
       exact⟨i1,tl,i2,i3,by simpa using i4⟩
     ·cases hw
    ·rename_i k r fI
     cases fI
     split at hw
     ·rename_i y FJ Eu he od
      cases hw
      cases c with
      |lit _=>simp[ea] at hu
      |sl τ ys=>
       simp only[ea] at hu
       split at hu
       ·rename_i uu gG
        cases hu
        obtain⟨i1,tl,i2,i3,i4⟩:=zH h od h2 gG qf nP
        have hv:v=kv k:=aA h1 rfl
        refine⟨by simp[i1],(k,.arr ⟨τ,ys⟩ true,l)::tl,by simp[i2],fun s hs kv' fp' bad'=> ?_,by simp[i4]⟩
        rcases dJ.1 hs with rfl|hs
        ·rw[<-hv];exact xQ.kp
        ·exact i3 s hs kv' fp' bad'
       ·cases hu
     ·cases hw
    ·cases hw
theorem Rp.xG{c:U.C}{v:Value}{l:List Nat}(h:Rp E w F false c v l){b:Nat}(hb:b∈l):F' b:=by
 generalize hm:false=m at h
 cases h with
 |lit=>cases hb
 |nil=>cases hb
 |shr=>cases hb
 |own=>cases hm
def sz(E:Env U)(σ:aa U)(w:World)(F:Nat->Prop)(kv:Key->Value)(fp:Key->List Nat)(eN:Nat)(ks:List Key)(l:List Nat)(us:List (Key×bZ U))(es:List (Nat×bZ U))(w':World)(F':Nat->Prop)(ml:List Nat):Prop:=
 ∃(tl:List (Key×bZ U×List Nat))(t:bi U),tl.map (fun t=>(t.1,t.2.1))=us/\es=t.es/\
  (∀s∈tl,∀kv' fp' bad',(∀k,Names σ k->kv' k=kv k)->(∀s∈t,kv' (eN,s.1)=s.2.2.1)->ig E w' F' kv' fp' bad' s.2.1 (kv s.1) s.2.2)/\
  (∀s∈t,∀kv' fp' bad',ig E w' F' kv' fp' bad' s.2.1 s.2.2.1 s.2.2.2)/\
  (tl.flatMap (·.2.2)++t.bl).Nodup/\∀b∈tl.flatMap (·.2.2)++t.bl,b∈ml\/(b∉l/\∃k∈ks,b∈fp k)
theorem HO{tb:fT U}{want:Option U.Ty}{x:AC U}{ps:List Prop}{c:U.C}{ks:List Key}{d:Bool}(h:iE tb want x=some (ps,c,ks,d)):∀k∈ks,k∈x.keys:=by
 unfold iE at h
 split at h
 ·cases h;simp
 ·cases h;simp
 ·split at h<;>cases h;simp
 ·split at h<;>cases h<;>simp[AC.keys]
 ·split at h<;>cases h<;>simp[AC.keys]
 ·cases h
theorem C9{tb:fT U}:∀{xs:List (AC U)}{want:List (Option U.Ty)}{ps:List Prop}{cs:List U.C}{ks:List Key}{d:Bool},bc tb want xs=some (ps,cs,ks,d)->cs.length=xs.length
 |[],want,ps,cs,ks,d,h=>by
  simp only[bc,bH,fB] at h
  obtain⟨_,rfl,_⟩:=h
  rfl
 |x::xs,want,ps,cs,ks,d,h=>by
  simp only[bc] at h
  split at h
  ·rename_i h1 h2
   cases h
   simp[C9 h2]
  ·cases h
theorem dQ.mU{xs:List (AC U)}{vs:List Value}(h:dQ E w F kv fp bad xs vs):∀v∈vs,bD v:=by
 intro v hv
 obtain⟨n,hn,rfl⟩:=nJ hv
 exact(h.2 n (xs[n]'(by rw[h.1];exact hn)) _ (cF _) (cF hn)).1
theorem zM{tb:fT U}:∀{xs:List (AC U)}{want:List (Option U.Ty)}{ps:List Prop}{cs:List U.C}{ks:List Key}{d:Bool},bc tb want xs=some (ps,cs,ks,d)->∀k∈ks,∃x∈xs,k∈x.keys
 |[],want,ps,cs,ks,d,h,k,hk=>by
  simp only[bc,bH,fB] at h
  obtain⟨_,_,rfl,_⟩:=h
  cases hk
 |x::xs,want,ps,cs,ks,d,h,k,hk=>by
  simp only[bc] at h
  split at h
  ·rename_i h1 h2
   cases h
   rcases cY.1 hk with hk|hk
   ·exact⟨x,gp,HO h1 k hk⟩
   ·obtain⟨y,hy,hk⟩:=zM h2 k hk
    exact⟨y,d_ _ hy,hk⟩
  ·cases h
theorem zJ{tb:fT U}:∀{xs:List (AC U)}{cs:List U.C}{ks:List Key},cG tb xs=some (cs,ks)->∀k∈ks,∃x∈xs,k∈x.keys
 |[],cs,ks,h,k,hk=>by
  simp only[cG,bH,fB] at h
  obtain⟨_,rfl⟩:=h
  cases hk
 |x::xs,cs,ks,h,k,hk=>by
  unfold cG at h
  split at h
  ·rename_i fI;cases fI
  ·rename_i fI;cases fI
   split at h
   ·rename_i h1
    cases h
    obtain⟨y,hy,hk⟩:=zJ h1 k hk
    exact⟨y,d_ _ hy,hk⟩
   ·cases h
  ·rename_i fI;cases fI
   split at h
   ·rename_i h0 h1
    cases h
    rcases dJ.1 hk with rfl|hk
    ·exact⟨_,gp,by simp[AC.keys]⟩
    ·obtain⟨y,hy,hk⟩:=zJ h1 k hk
     exact⟨y,d_ _ hy,hk⟩
   ·cases h
  ·cases h
theorem I_{rs:List Key}{want:List (Option U.Ty)}{m:Mode}{x:SV U}{ps:List Prop}{d:DV U}{ks:List Key}(h:dW (restrict σ.aw rs) σ.ah want m x=some (ps,d,ks))(gR:∀k∈x.keys,Names σ k):∀k∈ks,Names σ k:=by
 unfold dW at h
 split at h
 ·split at h
  ·rw[bV] at h
   split at h
   ·split at h
    ·cases h
     intro k hk
     exact gR k (by simpa[SV.keys,SV.mE,AC.keys] using hk)
    ·cases h
   ·cases h
  ·cases h
 ·rename_i cs
  split at h
  ·rename_i hw
   rw[bV] at h
   split at h
   ·cases h
    intro k hk
    obtain⟨y,hy,hk⟩:=zJ hw k hk
    exact gR k (SV.mem_keys.2 ⟨y,hy,hk⟩)
   ·cases h
  ·cases h
 ·rename_i y
  split at h
  ·rename_i hw
   split at h
   ·rw[bV] at h
    split at h
    ·cases h
     intro k hk
     obtain⟨z,hz,hk⟩:=zM hw k hk
     exact gR k (SV.mem_keys.2 ⟨z,hz,hk⟩)
    ·cases h
   ·cases h
  ·cases h
 ·rename_i k0
  have nE:Names σ k0:=gR k0 (by simp[SV.keys,SV.mE,AC.keys])
  split at h
  ·rename_i cs he
   rw[bV] at h
   split at h
   ·split at h
    ·rename_i hw
     rw[bV] at h
     split at h
     ·cases h
      intro k hk
      rcases dJ.1 hk with rfl|hk
      ·exact nE
      ·obtain⟨z,hz,hk⟩:=zM hw k hk
       exact .inr ⟨k0,cs,cQ he,z,List.mem_of_mem_take hz,hk⟩
     ·cases h
    ·cases h
   ·cases h
  ·cases h
 ·rename_i k0
  have nE:Names σ k0:=gR k0 (by simp[SV.keys,SV.mE,AC.keys])
  split at h
  ·rw[bV] at h
   split at h
   ·split at h
    ·cases h
     intro k hk
     rw[gn.1 hk]
     exact nE
    ·cases h
   ·cases h
  ·cases h
 ·cases h
theorem I'(h:aE E pm F kv fp σ a w){rs:List Key}{want:List (Option U.Ty)}{m:Mode}{x:SV U}{v:Value}{ps:List Prop}{d:DV U}{ks:List Key}
  (ha:dW (restrict σ.aw rs) σ.ah want m x=some (ps,d,ks)) (hp:∀p∈ps,p) (hx:RS E w F kv fp (ay σ) x v) (gR:∀k∈x.keys,Names σ k)
  {eN:Nat} {dm:List (DV U)} {us:List (Key×bZ U)} {es:List (Nat×bZ U)} (cn:bX (restrict σ.aw rs) eN want.length m x dm=some (us,es)):
  ∃l,eo E w F m d v l/\ks.Nodup/\(∀k∈ks,(σ.aw k).isSome=true)/\l.Nodup/\(∀b∈l,∃k∈ks,b∈fp k)/\
   (us.map (·.1)).Nodup/\(∀u∈us,u.1∈ks)/\
    ∀(w':World)(F':Nat->Prop)(bL:List (List Nat)),bh E w' F' w [m] [v] dm bL->(∀b,F b->F' b/\w'.heap[b]? =w.heap[b]?)->(∀k∈ks,∀c∈fp k,c∉l->w'.heap[c]? =w.heap[c]?)->bL.flatten.Nodup->
     (∀b∈bL.flatten,b∈l\/∀k∈ks,b∉fp k)->sz E σ w F kv fp eN ks l us es w' F' bL.flatten:=by
 have cM:∀{k:Key}{b:Nat},(σ.aw k).isSome=true->b∈fp k->b<w.heap.size:=by
  intro k b hk hb
  obtain⟨e,he⟩:=eD.1 hk
  exact(h.bt k e b he hb).2.2
 unfold dW at ha
 split at ha
 ·
  rename_i k p
  split at ha
  ·rename_i y he
   have a_:=cQ he
   cases ck:bw (restrict σ.aw rs) σ.ah k p<;>simp only[ck,cond_false,cond_true] at ha
   ·cases ha
   ·split at ha
    ·rename_i qG b hw
     cases ha
     have mr:=o0 hx
     have eZ:=aA mr (oW ck he)
     have h0:aZ E w F true y (kv k) (fp k):=h.aJ k _ a_
     have vH:(σ.aw k).isSome=true:=by rw[a_];rfl
     unfold bX at cn
     split at cn
     ·rename_i k' p' τ ys fI
      cases fI
      simp only[he] at cn
      split at cn
      ·rename_i a' ze
       cases cn
       obtain⟨vb,uw,pre,post,b',f1,f2,f3,f4,f5⟩:=h0.focus (h.nodup k _ a_) hw hp ze
       have ux:v=vb:=eZ.unique f2
       subst ux
       have hn:=h.nodup k _ a_
       rw[f4,gz,gz] at hn
       refine⟨uw,f3,by simp,by simpa using vH,hn.1.2.1,fun c hc=>⟨k,by simp,by rw[f4];simp[hc]⟩,by simp,by simp,fun w' F' bL q_ lZ bQ rG tU=> ?_⟩
       cases bL with
       |nil=>exact q_.elim
       |cons l' bL=>
        obtain⟨tV,qe⟩:=q_
        cases bL with
        |cons _ _=>exact qe.elim
        |nil=>
         obtain⟨⟨n1,n2,n3⟩,n4,n5⟩:=hn
         have jQ:∀c∈pre++post,c∈fp k/\c∉uw:=by
          intro c hc
          rcases cY.1 hc with hc|hc
          ·exact⟨by rw[f4];simp[hc],fun ec=>n3 c hc c ec rfl⟩
          ·exact⟨by rw[f4];simp[hc],fun ec=>n5 c (fD _ ec) c hc rfl⟩
         have y5:∀c∈pre++post,c∉l':=by
          intro c hc ec
          rcases tU c (by simpa using ec) with g|g
          ·exact(jQ c hc).2 g
          ·exact g k (by simp) (jQ c hc).1
         refine⟨[(k,.arr a' true,pre++l'++post)],[],rfl,rfl,fun s hs kv' fp' bad' _ _=> ?_,by simp,?_,fun c hc=> ?_⟩
         ·rw[gn.1 hs]
          split at f1
          ·rename_i zs hz
           have:=aP hz
           cases this
           cases f1
           exact f5 w' F' l' rfl tV (fun c hc=>bQ k (by simp) c (jQ c hc).1 (jQ c hc).2)
          ·cases f1
         ·simp only[mf,Cw,oG,bi.bl]
          have ph:l'.Nodup:=by simpa using rG
          rw[gz,gz]
          refine⟨⟨n1,ph,fun c hc e he e'=>y5 c (fV _ hc) (e'▸he)⟩,n4,fun c hc e he e'=> ?_⟩
          rcases cY.1 hc with hc|hc
          ·exact n5 c (fV _ hc) e he e'
          ·exact y5 e (fD _ he) (e'▸hc)
         ·simp only[mf,Cw,oG,bi.bl,cY] at hc
          rcases hc with(hc|hc)|hc
          ·exact .inr ⟨(jQ c (fV _ hc)).2,k,by simp,(jQ c (fV _ hc)).1⟩
          ·exact .inl (by simpa using hc)
          ·exact .inr ⟨(jQ c (fD _ hc)).2,k,by simp,(jQ c (fD _ hc)).1⟩
      ·cases cn
     all_goals first|(rename_i fI;cases fI;done)|(rename_i fI _;cases fI;done)|cases cn
    ·cases ha
  ·cases ha
 ·
  rename_i cs
  split at ha
  ·rename_i ds Eu hw
   rw[bV] at ha
   split at ha
   ·rename_i hJ
    cases ha
    have lT:=iL.1 hJ
    obtain⟨vs,rE,hv⟩:=hx
    simp only[if_true] at hv
    obtain⟨g1,g2,fl,f1,f2,f3⟩:=zI h hw rE
    unfold bX at cn
    split at cn
    ·rename_i fI;cases fI
    ·rename_i jo NI fI
     cases fI
     split at cn
     ·rename_i uu hu
      cases cn
      have nE:us.map (·.1)=ks:=by
       have:∀{xs:List (AC U)}{cs jo:List U.C}{ks:List Key}{us:List (Key×bZ U)},cG (restrict σ.aw rs) xs=some (cs,ks)->ea xs jo=some us->us.map (·.1)=ks:=by
        intro xs
        induction xs with
        |nil=>
         intro cs jo ks us h1 h2
         simp only[cG,bH,fB] at h1
         cases jo with
         |cons _ _=>simp[ea] at h2
         |nil=>simp only[ea,bH] at h2;subst h2;rw[<-h1.2];rfl
        |cons x xs ih=>
         intro cs jo ks us h1 h2
         unfold cG at h1
         split at h1
         ·rename_i fI;cases fI
         ·rename_i u r fI
          cases fI
          split at h1
          ·rename_i FJ Eu hr
           cases h1
           cases jo with
           |nil=>simp[ea] at h2
           |cons c jo=>cases c with
            |sl _ _=>simp[ea] at h2
            |lit _=>simp only[ea] at h2;exact ih hr h2
          ·cases h1
         ·rename_i k r fI
          cases fI
          split at h1
          ·rename_i y FJ Eu he hr
           cases h1
           cases jo with
           |nil=>simp[ea] at h2
           |cons c jo=>cases c with
            |lit _=>simp[ea] at h2
            |sl τ ys=>
             simp only[ea] at h2
             split at h2
             ·rename_i uu gG
              cases h2
              simp[ih hr gG]
             ·cases h2
          ·cases h1
         ·cases h1
       exact this hw hu
      refine⟨fl.flatten,⟨vs,fl,hv,by rw[g1];exact rE.1.symm,f1,f2,rfl⟩,lT,g2,by rw[f3];exact Ae h lT g2,fun c hc=>by rw[f3] at hc;exact fC.1 hc,by rw[nE];exact lT,fun u gG=>by rw[<-nE];exact eV.2 ⟨u,gG,rfl⟩,fun w' F' bL q_ lZ bQ rG tU=> ?_⟩
      cases bL with
      |nil=>exact q_.elim
      |cons l' bL=>
       obtain⟨tV,qe⟩:=q_
       cases bL with
       |cons _ _=>exact qe.elim
       |nil=>
        obtain⟨jJ,FF,e1,e2,e3,e4,e5⟩:=tV
        rw[hv] at e1
        have:jJ=vs:=by simpa using e1.symm
        subst this
        obtain⟨i1,tl,i2,i3,i4⟩:=zH (w':=w') (F':=F') h hw rE hu e3 e4
        have ph:l'.Nodup:=by simpa using rG
        refine⟨tl,[],i2,rfl,fun s hs kv' fp' bad' _ _=>i3 s hs kv' fp' bad',by simp,?_,fun c hc=> ?_⟩
        ·rw[i4,<-e5];simpa[bi.bl] using ph
        ·rw[i4,<-e5] at hc
         exact .inl (by simpa[bi.bl] using hc)
     ·cases cn
    all_goals first|(rename_i fI;cases fI;done)|(rename_i fI _;cases fI;done)|cases cn
   ·cases ha
  ·cases ha
 ·
  rename_i y
  split at ha
  ·rename_i qG cs ks' ht
   split at ha
   ·rename_i d' hd
    rw[bV] at ha
    split at ha
    ·rename_i hJ
     cases ha
     have lT:=iL.1 hJ
     obtain⟨vs,rE,hv⟩:=hx
     obtain⟨g1,g2,g3,_⟩:=rO h ht hp rE lT
     obtain⟨fl,f1,f2,f3,f4⟩:=g3 rfl
     have eF:eo E w F .mv d v fl.flatten:=by
      unfold sr at hd
      cases wK:y.agg<;>rw[wK] at hd hv<;>simp only[cond_true,cond_false,mF,if_false,if_true] at hd hv
      ·split at hd
       ·cases hd
        subst hv
        simp only[kQ,j9] at f1
        obtain⟨l,rfl⟩:=List.length_eq_one_iff.1 f1
        simpa[eo] using f2 0 _ rfl
       ·cases hd
      ·cases hd
       exact⟨vs,fl,hv,by rw[g1];exact rE.1.symm,f1,f2,rfl⟩
     have Ff:dm=[]/\us=[]/\es=[]:=by
      cases dm with
      |nil=>simp only[bX,bH,fB] at cn;exact⟨rfl,cn.1.symm,cn.2.symm⟩
      |cons _ _=>simp[bX] at cn
     obtain⟨rfl,rfl,rfl⟩:=Ff
     refine⟨fl.flatten,eF,lT,g2,f3,f4,by simp,by simp,fun w' F' bL q_ lZ bQ rG tU=> ?_⟩
     have:bL=[]:=by cases bL with|nil=>rfl|cons _ _=>exact q_.elim
     subst this
     exact⟨[],[],rfl,rfl,by simp,by simp,by simp[bi.bl],by simp[bi.bl]⟩
    ·cases ha
   ·cases ha
  ·cases ha
 ·
  rename_i k
  split at ha
  ·rename_i cs he
   have a_:=cQ he
   have vH:(σ.aw k).isSome=true:=by rw[a_];rfl
   rw[bV] at ha
   split at ha
   ·rename_i Bv
    simp only[c9,wC] at Bv
    obtain⟨y4,io⟩:=Bv
    split at ha
    ·rename_i qG l0 ks' ht
     rw[bV] at ha
     split at ha
     ·rename_i hJ
      cases ha
      have lT:=iL.1 hJ
      obtain⟨b,h1,h2⟩:=aA (o0 hx) rfl
      obtain⟨b',cur,e,h3,h4,h5,h6⟩:=h.aJ k _ a_
      rw[h1] at h3;cases h3
      subst h2
      have hlen:cs.length=cur.size:=by have:=h6.1;simpa using this
      obtain⟨g1,g2,g3,_⟩:=rO h ht hp (h6.take want.length) (gx.1 lT).2
      obtain⟨fl,f1,f2,f3,f4⟩:=g3 rfl
      have sg:l0.length=want.length:=by rw[g1,jw];omega
      have kt:∀u∈cur.toList.drop l0.length,bD u:=(h6.drop l0.length).mU
      have gZ:∀(i:Nat)(c:U.C),l0[i]? =some c->cur.toList.getD i undef=(cur.toList.take want.length).getD i undef:=by
       intro i c hc
       have hi:i<want.length:=by
        rw[<-sg]
        rcases fA i l0.length with g|g
        ·exact g
        ·rw[fb g] at hc;cases hc
       simp only[cB,fg,if_pos hi]
      have By:b∉fl.flatten:=by
       intro hb
       obtain⟨k',aG,ap⟩:=f4 b hb
       obtain⟨e2,iw⟩:=eD.1 (g2 k' aG)
       exact h.apart k k' _ e2 b (fun e=>(gx.1 lT).1 (by rw[e];exact aG)) a_ iw (by rw[h5];simp) ap
      have Ff:∃ds,dm=[.box ds]/\ds.length=want.length/\us=[(k,.box ((ak eN true 512 ds).1++cs.drop want.length))]/\es=(ak eN true 512 ds).2:=by
       cases dm with
       |nil=>simp[bX] at cn
       |cons d0 dm=>
        cases dm with
        |cons _ _=>simp[bX] at cn
        |nil=>
         cases d0 with
         |one _=>simp[bX] at cn
         |agg _=>simp[bX] at cn
         |ptr _=>simp[bX] at cn
         |fn _=>simp[bX] at cn
         |box ds=>
          simp only[bX,he] at cn
          rw[bV] at cn
          split at cn
          ·rename_i ra
           cases cn
           exact⟨ds,rfl,eI ra,rfl,rfl⟩
          ·cases cn
      obtain⟨ds,rfl,po,rfl,rfl⟩:=Ff
      refine⟨b::fl.flatten,⟨b,cur,e,fl,rfl,h4,by omega,by rw[rP h4],by rw[rP h4];exact kt,f1,fun i c hc=>by rw[gZ i c hc];exact f2 i c hc,rfl⟩,lT,fun k' aG=>by
       rcases dJ.1 aG with rfl|aG
       ·exact vH
       ·exact g2 k' aG,gx.2 ⟨By,f3⟩,fun c hc=>by
       rcases dJ.1 hc with rfl|hc
       ·exact⟨k,by simp,by rw[h5];simp⟩
       ·obtain⟨k',aG,hc⟩:=f4 c hc;exact⟨k',d_ _ aG,hc⟩,by simp,by simp,fun w' F' bL q_ lZ bQ rG tU=> ?_⟩
      cases bL with
      |nil=>exact q_.elim
      |cons l' bL=>
       obtain⟨tV,qe⟩:=q_
       cases bL with
       |cons _ _=>exact qe.elim
       |nil=>
        obtain⟨b2,cur',e',FF,k1,k2,k3,k4,k5,k6,k7,rfl⟩:=tV
        cases k1
        rw[rP h4,po] at k4
        have ph:(b::FF.flatten).Nodup:=by simpa using rG
        have ck:cur'.toList.take ds.length++cur'.toList.drop ds.length=cur'.toList:=zu _ _
        obtain⟨t,t1,t2,t3,t4⟩:=qx (E:=E) (w:=w') (F:=F') (dst:=eN) (base:=512) (cs:=ds) (vs:=cur'.toList.take ds.length) (fl:=FF) (by simp;omega) k6 (fun i c hc=>by
         have hi:i<ds.length:=by
          rcases fA i ds.length with g|g
          ·exact g
          ·rw[fb g] at hc;cases hc
         have:=k7 i c hc
         rw[cB,fg,if_pos hi,<-cB]
         exact this)
        refine⟨[(k,.box ((ak eN true 512 ds).1++cs.drop want.length),[b])],t,rfl,t1,fun s hs kv' fp' bad' Be wG=> ?_,t2,?_,fun c hc=> ?_⟩
        ·rw[gn.1 hs]
         refine⟨b,cur',e',h1,k2,rfl,?_⟩
         rw[<-ck]
         refine(t4 kv' fp' bad' wG).append ?_
         rw[po,k4]
         exact C_ io (h6.drop want.length) (fun y hy k' aG=>Be k' (.inr ⟨k,cs,a_,y,List.mem_of_mem_drop hy,aG⟩)) lZ
        ·simp only[mf,Cw,oG]
         rw[t3]
         exact ph
        ·simp only[mf,Cw,oG] at hc
         rw[t3] at hc
         exact .inl (by simpa using hc)
     ·cases ha
    ·cases ha
   ·cases ha
  ·cases ha
 ·
  rename_i k
  split at ha
  ·rename_i cs he
   have a_:=cQ he
   have vH:(σ.aw k).isSome=true:=by rw[a_];rfl
   rw[bV] at ha
   split at ha
   ·rename_i Bv
    simp only[c9,wC] at Bv
    obtain⟨y4,io⟩:=Bv
    split at ha
    ·rename_i l0 pf
     cases ha
     have ik:=tr pf
     obtain⟨b,h1,h2⟩:=aA (o0 hx) rfl
     obtain⟨b',cur,e,h3,h4,h5,h6⟩:=h.aJ k _ a_
     rw[h1] at h3;cases h3
     subst h2
     have hlen:cs.length=cur.size:=by have:=h6.1;simpa using this
     have sg:l0.length=want.length:=by
      have:=congrArg List.length ik
      rw[jw,uF] at this
      omega
     have kt:∀u∈cur.toList.drop l0.length,bD u:=(h6.drop l0.length).mU
     have Ff:∃ds,dm=[.box ds]/\ds.length=want.length/\us=[(k,.box (ds.map .c++cs.drop want.length))]/\es=[]:=by
      cases dm with
      |nil=>simp[bX] at cn
      |cons d0 dm=>
       cases dm with
       |cons _ _=>simp[bX] at cn
       |nil=>
        cases d0 with
        |one _=>simp[bX] at cn
        |agg _=>simp[bX] at cn
        |ptr _=>simp[bX] at cn
        |fn _=>simp[bX] at cn
        |box ds=>
         simp only[bX,he] at cn
         rw[bV] at cn
         split at cn
         ·rename_i ra
          cases cn
          exact⟨ds,rfl,eI ra,rfl,rfl⟩
         ·cases cn
     obtain⟨ds,rfl,po,rfl,rfl⟩:=Ff
     refine⟨[b],⟨b,cur,e,List.replicate l0.length [],rfl,h4,by omega,by rw[rP h4],by rw[rP h4];exact kt,by simp,fun i c hc=> ?_,by rw[k_]⟩,by simp,by simpa using vH,by simp,by simp[h5],by simp,by simp,fun w' F' bL q_ lZ bQ rG tU=> ?_⟩
     ·have hi:i<want.length:=by
       rw[<-sg]
       rcases fA i l0.length with g|g
       ·exact g
       ·rw[fb g] at hc;cases hc
      have zd:cs[i]? =some (.c c):=by
       have:(cs.take want.length)[i]? =some (.c c):=by rw[ik,eW,hc];rfl
       rwa[fg,if_pos hi] at this
      have h7:=aA (h6.2 i (.c c) (cur.toList.getD i undef) zd (ba (by simp;omega))) rfl
      rw[oT]
      exact h7
     ·cases bL with
      |nil=>exact q_.elim
      |cons l' bL=>
       obtain⟨tV,qe⟩:=q_
       cases bL with
       |cons _ _=>exact qe.elim
       |nil=>
        obtain⟨b2,cur',e',FF,k1,k2,k3,k4,k5,k6,k7,rfl⟩:=tV
        cases k1
        rw[rP h4,po] at k4
        have ph:(b::FF.flatten).Nodup:=by simpa using rG
        have ck:cur'.toList.take ds.length++cur'.toList.drop ds.length=cur'.toList:=zu _ _
        refine⟨[(k,.box (ds.map .c++cs.drop want.length),[b])],[],rfl,rfl,fun s hs kv' fp' bad' Be wG=> ?_,by simp,by simp[bi.bl],fun c hc=> ?_⟩
        ·rw[gn.1 hs]
         refine⟨b,cur',e',h1,k2,rfl,?_⟩
         rw[<-ck]
         refine dQ.append ?_ ?_
         ·refine rT (by simp;omega) (fun i c hc=> ?_)
          have hi:i<ds.length:=by
           rcases fA i ds.length with g|g
           ·exact g
           ·rw[fb g] at hc;cases hc
          have:=k7 i c hc
          rw[cB,fg,if_pos hi,<-cB]
          exact this.dy (fun _ hb=>hb) (fun b' ap=>this.xG ap)
         ·rw[po,k4]
          exact C_ io (h6.drop want.length) (fun y hy k' aG=>Be k' (.inr ⟨k,cs,a_,y,List.mem_of_mem_drop hy,aG⟩)) lZ
        ·simp only[mf,Cw,oG,bi.bl,gn] at hc
         subst hc
         exact .inl (by simp)
    ·cases ha
   ·cases ha
  ·cases ha
 ·cases ha
theorem gP.bx{own:Bool}{cs:List U.C}{rest:List Value}{v:Value}{l:List Nat}(h:gP E w F own cs rest v l)(hF:∀b,F b->F' b):gP E w F' own cs rest v l:=by
 obtain⟨b,cur,e,fl,h1,h2,h3,h4,h5,h6,h7,h8⟩:=h
 exact⟨b,cur,e,fl,h1,h2,h3,h4,h5,h6,fun i c hc=>(h7 i c hc).bu (fun b hb=>⟨hF b hb,rfl⟩) (fun _ _=>rfl),h8⟩
theorem eo.bx{m:Mode}{d:DV U}{v:Value}{l:List Nat}(hm:m≠ .ro)(h:eo E w F m d v l)(hF:∀b,F b->F' b):eo E w F' m d v l:=by
 cases m with
 |ro=>exact absurd rfl hm
 |wr=>
  cases d with
  |one c=>
   cases c with
   |lit _=>exact h
   |sl τ xs=>exact aZ.any h
  |agg _=>exact ee.any h
  |box _=>exact h
  |ptr _=>exact h
  |fn _=>exact h
 |mv=>
  cases d with
  |one c=>exact Rp.ij h (fun _ _=>rfl)
  |agg _=>exact ee.any h
  |box _=>exact h
  |ptr _=>exact h
  |fn _=>exact h
 |box own=>
  cases d with
  |box cs=>exact gP.bx h hF
  |one _=>exact h
  |agg _=>exact h
  |ptr _=>exact h
  |fn _=>exact h
theorem Db(h:aE E pm F kv fp σ a w){ks ks':List Key}(hn:(ks++ks').Nodup)(hl:∀k∈ks,(σ.aw k).isSome=true)(rb:∀k∈ks',(σ.aw k).isSome=true){b:Nat}(hb:∃k∈ks,b∈fp k):∀k∈ks',b∉fp k:=by
 intro k' aG ap
 obtain⟨k,hk,hb⟩:=hb
 obtain⟨e,he⟩:=eD.1 (hl k hk)
 obtain⟨e2,iw⟩:=eD.1 (rb k' aG)
 exact h.apart k k' e e2 b (fun e3=>(gz.1 hn).2.2 k hk k' aG e3) he iw hb ap
theorem Au{a1 a2 b1 b2:List Nat}(n1:(a1++b1).Nodup)(n2:(a2++b2).Nodup)(x:∀b∈a1++b1,b∉a2++b2):((a1++a2)++(b1++b2)).Nodup:=by
 have hp:((a1++a2)++(b1++b2)).Perm ((a1++b1)++(a2++b2)):=by
  rw[kP,kP]
  refine List.Perm.append_left a1 ?_
  rw[<-kP,<-kP]
  exact List.Perm.append_right b2 List.perm_append_comm
 rw[hp.nodup_iff,gz]
 exact⟨n1,n2,fun b hb c hc e=>x b hb (e▸hc)⟩
theorem sz.merge(h:aE E pm F kv fp σ a w){ks ks':List Key}(hn:(ks++ks').Nodup)(hl:∀k∈ks,(σ.aw k).isSome=true)(rb:∀k∈ks',(σ.aw k).isSome=true){eN:Nat}{l l':List Nat}{us uu:List (Key×bZ U)}{es BM:List (Nat×bZ U)}{ml GJ:List Nat}
  (h1:sz E σ w F kv fp eN ks l us es w' F' ml) (h2:sz E σ w F kv fp eN ks' l' uu BM w' F' GJ) (rG:(ml++GJ).Nodup) (hf:∀b∈l,∃k∈ks,b∈fp k) (Ci:∀b∈l',∃k∈ks',b∈fp k)
  (ho:∀b∈ml++GJ,b∈l++l'\/∀k∈ks++ks',b∉fp k):sz E σ w F kv fp eN (ks++ks') (l++l') (us++uu) (es++BM) w' F' (ml++GJ):=by
 obtain⟨tl,t,a1,a2,a3,a4,a5,a6⟩:=h1
 obtain⟨Hy,t',b1,b2,b3,b4,b5,b6⟩:=h2
 have ky:∀{b:Nat},(∃k∈ks,b∈fp k)->¬∃k∈ks',b∈fp k:=fun hb hc=>by
  obtain⟨k,hk,ec⟩:=hc
  exact Db h hn hl rb hb k hk ec
 have hx:∀b∈tl.flatMap (·.2.2)++t.bl,b∉Hy.flatMap (·.2.2)++t'.bl:=by
  intro b hb ap
  rcases a6 b hb with g|⟨g,gk⟩
  ·rcases b6 b ap with g'|⟨g',G7⟩
   ·exact(gz.1 rG).2.2 b g b g' rfl
   ·rcases ho b (fV _ g) with q|q
    ·rcases cY.1 q with q|q
     ·exact ky (hf b q) G7
     ·exact g' q
    ·obtain⟨k,hk,cn⟩:=G7
     exact q k (fD _ hk) cn
  ·rcases b6 b ap with g'|⟨g',G7⟩
   ·rcases ho b (fD _ g') with q|q
    ·rcases cY.1 q with q|q
     ·exact g q
     ·exact ky gk (Ci b q)
    ·obtain⟨k,hk,cn⟩:=gk
     exact q k (fV _ hk) cn
   ·exact ky gk G7
 refine⟨tl++Hy,t++t',by rw[Hl,a1,b1],by rw[bi.oi,a2,b2],fun s hs kv' fp' bad' q1 q2=> ?_,fun s hs=> ?_,?_,fun b hb=> ?_⟩
 ·rcases cY.1 hs with hs|hs
  ·exact a3 s hs kv' fp' bad' q1 fun s' cZ=>q2 s' (fV _ cZ)
  ·exact b3 s hs kv' fp' bad' q1 fun s' cZ=>q2 s' (fD _ cZ)
 ·rcases cY.1 hs with hs|hs
  ·exact a4 s hs
  ·exact b4 s hs
 ·rw[BY,bi.jp]
  exact Au a5 b5 hx
 ·rw[BY,bi.jp] at hb
  have hb:b∈tl.flatMap (·.2.2)++t.bl\/b∈Hy.flatMap (·.2.2)++t'.bl:=by
   simp only[cY] at hb⊢
   rcases hb with(hb|hb)|(hb|hb)
   ·exact .inl (.inl hb)
   ·exact .inr (.inl hb)
   ·exact .inl (.inr hb)
   ·exact .inr (.inr hb)
  rcases hb with hb|hb
  ·rcases a6 b hb with g|⟨g,k,hk,cn⟩
   ·exact .inl (fV _ g)
   ·exact .inr ⟨fun q=>(cY.1 q).elim g (fun q=>ky ⟨k,hk,cn⟩ (Ci b q)),k,fV _ hk,cn⟩
  ·rcases b6 b hb with g|⟨g,k,hk,cn⟩
   ·exact .inl (fD _ g)
   ·exact .inr ⟨fun q=>(cY.1 q).elim (fun q=>ky (hf b q) ⟨k,hk,cn⟩) g,k,fD _ hk,cn⟩
theorem bh.split{w0:World}{m:Mode}{v:Value}{ms:List Mode}{vs:List Value}{dm:List (DV U)}{bL:List (List Nat)}(hm:m≠ .ro)(h:bh E w F w0 (m::ms) (v::vs) dm bL):
  ∃oa xH,bL=oa++xH/\bh E w F w0 [m] [v] (mj m dm) oa/\bh E w F w0 ms vs (kk m dm) xH:=by
 cases m with
 |ro=>exact absurd rfl hm
 |mv=>exact⟨[],bL,rfl,trivial,by simpa[bh,kk] using h⟩
 |wr=>
  cases dm with
  |nil=>cases bL<;>exact h.elim
  |cons d dm=>
   cases bL with
   |nil=>cases d<;>first|exact h.elim|(rename_i c;cases c<;>exact h.elim)
   |cons l' bL=>
    cases d with
    |one c=>
     cases c with
     |lit _=>exact h.elim
     |sl τ ys=>exact⟨[l'],bL,rfl,⟨h.1,trivial⟩,h.2⟩
    |agg _=>exact⟨[l'],bL,rfl,⟨h.1,trivial⟩,h.2⟩
    |box _=>exact h.elim
    |ptr _=>exact h.elim
    |fn _=>exact h.elim
 |box own=>
  cases dm with
  |nil=>cases bL<;>exact h.elim
  |cons d dm=>
   cases bL with
   |nil=>cases d<;>exact h.elim
   |cons l' bL=>
    cases d with
    |box cs=>exact⟨[l'],bL,rfl,⟨h.1,trivial⟩,h.2⟩
    |one _=>exact h.elim
    |agg _=>exact h.elim
    |ptr _=>exact h.elim
    |fn _=>exact h.elim
theorem If(h:aE E pm F kv fp σ a w){rs:List Key}{n:Nat}:∀{ms:List Mode}{ws:List (List (Option U.Ty))}{xs:List (SV U)}{vs:List Value}{ps:List Prop}{ds:List (DV U)},
  eS E (restrict σ.aw rs) σ.ah ms ws xs=some (ps,ds)->xs.length=vs.length->(∀(i:Nat)(x:SV U)(v:Value),xs[i]? =some x->vs[i]? =some v->RS E w F kv fp (ay σ) x v)->mL (restrict σ.aw rs) n ms ws xs=true->ie w n ms ds vs:=by
 intro ms
 induction ms with
 |nil=>intro ws xs vs ps ds _ _ _ _;trivial
 |cons m ms ih=>
  intro ws xs vs ps ds ha hl hx hr
  cases xs with
  |nil=>cases m<;>simp[eS] at ha
  |cons x xs=>
   cases vs with
   |nil=>simp at hl
   |cons v vs=>
    simp only[eS] at ha
    split at ha
    rotate_left
    ·cases ha
    rename_i wF d1 Ar Cq h1 h2
    cases ha
    simp only[mL,c9] at hr
    refine⟨fun own cs hm hd=> ?_,ih h2 (by simpa using hl) (fun i y u hy hu=>hx (i+1) y u (by simpa using hy) (by simpa using hu)) hr.2⟩
    subst hm
    subst hd
    have nP:=hr.1
    split at nP
    ·rename_i o1 k off Ck
     split at nP
     rotate_left
     ·cases nP
     rename_i bs he
     have a_:=cQ he
     have hlen:=eI nP
     simp only[iY] at h1
     split at h1
     rotate_left
     ·cases h1
     rename_i GH d0 Eu ew
     cases h1
     have ck:cs.length=(ws.headD []).length/\off=0:=by
      cases own with
      |true=>
       cases off with
       |succ n'=>simp[dW] at ew
       |zero=>
        simp only[dW,he] at ew
        rw[bV] at ew
        split at ew
        rotate_left
        ·cases ew
        split at ew
        rotate_left
        ·cases ew
        rename_i q1 q2 q3 ht
        rw[bV] at ew
        split at ew
        rotate_left
        ·cases ew
        cases ew
        have:=C9 ht
        rw[jw] at this
        exact⟨by omega,rfl⟩
      |false=>
       cases off with
       |succ n'=>simp[dW] at ew
       |zero=>
        simp only[dW,he] at ew
        rw[bV] at ew
        split at ew
        rotate_left
        ·cases ew
        split at ew
        rotate_left
        ·cases ew
        rename_i l0 pf
        cases ew
        have:=congrArg List.length (tr pf)
        rw[jw,uF] at this
        exact⟨by omega,rfl⟩
     obtain⟨ck,rfl⟩:=ck
     have N6:=hx 0 _ v rfl rfl
     obtain⟨b,g1,g2⟩:=aA (o0 N6) rfl
     obtain⟨b',cur,e,g3,g4,g5,g6⟩:=h.aJ k _ a_
     rw[g1] at g3;cases g3
     rw[g2,rP g4,n0,<-g6.1]
     omega
    ·cases nP
    ·rename_i uy _
     exact absurd rfl (uy own)
theorem J3(hC:∀g k,E.ul g=some k->kM E.P g/\aV E g k)(h:aE E pm F kv fp σ a w){rs:List Key}{K:List Key}{eN:Nat}:∀{ms:List Mode}{ws:List (List (Option U.Ty))}{xs:List (SV U)}{vs:List Value}{ps:List Prop}{ds dm:List (DV U)}{us:List (Key×bZ U)}{es:List (Nat×bZ U)}{lk:List Key},
  eS E (restrict σ.aw rs) σ.ah ms ws xs=some (ps,ds)->(∀p∈ps,p)->xs.length=vs.length->(∀(i:Nat)(x:SV U)(v:Value),xs[i]? =some x->vs[i]? =some v->RS E w F kv fp (ay σ) x v)->
  (∀x∈xs,∀k∈x.keys,Names σ k)->(∀k∈bg ms xs,(σ.aw k).isSome=true->k∈K)->dV (restrict σ.aw rs) σ.ah eN ms ws xs dm=some (us,es,lk)->
  ∃ls,cA E w (FK F fp K) ms ds vs ls/\lk.Nodup/\(∀k∈lk,(σ.aw k).isSome=true/\Names σ k)/\ls.flatten.Nodup/\(∀b∈ls.flatten,∃k∈lk,b∈fp k)/\(us.map (·.1)).Nodup/\(∀u∈us,u.1∈lk)/\
   ∀(w':World)(F':Nat->Prop)(bL:List (List Nat)),bh E w' F' w ms vs dm bL->(∀b,F b->F' b/\w'.heap[b]? =w.heap[b]?)->(∀k∈lk,∀c∈fp k,c∉ls.flatten->w'.heap[c]? =w.heap[c]?)->bL.flatten.Nodup->
    (∀b∈bL.flatten,b∈ls.flatten\/∀k∈lk,b∉fp k)->sz E σ w F kv fp eN lk ls.flatten us es w' F' bL.flatten:=by
 intro ms
 induction ms with
 |nil=>
  intro ws xs vs ps ds dm us es lk ha hp hl hx gR hK hu
  cases xs with
  |cons x xs=>simp[eS] at ha
  |nil=>
   cases vs with
   |cons v vs=>simp at hl
   |nil=>
    cases dm with
    |cons d dm=>simp[dV] at hu
    |nil=>
     simp only[eS,bH,fB] at ha
     obtain⟨rfl,rfl⟩:=ha
     simp only[dV,bH,fB] at hu
     obtain⟨rfl,rfl,rfl⟩:=hu
     refine⟨[],trivial,by simp,by simp,by simp,by simp,by simp,by simp,fun w' F' bL hm _ _ _ _=> ?_⟩
     cases bL with
     |nil=>exact⟨[],[],rfl,rfl,by simp,by simp,by simp[bi.bl],by simp[bi.bl]⟩
     |cons _ _=>exact hm.elim
 |cons m ms ih=>
  intro ws xs vs ps ds dm us es lk ha hp hl hx gR hK hu
  cases xs with
  |nil=>cases m<;>simp[eS] at ha
  |cons x xs=>
   cases vs with
   |nil=>simp at hl
   |cons v vs=>
    simp only[eS] at ha
    split at ha
    ·rename_i wF d1 Ar Cq h1 h2
     cases ha
     have tN:∀(i:Nat)(y:SV U)(u:Value),xs[i]? =some y->vs[i]? =some u->RS E w F kv fp (ay σ) y u:=fun i y u hy hu=>hx (i+1) y u (by simpa using hy) (by simpa using hu)
     by_cases hm:m=.ro
     ·subst hm
      simp only[dV] at hu
      obtain⟨ls,i1,i2,i3,i4,i5,i6,i7,i8⟩:=ih h2 (fun p dj=>hp p (by simp[dj])) (by simpa using hl) tN (fun y hy=>gR y (d_ _ hy)) (fun k hk=>hK k (by simp[bg,hk])) hu
      refine⟨[]::ls,⟨J6 hC h h1 (fun p dj=>hp p (by simp[dj])) (hx 0 x v rfl rfl) (fun k hk=>hK k (by simp[bg,hk])),i1⟩,i2,i3,by simpa using i4,by simpa using i5,i6,i7,fun w' F' bL q_ lZ bQ rG tU=> ?_⟩
      have:=i8 w' F' bL (by simpa[bh] using q_) lZ (by simpa using bQ) rG (by simpa using tU)
      simpa using this
     ·have gG:∃GH d0 ks ks' Hv LG GD G9,dW (restrict σ.aw rs) σ.ah (ws.headD []) m x=some (GH,d0,ks)/\bX (restrict σ.aw rs) eN (ws.headD []).length m x (mj m dm)=some (Hv,LG)/\dV (restrict σ.aw rs) σ.ah eN ms ws.tail xs (kk m dm)=some (GD,G9,ks')/\(ks++ks').Nodup/\us=Hv++GD/\es=LG++G9/\lk=ks++ks'/\wF=GH/\d1=d0:=by
       have yR:(match dW (restrict σ.aw rs) σ.ah (ws.headD []) m x,bX (restrict σ.aw rs) eN (ws.headD []).length m x (mj m dm) with
        |some (_,_,ks),some (us,es)=>match dV (restrict σ.aw rs) σ.ah eN ms ws.tail xs (kk m dm) with
         |some (uu,BM,ks')=>bif distinct (ks++ks') then some (us++uu,es++BM,ks++ks') else none
         |none=>none
        |_,_=>none)=some (us,es,lk):=by
        cases m with
        |ro=>exact absurd rfl hm
        |wr=>exact hu
        |mv=>exact hu
        |box _=>exact hu
       split at yR
       ·rename_i p0 d0 ks PL P5 g1 g2
        split at yR
        ·rename_i GD G9 ks' g3
         rw[bV] at yR
         split at yR
         ·rename_i hJ
          cases yR
          have:iY E (restrict σ.aw rs) σ.ah (ws.headD []) m x=some (p0,d0):=by
           cases m with
           |ro=>exact absurd rfl hm
           |wr=>simp only[iY,g1]
           |mv=>simp only[iY,g1]
           |box _=>simp only[iY,g1]
          rw[this] at h1
          cases h1
          exact⟨_,_,ks,ks',_,_,_,_,g1,g2,g3,iL.1 hJ,rfl,rfl,rfl,rfl,rfl⟩
         ·cases yR
        ·cases yR
       ·cases yR
      obtain⟨GH,d0,ks,ks',Hv,LG,GD,G9,g1,g2,g3,lT,rfl,rfl,rfl,rfl,rfl⟩:=gG
      obtain⟨l,r1,r2,r3,r4,r5,r6,r7,r8⟩:=I' h g1 (fun p dj=>hp p (by simp[dj])) (hx 0 x v rfl rfl) (gR x gp) g2
      obtain⟨ls,i1,i2,i3,i4,i5,i6,i7,i8⟩:=ih h2 (fun p dj=>hp p (by simp[dj])) (by simpa using hl) tN (fun y hy=>gR y (d_ _ hy)) (fun k hk=>hK k (by cases m<;>first|exact absurd rfl hm|simpa[bg] using hk)) g3
      have ky:∀{b:Nat},(∃k∈ks,b∈fp k)->¬∃k∈ks',b∈fp k:=fun hb hc=>by
       obtain⟨k,hk,ec⟩:=hc
       exact Db h lT r3 (fun k hk=>(i3 k hk).1) hb k hk ec
      refine⟨l::ls,⟨r1.bx hm (fun b hb=> .inl hb),i1⟩,lT,fun k hk=> ?_,?_,fun b hb=> ?_,?_,fun u hu=> ?_,fun w' F' bL q_ lZ bQ rG tU=> ?_⟩
      ·rcases cY.1 hk with hk|hk
       ·exact⟨r3 k hk,I_ g1 (gR x gp) k hk⟩
       ·exact i3 k hk
      ·rw[rJ,gz]
       exact⟨r4,i4,fun b hb c hc e=>ky (r5 b hb) (i5 b (e▸hc))⟩
      ·rw[rJ] at hb
       rcases cY.1 hb with hb|hb
       ·obtain⟨k,hk,hb⟩:=r5 b hb;exact⟨k,fV _ hk,hb⟩
       ·obtain⟨k,hk,hb⟩:=i5 b hb;exact⟨k,fD _ hk,hb⟩
      ·rw[Hl,gz]
       refine⟨r6,i6,fun k hk k' aG e=> ?_⟩
       obtain⟨u,hu,rfl⟩:=eV.1 hk
       obtain⟨u',gG,rfl⟩:=eV.1 aG
       exact(gz.1 lT).2.2 _ (r7 u hu) _ (i7 u' gG) e
      ·rcases cY.1 hu with hu|hu
       ·exact fV _ (r7 u hu)
       ·exact fD _ (i7 u hu)
      obtain⟨oa,xH,rfl,q1,q2⟩:=q_.split hm
      rw[qb] at rG tU⊢
      rw[rJ] at bQ tU⊢
      have ph:=gz.1 rG
      have B1:=r8 w' F' oa q1 lZ (fun k hk c hc ck=>bQ k (fV _ hk) c hc (by
        rw[cY]
        exact fun KC=>KC.elim ck (fun q=>ky ⟨k,hk,hc⟩ (i5 c q)))) ph.1 (fun b hb=>by
        rcases tU b (fV _ hb) with g|g
        ·rcases cY.1 g with g|g
         ·exact .inl g
         ·exact .inr fun k hk cn=>ky ⟨k,hk,cn⟩ (i5 b g)
        ·exact .inr fun k hk=>g k (fV _ hk))
      have B2:=i8 w' F' xH q2 lZ (fun k hk c hc ck=>bQ k (fD _ hk) c hc (by
        rw[cY]
        exact fun KC=>KC.elim (fun q=>ky (r5 c q) ⟨k,hk,hc⟩) ck)) ph.2.1 (fun b hb=>by
        rcases tU b (fD _ hb) with g|g
        ·rcases cY.1 g with g|g
         ·exact .inr fun k hk cn=>ky (r5 b g) ⟨k,hk,cn⟩
         ·exact .inl g
        ·exact .inr fun k hk=>g k (fD _ hk))
      exact sz.merge h lT r3 (fun k hk=>(i3 k hk).1) B1 B2 rG r5 i5 tU
    ·cases ha
end AM
