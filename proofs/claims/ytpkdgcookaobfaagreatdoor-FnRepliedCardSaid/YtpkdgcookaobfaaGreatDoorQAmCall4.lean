/- THE ABSTRACT MACHINE: an argument that is lent to a call, and what comes back. -/
import Derived.Test.YtpkdgcookaobfaaGreatDoorQAmCall2
namespace AM
set_option linter.unusedVariables false
open Go
variable{U:lz}{E:Env U}{pm:Pm}
variable{F F':Nat->Prop}{kv:Key->Value}{fp:Key->List Nat}{σ:ak U}{a:Act}{w w':World}{bad:Key->Bool}
theorem akD{kv':Key->Value}{fp':Key->List Nat}{bad':Key->Bool}{y:AC U}{v:Value}(hs:y.still=true)(h:RD E w F kv fp bad y v)(hk:∀k∈y.keys,kv' k=kv k)
  (hF:∀b,F b->F' b/\w'.heap[b]? =w.heap[b]?):RD E w' F' kv' fp' bad' y v:=by
 have hb:iJ bad y=false:=by
  unfold AC.still at hs
  split at hs<;>first|rfl|cases hs
 refine⟨h.1,.inr ?_⟩
 have h0:=cw h hb
 unfold AC.still at hs
 split at hs
 ·exact Rp.gg h0 hF (by simp)
 ·exact h0
 ·rename_i k
  simp only[RA] at h0⊢
  rw[hk k (by simp[AC.keys])];exact h0
 ·rename_i k off
  simp only[RA] at h0⊢
  rw[hk k (by simp[AC.keys])];exact h0
 ·cases hs
theorem acG{kv':Key->Value}{fp':Key->List Nat}{bad':Key->Bool}{xs:List (AC U)}{vs:List Value}(hs:xs.all AC.still=true)(h:mc E w F kv fp bad xs vs)(hk:∀y∈xs,∀k∈y.keys,kv' k=kv k)
  (hF:∀b,F b->F' b/\w'.heap[b]? =w.heap[b]?):mc E w' F' kv' fp' bad' xs vs:=
 ⟨h.1,fun i y v hy hv=>akD (sC.1 hs y (Gl hy)) (h.2 i y v hy hv) (hk y (Gl hy)) hF⟩
theorem aad(h:cM E pm F kv fp σ a w):∀{ks:List Key},ks.Nodup->(∀k∈ks,(σ.bO k).isSome=true)->(ks.flatMap fp).Nodup
 |[],_,_=>by simp
 |k::ks,hn,hl=>by
  rw[zB,rK]
  obtain⟨e,he⟩:=nf.1 (hl k iy)
  rw[tY] at hn
  refine⟨h.nodup k e he,aad h hn.2 (fun k' cU=>hl k' (fA _ cU)),fun b hb c hc e'=> ?_⟩
  subst e'
  obtain⟨k',cU,bj⟩:=oQ.1 hc
  obtain⟨e2,uf⟩:=nf.1 (hl k' (fA _ cU))
  exact h.apart k k' e e2 b (fun e=>hn.1 (e▸cU)) he uf hb bj
theorem ZQ(h:cM E pm F kv fp σ a w){rs:List Key}:∀{xs:List (AC U)}{vs:List Value}{cs vT:List U.C}{ks:List Key}{us:List (Key×iN U)}{fl:List (List Nat)},jD (restrict σ.bO rs) xs=some (cs,ks)->mc E w F kv fp (bW σ) xs vs->
  mz xs vT=some us->fl.length=vT.length->(∀(i:Nat)(c:U.C),vT[i]? =some c->Rp E w' F' true c (vs.getD i undef) (fl.getD i []))->
  us.map (·.1)=ks/\∃tl:List (Key×iN U×List Nat),tl.map (fun t=>(t.1,t.2.1))=us/\(∀s∈tl,∀kv' fp' bad',tP E w' F' kv' fp' bad' s.2.1 (kv s.1) s.2.2)/\tl.flatMap (·.2.2)=fl.flatten
 |[],vs,cs,vT,ks,us,fl,hw,hx,hu,hl,hr=>by
  simp only[jD,gA,pq] at hw
  obtain⟨rfl,rfl⟩:=hw
  cases vT with
  |cons _ _=>simp[mz] at hu
  |nil=>
   simp only[mz,gA] at hu
   subst hu
   have:fl=[]:=FL hl
   subst this
   exact⟨rfl,[],rfl,by simp,rfl⟩
 |x::xs,vs,cs,vT,ks,us,fl,hw,hx,hu,hl,hr=>by
  obtain⟨v,wj,rfl,h1,h2⟩:=hx.cons_inv
  cases vT with
  |nil=>unfold mz at hu;split at hu<;>first|(rename_i e1 e2;cases e1;done)|(rename_i e1 e2;cases e2;done)|cases hu
  |cons c vT=>
   cases fl with
   |nil=>simp at hl
   |cons l fl=>
    have VQ:Rp E w' F' true c v l:=by simpa using hr 0 c rfl
    have Ga:∀(i:Nat)(c:U.C),vT[i]? =some c->Rp E w' F' true c (wj.getD i undef) (fl.getD i []):=fun i c hc=>by simpa using hr (i+1) c (by simpa using hc)
    have Oe:fl.length=vT.length:=by simpa using hl
    unfold jD at hw
    split at hw
    ·rename_i pV;cases pV
    ·rename_i u r pV
     cases pV
     split at hw
     ·rename_i cs0 ks0 GR
      cases hw
      cases c with
      |sl τ ys=>simp[mz] at hu
      |lit u'=>
       simp only[mz] at hu
       obtain⟨i1,tl,i2,i3,i4⟩:=ZQ h GR h2 hu Oe Ga
       obtain⟨rfl,_,_⟩:=VQ.kc
       exact⟨i1,tl,i2,i3,by simpa using i4⟩
     ·cases hw
    ·rename_i k r pV
     cases pV
     split at hw
     ·rename_i y cs0 ks0 he GR
      cases hw
      cases c with
      |lit _=>simp[mz] at hu
      |sl τ ys=>
       simp only[mz] at hu
       split at hu
       ·rename_i QB sV
        cases hu
        obtain⟨i1,tl,i2,i3,i4⟩:=ZQ h GR h2 sV Oe Ga
        have hv:v=kv k:=cw h1 rfl
        refine⟨by simp[i1],(k,.arr ⟨τ,ys⟩ true,l)::tl,by simp[i2],fun s hs kv' fp' bad'=> ?_,by simp[i4]⟩
        rcases jZ.1 hs with rfl|hs
        ·rw[<-hv];exact VQ.H_
        ·exact i3 s hs kv' fp' bad'
       ·cases hu
     ·cases hw
    ·cases hw
theorem Rp.Vx{c:U.C}{v:Value}{l:List Nat}(h:Rp E w F false c v l){b:Nat}(hb:b∈l):F' b:=by
 generalize hm:false=m at h
 cases h with
 |lit=>cases hb
 |nil=>cases hb
 |shr=>cases hb
 |own=>cases hm
def NE(E:Env U)(σ:ak U)(w:World)(F:Nat->Prop)(kv:Key->Value)(fp:Key->List Nat)(nI:Nat)(ks:List Key)(l:List Nat)(us:List (Key×iN U))(es:List (Nat×iN U))(w':World)(F':Nat->Prop)(ml:List Nat):Prop:=
 ∃(tl:List (Key×iN U×List Nat))(t:fi U),tl.map (fun t=>(t.1,t.2.1))=us/\es=t.es/\
  (∀s∈tl,∀kv' fp' bad',(∀k,Names σ k->kv' k=kv k)->(∀s∈t,kv' (nI,s.1)=s.2.2.1)->tP E w' F' kv' fp' bad' s.2.1 (kv s.1) s.2.2)/\
  (∀s∈t,∀kv' fp' bad',tP E w' F' kv' fp' bad' s.2.1 s.2.2.1 s.2.2.2)/\
  (tl.flatMap (·.2.2)++t.bl).Nodup/\∀b∈tl.flatMap (·.2.2)++t.bl,b∈ml\/(b∉l/\∃k∈ks,b∈fp k)
theorem aky{tb:rl U}{want:Option U.Ty}{x:AC U}{ps:List Prop}{c:U.C}{ks:List Key}{d:Bool}(h:uB tb want x=some (ps,c,ks,d)):∀k∈ks,k∈x.keys:=by
 unfold uB at h
 split at h
 ·cases h;simp
 ·cases h;simp
 ·split at h<;>cases h;simp
 ·split at h<;>cases h<;>simp[AC.keys]
 ·split at h<;>cases h<;>simp[AC.keys]
 ·cases h
theorem acD{tb:rl U}:∀{xs:List (AC U)}{want:List (Option U.Ty)}{ps:List Prop}{cs:List U.C}{ks:List Key}{d:Bool},fe tb want xs=some (ps,cs,ks,d)->cs.length=xs.length
 |[],want,ps,cs,ks,d,h=>by
  simp only[fe,gA,pq] at h
  obtain⟨_,rfl,_⟩:=h
  rfl
 |x::xs,want,ps,cs,ks,d,h=>by
  simp only[fe] at h
  split at h
  ·rename_i h1 h2
   cases h
   simp[acD h2]
  ·cases h
theorem mc.EB{xs:List (AC U)}{vs:List Value}(h:mc E w F kv fp bad xs vs):∀v∈vs,gr v:=by
 intro v hv
 obtain⟨n,hn,rfl⟩:=sG hv
 exact(h.2 n (xs[n]'(by rw[h.1];exact hn)) _ (fw _) (fw hn)).1
theorem ZV{tb:rl U}:∀{xs:List (AC U)}{want:List (Option U.Ty)}{ps:List Prop}{cs:List U.C}{ks:List Key}{d:Bool},fe tb want xs=some (ps,cs,ks,d)->∀k∈ks,∃x∈xs,k∈x.keys
 |[],want,ps,cs,ks,d,h,k,hk=>by
  simp only[fe,gA,pq] at h
  obtain⟨_,_,rfl,_⟩:=h
  cases hk
 |x::xs,want,ps,cs,ks,d,h,k,hk=>by
  simp only[fe] at h
  split at h
  ·rename_i h1 h2
   cases h
   rcases jC.1 hk with hk|hk
   ·exact⟨x,iy,aky h1 k hk⟩
   ·obtain⟨y,hy,hk⟩:=ZV h2 k hk
    exact⟨y,fA _ hy,hk⟩
  ·cases h
theorem ZS{tb:rl U}:∀{xs:List (AC U)}{cs:List U.C}{ks:List Key},jD tb xs=some (cs,ks)->∀k∈ks,∃x∈xs,k∈x.keys
 |[],cs,ks,h,k,hk=>by
  simp only[jD,gA,pq] at h
  obtain⟨_,rfl⟩:=h
  cases hk
 |x::xs,cs,ks,h,k,hk=>by
  unfold jD at h
  split at h
  ·rename_i pV;cases pV
  ·rename_i pV;cases pV
   split at h
   ·rename_i h1
    cases h
    obtain⟨y,hy,hk⟩:=ZS h1 k hk
    exact⟨y,fA _ hy,hk⟩
   ·cases h
  ·rename_i pV;cases pV
   split at h
   ·rename_i h0 h1
    cases h
    rcases jZ.1 hk with rfl|hk
    ·exact⟨_,iy,by simp[AC.keys]⟩
    ·obtain⟨y,hy,hk⟩:=ZS h1 k hk
     exact⟨y,fA _ hy,hk⟩
   ·cases h
  ·cases h
theorem alT{rs:List Key}{want:List (Option U.Ty)}{m:Mode}{x:SV U}{ps:List Prop}{d:DV U}{ks:List Key}(h:mo (restrict σ.bO rs) σ.aT want m x=some (ps,d,ks))(vy:∀k∈x.keys,Names σ k):∀k∈ks,Names σ k:=by
 unfold mo at h
 split at h
 ·split at h
  ·rw[im] at h
   split at h
   ·split at h
    ·cases h
     intro k hk
     exact vy k (by simpa[SV.keys,SV.Ca,AC.keys] using hk)
    ·cases h
   ·cases h
  ·cases h
 ·rename_i cs
  split at h
  ·rename_i hw
   rw[im] at h
   split at h
   ·cases h
    intro k hk
    obtain⟨y,hy,hk⟩:=ZS hw k hk
    exact vy k (SV.mem_keys.2 ⟨y,hy,hk⟩)
   ·cases h
  ·cases h
 ·rename_i y
  split at h
  ·rename_i hw
   split at h
   ·rw[im] at h
    split at h
    ·cases h
     intro k hk
     obtain⟨z,hz,hk⟩:=ZV hw k hk
     exact vy k (SV.mem_keys.2 ⟨z,hz,hk⟩)
    ·cases h
   ·cases h
  ·cases h
 ·rename_i k0
  have BY:Names σ k0:=vy k0 (by simp[SV.keys,SV.Ca,AC.keys])
  split at h
  ·rename_i cs he
   rw[im] at h
   split at h
   ·split at h
    ·rename_i hw
     rw[im] at h
     split at h
     ·cases h
      intro k hk
      rcases jZ.1 hk with rfl|hk
      ·exact BY
      ·obtain⟨z,hz,hk⟩:=ZV hw k hk
       exact .inr ⟨k0,cs,j0 he,z,List.mem_of_mem_take hz,hk⟩
     ·cases h
    ·cases h
   ·cases h
  ·cases h
 ·rename_i k0
  have BY:Names σ k0:=vy k0 (by simp[SV.keys,SV.Ca,AC.keys])
  split at h
  ·rw[im] at h
   split at h
   ·split at h
    ·cases h
     intro k hk
     rw[mI.1 hk]
     exact BY
    ·cases h
   ·cases h
  ·cases h
 ·cases h
theorem alS(h:cM E pm F kv fp σ a w){rs:List Key}{want:List (Option U.Ty)}{m:Mode}{x:SV U}{v:Value}{ps:List Prop}{d:DV U}{ks:List Key}
  (ha:mo (restrict σ.bO rs) σ.aT want m x=some (ps,d,ks)) (hp:∀p∈ps,p) (hx:RS E w F kv fp (bW σ) x v) (vy:∀k∈x.keys,Names σ k)
  {nI:Nat} {dm:List (DV U)} {us:List (Key×iN U)} {es:List (Nat×iN U)} (iM:ir (restrict σ.bO rs) nI want.length m x dm=some (us,es)):
  ∃l,oK E w F m d v l/\ks.Nodup/\(∀k∈ks,(σ.bO k).isSome=true)/\l.Nodup/\(∀b∈l,∃k∈ks,b∈fp k)/\
   (us.map (·.1)).Nodup/\(∀u∈us,u.1∈ks)/\
    ∀(w':World)(F':Nat->Prop)(iY:List (List Nat)),fg E w' F' w [m] [v] dm iY->(∀b,F b->F' b/\w'.heap[b]? =w.heap[b]?)->(∀k∈ks,∀c∈fp k,c∉l->w'.heap[c]? =w.heap[c]?)->iY.flatten.Nodup->
     (∀b∈iY.flatten,b∈l\/∀k∈ks,b∉fp k)->NE E σ w F kv fp nI ks l us es w' F' iY.flatten:=by
 have jo:∀{k:Key}{b:Nat},(σ.bO k).isSome=true->b∈fp k->b<w.heap.size:=by
  intro k b hk hb
  obtain⟨e,he⟩:=nf.1 hk
  exact(h.fQ k e b he hb).2.2
 unfold mo at ha
 split at ha
 ·
  rename_i k p
  split at ha
  ·rename_i y he
   have fc:=j0 he
   cases iv:fR (restrict σ.bO rs) σ.aT k p<;>simp only[iv,cond_false,cond_true] at ha
   ·cases ha
   ·split at ha
    ·rename_i KH b hw
     cases ha
     have BW:=HT hx
     have ot:=cw BW (HR iv he)
     have h0:e7 E w F true y (kv k) (fp k):=h.dH k _ fc
     have hl0:(σ.bO k).isSome=true:=by rw[fc];rfl
     unfold ir at iM
     split at iM
     ·rename_i k' p' τ ys pV
      cases pV
      simp only[he] at iM
      split at iM
      ·rename_i a' Xq
       cases iM
       obtain⟨vb,QD,pre,post,b',f1,f2,f3,f4,f5⟩:=h0.focus (h.nodup k _ fc) hw hp Xq
       have hvb:v=vb:=ot.unique f2
       subst hvb
       have hn:=h.nodup k _ fc
       rw[f4,rK,rK] at hn
       refine⟨QD,f3,by simp,by simpa using hl0,hn.1.2.1,fun c hc=>⟨k,by simp,by rw[f4];simp[hc]⟩,by simp,by simp,fun w' F' iY K9 Bf iX Mk PP=> ?_⟩
       cases iY with
       |nil=>exact K9.elim
       |cons l' iY=>
        obtain⟨PQ,J7⟩:=K9
        cases iY with
        |cons _ _=>exact J7.elim
        |nil=>
         obtain⟨⟨n1,n2,n3⟩,n4,n5⟩:=hn
         have w6:∀c∈pre++post,c∈fp k/\c∉QD:=by
          intro c hc
          rcases jC.1 hc with hc|hc
          ·exact⟨by rw[f4];simp[hc],fun ni=>n3 c hc c ni rfl⟩
          ·exact⟨by rw[f4];simp[hc],fun ni=>n5 c (rv _ ni) c hc rfl⟩
         have Xd:∀c∈pre++post,c∉l':=by
          intro c hc ni
          rcases PP c (by simpa using ni) with g|g
          ·exact(w6 c hc).2 g
          ·exact g k (by simp) (w6 c hc).1
         refine⟨[(k,.arr a' true,pre++l'++post)],[],rfl,rfl,fun s hs kv' fp' bad' _ _=> ?_,by simp,?_,fun c hc=> ?_⟩
         ·rw[mI.1 hs]
          split at f1
          ·rename_i zs hz
           have:=d_ hz
           cases this
           cases f1
           exact f5 w' F' l' rfl PQ (fun c hc=>iX k (by simp) c (w6 c hc).1 (w6 c hc).2)
          ·cases f1
         ·simp only[zB,zen,xu,fi.bl]
          have Ie:l'.Nodup:=by simpa using Mk
          rw[rK,rK]
          refine⟨⟨n1,Ie,fun c hc e he e'=>Xd c (sD _ hc) (e'▸he)⟩,n4,fun c hc e he e'=> ?_⟩
          rcases jC.1 hc with hc|hc
          ·exact n5 c (sD _ hc) e he e'
          ·exact Xd e (rv _ he) (e'▸hc)
         ·simp only[zB,zen,xu,fi.bl,jC] at hc
          rcases hc with(hc|hc)|hc
          ·exact .inr ⟨(w6 c (sD _ hc)).2,k,by simp,(w6 c (sD _ hc)).1⟩
          ·exact .inl (by simpa using hc)
          ·exact .inr ⟨(w6 c (rv _ hc)).2,k,by simp,(w6 c (rv _ hc)).1⟩
      ·cases iM
     all_goals first|(rename_i pV;cases pV;done)|(rename_i pV _;cases pV;done)|cases iM
    ·cases ha
  ·cases ha
 ·
  rename_i cs
  split at ha
  ·rename_i ds ks0 hw
   rw[im] at ha
   split at ha
   ·rename_i s7
    cases ha
    have uo:=uN.1 s7
    obtain⟨vs,FO,hv⟩:=hx
    simp only[if_true] at hv
    obtain⟨g1,g2,fl,f1,f2,f3⟩:=ZR h hw FO
    unfold ir at iM
    split at iM
    ·rename_i pV;cases pV
    ·rename_i vT ds' pV
     cases pV
     split at iM
     ·rename_i QB hu
      cases iM
      have BY:us.map (·.1)=ks:=by
       have:∀{xs:List (AC U)}{cs vT:List U.C}{ks:List Key}{us:List (Key×iN U)},jD (restrict σ.bO rs) xs=some (cs,ks)->mz xs vT=some us->us.map (·.1)=ks:=by
        intro xs
        induction xs with
        |nil=>
         intro cs vT ks us h1 h2
         simp only[jD,gA,pq] at h1
         cases vT with
         |cons _ _=>simp[mz] at h2
         |nil=>simp only[mz,gA] at h2;subst h2;rw[<-h1.2];rfl
        |cons x xs ih=>
         intro cs vT ks us h1 h2
         unfold jD at h1
         split at h1
         ·rename_i pV;cases pV
         ·rename_i u r pV
          cases pV
          split at h1
          ·rename_i cs0 ks0 hr
           cases h1
           cases vT with
           |nil=>simp[mz] at h2
           |cons c vT=>cases c with
            |sl _ _=>simp[mz] at h2
            |lit _=>simp only[mz] at h2;exact ih hr h2
          ·cases h1
         ·rename_i k r pV
          cases pV
          split at h1
          ·rename_i y cs0 ks0 he hr
           cases h1
           cases vT with
           |nil=>simp[mz] at h2
           |cons c vT=>cases c with
            |lit _=>simp[mz] at h2
            |sl τ ys=>
             simp only[mz] at h2
             split at h2
             ·rename_i QB sV
              cases h2
              simp[ih hr sV]
             ·cases h2
          ·cases h1
         ·cases h1
       exact this hw hu
      refine⟨fl.flatten,⟨vs,fl,hv,by rw[g1];exact FO.1.symm,f1,f2,rfl⟩,uo,g2,by rw[f3];exact aad h uo g2,fun c hc=>by rw[f3] at hc;exact oQ.1 hc,by rw[BY];exact uo,fun u sV=>by rw[<-BY];exact mf.2 ⟨u,sV,rfl⟩,fun w' F' iY K9 Bf iX Mk PP=> ?_⟩
      cases iY with
      |nil=>exact K9.elim
      |cons l' iY=>
       obtain⟨PQ,J7⟩:=K9
       cases iY with
       |cons _ _=>exact J7.elim
       |nil=>
        obtain⟨wj,fl',e1,e2,e3,e4,e5⟩:=PQ
        rw[hv] at e1
        have:wj=vs:=by simpa using e1.symm
        subst this
        obtain⟨i1,tl,i2,i3,i4⟩:=ZQ (w':=w') (F':=F') h hw FO hu e3 e4
        have Ie:l'.Nodup:=by simpa using Mk
        refine⟨tl,[],i2,rfl,fun s hs kv' fp' bad' _ _=>i3 s hs kv' fp' bad',by simp,?_,fun c hc=> ?_⟩
        ·rw[i4,<-e5];simpa[fi.bl] using Ie
        ·rw[i4,<-e5] at hc
         exact .inl (by simpa[fi.bl] using hc)
     ·cases iM
    all_goals first|(rename_i pV;cases pV;done)|(rename_i pV _;cases pV;done)|cases iM
   ·cases ha
  ·cases ha
 ·
  rename_i y
  split at ha
  ·rename_i KH cs ks' ht
   split at ha
   ·rename_i d' hd
    rw[im] at ha
    split at ha
    ·rename_i s7
     cases ha
     have uo:=uN.1 s7
     obtain⟨vs,FO,hv⟩:=hx
     obtain⟨g1,g2,g3,_⟩:=MM h ht hp FO uo
     obtain⟨fl,f1,f2,f3,f4⟩:=g3 rfl
     have n9:oK E w F .mv d v fl.flatten:=by
      unfold No at hd
      cases Uv:y.agg<;>rw[Uv] at hd hv<;>simp only[cond_true,cond_false,xv,if_false,if_true] at hd hv
      ·split at hd
       ·cases hd
        subst hv
        simp only[fK,fv] at f1
        obtain⟨l,rfl⟩:=List.length_eq_one_iff.1 f1
        simpa[oK] using f2 0 _ rfl
       ·cases hd
      ·cases hd
       exact⟨vs,fl,hv,by rw[g1];exact FO.1.symm,f1,f2,rfl⟩
     have hdm:dm=[]/\us=[]/\es=[]:=by
      cases dm with
      |nil=>simp only[ir,gA,pq] at iM;exact⟨rfl,iM.1.symm,iM.2.symm⟩
      |cons _ _=>simp[ir] at iM
     obtain⟨rfl,rfl,rfl⟩:=hdm
     refine⟨fl.flatten,n9,uo,g2,f3,f4,by simp,by simp,fun w' F' iY K9 Bf iX Mk PP=> ?_⟩
     have:iY=[]:=by cases iY with|nil=>rfl|cons _ _=>exact K9.elim
     subst this
     exact⟨[],[],rfl,rfl,by simp,by simp,by simp[fi.bl],by simp[fi.bl]⟩
    ·cases ha
   ·cases ha
  ·cases ha
 ·
  rename_i k
  split at ha
  ·rename_i cs he
   have fc:=j0 he
   have hl0:(σ.bO k).isSome=true:=by rw[fc];rfl
   rw[im] at ha
   split at ha
   ·rename_i hc0
    simp only[cJ,QJ] at hc0
    obtain⟨Xc,qR⟩:=hc0
    split at ha
    ·rename_i KH l0 ks' ht
     rw[im] at ha
     split at ha
     ·rename_i s7
      cases ha
      have uo:=uN.1 s7
      obtain⟨b,h1,h2⟩:=cw (HT hx) rfl
      obtain⟨b',cur,e,h3,h4,h5,h6⟩:=h.dH k _ fc
      rw[h1] at h3;cases h3
      subst h2
      have hlen:cs.length=cur.size:=by have:=h6.1;simpa using this
      obtain⟨g1,g2,g3,_⟩:=MM h ht hp (h6.take want.length) (tY.1 uo).2
      obtain⟨fl,f1,f2,f3,f4⟩:=g3 rfl
      have Nb:l0.length=want.length:=by rw[g1,oc];omega
      have lJ:∀u∈cur.toList.drop l0.length,gr u:=(h6.drop l0.length).EB
      have sY:∀(i:Nat)(c:U.C),l0[i]? =some c->cur.toList.getD i undef=(cur.toList.take want.length).getD i undef:=by
       intro i c hc
       have hi:i<want.length:=by
        rw[<-Nb]
        rcases pe i l0.length with g|g
        ·exact g
        ·rw[od g] at hc;cases hc
       simp only[ez,qn,if_pos hi]
      have abl:b∉fl.flatten:=by
       intro hb
       obtain⟨k',cU,bj⟩:=f4 b hb
       obtain⟨e2,uf⟩:=nf.1 (g2 k' cU)
       exact h.apart k k' _ e2 b (fun e=>(tY.1 uo).1 (by rw[e];exact cU)) fc uf (by rw[h5];simp) bj
      have hdm:∃ds,dm=[.box ds]/\ds.length=want.length/\us=[(k,.box ((putCells nI true 512 ds).1++cs.drop want.length))]/\es=(putCells nI true 512 ds).2:=by
       cases dm with
       |nil=>simp[ir] at iM
       |cons d0 dm=>
        cases dm with
        |cons _ _=>simp[ir] at iM
        |nil=>
         cases d0 with
         |one _=>simp[ir] at iM
         |agg _=>simp[ir] at iM
         |ptr _=>simp[ir] at iM
         |fn _=>simp[ir] at iM
         |box ds=>
          simp only[ir,he] at iM
          rw[im] at iM
          split at iM
          ·rename_i K_
           cases iM
           exact⟨ds,rfl,nk K_,rfl,rfl⟩
          ·cases iM
      obtain⟨ds,rfl,Im,rfl,rfl⟩:=hdm
      refine⟨b::fl.flatten,⟨b,cur,e,fl,rfl,h4,by omega,by rw[MN h4],by rw[MN h4];exact lJ,f1,fun i c hc=>by rw[sY i c hc];exact f2 i c hc,rfl⟩,uo,fun k' cU=>by
       rcases jZ.1 cU with rfl|cU
       ·exact hl0
       ·exact g2 k' cU,tY.2 ⟨abl,f3⟩,fun c hc=>by
       rcases jZ.1 hc with rfl|hc
       ·exact⟨k,by simp,by rw[h5];simp⟩
       ·obtain⟨k',cU,hc⟩:=f4 c hc;exact⟨k',fA _ cU,hc⟩,by simp,by simp,fun w' F' iY K9 Bf iX Mk PP=> ?_⟩
      cases iY with
      |nil=>exact K9.elim
      |cons l' iY=>
       obtain⟨PQ,J7⟩:=K9
       cases iY with
       |cons _ _=>exact J7.elim
       |nil=>
        obtain⟨b2,cur',e',fl',k1,k2,k3,k4,k5,k6,k7,rfl⟩:=PQ
        cases k1
        rw[MN h4,Im] at k4
        have Ie:(b::fl'.flatten).Nodup:=by simpa using Mk
        have iv:cur'.toList.take ds.length++cur'.toList.drop ds.length=cur'.toList:=Ul _ _
        obtain⟨t,t1,t2,t3,t4⟩:=KA (E:=E) (w:=w') (F:=F') (dst:=nI) (base:=512) (cs:=ds) (vs:=cur'.toList.take ds.length) (fl:=fl') (by simp;omega) k6 (fun i c hc=>by
         have hi:i<ds.length:=by
          rcases pe i ds.length with g|g
          ·exact g
          ·rw[od g] at hc;cases hc
         have:=k7 i c hc
         rw[ez,qn,if_pos hi,<-ez]
         exact this)
        refine⟨[(k,.box ((putCells nI true 512 ds).1++cs.drop want.length),[b])],t,rfl,t1,fun s hs kv' fp' bad' aa9 Up=> ?_,t2,?_,fun c hc=> ?_⟩
        ·rw[mI.1 hs]
         refine⟨b,cur',e',h1,k2,rfl,?_⟩
         rw[<-iv]
         refine(t4 kv' fp' bad' Up).append ?_
         rw[Im,k4]
         exact acG qR (h6.drop want.length) (fun y hy k' cU=>aa9 k' (.inr ⟨k,cs,fc,y,List.mem_of_mem_drop hy,cU⟩)) Bf
        ·simp only[zB,zen,xu]
         rw[t3]
         exact Ie
        ·simp only[zB,zen,xu] at hc
         rw[t3] at hc
         exact .inl (by simpa using hc)
     ·cases ha
    ·cases ha
   ·cases ha
  ·cases ha
 ·
  rename_i k
  split at ha
  ·rename_i cs he
   have fc:=j0 he
   have hl0:(σ.bO k).isSome=true:=by rw[fc];rfl
   rw[im] at ha
   split at ha
   ·rename_i hc0
    simp only[cJ,QJ] at hc0
    obtain⟨Xc,qR⟩:=hc0
    split at ha
    ·rename_i l0 Bb
     cases ha
     have vA:=Ph Bb
     obtain⟨b,h1,h2⟩:=cw (HT hx) rfl
     obtain⟨b',cur,e,h3,h4,h5,h6⟩:=h.dH k _ fc
     rw[h1] at h3;cases h3
     subst h2
     have hlen:cs.length=cur.size:=by have:=h6.1;simpa using this
     have Nb:l0.length=want.length:=by
      have:=congrArg List.length vA
      rw[oc,xt] at this
      omega
     have lJ:∀u∈cur.toList.drop l0.length,gr u:=(h6.drop l0.length).EB
     have hdm:∃ds,dm=[.box ds]/\ds.length=want.length/\us=[(k,.box (ds.map .c++cs.drop want.length))]/\es=[]:=by
      cases dm with
      |nil=>simp[ir] at iM
      |cons d0 dm=>
       cases dm with
       |cons _ _=>simp[ir] at iM
       |nil=>
        cases d0 with
        |one _=>simp[ir] at iM
        |agg _=>simp[ir] at iM
        |ptr _=>simp[ir] at iM
        |fn _=>simp[ir] at iM
        |box ds=>
         simp only[ir,he] at iM
         rw[im] at iM
         split at iM
         ·rename_i K_
          cases iM
          exact⟨ds,rfl,nk K_,rfl,rfl⟩
         ·cases iM
     obtain⟨ds,rfl,Im,rfl,rfl⟩:=hdm
     refine⟨[b],⟨b,cur,e,List.replicate l0.length [],rfl,h4,by omega,by rw[MN h4],by rw[MN h4];exact lJ,by simp,fun i c hc=> ?_,by rw[zN]⟩,by simp,by simpa using hl0,by simp,by simp[h5],by simp,by simp,fun w' F' iY K9 Bf iX Mk PP=> ?_⟩
     ·have hi:i<want.length:=by
       rw[<-Nb]
       rcases pe i l0.length with g|g
       ·exact g
       ·rw[od g] at hc;cases hc
      have hci:cs[i]? =some (.c c):=by
       have:(cs.take want.length)[i]? =some (.c c):=by rw[vA,nT,hc];rfl
       rwa[qn,if_pos hi] at this
      have h7:=cw (h6.2 i (.c c) (cur.toList.getD i undef) hci (fF (by simp;omega))) rfl
      rw[HP]
      exact h7
     ·cases iY with
      |nil=>exact K9.elim
      |cons l' iY=>
       obtain⟨PQ,J7⟩:=K9
       cases iY with
       |cons _ _=>exact J7.elim
       |nil=>
        obtain⟨b2,cur',e',fl',k1,k2,k3,k4,k5,k6,k7,rfl⟩:=PQ
        cases k1
        rw[MN h4,Im] at k4
        have Ie:(b::fl'.flatten).Nodup:=by simpa using Mk
        have iv:cur'.toList.take ds.length++cur'.toList.drop ds.length=cur'.toList:=Ul _ _
        refine⟨[(k,.box (ds.map .c++cs.drop want.length),[b])],[],rfl,rfl,fun s hs kv' fp' bad' aa9 Up=> ?_,by simp,by simp[fi.bl],fun c hc=> ?_⟩
        ·rw[mI.1 hs]
         refine⟨b,cur',e',h1,k2,rfl,?_⟩
         rw[<-iv]
         refine mc.append ?_ ?_
         ·refine MR (by simp;omega) (fun i c hc=> ?_)
          have hi:i<ds.length:=by
           rcases pe i ds.length with g|g
           ·exact g
           ·rw[od g] at hc;cases hc
          have:=k7 i c hc
          rw[ez,qn,if_pos hi,<-ez]
          exact this.lD (fun _ hb=>hb) (fun b' bj=>this.Vx bj)
         ·rw[Im,k4]
          exact acG qR (h6.drop want.length) (fun y hy k' cU=>aa9 k' (.inr ⟨k,cs,fc,y,List.mem_of_mem_drop hy,cU⟩)) Bf
        ·simp only[zB,zen,xu,fi.bl,mI] at hc
         subst hc
         exact .inl (by simp)
    ·cases ha
   ·cases ha
  ·cases ha
 ·cases ha
theorem sz.fT{own:Bool}{cs:List U.C}{rest:List Value}{v:Value}{l:List Nat}(h:sz E w F own cs rest v l)(hF:∀b,F b->F' b):sz E w F' own cs rest v l:=by
 obtain⟨b,cur,e,fl,h1,h2,h3,h4,h5,h6,h7,h8⟩:=h
 exact⟨b,cur,e,fl,h1,h2,h3,h4,h5,h6,fun i c hc=>(h7 i c hc).gg (fun b hb=>⟨hF b hb,rfl⟩) (fun _ _=>rfl),h8⟩
theorem oK.fT{m:Mode}{d:DV U}{v:Value}{l:List Nat}(hm:m≠ .ro)(h:oK E w F m d v l)(hF:∀b,F b->F' b):oK E w F' m d v l:=by
 cases m with
 |ro=>exact absurd rfl hm
 |wr=>
  cases d with
  |one c=>
   cases c with
   |lit _=>exact h
   |sl τ xs=>exact e7.any h
  |agg _=>exact mF.any h
  |box _=>exact h
  |ptr _=>exact h
  |fn _=>exact h
 |mv=>
  cases d with
  |one c=>exact Rp.tV h (fun _ _=>rfl)
  |agg _=>exact mF.any h
  |box _=>exact h
  |ptr _=>exact h
  |fn _=>exact h
 |box own=>
  cases d with
  |box cs=>exact sz.fT h hF
  |one _=>exact h
  |agg _=>exact h
  |ptr _=>exact h
  |fn _=>exact h
theorem acI(h:cM E pm F kv fp σ a w){ks ks':List Key}(hn:(ks++ks').Nodup)(hl:∀k∈ks,(σ.bO k).isSome=true)(Ii:∀k∈ks',(σ.bO k).isSome=true){b:Nat}(hb:∃k∈ks,b∈fp k):∀k∈ks',b∉fp k:=by
 intro k' cU bj
 obtain⟨k,hk,hb⟩:=hb
 obtain⟨e,he⟩:=nf.1 (hl k hk)
 obtain⟨e2,uf⟩:=nf.1 (Ii k' cU)
 exact h.apart k k' e e2 b (fun e3=>(rK.1 hn).2.2 k hk k' cU e3) he uf hb bj
theorem aas{a1 a2 b1 b2:List Nat}(n1:(a1++b1).Nodup)(n2:(a2++b2).Nodup)(x:∀b∈a1++b1,b∉a2++b2):((a1++a2)++(b1++b2)).Nodup:=by
 have hp:((a1++a2)++(b1++b2)).Perm ((a1++b1)++(a2++b2)):=by
  rw[xz,xz]
  refine List.Perm.append_left a1 ?_
  rw[<-xz,<-xz]
  exact List.Perm.append_right b2 List.perm_append_comm
 rw[hp.nodup_iff,rK]
 exact⟨n1,n2,fun b hb c hc e=>x b hb (e▸hc)⟩
theorem NE.merge(h:cM E pm F kv fp σ a w){ks ks':List Key}(hn:(ks++ks').Nodup)(hl:∀k∈ks,(σ.bO k).isSome=true)(Ii:∀k∈ks',(σ.bO k).isSome=true){nI:Nat}{l l':List Nat}{us QB:List (Key×iN U)}{es es':List (Nat×iN U)}{ml ml':List Nat}
  (h1:NE E σ w F kv fp nI ks l us es w' F' ml) (h2:NE E σ w F kv fp nI ks' l' QB es' w' F' ml') (Mk:(ml++ml').Nodup) (hf:∀b∈l,∃k∈ks,b∈fp k) (hf':∀b∈l',∃k∈ks',b∈fp k)
  (ho:∀b∈ml++ml',b∈l++l'\/∀k∈ks++ks',b∉fp k):NE E σ w F kv fp nI (ks++ks') (l++l') (us++QB) (es++es') w' F' (ml++ml'):=by
 obtain⟨tl,t,a1,a2,a3,a4,a5,a6⟩:=h1
 obtain⟨tl',t',b1,b2,b3,b4,b5,b6⟩:=h2
 have yh:∀{b:Nat},(∃k∈ks,b∈fp k)->¬∃k∈ks',b∈fp k:=fun hb hc=>by
  obtain⟨k,hk,ni⟩:=hc
  exact acI h hn hl Ii hb k hk ni
 have hx:∀b∈tl.flatMap (·.2.2)++t.bl,b∉tl'.flatMap (·.2.2)++t'.bl:=by
  intro b hb bj
  rcases a6 b hb with g|⟨g,gk⟩
  ·rcases b6 b bj with g'|⟨g',gk'⟩
   ·exact(rK.1 Mk).2.2 b g b g' rfl
   ·rcases ho b (sD _ g) with q|q
    ·rcases jC.1 q with q|q
     ·exact yh (hf b q) gk'
     ·exact g' q
    ·obtain⟨k,hk,iM⟩:=gk'
     exact q k (rv _ hk) iM
  ·rcases b6 b bj with g'|⟨g',gk'⟩
   ·rcases ho b (rv _ g') with q|q
    ·rcases jC.1 q with q|q
     ·exact g q
     ·exact yh gk (hf' b q)
    ·obtain⟨k,hk,iM⟩:=gk
     exact q k (sD _ hk) iM
   ·exact yh gk gk'
 refine⟨tl++tl',t++t',by rw[J9,a1,b1],by rw[fi.G9,a2,b2],fun s hs kv' fp' bad' q1 q2=> ?_,fun s hs=> ?_,?_,fun b hb=> ?_⟩
 ·rcases jC.1 hs with hs|hs
  ·exact a3 s hs kv' fp' bad' q1 fun s' kl=>q2 s' (sD _ kl)
  ·exact b3 s hs kv' fp' bad' q1 fun s' kl=>q2 s' (rv _ kl)
 ·rcases jC.1 hs with hs|hs
  ·exact a4 s hs
  ·exact b4 s hs
 ·rw[Uh,fi.vU]
  exact aas a5 b5 hx
 ·rw[Uh,fi.vU] at hb
  have hb:b∈tl.flatMap (·.2.2)++t.bl\/b∈tl'.flatMap (·.2.2)++t'.bl:=by
   simp only[jC] at hb⊢
   rcases hb with(hb|hb)|(hb|hb)
   ·exact .inl (.inl hb)
   ·exact .inr (.inl hb)
   ·exact .inl (.inr hb)
   ·exact .inr (.inr hb)
  rcases hb with hb|hb
  ·rcases a6 b hb with g|⟨g,k,hk,iM⟩
   ·exact .inl (sD _ g)
   ·exact .inr ⟨fun q=>(jC.1 q).elim g (fun q=>yh ⟨k,hk,iM⟩ (hf' b q)),k,sD _ hk,iM⟩
  ·rcases b6 b hb with g|⟨g,k,hk,iM⟩
   ·exact .inl (rv _ g)
   ·exact .inr ⟨fun q=>(jC.1 q).elim (fun q=>yh (hf b q) ⟨k,hk,iM⟩) g,k,rv _ hk,iM⟩
theorem fg.split{w0:World}{m:Mode}{v:Value}{ms:List Mode}{vs:List Value}{dm:List (DV U)}{iY:List (List Nat)}(hm:m≠ .ro)(h:fg E w F w0 (m::ms) (v::vs) dm iY):
  ∃GJ Vz,iY=GJ++Vz/\fg E w F w0 [m] [v] (BQ m dm) GJ/\fg E w F w0 ms vs (xZ m dm) Vz:=by
 cases m with
 |ro=>exact absurd rfl hm
 |mv=>exact⟨[],iY,rfl,trivial,by simpa[fg,xZ] using h⟩
 |wr=>
  cases dm with
  |nil=>cases iY<;>exact h.elim
  |cons d dm=>
   cases iY with
   |nil=>cases d<;>first|exact h.elim|(rename_i c;cases c<;>exact h.elim)
   |cons l' iY=>
    cases d with
    |one c=>
     cases c with
     |lit _=>exact h.elim
     |sl τ ys=>exact⟨[l'],iY,rfl,⟨h.1,trivial⟩,h.2⟩
    |agg _=>exact⟨[l'],iY,rfl,⟨h.1,trivial⟩,h.2⟩
    |box _=>exact h.elim
    |ptr _=>exact h.elim
    |fn _=>exact h.elim
 |box own=>
  cases dm with
  |nil=>cases iY<;>exact h.elim
  |cons d dm=>
   cases iY with
   |nil=>cases d<;>exact h.elim
   |cons l' iY=>
    cases d with
    |box cs=>exact⟨[l'],iY,rfl,⟨h.1,trivial⟩,h.2⟩
    |one _=>exact h.elim
    |agg _=>exact h.elim
    |ptr _=>exact h.elim
    |fn _=>exact h.elim
theorem akZ(h:cM E pm F kv fp σ a w){rs:List Key}{n:Nat}:∀{ms:List Mode}{ws:List (List (Option U.Ty))}{xs:List (SV U)}{vs:List Value}{ps:List Prop}{ds:List (DV U)},
  nQ E (restrict σ.bO rs) σ.aT ms ws xs=some (ps,ds)->xs.length=vs.length->(∀(i:Nat)(x:SV U)(v:Value),xs[i]? =some x->vs[i]? =some v->RS E w F kv fp (bW σ) x v)->Ef (restrict σ.bO rs) n ms ws xs=true->tO w n ms ds vs:=by
 intro ms
 induction ms with
 |nil=>intro ws xs vs ps ds _ _ _ _;trivial
 |cons m ms ih=>
  intro ws xs vs ps ds ha hl hx hr
  cases xs with
  |nil=>cases m<;>simp[nQ] at ha
  |cons x xs=>
   cases vs with
   |nil=>simp at hl
   |cons v vs=>
    simp only[nQ] at ha
    split at ha
    rotate_left
    ·cases ha
    rename_i Um d1 ps2 ds2 h1 h2
    cases ha
    simp only[Ef,cJ] at hr
    refine⟨fun own cs hm hd=> ?_,ih h2 (by simpa using hl) (fun i y u hy hu=>hx (i+1) y u (by simpa using hy) (by simpa using hu)) hr.2⟩
    subst hm
    subst hd
    have Ga:=hr.1
    split at Ga
    ·rename_i o1 k off hbo
     split at Ga
     rotate_left
     ·cases Ga
     rename_i bs he
     have fc:=j0 he
     have hlen:=nk Ga
     simp only[u_] at h1
     split at h1
     rotate_left
     ·cases h1
     rename_i ps0 d0 ks0 mP
     cases h1
     have iv:cs.length=(ws.headD []).length/\off=0:=by
      cases own with
      |true=>
       cases off with
       |succ n'=>simp[mo] at mP
       |zero=>
        simp only[mo,he] at mP
        rw[im] at mP
        split at mP
        rotate_left
        ·cases mP
        split at mP
        rotate_left
        ·cases mP
        rename_i q1 q2 q3 ht
        rw[im] at mP
        split at mP
        rotate_left
        ·cases mP
        cases mP
        have:=acD ht
        rw[oc] at this
        exact⟨by omega,rfl⟩
      |false=>
       cases off with
       |succ n'=>simp[mo] at mP
       |zero=>
        simp only[mo,he] at mP
        rw[im] at mP
        split at mP
        rotate_left
        ·cases mP
        split at mP
        rotate_left
        ·cases mP
        rename_i l0 Bb
        cases mP
        have:=congrArg List.length (Ph Bb)
        rw[oc,xt] at this
        exact⟨by omega,rfl⟩
     obtain⟨iv,rfl⟩:=iv
     have hxv:=hx 0 _ v rfl rfl
     obtain⟨b,g1,g2⟩:=cw (HT hxv) rfl
     obtain⟨b',cur,e,g3,g4,g5,g6⟩:=h.dH k _ fc
     rw[g1] at g3;cases g3
     rw[g2,MN g4,Mf,<-g6.1]
     omega
    ·cases Ga
    ·rename_i Oa _
     exact absurd rfl (Oa own)
theorem amL(hC:∀g k,E.Ql g=some k->zy E.P g/\eG E g k)(h:cM E pm F kv fp σ a w){rs:List Key}{K:List Key}{nI:Nat}:∀{ms:List Mode}{ws:List (List (Option U.Ty))}{xs:List (SV U)}{vs:List Value}{ps:List Prop}{ds dm:List (DV U)}{us:List (Key×iN U)}{es:List (Nat×iN U)}{lk:List Key},
  nQ E (restrict σ.bO rs) σ.aT ms ws xs=some (ps,ds)->(∀p∈ps,p)->xs.length=vs.length->(∀(i:Nat)(x:SV U)(v:Value),xs[i]? =some x->vs[i]? =some v->RS E w F kv fp (bW σ) x v)->
  (∀x∈xs,∀k∈x.keys,Names σ k)->(∀k∈gb ms xs,(σ.bO k).isSome=true->k∈K)->mn (restrict σ.bO rs) σ.aT nI ms ws xs dm=some (us,es,lk)->
  ∃ls,js E w (FK F fp K) ms ds vs ls/\lk.Nodup/\(∀k∈lk,(σ.bO k).isSome=true/\Names σ k)/\ls.flatten.Nodup/\(∀b∈ls.flatten,∃k∈lk,b∈fp k)/\(us.map (·.1)).Nodup/\(∀u∈us,u.1∈lk)/\
   ∀(w':World)(F':Nat->Prop)(iY:List (List Nat)),fg E w' F' w ms vs dm iY->(∀b,F b->F' b/\w'.heap[b]? =w.heap[b]?)->(∀k∈lk,∀c∈fp k,c∉ls.flatten->w'.heap[c]? =w.heap[c]?)->iY.flatten.Nodup->
    (∀b∈iY.flatten,b∈ls.flatten\/∀k∈lk,b∉fp k)->NE E σ w F kv fp nI lk ls.flatten us es w' F' iY.flatten:=by
 intro ms
 induction ms with
 |nil=>
  intro ws xs vs ps ds dm us es lk ha hp hl hx vy hK hu
  cases xs with
  |cons x xs=>simp[nQ] at ha
  |nil=>
   cases vs with
   |cons v vs=>simp at hl
   |nil=>
    cases dm with
    |cons d dm=>simp[mn] at hu
    |nil=>
     simp only[nQ,gA,pq] at ha
     obtain⟨rfl,rfl⟩:=ha
     simp only[mn,gA,pq] at hu
     obtain⟨rfl,rfl,rfl⟩:=hu
     refine⟨[],trivial,by simp,by simp,by simp,by simp,by simp,by simp,fun w' F' iY hm _ _ _ _=> ?_⟩
     cases iY with
     |nil=>exact⟨[],[],rfl,rfl,by simp,by simp,by simp[fi.bl],by simp[fi.bl]⟩
     |cons _ _=>exact hm.elim
 |cons m ms ih=>
  intro ws xs vs ps ds dm us es lk ha hp hl hx vy hK hu
  cases xs with
  |nil=>cases m<;>simp[nQ] at ha
  |cons x xs=>
   cases vs with
   |nil=>simp at hl
   |cons v vs=>
    simp only[nQ] at ha
    split at ha
    ·rename_i Um d1 ps2 ds2 h1 h2
     cases ha
     have Uo:∀(i:Nat)(y:SV U)(u:Value),xs[i]? =some y->vs[i]? =some u->RS E w F kv fp (bW σ) y u:=fun i y u hy hu=>hx (i+1) y u (by simpa using hy) (by simpa using hu)
     by_cases hm:m=.ro
     ·subst hm
      simp only[mn] at hu
      obtain⟨ls,i1,i2,i3,i4,i5,i6,i7,i8⟩:=ih h2 (fun p kJ=>hp p (by simp[kJ])) (by simpa using hl) Uo (fun y hy=>vy y (fA _ hy)) (fun k hk=>hK k (by simp[gb,hk])) hu
      refine⟨[]::ls,⟨amO hC h h1 (fun p kJ=>hp p (by simp[kJ])) (hx 0 x v rfl rfl) (fun k hk=>hK k (by simp[gb,hk])),i1⟩,i2,i3,by simpa using i4,by simpa using i5,i6,i7,fun w' F' iY K9 Bf iX Mk PP=> ?_⟩
      have:=i8 w' F' iY (by simpa[fg] using K9) Bf (by simpa using iX) Mk (by simpa using PP)
      simpa using this
     ·have sV:∃ps0 d0 ks ks' us1 es1 us2 es2,mo (restrict σ.bO rs) σ.aT (ws.headD []) m x=some (ps0,d0,ks)/\ir (restrict σ.bO rs) nI (ws.headD []).length m x (BQ m dm)=some (us1,es1)/\mn (restrict σ.bO rs) σ.aT nI ms ws.tail xs (xZ m dm)=some (us2,es2,ks')/\(ks++ks').Nodup/\us=us1++us2/\es=es1++es2/\lk=ks++ks'/\Um=ps0/\d1=d0:=by
       have W4:(match mo (restrict σ.bO rs) σ.aT (ws.headD []) m x,ir (restrict σ.bO rs) nI (ws.headD []).length m x (BQ m dm) with
        |some (_,_,ks),some (us,es)=>match mn (restrict σ.bO rs) σ.aT nI ms ws.tail xs (xZ m dm) with
         |some (QB,es',ks')=>bif distinct (ks++ks') then some (us++QB,es++es',ks++ks') else none
         |none=>none
        |_,_=>none)=some (us,es,lk):=by
        cases m with
        |ro=>exact absurd rfl hm
        |wr=>exact hu
        |mv=>exact hu
        |box _=>exact hu
       split at W4
       ·rename_i p0 d0 ks us0 es0 g1 g2
        split at W4
        ·rename_i us2 es2 ks' g3
         rw[im] at W4
         split at W4
         ·rename_i s7
          cases W4
          have:u_ E (restrict σ.bO rs) σ.aT (ws.headD []) m x=some (p0,d0):=by
           cases m with
           |ro=>exact absurd rfl hm
           |wr=>simp only[u_,g1]
           |mv=>simp only[u_,g1]
           |box _=>simp only[u_,g1]
          rw[this] at h1
          cases h1
          exact⟨_,_,ks,ks',_,_,_,_,g1,g2,g3,uN.1 s7,rfl,rfl,rfl,rfl,rfl⟩
         ·cases W4
        ·cases W4
       ·cases W4
      obtain⟨ps0,d0,ks,ks',us1,es1,us2,es2,g1,g2,g3,uo,rfl,rfl,rfl,rfl,rfl⟩:=sV
      obtain⟨l,r1,r2,r3,r4,r5,r6,r7,r8⟩:=alS h g1 (fun p kJ=>hp p (by simp[kJ])) (hx 0 x v rfl rfl) (vy x iy) g2
      obtain⟨ls,i1,i2,i3,i4,i5,i6,i7,i8⟩:=ih h2 (fun p kJ=>hp p (by simp[kJ])) (by simpa using hl) Uo (fun y hy=>vy y (fA _ hy)) (fun k hk=>hK k (by cases m<;>first|exact absurd rfl hm|simpa[gb] using hk)) g3
      have yh:∀{b:Nat},(∃k∈ks,b∈fp k)->¬∃k∈ks',b∈fp k:=fun hb hc=>by
       obtain⟨k,hk,ni⟩:=hc
       exact acI h uo r3 (fun k hk=>(i3 k hk).1) hb k hk ni
      refine⟨l::ls,⟨r1.fT hm (fun b hb=> .inl hb),i1⟩,uo,fun k hk=> ?_,?_,fun b hb=> ?_,?_,fun u hu=> ?_,fun w' F' iY K9 Bf iX Mk PP=> ?_⟩
      ·rcases jC.1 hk with hk|hk
       ·exact⟨r3 k hk,alT g1 (vy x iy) k hk⟩
       ·exact i3 k hk
      ·rw[Ms,rK]
       exact⟨r4,i4,fun b hb c hc e=>yh (r5 b hb) (i5 b (e▸hc))⟩
      ·rw[Ms] at hb
       rcases jC.1 hb with hb|hb
       ·obtain⟨k,hk,hb⟩:=r5 b hb;exact⟨k,sD _ hk,hb⟩
       ·obtain⟨k,hk,hb⟩:=i5 b hb;exact⟨k,rv _ hk,hb⟩
      ·rw[J9,rK]
       refine⟨r6,i6,fun k hk k' cU e=> ?_⟩
       obtain⟨u,hu,rfl⟩:=mf.1 hk
       obtain⟨u',sV,rfl⟩:=mf.1 cU
       exact(rK.1 uo).2.2 _ (r7 u hu) _ (i7 u' sV) e
      ·rcases jC.1 hu with hu|hu
       ·exact sD _ (r7 u hu)
       ·exact rv _ (i7 u hu)
      obtain⟨GJ,Vz,rfl,q1,q2⟩:=K9.split hm
      rw[Mg] at Mk PP⊢
      rw[Ms] at iX PP⊢
      have Ie:=rK.1 Mk
      have B1:=r8 w' F' GJ q1 Bf (fun k hk c hc iv=>iX k (sD _ hk) c hc (by
        rw[jC]
        exact fun hor=>hor.elim iv (fun q=>yh ⟨k,hk,hc⟩ (i5 c q)))) Ie.1 (fun b hb=>by
        rcases PP b (sD _ hb) with g|g
        ·rcases jC.1 g with g|g
         ·exact .inl g
         ·exact .inr fun k hk iM=>yh ⟨k,hk,iM⟩ (i5 b g)
        ·exact .inr fun k hk=>g k (sD _ hk))
      have B2:=i8 w' F' Vz q2 Bf (fun k hk c hc iv=>iX k (rv _ hk) c hc (by
        rw[jC]
        exact fun hor=>hor.elim (fun q=>yh (r5 c q) ⟨k,hk,hc⟩) iv)) Ie.2.1 (fun b hb=>by
        rcases PP b (rv _ hb) with g|g
        ·rcases jC.1 g with g|g
         ·exact .inr fun k hk iM=>yh (r5 b g) ⟨k,hk,iM⟩
         ·exact .inl g
        ·exact .inr fun k hk=>g k (rv _ hk))
      exact NE.merge h uo r3 (fun k hk=>(i3 k hk).1) B1 B2 Mk r5 i5 PP
    ·cases ha
end AM
