/- THE ABSTRACT MACHINE: new names for entries. -/
import Derived.Test.YtmlhlndkkidhoaaGreatQAmSettle
namespace AM
set_option linter.unusedVariables false
open Go
variable{U:kZ}{E:Env U}{pm:Pm}
variable{F F':Nat->Prop}{kv kv':Key->Value}{fp fp':Key->List Nat}{σ τ:ah U}{a:Act}{w w':World}
structure fm(E:Env U)(w:World)(F:Nat->Prop)(kv:Key->Value)(fp:Key->List Nat)(σ:ah U)(a:Act):Prop where
 bz:∀s x,σ.get s=some x->RS E w F kv fp (fun _=>false) x (a.tmps.getD s undef)
 di:∀k e,σ.bJ k=some e->sE E w F kv fp (fun _=>false) e (kv k) (fp k)
theorem Ge{bad:Key->Bool}{x:AC U}(h:∀k∈x.keys,bad k=false):iG bad x=false:=by
 cases x with
 |ref k p=>simp[iG,h k (by simp[AC.keys])]
 |lg k p i wd off=>simp[iG,h k (by simp[AC.keys])]
 |_=>rfl
theorem RA.tt{f:Key->Key}{x:AC U}{v:Value}(hk:∀k∈x.keys,kv' (f k)=kv k/\fp' (f k)=fp k)(h:RA E w F kv fp x v):RA E w F kv' fp' (x.tt f) v:=by
 cases x with
 |c x=>exact h
 |e0=>exact h
 |kn b τ xs=>exact h
 |ia cs=>exact h
 |ref k p=>
  obtain⟨h1,h2⟩:=hk k (by simp[AC.keys])
  simp only[AC.tt,RA] at h⊢
  rw[h1,h2];exact h
 |sub k wd lo hi=>
  obtain⟨h1,h2⟩:=hk k (by simp[AC.keys])
  simp only[AC.tt,RA] at h⊢
  rw[h1];exact h
 |lg k p i wd off=>
  obtain⟨h1,h2⟩:=hk k (by simp[AC.keys])
  simp only[AC.tt,RA] at h⊢
  rw[h1,h2];exact h
 |kc k off=>
  obtain⟨h1,h2⟩:=hk k (by simp[AC.keys])
  simp only[AC.tt,RA] at h⊢
  rw[h1];exact h
theorem ly.tt{f:Key->Key}{bad bad':Key->Bool}{xs:List (AC U)}{vs:List Value}(hb:∀y∈xs,∀k∈y.keys,bad k=false)(hk:∀y∈xs,∀k∈y.keys,kv' (f k)=kv k/\fp' (f k)=fp k)
  (h:ly E w F kv fp bad xs vs):ly E w F kv' fp' bad' (xs.map (AC.tt f)) vs:=by
 refine⟨by simpa using h.1,fun i x v hx hv=> ?_⟩
 rw[nk] at hx
 cases hy:xs[i]? with
 |none=>rw[hy] at hx;cases hx
 |some y=>
  rw[hy] at hx;cases hx
  have hm:=EM hy
  have:=h.2 i y v hy hv
  exact⟨this.1,.inr ((cf this (Ge (hb y hm))).tt (hk y hm))⟩
theorem RS.tt{f:Key->Key}{bad bad':Key->Bool}{x:SV U}{v:Value}(hb:∀k∈x.keys,bad k=false)(hk:∀k∈x.keys,kv' (f k)=kv k/\fp' (f k)=fp k)
  (h:RS E w F kv fp bad x v):RS E w F kv' fp' bad' (x.tt f) v:=by
 cases x with
 |v x=>
  obtain⟨vs,h1,h2⟩:=h
  exact⟨vs,h1.tt (fun y hy k hky=>hb k (SV.mem_keys.2 ⟨y,hy,hky⟩)) (fun y hy k hky=>hk k (SV.mem_keys.2 ⟨y,hy,hky⟩)),h2⟩
 |vf xs=>
  obtain⟨vs,h1,h2,h3⟩:=h
  refine⟨vs,h1,by simpa using h2,fun i x u hx hu=> ?_⟩
  rw[nk] at hx
  cases hy:xs[i]? with
  |none=>rw[hy] at hx;cases hx
  |some y=>
   rw[hy] at hx;cases hx
   have hm:=EM hy
   obtain⟨us,g1,g2⟩:=h3 i y u hy hu
   exact⟨us,g1.tt (fun z hz k YV=>hb k (SV.mem_keys.2 ⟨z,nT.2 ⟨y,hm,hz⟩,YV⟩)) (fun z hz k YV=>hk k (SV.mem_keys.2 ⟨z,nT.2 ⟨y,hm,hz⟩,YV⟩)),g2⟩
 |fn p=>exact h
 |FE g xs=>
  obtain⟨vs,h1,h2,h3⟩:=h
  refine⟨vs,h1,by simpa using h2,fun i x u hx hu=> ?_⟩
  rw[nk] at hx
  cases hy:xs[i]? with
  |none=>rw[hy] at hx;cases hx
  |some y=>
   rw[hy] at hx;cases hx
   have hm:=EM hy
   obtain⟨us,g1,g2⟩:=h3 i y u hy hu
   exact⟨us,g1.tt (fun z hz k YV=>hb k (SV.mem_keys.2 ⟨z,nT.2 ⟨y,hm,hz⟩,YV⟩)) (fun z hz k YV=>hk k (SV.mem_keys.2 ⟨z,nT.2 ⟨y,hm,hz⟩,YV⟩)),g2⟩
theorem TV{β γ:Type}{g:β->γ}:∀{l:List (Nat×Option β)}{s:Nat},look (l.map fun p=>(p.1,p.2.map g)) s=(look l s).map g
 |[],s=>rfl
 |(t,v)::r,s=>by
  simp only[uY,look]
  cases Nat.beq t s
  ·exact TV
  ·rfl
theorem al0(h:cE E pm F kv fp σ a w)(hc:fm E w F kv fp σ a)(hn:(σ.nU.map (·.1)).Nodup)(V2:∀p∈σ.nU,p.2.isSome=true){l:List (Key×Key)}{S:Key->Prop}
  (hSn:∀k,Names σ k->S k) (hSl:∀k,(σ.bJ k).isSome=true->S k) (Y1:∀k k',S k->S k'->vM l k=vM l k'->k=k') (Ez:∀k,2000000<=k.1->k.2<1024->∀k0,vM l k0=k->k0=k):
  ∃kv' fp',cE E pm F kv' fp' (rename l σ) a w:=by
 classical
 generalize hf:vM l=f at Y1 Ez
 have jf:∀p∈σ.nU,(σ.bJ p.1).isSome=true:=by
  rintro⟨k,v⟩ hp
  have:=V2 _ hp
  cases v with
  |none=>cases this
  |some e=>unfold ah.bJ;rw[OZ hn hp];rfl
 have Yu:(rename l σ).nU=σ.nU.map fun(k,e)=>(f k,e.map (iv.tt f)):=by rw[<-hf];rfl
 have Yx:(rename l σ).bz=σ.bz.map fun(s,v)=>(s,v.map (SV.tt f)):=by rw[<-hf];rfl
 have u7:((rename l σ).nU.map (·.1)).Nodup:=by
  rw[Yu,List.map_map]
  have:(σ.nU.map ((·.1)∘fun((k,e):Key×Option (iv U))=>(f k,e.map (iv.tt f))))=(σ.nU.map (·.1)).map f:=by
   rw[List.map_map];rfl
  rw[this]
  rw[zdg,List.pairwise_map]
  rw[zdg] at hn
  refine List.Pairwise.imp_of_mem (fun{k k'} hk cO eO he=>eO ?_) hn
  obtain⟨p,hp,rfl⟩:=lB.1 hk
  obtain⟨p',kq,rfl⟩:=lB.1 cO
  exact Y1 _ _ (hSl _ (jf p hp)) (hSl _ (jf p' kq)) he
 have rN:∀k' e',(rename l σ).bJ k'=some e'↔∃k e,σ.bJ k=some e/\k'=f k/\e'=e.tt f:=by
  intro k' e'
  constructor
  ·intro he
   have hm:=CB he
   rw[Yu] at hm
   obtain⟨⟨k,v⟩,hp,hx⟩:=lB.1 hm
   simp only[ox] at hx
   obtain⟨h1,h2⟩:=hx
   cases v with
   |none=>cases h2
   |some e=>cases h2;exact⟨k,e,OZ hn hp,h1.symm,rfl⟩
  ·rintro⟨k,e,he,rfl,rfl⟩
   refine OZ u7 ?_
   rw[Yu]
   exact lB.2 ⟨(k,some e),CB he,rfl⟩
 have rL:∀s,(rename l σ).get s=(σ.get s).map (SV.tt f):=by
  intro s
  show look (rename l σ).bz s=_
  rw[Yx]
  exact TV
 let g:Key->Key:=fun k'=>if h:∃k,S k/\f k=k' then h.choose else k'
 have hg:∀k,S k->g (f k)=k:=by
  intro k hk
  have hx:∃k1,S k1/\f k1=f k:=⟨k,hk,rfl⟩
  have:g (f k)=hx.choose:=by simp only[g];rw[dif_pos hx]
  rw[this]
  exact Y1 _ _ hx.choose_spec.1 hk hx.choose_spec.2
 have zV:∀k,Names σ k->(fun k'=>kv (g k')) (f k)=kv k/\(fun k'=>fp (g k')) (f k)=fp k:=by
  intro k hk
  simp only
  rw[hg k (hSn k hk)]
  exact⟨rfl,rfl⟩
 have PX:∀{k:Key}{e:iv U},σ.bJ k=some e->g (f k)=k:=fun he=>hg _ (hSl _ (by rw[he];rfl))
 refine⟨fun k'=>kv (g k'),fun k'=>fp (g k'),?_⟩
 ·refine⟨h.size,h.defers,fun s x' hs=> ?_,fun k' e' he=> ?_,fun k1 k2 e1 e2 b eO h1 h2=> ?_,fun k' e' he=> ?_,fun k' e' b he=> ?_,h.sZ,h.sY,h.upto,fun k v hpk=> ?_,h.lay⟩
  ·rw[rL] at hs
   cases hx:σ.get s with
   |none=>rw[hx] at hs;cases hs
   |some x=>
    rw[hx] at hs;cases hs
    exact(hc.bz s x hx).tt (fun k hk=>rfl) (fun k hk=>zV k (.inl ⟨s,x,hx,hk⟩))
  ·obtain⟨k,e,h1,rfl,rfl⟩:=(rN k' e').1 he
   have h0:=hc.di k e h1
   simp only[PX h1]
   cases e with
   |arr x deep=>exact h0
   |part x dead=>exact h0
   |box cs=>
    obtain⟨b,cur,e',g1,g2,g3,g4⟩:=h0
    exact⟨b,cur,e',g1,g2,g3,g4.tt (fun y hy k' cO=>rfl) (fun y hy k' cO=>zV k' (.inr ⟨k,cs,h1,y,hy,cO⟩))⟩
  ·obtain⟨k,e,g1,rfl,rfl⟩:=(rN k1 e1).1 h1
   obtain⟨k',e',g2,rfl,rfl⟩:=(rN k2 e2).1 h2
   simp only[PX g1,PX g2]
   exact h.apart k k' e e' b (fun e=>eO (by rw[e])) g1 g2
  ·obtain⟨k,e,g1,rfl,rfl⟩:=(rN k' e').1 he
   simp only[PX g1]
   exact h.nodup k e g1
  ·obtain⟨k,e,g1,rfl,rfl⟩:=(rN k' e').1 he
   simp only[PX g1]
   exact h.fK k e b g1
  ·obtain⟨p1,p2,p3,p4⟩:=h.LV k v hpk
   have:g k=k:=by
    by_cases hx:∃k1,S k1/\f k1=k
    ·have e:g k=hx.choose:=by simp only[g];rw[dif_pos hx]
     rw[e]
     exact Ez k p1 p2 _ hx.choose_spec.2
    ·simp only[g];rw[dif_neg hx]
   exact⟨p1,p2,p3,by simp only[this];exact p4⟩
theorem ace(bad:Key->Bool)(σ:ah U):((qG bad σ).nU.map (·.1)).Nodup/\∀p∈(qG bad σ).nU,p.2.isSome=true:=by
 refine⟨TS OU.1,fun p hp=> ?_⟩
 have hm:=(wA.1 hp).1
 have:∀{l:List (Key×Option (iv U))}{seen:List Key},∀p∈pY seen l,p.2.isSome=true:=by
  intro l
  induction l with
  |nil=>intro seen p hp;simp[pY] at hp
  |cons q l ih=>
   obtain⟨k,v⟩:=q
   intro seen p hp
   simp only[pY] at hp
   cases hs:seen.any (iJ k)<;>rw[hs] at hp<;>simp only[cond_true,cond_false] at hp
   ·cases v with
    |none=>exact ih p hp
    |some x=>
     rcases jQ.1 hp with rfl|hp
     ·rfl
     ·exact ih p hp
   ·exact ih p hp
 exact this p hm
theorem at3{bad:Key->Bool}{k:Key}{e:iv U}(h:σ.bJ k=some e)(hb:bad k=false)(aot:∀cs,e=.box cs->Uv bad σ (.v ⟨true,cs⟩)=true):(qG bad σ).bJ k=some e:=by
 refine OZ (ace bad σ).1 (wA.2 ⟨CB (by rw[OV (by simp)];exact h),?_⟩)
 simp only[hb,Tm,u_]
 cases e with
 |arr a d=>rfl
 |part a d=>rfl
 |box cs=>exact aot cs rfl
theorem OX(h:cE E pm F kv fp σ a w)(bad:Key->Bool):fm E w F kv fp (qG bad σ) a:=by
 refine⟨fun s x hs=> ?_,fun k e he=> ?_⟩
 ·obtain⟨h1,h2,_⟩:=OY.1 hs
  exact(h.bz s x h1).mR (fun y hy=>(MV h2 hy).1)
 ·obtain⟨h1,h2,h3⟩:=IA he
  have h0:=h.di k e h1
  cases e with
  |arr x deep=>exact h0
  |part x dead=>exact h0
  |box cs=>
   obtain⟨b,cur,e',g1,g2,g3,g4⟩:=h0
   exact⟨b,cur,e',g1,g2,g3,g4.mR (fun y hy=>(MV (h3 cs rfl) (x:=.v ⟨true,cs⟩) hy).1)⟩
theorem TP:∀{l:List (Key×Key)}{k:Key},(∃b,(k,b)∈l/\vM l k=b)\/((∀b,(k,b)∉l)/\vM l k=k)
 |[],k=> .inr ⟨fun b hb=>(LA hb).elim,rfl⟩
 |(a,b)::r,k=>by
  simp only[vM]
  cases h:iJ a k
  ·simp only[cond_false]
   rcases TP (l:=r) (k:=k) with⟨c,h1,h2⟩|⟨h1,h2⟩
   ·exact .inl ⟨c,cA _ h1,h2⟩
   ·refine .inr ⟨fun c hc=> ?_,h2⟩
    rcases jQ.1 hc with hc|hc
    ·cases hc;rw[yB] at h;cases h
    ·exact h1 c hc
  ·have:=o6.1 h
   subst this
   exact .inl ⟨b,gj,rfl⟩
theorem abY(h:∃kv fp,cE E pm F kv fp σ a w)(l0:List (Key×Key)):∃kv fp,cE E pm F kv fp (qF l0 σ) a w:=by
 unfold qF
 simp only
 rw[h_]
 split
 ·exact h
 ·rename_i mP
  generalize hl:(l0.filter fun(a,b)=> !(iJ a b)&& !(Nat.ble 2000000 a.1&&Nat.blt a.2 1024))=l at mP⊢
  simp only[Ee,not_or,yi,Bool.not_eq_false'] at mP
  obtain⟨⟨⟨h1,h2⟩,h3⟩,h4⟩:=mP
  obtain⟨kv,fp,hs⟩:=h
  have htn:(l.map (·.2)).Nodup:=tu.1 h3
  have han:(l.map (·.1)).Nodup:=tu.1 h2
  obtain⟨t1,t2⟩:=ace (fun k=>(l.map (·.2)).any (iJ k)) σ
  refine al0 (F_ hs _) (OX hs _) t1 t2 (S:=fun k=>k∉l.map (·.2)) (fun k hk=> ?_) (fun k hk=> ?_) (fun k k' hk cO he=> ?_) (fun k p1 p2 k0 he=> ?_)
  ·have:=(acf hk).1
   exact fun hm=>by rw[rE.2 hm] at this;cases this
  ·obtain⟨e,he⟩:=mI.1 hk
   have:=(IA he).2.1
   exact fun hm=>by rw[rE.2 hm] at this;cases this
  ·rcases TP (l:=l) (k:=k) with⟨b,g1,g2⟩|⟨g1,g2⟩<;>rcases TP (l:=l) (k:=k') with⟨b',g1',g2'⟩|⟨g1',g2'⟩
   ·rw[g2,g2'] at he
    subst he
    obtain⟨i,hi,pN⟩:=ri g1
    obtain⟨j,hj,s8⟩:=ri g1'
    have Ej:i=j:=by
     refine(List.getElem_inj (h₀:=by simpa using hi) (h₁:=by simpa using hj) htn).1 ?_
     simp[pN,s8]
    subst Ej
    rw[pN] at s8
    exact(Prod.mk.inj s8).1
   ·rw[g2,g2'] at he
    subst he
    exact absurd (lB.2 ⟨_,g1,rfl⟩) cO
   ·rw[g2,g2'] at he
    subst he
    exact absurd (lB.2 ⟨_,g1',rfl⟩) hk
   ·rw[g2,g2'] at he
    exact he
  ·rcases TP (l:=l) (k:=k0) with⟨b,g1,g2⟩|⟨g1,g2⟩
   ·exfalso
    have:=rh.1 h4 _ g1
    simp only[S7] at this
    rw[g2] at he
    subst he
    omega
   ·rw[g2] at he;exact he
theorem ab0(h:∃kv fp,cE E pm F kv fp σ a w)(d:Nat):∃kv fp,cE E pm F kv fp (ru d σ) a w:=by
 unfold ru
 split
 ·exact abY h _
 ·exact h
theorem alO(h:∃kv fp,cE E pm F kv fp σ a w)(k:Key):∃kv fp,cE E pm F kv fp (wJ k σ) a w:=by
 unfold wJ
 split
 ·exact abY h _
 ·exact h
theorem TL:∀{l:List Key}{τ:ah U},(∃kv fp,cE E pm F kv fp τ a w)->∃kv fp,cE E pm F kv fp (wI l τ) a w
 |[],τ,h=>h
 |k::l,τ,h=>TL (l:=l) (alO h k)
theorem alM(h:cE E pm F kv fp σ a w)(ops:List Oper):∃kv fp,cE E pm F kv fp (settle ops σ) a w:=by
 unfold settle
 simp only
 refine TL ?_
 have h0:∃kv fp,cE E pm F kv fp (jz σ) a w:=⟨kv,fp,F_ h _⟩
 generalize jz σ=τ at h0
 generalize assigned ops=l
 induction l generalizing τ with
 |nil=>exact h0
 |cons d l ih=>exact ih _ (ab0 h0 d)
theorem O1{β:Type}(f:β->β):∀(l:List (Nat×Option β))(s:Nat),look (l.map fun(t,v)=>(t,v.map f)) s=(look l s).map f
 |[],s=>rfl
 |(t,v)::r,s=>by
  simp only[uY,look]
  cases h:Nat.beq t s<;>simp only[cond_true,cond_false]
  exact O1 f r s
theorem XQ{β:Type}(f:β->β):∀(l:List (Key×Option β))(s:Key),eD (l.map fun(t,v)=>(t,v.map f)) s=(eD l s).map f
 |[],s=>rfl
 |(t,v)::r,s=>by
  simp only[uY,eD]
  cases h:iJ t s<;>simp only[cond_true,cond_false]
  exact XQ f r s
theorem abS{bad':Key->Bool}(k:Key):pD w w kv kv fp fp (fun _=>false) bad' k:=⟨rfl,.inr ⟨rfl,rfl,fun _ _=>rfl⟩⟩
theorem RD.fr{k0:Key}{c:U.C}{bad':Key->Bool}{x:AC U}{v:Value}(h:RD E w F kv fp (fun _=>false) x v)(hF:∀b,F b->F' b)
  (hc:Rp E w F' false c (kv k0) []):RD E w F' kv fp bad' (GQ k0 c x) v:=by
 have hm:RD E w F' kv fp bad' x v:=h.move (fun k _=>abS k) (fun b hb=>⟨hF b hb,rfl⟩)
 unfold GQ
 split
 ·rename_i k
  rw[h_]
  split
  ·rename_i hk
   have:=o6.1 hk
   subst this
   refine⟨h.1,.inr ?_⟩
   have h2:=h.2
   simp only[iG,List.isEmpty_nil,zfa,pF,wx,false_or,RA,oE] at h2
   rw[h2];exact hc
  ·exact hm
 ·exact hm
theorem ly.fr{k0:Key}{c:U.C}{bad':Key->Bool}{xs:List (AC U)}{vs:List Value}(h:ly E w F kv fp (fun _=>false) xs vs)(hF:∀b,F b->F' b)
  (hc:Rp E w F' false c (kv k0) []):ly E w F' kv fp bad' (xs.map (GQ k0 c)) vs:=by
 refine⟨by simpa using h.1,fun i x v hx hv=> ?_⟩
 rw[nk] at hx
 cases hy:xs[i]? with
 |none=>rw[hy] at hx;cases hx
 |some y=>
  rw[hy] at hx;cases hx
  exact(h.2 i y v hy hv).fr hF hc
theorem RS.fr{k0:Key}{c:U.C}{bad':Key->Bool}{x:SV U}{v:Value}(h:RS E w F kv fp (fun _=>false) x v)(hF:∀b,F b->F' b)
  (hc:Rp E w F' false c (kv k0) []):RS E w F' kv fp bad' (K9 k0 c x) v:=by
 have hm:RS E w F' kv fp bad' x v:=h.move (fun k _=>abS k) (fun b hb=>⟨hF b hb,rfl⟩)
 cases x with
 |v x=>
  obtain⟨vs,h1,h2⟩:=h
  exact⟨vs,h1.fr hF hc,h2⟩
 |vf xs=>exact hm
 |fn p=>exact hm
 |FE g xs=>exact hm
theorem sE.fr{k0:Key}{c:U.C}{bad':Key->Bool}{x:iv U}{v:Value}{l:List Nat}(h:sE E w F kv fp (fun _=>false) x v l)(hF:∀b,F b->F' b)
  (hc:Rp E w F' false c (kv k0) []):sE E w F' kv fp bad' (Jo k0 c x) v l:=by
 cases x with
 |arr a d=>exact eW.f_ h (fun b hb=>⟨hF b hb,rfl⟩) (fun _ _=>rfl)
 |part a d=>exact eo.f_ h (fun b hb=>⟨hF b hb,rfl⟩) (fun _ _=>rfl)
 |box cs=>
  obtain⟨b,cur,e',g1,g2,g3,g4⟩:=h
  exact⟨b,cur,e',g1,g2,g3,g4.fr hF hc⟩
theorem acG(h:cE E pm F kv fp σ a w)(hc:fm E w F kv fp σ a)(k0:Key):∃F,cE E pm F kv fp (ln k0 σ) a w/\fm E w F kv fp (ln k0 σ) a:=by
 unfold ln
 split
 rotate_left
 ·exact⟨F,h,hc⟩
 rename_i ar d he
 have hs:Rp E w (fun b=>F b\/b∈fp k0) false (.sl ar.τ ar.xs) (kv k0) []:=eW.k8 (hc.di k0 _ he) (fun b hb=> .inl hb) (fun b hb=> .inr hb)
 have hF:∀b,F b->(fun b=>F b\/b∈fp k0) b:=fun b hb=> .inl hb
 have rN:∀k e,eD ((k0,none)::σ.nU.map fun(k,e)=>(k,e.map (Jo k0 (.sl ar.τ ar.xs)))) k=some e->k≠k0/\∃e0,σ.bJ k=some e0/\e=Jo k0 (.sl ar.τ ar.xs) e0:=by
  intro k e hk
  simp only[eD] at hk
  cases hq:iJ k0 k<;>simp only[hq,cond_true,cond_false] at hk
  ·rw[XQ] at hk
   cases hl:eD σ.nU k with
   |none=>rw[hl] at hk;cases hk
   |some e0=>rw[hl] at hk;cases hk;exact⟨fun e=>(KF.1 hq) e.symm,e0,hl,rfl⟩
  ·cases hk
 have rL:∀s x,look (σ.bz.map fun(s,v)=>(s,v.map (K9 k0 (.sl ar.τ ar.xs)))) s=some x->∃x0,σ.get s=some x0/\x=K9 k0 (.sl ar.τ ar.xs) x0:=by
  intro s x hx
  rw[O1] at hx
  cases hl:look σ.bz s with
  |none=>rw[hl] at hx;cases hx
  |some x0=>rw[hl] at hx;cases hx;exact⟨x0,hl,rfl⟩
 refine⟨fun b=>F b\/b∈fp k0,⟨h.size,h.defers,fun s x hx=> ?_,fun k e hk=> ?_,fun k k' e e' b eO h1 h2=> ?_,fun k e hk=> ?_,fun k e b hk hb=> ?_,fun b hb=> ?_,fun b hb=> ?_,h.upto,h.LV,h.lay.f_ (fun b hb=>⟨.inl hb,rfl⟩)⟩,⟨fun s x hx=> ?_,fun k e hk=> ?_⟩⟩
 ·obtain⟨x0,hx0,rfl⟩:=rL s x hx
  exact(hc.bz s x0 hx0).fr hF hs
 ·obtain⟨eO,e0,om,rfl⟩:=rN k e hk
  exact(hc.di k e0 om).fr hF hs
 ·obtain⟨_,e0,om,_⟩:=rN k e h1
  obtain⟨_,e0',Y',_⟩:=rN k' e' h2
  exact h.apart k k' e0 e0' b eO om Y'
 ·obtain⟨_,e0,om,_⟩:=rN k e hk
  exact h.nodup k e0 om
 ·obtain⟨eO,e0,om,_⟩:=rN k e hk
  obtain⟨m1,m2,m3⟩:=h.fK k e0 b om hb
  exact⟨fun hh=>hh.elim m1 (fun hh=>h.apart k k0 e0 _ b eO om he hb hh),m2,m3⟩
 ·exact hb.elim (h.sZ b) (fun hb=>(h.fK k0 _ b he hb).2.2)
 ·exact hb.elim (h.sY b) (fun hb=> .inr (h.fK k0 _ b he hb).2.1)
 ·obtain⟨x0,hx0,rfl⟩:=rL s x hx
  exact(hc.bz s x0 hx0).fr hF hs
 ·obtain⟨eO,e0,om,rfl⟩:=rN k e hk
  exact(hc.di k e0 om).fr hF hs
theorem T_:∀{l:List Nat}{σ:ah U},(∃F kv fp,cE E pm F kv fp σ a w/\fm E w F kv fp σ a)->∃F kv fp,cE E pm F kv fp (qa l σ) a w/\fm E w F kv fp (qa l σ) a
 |[],σ,h=>h
 |s::l,σ,h=>by
  refine T_ (l:=l) (σ:=rT s σ) ?_
  obtain⟨F,kv,fp,h1,h2⟩:=h
  unfold rT
  split
  ·obtain⟨F',h3⟩:=acG h1 h2 _
   exact⟨F',kv,fp,h3⟩
  ·exact⟨F,kv,fp,h1,h2⟩
theorem acJ{k0:Key}{c:U.C}{x:AC U}{k:Key}(h:k∈(GQ k0 c x).keys):k∈x.keys:=by
 unfold GQ at h
 split at h
 ·rename_i q
  rw[h_] at h
  split at h
  ·simp[AC.keys] at h
  ·exact h
 ·exact h
theorem amY{k0:Key}{c:U.C}{x:SV U}{k:Key}(h:k∈(K9 k0 c x).keys):k∈x.keys:=by
 cases x with
 |v x=>
  obtain⟨y,hy,hk⟩:=SV.mem_keys.1 h
  simp only[K9,SV.AQ,lB] at hy
  obtain⟨z,hz,rfl⟩:=hy
  exact SV.mem_keys.2 ⟨z,hz,acJ hk⟩
 |vf xs=>exact h
 |fn p=>exact h
 |FE g xs=>exact h
theorem acH{k0 k:Key}(h:Names (ln k0 σ) k):Names σ k:=by
 unfold ln at h
 split at h
 rotate_left
 ·exact h
 rcases h with⟨s,x,hs,hk⟩|⟨k',cs,he,x,hx,hk⟩
 ·have hs:look (σ.bz.map _) s=some x:=hs
  rw[O1] at hs
  cases hl:look σ.bz s with
  |none=>rw[hl] at hs;cases hs
  |some y=>rw[hl] at hs;cases hs;exact .inl ⟨s,y,hl,amY hk⟩
 ·have he:eD ((k0,none)::σ.nU.map _) k'=some (iv.box cs):=he
  simp only[eD] at he
  cases hq:iJ k0 k'<;>simp only[hq,cond_true,cond_false] at he
  ·rw[XQ] at he
   cases hl:eD σ.nU k' with
   |none=>rw[hl] at he;cases he
   |some e=>
    rw[hl] at he
    cases e with
    |arr a d=>cases he
    |part a d=>cases he
    |box cs0=>
     simp only[Ek,Jo,gx,iv.box.injEq] at he
     subst he
     obtain⟨z,hz,rfl⟩:=lB.1 hx
     exact .inr ⟨k',cs0,hl,z,hz,acJ hk⟩
  ·cases he
theorem acD{k:Key}:∀{l:List Nat}{σ:ah U},Names (qa l σ) k->Names σ k
 |[],σ,h=>h
 |s::l,σ,h=>by
  have h2:Names (rT s σ) k:=acD (l:=l) h
  unfold rT at h2
  split at h2
  ·exact acH h2
  ·exact h2
theorem Ub:∀{l:List Key}{σ:ah U},(∃F kv fp,cE E pm F kv fp σ a w/\fm E w F kv fp σ a)->∃F kv fp,cE E pm F kv fp (qR l σ) a w/\fm E w F kv fp (qR l σ) a
 |[],σ,h=>h
 |s::l,σ,h=>by
  refine Ub (l:=l) (σ:=ln s σ) ?_
  obtain⟨F,kv,fp,h1,h2⟩:=h
  obtain⟨F',h3⟩:=acG h1 h2 s
  exact⟨F',kv,fp,h3⟩
theorem acF{k:Key}:∀{l:List Key}{σ:ah U},Names (qR l σ) k->Names σ k
 |[],σ,h=>h
 |s::l,σ,h=>acH (acF (l:=l) (σ:=ln s σ) h)
theorem anh(h:cE E pm F kv fp σ a w)(E':Env U)(ops:List Oper):∃F kv fp,cE E pm F kv fp (Dq E' ops σ) a w:=by
 obtain⟨F',kv',fp',h1,_⟩:=Ub (l:=Mg ops (qa (LZ E' ops) (enter ops σ))) (T_ (l:=LZ E' ops) (σ:=enter ops σ) ⟨F,kv,fp,anf h ops,OX h _⟩)
 exact⟨F',kv',fp',h1⟩
theorem acQ{E':Env U}{ops:List Oper}{k:Key}(h:Names (Dq E' ops σ) k)(hd:k.1∈An ops\/k.1=1000000):1024<=k.2:=ang (acD (acF h)) hd
theorem alK(h:cE E pm F kv fp σ a w)(k0:Key):∃F' fp',cE E pm F' kv fp' (Cq k0 σ) a w:=by
 unfold Cq
 split
 rotate_left
 ·exact⟨F,fp,h⟩
 rename_i ar he
 have rN:∀k e,eD ((k0,some (iv.arr ar false))::σ.nU) k=some e->(k=k0/\e=iv.arr ar false)\/(k≠k0/\σ.bJ k=some e):=by
  intro k e hk
  simp only[eD] at hk
  cases hq:iJ k0 k<;>simp only[hq,cond_true,cond_false] at hk
  ·exact .inr ⟨fun e=>(KF.1 hq) e.symm,hk⟩
  ·cases hk;exact .inl ⟨(o6.1 hq).symm,rfl⟩
 have V2:∀k,∃k' e',σ.bJ k=some e'\/k'=k:=fun k=>⟨k,.arr ar true,.inr rfl⟩
 obtain⟨F',fp',hF,hF2,ND,pK,pL,nI⟩:∃(F':Nat->Prop)(fp':Key->List Nat),(∀b,F b->F' b)/\(∀b,F' b->F b\/b∈fp k0)/\(∀k,k≠k0->fp' k=fp k)/\(∀b∈fp' k0,b∈fp k0/\¬F' b)/\(fp' k0).Nodup/\eW E w F' false ar (kv k0) (fp' k0):=by
  have ho:eW E w F true ar (kv k0) (fp k0):=h.di k0 _ he
  have hn:=h.nodup k0 _ he
  rcases ho with⟨h1,h2,h3⟩|⟨b,cap,cur,vs,gV,h1,h2,h3,h4,h5,h6,h7,h8⟩
  ·exact⟨F,fp,fun _ hb=>hb,fun b hb=> .inl hb,fun _ _=>rfl,fun b hb=>(by rw[h3] at hb;cases hb),hn,.inl ⟨h1,h2,h3⟩⟩
  ·rw[h8,sN] at hn
   refine⟨fun c=>F c\/(c∈fp k0/\c≠b),fun k=>if iJ k k0=true then[b] else fp k,fun _ hb=> .inl hb,fun c hc=>hc.imp id fun g=>g.1,fun k hk=> ?_,fun c hc=> ?_,?_,?_⟩
   ·dsimp only;rw[if_neg (by rw[o6];exact hk)]
   ·dsimp only at hc;rw[if_pos (yB _),ma] at hc
    subst hc
    have hm:c∈fp k0:=by rw[h8];exact gj
    exact⟨hm,fun g=>g.elim (h.fK k0 _ c he hm).1 fun g=>g.2 rfl⟩
   ·dsimp only;rw[if_pos (yB _)];simp
   ·dsimp only;rw[if_pos (yB _)]
    refine .inr ⟨b,cap,cur,vs,fun _=>[],h1,h2,h3,h4,h5,h6,fun i x j c hx hj=> ?_,by simp⟩
    have gF:i*U.wd ar.τ+j<ar.xs.length*U.wd ar.τ:=fJ hx hj
    refine(h7 i x j c hx hj).k8 (fun b hb=> .inl hb) fun b' bf=> .inr ?_
    have C3:b'∈(List.range (ar.xs.length*U.wd ar.τ)).flatMap gV:=nT.2 ⟨_,oN.2 gF,bf⟩
    exact⟨by rw[h8];exact cA _ C3,fun e=>hn.1 (by rw[<-e];exact C3)⟩
 have zW:∀b,F b->F' b/\w.heap[b]? =w.heap[b]? :=fun b hb=>⟨hF b hb,rfl⟩
 have p9:∀k,pD w w kv kv fp fp' (bW σ) (bW ({σ with nU:=(k0,some (iv.arr ar false))::σ.nU,aK:=k0::σ.aK}:ah U)) k:=by
  intro k
  refine⟨rfl,?_⟩
  by_cases hk:k=k0
  ·left
   subst hk
   simp[bW,yB]
  ·cases hb:bW σ k
   ·right;exact⟨rfl,ND k hk,fun _ _=>rfl⟩
   ·left
    simp only[bW,Ee] at hb⊢
    rcases hb with hb|hb
    ·left;rw[Tk,hb,Bool.or_true]
    ·right
     show(eD ((k0,some (iv.arr ar false))::σ.nU) k).isNone=true
     have hq:iJ k0 k=false:=KF.2 fun e=>hk e.symm
     simp only[eD,hq,cond_false]
     exact hb
 have w9:∀k e b,σ.bJ k=some e->k≠k0->b∈fp k->¬F' b:=fun k e b hke hk hb bf=>by
  rcases hF2 b bf with g|g
  ·exact(h.fK k e b hke hb).1 g
  ·exact h.apart k k0 e _ b hk hke he hb g
 refine⟨F',fp',⟨h.size,h.defers,fun s x hx=>(h.bz s x hx).move (fun k _=>p9 k) zW,fun k e hk=> ?_,fun k k' e e' b eO h1 h2 hb=> ?_,fun k e hk=> ?_,fun k e b hk hb=> ?_,fun b hb=> ?_,fun b hb=> ?_,h.upto,h.LV,h.lay.f_ zW⟩⟩
 ·rcases rN k e hk with⟨rfl,rfl⟩|⟨eO,hke⟩
  ·exact nI
  ·rw[ND k eO]
   have h1:=h.di k e hke
   cases e with
   |arr a d=>exact eW.f_ h1 zW (fun _ _=>rfl)
   |part a d=>exact eo.f_ h1 zW (fun _ _=>rfl)
   |box cs=>
    obtain⟨b,cur,e',g1,g2,g3,g4⟩:=h1
    exact⟨b,cur,e',g1,g2,g3,g4.move (fun _ _ k _=>p9 k) zW⟩
 ·rcases rN k e h1 with⟨rfl,_⟩|⟨n1,g1⟩
  ·rcases rN k' e' h2 with⟨rfl,_⟩|⟨n2,g2⟩
   ·exact absurd rfl eO
   ·rw[ND k' n2]
    exact h.apart _ k' _ _ b eO he g2 (pK b hb).1
  ·rw[ND k n1] at hb
   rcases rN k' e' h2 with⟨rfl,_⟩|⟨n2,g2⟩
   ·exact fun bf=>h.apart k _ _ _ b eO g1 he hb (pK b bf).1
   ·rw[ND k' n2]
    exact h.apart k k' _ _ b eO g1 g2 hb
 ·rcases rN k e hk with⟨rfl,_⟩|⟨n1,g1⟩
  ·exact pL
  ·rw[ND k n1];exact h.nodup k e g1
 ·rcases rN k e hk with⟨rfl,_⟩|⟨n1,g1⟩
  ·obtain⟨g1,g2⟩:=pK b hb
   exact⟨g2,(h.fK _ _ b he g1).2⟩
  ·rw[ND k n1] at hb
   exact⟨w9 k e b g1 n1 hb,(h.fK k e b g1 hb).2⟩
 ·rcases hF2 b hb with g|g
  ·exact h.sZ b g
  ·exact(h.fK k0 _ b he g).2.2
 ·rcases hF2 b hb with g|g
  ·exact h.sY b g
  ·exact .inr (h.fK k0 _ b he g).2.1
theorem abW:∀{l:List Key}{σ:ah U}{F:Nat->Prop}{fp:Key->List Nat},cE E pm F kv fp σ a w->∃F' fp',cE E pm F' kv fp' (l.foldl (fun σ k=>Cq k σ) σ) a w
 |[],_,F,fp,h=>⟨F,fp,h⟩
 |k::l,σ,F,fp,h=>by
  obtain⟨F1,fp1,h1⟩:=alK h k
  exact abW (l:=l) h1
theorem abU{l:List Key}(h:cE E pm F kv fp σ a w)(hc:fm E w F kv fp σ a):∃F' fp',cE E pm F' kv fp' (LJ l σ) a w/\fm E w F' kv fp' (LJ l σ) a:=by
 cases l with
 |nil=>exact⟨F,fp,h,hc⟩
 |cons k l=>
  obtain⟨F1,fp1,h1⟩:=abW (l:=k::l) h
  exact⟨F1,fp1,F_ h1 _,OX h1 _⟩
end AM
