/- THE ABSTRACT MACHINE: new names for entries. -/
import Derived.Test.YtlachfpabecaeaaQAmSettle
namespace AM
set_option linter.unusedVariables false
open Go
variable{U:dw}{E:Env U}{pm:Pm}
variable{F F':Nat->Prop}{kv kv':Key->Value}{fp fp':Key->List Nat}{σ τ:aa U}{a:Act}{w w':World}
structure bk(E:Env U)(w:World)(F:Nat->Prop)(kv:Key->Value)(fp:Key->List Nat)(σ:aa U)(a:Act):Prop where
 au:∀s x,σ.get s=some x->RS E w F kv fp (fun _=>false) x (a.tmps.getD s undef)
 aJ:∀k e,σ.aw k=some e->ig E w F kv fp (fun _=>false) e (kv k) (fp k)
theorem oZ{bad:Key->Bool}{x:AC U}(h:∀k∈x.keys,bad k=false):cd bad x=false:=by
 cases x with
 |ref k p=>simp[cd,h k (by simp[AC.keys])]
 |dG k p i wd off=>simp[cd,h k (by simp[AC.keys])]
 |_=>rfl
theorem RA.iK{f:Key->Key}{x:AC U}{v:Value}(hk:∀k∈x.keys,kv' (f k)=kv k/\fp' (f k)=fp k)(h:RA E w F kv fp x v):RA E w F kv' fp' (x.iK f) v:=by
 cases x with
 |c x=>exact h
 |e0=>exact h
 |kn b τ xs=>exact h
 |ia cs=>exact h
 |ref k p=>
  obtain⟨h1,h2⟩:=hk k (by simp[AC.keys])
  simp only[AC.iK,RA] at h⊢
  rw[h1,h2];exact h
 |sub k wd lo hi=>
  obtain⟨h1,h2⟩:=hk k (by simp[AC.keys])
  simp only[AC.iK,RA] at h⊢
  rw[h1];exact h
 |dG k p i wd off=>
  obtain⟨h1,h2⟩:=hk k (by simp[AC.keys])
  simp only[AC.iK,RA] at h⊢
  rw[h1,h2];exact h
 |dh k off=>
  obtain⟨h1,h2⟩:=hk k (by simp[AC.keys])
  simp only[AC.iK,RA] at h⊢
  rw[h1];exact h
theorem dQ.iK{f:Key->Key}{bad bad':Key->Bool}{xs:List (AC U)}{vs:List Value}(hb:∀y∈xs,∀k∈y.keys,bad k=false)(hk:∀y∈xs,∀k∈y.keys,kv' (f k)=kv k/\fp' (f k)=fp k)
  (h:dQ E w F kv fp bad xs vs):dQ E w F kv' fp' bad' (xs.map (AC.iK f)) vs:=by
 refine⟨by simpa using h.1,fun i x v hx hv=> ?_⟩
 rw[eW] at hx
 cases hy:xs[i]? with
 |none=>rw[hy] at hx;cases hx
 |some y=>
  rw[hy] at hx;cases hx
  have hm:=n6 hy
  have:=h.2 i y v hy hv
  exact⟨this.1,.inr ((aA this (oZ (hb y hm))).iK (hk y hm))⟩
theorem RS.iK{f:Key->Key}{bad bad':Key->Bool}{x:SV U}{v:Value}(hb:∀k∈x.keys,bad k=false)(hk:∀k∈x.keys,kv' (f k)=kv k/\fp' (f k)=fp k)
  (h:RS E w F kv fp bad x v):RS E w F kv' fp' bad' (x.iK f) v:=by
 cases x with
 |v x=>
  obtain⟨vs,h1,h2⟩:=h
  exact⟨vs,h1.iK (fun y hy k KP=>hb k (SV.mem_keys.2 ⟨y,hy,KP⟩)) (fun y hy k KP=>hk k (SV.mem_keys.2 ⟨y,hy,KP⟩)),h2⟩
 |jx xs=>
  obtain⟨vs,h1,h2,h3⟩:=h
  refine⟨vs,h1,by simpa using h2,fun i x u hx hu=> ?_⟩
  rw[eW] at hx
  cases hy:xs[i]? with
  |none=>rw[hy] at hx;cases hx
  |some y=>
   rw[hy] at hx;cases hx
   have hm:=n6 hy
   obtain⟨us,g1,g2⟩:=h3 i y u hy hu
   exact⟨us,g1.iK (fun z hz k Bc=>hb k (SV.mem_keys.2 ⟨z,fC.2 ⟨y,hm,hz⟩,Bc⟩)) (fun z hz k Bc=>hk k (SV.mem_keys.2 ⟨z,fC.2 ⟨y,hm,hz⟩,Bc⟩)),g2⟩
 |fn p=>exact h
 |ox g xs=>
  obtain⟨vs,h1,h2,h3⟩:=h
  refine⟨vs,h1,by simpa using h2,fun i x u hx hu=> ?_⟩
  rw[eW] at hx
  cases hy:xs[i]? with
  |none=>rw[hy] at hx;cases hx
  |some y=>
   rw[hy] at hx;cases hx
   have hm:=n6 hy
   obtain⟨us,g1,g2⟩:=h3 i y u hy hu
   exact⟨us,g1.iK (fun z hz k Bc=>hb k (SV.mem_keys.2 ⟨z,fC.2 ⟨y,hm,hz⟩,Bc⟩)) (fun z hz k Bc=>hk k (SV.mem_keys.2 ⟨z,fC.2 ⟨y,hm,hz⟩,Bc⟩)),g2⟩
theorem xf{β γ:Type}{g:β->γ}:∀{l:List (Nat×Option β)}{s:Nat},look (l.map fun p=>(p.1,p.2.map g)) s=(look l s).map g
 |[],s=>rfl
 |(t,v)::r,s=>by
  simp only[qd,look]
  cases Nat.beq t s
  ·exact xf
  ·rfl
theorem Ig(h:aE E pm F kv fp σ a w)(hc:bk E w F kv fp σ a)(hn:(σ.tab.map (·.1)).Nodup)(yU:∀p∈σ.tab,p.2.isSome=true){l:List (Key×Key)}{S:Key->Prop}
  (O4:∀k,Names σ k->S k) (Lp:∀k,(σ.aw k).isSome=true->S k) (Bi:∀k k',S k->S k'->jM l k=jM l k'->k=k') (nQ:∀k,2000000<=k.1->k.2<1024->∀k0,jM l k0=k->k0=k):
  ∃kv' fp',aE E pm F kv' fp' (rename l σ) a w:=by
 classical
 generalize hf:jM l=f at Bi nQ
 have cM:∀p∈σ.tab,(σ.aw p.1).isSome=true:=by
  rintro⟨k,v⟩ hp
  have:=yU _ hp
  cases v with
  |none=>cases this
  |some e=>unfold aa.aw;rw[uU hn hp];rfl
 have AK:(rename l σ).tab=σ.tab.map fun(k,e)=>(f k,e.map (bZ.iK f)):=by rw[<-hf];rfl
 have AO:(rename l σ).au=σ.au.map fun(s,v)=>(s,v.map (SV.iK f)):=by rw[<-hf];rfl
 have ju:((rename l σ).tab.map (·.1)).Nodup:=by
  rw[AK,List.map_map]
  have:(σ.tab.map ((·.1)∘fun((k,e):Key×Option (bZ U))=>(f k,e.map (bZ.iK f))))=(σ.tab.map (·.1)).map f:=by
   rw[List.map_map];rfl
  rw[this]
  rw[CB,List.pairwise_map]
  rw[CB] at hn
  refine List.Pairwise.imp_of_mem (fun{k k'} hk aG aX he=>aX ?_) hn
  obtain⟨p,hp,rfl⟩:=eV.1 hk
  obtain⟨p',dj,rfl⟩:=eV.1 aG
  exact Bi _ _ (Lp _ (cM p hp)) (Lp _ (cM p' dj)) he
 have hH:∀k' e',(rename l σ).aw k'=some e'↔∃k e,σ.aw k=some e/\k'=f k/\e'=e.iK f:=by
  intro k' e'
  constructor
  ·intro he
   have hm:=mN he
   rw[AK] at hm
   obtain⟨⟨k,v⟩,hp,hx⟩:=eV.1 hm
   simp only[fB] at hx
   obtain⟨h1,h2⟩:=hx
   cases v with
   |none=>cases h2
   |some e=>cases h2;exact⟨k,e,uU hn hp,h1.symm,rfl⟩
  ·rintro⟨k,e,he,rfl,rfl⟩
   refine uU ju ?_
   rw[AK]
   exact eV.2 ⟨(k,some e),mN he,rfl⟩
 have gZ:∀s,(rename l σ).get s=(σ.get s).map (SV.iK f):=by
  intro s
  show look (rename l σ).au s=_
  rw[AO]
  exact xf
 let g:Key->Key:=fun k'=>if h:∃k,S k/\f k=k' then h.choose else k'
 have hg:∀k,S k->g (f k)=k:=by
  intro k hk
  have hx:∃k1,S k1/\f k1=f k:=⟨k,hk,rfl⟩
  have:g (f k)=hx.choose:=by simp only[g];rw[dif_pos hx]
  rw[this]
  exact Bi _ _ hx.choose_spec.1 hk hx.choose_spec.2
 have lW:∀k,Names σ k->(fun k'=>kv (g k')) (f k)=kv k/\(fun k'=>fp (g k')) (f k)=fp k:=by
  intro k hk
  simp only
  rw[hg k (O4 k hk)]
  exact⟨rfl,rfl⟩
 have vK:∀{k:Key}{e:bZ U},σ.aw k=some e->g (f k)=k:=fun he=>hg _ (Lp _ (by rw[he];rfl))
 refine⟨fun k'=>kv (g k'),fun k'=>fp (g k'),?_⟩
 ·refine⟨h.size,h.defers,fun s x' hs=> ?_,fun k' e' he=> ?_,fun k1 k2 e1 e2 b aX h1 h2=> ?_,fun k' e' he=> ?_,fun k' e' b he=> ?_,h.iz,h.iy,h.upto,fun k v KA=> ?_,h.lay⟩
  ·rw[gZ] at hs
   cases hx:σ.get s with
   |none=>rw[hx] at hs;cases hs
   |some x=>
    rw[hx] at hs;cases hs
    exact(hc.au s x hx).iK (fun k hk=>rfl) (fun k hk=>lW k (.inl ⟨s,x,hx,hk⟩))
  ·obtain⟨k,e,h1,rfl,rfl⟩:=(hH k' e').1 he
   have h0:=hc.aJ k e h1
   simp only[vK h1]
   cases e with
   |arr x deep=>exact h0
   |part x dead=>exact h0
   |box cs=>
    obtain⟨b,cur,e',g1,g2,g3,g4⟩:=h0
    exact⟨b,cur,e',g1,g2,g3,g4.iK (fun y hy k' aG=>rfl) (fun y hy k' aG=>lW k' (.inr ⟨k,cs,h1,y,hy,aG⟩))⟩
  ·obtain⟨k,e,g1,rfl,rfl⟩:=(hH k1 e1).1 h1
   obtain⟨k',e',g2,rfl,rfl⟩:=(hH k2 e2).1 h2
   simp only[vK g1,vK g2]
   exact h.apart k k' e e' b (fun e=>aX (by rw[e])) g1 g2
  ·obtain⟨k,e,g1,rfl,rfl⟩:=(hH k' e').1 he
   simp only[vK g1]
   exact h.nodup k e g1
  ·obtain⟨k,e,g1,rfl,rfl⟩:=(hH k' e').1 he
   simp only[vK g1]
   exact h.bt k e b g1
  ·obtain⟨p1,p2,p3,p4⟩:=h.sL k v KA
   have:g k=k:=by
    by_cases hx:∃k1,S k1/\f k1=k
    ·have e:g k=hx.choose:=by simp only[g];rw[dif_pos hx]
     rw[e]
     exact nQ k p1 p2 _ hx.choose_spec.2
    ·simp only[g];rw[dif_neg hx]
   exact⟨p1,p2,p3,by simp only[this];exact p4⟩
theorem Dy(bad:Key->Bool)(σ:aa U):((gB bad σ).tab.map (·.1)).Nodup/\∀p∈(gB bad σ).tab,p.2.isSome=true:=by
 refine⟨xc uP.1,fun p hp=> ?_⟩
 have hm:=(qa.1 hp).1
 have:∀{l:List (Key×Option (bZ U))}{seen:List Key},∀p∈fX seen l,p.2.isSome=true:=by
  intro l
  induction l with
  |nil=>intro seen p hp;simp[fX] at hp
  |cons q l ih=>
   obtain⟨k,v⟩:=q
   intro seen p hp
   simp only[fX] at hp
   cases hs:seen.any (cj k)<;>rw[hs] at hp<;>simp only[cond_true,cond_false] at hp
   ·cases v with
    |none=>exact ih p hp
    |some x=>
     rcases dJ.1 hp with rfl|hp
     ·rfl
     ·exact ih p hp
   ·exact ih p hp
 exact this p hm
theorem NW{bad:Key->Bool}{k:Key}{e:bZ U}(h:σ.aw k=some e)(hb:bad k=false)(Lh:∀cs,e=.box cs->xF bad σ (.v ⟨true,cs⟩)=true):(gB bad σ).aw k=some e:=by
 refine uU (Dy bad σ).1 (qa.2 ⟨mN (by rw[uQ (by simp)];exact h),?_⟩)
 simp only[hb,Cx,CD]
 cases e with
 |arr a d=>rfl
 |part a d=>rfl
 |box cs=>exact Lh cs rfl
theorem uS(h:aE E pm F kv fp σ a w)(bad:Key->Bool):bk E w F kv fp (gB bad σ) a:=by
 refine⟨fun s x hs=> ?_,fun k e he=> ?_⟩
 ·obtain⟨h1,h2,_⟩:=uT.1 hs
  exact(h.au s x h1).eL (fun y hy=>(tt h2 hy).1)
 ·obtain⟨h1,h2,h3⟩:=qz he
  have h0:=h.aJ k e h1
  cases e with
  |arr x deep=>exact h0
  |part x dead=>exact h0
  |box cs=>
   obtain⟨b,cur,e',g1,g2,g3,g4⟩:=h0
   exact⟨b,cur,e',g1,g2,g3,g4.eL (fun y hy=>(tt (h3 cs rfl) (x:=.v ⟨true,cs⟩) hy).1)⟩
theorem w_:∀{l:List (Key×Key)}{k:Key},(∃b,(k,b)∈l/\jM l k=b)\/((∀b,(k,b)∉l)/\jM l k=k)
 |[],k=> .inr ⟨fun b hb=>(wE hb).elim,rfl⟩
 |(a,b)::r,k=>by
  simp only[jM]
  cases h:cj a k
  ·simp only[cond_false]
   rcases w_ (l:=r) (k:=k) with⟨c,h1,h2⟩|⟨h1,h2⟩
   ·exact .inl ⟨c,d_ _ h1,h2⟩
   ·refine .inr ⟨fun c hc=> ?_,h2⟩
    rcases dJ.1 hc with hc|hc
    ·cases hc;rw[k9] at h;cases h
    ·exact h1 c hc
  ·have:=fF.1 h
   subst this
   exact .inl ⟨b,gp,rfl⟩
theorem Dg(h:∃kv fp,aE E pm F kv fp σ a w)(l0:List (Key×Key)):∃kv fp,aE E pm F kv fp (gA l0 σ) a w:=by
 unfold gA
 simp only
 rw[bV]
 split
 ·exact h
 ·rename_i eK
  generalize hl:(l0.filter fun(a,b)=> !(cj a b)&& !(Nat.ble 2000000 a.1&&Nat.blt a.2 1024))=l at eK⊢
  simp only[qi,not_or,n7,Bool.not_eq_false'] at eK
  obtain⟨⟨⟨h1,h2⟩,h3⟩,h4⟩:=eK
  obtain⟨kv,fp,hs⟩:=h
  have B7:(l.map (·.2)).Nodup:=iL.1 h3
  have PY:(l.map (·.1)).Nodup:=iL.1 h2
  obtain⟨t1,t2⟩:=Dy (fun k=>(l.map (·.2)).any (cj k)) σ
  refine Ig (oQ hs _) (uS hs _) t1 t2 (S:=fun k=>k∉l.map (·.2)) (fun k hk=> ?_) (fun k hk=> ?_) (fun k k' hk aG he=> ?_) (fun k p1 p2 k0 he=> ?_)
  ·have:=(Dz hk).1
   exact fun hm=>by rw[gX.2 hm] at this;cases this
  ·obtain⟨e,he⟩:=eD.1 hk
   have:=(qz he).2.1
   exact fun hm=>by rw[gX.2 hm] at this;cases this
  ·rcases w_ (l:=l) (k:=k) with⟨b,g1,g2⟩|⟨g1,g2⟩<;>rcases w_ (l:=l) (k:=k') with⟨b',LC,FD⟩|⟨LC,FD⟩
   ·rw[g2,FD] at he
    subst he
    obtain⟨i,hi,gu⟩:=nJ g1
    obtain⟨j,hj,ir⟩:=nJ LC
    have vJ:i=j:=by
     refine(List.getElem_inj (h₀:=by simpa using hi) (h₁:=by simpa using hj) B7).1 ?_
     simp[gu,ir]
    subst vJ
    rw[gu] at ir
    exact(Prod.mk.inj ir).1
   ·rw[g2,FD] at he
    subst he
    exact absurd (eV.2 ⟨_,g1,rfl⟩) aG
   ·rw[g2,FD] at he
    subst he
    exact absurd (eV.2 ⟨_,LC,rfl⟩) hk
   ·rw[g2,FD] at he
    exact he
  ·rcases w_ (l:=l) (k:=k0) with⟨b,g1,g2⟩|⟨g1,g2⟩
   ·exfalso
    have:=qc.1 h4 _ g1
    simp only[wC] at this
    rw[g2] at he
    subst he
    omega
   ·rw[g2] at he;exact he
theorem Di(h:∃kv fp,aE E pm F kv fp σ a w)(d:Nat):∃kv fp,aE E pm F kv fp (gU d σ) a w:=by
 unfold gU
 split
 ·exact Dg h _
 ·exact h
theorem H5(h:∃kv fp,aE E pm F kv fp σ a w)(k:Key):∃kv fp,aE E pm F kv fp (kf k σ) a w:=by
 unfold kf
 split
 ·exact Dg h _
 ·exact h
theorem w6:∀{l:List Key}{τ:aa U},(∃kv fp,aE E pm F kv fp τ a w)->∃kv fp,aE E pm F kv fp (ke l τ) a w
 |[],τ,h=>h
 |k::l,τ,h=>w6 (l:=l) (H5 h k)
theorem H3(h:aE E pm F kv fp σ a w)(ops:List Oper):∃kv fp,aE E pm F kv fp (settle ops σ) a w:=by
 unfold settle
 simp only
 refine w6 ?_
 have h0:∃kv fp,aE E pm F kv fp (cI σ) a w:=⟨kv,fp,oQ h _⟩
 generalize cI σ=τ at h0
 generalize assigned ops=l
 induction l generalizing τ with
 |nil=>exact h0
 |cons d l ih=>exact ih _ (Di h0 d)
theorem uW{β:Type}(f:β->β):∀(l:List (Nat×Option β))(s:Nat),look (l.map fun(t,v)=>(t,v.map f)) s=(look l s).map f
 |[],s=>rfl
 |(t,v)::r,s=>by
  simp only[qd,look]
  cases h:Nat.beq t s<;>simp only[cond_true,cond_false]
  exact uW f r s
theorem zZ{β:Type}(f:β->β):∀(l:List (Key×Option β))(s:Key),aW (l.map fun(t,v)=>(t,v.map f)) s=(aW l s).map f
 |[],s=>rfl
 |(t,v)::r,s=>by
  simp only[qd,aW]
  cases h:cj t s<;>simp only[cond_true,cond_false]
  exact zZ f r s
theorem Da{bad':Key->Bool}(k:Key):fP w w kv kv fp fp (fun _=>false) bad' k:=⟨rfl,.inr ⟨rfl,rfl,fun _ _=>rfl⟩⟩
theorem RD.fr{k0:Key}{c:U.C}{bad':Key->Bool}{x:AC U}{v:Value}(h:RD E w F kv fp (fun _=>false) x v)(hF:∀b,F b->F' b)
  (hc:Rp E w F' false c (kv k0) []):RD E w F' kv fp bad' (pu k0 c x) v:=by
 have hm:RD E w F' kv fp bad' x v:=h.move (fun k _=>Da k) (fun b hb=>⟨hF b hb,rfl⟩)
 unfold pu
 split
 ·rename_i k
  rw[bV]
  split
  ·rename_i hk
   have:=fF.1 hk
   subst this
   refine⟨h.1,.inr ?_⟩
   have h2:=h.2
   simp only[cd,List.isEmpty_nil,Gu,NT,mF,false_or,RA,fw] at h2
   rw[h2];exact hc
  ·exact hm
 ·exact hm
theorem dQ.fr{k0:Key}{c:U.C}{bad':Key->Bool}{xs:List (AC U)}{vs:List Value}(h:dQ E w F kv fp (fun _=>false) xs vs)(hF:∀b,F b->F' b)
  (hc:Rp E w F' false c (kv k0) []):dQ E w F' kv fp bad' (xs.map (pu k0 c)) vs:=by
 refine⟨by simpa using h.1,fun i x v hx hv=> ?_⟩
 rw[eW] at hx
 cases hy:xs[i]? with
 |none=>rw[hy] at hx;cases hx
 |some y=>
  rw[hy] at hx;cases hx
  exact(h.2 i y v hy hv).fr hF hc
theorem RS.fr{k0:Key}{c:U.C}{bad':Key->Bool}{x:SV U}{v:Value}(h:RS E w F kv fp (fun _=>false) x v)(hF:∀b,F b->F' b)
  (hc:Rp E w F' false c (kv k0) []):RS E w F' kv fp bad' (sk k0 c x) v:=by
 have hm:RS E w F' kv fp bad' x v:=h.move (fun k _=>Da k) (fun b hb=>⟨hF b hb,rfl⟩)
 cases x with
 |v x=>
  obtain⟨vs,h1,h2⟩:=h
  exact⟨vs,h1.fr hF hc,h2⟩
 |jx xs=>exact hm
 |fn p=>exact hm
 |ox g xs=>exact hm
theorem ig.fr{k0:Key}{c:U.C}{bad':Key->Bool}{x:bZ U}{v:Value}{l:List Nat}(h:ig E w F kv fp (fun _=>false) x v l)(hF:∀b,F b->F' b)
  (hc:Rp E w F' false c (kv k0) []):ig E w F' kv fp bad' (rf k0 c x) v l:=by
 cases x with
 |arr a d=>exact aZ.bu h (fun b hb=>⟨hF b hb,rfl⟩) (fun _ _=>rfl)
 |part a d=>exact aU.bu h (fun b hb=>⟨hF b hb,rfl⟩) (fun _ _=>rfl)
 |box cs=>
  obtain⟨b,cur,e',g1,g2,g3,g4⟩:=h
  exact⟨b,cur,e',g1,g2,g3,g4.fr hF hc⟩
theorem DX(h:aE E pm F kv fp σ a w)(hc:bk E w F kv fp σ a)(k0:Key):∃F,aE E pm F kv fp (dM k0 σ) a w/\bk E w F kv fp (dM k0 σ) a:=by
 unfold dM
 split
 rotate_left
 ·exact⟨F,h,hc⟩
 rename_i ar d he
 have hs:Rp E w (fun b=>F b\/b∈fp k0) false (.sl ar.τ ar.xs) (kv k0) []:=aZ.dy (hc.aJ k0 _ he) (fun b hb=> .inl hb) (fun b hb=> .inr hb)
 have hF:∀b,F b->(fun b=>F b\/b∈fp k0) b:=fun b hb=> .inl hb
 have hH:∀k e,aW ((k0,none)::σ.tab.map fun(k,e)=>(k,e.map (rf k0 (.sl ar.τ ar.xs)))) k=some e->k≠k0/\∃e0,σ.aw k=some e0/\e=rf k0 (.sl ar.τ ar.xs) e0:=by
  intro k e hk
  simp only[aW] at hk
  cases hq:cj k0 k<;>simp only[hq,cond_true,cond_false] at hk
  ·rw[zZ] at hk
   cases hl:aW σ.tab k with
   |none=>rw[hl] at hk;cases hk
   |some e0=>rw[hl] at hk;cases hk;exact⟨fun e=>(rR.1 hq) e.symm,e0,hl,rfl⟩
  ·cases hk
 have gZ:∀s x,look (σ.au.map fun(s,v)=>(s,v.map (sk k0 (.sl ar.τ ar.xs)))) s=some x->∃x0,σ.get s=some x0/\x=sk k0 (.sl ar.τ ar.xs) x0:=by
  intro s x hx
  rw[uW] at hx
  cases hl:look σ.au s with
  |none=>rw[hl] at hx;cases hx
  |some x0=>rw[hl] at hx;cases hx;exact⟨x0,hl,rfl⟩
 refine⟨fun b=>F b\/b∈fp k0,⟨h.size,h.defers,fun s x hx=> ?_,fun k e hk=> ?_,fun k k' e e' b aX h1 h2=> ?_,fun k e hk=> ?_,fun k e b hk hb=> ?_,fun b hb=> ?_,fun b hb=> ?_,h.upto,h.sL,h.lay.bu (fun b hb=>⟨.inl hb,rfl⟩)⟩,⟨fun s x hx=> ?_,fun k e hk=> ?_⟩⟩
 ·obtain⟨x0,ED,rfl⟩:=gZ s x hx
  exact(hc.au s x0 ED).fr hF hs
 ·obtain⟨aX,e0,fm,rfl⟩:=hH k e hk
  exact(hc.aJ k e0 fm).fr hF hs
 ·obtain⟨_,e0,fm,_⟩:=hH k e h1
  obtain⟨_,Ps,Bs,_⟩:=hH k' e' h2
  exact h.apart k k' e0 Ps b aX fm Bs
 ·obtain⟨_,e0,fm,_⟩:=hH k e hk
  exact h.nodup k e0 fm
 ·obtain⟨aX,e0,fm,_⟩:=hH k e hk
  obtain⟨m1,m2,m3⟩:=h.bt k e0 b fm hb
  exact⟨fun hh=>hh.elim m1 (fun hh=>h.apart k k0 e0 _ b aX fm he hb hh),m2,m3⟩
 ·exact hb.elim (h.iz b) (fun hb=>(h.bt k0 _ b he hb).2.2)
 ·exact hb.elim (h.iy b) (fun hb=> .inr (h.bt k0 _ b he hb).2.1)
 ·obtain⟨x0,ED,rfl⟩:=gZ s x hx
  exact(hc.au s x0 ED).fr hF hs
 ·obtain⟨aX,e0,fm,rfl⟩:=hH k e hk
  exact(hc.aJ k e0 fm).fr hF hs
theorem xl:∀{l:List Nat}{σ:aa U},(∃F kv fp,aE E pm F kv fp σ a w/\bk E w F kv fp σ a)->∃F kv fp,aE E pm F kv fp (gg l σ) a w/\bk E w F kv fp (gg l σ) a
 |[],σ,h=>h
 |s::l,σ,h=>by
  refine xl (l:=l) (σ:=hU s σ) ?_
  obtain⟨F,kv,fp,h1,h2⟩:=h
  unfold hU
  split
  ·obtain⟨F',h3⟩:=DX h1 h2 _
   exact⟨F',kv,fp,h3⟩
  ·exact⟨F,kv,fp,h1,h2⟩
theorem D0{k0:Key}{c:U.C}{x:AC U}{k:Key}(h:k∈(pu k0 c x).keys):k∈x.keys:=by
 unfold pu at h
 split at h
 ·rename_i q
  rw[bV] at h
  split at h
  ·simp[AC.keys] at h
  ·exact h
 ·exact h
theorem Jh{k0:Key}{c:U.C}{x:SV U}{k:Key}(h:k∈(sk k0 c x).keys):k∈x.keys:=by
 cases x with
 |v x=>
  obtain⟨y,hy,hk⟩:=SV.mem_keys.1 h
  simp only[sk,SV.mE,eV] at hy
  obtain⟨z,hz,rfl⟩:=hy
  exact SV.mem_keys.2 ⟨z,hz,D0 hk⟩
 |jx xs=>exact h
 |fn p=>exact h
 |ox g xs=>exact h
theorem DY{k0 k:Key}(h:Names (dM k0 σ) k):Names σ k:=by
 unfold dM at h
 split at h
 rotate_left
 ·exact h
 rcases h with⟨s,x,hs,hk⟩|⟨k',cs,he,x,hx,hk⟩
 ·have hs:look (σ.au.map _) s=some x:=hs
  rw[uW] at hs
  cases hl:look σ.au s with
  |none=>rw[hl] at hs;cases hs
  |some y=>rw[hl] at hs;cases hs;exact .inl ⟨s,y,hl,Jh hk⟩
 ·have he:aW ((k0,none)::σ.tab.map _) k'=some (bZ.box cs):=he
  simp only[aW] at he
  cases hq:cj k0 k'<;>simp only[hq,cond_true,cond_false] at he
  ·rw[zZ] at he
   cases hl:aW σ.tab k' with
   |none=>rw[hl] at he;cases he
   |some e=>
    rw[hl] at he
    cases e with
    |arr a d=>cases he
    |part a d=>cases he
    |box FJ=>
     simp only[nG,rf,bH,bZ.box.injEq] at he
     subst he
     obtain⟨z,hz,rfl⟩:=eV.1 hx
     exact .inr ⟨k',FJ,hl,z,hz,D0 hk⟩
  ·cases he
theorem DU{k:Key}:∀{l:List Nat}{σ:aa U},Names (gg l σ) k->Names σ k
 |[],σ,h=>h
 |s::l,σ,h=>by
  have h2:Names (hU s σ) k:=DU (l:=l) h
  unfold hU at h2
  split at h2
  ·exact DY h2
  ·exact h2
theorem xn:∀{l:List Key}{σ:aa U},(∃F kv fp,aE E pm F kv fp σ a w/\bk E w F kv fp σ a)->∃F kv fp,aE E pm F kv fp (gH l σ) a w/\bk E w F kv fp (gH l σ) a
 |[],σ,h=>h
 |s::l,σ,h=>by
  refine xn (l:=l) (σ:=dM s σ) ?_
  obtain⟨F,kv,fp,h1,h2⟩:=h
  obtain⟨F',h3⟩:=DX h1 h2 s
  exact⟨F',kv,fp,h3⟩
theorem DW{k:Key}:∀{l:List Key}{σ:aa U},Names (gH l σ) k->Names σ k
 |[],σ,h=>h
 |s::l,σ,h=>DY (DW (l:=l) (σ:=dM s σ) h)
theorem JB(h:aE E pm F kv fp σ a w)(E':Env U)(ops:List Oper):∃F kv fp,aE E pm F kv fp (nk E' ops σ) a w:=by
 obtain⟨F',kv',fp',h1,_⟩:=xn (l:=s3 ops (gg (sN E' ops) (enter ops σ))) (xl (l:=sN E' ops) (σ:=enter ops σ) ⟨F,kv,fp,Jz h ops,uS h _⟩)
 exact⟨F',kv',fp',h1⟩
theorem D6{E':Env U}{ops:List Oper}{k:Key}(h:Names (nk E' ops σ) k)(hd:k.1∈mc ops\/k.1=1000000):1024<=k.2:=JA (DU (DW h)) hd
theorem H0(h:aE E pm F kv fp σ a w)(k0:Key):∃F' fp',aE E pm F' kv fp' (mI k0 σ) a w:=by
 unfold mI
 split
 rotate_left
 ·exact⟨F,fp,h⟩
 rename_i ar he
 have hH:∀k e,aW ((k0,some (bZ.arr ar false))::σ.tab) k=some e->(k=k0/\e=bZ.arr ar false)\/(k≠k0/\σ.aw k=some e):=by
  intro k e hk
  simp only[aW] at hk
  cases hq:cj k0 k<;>simp only[hq,cond_true,cond_false] at hk
  ·exact .inr ⟨fun e=>(rR.1 hq) e.symm,hk⟩
  ·cases hk;exact .inl ⟨(fF.1 hq).symm,rfl⟩
 have yU:∀k,∃k' e',σ.aw k=some e'\/k'=k:=fun k=>⟨k,.arr ar true,.inr rfl⟩
 obtain⟨F',fp',hF,Lt,xY,eE,fc,eG⟩:∃(F':Nat->Prop)(fp':Key->List Nat),(∀b,F b->F' b)/\(∀b,F' b->F b\/b∈fp k0)/\(∀k,k≠k0->fp' k=fp k)/\(∀b∈fp' k0,b∈fp k0/\¬F' b)/\(fp' k0).Nodup/\aZ E w F' false ar (kv k0) (fp' k0):=by
  have ho:aZ E w F true ar (kv k0) (fp k0):=h.aJ k0 _ he
  have hn:=h.nodup k0 _ he
  rcases ho with⟨h1,h2,h3⟩|⟨b,cap,cur,vs,bM,h1,h2,h3,h4,h5,h6,h7,h8⟩
  ·exact⟨F,fp,fun _ hb=>hb,fun b hb=> .inl hb,fun _ _=>rfl,fun b hb=>(by rw[h3] at hb;cases hb),hn,.inl ⟨h1,h2,h3⟩⟩
  ·rw[h8,gx] at hn
   refine⟨fun c=>F c\/(c∈fp k0/\c≠b),fun k=>if cj k k0=true then[b] else fp k,fun _ hb=> .inl hb,fun c hc=>hc.imp id fun g=>g.1,fun k hk=> ?_,fun c hc=> ?_,?_,?_⟩
   ·dsimp only;rw[if_neg (by rw[fF];exact hk)]
   ·dsimp only at hc;rw[if_pos (k9 _),gn] at hc
    subst hc
    have hm:c∈fp k0:=by rw[h8];exact gp
    exact⟨hm,fun g=>g.elim (h.bt k0 _ c he hm).1 fun g=>g.2 rfl⟩
   ·dsimp only;rw[if_pos (k9 _)];simp
   ·dsimp only;rw[if_pos (k9 _)]
    refine .inr ⟨b,cap,cur,vs,fun _=>[],h1,h2,h3,h4,h5,h6,fun i x j c hx hj=> ?_,by simp⟩
    have bU:i*U.wd ar.τ+j<ar.xs.length*U.wd ar.τ:=bm hx hj
    refine(h7 i x j c hx hj).dy (fun b hb=> .inl hb) fun b' ap=> .inr ?_
    have jv:b'∈(List.range (ar.xs.length*U.wd ar.τ)).flatMap bM:=fC.2 ⟨_,iD.2 bU,ap⟩
    exact⟨by rw[h8];exact d_ _ jv,fun e=>hn.1 (by rw[<-e];exact jv)⟩
 have lZ:∀b,F b->F' b/\w.heap[b]? =w.heap[b]? :=fun b hb=>⟨hF b hb,rfl⟩
 have io:∀k,fP w w kv kv fp fp' (ay σ) (ay ({σ with tab:=(k0,some (bZ.arr ar false))::σ.tab,ah:=k0::σ.ah}:aa U)) k:=by
  intro k
  refine⟨rfl,?_⟩
  by_cases hk:k=k0
  ·left
   subst hk
   simp[ay,k9]
  ·cases hb:ay σ k
   ·right;exact⟨rfl,xY k hk,fun _ _=>rfl⟩
   ·left
    simp only[ay,qi] at hb⊢
    rcases hb with hb|hb
    ·left;rw[zo,hb,Bool.or_true]
    ·right
     show(aW ((k0,some (bZ.arr ar false))::σ.tab) k).isNone=true
     have hq:cj k0 k=false:=rR.2 fun e=>hk e.symm
     simp only[aW,hq,cond_false]
     exact hb
 have kw:∀k e b,σ.aw k=some e->k≠k0->b∈fp k->¬F' b:=fun k e b Cg hk hb ap=>by
  rcases Lt b ap with g|g
  ·exact(h.bt k e b Cg hb).1 g
  ·exact h.apart k k0 e _ b hk Cg he hb g
 refine⟨F',fp',⟨h.size,h.defers,fun s x hx=>(h.au s x hx).move (fun k _=>io k) lZ,fun k e hk=> ?_,fun k k' e e' b aX h1 h2 hb=> ?_,fun k e hk=> ?_,fun k e b hk hb=> ?_,fun b hb=> ?_,fun b hb=> ?_,h.upto,h.sL,h.lay.bu lZ⟩⟩
 ·rcases hH k e hk with⟨rfl,rfl⟩|⟨aX,Cg⟩
  ·exact eG
  ·rw[xY k aX]
   have h1:=h.aJ k e Cg
   cases e with
   |arr a d=>exact aZ.bu h1 lZ (fun _ _=>rfl)
   |part a d=>exact aU.bu h1 lZ (fun _ _=>rfl)
   |box cs=>
    obtain⟨b,cur,e',g1,g2,g3,g4⟩:=h1
    exact⟨b,cur,e',g1,g2,g3,g4.move (fun _ _ k _=>io k) lZ⟩
 ·rcases hH k e h1 with⟨rfl,_⟩|⟨n1,g1⟩
  ·rcases hH k' e' h2 with⟨rfl,_⟩|⟨n2,g2⟩
   ·exact absurd rfl aX
   ·rw[xY k' n2]
    exact h.apart _ k' _ _ b aX he g2 (eE b hb).1
  ·rw[xY k n1] at hb
   rcases hH k' e' h2 with⟨rfl,_⟩|⟨n2,g2⟩
   ·exact fun ap=>h.apart k _ _ _ b aX g1 he hb (eE b ap).1
   ·rw[xY k' n2]
    exact h.apart k k' _ _ b aX g1 g2 hb
 ·rcases hH k e hk with⟨rfl,_⟩|⟨n1,g1⟩
  ·exact fc
  ·rw[xY k n1];exact h.nodup k e g1
 ·rcases hH k e hk with⟨rfl,_⟩|⟨n1,g1⟩
  ·obtain⟨g1,g2⟩:=eE b hb
   exact⟨g2,(h.bt _ _ b he g1).2⟩
  ·rw[xY k n1] at hb
   exact⟨kw k e b g1 n1 hb,(h.bt k e b g1 hb).2⟩
 ·rcases Lt b hb with g|g
  ·exact h.iz b g
  ·exact(h.bt k0 _ b he g).2.2
 ·rcases Lt b hb with g|g
  ·exact h.iy b g
  ·exact .inr (h.bt k0 _ b he g).2.1
theorem De:∀{l:List Key}{σ:aa U}{F:Nat->Prop}{fp:Key->List Nat},aE E pm F kv fp σ a w->∃F' fp',aE E pm F' kv fp' (l.foldl (fun σ k=>mI k σ) σ) a w
 |[],_,F,fp,h=>⟨F,fp,h⟩
 |k::l,σ,F,fp,h=>by
  obtain⟨F1,Cp,h1⟩:=H0 h k
  exact De (l:=l) h1
theorem Dc{l:List Key}(h:aE E pm F kv fp σ a w)(hc:bk E w F kv fp σ a):∃F' fp',aE E pm F' kv fp' (sH l σ) a w/\bk E w F' kv fp' (sH l σ) a:=by
 cases l with
 |nil=>exact⟨F,fp,h,hc⟩
 |cons k l=>
  obtain⟨F1,Cp,h1⟩:=De (l:=k::l) h
  exact⟨F1,Cp,oQ h1 _,uS h1 _⟩
end AM
