import Derived.Test.YthciaocifglggaaGreatDoorQAmSettle
namespace AM
set_option linter.unusedVariables false
open Go
variable{U:kz}{E:Env U}{pm:Pm}
variable{F F':Nat->Prop}{kv kv':Key->Value}{fp fp':Key->List Nat}{σ τ:af U}{a:Act}{w w':World}
structure e7(E:Env U)(w:World)(F:Nat->Prop)(kv:Key->Value)(fp:Key->List Nat)(σ:af U)(a:Act):Prop where
 bp:∀s x,σ.get s=some x->RS E w F kv fp (fun _=>false) x (a.tmps.getD s undef)
 cV:∀k e,σ.bH k=some e->ri E w F kv fp (fun _=>false) e (kv k) (fp k)
theorem DG{bad:Key->Bool}{x:AC U}(h:∀k∈x.keys,bad k=false):io bad x=false:=by
 cases x with
 |ref k p=>simp[io,h k (by simp[AC.keys])]
 |kM k p i wd off=>simp[io,h k (by simp[AC.keys])]
 |_=>rfl
theorem RA.rV{f:Key->Key}{x:AC U}{v:Value}(hk:∀k∈x.keys,kv' (f k)=kv k/\fp' (f k)=fp k)(h:RA E w F kv fp x v):RA E w F kv' fp' (x.rV f) v:=by
 cases x with
 |c x=>exact h
 |e0=>exact h
 |kn b τ xs=>exact h
 |ia cs=>exact h
 |ref k p=>
  obtain⟨h1,h2⟩:=hk k (by simp[AC.keys])
  simp only[AC.rV,RA] at h⊢
  rw[h1,h2];exact h
 |sub k wd lo hi=>
  obtain⟨h1,h2⟩:=hk k (by simp[AC.keys])
  simp only[AC.rV,RA] at h⊢
  rw[h1];exact h
 |kM k p i wd off=>
  obtain⟨h1,h2⟩:=hk k (by simp[AC.keys])
  simp only[AC.rV,RA] at h⊢
  rw[h1,h2];exact h
 |j0 k off=>
  obtain⟨h1,h2⟩:=hk k (by simp[AC.keys])
  simp only[AC.rV,RA] at h⊢
  rw[h1];exact h
theorem kX.rV{f:Key->Key}{bad bad':Key->Bool}{xs:List (AC U)}{vs:List Value}(hb:∀y∈xs,∀k∈y.keys,bad k=false)(hk:∀y∈xs,∀k∈y.keys,kv' (f k)=kv k/\fp' (f k)=fp k)
  (h:kX E w F kv fp bad xs vs):kX E w F kv' fp' bad' (xs.map (AC.rV f)) vs:=by
 refine⟨by simpa using h.1,fun i x v hx hv=> ?_⟩
 rw[lZ] at hx
 cases hy:xs[i]? with
 |none=>rw[hy] at hx;cases hx
 |some y=>
  rw[hy] at hx;cases hx
  have hm:=Cs hy
  have:=h.2 i y v hy hv
  exact⟨this.1,.inr ((cn this (DG (hb y hm))).rV (hk y hm))⟩
theorem RS.rV{f:Key->Key}{bad bad':Key->Bool}{x:SV U}{v:Value}(hb:∀k∈x.keys,bad k=false)(hk:∀k∈x.keys,kv' (f k)=kv k/\fp' (f k)=fp k)
  (h:RS E w F kv fp bad x v):RS E w F kv' fp' bad' (x.rV f) v:=by
 cases x with
 |v x=>
  obtain⟨vs,h1,h2⟩:=h
  exact⟨vs,h1.rV (fun y hy k hky=>hb k (SV.mem_keys.2 ⟨y,hy,hky⟩)) (fun y hy k hky=>hk k (SV.mem_keys.2 ⟨y,hy,hky⟩)),h2⟩
 |tJ xs=>
  obtain⟨vs,h1,h2,h3⟩:=h
  refine⟨vs,h1,by simpa using h2,fun i x u hx hu=> ?_⟩
  rw[lZ] at hx
  cases hy:xs[i]? with
  |none=>rw[hy] at hx;cases hx
  |some y=>
   rw[hy] at hx;cases hx
   have hm:=Cs hy
   obtain⟨us,g1,g2⟩:=h3 i y u hy hu
   exact⟨us,g1.rV (fun z hz k XF=>hb k (SV.mem_keys.2 ⟨z,nl.2 ⟨y,hm,hz⟩,XF⟩)) (fun z hz k XF=>hk k (SV.mem_keys.2 ⟨z,nl.2 ⟨y,hm,hz⟩,XF⟩)),g2⟩
 |fn p=>exact h
 |Db g xs=>
  obtain⟨vs,h1,h2,h3⟩:=h
  refine⟨vs,h1,by simpa using h2,fun i x u hx hu=> ?_⟩
  rw[lZ] at hx
  cases hy:xs[i]? with
  |none=>rw[hy] at hx;cases hx
  |some y=>
   rw[hy] at hx;cases hx
   have hm:=Cs hy
   obtain⟨us,g1,g2⟩:=h3 i y u hy hu
   exact⟨us,g1.rV (fun z hz k XF=>hb k (SV.mem_keys.2 ⟨z,nl.2 ⟨y,hm,hz⟩,XF⟩)) (fun z hz k XF=>hk k (SV.mem_keys.2 ⟨z,nl.2 ⟨y,hm,hz⟩,XF⟩)),g2⟩
theorem Pw{β γ:Type}{g:β->γ}:∀{l:List (Nat×Option β)}{s:Nat},look (l.map fun p=>(p.1,p.2.map g)) s=(look l s).map g
 |[],s=>rfl
 |(t,v)::r,s=>by
  simp only[tI,look]
  cases Nat.beq t s
  ·exact Pw
  ·rfl
theorem aj4(h:cG E pm F kv fp σ a w)(hc:e7 E w F kv fp σ a)(hn:(σ.mW.map (·.1)).Nodup)(Sf:∀p∈σ.mW,p.2.isSome=true){l:List (Key×Key)}{S:Key->Prop}
  (hSn:∀k,Names σ k->S k) (hSl:∀k,(σ.bH k).isSome=true->S k) (XM:∀k k',S k->S k'->uc l k=uc l k'->k=k') (Ck:∀k,2000000<=k.1->k.2<1024->∀k0,uc l k0=k->k0=k):
  ∃kv' fp',cG E pm F kv' fp' (rename l σ) a w:=by
 classical
 generalize hf:uc l=f at XM Ck
 have jq:∀p∈σ.mW,(σ.bH p.1).isSome=true:=by
  rintro⟨k,v⟩ hp
  have:=Sf _ hp
  cases v with
  |none=>cases this
  |some e=>unfold af.bH;rw[Pv hn hp];rfl
 have M4:(rename l σ).mW=σ.mW.map fun(k,e)=>(f k,e.map (ir.rV f)):=by rw[<-hf];rfl
 have W5:(rename l σ).bp=σ.bp.map fun(s,v)=>(s,v.map (SV.rV f)):=by rw[<-hf];rfl
 have tF:((rename l σ).mW.map (·.1)).Nodup:=by
  rw[M4,List.map_map]
  have:(σ.mW.map ((·.1)∘fun((k,e):Key×Option (ir U))=>(f k,e.map (ir.rV f))))=(σ.mW.map (·.1)).map f:=by
   rw[List.map_map];rfl
  rw[this]
  rw[ZB,List.pairwise_map]
  rw[ZB] at hn
  refine List.Pairwise.imp_of_mem (fun{k k'} hk cM et he=>et ?_) hn
  obtain⟨p,hp,rfl⟩:=lH.1 hk
  obtain⟨p',j_,rfl⟩:=lH.1 cM
  exact XM _ _ (hSl _ (jq p hp)) (hSl _ (jq p' j_)) he
 have qo:∀k' e',(rename l σ).bH k'=some e'↔∃k e,σ.bH k=some e/\k'=f k/\e'=e.rV f:=by
  intro k' e'
  constructor
  ·intro he
   have hm:=B8 he
   rw[M4] at hm
   obtain⟨⟨k,v⟩,hp,hx⟩:=lH.1 hm
   simp only[nE] at hx
   obtain⟨h1,h2⟩:=hx
   cases v with
   |none=>cases h2
   |some e=>cases h2;exact⟨k,e,Pv hn hp,h1.symm,rfl⟩
  ·rintro⟨k,e,he,rfl,rfl⟩
   refine Pv tF ?_
   rw[M4]
   exact lH.2 ⟨(k,some e),B8 he,rfl⟩
 have qm:∀s,(rename l σ).get s=(σ.get s).map (SV.rV f):=by
  intro s
  show look (rename l σ).bp s=_
  rw[W5]
  exact Pw
 let g:Key->Key:=fun k'=>if h:∃k,S k/\f k=k' then h.choose else k'
 have hg:∀k,S k->g (f k)=k:=by
  intro k hk
  have hx:∃k1,S k1/\f k1=f k:=⟨k,hk,rfl⟩
  have:g (f k)=hx.choose:=by simp only[g];rw[dif_pos hx]
  rw[this]
  exact XM _ _ hx.choose_spec.1 hk hx.choose_spec.2
 have xL:∀k,Names σ k->(fun k'=>kv (g k')) (f k)=kv k/\(fun k'=>fp (g k')) (f k)=fp k:=by
  intro k hk
  simp only
  rw[hg k (hSn k hk)]
  exact⟨rfl,rfl⟩
 have Nh:∀{k:Key}{e:ir U},σ.bH k=some e->g (f k)=k:=fun he=>hg _ (hSl _ (by rw[he];rfl))
 refine⟨fun k'=>kv (g k'),fun k'=>fp (g k'),?_⟩
 ·refine⟨h.size,h.defers,fun s x' hs=> ?_,fun k' e' he=> ?_,fun k1 k2 e1 e2 b et h1 h2=> ?_,fun k' e' he=> ?_,fun k' e' b he=> ?_,h.rI,h.rH,h.upto,fun k v hpk=> ?_,h.lay⟩
  ·rw[qm] at hs
   cases hx:σ.get s with
   |none=>rw[hx] at hs;cases hs
   |some x=>
    rw[hx] at hs;cases hs
    exact(hc.bp s x hx).rV (fun k hk=>rfl) (fun k hk=>xL k (.inl ⟨s,x,hx,hk⟩))
  ·obtain⟨k,e,h1,rfl,rfl⟩:=(qo k' e').1 he
   have h0:=hc.cV k e h1
   simp only[Nh h1]
   cases e with
   |arr x deep=>exact h0
   |part x dead=>exact h0
   |box cs=>
    obtain⟨b,cur,e',g1,g2,g3,g4⟩:=h0
    exact⟨b,cur,e',g1,g2,g3,g4.rV (fun y hy k' cM=>rfl) (fun y hy k' cM=>xL k' (.inr ⟨k,cs,h1,y,hy,cM⟩))⟩
  ·obtain⟨k,e,g1,rfl,rfl⟩:=(qo k1 e1).1 h1
   obtain⟨k',e',g2,rfl,rfl⟩:=(qo k2 e2).1 h2
   simp only[Nh g1,Nh g2]
   exact h.apart k k' e e' b (fun e=>et (by rw[e])) g1 g2
  ·obtain⟨k,e,g1,rfl,rfl⟩:=(qo k' e').1 he
   simp only[Nh g1]
   exact h.nodup k e g1
  ·obtain⟨k,e,g1,rfl,rfl⟩:=(qo k' e').1 he
   simp only[Nh g1]
   exact h.ff k e b g1
  ·obtain⟨p1,p2,p3,p4⟩:=h.Ji k v hpk
   have:g k=k:=by
    by_cases hx:∃k1,S k1/\f k1=k
    ·have e:g k=hx.choose:=by simp only[g];rw[dif_pos hx]
     rw[e]
     exact Ck k p1 p2 _ hx.choose_spec.2
    ·simp only[g];rw[dif_neg hx]
   exact⟨p1,p2,p3,by simp only[this];exact p4⟩
theorem aj'(bad:Key->Bool)(σ:af U):((rm bad σ).mW.map (·.1)).Nodup/\∀p∈(rm bad σ).mW,p.2.isSome=true:=by
 refine⟨Ps LQ.1,fun p hp=> ?_⟩
 have hm:=(BW.1 hp).1
 have:∀{l:List (Key×Option (ir U))}{seen:List Key},∀p∈ox seen l,p.2.isSome=true:=by
  intro l
  induction l with
  |nil=>intro seen p hp;simp[ox] at hp
  |cons q l ih=>
   obtain⟨k,v⟩:=q
   intro seen p hp
   simp only[ox] at hp
   cases hs:seen.any (iw k)<;>rw[hs] at hp<;>simp only[cond_true,cond_false] at hp
   ·cases v with
    |none=>exact ih p hp
    |some x=>
     rcases jw.1 hp with rfl|hp
     ·rfl
     ·exact ih p hp
   ·exact ih p hp
 exact this p hm
theorem LS(h:cG E pm F kv fp σ a w)(bad:Key->Bool):e7 E w F kv fp (rm bad σ) a:=by
 refine⟨fun s x hs=> ?_,fun k e he=> ?_⟩
 ·obtain⟨h1,h2,_⟩:=LU.1 hs
  exact(h.bp s x h1).lV (fun y hy=>(J_ h2 hy).1)
 ·obtain⟨h1,h2,h3⟩:=F7 he
  have h0:=h.cV k e h1
  cases e with
  |arr x deep=>exact h0
  |part x dead=>exact h0
  |box cs=>
   obtain⟨b,cur,e',g1,g2,g3,g4⟩:=h0
   exact⟨b,cur,e',g1,g2,g3,g4.lV (fun y hy=>(J_ (h3 cs rfl) (x:=.v ⟨true,cs⟩) hy).1)⟩
theorem Pp:∀{l:List (Key×Key)}{k:Key},(∃b,(k,b)∈l/\uc l k=b)\/((∀b,(k,b)∉l)/\uc l k=k)
 |[],k=> .inr ⟨fun b hb=>(FE hb).elim,rfl⟩
 |(a,b)::r,k=>by
  simp only[uc]
  cases h:iw a k
  ·simp only[cond_false]
   rcases Pp (l:=r) (k:=k) with⟨c,h1,h2⟩|⟨h1,h2⟩
   ·exact .inl ⟨c,bi _ h1,h2⟩
   ·refine .inr ⟨fun c hc=> ?_,h2⟩
    rcases jw.1 hc with hc|hc
    ·cases hc;rw[wR] at h;cases h
    ·exact h1 c hc
  ·have:=nK.1 h
   subst this
   exact .inl ⟨b,dw,rfl⟩
theorem aar(h:∃kv fp,cG E pm F kv fp σ a w)(l0:List (Key×Key)):∃kv fp,cG E pm F kv fp (pD l0 σ) a w:=by
 unfold pD
 simp only
 rw[gT]
 split
 ·exact h
 ·rename_i lU
  generalize hl:(l0.filter fun(a,b)=> !(iw a b)&& !(Nat.ble 2000000 a.1&&Nat.blt a.2 1024))=l at lU⊢
  simp only[B3,not_or,uK,Bool.not_eq_false'] at lU
  obtain⟨⟨⟨h1,h2⟩,h3⟩,h4⟩:=lU
  obtain⟨kv,fp,hs⟩:=h
  have htn:(l.map (·.2)).Nodup:=rW.1 h3
  have han:(l.map (·.1)).Nodup:=rW.1 h2
  obtain⟨t1,t2⟩:=aj' (fun k=>(l.map (·.2)).any (iw k)) σ
  refine aj4 (DB hs _) (LS hs _) t1 t2 (S:=fun k=>k∉l.map (·.2)) (fun k hk=> ?_) (fun k hk=> ?_) (fun k k' hk cM he=> ?_) (fun k p1 p2 k0 he=> ?_)
  ·have:=(aaH hk).1
   exact fun hm=>by rw[qe.2 hm] at this;cases this
  ·obtain⟨e,he⟩:=lJ.1 hk
   have:=(F7 he).2.1
   exact fun hm=>by rw[qe.2 hm] at this;cases this
  ·rcases Pp (l:=l) (k:=k) with⟨b,g1,g2⟩|⟨g1,g2⟩<;>rcases Pp (l:=l) (k:=k') with⟨b',g1',g2'⟩|⟨g1',g2'⟩
   ·rw[g2,g2'] at he
    subst he
    obtain⟨i,hi,pg⟩:=tX g1
    obtain⟨j,hj,tH⟩:=tX g1'
    have BZ:i=j:=by
     refine(List.getElem_inj (h₀:=by simpa using hi) (h₁:=by simpa using hj) htn).1 ?_
     simp[pg,tH]
    subst BZ
    rw[pg] at tH
    exact(Prod.mk.inj tH).1
   ·rw[g2,g2'] at he
    subst he
    exact absurd (lH.2 ⟨_,g1,rfl⟩) cM
   ·rw[g2,g2'] at he
    subst he
    exact absurd (lH.2 ⟨_,g1',rfl⟩) hk
   ·rw[g2,g2'] at he
    exact he
  ·rcases Pp (l:=l) (k:=k0) with⟨b,g1,g2⟩|⟨g1,g2⟩
   ·exfalso
    have:=As.1 h4 _ g1
    simp only[OL] at this
    rw[g2] at he
    subst he
    omega
   ·rw[g2] at he;exact he
theorem aat(h:∃kv fp,cG E pm F kv fp σ a w)(d:Nat):∃kv fp,cG E pm F kv fp (p_ d σ) a w:=by
 unfold p_
 split
 ·exact aar h _
 ·exact h
theorem ajS(h:∃kv fp,cG E pm F kv fp σ a w)(k:Key):∃kv fp,cG E pm F kv fp (uX k σ) a w:=by
 unfold uX
 split
 ·exact aar h _
 ·exact h
theorem Pk:∀{l:List Key}{τ:af U},(∃kv fp,cG E pm F kv fp τ a w)->∃kv fp,cG E pm F kv fp (uW l τ) a w
 |[],τ,h=>h
 |k::l,τ,h=>Pk (l:=l) (ajS h k)
theorem ajQ(h:cG E pm F kv fp σ a w)(ops:List Oper):∃kv fp,cG E pm F kv fp (settle ops σ) a w:=by
 unfold settle
 simp only
 refine Pk ?_
 have h0:∃kv fp,cG E pm F kv fp (je σ) a w:=⟨kv,fp,DB h _⟩
 generalize je σ=τ at h0
 generalize assigned ops=l
 induction l generalizing τ with
 |nil=>exact h0
 |cons d l ih=>exact ih _ (aat h0 d)
theorem LW{β:Type}(f:β->β):∀(l:List (Nat×Option β))(s:Nat),look (l.map fun(t,v)=>(t,v.map f)) s=(look l s).map f
 |[],s=>rfl
 |(t,v)::r,s=>by
  simp only[tI,look]
  cases h:Nat.beq t s<;>simp only[cond_true,cond_false]
  exact LW f r s
theorem Wo{β:Type}(f:β->β):∀(l:List (Key×Option β))(s:Key),eo (l.map fun(t,v)=>(t,v.map f)) s=(eo l s).map f
 |[],s=>rfl
 |(t,v)::r,s=>by
  simp only[tI,eo]
  cases h:iw t s<;>simp only[cond_true,cond_false]
  exact Wo f r s
theorem aal{bad':Key->Bool}(k:Key):n8 w w kv kv fp fp (fun _=>false) bad' k:=⟨rfl,.inr ⟨rfl,rfl,fun _ _=>rfl⟩⟩
theorem RD.fr{k0:Key}{c:U.C}{bad':Key->Bool}{x:AC U}{v:Value}(h:RD E w F kv fp (fun _=>false) x v)(hF:∀b,F b->F' b)
  (hc:Rp E w F' false c (kv k0) []):RD E w F' kv fp bad' (Eb k0 c x) v:=by
 have hm:RD E w F' kv fp bad' x v:=h.move (fun k _=>aal k) (fun b hb=>⟨hF b hb,rfl⟩)
 unfold Eb
 split
 ·rename_i k
  rw[gT]
  split
  ·rename_i hk
   have:=nK.1 hk
   subst this
   refine⟨h.1,.inr ?_⟩
   have h2:=h.2
   simp only[io,List.isEmpty_nil,Zt,rL,wE,false_or,RA,nq] at h2
   rw[h2];exact hc
  ·exact hm
 ·exact hm
theorem kX.fr{k0:Key}{c:U.C}{bad':Key->Bool}{xs:List (AC U)}{vs:List Value}(h:kX E w F kv fp (fun _=>false) xs vs)(hF:∀b,F b->F' b)
  (hc:Rp E w F' false c (kv k0) []):kX E w F' kv fp bad' (xs.map (Eb k0 c)) vs:=by
 refine⟨by simpa using h.1,fun i x v hx hv=> ?_⟩
 rw[lZ] at hx
 cases hy:xs[i]? with
 |none=>rw[hy] at hx;cases hx
 |some y=>
  rw[hy] at hx;cases hx
  exact(h.2 i y v hy hv).fr hF hc
theorem RS.fr{k0:Key}{c:U.C}{bad':Key->Bool}{x:SV U}{v:Value}(h:RS E w F kv fp (fun _=>false) x v)(hF:∀b,F b->F' b)
  (hc:Rp E w F' false c (kv k0) []):RS E w F' kv fp bad' (Ir k0 c x) v:=by
 have hm:RS E w F' kv fp bad' x v:=h.move (fun k _=>aal k) (fun b hb=>⟨hF b hb,rfl⟩)
 cases x with
 |v x=>
  obtain⟨vs,h1,h2⟩:=h
  exact⟨vs,h1.fr hF hc,h2⟩
 |tJ xs=>exact hm
 |fn p=>exact hm
 |Db g xs=>exact hm
theorem ri.fr{k0:Key}{c:U.C}{bad':Key->Bool}{x:ir U}{v:Value}{l:List Nat}(h:ri E w F kv fp (fun _=>false) x v l)(hF:∀b,F b->F' b)
  (hc:Rp E w F' false c (kv k0) []):ri E w F' kv fp bad' (GB k0 c x) v l:=by
 cases x with
 |arr a d=>exact eu.fE h (fun b hb=>⟨hF b hb,rfl⟩) (fun _ _=>rfl)
 |part a d=>exact dU.fE h (fun b hb=>⟨hF b hb,rfl⟩) (fun _ _=>rfl)
 |box cs=>
  obtain⟨b,cur,e',g1,g2,g3,g4⟩:=h
  exact⟨b,cur,e',g1,g2,g3,g4.fr hF hc⟩
theorem aa3(h:cG E pm F kv fp σ a w)(hc:e7 E w F kv fp σ a)(k0:Key):∃F,cG E pm F kv fp (kU k0 σ) a w/\e7 E w F kv fp (kU k0 σ) a:=by
 unfold kU
 split
 rotate_left
 ·exact⟨F,h,hc⟩
 rename_i ar d he
 have hs:Rp E w (fun b=>F b\/b∈fp k0) false (.sl ar.τ ar.xs) (kv k0) []:=eu.kD (hc.cV k0 _ he) (fun b hb=> .inl hb) (fun b hb=> .inr hb)
 have hF:∀b,F b->(fun b=>F b\/b∈fp k0) b:=fun b hb=> .inl hb
 have qo:∀k e,eo ((k0,none)::σ.mW.map fun(k,e)=>(k,e.map (GB k0 (.sl ar.τ ar.xs)))) k=some e->k≠k0/\∃e0,σ.bH k=some e0/\e=GB k0 (.sl ar.τ ar.xs) e0:=by
  intro k e hk
  simp only[eo] at hk
  cases hq:iw k0 k<;>simp only[hq,cond_true,cond_false] at hk
  ·rw[Wo] at hk
   cases hl:eo σ.mW k with
   |none=>rw[hl] at hk;cases hk
   |some e0=>rw[hl] at hk;cases hk;exact⟨fun e=>(HY.1 hq) e.symm,e0,hl,rfl⟩
  ·cases hk
 have qm:∀s x,look (σ.bp.map fun(s,v)=>(s,v.map (Ir k0 (.sl ar.τ ar.xs)))) s=some x->∃x0,σ.get s=some x0/\x=Ir k0 (.sl ar.τ ar.xs) x0:=by
  intro s x hx
  rw[LW] at hx
  cases hl:look σ.bp s with
  |none=>rw[hl] at hx;cases hx
  |some x0=>rw[hl] at hx;cases hx;exact⟨x0,hl,rfl⟩
 refine⟨fun b=>F b\/b∈fp k0,⟨h.size,h.defers,fun s x hx=> ?_,fun k e hk=> ?_,fun k k' e e' b et h1 h2=> ?_,fun k e hk=> ?_,fun k e b hk hb=> ?_,fun b hb=> ?_,fun b hb=> ?_,h.upto,h.Ji,h.lay.fE (fun b hb=>⟨.inl hb,rfl⟩)⟩,⟨fun s x hx=> ?_,fun k e hk=> ?_⟩⟩
 ·obtain⟨x0,hx0,rfl⟩:=qm s x hx
  exact(hc.bp s x0 hx0).fr hF hs
 ·obtain⟨et,e0,ni,rfl⟩:=qo k e hk
  exact(hc.cV k e0 ni).fr hF hs
 ·obtain⟨_,e0,ni,_⟩:=qo k e h1
  obtain⟨_,e0',XW,_⟩:=qo k' e' h2
  exact h.apart k k' e0 e0' b et ni XW
 ·obtain⟨_,e0,ni,_⟩:=qo k e hk
  exact h.nodup k e0 ni
 ·obtain⟨et,e0,ni,_⟩:=qo k e hk
  obtain⟨m1,m2,m3⟩:=h.ff k e0 b ni hb
  exact⟨fun hh=>hh.elim m1 (fun hh=>h.apart k k0 e0 _ b et ni he hb hh),m2,m3⟩
 ·exact hb.elim (h.rI b) (fun hb=>(h.ff k0 _ b he hb).2.2)
 ·exact hb.elim (h.rH b) (fun hb=> .inr (h.ff k0 _ b he hb).2.1)
 ·obtain⟨x0,hx0,rfl⟩:=qm s x hx
  exact(hc.bp s x0 hx0).fr hF hs
 ·obtain⟨et,e0,ni,rfl⟩:=qo k e hk
  exact(hc.cV k e0 ni).fr hF hs
theorem PC:∀{l:List Nat}{σ:af U},(∃F kv fp,cG E pm F kv fp σ a w/\e7 E w F kv fp σ a)->∃F kv fp,cG E pm F kv fp (oN l σ) a w/\e7 E w F kv fp (oN l σ) a
 |[],σ,h=>h
 |s::l,σ,h=>by
  refine PC (l:=l) (σ:=qv s σ) ?_
  obtain⟨F,kv,fp,h1,h2⟩:=h
  unfold qv
  split
  ·obtain⟨F',h3⟩:=aa3 h1 h2 _
   exact⟨F',kv,fp,h3⟩
  ·exact⟨F,kv,fp,h1,h2⟩
theorem aa6{k0:Key}{c:U.C}{x:AC U}{k:Key}(h:k∈(Eb k0 c x).keys):k∈x.keys:=by
 unfold Eb at h
 split at h
 ·rename_i q
  rw[gT] at h
  split at h
  ·simp[AC.keys] at h
  ·exact h
 ·exact h
theorem ak3{k0:Key}{c:U.C}{x:SV U}{k:Key}(h:k∈(Ir k0 c x).keys):k∈x.keys:=by
 cases x with
 |v x=>
  obtain⟨y,hy,hk⟩:=SV.mem_keys.1 h
  simp only[Ir,SV.yL,lH] at hy
  obtain⟨z,hz,rfl⟩:=hy
  exact SV.mem_keys.2 ⟨z,hz,aa6 hk⟩
 |tJ xs=>exact h
 |fn p=>exact h
 |Db g xs=>exact h
theorem aa4{k0 k:Key}(h:Names (kU k0 σ) k):Names σ k:=by
 unfold kU at h
 split at h
 rotate_left
 ·exact h
 rcases h with⟨s,x,hs,hk⟩|⟨k',cs,he,x,hx,hk⟩
 ·have hs:look (σ.bp.map _) s=some x:=hs
  rw[LW] at hs
  cases hl:look σ.bp s with
  |none=>rw[hl] at hs;cases hs
  |some y=>rw[hl] at hs;cases hs;exact .inl ⟨s,y,hl,ak3 hk⟩
 ·have he:eo ((k0,none)::σ.mW.map _) k'=some (ir.box cs):=he
  simp only[eo] at he
  cases hq:iw k0 k'<;>simp only[hq,cond_true,cond_false] at he
  ·rw[Wo] at he
   cases hl:eo σ.mW k' with
   |none=>rw[hl] at he;cases he
   |some e=>
    rw[hl] at he
    cases e with
    |arr a d=>cases he
    |part a d=>cases he
    |box cs0=>
     simp only[B5,GB,fJ,ir.box.injEq] at he
     subst he
     obtain⟨z,hz,rfl⟩:=lH.1 hx
     exact .inr ⟨k',cs0,hl,z,hz,aa6 hk⟩
  ·cases he
theorem aa1{k:Key}:∀{l:List Nat}{σ:af U},Names (oN l σ) k->Names σ k
 |[],σ,h=>h
 |s::l,σ,h=>by
  have h2:Names (qv s σ) k:=aa1 (l:=l) h
  unfold qv at h2
  split at h2
  ·exact aa4 h2
  ·exact h2
theorem PE:∀{l:List Key}{σ:af U},(∃F kv fp,cG E pm F kv fp σ a w/\e7 E w F kv fp σ a)->∃F kv fp,cG E pm F kv fp (pR l σ) a w/\e7 E w F kv fp (pR l σ) a
 |[],σ,h=>h
 |s::l,σ,h=>by
  refine PE (l:=l) (σ:=kU s σ) ?_
  obtain⟨F,kv,fp,h1,h2⟩:=h
  obtain⟨F',h3⟩:=aa3 h1 h2 s
  exact⟨F',kv,fp,h3⟩
theorem aa2{k:Key}:∀{l:List Key}{σ:af U},Names (pR l σ) k->Names σ k
 |[],σ,h=>h
 |s::l,σ,h=>aa4 (aa2 (l:=l) (σ:=kU s σ) h)
theorem alm(h:cG E pm F kv fp σ a w)(E':Env U)(ops:List Oper):∃F kv fp,cG E pm F kv fp (Bt E' ops σ) a w:=by
 obtain⟨F',kv',fp',h1,_⟩:=PE (l:=Jy ops (oN (Jj E' ops) (enter ops σ))) (PC (l:=Jj E' ops) (σ:=enter ops σ) ⟨F,kv,fp,alj h ops,LS h _⟩)
 exact⟨F',kv',fp',h1⟩
theorem aba{E':Env U}{ops:List Oper}{k:Key}(h:Names (Bt E' ops σ) k)(hd:k.1∈yn ops\/k.1=1000000):1024<=k.2:=alk (aa1 (aa2 h)) hd
theorem ajO(h:cG E pm F kv fp σ a w)(k0:Key):∃F' fp',cG E pm F' kv fp' (AF k0 σ) a w:=by
 unfold AF
 split
 rotate_left
 ·exact⟨F,fp,h⟩
 rename_i ar he
 have qo:∀k e,eo ((k0,some (ir.arr ar false))::σ.mW) k=some e->(k=k0/\e=ir.arr ar false)\/(k≠k0/\σ.bH k=some e):=by
  intro k e hk
  simp only[eo] at hk
  cases hq:iw k0 k<;>simp only[hq,cond_true,cond_false] at hk
  ·exact .inr ⟨fun e=>(HY.1 hq) e.symm,hk⟩
  ·cases hk;exact .inl ⟨(nK.1 hq).symm,rfl⟩
 have Sf:∀k,∃k' e',σ.bH k=some e'\/k'=k:=fun k=>⟨k,.arr ar true,.inr rfl⟩
 obtain⟨F',fp',hF,hF2,Gx,oh,oi,mM⟩:∃(F':Nat->Prop)(fp':Key->List Nat),(∀b,F b->F' b)/\(∀b,F' b->F b\/b∈fp k0)/\(∀k,k≠k0->fp' k=fp k)/\(∀b∈fp' k0,b∈fp k0/\¬F' b)/\(fp' k0).Nodup/\eu E w F' false ar (kv k0) (fp' k0):=by
  have ho:eu E w F true ar (kv k0) (fp k0):=h.cV k0 _ he
  have hn:=h.nodup k0 _ he
  rcases ho with⟨h1,h2,h3⟩|⟨b,cap,cur,vs,gA,h1,h2,h3,h4,h5,h6,h7,h8⟩
  ·exact⟨F,fp,fun _ hb=>hb,fun b hb=> .inl hb,fun _ _=>rfl,fun b hb=>(by rw[h3] at hb;cases hb),hn,.inl ⟨h1,h2,h3⟩⟩
  ·rw[h8,rv] at hn
   refine⟨fun c=>F c\/(c∈fp k0/\c≠b),fun k=>if iw k k0=true then[b] else fp k,fun _ hb=> .inl hb,fun c hc=>hc.imp id fun g=>g.1,fun k hk=> ?_,fun c hc=> ?_,?_,?_⟩
   ·dsimp only;rw[if_neg (by rw[nK];exact hk)]
   ·dsimp only at hc;rw[if_pos (wR _),oa] at hc
    subst hc
    have hm:c∈fp k0:=by rw[h8];exact dw
    exact⟨hm,fun g=>g.elim (h.ff k0 _ c he hm).1 fun g=>g.2 rfl⟩
   ·dsimp only;rw[if_pos (wR _)];simp
   ·dsimp only;rw[if_pos (wR _)]
    refine .inr ⟨b,cap,cur,vs,fun _=>[],h1,h2,h3,h4,h5,h6,fun i x j c hx hj=> ?_,by simp⟩
    have fX:i*U.wd ar.τ+j<ar.xs.length*U.wd ar.τ:=fe hx hj
    refine(h7 i x j c hx hj).kD (fun b hb=> .inl hb) fun b' aY=> .inr ?_
    have Bb:b'∈(List.range (ar.xs.length*U.wd ar.τ)).flatMap gA:=nl.2 ⟨_,oc.2 fX,aY⟩
    exact⟨by rw[h8];exact bi _ Bb,fun e=>hn.1 (by rw[<-e];exact Bb)⟩
 have xM:∀b,F b->F' b/\w.heap[b]? =w.heap[b]? :=fun b hb=>⟨hF b hb,rfl⟩
 have pZ:∀k,n8 w w kv kv fp fp' (bW σ) (bW ({σ with mW:=(k0,some (ir.arr ar false))::σ.mW,aC:=k0::σ.aC}:af U)) k:=by
  intro k
  refine⟨rfl,?_⟩
  by_cases hk:k=k0
  ·left
   subst hk
   simp[bW,wR]
  ·cases hb:bW σ k
   ·right;exact⟨rfl,Gx k hk,fun _ _=>rfl⟩
   ·left
    simp only[bW,B3] at hb⊢
    rcases hb with hb|hb
    ·left;rw[UO,hb,Bool.or_true]
    ·right
     show(eo ((k0,some (ir.arr ar false))::σ.mW) k).isNone=true
     have hq:iw k0 k=false:=HY.2 fun e=>hk e.symm
     simp only[eo,hq,cond_false]
     exact hb
 have vo:∀k e b,σ.bH k=some e->k≠k0->b∈fp k->¬F' b:=fun k e b hke hk hb aY=>by
  rcases hF2 b aY with g|g
  ·exact(h.ff k e b hke hb).1 g
  ·exact h.apart k k0 e _ b hk hke he hb g
 refine⟨F',fp',⟨h.size,h.defers,fun s x hx=>(h.bp s x hx).move (fun k _=>pZ k) xM,fun k e hk=> ?_,fun k k' e e' b et h1 h2 hb=> ?_,fun k e hk=> ?_,fun k e b hk hb=> ?_,fun b hb=> ?_,fun b hb=> ?_,h.upto,h.Ji,h.lay.fE xM⟩⟩
 ·rcases qo k e hk with⟨rfl,rfl⟩|⟨et,hke⟩
  ·exact mM
  ·rw[Gx k et]
   have h1:=h.cV k e hke
   cases e with
   |arr a d=>exact eu.fE h1 xM (fun _ _=>rfl)
   |part a d=>exact dU.fE h1 xM (fun _ _=>rfl)
   |box cs=>
    obtain⟨b,cur,e',g1,g2,g3,g4⟩:=h1
    exact⟨b,cur,e',g1,g2,g3,g4.move (fun _ _ k _=>pZ k) xM⟩
 ·rcases qo k e h1 with⟨rfl,_⟩|⟨n1,g1⟩
  ·rcases qo k' e' h2 with⟨rfl,_⟩|⟨n2,g2⟩
   ·exact absurd rfl et
   ·rw[Gx k' n2]
    exact h.apart _ k' _ _ b et he g2 (oh b hb).1
  ·rw[Gx k n1] at hb
   rcases qo k' e' h2 with⟨rfl,_⟩|⟨n2,g2⟩
   ·exact fun aY=>h.apart k _ _ _ b et g1 he hb (oh b aY).1
   ·rw[Gx k' n2]
    exact h.apart k k' _ _ b et g1 g2 hb
 ·rcases qo k e hk with⟨rfl,_⟩|⟨n1,g1⟩
  ·exact oi
  ·rw[Gx k n1];exact h.nodup k e g1
 ·rcases qo k e hk with⟨rfl,_⟩|⟨n1,g1⟩
  ·obtain⟨g1,g2⟩:=oh b hb
   exact⟨g2,(h.ff _ _ b he g1).2⟩
  ·rw[Gx k n1] at hb
   exact⟨vo k e b g1 n1 hb,(h.ff k e b g1 hb).2⟩
 ·rcases hF2 b hb with g|g
  ·exact h.rI b g
  ·exact(h.ff k0 _ b he g).2.2
 ·rcases hF2 b hb with g|g
  ·exact h.rH b g
  ·exact .inr (h.ff k0 _ b he g).2.1
theorem aap:∀{l:List Key}{σ:af U}{F:Nat->Prop}{fp:Key->List Nat},cG E pm F kv fp σ a w->∃F' fp',cG E pm F' kv fp' (l.foldl (fun σ k=>AF k σ) σ) a w
 |[],_,F,fp,h=>⟨F,fp,h⟩
 |k::l,σ,F,fp,h=>by
  obtain⟨F1,Zq,h1⟩:=ajO h k
  exact aap (l:=l) h1
theorem aan{l:List Key}(h:cG E pm F kv fp σ a w)(hc:e7 E w F kv fp σ a):∃F' fp',cG E pm F' kv fp' (Ja l σ) a w/\e7 E w F' kv fp' (Ja l σ) a:=by
 cases l with
 |nil=>exact⟨F,fp,h,hc⟩
 |cons k l=>
  obtain⟨F1,Zq,h1⟩:=aap (l:=k::l) h
  exact⟨F1,Zq,DB h1 _,LS h1 _⟩
end AM
