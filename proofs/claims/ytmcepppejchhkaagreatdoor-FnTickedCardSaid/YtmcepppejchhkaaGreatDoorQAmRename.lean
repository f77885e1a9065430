import Derived.Test.YtmcepppejchhkaaGreatDoorQAmSettle
namespace AM
set_option linter.unusedVariables false
open Go
variable{U:lQ}{E:Env U}{pm:Pm}
variable{F F':Nat->Prop}{kv kv':Key->Value}{fp fp':Key->List Nat}{σ τ:ak U}{a:Act}{w w':World}
structure fD(E:Env U)(w:World)(F:Nat->Prop)(kv:Key->Value)(fp:Key->List Nat)(σ:ak U)(a:Act):Prop where
 bG:∀s x,σ.get s=some x->RS E w F kv fp (fun _=>false) x (a.tmps.getD s undef)
 dD:∀k e,σ.bP k=some e->ug E w F kv fp (fun _=>false) e (kv k) (fp k)
theorem H6{bad:Key->Bool}{x:AC U}(h:∀k∈x.keys,bad k=false):iT bad x=false:=by
 cases x with
 |ref k p=>simp[iT,h k (by simp[AC.keys])]
 |l7 k p i wd off=>simp[iT,h k (by simp[AC.keys])]
 |_=>rfl
theorem RA.u_{f:Key->Key}{x:AC U}{v:Value}(hk:∀k∈x.keys,kv' (f k)=kv k/\fp' (f k)=fp k)(h:RA E w F kv fp x v):RA E w F kv' fp' (x.u_ f) v:=by
 cases x with
 |c x=>exact h
 |e0=>exact h
 |kn b τ xs=>exact h
 |ia cs=>exact h
 |ref k p=>
  obtain⟨h1,h2⟩:=hk k (by simp[AC.keys])
  simp only[AC.u_,RA] at h⊢
  rw[h1,h2];exact h
 |sub k wd lo hi=>
  obtain⟨h1,h2⟩:=hk k (by simp[AC.keys])
  simp only[AC.u_,RA] at h⊢
  rw[h1];exact h
 |l7 k p i wd off=>
  obtain⟨h1,h2⟩:=hk k (by simp[AC.keys])
  simp only[AC.u_,RA] at h⊢
  rw[h1,h2];exact h
 |kQ k off=>
  obtain⟨h1,h2⟩:=hk k (by simp[AC.keys])
  simp only[AC.u_,RA] at h⊢
  rw[h1];exact h
theorem mw.u_{f:Key->Key}{bad bad':Key->Bool}{xs:List (AC U)}{vs:List Value}(hb:∀y∈xs,∀k∈y.keys,bad k=false)(hk:∀y∈xs,∀k∈y.keys,kv' (f k)=kv k/\fp' (f k)=fp k)
  (h:mw E w F kv fp bad xs vs):mw E w F kv' fp' bad' (xs.map (AC.u_ f)) vs:=by
 refine⟨by simpa using h.1,fun i x v hx hv=> ?_⟩
 rw[nS] at hx
 cases hy:xs[i]? with
 |none=>rw[hy] at hx;cases hx
 |some y=>
  rw[hy] at hx;cases hx
  have hm:=GK hy
  have:=h.2 i y v hy hv
  exact⟨this.1,.inr ((cx this (H6 (hb y hm))).u_ (hk y hm))⟩
theorem RS.u_{f:Key->Key}{bad bad':Key->Bool}{x:SV U}{v:Value}(hb:∀k∈x.keys,bad k=false)(hk:∀k∈x.keys,kv' (f k)=kv k/\fp' (f k)=fp k)
  (h:RS E w F kv fp bad x v):RS E w F kv' fp' bad' (x.u_ f) v:=by
 cases x with
 |v x=>
  obtain⟨vs,h1,h2⟩:=h
  exact⟨vs,h1.u_ (fun y hy k hky=>hb k (SV.mem_keys.2 ⟨y,hy,hky⟩)) (fun y hy k hky=>hk k (SV.mem_keys.2 ⟨y,hy,hky⟩)),h2⟩
 |wR xs=>
  obtain⟨vs,h1,h2,h3⟩:=h
  refine⟨vs,h1,by simpa using h2,fun i x u hx hu=> ?_⟩
  rw[nS] at hx
  cases hy:xs[i]? with
  |none=>rw[hy] at hx;cases hx
  |some y=>
   rw[hy] at hx;cases hx
   have hm:=GK hy
   obtain⟨us,g1,g2⟩:=h3 i y u hy hu
   exact⟨us,g1.u_ (fun z hz k hkz=>hb k (SV.mem_keys.2 ⟨z,o8.2 ⟨y,hm,hz⟩,hkz⟩)) (fun z hz k hkz=>hk k (SV.mem_keys.2 ⟨z,o8.2 ⟨y,hm,hz⟩,hkz⟩)),g2⟩
 |fn p=>exact h
 |Hy g xs=>
  obtain⟨vs,h1,h2,h3⟩:=h
  refine⟨vs,h1,by simpa using h2,fun i x u hx hu=> ?_⟩
  rw[nS] at hx
  cases hy:xs[i]? with
  |none=>rw[hy] at hx;cases hx
  |some y=>
   rw[hy] at hx;cases hx
   have hm:=GK hy
   obtain⟨us,g1,g2⟩:=h3 i y u hy hu
   exact⟨us,g1.u_ (fun z hz k hkz=>hb k (SV.mem_keys.2 ⟨z,o8.2 ⟨y,hm,hz⟩,hkz⟩)) (fun z hz k hkz=>hk k (SV.mem_keys.2 ⟨z,o8.2 ⟨y,hm,hz⟩,hkz⟩)),g2⟩
theorem Vf{β γ:Type}{g:β->γ}:∀{l:List (Nat×Option β)}{s:Nat},look (l.map fun p=>(p.1,p.2.map g)) s=(look l s).map g
 |[],s=>rfl
 |(t,v)::r,s=>by
  simp only[wH,look]
  cases Nat.beq t s
  ·exact Vf
  ·rfl
theorem alq(h:cR E pm F kv fp σ a w)(hc:fD E w F kv fp σ a)(hn:(σ.o9.map (·.1)).Nodup)(Xs:∀p∈σ.o9,p.2.isSome=true){l:List (Key×Key)}{S:Key->Prop}
  (hSn:∀k,Names σ k->S k) (hSl:∀k,(σ.bP k).isSome=true->S k) (abu:∀k k',S k->S k'->xj l k=xj l k'->k=k') (Gz:∀k,2000000<=k.1->k.2<1024->∀k0,xj l k0=k->k0=k):
  ∃kv' fp',cR E pm F kv' fp' (rename l σ) a w:=by
 classical
 generalize hf:xj l=f at abu Gz
 have jA:∀p∈σ.o9,(σ.bP p.1).isSome=true:=by
  rintro⟨k,v⟩ hp
  have:=Xs _ hp
  cases v with
  |none=>cases this
  |some e=>unfold ak.bP;rw[Ve hn hp];rfl
 have Sn:(rename l σ).o9=σ.o9.map fun(k,e)=>(f k,e.map (iX.u_ f)):=by rw[<-hf];rfl
 have aaZ:(rename l σ).bG=σ.bG.map fun(s,v)=>(s,v.map (SV.u_ f)):=by rw[<-hf];rfl
 have wN:((rename l σ).o9.map (·.1)).Nodup:=by
  rw[Sn,List.map_map]
  have:(σ.o9.map ((·.1)∘fun((k,e):Key×Option (iX U))=>(f k,e.map (iX.u_ f))))=(σ.o9.map (·.1)).map f:=by
   rw[List.map_map];rfl
  rw[this]
  rw[zdg,List.pairwise_map]
  rw[zdg] at hn
  refine List.Pairwise.imp_of_mem (fun{k k'} hk cY fc he=>fc ?_) hn
  obtain⟨p,hp,rfl⟩:=mz.1 hk
  obtain⟨p',kW,rfl⟩:=mz.1 cY
  exact abu _ _ (hSl _ (jA p hp)) (hSl _ (jA p' kW)) he
 have tx:∀k' e',(rename l σ).bP k'=some e'↔∃k e,σ.bP k=some e/\k'=f k/\e'=e.u_ f:=by
  intro k' e'
  constructor
  ·intro he
   have hm:=Gq he
   rw[Sn] at hm
   obtain⟨⟨k,v⟩,hp,hx⟩:=mz.1 hm
   simp only[pE] at hx
   obtain⟨h1,h2⟩:=hx
   cases v with
   |none=>cases h2
   |some e=>cases h2;exact⟨k,e,Ve hn hp,h1.symm,rfl⟩
  ·rintro⟨k,e,he,rfl,rfl⟩
   refine Ve wN ?_
   rw[Sn]
   exact mz.2 ⟨(k,some e),Gq he,rfl⟩
 have tv:∀s,(rename l σ).get s=(σ.get s).map (SV.u_ f):=by
  intro s
  show look (rename l σ).bG s=_
  rw[aaZ]
  exact Vf
 let g:Key->Key:=fun k'=>if h:∃k,S k/\f k=k' then h.choose else k'
 have hg:∀k,S k->g (f k)=k:=by
  intro k hk
  have hx:∃k1,S k1/\f k1=f k:=⟨k,hk,rfl⟩
  have:g (f k)=hx.choose:=by simp only[g];rw[dif_pos hx]
  rw[this]
  exact abu _ _ hx.choose_spec.1 hk hx.choose_spec.2
 have BB:∀k,Names σ k->(fun k'=>kv (g k')) (f k)=kv k/\(fun k'=>fp (g k')) (f k)=fp k:=by
  intro k hk
  simp only
  rw[hg k (hSn k hk)]
  exact⟨rfl,rfl⟩
 have SB:∀{k:Key}{e:iX U},σ.bP k=some e->g (f k)=k:=fun he=>hg _ (hSl _ (by rw[he];rfl))
 refine⟨fun k'=>kv (g k'),fun k'=>fp (g k'),?_⟩
 ·refine⟨h.size,h.defers,fun s x' hs=> ?_,fun k' e' he=> ?_,fun k1 k2 e1 e2 b fc h1 h2=> ?_,fun k' e' he=> ?_,fun k' e' b he=> ?_,h.uI,h.uH,h.upto,fun k v hpk=> ?_,h.lay⟩
  ·rw[tv] at hs
   cases hx:σ.get s with
   |none=>rw[hx] at hs;cases hs
   |some x=>
    rw[hx] at hs;cases hs
    exact(hc.bG s x hx).u_ (fun k hk=>rfl) (fun k hk=>BB k (.inl ⟨s,x,hx,hk⟩))
  ·obtain⟨k,e,h1,rfl,rfl⟩:=(tx k' e').1 he
   have h0:=hc.dD k e h1
   simp only[SB h1]
   cases e with
   |arr x deep=>exact h0
   |part x dead=>exact h0
   |box cs=>
    obtain⟨b,cur,e',g1,g2,g3,g4⟩:=h0
    exact⟨b,cur,e',g1,g2,g3,g4.u_ (fun y hy k' cY=>rfl) (fun y hy k' cY=>BB k' (.inr ⟨k,cs,h1,y,hy,cY⟩))⟩
  ·obtain⟨k,e,g1,rfl,rfl⟩:=(tx k1 e1).1 h1
   obtain⟨k',e',g2,rfl,rfl⟩:=(tx k2 e2).1 h2
   simp only[SB g1,SB g2]
   exact h.apart k k' e e' b (fun e=>fc (by rw[e])) g1 g2
  ·obtain⟨k,e,g1,rfl,rfl⟩:=(tx k' e').1 he
   simp only[SB g1]
   exact h.nodup k e g1
  ·obtain⟨k,e,g1,rfl,rfl⟩:=(tx k' e').1 he
   simp only[SB g1]
   exact h.fT k e b g1
  ·obtain⟨p1,p2,p3,p4⟩:=h.Oe k v hpk
   have:g k=k:=by
    by_cases hx:∃k1,S k1/\f k1=k
    ·have e:g k=hx.choose:=by simp only[g];rw[dif_pos hx]
     rw[e]
     exact Gz k p1 p2 _ hx.choose_spec.2
    ·simp only[g];rw[dif_neg hx]
   exact⟨p1,p2,p3,by simp only[this];exact p4⟩
theorem alx(bad:Key->Bool)(σ:ak U):((uk bad σ).o9.map (·.1)).Nodup/\∀p∈(uk bad σ).o9,p.2.isSome=true:=by
 refine⟨Vb Rr.1,fun p hp=> ?_⟩
 have hm:=(xR.1 hp).1
 have:∀{l:List (Key×Option (iX U))}{seen:List Key},∀p∈q_ seen l,p.2.isSome=true:=by
  intro l
  induction l with
  |nil=>intro seen p hp;simp[q_] at hp
  |cons q l ih=>
   obtain⟨k,v⟩:=q
   intro seen p hp
   simp only[q_] at hp
   cases hs:seen.any (iZ k)<;>rw[hs] at hp<;>simp only[cond_true,cond_false] at hp
   ·cases v with
    |none=>exact ih p hp
    |some x=>
     rcases kc.1 hp with rfl|hp
     ·rfl
     ·exact ih p hp
   ·exact ih p hp
 exact this p hm
theorem Rt(h:cR E pm F kv fp σ a w)(bad:Key->Bool):fD E w F kv fp (uk bad σ) a:=by
 refine⟨fun s x hs=> ?_,fun k e he=> ?_⟩
 ·obtain⟨h1,h2,_⟩:=Ru.1 hs
  exact(h.bG s x h1).nL (fun y hy=>(Pu h2 hy).1)
 ·obtain⟨h1,h2,h3⟩:=KZ he
  have h0:=h.dD k e h1
  cases e with
  |arr x deep=>exact h0
  |part x dead=>exact h0
  |box cs=>
   obtain⟨b,cur,e',g1,g2,g3,g4⟩:=h0
   exact⟨b,cur,e',g1,g2,g3,g4.nL (fun y hy=>(Pu (h3 cs rfl) (x:=.v ⟨true,cs⟩) hy).1)⟩
theorem U':∀{l:List (Key×Key)}{k:Key},(∃b,(k,b)∈l/\xj l k=b)\/((∀b,(k,b)∉l)/\xj l k=k)
 |[],k=> .inr ⟨fun b hb=>(NV hb).elim,rfl⟩
 |(a,b)::r,k=>by
  simp only[xj]
  cases h:iZ a k
  ·simp only[cond_false]
   rcases U' (l:=r) (k:=k) with⟨c,h1,h2⟩|⟨h1,h2⟩
   ·exact .inl ⟨c,fF _ h1,h2⟩
   ·refine .inr ⟨fun c hc=> ?_,h2⟩
    rcases kc.1 hc with hc|hc
    ·cases hc;rw[Am] at h;cases h
    ·exact h1 c hc
  ·have:=pX.1 h
   subst this
   exact .inl ⟨b,iH,rfl⟩
theorem ac9(h:∃kv fp,cR E pm F kv fp σ a w)(l0:List (Key×Key)):∃kv fp,cR E pm F kv fp (sd l0 σ) a w:=by
 unfold sd
 simp only
 rw[iw]
 split
 ·exact h
 ·rename_i nJ
  generalize hl:(l0.filter fun(a,b)=> !(iZ a b)&& !(Nat.ble 2000000 a.1&&Nat.blt a.2 1024))=l at nJ⊢
  simp only[Gc,not_or,wI,Bool.not_eq_false'] at nJ
  obtain⟨⟨⟨h1,h2⟩,h3⟩,h4⟩:=nJ
  obtain⟨kv,fp,hs⟩:=h
  have htn:(l.map (·.2)).Nodup:=va.1 h3
  have han:(l.map (·.1)).Nodup:=va.1 h2
  obtain⟨t1,t2⟩:=alx (fun k=>(l.map (·.2)).any (iZ k)) σ
  refine alq (H0 hs _) (Rt hs _) t1 t2 (S:=fun k=>k∉l.map (·.2)) (fun k hk=> ?_) (fun k hk=> ?_) (fun k k' hk cY he=> ?_) (fun k p1 p2 k0 he=> ?_)
  ·have:=(adp hk).1
   exact fun hm=>by rw[tf.2 hm] at this;cases this
  ·obtain⟨e,he⟩:=nA.1 hk
   have:=(KZ he).2.1
   exact fun hm=>by rw[tf.2 hm] at this;cases this
  ·rcases U' (l:=l) (k:=k) with⟨b,g1,g2⟩|⟨g1,g2⟩<;>rcases U' (l:=l) (k:=k') with⟨b',g1',g2'⟩|⟨g1',g2'⟩
   ·rw[g2,g2'] at he
    subst he
    obtain⟨i,hi,qH⟩:=sT g1
    obtain⟨j,hj,uA⟩:=sT g1'
    have Gh:i=j:=by
     refine(List.getElem_inj (h₀:=by simpa using hi) (h₁:=by simpa using hj) htn).1 ?_
     simp[qH,uA]
    subst Gh
    rw[qH] at uA
    exact(Prod.mk.inj uA).1
   ·rw[g2,g2'] at he
    subst he
    exact absurd (mz.2 ⟨_,g1,rfl⟩) cY
   ·rw[g2,g2'] at he
    subst he
    exact absurd (mz.2 ⟨_,g1',rfl⟩) hk
   ·rw[g2,g2'] at he
    exact he
  ·rcases U' (l:=l) (k:=k0) with⟨b,g1,g2⟩|⟨g1,g2⟩
   ·exfalso
    have:=sP.1 h4 _ g1
    simp only[QT] at this
    rw[g2] at he
    subst he
    omega
   ·rw[g2] at he;exact he
theorem ac_(h:∃kv fp,cR E pm F kv fp σ a w)(d:Nat):∃kv fp,cR E pm F kv fp (s7 d σ) a w:=by
 unfold s7
 split
 ·exact ac9 h _
 ·exact h
theorem ald(h:∃kv fp,cR E pm F kv fp σ a w)(k:Key):∃kv fp,cR E pm F kv fp (yf k σ) a w:=by
 unfold yf
 split
 ·exact ac9 h _
 ·exact h
theorem U6:∀{l:List Key}{τ:ak U},(∃kv fp,cR E pm F kv fp τ a w)->∃kv fp,cR E pm F kv fp (ye l τ) a w
 |[],τ,h=>h
 |k::l,τ,h=>U6 (l:=l) (ald h k)
theorem alb(h:cR E pm F kv fp σ a w)(ops:List Oper):∃kv fp,cR E pm F kv fp (settle ops σ) a w:=by
 unfold settle
 simp only
 refine U6 ?_
 have h0:∃kv fp,cR E pm F kv fp (jN σ) a w:=⟨kv,fp,H0 h _⟩
 generalize jN σ=τ at h0
 generalize assigned ops=l
 induction l generalizing τ with
 |nil=>exact h0
 |cons d l ih=>exact ih _ (ac_ h0 d)
theorem Rw{β:Type}(f:β->β):∀(l:List (Nat×Option β))(s:Nat),look (l.map fun(t,v)=>(t,v.map f)) s=(look l s).map f
 |[],s=>rfl
 |(t,v)::r,s=>by
  simp only[wH,look]
  cases h:Nat.beq t s<;>simp only[cond_true,cond_false]
  exact Rw f r s
theorem aaq{β:Type}(f:β->β):∀(l:List (Key×Option β))(s:Key),eY (l.map fun(t,v)=>(t,v.map f)) s=(eY l s).map f
 |[],s=>rfl
 |(t,v)::r,s=>by
  simp only[wH,eY]
  cases h:iZ t s<;>simp only[cond_true,cond_false]
  exact aaq f r s
theorem ac3{bad':Key->Bool}(k:Key):qv w w kv kv fp fp (fun _=>false) bad' k:=⟨rfl,.inr ⟨rfl,rfl,fun _ _=>rfl⟩⟩
theorem RD.fr{k0:Key}{c:U.C}{bad':Key->Bool}{x:AC U}{v:Value}(h:RD E w F kv fp (fun _=>false) x v)(hF:∀b,F b->F' b)
  (hc:Rp E w F' false c (kv k0) []):RD E w F' kv fp bad' (IF k0 c x) v:=by
 have hm:RD E w F' kv fp bad' x v:=h.move (fun k _=>ac3 k) (fun b hb=>⟨hF b hb,rfl⟩)
 unfold IF
 split
 ·rename_i k
  rw[iw]
  split
  ·rename_i hk
   have:=pX.1 hk
   subst this
   refine⟨h.1,.inr ?_⟩
   have h2:=h.2
   simp only[iT,List.isEmpty_nil,zfa,qx,xS,false_or,RA,pI] at h2
   rw[h2];exact hc
  ·exact hm
 ·exact hm
theorem mw.fr{k0:Key}{c:U.C}{bad':Key->Bool}{xs:List (AC U)}{vs:List Value}(h:mw E w F kv fp (fun _=>false) xs vs)(hF:∀b,F b->F' b)
  (hc:Rp E w F' false c (kv k0) []):mw E w F' kv fp bad' (xs.map (IF k0 c)) vs:=by
 refine⟨by simpa using h.1,fun i x v hx hv=> ?_⟩
 rw[nS] at hx
 cases hy:xs[i]? with
 |none=>rw[hy] at hx;cases hx
 |some y=>
  rw[hy] at hx;cases hx
  exact(h.2 i y v hy hv).fr hF hc
theorem RS.fr{k0:Key}{c:U.C}{bad':Key->Bool}{x:SV U}{v:Value}(h:RS E w F kv fp (fun _=>false) x v)(hF:∀b,F b->F' b)
  (hc:Rp E w F' false c (kv k0) []):RS E w F' kv fp bad' (Nx k0 c x) v:=by
 have hm:RS E w F' kv fp bad' x v:=h.move (fun k _=>ac3 k) (fun b hb=>⟨hF b hb,rfl⟩)
 cases x with
 |v x=>
  obtain⟨vs,h1,h2⟩:=h
  exact⟨vs,h1.fr hF hc,h2⟩
 |wR xs=>exact hm
 |fn p=>exact hm
 |Hy g xs=>exact hm
theorem ug.fr{k0:Key}{c:U.C}{bad':Key->Bool}{x:iX U}{v:Value}{l:List Nat}(h:ug E w F kv fp (fun _=>false) x v l)(hF:∀b,F b->F' b)
  (hc:Rp E w F' false c (kv k0) []):ug E w F' kv fp bad' (LD k0 c x) v l:=by
 cases x with
 |arr a d=>exact fe.gv h (fun b hb=>⟨hF b hb,rfl⟩) (fun _ _=>rfl)
 |part a d=>exact eK.gv h (fun b hb=>⟨hF b hb,rfl⟩) (fun _ _=>rfl)
 |box cs=>
  obtain⟨b,cur,e',g1,g2,g3,g4⟩:=h
  exact⟨b,cur,e',g1,g2,g3,g4.fr hF hc⟩
theorem adL(h:cR E pm F kv fp σ a w)(hc:fD E w F kv fp σ a)(k0:Key):∃F,cR E pm F kv fp (mi k0 σ) a w/\fD E w F kv fp (mi k0 σ) a:=by
 unfold mi
 split
 rotate_left
 ·exact⟨F,h,hc⟩
 rename_i ar d he
 have hs:Rp E w (fun b=>F b\/b∈fp k0) false (.sl ar.τ ar.xs) (kv k0) []:=fe.lT (hc.dD k0 _ he) (fun b hb=> .inl hb) (fun b hb=> .inr hb)
 have hF:∀b,F b->(fun b=>F b\/b∈fp k0) b:=fun b hb=> .inl hb
 have tx:∀k e,eY ((k0,none)::σ.o9.map fun(k,e)=>(k,e.map (LD k0 (.sl ar.τ ar.xs)))) k=some e->k≠k0/\∃e0,σ.bP k=some e0/\e=LD k0 (.sl ar.τ ar.xs) e0:=by
  intro k e hk
  simp only[eY] at hk
  cases hq:iZ k0 k<;>simp only[hq,cond_true,cond_false] at hk
  ·rw[aaq] at hk
   cases hl:eY σ.o9 k with
   |none=>rw[hl] at hk;cases hk
   |some e0=>rw[hl] at hk;cases hk;exact⟨fun e=>(M5.1 hq) e.symm,e0,hl,rfl⟩
  ·cases hk
 have tv:∀s x,look (σ.bG.map fun(s,v)=>(s,v.map (Nx k0 (.sl ar.τ ar.xs)))) s=some x->∃x0,σ.get s=some x0/\x=Nx k0 (.sl ar.τ ar.xs) x0:=by
  intro s x hx
  rw[Rw] at hx
  cases hl:look σ.bG s with
  |none=>rw[hl] at hx;cases hx
  |some x0=>rw[hl] at hx;cases hx;exact⟨x0,hl,rfl⟩
 refine⟨fun b=>F b\/b∈fp k0,⟨h.size,h.defers,fun s x hx=> ?_,fun k e hk=> ?_,fun k k' e e' b fc h1 h2=> ?_,fun k e hk=> ?_,fun k e b hk hb=> ?_,fun b hb=> ?_,fun b hb=> ?_,h.upto,h.Oe,h.lay.gv (fun b hb=>⟨.inl hb,rfl⟩)⟩,⟨fun s x hx=> ?_,fun k e hk=> ?_⟩⟩
 ·obtain⟨x0,hx0,rfl⟩:=tv s x hx
  exact(hc.bG s x0 hx0).fr hF hs
 ·obtain⟨fc,e0,nX,rfl⟩:=tx k e hk
  exact(hc.dD k e0 nX).fr hF hs
 ·obtain⟨_,e0,nX,_⟩:=tx k e h1
  obtain⟨_,e0',abB,_⟩:=tx k' e' h2
  exact h.apart k k' e0 e0' b fc nX abB
 ·obtain⟨_,e0,nX,_⟩:=tx k e hk
  exact h.nodup k e0 nX
 ·obtain⟨fc,e0,nX,_⟩:=tx k e hk
  obtain⟨m1,m2,m3⟩:=h.fT k e0 b nX hb
  exact⟨fun hh=>hh.elim m1 (fun hh=>h.apart k k0 e0 _ b fc nX he hb hh),m2,m3⟩
 ·exact hb.elim (h.uI b) (fun hb=>(h.fT k0 _ b he hb).2.2)
 ·exact hb.elim (h.uH b) (fun hb=> .inr (h.fT k0 _ b he hb).2.1)
 ·obtain⟨x0,hx0,rfl⟩:=tv s x hx
  exact(hc.bG s x0 hx0).fr hF hs
 ·obtain⟨fc,e0,nX,rfl⟩:=tx k e hk
  exact(hc.dD k e0 nX).fr hF hs
theorem Vl:∀{l:List Nat}{σ:ak U},(∃F kv fp,cR E pm F kv fp σ a w/\fD E w F kv fp σ a)->∃F kv fp,cR E pm F kv fp (ri l σ) a w/\fD E w F kv fp (ri l σ) a
 |[],σ,h=>h
 |s::l,σ,h=>by
  refine Vl (l:=l) (σ:=tF s σ) ?_
  obtain⟨F,kv,fp,h1,h2⟩:=h
  unfold tF
  split
  ·obtain⟨F',h3⟩:=adL h1 h2 _
   exact⟨F',kv,fp,h3⟩
  ·exact⟨F,kv,fp,h1,h2⟩
theorem adO{k0:Key}{c:U.C}{x:AC U}{k:Key}(h:k∈(IF k0 c x).keys):k∈x.keys:=by
 unfold IF at h
 split at h
 ·rename_i q
  rw[iw] at h
  split at h
  ·simp[AC.keys] at h
  ·exact h
 ·exact h
theorem amq{k0:Key}{c:U.C}{x:SV U}{k:Key}(h:k∈(Nx k0 c x).keys):k∈x.keys:=by
 cases x with
 |v x=>
  obtain⟨y,hy,hk⟩:=SV.mem_keys.1 h
  simp only[Nx,SV.Cu,mz] at hy
  obtain⟨z,hz,rfl⟩:=hy
  exact SV.mem_keys.2 ⟨z,hz,adO hk⟩
 |wR xs=>exact h
 |fn p=>exact h
 |Hy g xs=>exact h
theorem adM{k0 k:Key}(h:Names (mi k0 σ) k):Names σ k:=by
 unfold mi at h
 split at h
 rotate_left
 ·exact h
 rcases h with⟨s,x,hs,hk⟩|⟨k',cs,he,x,hx,hk⟩
 ·have hs:look (σ.bG.map _) s=some x:=hs
  rw[Rw] at hs
  cases hl:look σ.bG s with
  |none=>rw[hl] at hs;cases hs
  |some y=>rw[hl] at hs;cases hs;exact .inl ⟨s,y,hl,amq hk⟩
 ·have he:eY ((k0,none)::σ.o9.map _) k'=some (iX.box cs):=he
  simp only[eY] at he
  cases hq:iZ k0 k'<;>simp only[hq,cond_true,cond_false] at he
  ·rw[aaq] at he
   cases hl:eY σ.o9 k' with
   |none=>rw[hl] at he;cases he
   |some e=>
    rw[hl] at he
    cases e with
    |arr a d=>cases he
    |part a d=>cases he
    |box cs0=>
     simp only[Gj,LD,gI,iX.box.injEq] at he
     subst he
     obtain⟨z,hz,rfl⟩:=mz.1 hx
     exact .inr ⟨k',cs0,hl,z,hz,adO hk⟩
  ·cases he
theorem adJ{k:Key}:∀{l:List Nat}{σ:ak U},Names (ri l σ) k->Names σ k
 |[],σ,h=>h
 |s::l,σ,h=>by
  have h2:Names (tF s σ) k:=adJ (l:=l) h
  unfold tF at h2
  split at h2
  ·exact adM h2
  ·exact h2
theorem Vn:∀{l:List Key}{σ:ak U},(∃F kv fp,cR E pm F kv fp σ a w/\fD E w F kv fp σ a)->∃F kv fp,cR E pm F kv fp (su l σ) a w/\fD E w F kv fp (su l σ) a
 |[],σ,h=>h
 |s::l,σ,h=>by
  refine Vn (l:=l) (σ:=mi s σ) ?_
  obtain⟨F,kv,fp,h1,h2⟩:=h
  obtain⟨F',h3⟩:=adL h1 h2 s
  exact⟨F',kv,fp,h3⟩
theorem adK{k:Key}:∀{l:List Key}{σ:ak U},Names (su l σ) k->Names σ k
 |[],σ,h=>h
 |s::l,σ,h=>adM (adK (l:=l) (σ:=mi s σ) h)
theorem amK(h:cR E pm F kv fp σ a w)(E':Env U)(ops:List Oper):∃F kv fp,cR E pm F kv fp (Fq E' ops σ) a w:=by
 obtain⟨F',kv',fp',h1,_⟩:=Vn (l:=OC ops (ri (Og E' ops) (enter ops σ))) (Vl (l:=Og E' ops) (σ:=enter ops σ) ⟨F,kv,fp,amI h ops,Rt h _⟩)
 exact⟨F',kv',fp',h1⟩
theorem adU{E':Env U}{ops:List Oper}{k:Key}(h:Names (Fq E' ops σ) k)(hd:k.1∈B3 ops\/k.1=1000000):1024<=k.2:=amJ (adJ (adK h)) hd
theorem ak_(h:cR E pm F kv fp σ a w)(k0:Key):∃F' fp',cR E pm F' kv fp' (Et k0 σ) a w:=by
 unfold Et
 split
 rotate_left
 ·exact⟨F,fp,h⟩
 rename_i ar he
 have tx:∀k e,eY ((k0,some (iX.arr ar false))::σ.o9) k=some e->(k=k0/\e=iX.arr ar false)\/(k≠k0/\σ.bP k=some e):=by
  intro k e hk
  simp only[eY] at hk
  cases hq:iZ k0 k<;>simp only[hq,cond_true,cond_false] at hk
  ·exact .inr ⟨fun e=>(M5.1 hq) e.symm,hk⟩
  ·cases hk;exact .inl ⟨(pX.1 hq).symm,rfl⟩
 have Xs:∀k,∃k' e',σ.bP k=some e'\/k'=k:=fun k=>⟨k,.arr ar true,.inr rfl⟩
 obtain⟨F',fp',hF,hF2,Ly,qD,qE,oB⟩:∃(F':Nat->Prop)(fp':Key->List Nat),(∀b,F b->F' b)/\(∀b,F' b->F b\/b∈fp k0)/\(∀k,k≠k0->fp' k=fp k)/\(∀b∈fp' k0,b∈fp k0/\¬F' b)/\(fp' k0).Nodup/\fe E w F' false ar (kv k0) (fp' k0):=by
  have ho:fe E w F true ar (kv k0) (fp k0):=h.dD k0 _ he
  have hn:=h.nodup k0 _ he
  rcases ho with⟨h1,h2,h3⟩|⟨b,cap,cur,vs,ie,h1,h2,h3,h4,h5,h6,h7,h8⟩
  ·exact⟨F,fp,fun _ hb=>hb,fun b hb=> .inl hb,fun _ _=>rfl,fun b hb=>(by rw[h3] at hb;cases hb),hn,.inl ⟨h1,h2,h3⟩⟩
  ·rw[h8,ur] at hn
   refine⟨fun c=>F c\/(c∈fp k0/\c≠b),fun k=>if iZ k k0=true then[b] else fp k,fun _ hb=> .inl hb,fun c hc=>hc.imp id fun g=>g.1,fun k hk=> ?_,fun c hc=> ?_,?_,?_⟩
   ·dsimp only;rw[if_neg (by rw[pX];exact hk)]
   ·dsimp only at hc;rw[if_pos (Am _),mW] at hc
    subst hc
    have hm:c∈fp k0:=by rw[h8];exact iH
    exact⟨hm,fun g=>g.elim (h.fT k0 _ c he hm).1 fun g=>g.2 rfl⟩
   ·dsimp only;rw[if_pos (Am _)];simp
   ·dsimp only;rw[if_pos (Am _)]
    refine .inr ⟨b,cap,cur,vs,fun _=>[],h1,h2,h3,h4,h5,h6,fun i x j c hx hj=> ?_,by simp⟩
    have gy:i*U.wd ar.τ+j<ar.xs.length*U.wd ar.τ:=fS hx hj
    refine(h7 i x j c hx hj).lT (fun b hb=> .inl hb) fun b' bj=> .inr ?_
    have E7:b'∈(List.range (ar.xs.length*U.wd ar.τ)).flatMap ie:=o8.2 ⟨_,pR.2 gy,bj⟩
    exact⟨by rw[h8];exact fF _ E7,fun e=>hn.1 (by rw[<-e];exact E7)⟩
 have BC:∀b,F b->F' b/\w.heap[b]? =w.heap[b]? :=fun b hb=>⟨hF b hb,rfl⟩
 have rh:∀k,qv w w kv kv fp fp' (bY σ) (bY ({σ with o9:=(k0,some (iX.arr ar false))::σ.o9,aS:=k0::σ.aS}:ak U)) k:=by
  intro k
  refine⟨rfl,?_⟩
  by_cases hk:k=k0
  ·left
   subst hk
   simp[bY,Am]
  ·cases hb:bY σ k
   ·right;exact⟨rfl,Ly k hk,fun _ _=>rfl⟩
   ·left
    simp only[bY,Gc] at hb⊢
    rcases hb with hb|hb
    ·left;rw[UK,hb,Bool.or_true]
    ·right
     show(eY ((k0,some (iX.arr ar false))::σ.o9) k).isNone=true
     have hq:iZ k0 k=false:=M5.2 fun e=>hk e.symm
     simp only[eY,hq,cond_false]
     exact hb
 have yL:∀k e b,σ.bP k=some e->k≠k0->b∈fp k->¬F' b:=fun k e b hke hk hb bj=>by
  rcases hF2 b bj with g|g
  ·exact(h.fT k e b hke hb).1 g
  ·exact h.apart k k0 e _ b hk hke he hb g
 refine⟨F',fp',⟨h.size,h.defers,fun s x hx=>(h.bG s x hx).move (fun k _=>rh k) BC,fun k e hk=> ?_,fun k k' e e' b fc h1 h2 hb=> ?_,fun k e hk=> ?_,fun k e b hk hb=> ?_,fun b hb=> ?_,fun b hb=> ?_,h.upto,h.Oe,h.lay.gv BC⟩⟩
 ·rcases tx k e hk with⟨rfl,rfl⟩|⟨fc,hke⟩
  ·exact oB
  ·rw[Ly k fc]
   have h1:=h.dD k e hke
   cases e with
   |arr a d=>exact fe.gv h1 BC (fun _ _=>rfl)
   |part a d=>exact eK.gv h1 BC (fun _ _=>rfl)
   |box cs=>
    obtain⟨b,cur,e',g1,g2,g3,g4⟩:=h1
    exact⟨b,cur,e',g1,g2,g3,g4.move (fun _ _ k _=>rh k) BC⟩
 ·rcases tx k e h1 with⟨rfl,_⟩|⟨n1,g1⟩
  ·rcases tx k' e' h2 with⟨rfl,_⟩|⟨n2,g2⟩
   ·exact absurd rfl fc
   ·rw[Ly k' n2]
    exact h.apart _ k' _ _ b fc he g2 (qD b hb).1
  ·rw[Ly k n1] at hb
   rcases tx k' e' h2 with⟨rfl,_⟩|⟨n2,g2⟩
   ·exact fun bj=>h.apart k _ _ _ b fc g1 he hb (qD b bj).1
   ·rw[Ly k' n2]
    exact h.apart k k' _ _ b fc g1 g2 hb
 ·rcases tx k e hk with⟨rfl,_⟩|⟨n1,g1⟩
  ·exact qE
  ·rw[Ly k n1];exact h.nodup k e g1
 ·rcases tx k e hk with⟨rfl,_⟩|⟨n1,g1⟩
  ·obtain⟨g1,g2⟩:=qD b hb
   exact⟨g2,(h.fT _ _ b he g1).2⟩
  ·rw[Ly k n1] at hb
   exact⟨yL k e b g1 n1 hb,(h.fT k e b g1 hb).2⟩
 ·rcases hF2 b hb with g|g
  ·exact h.uI b g
  ·exact(h.fT k0 _ b he g).2.2
 ·rcases hF2 b hb with g|g
  ·exact h.uH b g
  ·exact .inr (h.fT k0 _ b he g).2.1
theorem ac7:∀{l:List Key}{σ:ak U}{F:Nat->Prop}{fp:Key->List Nat},cR E pm F kv fp σ a w->∃F' fp',cR E pm F' kv fp' (l.foldl (fun σ k=>Et k σ) σ) a w
 |[],_,F,fp,h=>⟨F,fp,h⟩
 |k::l,σ,F,fp,h=>by
  obtain⟨F1,fp1,h1⟩:=ak_ h k
  exact ac7 (l:=l) h1
theorem ac5{l:List Key}(h:cR E pm F kv fp σ a w)(hc:fD E w F kv fp σ a):∃F' fp',cR E pm F' kv fp' (N5 l σ) a w/\fD E w F' kv fp' (N5 l σ) a:=by
 cases l with
 |nil=>exact⟨F,fp,h,hc⟩
 |cons k l=>
  obtain⟨F1,fp1,h1⟩:=ac7 (l:=k::l) h
  exact⟨F1,fp1,H0 h1 _,Rt h1 _⟩
end AM
