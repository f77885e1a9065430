/- THE ABSTRACT MACHINE: new names for entries. -/
import Derived.Test.YtlachfpabecaeaaQAmSettle
namespace AM
set_option linter.unusedVariables false
open Go
variable{U:dh}{E:Env U}{pm:Pm}
variable{F F':Nat->Prop}{kv kv':Key->Value}{fp fp':Key->List Nat}{σ τ:aa U}{a:Act}{w w':World}
structure bp(E:Env U)(w:World)(F:Nat->Prop)(kv:Key->Value)(fp:Key->List Nat)(σ:aa U)(a:Act):Prop where
 ap:∀s x,σ.get s=some x->RS E w F kv fp (fun _=>false) x (a.tmps.getD s undef)
 aJ:∀k e,σ.aq k=some e->gO E w F kv fp (fun _=>false) e (kv k) (fp k)
theorem nW{bad:Key->Bool}{x:AC U}(h:∀k∈x.keys,bad k=false):ck bad x=false:=by
 cases x with
 |ref k p=>simp[ck,h k (by simp[AC.keys])]
 |dt k p i wd off=>simp[ck,h k (by simp[AC.keys])]
 |_=>rfl
theorem RA.ib{f:Key->Key}{x:AC U}{v:Value}(hk:∀k∈x.keys,kv' (f k)=kv k/\fp' (f k)=fp k)(h:RA E w F kv fp x v):RA E w F kv' fp' (x.ib f) v:=by
 cases x with
 |c x=>exact h
 |e0=>exact h
 |kn b τ xs=>exact h
 |ia cs=>exact h
 |ref k p=>
  obtain⟨h1,h2⟩:=hk k (by simp[AC.keys])
  simp only[AC.ib,RA] at h⊢
  rw[h1,h2];exact h
 |sub k wd lo hi=>
  obtain⟨h1,h2⟩:=hk k (by simp[AC.keys])
  simp only[AC.ib,RA] at h⊢
  rw[h1];exact h
 |dt k p i wd off=>
  obtain⟨h1,h2⟩:=hk k (by simp[AC.keys])
  simp only[AC.ib,RA] at h⊢
  rw[h1,h2];exact h
 |cR k off=>
  obtain⟨h1,h2⟩:=hk k (by simp[AC.keys])
  simp only[AC.ib,RA] at h⊢
  rw[h1];exact h
theorem dC.ib{f:Key->Key}{bad bad':Key->Bool}{xs:List (AC U)}{vs:List Value}(hb:∀y∈xs,∀k∈y.keys,bad k=false)(hk:∀y∈xs,∀k∈y.keys,kv' (f k)=kv k/\fp' (f k)=fp k)
  (h:dC E w F kv fp bad xs vs):dC E w F kv' fp' bad' (xs.map (AC.ib f)) vs:=by
 refine⟨by simpa using h.1,fun i x v hx hv=> ?_⟩
 rw[eC] at hx
 cases hy:xs[i]? with
 |none=>rw[hy] at hx;cases hx
 |some y=>
  rw[hy] at hx;cases hx
  have hm:=np hy
  have:=h.2 i y v hy hv
  exact⟨this.1,.inr ((ax this (nW (hb y hm))).ib (hk y hm))⟩
theorem RS.ib{f:Key->Key}{bad bad':Key->Bool}{x:SV U}{v:Value}(hb:∀k∈x.keys,bad k=false)(hk:∀k∈x.keys,kv' (f k)=kv k/\fp' (f k)=fp k)
  (h:RS E w F kv fp bad x v):RS E w F kv' fp' bad' (x.ib f) v:=by
 cases x with
 |v x=>
  obtain⟨vs,h1,h2⟩:=h
  exact⟨vs,h1.ib (fun y hy k Ks=>hb k (SV.mem_keys.2 ⟨y,hy,Ks⟩)) (fun y hy k Ks=>hk k (SV.mem_keys.2 ⟨y,hy,Ks⟩)),h2⟩
 |iV xs=>
  obtain⟨vs,h1,h2,h3⟩:=h
  refine⟨vs,h1,by simpa using h2,fun i x u hx hu=> ?_⟩
  rw[eC] at hx
  cases hy:xs[i]? with
  |none=>rw[hy] at hx;cases hx
  |some y=>
   rw[hy] at hx;cases hx
   have hm:=np hy
   obtain⟨us,g1,g2⟩:=h3 i y u hy hu
   exact⟨us,g1.ib (fun z hz k zZ=>hb k (SV.mem_keys.2 ⟨z,eY.2 ⟨y,hm,hz⟩,zZ⟩)) (fun z hz k zZ=>hk k (SV.mem_keys.2 ⟨z,eY.2 ⟨y,hm,hz⟩,zZ⟩)),g2⟩
 |fn p=>exact h
 |nH g xs=>
  obtain⟨vs,h1,h2,h3⟩:=h
  refine⟨vs,h1,by simpa using h2,fun i x u hx hu=> ?_⟩
  rw[eC] at hx
  cases hy:xs[i]? with
  |none=>rw[hy] at hx;cases hx
  |some y=>
   rw[hy] at hx;cases hx
   have hm:=np hy
   obtain⟨us,g1,g2⟩:=h3 i y u hy hu
   exact⟨us,g1.ib (fun z hz k zZ=>hb k (SV.mem_keys.2 ⟨z,eY.2 ⟨y,hm,hz⟩,zZ⟩)) (fun z hz k zZ=>hk k (SV.mem_keys.2 ⟨z,eY.2 ⟨y,hm,hz⟩,zZ⟩)),g2⟩
theorem v8{β γ:Type}{g:β->γ}:∀{l:List (Nat×Option β)}{s:Nat},look (l.map fun p=>(p.1,p.2.map g)) s=(look l s).map g
 |[],s=>rfl
 |(t,v)::r,s=>by
  simp only[mR,look]
  cases Nat.beq t s
  ·exact v8
  ·rfl
theorem HR(h:aC E pm F kv fp σ a w)(hc:bp E w F kv fp σ a)(hn:(σ.tab.map (·.1)).Nodup)(xF:∀p∈σ.tab,p.2.isSome=true){l:List (Key×Key)}{S:Key->Prop}
  (Qd:∀k,Names σ k->S k) (KZ:∀k,(σ.aq k).isSome=true->S k) (Ac:∀k k',S k->S k'->jk l k=jk l k'->k=k') (m9:∀k,2000000<=k.1->k.2<1024->∀k0,jk l k0=k->k0=k):
  ∃kv' fp',aC E pm F kv' fp' (rename l σ) a w:=by
 classical
 generalize hf:jk l=f at Ac m9
 have cG:∀p∈σ.tab,(σ.aq p.1).isSome=true:=by
  rintro⟨k,v⟩ hp
  have:=xF _ hp
  cases v with
  |none=>cases this
  |some e=>unfold aa.aq;rw[tE hn hp];rfl
 have zy:(rename l σ).tab=σ.tab.map fun(k,e)=>(f k,e.map (b9.ib f)):=by rw[<-hf];rfl
 have zB:(rename l σ).ap=σ.ap.map fun(s,v)=>(s,v.map (SV.ib f)):=by rw[<-hf];rfl
 have iT:((rename l σ).tab.map (·.1)).Nodup:=by
  rw[zy,List.map_map]
  have:(σ.tab.map ((·.1)∘fun((k,e):Key×Option (b9 U))=>(f k,e.map (b9.ib f))))=(σ.tab.map (·.1)).map f:=by
   rw[List.map_map];rfl
  rw[this]
  rw[Cj,List.pairwise_map]
  rw[Cj] at hn
  refine List.Pairwise.imp_of_mem (fun{k k'} hk aG a_ he=>a_ ?_) hn
  obtain⟨p,hp,rfl⟩:=ez.1 hk
  obtain⟨p',cT,rfl⟩:=ez.1 aG
  exact Ac _ _ (KZ _ (cG p hp)) (KZ _ (cG p' cT)) he
 have gC:∀k' e',(rename l σ).aq k'=some e'↔∃k e,σ.aq k=some e/\k'=f k/\e'=e.ib f:=by
  intro k' e'
  constructor
  ·intro he
   have hm:=l4 he
   rw[zy] at hm
   obtain⟨⟨k,v⟩,hp,hx⟩:=ez.1 hm
   simp only[eX] at hx
   obtain⟨h1,h2⟩:=hx
   cases v with
   |none=>cases h2
   |some e=>cases h2;exact⟨k,e,tE hn hp,h1.symm,rfl⟩
  ·rintro⟨k,e,he,rfl,rfl⟩
   refine tE iT ?_
   rw[zy]
   exact ez.2 ⟨(k,some e),l4 he,rfl⟩
 have gA:∀s,(rename l σ).get s=(σ.get s).map (SV.ib f):=by
  intro s
  show look (rename l σ).ap s=_
  rw[zB]
  exact v8
 let g:Key->Key:=fun k'=>if h:∃k,S k/\f k=k' then h.choose else k'
 have hg:∀k,S k->g (f k)=k:=by
  intro k hk
  have hx:∃k1,S k1/\f k1=f k:=⟨k,hk,rfl⟩
  have:g (f k)=hx.choose:=by simp only[g];rw[dif_pos hx]
  rw[this]
  exact Ac _ _ hx.choose_spec.1 hk hx.choose_spec.2
 have kX:∀k,Names σ k->(fun k'=>kv (g k')) (f k)=kv k/\(fun k'=>fp (g k')) (f k)=fp k:=by
  intro k hk
  simp only
  rw[hg k (Qd k hk)]
  exact⟨rfl,rfl⟩
 have uC:∀{k:Key}{e:b9 U},σ.aq k=some e->g (f k)=k:=fun he=>hg _ (KZ _ (by rw[he];rfl))
 refine⟨fun k'=>kv (g k'),fun k'=>fp (g k'),?_⟩
 ·refine⟨h.size,h.defers,fun s x' hs=> ?_,fun k' e' he=> ?_,fun k1 k2 e1 e2 b a_ h1 h2=> ?_,fun k' e' he=> ?_,fun k' e' b he=> ?_,h.hJ,h.hH,h.upto,fun k v Kb=> ?_,h.lay⟩
  ·rw[gA] at hs
   cases hx:σ.get s with
   |none=>rw[hx] at hs;cases hs
   |some x=>
    rw[hx] at hs;cases hs
    exact(hc.ap s x hx).ib (fun k hk=>rfl) (fun k hk=>kX k (.inl ⟨s,x,hx,hk⟩))
  ·obtain⟨k,e,h1,rfl,rfl⟩:=(gC k' e').1 he
   have h0:=hc.aJ k e h1
   simp only[uC h1]
   cases e with
   |arr x deep=>exact h0
   |part x dead=>exact h0
   |box cs=>
    obtain⟨b,cur,e',g1,g2,g3,g4⟩:=h0
    exact⟨b,cur,e',g1,g2,g3,g4.ib (fun y hy k' aG=>rfl) (fun y hy k' aG=>kX k' (.inr ⟨k,cs,h1,y,hy,aG⟩))⟩
  ·obtain⟨k,e,g1,rfl,rfl⟩:=(gC k1 e1).1 h1
   obtain⟨k',e',g2,rfl,rfl⟩:=(gC k2 e2).1 h2
   simp only[uC g1,uC g2]
   exact h.apart k k' e e' b (fun e=>a_ (by rw[e])) g1 g2
  ·obtain⟨k,e,g1,rfl,rfl⟩:=(gC k' e').1 he
   simp only[uC g1]
   exact h.nodup k e g1
  ·obtain⟨k,e,g1,rfl,rfl⟩:=(gC k' e').1 he
   simp only[uC g1]
   exact h.bC k e b g1
  ·obtain⟨p1,p2,p3,p4⟩:=h.rA k v Kb
   have:g k=k:=by
    by_cases hx:∃k1,S k1/\f k1=k
    ·have e:g k=hx.choose:=by simp only[g];rw[dif_pos hx]
     rw[e]
     exact m9 k p1 p2 _ hx.choose_spec.2
    ·simp only[g];rw[dif_neg hx]
   exact⟨p1,p2,p3,by simp only[this];exact p4⟩
theorem Dh(bad:Key->Bool)(σ:aa U):((fZ bad σ).tab.map (·.1)).Nodup/\∀p∈(fZ bad σ).tab,p.2.isSome=true:=by
 refine⟨v3 tz.1,fun p hp=> ?_⟩
 have hm:=(po.1 hp).1
 have:∀{l:List (Key×Option (b9 U))}{seen:List Key},∀p∈fz seen l,p.2.isSome=true:=by
  intro l
  induction l with
  |nil=>intro seen p hp;simp[fz] at hp
  |cons q l ih=>
   obtain⟨k,v⟩:=q
   intro seen p hp
   simp only[fz] at hp
   cases hs:seen.any (cn k)<;>rw[hs] at hp<;>simp only[cond_true,cond_false] at hp
   ·cases v with
    |none=>exact ih p hp
    |some x=>
     rcases dQ.1 hp with rfl|hp
     ·rfl
     ·exact ih p hp
   ·exact ih p hp
 exact this p hm
theorem O_{bad:Key->Bool}{k:Key}{e:b9 U}(h:σ.aq k=some e)(hb:bad k=false)(KS:∀cs,e=.box cs->wC bad σ (.v ⟨true,cs⟩)=true):(fZ bad σ).aq k=some e:=by
 refine tE (Dh bad σ).1 (po.2 ⟨l4 (by rw[tA (by simp)];exact h),?_⟩)
 simp only[hb,GZ,Ga]
 cases e with
 |arr a d=>rfl
 |part a d=>rfl
 |box cs=>exact KS cs rfl
theorem tC(h:aC E pm F kv fp σ a w)(bad:Key->Bool):bp E w F kv fp (fZ bad σ) a:=by
 refine⟨fun s x hs=> ?_,fun k e he=> ?_⟩
 ·obtain⟨h1,h2,_⟩:=tD.1 hs
  exact(h.ap s x h1).ep (fun y hy=>(se h2 hy).1)
 ·obtain⟨h1,h2,h3⟩:=pL he
  have h0:=h.aJ k e h1
  cases e with
  |arr x deep=>exact h0
  |part x dead=>exact h0
  |box cs=>
   obtain⟨b,cur,e',g1,g2,g3,g4⟩:=h0
   exact⟨b,cur,e',g1,g2,g3,g4.ep (fun y hy=>(se (h3 cs rfl) (x:=.v ⟨true,cs⟩) hy).1)⟩
theorem vX:∀{l:List (Key×Key)}{k:Key},(∃b,(k,b)∈l/\jk l k=b)\/((∀b,(k,b)∉l)/\jk l k=k)
 |[],k=> .inr ⟨fun b hb=>(vt hb).elim,rfl⟩
 |(a,b)::r,k=>by
  simp only[jk]
  cases h:cn a k
  ·simp only[cond_false]
   rcases vX (l:=r) (k:=k) with⟨c,h1,h2⟩|⟨h1,h2⟩
   ·exact .inl ⟨c,c9 _ h1,h2⟩
   ·refine .inr ⟨fun c hc=> ?_,h2⟩
    rcases dQ.1 hc with hc|hc
    ·cases hc;rw[kr] at h;cases h
    ·exact h1 c hc
  ·have:=fb.1 h
   subst this
   exact .inl ⟨b,e_,rfl⟩
theorem CZ(h:∃kv fp,aC E pm F kv fp σ a w)(l0:List (Key×Key)):∃kv fp,aC E pm F kv fp (fY l0 σ) a w:=by
 unfold fY
 simp only
 rw[bY]
 split
 ·exact h
 ·rename_i eo
  generalize hl:(l0.filter fun(a,b)=> !(cn a b)&& !(Nat.ble 2000000 a.1&&Nat.blt a.2 1024))=l at eo⊢
  simp only[qo,not_or,nq,Bool.not_eq_false'] at eo
  obtain⟨⟨⟨h1,h2⟩,h3⟩,h4⟩:=eo
  obtain⟨kv,fp,hs⟩:=h
  have BO:(l.map (·.2)).Nodup:=ic.1 h3
  have Rj:(l.map (·.1)).Nodup:=ic.1 h2
  obtain⟨t1,t2⟩:=Dh (fun k=>(l.map (·.2)).any (cn k)) σ
  refine HR (nR hs _) (tC hs _) t1 t2 (S:=fun k=>k∉l.map (·.2)) (fun k hk=> ?_) (fun k hk=> ?_) (fun k k' hk aG he=> ?_) (fun k p1 p2 k0 he=> ?_)
  ·have:=(Di hk).1
   exact fun hm=>by rw[gr.2 hm] at this;cases this
  ·obtain⟨e,he⟩:=ef.1 hk
   have:=(pL he).2.1
   exact fun hm=>by rw[gr.2 hm] at this;cases this
  ·rcases vX (l:=l) (k:=k) with⟨b,g1,g2⟩|⟨g1,g2⟩<;>rcases vX (l:=l) (k:=k') with⟨b',Ld,Fj⟩|⟨Ld,Fj⟩
   ·rw[g2,Fj] at he
    subst he
    obtain⟨i,hi,fP⟩:=pA g1
    obtain⟨j,hj,gY⟩:=pA Ld
    have wR:i=j:=by
     refine(List.getElem_inj (h₀:=by simpa using hi) (h₁:=by simpa using hj) BO).1 ?_
     simp[fP,gY]
    subst wR
    rw[fP] at gY
    exact(Prod.mk.inj gY).1
   ·rw[g2,Fj] at he
    subst he
    exact absurd (ez.2 ⟨_,g1,rfl⟩) aG
   ·rw[g2,Fj] at he
    subst he
    exact absurd (ez.2 ⟨_,Ld,rfl⟩) hk
   ·rw[g2,Fj] at he
    exact he
  ·rcases vX (l:=l) (k:=k0) with⟨b,g1,g2⟩|⟨g1,g2⟩
   ·exfalso
    have:=qp.1 h4 _ g1
    simp only[vo] at this
    rw[g2] at he
    subst he
    omega
   ·rw[g2] at he;exact he
theorem C4(h:∃kv fp,aC E pm F kv fp σ a w)(d:Nat):∃kv fp,aC E pm F kv fp (gn d σ) a w:=by
 unfold gn
 split
 ·exact CZ h _
 ·exact h
theorem HE(h:∃kv fp,aC E pm F kv fp σ a w)(k:Key):∃kv fp,aC E pm F kv fp (jF k σ) a w:=by
 unfold jF
 split
 ·exact CZ h _
 ·exact h
theorem vT:∀{l:List Key}{τ:aa U},(∃kv fp,aC E pm F kv fp τ a w)->∃kv fp,aC E pm F kv fp (jE l τ) a w
 |[],τ,h=>h
 |k::l,τ,h=>vT (l:=l) (HE h k)
theorem HC(h:aC E pm F kv fp σ a w)(ops:List Oper):∃kv fp,aC E pm F kv fp (settle ops σ) a w:=by
 unfold settle
 simp only
 refine vT ?_
 have h0:∃kv fp,aC E pm F kv fp (cB σ) a w:=⟨kv,fp,nR h _⟩
 generalize cB σ=τ at h0
 generalize assigned ops=l
 induction l generalizing τ with
 |nil=>exact h0
 |cons d l ih=>exact ih _ (C4 h0 d)
theorem tG{β:Type}(f:β->β):∀(l:List (Nat×Option β))(s:Nat),look (l.map fun(t,v)=>(t,v.map f)) s=(look l s).map f
 |[],s=>rfl
 |(t,v)::r,s=>by
  simp only[mR,look]
  cases h:Nat.beq t s<;>simp only[cond_true,cond_false]
  exact tG f r s
theorem yR{β:Type}(f:β->β):∀(l:List (Key×Option β))(s:Key),a9 (l.map fun(t,v)=>(t,v.map f)) s=(a9 l s).map f
 |[],s=>rfl
 |(t,v)::r,s=>by
  simp only[mR,a9]
  cases h:cn t s<;>simp only[cond_true,cond_false]
  exact yR f r s
theorem CT{bad':Key->Bool}(k:Key):fo w w kv kv fp fp (fun _=>false) bad' k:=⟨rfl,.inr ⟨rfl,rfl,fun _ _=>rfl⟩⟩
theorem RD.fr{k0:Key}{c:U.C}{bad':Key->Bool}{x:AC U}{v:Value}(h:RD E w F kv fp (fun _=>false) x v)(hF:∀b,F b->F' b)
  (hc:Rp E w F' false c (kv k0) []):RD E w F' kv fp bad' (ov k0 c x) v:=by
 have hm:RD E w F' kv fp bad' x v:=h.move (fun k _=>CT k) (fun b hb=>⟨hF b hb,rfl⟩)
 unfold ov
 split
 ·rename_i k
  rw[bY]
  split
  ·rename_i hk
   have:=fb.1 hk
   subst this
   refine⟨h.1,.inr ?_⟩
   have h2:=h.2
   simp only[ck,List.isEmpty_nil,Og,O8,lN,false_or,RA,eR] at h2
   rw[h2];exact hc
  ·exact hm
 ·exact hm
theorem dC.fr{k0:Key}{c:U.C}{bad':Key->Bool}{xs:List (AC U)}{vs:List Value}(h:dC E w F kv fp (fun _=>false) xs vs)(hF:∀b,F b->F' b)
  (hc:Rp E w F' false c (kv k0) []):dC E w F' kv fp bad' (xs.map (ov k0 c)) vs:=by
 refine⟨by simpa using h.1,fun i x v hx hv=> ?_⟩
 rw[eC] at hx
 cases hy:xs[i]? with
 |none=>rw[hy] at hx;cases hx
 |some y=>
  rw[hy] at hx;cases hx
  exact(h.2 i y v hy hv).fr hF hc
theorem RS.fr{k0:Key}{c:U.C}{bad':Key->Bool}{x:SV U}{v:Value}(h:RS E w F kv fp (fun _=>false) x v)(hF:∀b,F b->F' b)
  (hc:Rp E w F' false c (kv k0) []):RS E w F' kv fp bad' (qY k0 c x) v:=by
 have hm:RS E w F' kv fp bad' x v:=h.move (fun k _=>CT k) (fun b hb=>⟨hF b hb,rfl⟩)
 cases x with
 |v x=>
  obtain⟨vs,h1,h2⟩:=h
  exact⟨vs,h1.fr hF hc,h2⟩
 |iV xs=>exact hm
 |fn p=>exact hm
 |nH g xs=>exact hm
theorem gO.fr{k0:Key}{c:U.C}{bad':Key->Bool}{x:b9 U}{v:Value}{l:List Nat}(h:gO E w F kv fp (fun _=>false) x v l)(hF:∀b,F b->F' b)
  (hc:Rp E w F' false c (kv k0) []):gO E w F' kv fp bad' (p9 k0 c x) v l:=by
 cases x with
 |arr a d=>exact ba.bD h (fun b hb=>⟨hF b hb,rfl⟩) (fun _ _=>rfl)
 |part a d=>exact aW.bD h (fun b hb=>⟨hF b hb,rfl⟩) (fun _ _=>rfl)
 |box cs=>
  obtain⟨b,cur,e',g1,g2,g3,g4⟩:=h
  exact⟨b,cur,e',g1,g2,g3,g4.fr hF hc⟩
theorem DG(h:aC E pm F kv fp σ a w)(hc:bp E w F kv fp σ a)(k0:Key):∃F,aC E pm F kv fp (dz k0 σ) a w/\bp E w F kv fp (dz k0 σ) a:=by
 unfold dz
 split
 rotate_left
 ·exact⟨F,h,hc⟩
 rename_i ar d he
 have hs:Rp E w (fun b=>F b\/b∈fp k0) false (.sl ar.τ ar.xs) (kv k0) []:=ba.di (hc.aJ k0 _ he) (fun b hb=> .inl hb) (fun b hb=> .inr hb)
 have hF:∀b,F b->(fun b=>F b\/b∈fp k0) b:=fun b hb=> .inl hb
 have gC:∀k e,a9 ((k0,none)::σ.tab.map fun(k,e)=>(k,e.map (p9 k0 (.sl ar.τ ar.xs)))) k=some e->k≠k0/\∃e0,σ.aq k=some e0/\e=p9 k0 (.sl ar.τ ar.xs) e0:=by
  intro k e hk
  simp only[a9] at hk
  cases hq:cn k0 k<;>simp only[hq,cond_true,cond_false] at hk
  ·rw[yR] at hk
   cases hl:a9 σ.tab k with
   |none=>rw[hl] at hk;cases hk
   |some e0=>rw[hl] at hk;cases hk;exact⟨fun e=>(qB.1 hq) e.symm,e0,hl,rfl⟩
  ·cases hk
 have gA:∀s x,look (σ.ap.map fun(s,v)=>(s,v.map (qY k0 (.sl ar.τ ar.xs)))) s=some x->∃x0,σ.get s=some x0/\x=qY k0 (.sl ar.τ ar.xs) x0:=by
  intro s x hx
  rw[tG] at hx
  cases hl:look σ.ap s with
  |none=>rw[hl] at hx;cases hx
  |some x0=>rw[hl] at hx;cases hx;exact⟨x0,hl,rfl⟩
 refine⟨fun b=>F b\/b∈fp k0,⟨h.size,h.defers,fun s x hx=> ?_,fun k e hk=> ?_,fun k k' e e' b a_ h1 h2=> ?_,fun k e hk=> ?_,fun k e b hk hb=> ?_,fun b hb=> ?_,fun b hb=> ?_,h.upto,h.rA,h.lay.bD (fun b hb=>⟨.inl hb,rfl⟩)⟩,⟨fun s x hx=> ?_,fun k e hk=> ?_⟩⟩
 ·obtain⟨x0,El,rfl⟩:=gA s x hx
  exact(hc.ap s x0 El).fr hF hs
 ·obtain⟨a_,e0,eL,rfl⟩:=gC k e hk
  exact(hc.aJ k e0 eL).fr hF hs
 ·obtain⟨_,e0,eL,_⟩:=gC k e h1
  obtain⟨_,Qy,Am,_⟩:=gC k' e' h2
  exact h.apart k k' e0 Qy b a_ eL Am
 ·obtain⟨_,e0,eL,_⟩:=gC k e hk
  exact h.nodup k e0 eL
 ·obtain⟨a_,e0,eL,_⟩:=gC k e hk
  obtain⟨m1,m2,m3⟩:=h.bC k e0 b eL hb
  exact⟨fun hh=>hh.elim m1 (fun hh=>h.apart k k0 e0 _ b a_ eL he hb hh),m2,m3⟩
 ·exact hb.elim (h.hJ b) (fun hb=>(h.bC k0 _ b he hb).2.2)
 ·exact hb.elim (h.hH b) (fun hb=> .inr (h.bC k0 _ b he hb).2.1)
 ·obtain⟨x0,El,rfl⟩:=gA s x hx
  exact(hc.ap s x0 El).fr hF hs
 ·obtain⟨a_,e0,eL,rfl⟩:=gC k e hk
  exact(hc.aJ k e0 eL).fr hF hs
theorem we:∀{l:List Nat}{σ:aa U},(∃F kv fp,aC E pm F kv fp σ a w/\bp E w F kv fp σ a)->∃F kv fp,aC E pm F kv fp (fE l σ) a w/\bp E w F kv fp (fE l σ) a
 |[],σ,h=>h
 |s::l,σ,h=>by
  refine we (l:=l) (σ:=gG s σ) ?_
  obtain⟨F,kv,fp,h1,h2⟩:=h
  unfold gG
  split
  ·obtain⟨F',h3⟩:=DG h1 h2 _
   exact⟨F',kv,fp,h3⟩
  ·exact⟨F,kv,fp,h1,h2⟩
theorem DJ{k0:Key}{c:U.C}{x:AC U}{k:Key}(h:k∈(ov k0 c x).keys):k∈x.keys:=by
 unfold ov at h
 split at h
 ·rename_i q
  rw[bY] at h
  split at h
  ·simp[AC.keys] at h
  ·exact h
 ·exact h
theorem IU{k0:Key}{c:U.C}{x:SV U}{k:Key}(h:k∈(qY k0 c x).keys):k∈x.keys:=by
 cases x with
 |v x=>
  obtain⟨y,hy,hk⟩:=SV.mem_keys.1 h
  simp only[qY,SV.lM,ez] at hy
  obtain⟨z,hz,rfl⟩:=hy
  exact SV.mem_keys.2 ⟨z,hz,DJ hk⟩
 |iV xs=>exact h
 |fn p=>exact h
 |nH g xs=>exact h
theorem DH{k0 k:Key}(h:Names (dz k0 σ) k):Names σ k:=by
 unfold dz at h
 split at h
 rotate_left
 ·exact h
 rcases h with⟨s,x,hs,hk⟩|⟨k',cs,he,x,hx,hk⟩
 ·have hs:look (σ.ap.map _) s=some x:=hs
  rw[tG] at hs
  cases hl:look σ.ap s with
  |none=>rw[hl] at hs;cases hs
  |some y=>rw[hl] at hs;cases hs;exact .inl ⟨s,y,hl,IU hk⟩
 ·have he:a9 ((k0,none)::σ.tab.map _) k'=some (b9.box cs):=he
  simp only[a9] at he
  cases hq:cn k0 k'<;>simp only[hq,cond_true,cond_false] at he
  ·rw[yR] at he
   cases hl:a9 σ.tab k' with
   |none=>rw[hl] at he;cases he
   |some e=>
    rw[hl] at he
    cases e with
    |arr a d=>cases he
    |part a d=>cases he
    |box Fs=>
     simp only[mP,p9,bM,b9.box.injEq] at he
     subst he
     obtain⟨z,hz,rfl⟩:=ez.1 hx
     exact .inr ⟨k',Fs,hl,z,hz,DJ hk⟩
  ·cases he
theorem DE{k:Key}:∀{l:List Nat}{σ:aa U},Names (fE l σ) k->Names σ k
 |[],σ,h=>h
 |s::l,σ,h=>by
  have h2:Names (gG s σ) k:=DE (l:=l) h
  unfold gG at h2
  split at h2
  ·exact DH h2
  ·exact h2
theorem wh:∀{l:List Key}{σ:aa U},(∃F kv fp,aC E pm F kv fp σ a w/\bp E w F kv fp σ a)->∃F kv fp,aC E pm F kv fp (gb l σ) a w/\bp E w F kv fp (gb l σ) a
 |[],σ,h=>h
 |s::l,σ,h=>by
  refine wh (l:=l) (σ:=dz s σ) ?_
  obtain⟨F,kv,fp,h1,h2⟩:=h
  obtain⟨F',h3⟩:=DG h1 h2 s
  exact⟨F',kv,fp,h3⟩
theorem DF{k:Key}:∀{l:List Key}{σ:aa U},Names (gb l σ) k->Names σ k
 |[],σ,h=>h
 |s::l,σ,h=>DH (DF (l:=l) (σ:=dz s σ) h)
theorem Jc(h:aC E pm F kv fp σ a w)(E':Env U)(ops:List Oper):∃F kv fp,aC E pm F kv fp (mz E' ops σ) a w:=by
 obtain⟨F',kv',fp',h1,_⟩:=wh (l:=rR ops (fE (rE E' ops) (enter ops σ))) (we (l:=rE E' ops) (σ:=enter ops σ) ⟨F,kv,fp,Ja h ops,tC h _⟩)
 exact⟨F',kv',fp',h1⟩
theorem DP{E':Env U}{ops:List Oper}{k:Key}(h:Names (mz E' ops σ) k)(hd:k.1∈ll ops\/k.1=1000000):1024<=k.2:=Jb (DE (DF h)) hd
theorem HA(h:aC E pm F kv fp σ a w)(k0:Key):∃F' fp',aC E pm F' kv fp' (lU k0 σ) a w:=by
 unfold lU
 split
 rotate_left
 ·exact⟨F,fp,h⟩
 rename_i ar he
 have gC:∀k e,a9 ((k0,some (b9.arr ar false))::σ.tab) k=some e->(k=k0/\e=b9.arr ar false)\/(k≠k0/\σ.aq k=some e):=by
  intro k e hk
  simp only[a9] at hk
  cases hq:cn k0 k<;>simp only[hq,cond_true,cond_false] at hk
  ·exact .inr ⟨fun e=>(qB.1 hq) e.symm,hk⟩
  ·cases hk;exact .inl ⟨(fb.1 hq).symm,rfl⟩
 have xF:∀k,∃k' e',σ.aq k=some e'\/k'=k:=fun k=>⟨k,.arr ar true,.inr rfl⟩
 obtain⟨F',fp',hF,K4,wT,eg,eH,ei⟩:∃(F':Nat->Prop)(fp':Key->List Nat),(∀b,F b->F' b)/\(∀b,F' b->F b\/b∈fp k0)/\(∀k,k≠k0->fp' k=fp k)/\(∀b∈fp' k0,b∈fp k0/\¬F' b)/\(fp' k0).Nodup/\ba E w F' false ar (kv k0) (fp' k0):=by
  have ho:ba E w F true ar (kv k0) (fp k0):=h.aJ k0 _ he
  have hn:=h.nodup k0 _ he
  rcases ho with⟨h1,h2,h3⟩|⟨b,cap,cur,vs,bT,h1,h2,h3,h4,h5,h6,h7,h8⟩
  ·exact⟨F,fp,fun _ hb=>hb,fun b hb=> .inl hb,fun _ _=>rfl,fun b hb=>(by rw[h3] at hb;cases hb),hn,.inl ⟨h1,h2,h3⟩⟩
  ·rw[h8,fU] at hn
   refine⟨fun c=>F c\/(c∈fp k0/\c≠b),fun k=>if cn k k0=true then[b] else fp k,fun _ hb=> .inl hb,fun c hc=>hc.imp id fun g=>g.1,fun k hk=> ?_,fun c hc=> ?_,?_,?_⟩
   ·dsimp only;rw[if_neg (by rw[fb];exact hk)]
   ·dsimp only at hc;rw[if_pos (kr _),gj] at hc
    subst hc
    have hm:c∈fp k0:=by rw[h8];exact e_
    exact⟨hm,fun g=>g.elim (h.bC k0 _ c he hm).1 fun g=>g.2 rfl⟩
   ·dsimp only;rw[if_pos (kr _)];simp
   ·dsimp only;rw[if_pos (kr _)]
    refine .inr ⟨b,cap,cur,vs,fun _=>[],h1,h2,h3,h4,h5,h6,fun i x j c hx hj=> ?_,by simp⟩
    have bZ:i*U.wd ar.τ+j<ar.xs.length*U.wd ar.τ:=bw hx hj
    refine(h7 i x j c hx hj).di (fun b hb=> .inl hb) fun b' aj=> .inr ?_
    have iU:b'∈(List.range (ar.xs.length*U.wd ar.τ)).flatMap bT:=eY.2 ⟨_,hU.2 bZ,aj⟩
    exact⟨by rw[h8];exact c9 _ iU,fun e=>hn.1 (by rw[<-e];exact iU)⟩
 have kY:∀b,F b->F' b/\w.heap[b]? =w.heap[b]? :=fun b hb=>⟨hF b hb,rfl⟩
 have gW:∀k,fo w w kv kv fp fp' (av σ) (av ({σ with tab:=(k0,some (b9.arr ar false))::σ.tab,ag:=k0::σ.ag}:aa U)) k:=by
  intro k
  refine⟨rfl,?_⟩
  by_cases hk:k=k0
  ·left
   subst hk
   simp[av,kr]
  ·cases hb:av σ k
   ·right;exact⟨rfl,wT k hk,fun _ _=>rfl⟩
   ·left
    simp only[av,qo] at hb⊢
    rcases hb with hb|hb
    ·left;rw[ye,hb,Bool.or_true]
    ·right
     show(a9 ((k0,some (b9.arr ar false))::σ.tab) k).isNone=true
     have hq:cn k0 k=false:=qB.2 fun e=>hk e.symm
     simp only[a9,hq,cond_false]
     exact hb
 have jP:∀k e b,σ.aq k=some e->k≠k0->b∈fp k->¬F' b:=fun k e b BZ hk hb aj=>by
  rcases K4 b aj with g|g
  ·exact(h.bC k e b BZ hb).1 g
  ·exact h.apart k k0 e _ b hk BZ he hb g
 refine⟨F',fp',⟨h.size,h.defers,fun s x hx=>(h.ap s x hx).move (fun k _=>gW k) kY,fun k e hk=> ?_,fun k k' e e' b a_ h1 h2 hb=> ?_,fun k e hk=> ?_,fun k e b hk hb=> ?_,fun b hb=> ?_,fun b hb=> ?_,h.upto,h.rA,h.lay.bD kY⟩⟩
 ·rcases gC k e hk with⟨rfl,rfl⟩|⟨a_,BZ⟩
  ·exact ei
  ·rw[wT k a_]
   have h1:=h.aJ k e BZ
   cases e with
   |arr a d=>exact ba.bD h1 kY (fun _ _=>rfl)
   |part a d=>exact aW.bD h1 kY (fun _ _=>rfl)
   |box cs=>
    obtain⟨b,cur,e',g1,g2,g3,g4⟩:=h1
    exact⟨b,cur,e',g1,g2,g3,g4.move (fun _ _ k _=>gW k) kY⟩
 ·rcases gC k e h1 with⟨rfl,_⟩|⟨n1,g1⟩
  ·rcases gC k' e' h2 with⟨rfl,_⟩|⟨n2,g2⟩
   ·exact absurd rfl a_
   ·rw[wT k' n2]
    exact h.apart _ k' _ _ b a_ he g2 (eg b hb).1
  ·rw[wT k n1] at hb
   rcases gC k' e' h2 with⟨rfl,_⟩|⟨n2,g2⟩
   ·exact fun aj=>h.apart k _ _ _ b a_ g1 he hb (eg b aj).1
   ·rw[wT k' n2]
    exact h.apart k k' _ _ b a_ g1 g2 hb
 ·rcases gC k e hk with⟨rfl,_⟩|⟨n1,g1⟩
  ·exact eH
  ·rw[wT k n1];exact h.nodup k e g1
 ·rcases gC k e hk with⟨rfl,_⟩|⟨n1,g1⟩
  ·obtain⟨g1,g2⟩:=eg b hb
   exact⟨g2,(h.bC _ _ b he g1).2⟩
  ·rw[wT k n1] at hb
   exact⟨jP k e b g1 n1 hb,(h.bC k e b g1 hb).2⟩
 ·rcases K4 b hb with g|g
  ·exact h.hJ b g
  ·exact(h.bC k0 _ b he g).2.2
 ·rcases K4 b hb with g|g
  ·exact h.hH b g
  ·exact .inr (h.bC k0 _ b he g).2.1
theorem CX:∀{l:List Key}{σ:aa U}{F:Nat->Prop}{fp:Key->List Nat},aC E pm F kv fp σ a w->∃F' fp',aC E pm F' kv fp' (l.foldl (fun σ k=>lU k σ) σ) a w
 |[],_,F,fp,h=>⟨F,fp,h⟩
 |k::l,σ,F,fp,h=>by
  obtain⟨F1,B',h1⟩:=HA h k
  exact CX (l:=l) h1
theorem CV{l:List Key}(h:aC E pm F kv fp σ a w)(hc:bp E w F kv fp σ a):∃F' fp',aC E pm F' kv fp' (rr l σ) a w/\bp E w F' kv fp' (rr l σ) a:=by
 cases l with
 |nil=>exact⟨F,fp,h,hc⟩
 |cons k l=>
  obtain⟨F1,B',h1⟩:=CX (l:=k::l) h
  exact⟨F1,B',nR h1 _,tC h1 _⟩
end AM
