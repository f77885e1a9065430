import Derived.Test.YtnndcpncmmcaaaaGreatQAmSettle
namespace AM
set_option linter.unusedVariables false
open Go
variable{U:jO}{E:Env U}{pm:Pm}
variable{F F':Nat->Prop}{kv kv':Key->Value}{fp fp':Key->List Nat}{σ τ:ah U}{a:Act}{w w':World}
structure ej(E:Env U)(w:World)(F:Nat->Prop)(kv:Key->Value)(fp:Key->List Nat)(σ:ah U)(a:Act):Prop where
 bw:∀s x,σ.get s=some x->RS E w F kv fp (fun _=>false) x (a.tmps.getD s undef)
 cT:∀k e,σ.aU k=some e->lm E w F kv fp (fun _=>false) e (kv k) (fp k)
theorem Ip{bad:Key->Bool}{x:AC U}(h:∀k∈x.keys,bad k=false):gg bad x=false:=by
 cases x with
 |ref k p=>simp[gg,h k (by simp[AC.keys])]
 |iC k p i wd off=>simp[gg,h k (by simp[AC.keys])]
 |_=>rfl
theorem RA.rB{f:Key->Key}{x:AC U}{v:Value}(hk:∀k∈x.keys,kv' (f k)=kv k/\fp' (f k)=fp k)(h:RA E w F kv fp x v):RA E w F kv' fp' (x.rB f) v:=by
 cases x with
 |c x=>exact h
 |e0=>exact h
 |kn b τ xs=>exact h
 |ia cs=>exact h
 |ref k p=>
  obtain⟨h1,h2⟩:=hk k (by simp[AC.keys])
  simp only[AC.rB,RA] at h⊢
  rw[h1,h2];exact h
 |sub k wd lo hi=>
  obtain⟨h1,h2⟩:=hk k (by simp[AC.keys])
  simp only[AC.rB,RA] at h⊢
  rw[h1];exact h
 |iC k p i wd off=>
  obtain⟨h1,h2⟩:=hk k (by simp[AC.keys])
  simp only[AC.rB,RA] at h⊢
  rw[h1,h2];exact h
 |ji k off=>
  obtain⟨h1,h2⟩:=hk k (by simp[AC.keys])
  simp only[AC.rB,RA] at h⊢
  rw[h1];exact h
theorem kS.rB{f:Key->Key}{bad bad':Key->Bool}{xs:List (AC U)}{vs:List Value}(hb:∀y∈xs,∀k∈y.keys,bad k=false)(hk:∀y∈xs,∀k∈y.keys,kv' (f k)=kv k/\fp' (f k)=fp k)
  (h:kS E w F kv fp bad xs vs):kS E w F kv' fp' bad' (xs.map (AC.rB f)) vs:=by
 refine⟨by simpa using h.1,fun i x v hx hv=> ?_⟩
 rw[mE] at hx
 cases hy:xs[i]? with
 |none=>rw[hy] at hx;cases hx
 |some y=>
  rw[hy] at hx;cases hx
  have hm:=Ep hy
  have:=h.2 i y v hy hv
  exact⟨this.1,.inr ((bG this (Ip (hb y hm))).rB (hk y hm))⟩
theorem RS.rB{f:Key->Key}{bad bad':Key->Bool}{x:SV U}{v:Value}(hb:∀k∈x.keys,bad k=false)(hk:∀k∈x.keys,kv' (f k)=kv k/\fp' (f k)=fp k)
  (h:RS E w F kv fp bad x v):RS E w F kv' fp' bad' (x.rB f) v:=by
 cases x with
 |v x=>
  obtain⟨vs,h1,h2⟩:=h
  exact⟨vs,h1.rB (fun y hy k hky=>hb k (SV.mem_keys.2 ⟨y,hy,hky⟩)) (fun y hy k hky=>hk k (SV.mem_keys.2 ⟨y,hy,hky⟩)),h2⟩
 |tX xs=>
  obtain⟨vs,h1,h2,h3⟩:=h
  refine⟨vs,h1,by simpa using h2,fun i x u hx hu=> ?_⟩
  rw[mE] at hx
  cases hy:xs[i]? with
  |none=>rw[hy] at hx;cases hx
  |some y=>
   rw[hy] at hx;cases hx
   have hm:=Ep hy
   obtain⟨us,g1,g2⟩:=h3 i y u hy hu
   exact⟨us,g1.rB (fun z hz k VZ=>hb k (SV.mem_keys.2 ⟨z,ln.2 ⟨y,hm,hz⟩,VZ⟩)) (fun z hz k VZ=>hk k (SV.mem_keys.2 ⟨z,ln.2 ⟨y,hm,hz⟩,VZ⟩)),g2⟩
 |fn p=>exact h
 |El g xs=>
  obtain⟨vs,h1,h2,h3⟩:=h
  refine⟨vs,h1,by simpa using h2,fun i x u hx hu=> ?_⟩
  rw[mE] at hx
  cases hy:xs[i]? with
  |none=>rw[hy] at hx;cases hx
  |some y=>
   rw[hy] at hx;cases hx
   have hm:=Ep hy
   obtain⟨us,g1,g2⟩:=h3 i y u hy hu
   exact⟨us,g1.rB (fun z hz k VZ=>hb k (SV.mem_keys.2 ⟨z,ln.2 ⟨y,hm,hz⟩,VZ⟩)) (fun z hz k VZ=>hk k (SV.mem_keys.2 ⟨z,ln.2 ⟨y,hm,hz⟩,VZ⟩)),g2⟩
theorem Sb{β γ:Type}{g:β->γ}:∀{l:List (Nat×Option β)}{s:Nat},look (l.map fun p=>(p.1,p.2.map g)) s=(look l s).map g
 |[],s=>rfl
 |(t,v)::r,s=>by
  simp only[rl,look]
  cases Nat.beq t s
  ·exact Sb
  ·rfl
theorem amL(h:cd E pm F kv fp σ a w)(hc:ej E w F kv fp σ a)(hn:(σ.iZ.map (·.1)).Nodup)(VH:∀p∈σ.iZ,p.2.isSome=true){l:List (Key×Key)}{S:Key->Prop}
  (hSn:∀k,Names σ k->S k) (hSl:∀k,(σ.aU k).isSome=true->S k) (aaW:∀k k',S k->S k'->vw l k=vw l k'->k=k') (Ey:∀k,2000000<=k.1->k.2<1024->∀k0,vw l k0=k->k0=k):
  ∃kv' fp',cd E pm F kv' fp' (rename l σ) a w:=by
 classical
 generalize hf:vw l=f at aaW Ey
 have fQ:∀p∈σ.iZ,(σ.aU p.1).isSome=true:=by
  rintro⟨k,v⟩ hp
  have:=VH _ hp
  cases v with
  |none=>cases this
  |some e=>unfold ah.aU;rw[OS hn hp];rfl
 have aau:(rename l σ).iZ=σ.iZ.map fun(k,e)=>(f k,e.map (eX.rB f)):=by rw[<-hf];rfl
 have aay:(rename l σ).bw=σ.bw.map fun(s,v)=>(s,v.map (SV.rB f)):=by rw[<-hf];rfl
 have qi:((rename l σ).iZ.map (·.1)).Nodup:=by
  rw[aau,List.map_map]
  have:(σ.iZ.map ((·.1)∘fun((k,e):Key×Option (eX U))=>(f k,e.map (eX.rB f))))=(σ.iZ.map (·.1)).map f:=by
   rw[List.map_map];rfl
  rw[this]
  rw[zdg,List.pairwise_map]
  rw[zdg] at hn
  refine List.Pairwise.imp_of_mem (fun{k k'} hk bp cO he=>cO ?_) hn
  obtain⟨p,hp,rfl⟩:=jX.1 hk
  obtain⟨p',jf,rfl⟩:=jX.1 bp
  exact aaW _ _ (hSl _ (fQ p hp)) (hSl _ (fQ p' jf)) he
 have eF:∀k' e',(rename l σ).aU k'=some e'↔∃k e,σ.aU k=some e/\k'=f k/\e'=e.rB f:=by
  intro k' e'
  constructor
  ·intro he
   have hm:=yV he
   rw[aau] at hm
   obtain⟨⟨k,v⟩,hp,hx⟩:=jX.1 hm
   simp only[kG] at hx
   obtain⟨h1,h2⟩:=hx
   cases v with
   |none=>cases h2
   |some e=>cases h2;exact⟨k,e,OS hn hp,h1.symm,rfl⟩
  ·rintro⟨k,e,he,rfl,rfl⟩
   refine OS qi ?_
   rw[aau]
   exact jX.2 ⟨(k,some e),yV he,rfl⟩
 have qk:∀s,(rename l σ).get s=(σ.get s).map (SV.rB f):=by
  intro s
  show look (rename l σ).bw s=_
  rw[aay]
  exact Sb
 let g:Key->Key:=fun k'=>if h:∃k,S k/\f k=k' then h.choose else k'
 have hg:∀k,S k->g (f k)=k:=by
  intro k hk
  have hx:∃k1,S k1/\f k1=f k:=⟨k,hk,rfl⟩
  have:g (f k)=hx.choose:=by simp only[g];rw[dif_pos hx]
  rw[this]
  exact aaW _ _ hx.choose_spec.1 hk hx.choose_spec.2
 have wU:∀k,Names σ k->(fun k'=>kv (g k')) (f k)=kv k/\(fun k'=>fp (g k')) (f k)=fp k:=by
  intro k hk
  simp only
  rw[hg k (hSn k hk)]
  exact⟨rfl,rfl⟩
 have Dn:∀{k:Key}{e:eX U},σ.aU k=some e->g (f k)=k:=fun he=>hg _ (hSl _ (by rw[he];rfl))
 refine⟨fun k'=>kv (g k'),fun k'=>fp (g k'),?_⟩
 ·refine⟨h.size,h.defers,fun s x' hs=> ?_,fun k' e' he=> ?_,fun k1 k2 e1 e2 b cO h1 h2=> ?_,fun k' e' he=> ?_,fun k' e' b he=> ?_,h.lT,h.ny,h.upto,fun k v hpk=> ?_,h.lay,?_⟩
  rotate_left 6
  ·obtain⟨tk,ht⟩:=h.bQ
   have hl:∀{e:eX U},(e.rB f).wk=true->e.wk=true/\e.rB f=e:=fun{e} hh=>by cases e<;>first|exact⟨hh,rfl⟩|cases hh
   refine⟨fun k'=>tk (g k'),fun k' e' dr pT=> ?_,fun k' e' dr pT=> ?_,fun k1 k2 e1 e2 b cO h1 h2 zS pf=> ?_,fun k' e' b dr pT=> ?_⟩
   ·obtain⟨k,e,h1,rfl,rfl⟩:=(eF k' e').1 dr
    simp only[Dn h1,(hl pT).2]
    exact ht.str k e h1 (hl pT).1
   ·obtain⟨k,e,h1,rfl,rfl⟩:=(eF k' e').1 dr
    simp only[Dn h1]
    exact ht.nodup k e h1 (hl pT).1
   ·obtain⟨k,e,g1,rfl,rfl⟩:=(eF k1 e1).1 h1
    obtain⟨k',e',g2,rfl,rfl⟩:=(eF k2 e2).1 h2
    simp only[Dn g1,Dn g2]
    exact ht.apart k k' e e' b (fun e=>cO (by rw[e])) g1 g2 (hl zS).1 (hl pf).1
   ·obtain⟨k,e,h1,rfl,rfl⟩:=(eF k' e').1 dr
    simp only[Dn h1]
    exact ht.own k e b h1 (hl pT).1
  ·rw[qk] at hs
   cases hx:σ.get s with
   |none=>rw[hx] at hs;cases hs
   |some x=>
    rw[hx] at hs;cases hs
    exact(hc.bw s x hx).rB (fun k hk=>rfl) (fun k hk=>wU k (.inl ⟨s,x,hx,hk⟩))
  ·obtain⟨k,e,h1,rfl,rfl⟩:=(eF k' e').1 he
   have h0:=hc.cT k e h1
   simp only[Dn h1]
   cases e with
   |arr x deep=>exact h0
   |part x dead=>exact h0
   |box cs=>
    obtain⟨b,cur,e',g1,g2,g3,g4⟩:=h0
    exact⟨b,cur,e',g1,g2,g3,g4.rB (fun y hy k' bp=>rfl) (fun y hy k' bp=>wU k' (.inr ⟨k,cs,.inl h1,y,hy,bp⟩))⟩
   |nA x i y=>
    obtain⟨g1,g2,g3,b,n,c,u,g4,g5,g6,g7⟩:=h0
    exact⟨g1,g2,g3,b,n,c,u,g4,g5,g6,g7.1,.inr ((bG g7 (Ip fun _ _=>rfl)).rB (fun k' bp=>wU k' (.inr ⟨k,[y],.inr ⟨x,i,y,h1,rfl⟩,y,by simp,bp⟩)))⟩
   |li x=>trivial
   |Dw x i=>trivial
   |fz x=>trivial
  ·obtain⟨k,e,g1,rfl,rfl⟩:=(eF k1 e1).1 h1
   obtain⟨k',e',g2,rfl,rfl⟩:=(eF k2 e2).1 h2
   simp only[Dn g1,Dn g2]
   exact h.apart k k' e e' b (fun e=>cO (by rw[e])) g1 g2
  ·obtain⟨k,e,g1,rfl,rfl⟩:=(eF k' e').1 he
   simp only[Dn g1]
   exact h.nodup k e g1
  ·obtain⟨k,e,g1,rfl,rfl⟩:=(eF k' e').1 he
   simp only[Dn g1]
   exact h.cU k e b g1
  ·obtain⟨p1,p2,p3,p4⟩:=h.HW k v hpk
   have:g k=k:=by
    by_cases hx:∃k1,S k1/\f k1=k
    ·have e:g k=hx.choose:=by simp only[g];rw[dif_pos hx]
     rw[e]
     exact Ey k p1 p2 _ hx.choose_spec.2
    ·simp only[g];rw[dif_neg hx]
   exact⟨p1,p2,p3,by simp only[this];exact p4⟩
theorem am1(bad:Key->Bool)(σ:ah U):((sM bad σ).iZ.map (·.1)).Nodup/\∀p∈(sM bad σ).iZ,p.2.isSome=true:=by
 refine⟨Sa MQ.1,fun p hp=> ?_⟩
 have hm:=(CD.1 hp).1
 have:∀{l:List (Key×Option (eX U))}{seen:List Key},∀p∈nK seen l,p.2.isSome=true:=by
  intro l
  induction l with
  |nil=>intro seen p hp;simp[nK] at hp
  |cons q l ih=>
   obtain⟨k,v⟩:=q
   intro seen p hp
   simp only[nK] at hp
   cases hs:seen.any (fU k)<;>rw[hs] at hp<;>simp only[cond_true,cond_false] at hp
   ·cases v with
    |none=>exact ih p hp
    |some x=>
     rcases h_.1 hp with rfl|hp
     ·rfl
     ·exact ih p hp
   ·exact ih p hp
 exact this p hm
theorem MT(h:cd E pm F kv fp σ a w)(bad:Key->Bool):ej E w F kv fp (sM bad σ) a:=by
 refine⟨fun s x hs=> ?_,fun k e he=> ?_⟩
 ·obtain⟨h1,h2,_⟩:=OR.1 hs
  exact(h.bw s x h1).mV (fun y hy=>(Il h2 hy).1)
 ·obtain⟨h1,h2,h3⟩:=Es he
  have h0:=h.cT k e h1
  cases e with
  |arr x deep=>exact h0
  |part x dead=>exact h0
  |box cs=>
   obtain⟨b,cur,e',g1,g2,g3,g4⟩:=h0
   exact⟨b,cur,e',g1,g2,g3,g4.mV (fun y hy=>(Il (h3 cs (.inl rfl)) (x:=.v ⟨true,cs⟩) hy).1)⟩
  |nA x i y=>
   obtain⟨g1,g2,g3,b,n,c,u,g4,g5,g6,g7⟩:=h0
   exact⟨g1,g2,g3,b,n,c,u,g4,g5,g6,g7.mV (Il (h3 [y] (.inr ⟨x,i,y,rfl,rfl⟩)) (x:=.v ⟨true,[y]⟩) (y:=y) (by simp[SV.xE])).1⟩
  |li x=>trivial
  |Dw x i=>trivial
  |fz x=>trivial
theorem R9:∀{l:List (Key×Key)}{k:Key},(∃b,(k,b)∈l/\vw l k=b)\/((∀b,(k,b)∉l)/\vw l k=k)
 |[],k=> .inr ⟨fun b hb=>(rh hb).elim,rfl⟩
 |(a,b)::r,k=>by
  simp only[vw]
  cases h:fU a k
  ·simp only[cond_false]
   rcases R9 (l:=r) (k:=k) with⟨c,h1,h2⟩|⟨h1,h2⟩
   ·exact .inl ⟨c,aJ _ h1,h2⟩
   ·refine .inr ⟨fun c hc=> ?_,h2⟩
    rcases h_.1 hc with hc|hc
    ·cases hc;rw[qd] at h;cases h
    ·exact h1 c hc
  ·have:=lM.1 h
   subst this
   exact .inl ⟨b,cH,rfl⟩
theorem ac'(h:∃kv fp,cd E pm F kv fp σ a w)(l0:List (Key×Key)):∃kv fp,cd E pm F kv fp (qD l0 σ) a w:=by
 unfold qD
 simp only
 rw[fc]
 split
 ·exact h
 ·rename_i mU
  generalize hl:(l0.filter fun(a,b)=> !(fU a b)&& !(Nat.ble 2000000 a.1&&Nat.blt a.2 1024))=l at mU⊢
  simp only[Ee,not_or,Al,Bool.not_eq_false'] at mU
  obtain⟨⟨⟨h1,h2⟩,h3⟩,h4⟩:=mU
  obtain⟨kv,fp,hs⟩:=h
  have htn:(l.map (·.2)).Nodup:=sV.1 h3
  have han:(l.map (·.1)).Nodup:=sV.1 h2
  obtain⟨t1,t2⟩:=am1 (fun k=>(l.map (·.2)).any (fU k)) σ
  refine amL (CR hs _) (MT hs _) t1 t2 (S:=fun k=>k∉l.map (·.2)) (fun k hk=> ?_) (fun k hk=> ?_) (fun k k' hk bp he=> ?_) (fun k p1 p2 k0 he=> ?_)
  ·have:=(adp hk).1
   exact fun hm=>by rw[nP.2 hm] at this;cases this
  ·obtain⟨e,he⟩:=kH.1 hk
   have:=(Es he).2.1
   exact fun hm=>by rw[nP.2 hm] at this;cases this
  ·rcases R9 (l:=l) (k:=k) with⟨b,g1,g2⟩|⟨g1,g2⟩<;>rcases R9 (l:=l) (k:=k') with⟨b',g1',g2'⟩|⟨g1',g2'⟩
   ·rw[g2,g2'] at he
    subst he
    obtain⟨i,hi,od⟩:=zG g1
    obtain⟨j,hj,pg⟩:=zG g1'
    have H2:i=j:=by
     refine(List.getElem_inj (h₀:=by simpa using hi) (h₁:=by simpa using hj) htn).1 ?_
     simp[od,pg]
    subst H2
    rw[od] at pg
    exact(Prod.mk.inj pg).1
   ·rw[g2,g2'] at he
    subst he
    exact absurd (jX.2 ⟨_,g1,rfl⟩) bp
   ·rw[g2,g2'] at he
    subst he
    exact absurd (jX.2 ⟨_,g1',rfl⟩) hk
   ·rw[g2,g2'] at he
    exact he
  ·rcases R9 (l:=l) (k:=k0) with⟨b,g1,g2⟩|⟨g1,g2⟩
   ·exfalso
    have:=FU.1 h4 _ g1
    simp only[Vn] at this
    rw[g2] at he
    subst he
    omega
   ·rw[g2] at he;exact he
theorem ada(h:∃kv fp,cd E pm F kv fp σ a w)(d:Nat):∃kv fp,cd E pm F kv fp (rr d σ) a w:=by
 unfold rr
 split
 ·exact ac' h _
 ·exact h
theorem amy(h:∃kv fp,cd E pm F kv fp σ a w)(k:Key):∃kv fp,cd E pm F kv fp (wx k σ) a w:=by
 unfold wx
 split
 ·exact ac' h _
 ·exact h
theorem ZD:∀{l:List Key}{τ:ah U},(∃kv fp,cd E pm F kv fp τ a w)->∃kv fp,cd E pm F kv fp (ww l τ) a w
 |[],τ,h=>h
 |k::l,τ,h=>ZD (l:=l) (amy h k)
theorem amw(h:cd E pm F kv fp σ a w)(ops:List Oper):∃kv fp,cd E pm F kv fp (settle ops σ) a w:=by
 unfold settle
 simp only
 refine ZD ?_
 have h0:∃kv fp,cd E pm F kv fp (me σ) a w:=⟨kv,fp,CR h _⟩
 generalize me σ=τ at h0
 generalize assigned ops=l
 induction l generalizing τ with
 |nil=>exact h0
 |cons d l ih=>exact ih _ (ada h0 d)
theorem OU{β:Type}(f:β->β):∀(l:List (Nat×Option β))(s:Nat),look (l.map fun(t,v)=>(t,v.map f)) s=(look l s).map f
 |[],s=>rfl
 |(t,v)::r,s=>by
  simp only[rl,look]
  cases h:Nat.beq t s<;>simp only[cond_true,cond_false]
  exact OU f r s
theorem ZT{β:Type}(f:β->β):∀(l:List (Key×Option β))(s:Key),cm (l.map fun(t,v)=>(t,v.map f)) s=(cm l s).map f
 |[],s=>rfl
 |(t,v)::r,s=>by
  simp only[rl,cm]
  cases h:fU t s<;>simp only[cond_true,cond_false]
  exact ZT f r s
theorem ac4{bad':Key->Bool}(k:Key):mz w w kv kv fp fp (fun _=>false) bad' k:=⟨rfl,.inr ⟨rfl,rfl,fun _ _=> .of rfl⟩⟩
theorem RD.fr{k0:Key}{c:U.C}{bad':Key->Bool}{x:AC U}{v:Value}(h:RD E w F kv fp (fun _=>false) x v)(hF:∀b,F b->F' b)
  (hc:Rp E w F' false c (kv k0) []):RD E w F' kv fp bad' (EG k0 c x) v:=by
 have hm:RD E w F' kv fp bad' x v:=h.move (fun k _=>ac4 k) (fun b hb=>⟨hF b hb,rfl⟩)
 unfold EG
 split
 ·rename_i k
  rw[fc]
  split
  ·rename_i hk
   have:=lM.1 hk
   subst this
   refine⟨h.1,.inr ?_⟩
   have h2:=h.2
   simp only[gg,List.isEmpty_nil,zfa,mD,yN,false_or,RA,mg] at h2
   rw[h2];exact hc
  ·exact hm
 ·exact hm
theorem kS.fr{k0:Key}{c:U.C}{bad':Key->Bool}{xs:List (AC U)}{vs:List Value}(h:kS E w F kv fp (fun _=>false) xs vs)(hF:∀b,F b->F' b)
  (hc:Rp E w F' false c (kv k0) []):kS E w F' kv fp bad' (xs.map (EG k0 c)) vs:=by
 refine⟨by simpa using h.1,fun i x v hx hv=> ?_⟩
 rw[mE] at hx
 cases hy:xs[i]? with
 |none=>rw[hy] at hx;cases hx
 |some y=>
  rw[hy] at hx;cases hx
  exact(h.2 i y v hy hv).fr hF hc
theorem RS.fr{k0:Key}{c:U.C}{bad':Key->Bool}{x:SV U}{v:Value}(h:RS E w F kv fp (fun _=>false) x v)(hF:∀b,F b->F' b)
  (hc:Rp E w F' false c (kv k0) []):RS E w F' kv fp bad' (K3 k0 c x) v:=by
 have hm:RS E w F' kv fp bad' x v:=h.move (fun k _=>ac4 k) (fun b hb=>⟨hF b hb,rfl⟩)
 cases x with
 |v x=>
  obtain⟨vs,h1,h2⟩:=h
  exact⟨vs,h1.fr hF hc,h2⟩
 |tX xs=>exact hm
 |fn p=>exact hm
 |El g xs=>exact hm
theorem lm.fr{k0:Key}{c:U.C}{bad':Key->Bool}{x:eX U}{v:Value}{l:List Nat}(h:lm E w F kv fp (fun _=>false) x v l)(hF:∀b,F b->F' b)
  (hc:Rp E w F' false c (kv k0) []):lm E w F' kv fp bad' (vm k0 c x) v l:=by
 cases x with
 |arr a d=>exact cF.cI h (fun b hb=>⟨hF b hb,rfl⟩) (fun _ _=>rfl)
 |part a d=>exact cM.cI h (fun b hb=>⟨hF b hb,rfl⟩) (fun _ _=>rfl)
 |box cs=>
  obtain⟨b,cur,e',g1,g2,g3,g4⟩:=h
  exact⟨b,cur,e',g1,g2,g3,g4.fr hF hc⟩
 |nA a i y=>
  obtain⟨g1,g2,g3,b,n,c,u,g4,g5,g6,g7⟩:=h
  exact⟨cM.cI g1 (fun b hb=>⟨hF b hb,rfl⟩) (fun _ _=>rfl),g2,g3,b,n,c,u,g4,g5,g6,g7.fr hF hc⟩
 |li a=>trivial
 |Dw a i=>trivial
 |fz a=>trivial
theorem lm.GU{bad':Key->Bool}{x:eX U}{v:Value}{l:List Nat}(h:lm E w F kv fp (fun _=>false) x v l):lm E w F kv fp bad' x v l:=by
 cases x with
 |arr a d=>exact h
 |part a d=>exact h
 |box cs=>
  obtain⟨b,cur,e',g1,g2,g3,g4⟩:=h
  exact⟨b,cur,e',g1,g2,g3,g4.mV (fun y hy=>Ip fun _ _=>rfl)⟩
 |nA a i y=>
  obtain⟨g1,g2,g3,b,n,c,u,g4,g5,g6,g7⟩:=h
  exact⟨g1,g2,g3,b,n,c,u,g4,g5,g6,g7.mV (Ip fun _ _=>rfl)⟩
 |li a=>trivial
 |Dw a i=>trivial
 |fz a=>trivial
theorem an4{k0:Key}{c:U.C}{e:eX U}(h:(vm k0 c e).wk=true):e.wk=true/\vm k0 c e=e:=by
 cases e<;>first|exact⟨h,rfl⟩|cases h
theorem adP(h:cd E pm F kv fp σ a w)(hc:ej E w F kv fp σ a)(k0:Key):∃F,cd E pm F kv fp (kO k0 σ) a w/\ej E w F kv fp (kO k0 σ) a:=by
 unfold kO
 split
 rotate_left
 ·exact⟨F,h,hc⟩
 rename_i ar d he
 have hs:Rp E w (fun b=>F b\/b∈fp k0) false (.sl ar.τ ar.xs) (kv k0) []:=cF.i_ (hc.cT k0 _ he) (fun b hb=> .inl hb) (fun b hb=> .inr hb)
 have hF:∀b,F b->(fun b=>F b\/b∈fp k0) b:=fun b hb=> .inl hb
 have eF:∀k e,cm ((k0,none)::σ.iZ.map fun(k,e)=>(k,e.map (vm k0 (.sl ar.τ ar.xs)))) k=some e->k≠k0/\∃e0,σ.aU k=some e0/\e=vm k0 (.sl ar.τ ar.xs) e0:=by
  intro k e hk
  simp only[cm] at hk
  cases hq:fU k0 k<;>simp only[hq,cond_true,cond_false] at hk
  ·rw[ZT] at hk
   cases hl:cm σ.iZ k with
   |none=>rw[hl] at hk;cases hk
   |some e0=>rw[hl] at hk;cases hk;exact⟨fun e=>(wA.1 hq) e.symm,e0,hl,rfl⟩
  ·cases hk
 have qk:∀s x,look (σ.bw.map fun(s,v)=>(s,v.map (K3 k0 (.sl ar.τ ar.xs)))) s=some x->∃x0,σ.get s=some x0/\x=K3 k0 (.sl ar.τ ar.xs) x0:=by
  intro s x hx
  rw[OU] at hx
  cases hl:look σ.bw s with
  |none=>rw[hl] at hx;cases hx
  |some x0=>rw[hl] at hx;cases hx;exact⟨x0,hl,rfl⟩
 refine⟨fun b=>F b\/b∈fp k0,⟨h.size,h.defers,fun s x hx=> ?_,fun k e hk=> ?_,fun k k' e e' b cO h1 h2=> ?_,fun k e hk=> ?_,fun k e b hk hb=> ?_,fun b hb=> ?_,fun b hb=> ?_,h.upto,h.HW,h.lay.cI (fun b hb=>⟨.inl hb,rfl⟩),h.bQ.imp fun tk ht=>ht.cI (fun k e hk hl=>by
   obtain⟨_,e0,iX,rfl⟩:=eF k e hk
   obtain⟨q1,q2⟩:=an4 hl
   rw[q2]
   exact⟨iX,rfl,rfl,fun _ _=>rfl⟩) (fun b hb=>⟨.inl hb,rfl⟩)⟩,⟨fun s x hx=> ?_,fun k e hk=> ?_⟩⟩
 ·obtain⟨x0,N_,rfl⟩:=qk s x hx
  exact(hc.bw s x0 N_).fr hF hs
 ·obtain⟨cO,e0,iX,rfl⟩:=eF k e hk
  exact(hc.cT k e0 iX).fr hF hs
 ·obtain⟨_,e0,iX,_⟩:=eF k e h1
  obtain⟨_,e0',aa4,_⟩:=eF k' e' h2
  exact h.apart k k' e0 e0' b cO iX aa4
 ·obtain⟨_,e0,iX,_⟩:=eF k e hk
  exact h.nodup k e0 iX
 ·obtain⟨cO,e0,iX,_⟩:=eF k e hk
  obtain⟨m1,m2,m3⟩:=h.cU k e0 b iX hb
  exact⟨fun hh=>hh.elim m1 (fun hh=>h.apart k k0 e0 _ b cO iX he hb hh),m2,m3⟩
 ·exact hb.elim (h.lT b) (fun hb=>(h.cU k0 _ b he hb).2.2)
 ·exact hb.elim (h.ny b) (fun hb=> .inr (h.cU k0 _ b he hb).2.1)
 ·obtain⟨x0,N_,rfl⟩:=qk s x hx
  exact(hc.bw s x0 N_).fr hF hs
 ·obtain⟨cO,e0,iX,rfl⟩:=eF k e hk
  exact(hc.cT k e0 iX).fr hF hs
theorem Z1:∀{l:List Nat}{σ:ah U},(∃F kv fp,cd E pm F kv fp σ a w/\ej E w F kv fp σ a)->∃F kv fp,cd E pm F kv fp (pW l σ) a w/\ej E w F kv fp (pW l σ) a
 |[],σ,h=>h
 |s::l,σ,h=>by
  refine Z1 (l:=l) (σ:=rK s σ) ?_
  obtain⟨F,kv,fp,h1,h2⟩:=h
  unfold rK
  split
  ·obtain⟨F',h3⟩:=adP h1 h2 _
   exact⟨F',kv,fp,h3⟩
  ·exact⟨F,kv,fp,h1,h2⟩
theorem Z5{k0:Key}{c:U.C}{x:AC U}{k:Key}(h:k∈(EG k0 c x).keys):k∈x.keys:=by
 unfold EG at h
 split at h
 ·rename_i q
  rw[fc] at h
  split at h
  ·simp[AC.keys] at h
  ·exact h
 ·exact h
theorem an3{k0:Key}{c:U.C}{x:SV U}{k:Key}(h:k∈(K3 k0 c x).keys):k∈x.keys:=by
 cases x with
 |v x=>
  obtain⟨y,hy,hk⟩:=SV.mem_keys.1 h
  simp only[K3,SV.xE,jX] at hy
  obtain⟨z,hz,rfl⟩:=hy
  exact SV.mem_keys.2 ⟨z,hz,Z5 hk⟩
 |tX xs=>exact h
 |fn p=>exact h
 |El g xs=>exact h
theorem adQ{k0 k:Key}(h:Names (kO k0 σ) k):Names σ k:=by
 unfold kO at h
 split at h
 rotate_left
 ·exact h
 rcases h with⟨s,x,hs,hk⟩|⟨k',cs,he,x,hx,hk⟩
 ·have hs:look (σ.bw.map _) s=some x:=hs
  rw[OU] at hs
  cases hl:look σ.bw s with
  |none=>rw[hl] at hs;cases hs
  |some y=>rw[hl] at hs;cases hs;exact .inl ⟨s,y,hl,an3 hk⟩
 ·rename_i ar d _
  have aeP:∀e0:eX U,cm ((k0,none)::σ.iZ.map fun(k,e)=>(k,e.map (vm k0 (.sl ar.τ ar.xs)))) k'=some e0->∃e,σ.aU k'=some e/\e0=vm k0 (.sl ar.τ ar.xs) e:=by
   intro e0 he
   simp only[cm] at he
   cases hq:fU k0 k'<;>simp only[hq,cond_true,cond_false] at he
   ·rw[ZT] at he
    cases hl:cm σ.iZ k' with
    |none=>rw[hl] at he;cases he
    |some e=>rw[hl] at he;cases he;exact⟨e,hl,rfl⟩
   ·cases he
  rcases he with he|⟨a,i,y,he,lh⟩
  ·obtain⟨e,hl,he⟩:=aeP _ he
   cases e with
   |box cs0=>
    simp only[vm,eX.box.injEq] at he
    subst he
    obtain⟨z,hz,rfl⟩:=jX.1 hx
    exact .inr ⟨k',cs0,.inl hl,z,hz,Z5 hk⟩
   |_=>cases he
  ·obtain⟨e,hl,he⟩:=aeP _ he
   cases e with
   |nA a' i' y'=>
    simp only[vm,eX.nA.injEq] at he
    obtain⟨rfl,rfl,rfl⟩:=he
    subst lh
    rw[g_.1 hx] at hk
    exact .inr ⟨k',[y'],.inr ⟨a,i,y',hl,rfl⟩,y',by simp,Z5 hk⟩
   |_=>cases he
theorem adN{k:Key}:∀{l:List Nat}{σ:ah U},Names (pW l σ) k->Names σ k
 |[],σ,h=>h
 |s::l,σ,h=>by
  have h2:Names (rK s σ) k:=adN (l:=l) h
  unfold rK at h2
  split at h2
  ·exact adQ h2
  ·exact h2
theorem Z3:∀{l:List Key}{σ:ah U},(∃F kv fp,cd E pm F kv fp σ a w/\ej E w F kv fp σ a)->∃F kv fp,cd E pm F kv fp (qW l σ) a w/\ej E w F kv fp (qW l σ) a
 |[],σ,h=>h
 |s::l,σ,h=>by
  refine Z3 (l:=l) (σ:=kO s σ) ?_
  obtain⟨F,kv,fp,h1,h2⟩:=h
  obtain⟨F',h3⟩:=adP h1 h2 s
  exact⟨F',kv,fp,h3⟩
theorem adO{k:Key}:∀{l:List Key}{σ:ah U},Names (qW l σ) k->Names σ k
 |[],σ,h=>h
 |s::l,σ,h=>adQ (adO (l:=l) (σ:=kO s σ) h)
theorem aoo(h:cd E pm F kv fp σ a w)(E':Env U)(ops:List Oper):∃F kv fp,cd E pm F kv fp (DC E' ops σ) a w:=by
 obtain⟨F',kv',fp',h1,_⟩:=Z3 (l:=Mc ops (pW (LQ E' ops) (enter ops σ))) (Z1 (l:=LQ E' ops) (σ:=enter ops σ) ⟨F,kv,fp,aom h ops,MT h _⟩)
 exact⟨F',kv',fp',h1⟩
theorem adX{E':Env U}{ops:List Oper}{k:Key}(h:Names (DC E' ops σ) k)(hd:k.1∈As ops\/k.1=1000000):1024<=k.2:=aon (adN (adO h)) hd
theorem amu(h:cd E pm F kv fp σ a w)(k0:Key):∃F' fp',cd E pm F' kv fp' (CJ k0 σ) a w:=by
 unfold CJ
 split
 rotate_left
 ·exact⟨F,fp,h⟩
 rename_i ar he
 have eF:∀k e,cm ((k0,some (eX.arr ar false))::σ.iZ) k=some e->(k=k0/\e=eX.arr ar false)\/(k≠k0/\σ.aU k=some e):=by
  intro k e hk
  simp only[cm] at hk
  cases hq:fU k0 k<;>simp only[hq,cond_true,cond_false] at hk
  ·exact .inr ⟨fun e=>(wA.1 hq) e.symm,hk⟩
  ·cases hk;exact .inl ⟨(lM.1 hq).symm,rfl⟩
 have VH:∀k,∃k' e',σ.aU k=some e'\/k'=k:=fun k=>⟨k,.arr ar true,.inr rfl⟩
 obtain⟨F',fp',hF,hF2,yK,nT,oB,kz⟩:∃(F':Nat->Prop)(fp':Key->List Nat),(∀b,F b->F' b)/\(∀b,F' b->F b\/b∈fp k0)/\(∀k,k≠k0->fp' k=fp k)/\(∀b∈fp' k0,b∈fp k0/\¬F' b)/\(fp' k0).Nodup/\cF E w F' false ar (kv k0) (fp' k0):=by
  have ho:cF E w F true ar (kv k0) (fp k0):=h.cT k0 _ he
  have hn:=h.nodup k0 _ he
  rcases ho with⟨h1,h2,h3⟩|⟨b,cap,cur,vs,dH,h1,h2,h3,h4,h5,h6,h7,h8⟩
  ·exact⟨F,fp,fun _ hb=>hb,fun b hb=> .inl hb,fun _ _=>rfl,fun b hb=>(by rw[h3] at hb;cases hb),hn,.inl ⟨h1,h2,h3⟩⟩
  ·rw[h8,pH] at hn
   refine⟨fun c=>F c\/(c∈fp k0/\c≠b),fun k=>if fU k k0=true then[b] else fp k,fun _ hb=> .inl hb,fun c hc=>hc.imp id fun g=>g.1,fun k hk=> ?_,fun c hc=> ?_,?_,?_⟩
   ·dsimp only;rw[if_neg (by rw[lM];exact hk)]
   ·dsimp only at hc;rw[if_pos (qd _),g_] at hc
    subst hc
    have hm:c∈fp k0:=by rw[h8];exact cH
    exact⟨hm,fun g=>g.elim (h.cU k0 _ c he hm).1 fun g=>g.2 rfl⟩
   ·dsimp only;rw[if_pos (qd _)];simp
   ·dsimp only;rw[if_pos (qd _)]
    refine .inr ⟨b,cap,cur,vs,fun _=>[],h1,h2,h3,h4,h5,h6,fun i x j c hx hj=> ?_,by simp⟩
    have fx:i*U.wd ar.τ+j<ar.xs.length*U.wd ar.τ:=eI hx hj
    refine(h7 i x j c hx hj).i_ (fun b hb=> .inl hb) fun b' aI=> .inr ?_
    have pa:b'∈(List.range (ar.xs.length*U.wd ar.τ)).flatMap dH:=ln.2 ⟨_,oh.2 fx,aI⟩
    exact⟨by rw[h8];exact aJ _ pa,fun e=>hn.1 (by rw[<-e];exact pa)⟩
 have mF:∀b,F b->F' b/\w.heap[b]? =w.heap[b]? :=fun b hb=>⟨hF b hb,rfl⟩
 have nd:∀k,mz w w kv kv fp fp' (aZ σ) (aZ ({σ with iZ:=(k0,some (eX.arr ar false))::σ.iZ,ay:=k0::σ.ay}:ah U)) k:=by
  intro k
  refine⟨rfl,?_⟩
  by_cases hk:k=k0
  ·left
   subst hk
   simp[aZ,qd]
  ·cases hb:aZ σ k
   ·right;exact⟨rfl,yK k hk,fun _ _=> .of rfl⟩
   ·left
    simp only[aZ,Ee] at hb⊢
    rcases hb with hb|hb
    ·left;rw[Rs,hb,Bool.or_true]
    ·right
     show(cm ((k0,some (eX.arr ar false))::σ.iZ) k).isNone=true
     have hq:fU k0 k=false:=wA.2 fun e=>hk e.symm
     simp only[cm,hq,cond_false]
     exact hb
 have mT:∀k e b,σ.aU k=some e->k≠k0->b∈fp k->¬F' b:=fun k e b GF hk hb aI=>by
  rcases hF2 b aI with g|g
  ·exact(h.cU k e b GF hb).1 g
  ·exact h.apart k k0 e _ b hk GF he hb g
 refine⟨F',fp',⟨h.size,h.defers,fun s x hx=>(h.bw s x hx).move (fun k _=>nd k) mF,fun k e hk=> ?_,fun k k' e e' b cO h1 h2 hb=> ?_,fun k e hk=> ?_,fun k e b hk hb=> ?_,fun b hb=> ?_,fun b hb=> ?_,h.upto,h.HW,h.lay.cI mF,h.bQ.imp fun tk ht=>ht.cI (fun k e hk hl=>by
   rcases eF k e hk with⟨rfl,rfl⟩|⟨cO,GF⟩
   ·cases hl
   ·exact⟨GF,rfl,yK k cO,fun _ _=>rfl⟩) mF⟩⟩
 ·rcases eF k e hk with⟨rfl,rfl⟩|⟨cO,GF⟩
  ·exact kz
  ·rw[yK k cO]
   have h1:=h.cT k e GF
   cases e with
   |arr a d=>exact cF.cI h1 mF (fun _ _=>rfl)
   |part a d=>exact cM.cI h1 mF (fun _ _=>rfl)
   |box cs=>
    obtain⟨b,cur,e',g1,g2,g3,g4⟩:=h1
    exact⟨b,cur,e',g1,g2,g3,g4.move (fun _ _ k _=>nd k) mF⟩
   |nA x i y=>
    obtain⟨g1,g2,g3,b,n,c,u,g4,g5,g6,g7⟩:=h1
    exact⟨cM.cI g1 mF (fun _ _=>rfl),g2,g3,b,n,c,u,g4,g5,g6,g7.move (fun k _=>nd k) mF⟩
   |li x=>trivial
   |Dw x i=>trivial
   |fz x=>trivial
 ·rcases eF k e h1 with⟨rfl,_⟩|⟨n1,g1⟩
  ·rcases eF k' e' h2 with⟨rfl,_⟩|⟨n2,g2⟩
   ·exact absurd rfl cO
   ·rw[yK k' n2]
    exact h.apart _ k' _ _ b cO he g2 (nT b hb).1
  ·rw[yK k n1] at hb
   rcases eF k' e' h2 with⟨rfl,_⟩|⟨n2,g2⟩
   ·exact fun aI=>h.apart k _ _ _ b cO g1 he hb (nT b aI).1
   ·rw[yK k' n2]
    exact h.apart k k' _ _ b cO g1 g2 hb
 ·rcases eF k e hk with⟨rfl,_⟩|⟨n1,g1⟩
  ·exact oB
  ·rw[yK k n1];exact h.nodup k e g1
 ·rcases eF k e hk with⟨rfl,_⟩|⟨n1,g1⟩
  ·obtain⟨g1,g2⟩:=nT b hb
   exact⟨g2,(h.cU _ _ b he g1).2⟩
  ·rw[yK k n1] at hb
   exact⟨mT k e b g1 n1 hb,(h.cU k e b g1 hb).2⟩
 ·rcases hF2 b hb with g|g
  ·exact h.lT b g
  ·exact(h.cU k0 _ b he g).2.2
 ·rcases hF2 b hb with g|g
  ·exact h.ny b g
  ·exact .inr (h.cU k0 _ b he g).2.1
theorem ac6:∀{l:List Key}{σ:ah U}{F:Nat->Prop}{fp:Key->List Nat},cd E pm F kv fp σ a w->∃F' fp',cd E pm F' kv fp' (l.foldl (fun σ k=>CJ k σ) σ) a w
 |[],_,F,fp,h=>⟨F,fp,h⟩
 |k::l,σ,F,fp,h=>by
  obtain⟨F1,K4,h1⟩:=amu h k
  exact ac6 (l:=l) h1
theorem ams{l:List Key}(h:cd E pm F kv fp σ a w)(hc:ej E w F kv fp σ a):∃F' fp',cd E pm F' kv fp' (Ly l σ) a w/\ej E w F' kv fp' (Ly l σ) a:=by
 cases l with
 |nil=>exact⟨F,fp,h,hc⟩
 |cons k l=>
  obtain⟨F1,K4,h1⟩:=ac6 (l:=k::l) h
  exact⟨F1,K4,CR h1 _,MT h1 _⟩
end AM
