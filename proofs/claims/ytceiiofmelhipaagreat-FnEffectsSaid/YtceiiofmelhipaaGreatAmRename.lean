/- THE ABSTRACT MACHINE: new names for entries. -/
import Derived.Test.YtceiiofmelhipaaGreatAmSettle
namespace AM
set_option linter.unusedVariables false
open Go
variable{U:Uni}{E:Env U}{pm:Pm}
variable{F F':Nat→Prop}{kv kv':Key→Value}{fp fp':Key→List Nat}{σ τ:AState U}{a:Act}{w w':World}
structure Strong(E:Env U)(w:World)(F:Nat→Prop)(kv:Key→Value)(fp:Key→List Nat)(σ:AState U)(a:Act):Prop where
 slots:∀s x,σ.get s=some x→RS E w F kv fp (fun _=>false) x (a.tmps.getD s undef)
 ents:∀k e,σ.ent k=some e→REnt E w F kv fp (fun _=>false) e (kv k) (fp k)
theorem qabs{bad:Key→Bool}{x:AC U}(h:∀k∈x.keys,bad k=false):badAC bad x=false:=by
 cases x with
 |ref k p=>simp[badAC,h k (by simp[AC.keys])]
 |eptr k p i wd off=>simp[badAC,h k (by simp[AC.keys])]
 |_=>rfl
theorem RA.ren{f:Key→Key}{x:AC U}{v:Value}(hk:∀k∈x.keys,kv' (f k)=kv k∧fp' (f k)=fp k)(h:RA E w F kv fp x v):RA E w F kv' fp' (x.ren f) v:=by
 cases x with
 |c x=>exact h
 |e0=>exact h
 |kn b τ xs=>exact h
 |ia cs=>exact h
 |ref k p=>
  obtain⟨h1,h2⟩:=hk k (by simp[AC.keys])
  simp only[AC.ren,RA] at h⊢
  rw[h1,h2];exact h
 |sub k wd lo hi=>
  obtain⟨h1,h2⟩:=hk k (by simp[AC.keys])
  simp only[AC.ren,RA] at h⊢
  rw[h1];exact h
 |eptr k p i wd off=>
  obtain⟨h1,h2⟩:=hk k (by simp[AC.keys])
  simp only[AC.ren,RA] at h⊢
  rw[h1,h2];exact h
 |bptr k off=>
  obtain⟨h1,h2⟩:=hk k (by simp[AC.keys])
  simp only[AC.ren,RA] at h⊢
  rw[h1];exact h
theorem RDs.ren{f:Key→Key}{bad bad':Key→Bool}{xs:List (AC U)}{vs:List Value}(hb:∀y∈xs,∀k∈y.keys,bad k=false)(hk:∀y∈xs,∀k∈y.keys,kv' (f k)=kv k∧fp' (f k)=fp k)
  (h:RDs E w F kv fp bad xs vs):RDs E w F kv' fp' bad' (xs.map (AC.ren f)) vs:=by
 refine⟨by simpa using h.1,fun i x v hx hv=> ?_⟩
 rw[zal] at hx
 cases hy:xs[i]? with
 |none=>rw[hy] at hx;cases hx
 |some y=>
  rw[hy] at hx;cases hx
  have hm:=zbl hy
  have:=h.2 i y v hy hv
  exact⟨this.1,.inr ((RA_of this (qabs (hb y hm))).ren (hk y hm))⟩
theorem RS.ren{f:Key→Key}{bad bad':Key→Bool}{x:SV U}{v:Value}(hb:∀k∈x.keys,bad k=false)(hk:∀k∈x.keys,kv' (f k)=kv k∧fp' (f k)=fp k)
  (h:RS E w F kv fp bad x v):RS E w F kv' fp' bad' (x.ren f) v:=by
 cases x with
 |v x=>
  obtain⟨vs,h1,h2⟩:=h
  exact⟨vs,h1.ren (fun y hy k hky=>hb k (SV.mem_keys.2 ⟨y,hy,hky⟩)) (fun y hy k hky=>hk k (SV.mem_keys.2 ⟨y,hy,hky⟩)),h2⟩
 |tup xs=>
  obtain⟨vs,h1,h2,h3⟩:=h
  refine⟨vs,h1,by simpa using h2,fun i x u hx hu=> ?_⟩
  rw[zal] at hx
  cases hy:xs[i]? with
  |none=>rw[hy] at hx;cases hx
  |some y=>
   rw[hy] at hx;cases hx
   have hm:=zbl hy
   obtain⟨us,g1,g2⟩:=h3 i y u hy hu
   exact⟨us,g1.ren (fun z hz k hkz=>hb k (SV.mem_keys.2 ⟨z,zat.2 ⟨y,hm,hz⟩,hkz⟩)) (fun z hz k hkz=>hk k (SV.mem_keys.2 ⟨z,zat.2 ⟨y,hm,hz⟩,hkz⟩)),g2⟩
 |fn p=>exact h
 |clo g xs=>
  obtain⟨vs,h1,h2,h3⟩:=h
  refine⟨vs,h1,by simpa using h2,fun i x u hx hu=> ?_⟩
  rw[zal] at hx
  cases hy:xs[i]? with
  |none=>rw[hy] at hx;cases hx
  |some y=>
   rw[hy] at hx;cases hx
   have hm:=zbl hy
   obtain⟨us,g1,g2⟩:=h3 i y u hy hu
   exact⟨us,g1.ren (fun z hz k hkz=>hb k (SV.mem_keys.2 ⟨z,zat.2 ⟨y,hm,hz⟩,hkz⟩)) (fun z hz k hkz=>hk k (SV.mem_keys.2 ⟨z,zat.2 ⟨y,hm,hz⟩,hkz⟩)),g2⟩
theorem qahf{β γ:Type}{g:β→γ}:∀{l:List (Nat×Option β)}{s:Nat},look (l.map fun p=>(p.1,p.2.map g)) s=(look l s).map g
 |[],s=>rfl
 |(t,v)::r,s=>by
  simp only[zbt,look]
  cases Nat.beq t s
  ·exact qahf
  ·rfl
theorem qakw(h:Sim E pm F kv fp σ a w)(hc:Strong E w F kv fp σ a)(hn:(σ.tab.map (·.1)).Nodup)(hsome:∀p∈σ.tab,p.2.isSome=true){l:List (Key×Key)}{S:Key→Prop}
  (hSn:∀k,Names σ k→S k) (hSl:∀k,(σ.ent k).isSome=true→S k) (hinj:∀k k',S k→S k'→renF l k=renF l k'→k=k') (hpin:∀k,2000000≤k.1→k.2<1024→∀k0,renF l k0=k→k0=k):
  ∃kv' fp',Sim E pm F kv' fp' (rename l σ) a w:=by
 classical
 generalize hf:renF l=f at hinj hpin
 have hlive:∀p∈σ.tab,(σ.ent p.1).isSome=true:=by
  rintro⟨k,v⟩ hp
  have:=hsome _ hp
  cases v with
  |none=>cases this
  |some e=>unfold AState.ent;rw[qain hn hp];rfl
 have htab:(rename l σ).tab=σ.tab.map fun(k,e)=>(f k,e.map (Ent.ren f)):=by rw[←hf];rfl
 have hslots:(rename l σ).slots=σ.slots.map fun(s,v)=>(s,v.map (SV.ren f)):=by rw[←hf];rfl
 have hn':((rename l σ).tab.map (·.1)).Nodup:=by
  rw[htab,List.map_map]
  have:(σ.tab.map ((·.1)∘fun((k,e):Key×Option (Ent U))=>(f k,e.map (Ent.ren f))))=(σ.tab.map (·.1)).map f:=by
   rw[List.map_map];rfl
  rw[this]
  rw[zdg,List.pairwise_map]
  rw[zdg] at hn
  refine List.Pairwise.imp_of_mem (fun{k k'} hk hk' hne he=>hne ?_) hn
  obtain⟨p,hp,rfl⟩:=zaz.1 hk
  obtain⟨p',hp',rfl⟩:=zaz.1 hk'
  exact hinj _ _ (hSl _ (hlive p hp)) (hSl _ (hlive p' hp')) he
 have hent:∀k' e',(rename l σ).ent k'=some e'↔∃k e,σ.ent k=some e∧k'=f k∧e'=e.ren f:=by
  intro k' e'
  constructor
  ·intro he
   have hm:=qaha he
   rw[htab] at hm
   obtain⟨⟨k,v⟩,hp,hx⟩:=zaz.1 hm
   simp only[zax] at hx
   obtain⟨h1,h2⟩:=hx
   cases v with
   |none=>cases h2
   |some e=>cases h2;exact⟨k,e,qain hn hp,h1.symm,rfl⟩
  ·rintro⟨k,e,he,rfl,rfl⟩
   refine qain hn' ?_
   rw[htab]
   exact zaz.2 ⟨(k,some e),qaha he,rfl⟩
 have hget:∀s,(rename l σ).get s=(σ.get s).map (SV.ren f):=by
  intro s
  show look (rename l σ).slots s=_
  rw[hslots]
  exact qahf
 let g:Key→Key:=fun k'=>if h:∃k,S k∧f k=k' then h.choose else k'
 have hg:∀k,S k→g (f k)=k:=by
  intro k hk
  have hx:∃k1,S k1∧f k1=f k:=⟨k,hk,rfl⟩
  have:g (f k)=hx.choose:=by simp only[g];rw[dif_pos hx]
  rw[this]
  exact hinj _ _ hx.choose_spec.1 hk hx.choose_spec.2
 have hback:∀k,Names σ k→(fun k'=>kv (g k')) (f k)=kv k∧(fun k'=>fp (g k')) (f k)=fp k:=by
  intro k hk
  simp only
  rw[hg k (hSn k hk)]
  exact⟨rfl,rfl⟩
 have hgl:∀{k:Key}{e:Ent U},σ.ent k=some e→g (f k)=k:=fun he=>hg _ (hSl _ (by rw[he];rfl))
 refine⟨fun k'=>kv (g k'),fun k'=>fp (g k'),?_⟩
 ·refine⟨h.size,h.defers,fun s x' hs=> ?_,fun k' e' he=> ?_,fun k1 k2 e1 e2 b hne h1 h2=> ?_,fun k' e' he=> ?_,fun k' e' b he=> ?_,h.Flt,h.Fsub,h.upto,fun k v hpk=> ?_,h.lay⟩
  ·rw[hget] at hs
   cases hx:σ.get s with
   |none=>rw[hx] at hs;cases hs
   |some x=>
    rw[hx] at hs;cases hs
    exact(hc.slots s x hx).ren (fun k hk=>rfl) (fun k hk=>hback k (.inl ⟨s,x,hx,hk⟩))
  ·obtain⟨k,e,h1,rfl,rfl⟩:=(hent k' e').1 he
   have h0:=hc.ents k e h1
   simp only[hgl h1]
   cases e with
   |arr x deep=>exact h0
   |part x dead=>exact h0
   |box cs=>
    obtain⟨b,cur,e',g1,g2,g3,g4⟩:=h0
    exact⟨b,cur,e',g1,g2,g3,g4.ren (fun y hy k' hk'=>rfl) (fun y hy k' hk'=>hback k' (.inr ⟨k,cs,h1,y,hy,hk'⟩))⟩
  ·obtain⟨k,e,g1,rfl,rfl⟩:=(hent k1 e1).1 h1
   obtain⟨k',e',g2,rfl,rfl⟩:=(hent k2 e2).1 h2
   simp only[hgl g1,hgl g2]
   exact h.apart k k' e e' b (fun e=>hne (by rw[e])) g1 g2
  ·obtain⟨k,e,g1,rfl,rfl⟩:=(hent k' e').1 he
   simp only[hgl g1]
   exact h.nodup k e g1
  ·obtain⟨k,e,g1,rfl,rfl⟩:=(hent k' e').1 he
   simp only[hgl g1]
   exact h.mine k e b g1
  ·obtain⟨p1,p2,p3,p4⟩:=h.pin k v hpk
   have:g k=k:=by
    by_cases hx:∃k1,S k1∧f k1=k
    ·have e:g k=hx.choose:=by simp only[g];rw[dif_pos hx]
     rw[e]
     exact hpin k p1 p2 _ hx.choose_spec.2
    ·simp only[g];rw[dif_neg hx]
   exact⟨p1,p2,p3,by simp only[this];exact p4⟩
theorem qaki(bad:Key→Bool)(σ:AState U):((purge bad σ).tab.map (·.1)).Nodup∧∀p∈(purge bad σ).tab,p.2.isSome=true:=by
 refine⟨qaje qani.1,fun p hp=> ?_⟩
 have hm:=(zcg.1 hp).1
 have:∀{l:List (Key×Option (Ent U))}{seen:List Key},∀p∈tidyK seen l,p.2.isSome=true:=by
  intro l
  induction l with
  |nil=>intro seen p hp;simp[tidyK] at hp
  |cons q l ih=>
   obtain⟨k,v⟩:=q
   intro seen p hp
   simp only[tidyK] at hp
   cases hs:seen.any (keq k)<;>rw[hs] at hp<;>simp only[cond_true,cond_false] at hp
   ·cases v with
    |none=>exact ih p hp
    |some x=>
     rcases zak.1 hp with rfl|hp
     ·rfl
     ·exact ih p hp
   ·exact ih p hp
 exact this p hm
theorem qakc{bad:Key→Bool}{k:Key}{e:Ent U}(h:σ.ent k=some e)(hb:bad k=false)(hbox:∀cs,e=.box cs→okV bad σ (.v ⟨true,cs⟩)=true):(purge bad σ).ent k=some e:=by
 refine qain (qaki bad σ).1 (zcg.2 ⟨qaha (by rw[qanh (by simp)];exact h),?_⟩)
 simp only[hb,zea,zck]
 cases e with
 |arr a d=>rfl
 |part a d=>rfl
 |box cs=>exact hbox cs rfl
theorem qakh(h:Sim E pm F kv fp σ a w)(bad:Key→Bool):Strong E w F kv fp (purge bad σ) a:=by
 refine⟨fun s x hs=> ?_,fun k e he=> ?_⟩
 ·obtain⟨h1,h2,_⟩:=qakd.1 hs
  exact(h.slots s x h1).clean (fun y hy=>(qaji h2 hy).1)
 ·obtain⟨h1,h2,h3⟩:=qakb he
  have h0:=h.ents k e h1
  cases e with
  |arr x deep=>exact h0
  |part x dead=>exact h0
  |box cs=>
   obtain⟨b,cur,e',g1,g2,g3,g4⟩:=h0
   exact⟨b,cur,e',g1,g2,g3,g4.clean (fun y hy=>(qaji (h3 cs rfl) (x:=.v ⟨true,cs⟩) hy).1)⟩
theorem qaku:∀{l:List (Key×Key)}{k:Key},(∃b,(k,b)∈l∧renF l k=b)∨((∀b,(k,b)∉l)∧renF l k=k)
 |[],k=> .inr ⟨fun b hb=>(zcf hb).elim,rfl⟩
 |(a,b)::r,k=>by
  simp only[renF]
  cases h:keq a k
  ·simp only[cond_false]
   rcases qaku (l:=r) (k:=k) with⟨c,h1,h2⟩|⟨h1,h2⟩
   ·exact .inl ⟨c,zaa _ h1,h2⟩
   ·refine .inr ⟨fun c hc=> ?_,h2⟩
    rcases zak.1 hc with hc|hc
    ·cases hc;rw[qagj] at h;cases h
    ·exact h1 c hc
  ·have:=qagi.1 h
   subst this
   exact .inl ⟨b,zab,rfl⟩
theorem qame(h:∃kv fp,Sim E pm F kv fp σ a w)(l0:List (Key×Key)):∃kv fp,Sim E pm F kv fp (settleBy l0 σ) a w:=by
 unfold settleBy
 simp only
 rw[zah]
 split
 ·exact h
 ·rename_i hcond
  generalize hl:(l0.filter fun(a,b)=> !(keq a b)&& !(Nat.ble 2000000 a.1&&Nat.blt a.2 1024))=l at hcond⊢
  simp only[zcn,not_or,zbj,Bool.not_eq_false'] at hcond
  obtain⟨⟨⟨h1,h2⟩,h3⟩,h4⟩:=hcond
  obtain⟨kv,fp,hs⟩:=h
  have htn:(l.map (·.2)).Nodup:=qade.1 h3
  have han:(l.map (·.1)).Nodup:=qade.1 h2
  obtain⟨t1,t2⟩:=qaki (fun k=>(l.map (·.2)).any (keq k)) σ
  refine qakw (qakg hs _) (qakh hs _) t1 t2 (S:=fun k=>k∉l.map (·.2)) (fun k hk=> ?_) (fun k hk=> ?_) (fun k k' hk hk' he=> ?_) (fun k p1 p2 k0 he=> ?_)
  ·have:=(qakf hk).1
   exact fun hm=>by rw[qaaw.2 hm] at this;cases this
  ·obtain⟨e,he⟩:=zag.1 hk
   have:=(qakb he).2.1
   exact fun hm=>by rw[qaaw.2 hm] at this;cases this
  ·rcases qaku (l:=l) (k:=k) with⟨b,g1,g2⟩|⟨g1,g2⟩<;>rcases qaku (l:=l) (k:=k') with⟨b',g1',g2'⟩|⟨g1',g2'⟩
   ·rw[g2,g2'] at he
    subst he
    obtain⟨i,hi,hi'⟩:=zbk g1
    obtain⟨j,hj,hj'⟩:=zbk g1'
    have hij:i=j:=by
     refine(List.getElem_inj (h₀:=by simpa using hi) (h₁:=by simpa using hj) htn).1 ?_
     simp[hi',hj']
    subst hij
    rw[hi'] at hj'
    exact(Prod.mk.inj hj').1
   ·rw[g2,g2'] at he
    subst he
    exact absurd (zaz.2 ⟨_,g1,rfl⟩) hk'
   ·rw[g2,g2'] at he
    subst he
    exact absurd (zaz.2 ⟨_,g1',rfl⟩) hk
   ·rw[g2,g2'] at he
    exact he
  ·rcases qaku (l:=l) (k:=k0) with⟨b,g1,g2⟩|⟨g1,g2⟩
   ·exfalso
    have:=zcb.1 h4 _ g1
    simp only[zeq] at this
    rw[g2] at he
    subst he
    omega
   ·rw[g2] at he;exact he
theorem qaly(h:∃kv fp,Sim E pm F kv fp σ a w)(d:Nat):∃kv fp,Sim E pm F kv fp (settle1 d σ) a w:=by
 unfold settle1
 split
 ·exact qame h _
 ·exact h
theorem qama(h:∃kv fp,Sim E pm F kv fp σ a w)(k:Key):∃kv fp,Sim E pm F kv fp (settleB k σ) a w:=by
 unfold settleB
 split
 ·exact qame h _
 ·exact h
theorem qamc:∀{l:List Key}{τ:AState U},(∃kv fp,Sim E pm F kv fp τ a w)→∃kv fp,Sim E pm F kv fp (settleBs l τ) a w
 |[],τ,h=>h
 |k::l,τ,h=>qamc (l:=l) (qama h k)
theorem qami(h:Sim E pm F kv fp σ a w)(ops:List Oper):∃kv fp,Sim E pm F kv fp (settle ops σ) a w:=by
 unfold settle
 simp only
 refine qamc ?_
 have h0:∃kv fp,Sim E pm F kv fp (purge0 σ) a w:=⟨kv,fp,qakg h _⟩
 generalize purge0 σ=τ at h0
 generalize assigned ops=l
 induction l generalizing τ with
 |nil=>exact h0
 |cons d l ih=>exact ih _ (qaly h0 d)
theorem qahe{β:Type}(f:β→β):∀(l:List (Nat×Option β))(s:Nat),look (l.map fun(t,v)=>(t,v.map f)) s=(look l s).map f
 |[],s=>rfl
 |(t,v)::r,s=>by
  simp only[zbt,look]
  cases h:Nat.beq t s<;>simp only[cond_true,cond_false]
  exact qahe f r s
theorem qagz{β:Type}(f:β→β):∀(l:List (Key×Option β))(s:Key),lookK (l.map fun(t,v)=>(t,v.map f)) s=(lookK l s).map f
 |[],s=>rfl
 |(t,v)::r,s=>by
  simp only[zbt,lookK]
  cases h:keq t s<;>simp only[cond_true,cond_false]
  exact qagz f r s
theorem qamp{bad':Key→Bool}(k:Key):Stays w w kv kv fp fp (fun _=>false) bad' k:=⟨rfl,.inr ⟨rfl,rfl,fun _ _=>rfl⟩⟩
theorem RD.fr{k0:Key}{c:U.C}{bad':Key→Bool}{x:AC U}{v:Value}(h:RD E w F kv fp (fun _=>false) x v)(hF:∀b,F b→F' b)
  (hc:Rp E w F' false c (kv k0) []):RD E w F' kv fp bad' (frAC k0 c x) v:=by
 have hm:RD E w F' kv fp bad' x v:=h.move (fun k _=>qamp k) (fun b hb=>⟨hF b hb,rfl⟩)
 unfold frAC
 split
 ·rename_i k
  rw[zah]
  split
  ·rename_i hk
   have:=qagi.1 hk
   subst this
   refine⟨h.1,.inr ?_⟩
   have h2:=h.2
   simp only[badAC,List.isEmpty_nil,zfa,zbi,zbg,false_or,RA,navS] at h2
   rw[h2];exact hc
  ·exact hm
 ·exact hm
theorem RDs.fr{k0:Key}{c:U.C}{bad':Key→Bool}{xs:List (AC U)}{vs:List Value}(h:RDs E w F kv fp (fun _=>false) xs vs)(hF:∀b,F b→F' b)
  (hc:Rp E w F' false c (kv k0) []):RDs E w F' kv fp bad' (xs.map (frAC k0 c)) vs:=by
 refine⟨by simpa using h.1,fun i x v hx hv=> ?_⟩
 rw[zal] at hx
 cases hy:xs[i]? with
 |none=>rw[hy] at hx;cases hx
 |some y=>
  rw[hy] at hx;cases hx
  exact(h.2 i y v hy hv).fr hF hc
theorem RS.fr{k0:Key}{c:U.C}{bad':Key→Bool}{x:SV U}{v:Value}(h:RS E w F kv fp (fun _=>false) x v)(hF:∀b,F b→F' b)
  (hc:Rp E w F' false c (kv k0) []):RS E w F' kv fp bad' (frSV k0 c x) v:=by
 have hm:RS E w F' kv fp bad' x v:=h.move (fun k _=>qamp k) (fun b hb=>⟨hF b hb,rfl⟩)
 cases x with
 |v x=>
  obtain⟨vs,h1,h2⟩:=h
  exact⟨vs,h1.fr hF hc,h2⟩
 |tup xs=>exact hm
 |fn p=>exact hm
 |clo g xs=>exact hm
theorem REnt.fr{k0:Key}{c:U.C}{bad':Key→Bool}{x:Ent U}{v:Value}{l:List Nat}(h:REnt E w F kv fp (fun _=>false) x v l)(hF:∀b,F b→F' b)
  (hc:Rp E w F' false c (kv k0) []):REnt E w F' kv fp bad' (frEnt k0 c x) v l:=by
 cases x with
 |arr a d=>exact ROwn.keep h (fun b hb=>⟨hF b hb,rfl⟩) (fun _ _=>rfl)
 |part a d=>exact ROwnP.keep h (fun b hb=>⟨hF b hb,rfl⟩) (fun _ _=>rfl)
 |box cs=>
  obtain⟨b,cur,e',g1,g2,g3,g4⟩:=h
  exact⟨b,cur,e',g1,g2,g3,g4.fr hF hc⟩
theorem qafc(h:Sim E pm F kv fp σ a w)(hc:Strong E w F kv fp σ a)(k0:Key):∃F,Sim E pm F kv fp (freezeK k0 σ) a w∧Strong E w F kv fp (freezeK k0 σ) a:=by
 unfold freezeK
 split
 rotate_left
 ·exact⟨F,h,hc⟩
 rename_i ar d he
 have hs:Rp E w (fun b=>F b∨b∈fp k0) false (.sl ar.τ ar.xs) (kv k0) []:=ROwn.share (hc.ents k0 _ he) (fun b hb=> .inl hb) (fun b hb=> .inr hb)
 have hF:∀b,F b→(fun b=>F b∨b∈fp k0) b:=fun b hb=> .inl hb
 have hent:∀k e,lookK ((k0,none)::σ.tab.map fun(k,e)=>(k,e.map (frEnt k0 (.sl ar.τ ar.xs)))) k=some e→k≠k0∧∃e0,σ.ent k=some e0∧e=frEnt k0 (.sl ar.τ ar.xs) e0:=by
  intro k e hk
  simp only[lookK] at hk
  cases hq:keq k0 k<;>simp only[hq,cond_true,cond_false] at hk
  ·rw[qagz] at hk
   cases hl:lookK σ.tab k with
   |none=>rw[hl] at hk;cases hk
   |some e0=>rw[hl] at hk;cases hk;exact⟨fun e=>(qagh.1 hq) e.symm,e0,hl,rfl⟩
  ·cases hk
 have hget:∀s x,look (σ.slots.map fun(s,v)=>(s,v.map (frSV k0 (.sl ar.τ ar.xs)))) s=some x→∃x0,σ.get s=some x0∧x=frSV k0 (.sl ar.τ ar.xs) x0:=by
  intro s x hx
  rw[qahe] at hx
  cases hl:look σ.slots s with
  |none=>rw[hl] at hx;cases hx
  |some x0=>rw[hl] at hx;cases hx;exact⟨x0,hl,rfl⟩
 refine⟨fun b=>F b∨b∈fp k0,⟨h.size,h.defers,fun s x hx=> ?_,fun k e hk=> ?_,fun k k' e e' b hne h1 h2=> ?_,fun k e hk=> ?_,fun k e b hk hb=> ?_,fun b hb=> ?_,fun b hb=> ?_,h.upto,h.pin,h.lay.keep (fun b hb=>⟨.inl hb,rfl⟩)⟩,⟨fun s x hx=> ?_,fun k e hk=> ?_⟩⟩
 ·obtain⟨x0,hx0,rfl⟩:=hget s x hx
  exact(hc.slots s x0 hx0).fr hF hs
 ·obtain⟨hne,e0,he0,rfl⟩:=hent k e hk
  exact(hc.ents k e0 he0).fr hF hs
 ·obtain⟨_,e0,he0,_⟩:=hent k e h1
  obtain⟨_,e0',he0',_⟩:=hent k' e' h2
  exact h.apart k k' e0 e0' b hne he0 he0'
 ·obtain⟨_,e0,he0,_⟩:=hent k e hk
  exact h.nodup k e0 he0
 ·obtain⟨hne,e0,he0,_⟩:=hent k e hk
  obtain⟨m1,m2,m3⟩:=h.mine k e0 b he0 hb
  exact⟨fun hh=>hh.elim m1 (fun hh=>h.apart k k0 e0 _ b hne he0 he hb hh),m2,m3⟩
 ·exact hb.elim (h.Flt b) (fun hb=>(h.mine k0 _ b he hb).2.2)
 ·exact hb.elim (h.Fsub b) (fun hb=> .inr (h.mine k0 _ b he hb).2.1)
 ·obtain⟨x0,hx0,rfl⟩:=hget s x hx
  exact(hc.slots s x0 hx0).fr hF hs
 ·obtain⟨hne,e0,he0,rfl⟩:=hent k e hk
  exact(hc.ents k e0 he0).fr hF hs
theorem qafi:∀{l:List Nat}{σ:AState U},(∃F kv fp,Sim E pm F kv fp σ a w∧Strong E w F kv fp σ a)→∃F kv fp,Sim E pm F kv fp (freezes l σ) a w∧Strong E w F kv fp (freezes l σ) a
 |[],σ,h=>h
 |s::l,σ,h=>by
  refine qafi (l:=l) (σ:=freeze1 s σ) ?_
  obtain⟨F,kv,fp,h1,h2⟩:=h
  unfold freeze1
  split
  ·obtain⟨F',h3⟩:=qafc h1 h2 _
   exact⟨F',kv,fp,h3⟩
  ·exact⟨F,kv,fp,h1,h2⟩
theorem qaex{k0:Key}{c:U.C}{x:AC U}{k:Key}(h:k∈(frAC k0 c x).keys):k∈x.keys:=by
 unfold frAC at h
 split at h
 ·rename_i q
  rw[zah] at h
  split at h
  ·simp[AC.keys] at h
  ·exact h
 ·exact h
theorem qaez{k0:Key}{c:U.C}{x:SV U}{k:Key}(h:k∈(frSV k0 c x).keys):k∈x.keys:=by
 cases x with
 |v x=>
  obtain⟨y,hy,hk⟩:=SV.mem_keys.1 h
  simp only[frSV,SV.acs,zaz] at hy
  obtain⟨z,hz,rfl⟩:=hy
  exact SV.mem_keys.2 ⟨z,hz,qaex hk⟩
 |tup xs=>exact h
 |fn p=>exact h
 |clo g xs=>exact h
theorem qafb{k0 k:Key}(h:Names (freezeK k0 σ) k):Names σ k:=by
 unfold freezeK at h
 split at h
 rotate_left
 ·exact h
 rcases h with⟨s,x,hs,hk⟩|⟨k',cs,he,x,hx,hk⟩
 ·have hs:look (σ.slots.map _) s=some x:=hs
  rw[qahe] at hs
  cases hl:look σ.slots s with
  |none=>rw[hl] at hs;cases hs
  |some y=>rw[hl] at hs;cases hs;exact .inl ⟨s,y,hl,qaez hk⟩
 ·have he:lookK ((k0,none)::σ.tab.map _) k'=some (Ent.box cs):=he
  simp only[lookK] at he
  cases hq:keq k0 k'<;>simp only[hq,cond_true,cond_false] at he
  ·rw[qagz] at he
   cases hl:lookK σ.tab k' with
   |none=>rw[hl] at he;cases he
   |some e=>
    rw[hl] at he
    cases e with
    |arr a d=>cases he
    |part a d=>cases he
    |box cs0=>
     simp only[zcd,frEnt,zae,Ent.box.injEq] at he
     subst he
     obtain⟨z,hz,rfl⟩:=zaz.1 hx
     exact .inr ⟨k',cs0,hl,z,hz,qaex hk⟩
  ·cases he
theorem qafh{k:Key}:∀{l:List Nat}{σ:AState U},Names (freezes l σ) k→Names σ k
 |[],σ,h=>h
 |s::l,σ,h=>by
  have h2:Names (freeze1 s σ) k:=qafh (l:=l) h
  unfold freeze1 at h2
  split at h2
  ·exact qafb h2
  ·exact h2
theorem qaff:∀{l:List Key}{σ:AState U},(∃F kv fp,Sim E pm F kv fp σ a w∧Strong E w F kv fp σ a)→∃F kv fp,Sim E pm F kv fp (freezeKs l σ) a w∧Strong E w F kv fp (freezeKs l σ) a
 |[],σ,h=>h
 |s::l,σ,h=>by
  refine qaff (l:=l) (σ:=freezeK s σ) ?_
  obtain⟨F,kv,fp,h1,h2⟩:=h
  obtain⟨F',h3⟩:=qafc h1 h2 s
  exact⟨F',kv,fp,h3⟩
theorem qafe{k:Key}:∀{l:List Key}{σ:AState U},Names (freezeKs l σ) k→Names σ k
 |[],σ,h=>h
 |s::l,σ,h=>qafb (qafe (l:=l) (σ:=freezeK s σ) h)
theorem qads(h:Sim E pm F kv fp σ a w)(E':Env U)(ops:List Oper):∃F kv fp,Sim E pm F kv fp (enterF E' ops σ) a w:=by
 obtain⟨F',kv',fp',h1,_⟩:=qaff (l:=capKeys ops (freezes (lends E' ops) (enter ops σ))) (qafi (l:=lends E' ops) (σ:=enter ops σ) ⟨F,kv,fp,qadu h ops,qakh h _⟩)
 exact⟨F',kv',fp',h1⟩
theorem qadr{E':Env U}{ops:List Oper}{k:Key}(h:Names (enterF E' ops σ) k)(hd:k.1∈dsts ops∨k.1=1000000):1024≤k.2:=qadt (qafh (qafe h)) hd
end AM
