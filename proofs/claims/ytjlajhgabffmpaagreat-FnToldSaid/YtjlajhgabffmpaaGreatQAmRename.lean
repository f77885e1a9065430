/- THE ABSTRACT MACHINE: new names for entries. -/
import Derived.Test.YtjlajhgabffmpaaGreatQAmSettle
namespace AM
set_option linter.unusedVariables false
open Go
variable{U:lu}{E:Env U}{pm:Pm}
variable{F F':Nat->Prop}{kv kv':Key->Value}{fp fp':Key->List Nat}{σ τ:ai U}{a:Act}{w w':World}
structure fD(E:Env U)(w:World)(F:Nat->Prop)(kv:Key->Value)(fp:Key->List Nat)(σ:ai U)(a:Act):Prop where
 bI:∀s x,σ.get s=some x->RS E w F kv fp (fun _=>false) x (a.tmps.getD s undef)
 dV:∀k e,σ.bM k=some e->tH E w F kv fp (fun _=>false) e (kv k) (fp k)
theorem HK{bad:Key->Bool}{x:AC U}(h:∀k∈x.keys,bad k=false):iX bad x=false:=by
 cases x with
 |ref k p=>simp[iX,h k (by simp[AC.keys])]
 |lK k p i wd off=>simp[iX,h k (by simp[AC.keys])]
 |_=>rfl
theorem RA.uB{f:Key->Key}{x:AC U}{v:Value}(hk:∀k∈x.keys,kv' (f k)=kv k/\fp' (f k)=fp k)(h:RA E w F kv fp x v):RA E w F kv' fp' (x.uB f) v:=by
 cases x with
 |c x=>exact h
 |e0=>exact h
 |kn b τ xs=>exact h
 |ia cs=>exact h
 |ref k p=>
  obtain⟨h1,h2⟩:=hk k (by simp[AC.keys])
  simp only[AC.uB,RA] at h⊢
  rw[h1,h2];exact h
 |sub k wd lo hi=>
  obtain⟨h1,h2⟩:=hk k (by simp[AC.keys])
  simp only[AC.uB,RA] at h⊢
  rw[h1];exact h
 |lK k p i wd off=>
  obtain⟨h1,h2⟩:=hk k (by simp[AC.keys])
  simp only[AC.uB,RA] at h⊢
  rw[h1,h2];exact h
 |kH k off=>
  obtain⟨h1,h2⟩:=hk k (by simp[AC.keys])
  simp only[AC.uB,RA] at h⊢
  rw[h1];exact h
theorem l8.uB{f:Key->Key}{bad bad':Key->Bool}{xs:List (AC U)}{vs:List Value}(hb:∀y∈xs,∀k∈y.keys,bad k=false)(hk:∀y∈xs,∀k∈y.keys,kv' (f k)=kv k/\fp' (f k)=fp k)
  (h:l8 E w F kv fp bad xs vs):l8 E w F kv' fp' bad' (xs.map (AC.uB f)) vs:=by
 refine⟨by simpa using h.1,fun i x v hx hv=> ?_⟩
 rw[nO] at hx
 cases hy:xs[i]? with
 |none=>rw[hy] at hx;cases hx
 |some y=>
  rw[hy] at hx;cases hx
  have hm:=Gn hy
  have:=h.2 i y v hy hv
  exact⟨this.1,.inr ((cw this (HK (hb y hm))).uB (hk y hm))⟩
theorem RS.uB{f:Key->Key}{bad bad':Key->Bool}{x:SV U}{v:Value}(hb:∀k∈x.keys,bad k=false)(hk:∀k∈x.keys,kv' (f k)=kv k/\fp' (f k)=fp k)
  (h:RS E w F kv fp bad x v):RS E w F kv' fp' bad' (x.uB f) v:=by
 cases x with
 |v x=>
  obtain⟨vs,h1,h2⟩:=h
  exact⟨vs,h1.uB (fun y hy k hky=>hb k (SV.mem_keys.2 ⟨y,hy,hky⟩)) (fun y hy k hky=>hk k (SV.mem_keys.2 ⟨y,hy,hky⟩)),h2⟩
 |wm xs=>
  obtain⟨vs,h1,h2,h3⟩:=h
  refine⟨vs,h1,by simpa using h2,fun i x u hx hu=> ?_⟩
  rw[nO] at hx
  cases hy:xs[i]? with
  |none=>rw[hy] at hx;cases hx
  |some y=>
   rw[hy] at hx;cases hx
   have hm:=Gn hy
   obtain⟨us,g1,g2⟩:=h3 i y u hy hu
   exact⟨us,g1.uB (fun z hz k hkz=>hb k (SV.mem_keys.2 ⟨z,ow.2 ⟨y,hm,hz⟩,hkz⟩)) (fun z hz k hkz=>hk k (SV.mem_keys.2 ⟨z,ow.2 ⟨y,hm,hz⟩,hkz⟩)),g2⟩
 |fn p=>exact h
 |He g xs=>
  obtain⟨vs,h1,h2,h3⟩:=h
  refine⟨vs,h1,by simpa using h2,fun i x u hx hu=> ?_⟩
  rw[nO] at hx
  cases hy:xs[i]? with
  |none=>rw[hy] at hx;cases hx
  |some y=>
   rw[hy] at hx;cases hx
   have hm:=Gn hy
   obtain⟨us,g1,g2⟩:=h3 i y u hy hu
   exact⟨us,g1.uB (fun z hz k hkz=>hb k (SV.mem_keys.2 ⟨z,ow.2 ⟨y,hm,hz⟩,hkz⟩)) (fun z hz k hkz=>hk k (SV.mem_keys.2 ⟨z,ow.2 ⟨y,hm,hz⟩,hkz⟩)),g2⟩
theorem U4{β γ:Type}{g:β->γ}:∀{l:List (Nat×Option β)}{s:Nat},look (l.map fun p=>(p.1,p.2.map g)) s=(look l s).map g
 |[],s=>rfl
 |(t,v)::r,s=>by
  simp only[wb,look]
  cases Nat.beq t s
  ·exact U4
  ·rfl
theorem akb(h:cQ E pm F kv fp σ a w)(hc:fD E w F kv fp σ a)(hn:(σ.oy.map (·.1)).Nodup)(W0:∀p∈σ.oy,p.2.isSome=true){l:List (Key×Key)}{S:Key->Prop}
  (hSn:∀k,Names σ k->S k) (hSl:∀k,(σ.bM k).isSome=true->S k) (aaN:∀k k',S k->S k'->wS l k=wS l k'->k=k') (Ga:∀k,2000000<=k.1->k.2<1024->∀k0,wS l k0=k->k0=k):
  ∃kv' fp',cQ E pm F kv' fp' (rename l σ) a w:=by
 classical
 generalize hf:wS l=f at aaN Ga
 have jA:∀p∈σ.oy,(σ.bM p.1).isSome=true:=by
  rintro⟨k,v⟩ hp
  have:=W0 _ hp
  cases v with
  |none=>cases this
  |some e=>unfold ai.bM;rw[U3 hn hp];rfl
 have aam:(rename l σ).oy=σ.oy.map fun(k,e)=>(f k,e.map (i_.uB f)):=by rw[<-hf];rfl
 have aap:(rename l σ).bI=σ.bI.map fun(s,v)=>(s,v.map (SV.uB f)):=by rw[<-hf];rfl
 have wh:((rename l σ).oy.map (·.1)).Nodup:=by
  rw[aam,List.map_map]
  have:(σ.oy.map ((·.1)∘fun((k,e):Key×Option (i_ U))=>(f k,e.map (i_.uB f))))=(σ.oy.map (·.1)).map f:=by
   rw[List.map_map];rfl
  rw[this]
  rw[zdg,List.pairwise_map]
  rw[zdg] at hn
  refine List.Pairwise.imp_of_mem (fun{k k'} hk db fg he=>fg ?_) hn
  obtain⟨p,hp,rfl⟩:=l_.1 hk
  obtain⟨p',kP,rfl⟩:=l_.1 db
  exact aaN _ _ (hSl _ (jA p hp)) (hSl _ (jA p' kP)) he
 have sS:∀k' e',(rename l σ).bM k'=some e'↔∃k e,σ.bM k=some e/\k'=f k/\e'=e.uB f:=by
  intro k' e'
  constructor
  ·intro he
   have hm:=FY he
   rw[aam] at hm
   obtain⟨⟨k,v⟩,hp,hx⟩:=l_.1 hm
   simp only[pb] at hx
   obtain⟨h1,h2⟩:=hx
   cases v with
   |none=>cases h2
   |some e=>cases h2;exact⟨k,e,U3 hn hp,h1.symm,rfl⟩
  ·rintro⟨k,e,he,rfl,rfl⟩
   refine U3 wh ?_
   rw[aam]
   exact l_.2 ⟨(k,some e),FY he,rfl⟩
 have sQ:∀s,(rename l σ).get s=(σ.get s).map (SV.uB f):=by
  intro s
  show look (rename l σ).bI s=_
  rw[aap]
  exact U4
 let g:Key->Key:=fun k'=>if h:∃k,S k/\f k=k' then h.choose else k'
 have hg:∀k,S k->g (f k)=k:=by
  intro k hk
  have hx:∃k1,S k1/\f k1=f k:=⟨k,hk,rfl⟩
  have:g (f k)=hx.choose:=by simp only[g];rw[dif_pos hx]
  rw[this]
  exact aaN _ _ hx.choose_spec.1 hk hx.choose_spec.2
 have A9:∀k,Names σ k->(fun k'=>kv (g k')) (f k)=kv k/\(fun k'=>fp (g k')) (f k)=fp k:=by
  intro k hk
  simp only
  rw[hg k (hSn k hk)]
  exact⟨rfl,rfl⟩
 have Sw:∀{k:Key}{e:i_ U},σ.bM k=some e->g (f k)=k:=fun he=>hg _ (hSl _ (by rw[he];rfl))
 refine⟨fun k'=>kv (g k'),fun k'=>fp (g k'),?_⟩
 ·refine⟨h.size,h.defers,fun s x' hs=> ?_,fun k' e' he=> ?_,fun k1 k2 e1 e2 b fg h1 h2=> ?_,fun k' e' he=> ?_,fun k' e' b he=> ?_,h.uc,h.ub,h.upto,fun k v hpk=> ?_,h.lay⟩
  ·rw[sQ] at hs
   cases hx:σ.get s with
   |none=>rw[hx] at hs;cases hs
   |some x=>
    rw[hx] at hs;cases hs
    exact(hc.bI s x hx).uB (fun k hk=>rfl) (fun k hk=>A9 k (.inl ⟨s,x,hx,hk⟩))
  ·obtain⟨k,e,h1,rfl,rfl⟩:=(sS k' e').1 he
   have h0:=hc.dV k e h1
   simp only[Sw h1]
   cases e with
   |arr x deep=>exact h0
   |part x dead=>exact h0
   |box cs=>
    obtain⟨b,cur,e',g1,g2,g3,g4⟩:=h0
    exact⟨b,cur,e',g1,g2,g3,g4.uB (fun y hy k' db=>rfl) (fun y hy k' db=>A9 k' (.inr ⟨k,cs,h1,y,hy,db⟩))⟩
  ·obtain⟨k,e,g1,rfl,rfl⟩:=(sS k1 e1).1 h1
   obtain⟨k',e',g2,rfl,rfl⟩:=(sS k2 e2).1 h2
   simp only[Sw g1,Sw g2]
   exact h.apart k k' e e' b (fun e=>fg (by rw[e])) g1 g2
  ·obtain⟨k,e,g1,rfl,rfl⟩:=(sS k' e').1 he
   simp only[Sw g1]
   exact h.nodup k e g1
  ·obtain⟨k,e,g1,rfl,rfl⟩:=(sS k' e').1 he
   simp only[Sw g1]
   exact h.fV k e b g1
  ·obtain⟨p1,p2,p3,p4⟩:=h.N8 k v hpk
   have:g k=k:=by
    by_cases hx:∃k1,S k1/\f k1=k
    ·have e:g k=hx.choose:=by simp only[g];rw[dif_pos hx]
     rw[e]
     exact Ga k p1 p2 _ hx.choose_spec.2
    ·simp only[g];rw[dif_neg hx]
   exact⟨p1,p2,p3,by simp only[this];exact p4⟩
theorem akh(bad:Key->Bool)(σ:ai U):((tM bad σ).oy.map (·.1)).Nodup/\∀p∈(tM bad σ).oy,p.2.isSome=true:=by
 refine⟨U0 Ro.1,fun p hp=> ?_⟩
 have hm:=(zr.1 hp).1
 have:∀{l:List (Key×Option (i_ U))}{seen:List Key},∀p∈qt seen l,p.2.isSome=true:=by
  intro l
  induction l with
  |nil=>intro seen p hp;simp[qt] at hp
  |cons q l ih=>
   obtain⟨k,v⟩:=q
   intro seen p hp
   simp only[qt] at hp
   cases hs:seen.any (jb k)<;>rw[hs] at hp<;>simp only[cond_true,cond_false] at hp
   ·cases v with
    |none=>exact ih p hp
    |some x=>
     rcases kf.1 hp with rfl|hp
     ·rfl
     ·exact ih p hp
   ·exact ih p hp
 exact this p hm
theorem Rr(h:cQ E pm F kv fp σ a w)(bad:Key->Bool):fD E w F kv fp (tM bad σ) a:=by
 refine⟨fun s x hs=> ?_,fun k e he=> ?_⟩
 ·obtain⟨h1,h2,_⟩:=Rs.1 hs
  exact(h.bI s x h1).nl (fun y hy=>(Po h2 hy).1)
 ·obtain⟨h1,h2,h3⟩:=Ku he
  have h0:=h.dV k e h1
  cases e with
  |arr x deep=>exact h0
  |part x dead=>exact h0
  |box cs=>
   obtain⟨b,cur,e',g1,g2,g3,g4⟩:=h0
   exact⟨b,cur,e',g1,g2,g3,g4.nl (fun y hy=>(Po (h3 cs rfl) (x:=.v ⟨true,cs⟩) hy).1)⟩
theorem UX:∀{l:List (Key×Key)}{k:Key},(∃b,(k,b)∈l/\wS l k=b)\/((∀b,(k,b)∉l)/\wS l k=k)
 |[],k=> .inr ⟨fun b hb=>(NO hb).elim,rfl⟩
 |(a,b)::r,k=>by
  simp only[wS]
  cases h:jb a k
  ·simp only[cond_false]
   rcases UX (l:=r) (k:=k) with⟨c,h1,h2⟩|⟨h1,h2⟩
   ·exact .inl ⟨c,cI _ h1,h2⟩
   ·refine .inr ⟨fun c hc=> ?_,h2⟩
    rcases kf.1 hc with hc|hc
    ·cases hc;rw[zH] at h;cases h
    ·exact h1 c hc
  ·have:=pA.1 h
   subst this
   exact .inl ⟨b,gB,rfl⟩
theorem aci(h:∃kv fp,cQ E pm F kv fp σ a w)(l0:List (Key×Key)):∃kv fp,cQ E pm F kv fp (rF l0 σ) a w:=by
 unfold rF
 simp only
 rw[iu]
 split
 ·exact h
 ·rename_i ni
  generalize hl:(l0.filter fun(a,b)=> !(jb a b)&& !(Nat.ble 2000000 a.1&&Nat.blt a.2 1024))=l at ni⊢
  simp only[FL,not_or,wl,Bool.not_eq_false'] at ni
  obtain⟨⟨⟨h1,h2⟩,h3⟩,h4⟩:=ni
  obtain⟨kv,fp,hs⟩:=h
  have htn:(l.map (·.2)).Nodup:=uC.1 h3
  have han:(l.map (·.1)).Nodup:=uC.1 h2
  obtain⟨t1,t2⟩:=akh (fun k=>(l.map (·.2)).any (jb k)) σ
  refine akb (HE hs _) (Rr hs _) t1 t2 (S:=fun k=>k∉l.map (·.2)) (fun k hk=> ?_) (fun k hk=> ?_) (fun k k' hk db he=> ?_) (fun k p1 p2 k0 he=> ?_)
  ·have:=(acC hk).1
   exact fun hm=>by rw[sI.2 hm] at this;cases this
  ·obtain⟨e,he⟩:=m8.1 hk
   have:=(Ku he).2.1
   exact fun hm=>by rw[sI.2 hm] at this;cases this
  ·rcases UX (l:=l) (k:=k) with⟨b,g1,g2⟩|⟨g1,g2⟩<;>rcases UX (l:=l) (k:=k') with⟨b',g1',g2'⟩|⟨g1',g2'⟩
   ·rw[g2,g2'] at he
    subst he
    obtain⟨i,hi,qh⟩:=sn g1
    obtain⟨j,hj,ug⟩:=sn g1'
    have FQ:i=j:=by
     refine(List.getElem_inj (h₀:=by simpa using hi) (h₁:=by simpa using hj) htn).1 ?_
     simp[qh,ug]
    subst FQ
    rw[qh] at ug
    exact(Prod.mk.inj ug).1
   ·rw[g2,g2'] at he
    subst he
    exact absurd (l_.2 ⟨_,g1,rfl⟩) db
   ·rw[g2,g2'] at he
    subst he
    exact absurd (l_.2 ⟨_,g1',rfl⟩) hk
   ·rw[g2,g2'] at he
    exact he
  ·rcases UX (l:=l) (k:=k0) with⟨b,g1,g2⟩|⟨g1,g2⟩
   ·exfalso
    have:=sk.1 h4 _ g1
    simp only[QS] at this
    rw[g2] at he
    subst he
    omega
   ·rw[g2] at he;exact he
theorem ack(h:∃kv fp,cQ E pm F kv fp σ a w)(d:Nat):∃kv fp,cQ E pm F kv fp (sB d σ) a w:=by
 unfold sB
 split
 ·exact aci h _
 ·exact h
theorem aj1(h:∃kv fp,cQ E pm F kv fp σ a w)(k:Key):∃kv fp,cQ E pm F kv fp (xF k σ) a w:=by
 unfold xF
 split
 ·exact aci h _
 ·exact h
theorem UR:∀{l:List Key}{τ:ai U},(∃kv fp,cQ E pm F kv fp τ a w)->∃kv fp,cQ E pm F kv fp (xE l τ) a w
 |[],τ,h=>h
 |k::l,τ,h=>UR (l:=l) (aj1 h k)
theorem ajZ(h:cQ E pm F kv fp σ a w)(ops:List Oper):∃kv fp,cQ E pm F kv fp (settle ops σ) a w:=by
 unfold settle
 simp only
 refine UR ?_
 have h0:∃kv fp,cQ E pm F kv fp (jT σ) a w:=⟨kv,fp,HE h _⟩
 generalize jT σ=τ at h0
 generalize assigned ops=l
 induction l generalizing τ with
 |nil=>exact h0
 |cons d l ih=>exact ih _ (ack h0 d)
theorem Ru{β:Type}(f:β->β):∀(l:List (Nat×Option β))(s:Nat),look (l.map fun(t,v)=>(t,v.map f)) s=(look l s).map f
 |[],s=>rfl
 |(t,v)::r,s=>by
  simp only[wb,look]
  cases h:Nat.beq t s<;>simp only[cond_true,cond_false]
  exact Ru f r s
theorem ZO{β:Type}(f:β->β):∀(l:List (Key×Option β))(s:Key),eZ (l.map fun(t,v)=>(t,v.map f)) s=(eZ l s).map f
 |[],s=>rfl
 |(t,v)::r,s=>by
  simp only[wb,eZ]
  cases h:jb t s<;>simp only[cond_true,cond_false]
  exact ZO f r s
theorem acb{bad':Key->Bool}(k:Key):p8 w w kv kv fp fp (fun _=>false) bad' k:=⟨rfl,.inr ⟨rfl,rfl,fun _ _=>rfl⟩⟩
theorem RD.fr{k0:Key}{c:U.C}{bad':Key->Bool}{x:AC U}{v:Value}(h:RD E w F kv fp (fun _=>false) x v)(hF:∀b,F b->F' b)
  (hc:Rp E w F' false c (kv k0) []):RD E w F' kv fp bad' (Ii k0 c x) v:=by
 have hm:RD E w F' kv fp bad' x v:=h.move (fun k _=>acb k) (fun b hb=>⟨hF b hb,rfl⟩)
 unfold Ii
 split
 ·rename_i k
  rw[iu]
  split
  ·rename_i hk
   have:=pA.1 hk
   subst this
   refine⟨h.1,.inr ?_⟩
   have h2:=h.2
   simp only[iX,List.isEmpty_nil,WG,p_,xt,false_or,RA,pe] at h2
   rw[h2];exact hc
  ·exact hm
 ·exact hm
theorem l8.fr{k0:Key}{c:U.C}{bad':Key->Bool}{xs:List (AC U)}{vs:List Value}(h:l8 E w F kv fp (fun _=>false) xs vs)(hF:∀b,F b->F' b)
  (hc:Rp E w F' false c (kv k0) []):l8 E w F' kv fp bad' (xs.map (Ii k0 c)) vs:=by
 refine⟨by simpa using h.1,fun i x v hx hv=> ?_⟩
 rw[nO] at hx
 cases hy:xs[i]? with
 |none=>rw[hy] at hx;cases hx
 |some y=>
  rw[hy] at hx;cases hx
  exact(h.2 i y v hy hv).fr hF hc
theorem RS.fr{k0:Key}{c:U.C}{bad':Key->Bool}{x:SV U}{v:Value}(h:RS E w F kv fp (fun _=>false) x v)(hF:∀b,F b->F' b)
  (hc:Rp E w F' false c (kv k0) []):RS E w F' kv fp bad' (Np k0 c x) v:=by
 have hm:RS E w F' kv fp bad' x v:=h.move (fun k _=>acb k) (fun b hb=>⟨hF b hb,rfl⟩)
 cases x with
 |v x=>
  obtain⟨vs,h1,h2⟩:=h
  exact⟨vs,h1.fr hF hc,h2⟩
 |wm xs=>exact hm
 |fn p=>exact hm
 |He g xs=>exact hm
theorem tH.fr{k0:Key}{c:U.C}{bad':Key->Bool}{x:i_ U}{v:Value}{l:List Nat}(h:tH E w F kv fp (fun _=>false) x v l)(hF:∀b,F b->F' b)
  (hc:Rp E w F' false c (kv k0) []):tH E w F' kv fp bad' (Lk k0 c x) v l:=by
 cases x with
 |arr a d=>exact fi.gx h (fun b hb=>⟨hF b hb,rfl⟩) (fun _ _=>rfl)
 |part a d=>exact eW.gx h (fun b hb=>⟨hF b hb,rfl⟩) (fun _ _=>rfl)
 |box cs=>
  obtain⟨b,cur,e',g1,g2,g3,g4⟩:=h
  exact⟨b,cur,e',g1,g2,g3,g4.fr hF hc⟩
theorem ac1(h:cQ E pm F kv fp σ a w)(hc:fD E w F kv fp σ a)(k0:Key):∃F,cQ E pm F kv fp (lW k0 σ) a w/\fD E w F kv fp (lW k0 σ) a:=by
 unfold lW
 split
 rotate_left
 ·exact⟨F,h,hc⟩
 rename_i ar d he
 have hs:Rp E w (fun b=>F b\/b∈fp k0) false (.sl ar.τ ar.xs) (kv k0) []:=fi.lz (hc.dV k0 _ he) (fun b hb=> .inl hb) (fun b hb=> .inr hb)
 have hF:∀b,F b->(fun b=>F b\/b∈fp k0) b:=fun b hb=> .inl hb
 have sS:∀k e,eZ ((k0,none)::σ.oy.map fun(k,e)=>(k,e.map (Lk k0 (.sl ar.τ ar.xs)))) k=some e->k≠k0/\∃e0,σ.bM k=some e0/\e=Lk k0 (.sl ar.τ ar.xs) e0:=by
  intro k e hk
  simp only[eZ] at hk
  cases hq:jb k0 k<;>simp only[hq,cond_true,cond_false] at hk
  ·rw[ZO] at hk
   cases hl:eZ σ.oy k with
   |none=>rw[hl] at hk;cases hk
   |some e0=>rw[hl] at hk;cases hk;exact⟨fun e=>(MP.1 hq) e.symm,e0,hl,rfl⟩
  ·cases hk
 have sQ:∀s x,look (σ.bI.map fun(s,v)=>(s,v.map (Np k0 (.sl ar.τ ar.xs)))) s=some x->∃x0,σ.get s=some x0/\x=Np k0 (.sl ar.τ ar.xs) x0:=by
  intro s x hx
  rw[Ru] at hx
  cases hl:look σ.bI s with
  |none=>rw[hl] at hx;cases hx
  |some x0=>rw[hl] at hx;cases hx;exact⟨x0,hl,rfl⟩
 refine⟨fun b=>F b\/b∈fp k0,⟨h.size,h.defers,fun s x hx=> ?_,fun k e hk=> ?_,fun k k' e e' b fg h1 h2=> ?_,fun k e hk=> ?_,fun k e b hk hb=> ?_,fun b hb=> ?_,fun b hb=> ?_,h.upto,h.N8,h.lay.gx (fun b hb=>⟨.inl hb,rfl⟩)⟩,⟨fun s x hx=> ?_,fun k e hk=> ?_⟩⟩
 ·obtain⟨x0,hx0,rfl⟩:=sQ s x hx
  exact(hc.bI s x0 hx0).fr hF hs
 ·obtain⟨fg,e0,nE,rfl⟩:=sS k e hk
  exact(hc.dV k e0 nE).fr hF hs
 ·obtain⟨_,e0,nE,_⟩:=sS k e h1
  obtain⟨_,e0',aaU,_⟩:=sS k' e' h2
  exact h.apart k k' e0 e0' b fg nE aaU
 ·obtain⟨_,e0,nE,_⟩:=sS k e hk
  exact h.nodup k e0 nE
 ·obtain⟨fg,e0,nE,_⟩:=sS k e hk
  obtain⟨m1,m2,m3⟩:=h.fV k e0 b nE hb
  exact⟨fun hh=>hh.elim m1 (fun hh=>h.apart k k0 e0 _ b fg nE he hb hh),m2,m3⟩
 ·exact hb.elim (h.uc b) (fun hb=>(h.fV k0 _ b he hb).2.2)
 ·exact hb.elim (h.ub b) (fun hb=> .inr (h.fV k0 _ b he hb).2.1)
 ·obtain⟨x0,hx0,rfl⟩:=sQ s x hx
  exact(hc.bI s x0 hx0).fr hF hs
 ·obtain⟨fg,e0,nE,rfl⟩:=sS k e hk
  exact(hc.dV k e0 nE).fr hF hs
theorem U':∀{l:List Nat}{σ:ai U},(∃F kv fp,cQ E pm F kv fp σ a w/\fD E w F kv fp σ a)->∃F kv fp,cQ E pm F kv fp (qG l σ) a w/\fD E w F kv fp (qG l σ) a
 |[],σ,h=>h
 |s::l,σ,h=>by
  refine U' (l:=l) (σ:=sY s σ) ?_
  obtain⟨F,kv,fp,h1,h2⟩:=h
  unfold sY
  split
  ·obtain⟨F',h3⟩:=ac1 h1 h2 _
   exact⟨F',kv,fp,h3⟩
  ·exact⟨F,kv,fp,h1,h2⟩
theorem ac4{k0:Key}{c:U.C}{x:AC U}{k:Key}(h:k∈(Ii k0 c x).keys):k∈x.keys:=by
 unfold Ii at h
 split at h
 ·rename_i q
  rw[iu] at h
  split at h
  ·simp[AC.keys] at h
  ·exact h
 ·exact h
theorem ala{k0:Key}{c:U.C}{x:SV U}{k:Key}(h:k∈(Np k0 c x).keys):k∈x.keys:=by
 cases x with
 |v x=>
  obtain⟨y,hy,hk⟩:=SV.mem_keys.1 h
  simp only[Np,SV.B7,l_] at hy
  obtain⟨z,hz,rfl⟩:=hy
  exact SV.mem_keys.2 ⟨z,hz,ac4 hk⟩
 |wm xs=>exact h
 |fn p=>exact h
 |He g xs=>exact h
theorem ac2{k0 k:Key}(h:Names (lW k0 σ) k):Names σ k:=by
 unfold lW at h
 split at h
 rotate_left
 ·exact h
 rcases h with⟨s,x,hs,hk⟩|⟨k',cs,he,x,hx,hk⟩
 ·have hs:look (σ.bI.map _) s=some x:=hs
  rw[Ru] at hs
  cases hl:look σ.bI s with
  |none=>rw[hl] at hs;cases hs
  |some y=>rw[hl] at hs;cases hs;exact .inl ⟨s,y,hl,ala hk⟩
 ·have he:eZ ((k0,none)::σ.oy.map _) k'=some (i_.box cs):=he
  simp only[eZ] at he
  cases hq:jb k0 k'<;>simp only[hq,cond_true,cond_false] at he
  ·rw[ZO] at he
   cases hl:eZ σ.oy k' with
   |none=>rw[hl] at he;cases he
   |some e=>
    rw[hl] at he
    cases e with
    |arr a d=>cases he
    |part a d=>cases he
    |box cs0=>
     simp only[FR,Lk,gJ,i_.box.injEq] at he
     subst he
     obtain⟨z,hz,rfl⟩:=l_.1 hx
     exact .inr ⟨k',cs0,hl,z,hz,ac4 hk⟩
  ·cases he
theorem acZ{k:Key}:∀{l:List Nat}{σ:ai U},Names (qG l σ) k->Names σ k
 |[],σ,h=>h
 |s::l,σ,h=>by
  have h2:Names (sY s σ) k:=acZ (l:=l) h
  unfold sY at h2
  split at h2
  ·exact ac2 h2
  ·exact h2
theorem Va:∀{l:List Key}{σ:ai U},(∃F kv fp,cQ E pm F kv fp σ a w/\fD E w F kv fp σ a)->∃F kv fp,cQ E pm F kv fp (rR l σ) a w/\fD E w F kv fp (rR l σ) a
 |[],σ,h=>h
 |s::l,σ,h=>by
  refine Va (l:=l) (σ:=lW s σ) ?_
  obtain⟨F,kv,fp,h1,h2⟩:=h
  obtain⟨F',h3⟩:=ac1 h1 h2 s
  exact⟨F',kv,fp,h3⟩
theorem ac0{k:Key}:∀{l:List Key}{σ:ai U},Names (rR l σ) k->Names σ k
 |[],σ,h=>h
 |s::l,σ,h=>ac2 (ac0 (l:=l) (σ:=lW s σ) h)
theorem alw(h:cQ E pm F kv fp σ a w)(E':Env U)(ops:List Oper):∃F kv fp,cQ E pm F kv fp (EZ E' ops σ) a w:=by
 obtain⟨F',kv',fp',h1,_⟩:=Va (l:=Ox ops (qG (Oa E' ops) (enter ops σ))) (U' (l:=Oa E' ops) (σ:=enter ops σ) ⟨F,kv,fp,alu h ops,Rr h _⟩)
 exact⟨F',kv',fp',h1⟩
theorem ac'{E':Env U}{ops:List Oper}{k:Key}(h:Names (EZ E' ops σ) k)(hd:k.1∈BB ops\/k.1=1000000):1024<=k.2:=alv (acZ (ac0 h)) hd
theorem ajX(h:cQ E pm F kv fp σ a w)(k0:Key):∃F' fp',cQ E pm F' kv fp' (DX k0 σ) a w:=by
 unfold DX
 split
 rotate_left
 ·exact⟨F,fp,h⟩
 rename_i ar he
 have sS:∀k e,eZ ((k0,some (i_.arr ar false))::σ.oy) k=some e->(k=k0/\e=i_.arr ar false)\/(k≠k0/\σ.bM k=some e):=by
  intro k e hk
  simp only[eZ] at hk
  cases hq:jb k0 k<;>simp only[hq,cond_true,cond_false] at hk
  ·exact .inr ⟨fun e=>(MP.1 hq) e.symm,hk⟩
  ·cases hk;exact .inl ⟨(pA.1 hq).symm,rfl⟩
 have W0:∀k,∃k' e',σ.bM k=some e'\/k'=k:=fun k=>⟨k,.arr ar true,.inr rfl⟩
 obtain⟨F',fp',hF,hF2,Qa,qf,qD,oa⟩:∃(F':Nat->Prop)(fp':Key->List Nat),(∀b,F b->F' b)/\(∀b,F' b->F b\/b∈fp k0)/\(∀k,k≠k0->fp' k=fp k)/\(∀b∈fp' k0,b∈fp k0/\¬F' b)/\(fp' k0).Nodup/\fi E w F' false ar (kv k0) (fp' k0):=by
  have ho:fi E w F true ar (kv k0) (fp k0):=h.dV k0 _ he
  have hn:=h.nodup k0 _ he
  rcases ho with⟨h1,h2,h3⟩|⟨b,cap,cur,vs,ic,h1,h2,h3,h4,h5,h6,h7,h8⟩
  ·exact⟨F,fp,fun _ hb=>hb,fun b hb=> .inl hb,fun _ _=>rfl,fun b hb=>(by rw[h3] at hb;cases hb),hn,.inl ⟨h1,h2,h3⟩⟩
  ·rw[h8,tS] at hn
   refine⟨fun c=>F c\/(c∈fp k0/\c≠b),fun k=>if jb k k0=true then[b] else fp k,fun _ hb=> .inl hb,fun c hc=>hc.imp id fun g=>g.1,fun k hk=> ?_,fun c hc=> ?_,?_,?_⟩
   ·dsimp only;rw[if_neg (by rw[pA];exact hk)]
   ·dsimp only at hc;rw[if_pos (zH _),mF] at hc
    subst hc
    have hm:c∈fp k0:=by rw[h8];exact gB
    exact⟨hm,fun g=>g.elim (h.fV k0 _ c he hm).1 fun g=>g.2 rfl⟩
   ·dsimp only;rw[if_pos (zH _)];simp
   ·dsimp only;rw[if_pos (zH _)]
    refine .inr ⟨b,cap,cur,vs,fun _=>[],h1,h2,h3,h4,h5,h6,fun i x j c hx hj=> ?_,by simp⟩
    have gZ:i*U.wd ar.τ+j<ar.xs.length*U.wd ar.τ:=fU hx hj
    refine(h7 i x j c hx hj).lz (fun b hb=> .inl hb) fun b' bg=> .inr ?_
    have EA:b'∈(List.range (ar.xs.length*U.wd ar.τ)).flatMap ic:=ow.2 ⟨_,pq.2 gZ,bg⟩
    exact⟨by rw[h8];exact cI _ EA,fun e=>hn.1 (by rw[<-e];exact EA)⟩
 have A':∀b,F b->F' b/\w.heap[b]? =w.heap[b]? :=fun b hb=>⟨hF b hb,rfl⟩
 have qB:∀k,p8 w w kv kv fp fp' (bR σ) (bR ({σ with oy:=(k0,some (i_.arr ar false))::σ.oy,aN:=k0::σ.aN}:ai U)) k:=by
  intro k
  refine⟨rfl,?_⟩
  by_cases hk:k=k0
  ·left
   subst hk
   simp[bR,zH]
  ·cases hb:bR σ k
   ·right;exact⟨rfl,Qa k hk,fun _ _=>rfl⟩
   ·left
    simp only[bR,FL] at hb⊢
    rcases hb with hb|hb
    ·left;rw[Ux,hb,Bool.or_true]
    ·right
     show(eZ ((k0,some (i_.arr ar false))::σ.oy) k).isNone=true
     have hq:jb k0 k=false:=MP.2 fun e=>hk e.symm
     simp only[eZ,hq,cond_false]
     exact hb
 have x_:∀k e b,σ.bM k=some e->k≠k0->b∈fp k->¬F' b:=fun k e b hke hk hb bg=>by
  rcases hF2 b bg with g|g
  ·exact(h.fV k e b hke hb).1 g
  ·exact h.apart k k0 e _ b hk hke he hb g
 refine⟨F',fp',⟨h.size,h.defers,fun s x hx=>(h.bI s x hx).move (fun k _=>qB k) A',fun k e hk=> ?_,fun k k' e e' b fg h1 h2 hb=> ?_,fun k e hk=> ?_,fun k e b hk hb=> ?_,fun b hb=> ?_,fun b hb=> ?_,h.upto,h.N8,h.lay.gx A'⟩⟩
 ·rcases sS k e hk with⟨rfl,rfl⟩|⟨fg,hke⟩
  ·exact oa
  ·rw[Qa k fg]
   have h1:=h.dV k e hke
   cases e with
   |arr a d=>exact fi.gx h1 A' (fun _ _=>rfl)
   |part a d=>exact eW.gx h1 A' (fun _ _=>rfl)
   |box cs=>
    obtain⟨b,cur,e',g1,g2,g3,g4⟩:=h1
    exact⟨b,cur,e',g1,g2,g3,g4.move (fun _ _ k _=>qB k) A'⟩
 ·rcases sS k e h1 with⟨rfl,_⟩|⟨n1,g1⟩
  ·rcases sS k' e' h2 with⟨rfl,_⟩|⟨n2,g2⟩
   ·exact absurd rfl fg
   ·rw[Qa k' n2]
    exact h.apart _ k' _ _ b fg he g2 (qf b hb).1
  ·rw[Qa k n1] at hb
   rcases sS k' e' h2 with⟨rfl,_⟩|⟨n2,g2⟩
   ·exact fun bg=>h.apart k _ _ _ b fg g1 he hb (qf b bg).1
   ·rw[Qa k' n2]
    exact h.apart k k' _ _ b fg g1 g2 hb
 ·rcases sS k e hk with⟨rfl,_⟩|⟨n1,g1⟩
  ·exact qD
  ·rw[Qa k n1];exact h.nodup k e g1
 ·rcases sS k e hk with⟨rfl,_⟩|⟨n1,g1⟩
  ·obtain⟨g1,g2⟩:=qf b hb
   exact⟨g2,(h.fV _ _ b he g1).2⟩
  ·rw[Qa k n1] at hb
   exact⟨x_ k e b g1 n1 hb,(h.fV k e b g1 hb).2⟩
 ·rcases hF2 b hb with g|g
  ·exact h.uc b g
  ·exact(h.fV k0 _ b he g).2.2
 ·rcases hF2 b hb with g|g
  ·exact h.ub b g
  ·exact .inr (h.fV k0 _ b he g).2.1
theorem acg:∀{l:List Key}{σ:ai U}{F:Nat->Prop}{fp:Key->List Nat},cQ E pm F kv fp σ a w->∃F' fp',cQ E pm F' kv fp' (l.foldl (fun σ k=>DX k σ) σ) a w
 |[],_,F,fp,h=>⟨F,fp,h⟩
 |k::l,σ,F,fp,h=>by
  obtain⟨F1,fp1,h1⟩:=ajX h k
  exact acg (l:=l) h1
theorem ace{l:List Key}(h:cQ E pm F kv fp σ a w)(hc:fD E w F kv fp σ a):∃F' fp',cQ E pm F' kv fp' (NX l σ) a w/\fD E w F' kv fp' (NX l σ) a:=by
 cases l with
 |nil=>exact⟨F,fp,h,hc⟩
 |cons k l=>
  obtain⟨F1,fp1,h1⟩:=acg (l:=k::l) h
  exact⟨F1,fp1,HE h1 _,Rr h1 _⟩
end AM
