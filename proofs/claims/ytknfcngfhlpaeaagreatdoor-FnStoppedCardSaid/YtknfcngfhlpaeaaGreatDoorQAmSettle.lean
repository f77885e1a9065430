import Derived.Test.YtknfcngfhlpaeaaGreatDoorQAmDraw
namespace AM
set_option linter.unusedVariables false
open Go
variable{U:kz}{E:Env U}{pm:Pm}
variable{F F':Nat->Prop}{kv:Key->Value}{fp:Key->List Nat}{σ τ:ak U}{a:Act}{w w':World}
theorem H7{β:Type}{l:List (Nat×Option β)}{s:Nat}{x:β}(h:look l s=some x):(s,some x)∈l:=by
 induction l with
 |nil=>cases h
 |cons p l ih=>
  obtain⟨t,v⟩:=p
  simp only[look] at h
  cases ht:Nat.beq t s<;>rw[ht] at h<;>simp only[cond_true,cond_false] at h
  ·exact e8 _ (ih h)
  ·have:=mc ht
   subst this;subst h;exact gS
theorem N5{β:Type}{l:List (Nat×Option β)}{s:Nat}{x:β}(hn:(l.map (·.1)).Nodup)(h:(s,some x)∈l):look l s=some x:=by
 induction l with
 |nil=>cases h
 |cons p l ih=>
  obtain⟨t,v⟩:=p
  simp only[sS,sC] at hn
  simp only[look]
  rcases jF.1 h with h|h
  ·cases h;simp
  ·have:Nat.beq t s=false:=by
    cases hb:Nat.beq t s
    ·rfl
    ·have:=mc hb
     subst this
     exact absurd (kW.2 ⟨_,h,rfl⟩) hn.1
   rw[this];exact ih hn.2 h
theorem Rw{β:Type}{l:List (Key×Option β)}{s:Key}{x:β}(hn:(l.map (·.1)).Nodup)(h:(s,some x)∈l):dW l s=some x:=by
 induction l with
 |nil=>cases h
 |cons p l ih=>
  obtain⟨t,v⟩:=p
  simp only[sS,sC] at hn
  simp only[dW]
  rcases jF.1 h with h|h
  ·cases h;simp[yl]
  ·have:ik t s=false:=by
    rw[J2]
    rintro rfl
    exact hn.1 (kW.2 ⟨_,h,rfl⟩)
   rw[this];exact ih hn.2 h
theorem H2{β:Type}:∀{l:List (Nat×Option β)}{seen:List Nat},((wo seen l).map (·.1)).Nodup/\∀p∈wo seen l,p.1∉seen
 |[],seen=>⟨VV,fun p hp=>by simp[wo] at hp⟩
 |(s,v)::r,seen=>by
  simp only[wo]
  cases hs:seen.any (Nat.beq s)
  ·have Zi:s∉seen:=fun h=>by
    have:seen.any (Nat.beq s)=true:=tI.2 ⟨s,h,by simp⟩
    rw[hs] at this;cases this
   obtain⟨h1,h2⟩:=H2 (l:=r) (seen:=s::seen)
   cases v with
   |none=>exact⟨h1,fun p hp hm=>h2 p hp (e8 _ hm)⟩
   |some x=>
    simp only[cond_false,sS,sC]
    refine⟨⟨fun hm=> ?_,h1⟩,fun p hp=> ?_⟩
    ·obtain⟨p,hp,he⟩:=kW.1 hm
     exact h2 p hp (by rw[he];exact gS)
    ·rcases jF.1 hp with rfl|hp
     ·exact Zi
     ·exact fun hm=>h2 p hp (e8 _ hm)
  ·exact H2
theorem H3{β:Type}:∀{l:List (Nat×Option β)}{seen:List Nat}{s:Nat},s∉seen->look (wo seen l) s=look l s
 |[],_,_,_=>rfl
 |(t,v)::r,seen,s,hs=>by
  simp only[wo,look]
  cases ht:seen.any (Nat.beq t)
  ·simp only[cond_false]
   cases hb:Nat.beq t s
   ·have d_:s∉t::seen:=by
     intro hm
     rcases jF.1 hm with rfl|hm
     ·simp at hb
     ·exact hs hm
    cases v with
    |none=>simp only[cond_false];exact H3 d_
    |some x=>simp only[look,hb,cond_false];exact H3 d_
   ·have:=mc hb
    subst this
    cases v with
    |some x=>simp[look]
    |none=>
     simp only[cond_true]
     cases hl:look (wo (t::seen) r) t with
     |none=>rfl
     |some x=>exact absurd gS ((H2 (l:=r) (seen:=t::seen)).2 _ (H7 hl))
  ·simp only[cond_true]
   have hb:Nat.beq t s=false:=by
    cases hb:Nat.beq t s
    ·rfl
    ·have:=mc hb
     subst this
     obtain⟨x,hx,he⟩:=tI.1 ht
     have:=mc he
     subst this
     exact absurd hx hs
   rw[hb]
   exact H3 hs
theorem N0{β:Type}:∀{l:List (Key×Option β)}{seen:List Key},((pj seen l).map (·.1)).Nodup/\∀p∈pj seen l,p.1∉seen
 |[],seen=>⟨VV,fun p hp=>by simp[pj] at hp⟩
 |(s,v)::r,seen=>by
  simp only[pj]
  cases hs:seen.any (ik s)
  ·have Zi:s∉seen:=fun h=>by rw[q_.2 h] at hs;cases hs
   obtain⟨h1,h2⟩:=N0 (l:=r) (seen:=s::seen)
   cases v with
   |none=>exact⟨h1,fun p hp hm=>h2 p hp (e8 _ hm)⟩
   |some x=>
    simp only[cond_false,sS,sC]
    refine⟨⟨fun hm=> ?_,h1⟩,fun p hp=> ?_⟩
    ·obtain⟨p,hp,he⟩:=kW.1 hm
     exact h2 p hp (by rw[he];exact gS)
    ·rcases jF.1 hp with rfl|hp
     ·exact Zi
     ·exact fun hm=>h2 p hp (e8 _ hm)
  ·exact N0
theorem Rj{β:Type}:∀{l:List (Key×Option β)}{seen:List Key}{s:Key},s∉seen->dW (pj seen l) s=dW l s
 |[],_,_,_=>rfl
 |(t,v)::r,seen,s,hs=>by
  simp only[pj,dW]
  cases ht:seen.any (ik t)
  ·simp only[cond_false]
   cases hb:ik t s
   ·have d_:s∉t::seen:=by
     intro hm
     rcases jF.1 hm with rfl|hm
     ·rw[yl] at hb;cases hb
     ·exact hs hm
    cases v with
    |none=>simp only[cond_false];exact Rj d_
    |some x=>simp only[dW,hb,cond_false];exact Rj d_
   ·have:=og.1 hb
    subst this
    cases v with
    |some x=>simp[dW,yl]
    |none=>
     simp only[cond_true]
     cases hl:dW (pj (t::seen) r) t with
     |none=>rfl
     |some x=>exact absurd gS ((N0 (l:=r) (seen:=t::seen)).2 _ (D6 hl))
  ·simp only[cond_true]
   have hb:ik t s=false:=by
    rw[J2]
    rintro rfl
    exact hs (q_.1 ht)
   rw[hb]
   exact Rj hs
theorem Rt{α β:Type}{l:List α}{f:α->β}{p:α->Bool}(h:(l.map f).Nodup):((l.filter p).map f).Nodup:=
 List.Nodup.sublist (List.Sublist.map _ List.filter_sublist) h
def TE(bad:Key->Bool)(σ:ak U)(x:SV U):Bool:= !(x.KZ (fun k=>bad k||(dW σ.nG k).isNone) σ.aR)
theorem N4{bad:Key->Bool}{s:Nat}{x:SV U}:(sn bad σ).get s=some x↔σ.get s=some x/\TE bad σ x=true/\x≠ .uZ []:=by
 have hn:(((wo [] σ.bx).filter fun((_,v):Nat×Option (SV U))=>match v with|some (SV.uZ [])=>false|some x=>TE bad σ x|none=>false).map (·.1)).Nodup:=Rt H2.1
 have e:(sn bad σ).get s=look ((wo [] σ.bx).filter fun((_,v):Nat×Option (SV U))=>match v with|some (SV.uZ [])=>false|some x=>TE bad σ x|none=>false) s:=rfl
 rw[e]
 constructor
 ·intro h
  have hm:=wc.1 (H7 h)
  have h1:=N5 H2.1 hm.1
  rw[H3 (by simp)] at h1
  refine⟨h1,?_⟩
  have h2:=hm.2
  cases x with
  |v y=>exact⟨h2,fun e=>by cases e⟩
  |uZ l=>cases l with
   |nil=>cases h2
   |cons y l=>exact⟨h2,fun e=>by cases e⟩
  |fn p=>exact⟨h2,fun e=>by cases e⟩
  |Ff g l=>exact⟨h2,fun e=>by cases e⟩
 ·rintro⟨h1,h2,h3⟩
  refine N5 hn (wc.2 ⟨H7 (by rw[H3 (by simp)];exact h1),?_⟩)
  cases x with
  |v y=>exact h2
  |uZ l=>cases l with
   |nil=>exact absurd rfl h3
   |cons y l=>exact h2
  |fn p=>exact h2
  |Ff g l=>exact h2
theorem H6{bad:Key->Bool}{k:Key}{e:ie U}(h:(sn bad σ).bH k=some e):σ.bH k=some e/\bad k=false/\∀cs,e=.box cs->TE bad σ (.v ⟨true,cs⟩)=true:=by
 have hm:=wc.1 (D6 h)
 have h1:=Rw N0.1 hm.1
 rw[Rj (by simp)] at h1
 have h2:=hm.2
 simp only[cH,pc] at h2
 refine⟨h1,h2.1,fun cs tY=> ?_⟩
 subst tY
 exact h2.2
theorem Md{bad:Key->Bool}{x:SV U}(h:TE bad σ x=true){y:AC U}(hy:y∈x.Ax):hJ (bR σ) y=false/\∀k∈y.keys,bad k=false/\(σ.bH k).isSome=true:=by
 unfold TE SV.KZ at h
 rw[pc,<-uO,tI] at h
 have h':∀z,¬(z∈x.Ax/\_):=fun z hz=>h ⟨z,hz⟩
 have h2:=h' y
 simp only[hy,true_and,DW,not_or] at h2
 obtain⟨h3,h4⟩:=h2
 have hk:∀k∈y.keys,bad k=false/\(σ.bH k).isSome=true:=by
  intro k hk
  have h5:¬((bad k||(dW σ.nG k).isNone)=true):=fun e=>h3 (tI.2 ⟨k,hk,e⟩)
  simp only[DW,not_or,uO] at h5
  refine⟨h5.1,?_⟩
  have h6:=h5.2
  unfold ak.bH
  cases hl:dW σ.nG k with
  |none=>rw[hl] at h6;simp at h6
  |some e=>rfl
 refine⟨?_,hk⟩
 have hb:∀k,k∈y.keys->σ.aR.any (ik k)=false->bR σ k=false:=by
  intro k h1 h2
  unfold bR
  rw[h2,Fw]
  have:=(hk k h1).2
  cases he:σ.bH k with
  |none=>rw[he] at this;cases this
  |some e=>rfl
 cases y with
 |ref k p=>
  simp only[hJ]
  cases hp:p.isEmpty
  ·simp only[hp,Tq,vh] at h4⊢
   exact hb k (by simp[AC.keys]) (by simpa using h4)
  ·rfl
 |kI k p i wd off=>
  simp only[hJ]
  cases hp:p.isEmpty
  ·simp only[hp,Tq,vh] at h4⊢
   exact hb k (by simp[AC.keys]) (by simpa using h4)
  ·rfl
 |_=>rfl
theorem RD.mn{bad bad':Key->Bool}{x:AC U}{v:Value}(hb:hJ bad x=false)(h:RD E w F kv fp bad x v):RD E w F kv fp bad' x v:=
 ⟨h.1,.inr (ca h hb)⟩
theorem kU.mn{bad bad':Key->Bool}{xs:List (AC U)}{vs:List Value}(hb:∀y∈xs,hJ bad y=false)(h:kU E w F kv fp bad xs vs):kU E w F kv fp bad' xs vs:=
 ⟨h.1,fun i x v hx hv=>(h.2 i x v hx hv).mn (hb x (Em hx))⟩
theorem RS.mn{bad bad':Key->Bool}{x:SV U}{v:Value}(hb:∀y∈x.Ax,hJ bad y=false)(h:RS E w F kv fp bad x v):RS E w F kv fp bad' x v:=by
 cases x with
 |v x=>obtain⟨vs,h1,h2⟩:=h;exact⟨vs,h1.mn hb,h2⟩
 |uZ xs=>
  obtain⟨vs,h1,h2,h3⟩:=h
  refine⟨vs,h1,h2,fun i x u hx hu=> ?_⟩
  obtain⟨us,g1,g2⟩:=h3 i x u hx hu
  exact⟨us,g1.mn (fun y hy=>hb y (nF.2 ⟨x,Em hx,hy⟩)),g2⟩
 |fn p=>exact h
 |Ff g xs=>
  obtain⟨vs,h1,h2,h3⟩:=h
  refine⟨vs,h1,h2,fun i x u hx hu=> ?_⟩
  obtain⟨us,g1,g2⟩:=h3 i x u hx hu
  exact⟨us,g1.mn (fun y hy=>hb y (nF.2 ⟨x,Em hx,hy⟩)),g2⟩
theorem FH(h:cG E pm F kv fp σ a w)(bad:Key->Bool):cG E pm F kv fp (sn bad σ) a w:=by
 refine⟨h.size,h.defers,fun s x hs=> ?_,fun k e he=> ?_,fun k k' e e' b d_ h1 h2=>h.apart k k' e e' b d_ (H6 h1).1 (H6 h2).1,fun k e he=>h.nodup k e (H6 he).1,fun k e b he=>h.fj k e b (H6 he).1,h.sO,h.sN,h.upto,h.Lg,h.lay⟩
 ·obtain⟨h1,h2,_⟩:=N4.1 hs
  exact(h.bx s x h1).mn (fun y hy=>(Md h2 hy).1)
 ·obtain⟨h1,h2,h3⟩:=H6 he
  have h0:=h.cW k e h1
  cases e with
  |arr x deep=>exact h0
  |part x dead=>exact h0
  |box cs=>
   obtain⟨b,cur,e',g1,g2,g3,g4⟩:=h0
   exact⟨b,cur,e',g1,g2,g3,g4.mn (fun y hy=>(Md (h3 cs rfl) (x:=.v ⟨true,cs⟩) hy).1)⟩
theorem aaE{bad:Key->Bool}{k:Key}(h:Names (sn bad σ) k):bad k=false/\(σ.bH k).isSome=true:=by
 rcases h with⟨s,x,hs,hk⟩|⟨k',cs,he,x,hx,hk⟩
 ·obtain⟨_,h2,_⟩:=N4.1 hs
  obtain⟨y,hy,hk⟩:=SV.mem_keys.1 hk
  exact(Md h2 hy).2 k hk
 ·obtain⟨_,_,h3⟩:=H6 he
  exact(Md (h3 cs rfl) (x:=.v ⟨true,cs⟩) hx).2 k hk
theorem ajd(h:cG E pm F kv fp σ a w)(ops:List Oper):cG E pm F kv fp (enter ops σ) a w:=FH h _
theorem aje{ops:List Oper}{k:Key}(h:Names (enter ops σ) k)(hd:k.1∈zY ops\/k.1=1000000):1024<=k.2:=by
 have:=(aaE h).1
 have h1:((zY ops).any (Nat.beq k.1)||Nat.beq k.1 1000000)=true:=by
  rw[DW]
  rcases hd with hd|hd
  ·exact .inl (tI.2 ⟨_,hd,by simp⟩)
  ·exact .inr (by rw[hd];rfl)
 simp only[h1,vh] at this
 rcases nL k.2 1024 with fU|Yf
 ·have:Nat.blt k.2 1024=true:=by simpa using fU
  simp_all
 ·exact Yf
end AM
