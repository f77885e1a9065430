/- THE ABSTRACT MACHINE: forgetting, and new names. -/
import Derived.Test.YtlachfpabecaeaaQAmDraw
namespace AM
set_option linter.unusedVariables false
open Go
variable{U:dw}{E:Env U}{pm:Pm}
variable{F F':Nat->Prop}{kv:Key->Value}{fp:Key->List Nat}{σ τ:aa U}{a:Act}{w w':World}
theorem qB{β:Type}{l:List (Nat×Option β)}{s:Nat}{x:β}(h:look l s=some x):(s,some x)∈l:=by
 induction l with
 |nil=>cases h
 |cons p l ih=>
  obtain⟨t,v⟩:=p
  simp only[look] at h
  cases ht:Nat.beq t s<;>rw[ht] at h<;>simp only[cond_true,cond_false] at h
  ·exact d_ _ (ih h)
  ·have:=eI ht
   subst this;subst h;exact gp
theorem uV{β:Type}{l:List (Nat×Option β)}{s:Nat}{x:β}(hn:(l.map (·.1)).Nodup)(h:(s,some x)∈l):look l s=some x:=by
 induction l with
 |nil=>cases h
 |cons p l ih=>
  obtain⟨t,v⟩:=p
  simp only[qd,gx] at hn
  simp only[look]
  rcases dJ.1 h with h|h
  ·cases h;simp
  ·have:Nat.beq t s=false:=by
    cases hb:Nat.beq t s
    ·rfl
    ·have:=eI hb
     subst this
     exact absurd (eV.2 ⟨_,h,rfl⟩) hn.1
   rw[this];exact ih hn.2 h
theorem uU{β:Type}{l:List (Key×Option β)}{s:Key}{x:β}(hn:(l.map (·.1)).Nodup)(h:(s,some x)∈l):aW l s=some x:=by
 induction l with
 |nil=>cases h
 |cons p l ih=>
  obtain⟨t,v⟩:=p
  simp only[qd,gx] at hn
  simp only[aW]
  rcases dJ.1 h with h|h
  ·cases h;simp[k9]
  ·have:cj t s=false:=by
    rw[rR]
    rintro rfl
    exact hn.1 (eV.2 ⟨_,h,rfl⟩)
   rw[this];exact ih hn.2 h
theorem qv{β:Type}:∀{l:List (Nat×Option β)}{seen:List Nat},((kc seen l).map (·.1)).Nodup/\∀p∈kc seen l,p.1∉seen
 |[],seen=>⟨zq,fun p hp=>by simp[kc] at hp⟩
 |(s,v)::r,seen=>by
  simp only[kc]
  cases hs:seen.any (Nat.beq s)
  ·have KE:s∉seen:=fun h=>by
    have:seen.any (Nat.beq s)=true:=jI.2 ⟨s,h,by simp⟩
    rw[hs] at this;cases this
   obtain⟨h1,h2⟩:=qv (l:=r) (seen:=s::seen)
   cases v with
   |none=>exact⟨h1,fun p hp hm=>h2 p hp (d_ _ hm)⟩
   |some x=>
    simp only[cond_false,qd,gx]
    refine⟨⟨fun hm=> ?_,h1⟩,fun p hp=> ?_⟩
    ·obtain⟨p,hp,he⟩:=eV.1 hm
     exact h2 p hp (by rw[he];exact gp)
    ·rcases dJ.1 hp with rfl|hp
     ·exact KE
     ·exact fun hm=>h2 p hp (d_ _ hm)
  ·exact qv
theorem qw{β:Type}:∀{l:List (Nat×Option β)}{seen:List Nat}{s:Nat},s∉seen->look (kc seen l) s=look l s
 |[],_,_,_=>rfl
 |(t,v)::r,seen,s,hs=>by
  simp only[kc,look]
  cases ht:seen.any (Nat.beq t)
  ·simp only[cond_false]
   cases hb:Nat.beq t s
   ·have aX:s∉t::seen:=by
     intro hm
     rcases dJ.1 hm with rfl|hm
     ·simp at hb
     ·exact hs hm
    cases v with
    |none=>simp only[cond_false];exact qw aX
    |some x=>simp only[look,hb,cond_false];exact qw aX
   ·have:=eI hb
    subst this
    cases v with
    |some x=>simp[look]
    |none=>
     simp only[cond_true]
     cases hl:look (kc (t::seen) r) t with
     |none=>rfl
     |some x=>exact absurd gp ((qv (l:=r) (seen:=t::seen)).2 _ (qB hl))
  ·simp only[cond_true]
   have hb:Nat.beq t s=false:=by
    cases hb:Nat.beq t s
    ·rfl
    ·have:=eI hb
     subst this
     obtain⟨x,hx,he⟩:=jI.1 ht
     have:=eI he
     subst this
     exact absurd hx hs
   rw[hb]
   exact qw hs
theorem uP{β:Type}:∀{l:List (Key×Option β)}{seen:List Key},((fX seen l).map (·.1)).Nodup/\∀p∈fX seen l,p.1∉seen
 |[],seen=>⟨zq,fun p hp=>by simp[fX] at hp⟩
 |(s,v)::r,seen=>by
  simp only[fX]
  cases hs:seen.any (cj s)
  ·have KE:s∉seen:=fun h=>by rw[gX.2 h] at hs;cases hs
   obtain⟨h1,h2⟩:=uP (l:=r) (seen:=s::seen)
   cases v with
   |none=>exact⟨h1,fun p hp hm=>h2 p hp (d_ _ hm)⟩
   |some x=>
    simp only[cond_false,qd,gx]
    refine⟨⟨fun hm=> ?_,h1⟩,fun p hp=> ?_⟩
    ·obtain⟨p,hp,he⟩:=eV.1 hm
     exact h2 p hp (by rw[he];exact gp)
    ·rcases dJ.1 hp with rfl|hp
     ·exact KE
     ·exact fun hm=>h2 p hp (d_ _ hm)
  ·exact uP
theorem uQ{β:Type}:∀{l:List (Key×Option β)}{seen:List Key}{s:Key},s∉seen->aW (fX seen l) s=aW l s
 |[],_,_,_=>rfl
 |(t,v)::r,seen,s,hs=>by
  simp only[fX,aW]
  cases ht:seen.any (cj t)
  ·simp only[cond_false]
   cases hb:cj t s
   ·have aX:s∉t::seen:=by
     intro hm
     rcases dJ.1 hm with rfl|hm
     ·rw[k9] at hb;cases hb
     ·exact hs hm
    cases v with
    |none=>simp only[cond_false];exact uQ aX
    |some x=>simp only[aW,hb,cond_false];exact uQ aX
   ·have:=fF.1 hb
    subst this
    cases v with
    |some x=>simp[aW,k9]
    |none=>
     simp only[cond_true]
     cases hl:aW (fX (t::seen) r) t with
     |none=>rfl
     |some x=>exact absurd gp ((uP (l:=r) (seen:=t::seen)).2 _ (mN hl))
  ·simp only[cond_true]
   have hb:cj t s=false:=by
    rw[rR]
    rintro rfl
    exact hs (gX.1 ht)
   rw[hb]
   exact uQ hs
theorem xc{α β:Type}{l:List α}{f:α->β}{p:α->Bool}(h:(l.map f).Nodup):((l.filter p).map f).Nodup:=
 List.Nodup.sublist (List.Sublist.map _ List.filter_sublist) h
def xF(bad:Key->Bool)(σ:aa U)(x:SV U):Bool:= !(x.sF (fun k=>bad k||(aW σ.tab k).isNone) σ.ah)
theorem uT{bad:Key->Bool}{s:Nat}{x:SV U}:(gB bad σ).get s=some x↔σ.get s=some x/\xF bad σ x=true/\x≠ .jx []:=by
 have hn:(((kc [] σ.au).filter fun((_,v):Nat×Option (SV U))=>match v with|some (SV.jx [])=>false|some x=>xF bad σ x|none=>false).map (·.1)).Nodup:=xc qv.1
 have e:(gB bad σ).get s=look ((kc [] σ.au).filter fun((_,v):Nat×Option (SV U))=>match v with|some (SV.jx [])=>false|some x=>xF bad σ x|none=>false) s:=rfl
 rw[e]
 constructor
 ·intro h
  have hm:=qa.1 (qB h)
  have h1:=uV qv.1 hm.1
  rw[qw (by simp)] at h1
  refine⟨h1,?_⟩
  have h2:=hm.2
  cases x with
  |v y=>exact⟨h2,fun e=>by cases e⟩
  |jx l=>cases l with
   |nil=>cases h2
   |cons y l=>exact⟨h2,fun e=>by cases e⟩
  |fn p=>exact⟨h2,fun e=>by cases e⟩
  |ox g l=>exact⟨h2,fun e=>by cases e⟩
 ·rintro⟨h1,h2,h3⟩
  refine uV hn (qa.2 ⟨qB (by rw[qw (by simp)];exact h1),?_⟩)
  cases x with
  |v y=>exact h2
  |jx l=>cases l with
   |nil=>exact absurd rfl h3
   |cons y l=>exact h2
  |fn p=>exact h2
  |ox g l=>exact h2
theorem qz{bad:Key->Bool}{k:Key}{e:bZ U}(h:(gB bad σ).aw k=some e):σ.aw k=some e/\bad k=false/\∀cs,e=.box cs->xF bad σ (.v ⟨true,cs⟩)=true:=by
 have hm:=qa.1 (mN h)
 have h1:=uU uP.1 hm.1
 rw[uQ (by simp)] at h1
 have h2:=hm.2
 simp only[c9,l6] at h2
 refine⟨h1,h2.1,fun cs ik=> ?_⟩
 subst ik
 exact h2.2
theorem tt{bad:Key->Bool}{x:SV U}(h:xF bad σ x=true){y:AC U}(hy:y∈x.mE):cd (ay σ) y=false/\∀k∈y.keys,bad k=false/\(σ.aw k).isSome=true:=by
 unfold xF SV.sF at h
 rw[l6,<-n7,jI] at h
 have h':∀z,¬(z∈x.mE/\_):=fun z hz=>h ⟨z,hz⟩
 have h2:=h' y
 simp only[hy,true_and,qi,not_or] at h2
 obtain⟨h3,h4⟩:=h2
 have hk:∀k∈y.keys,bad k=false/\(σ.aw k).isSome=true:=by
  intro k hk
  have h5:¬((bad k||(aW σ.tab k).isNone)=true):=fun e=>h3 (jI.2 ⟨k,hk,e⟩)
  simp only[qi,not_or,n7] at h5
  refine⟨h5.1,?_⟩
  have h6:=h5.2
  unfold aa.aw
  cases hl:aW σ.tab k with
  |none=>rw[hl] at h6;simp at h6
  |some e=>rfl
 refine⟨?_,hk⟩
 have hb:∀k,k∈y.keys->σ.ah.any (cj k)=false->ay σ k=false:=by
  intro k h1 h2
  unfold ay
  rw[h2,sA]
  have:=(hk k h1).2
  cases he:σ.aw k with
  |none=>rw[he] at this;cases this
  |some e=>rfl
 cases y with
 |ref k p=>
  simp only[cd]
  cases hp:p.isEmpty
  ·simp only[hp,Cx,CD] at h4⊢
   exact hb k (by simp[AC.keys]) (by simpa using h4)
  ·rfl
 |dG k p i wd off=>
  simp only[cd]
  cases hp:p.isEmpty
  ·simp only[hp,Cx,CD] at h4⊢
   exact hb k (by simp[AC.keys]) (by simpa using h4)
  ·rfl
 |_=>rfl
theorem RD.eL{bad bad':Key->Bool}{x:AC U}{v:Value}(hb:cd bad x=false)(h:RD E w F kv fp bad x v):RD E w F kv fp bad' x v:=
 ⟨h.1,.inr (aA h hb)⟩
theorem dQ.eL{bad bad':Key->Bool}{xs:List (AC U)}{vs:List Value}(hb:∀y∈xs,cd bad y=false)(h:dQ E w F kv fp bad xs vs):dQ E w F kv fp bad' xs vs:=
 ⟨h.1,fun i x v hx hv=>(h.2 i x v hx hv).eL (hb x (n6 hx))⟩
theorem RS.eL{bad bad':Key->Bool}{x:SV U}{v:Value}(hb:∀y∈x.mE,cd bad y=false)(h:RS E w F kv fp bad x v):RS E w F kv fp bad' x v:=by
 cases x with
 |v x=>obtain⟨vs,h1,h2⟩:=h;exact⟨vs,h1.eL hb,h2⟩
 |jx xs=>
  obtain⟨vs,h1,h2,h3⟩:=h
  refine⟨vs,h1,h2,fun i x u hx hu=> ?_⟩
  obtain⟨us,g1,g2⟩:=h3 i x u hx hu
  exact⟨us,g1.eL (fun y hy=>hb y (fC.2 ⟨x,n6 hx,hy⟩)),g2⟩
 |fn p=>exact h
 |ox g xs=>
  obtain⟨vs,h1,h2,h3⟩:=h
  refine⟨vs,h1,h2,fun i x u hx hu=> ?_⟩
  obtain⟨us,g1,g2⟩:=h3 i x u hx hu
  exact⟨us,g1.eL (fun y hy=>hb y (fC.2 ⟨x,n6 hx,hy⟩)),g2⟩
theorem oQ(h:aE E pm F kv fp σ a w)(bad:Key->Bool):aE E pm F kv fp (gB bad σ) a w:=by
 refine⟨h.size,h.defers,fun s x hs=> ?_,fun k e he=> ?_,fun k k' e e' b aX h1 h2=>h.apart k k' e e' b aX (qz h1).1 (qz h2).1,fun k e he=>h.nodup k e (qz he).1,fun k e b he=>h.bt k e b (qz he).1,h.iz,h.iy,h.upto,h.sL,h.lay⟩
 ·obtain⟨h1,h2,_⟩:=uT.1 hs
  exact(h.au s x h1).eL (fun y hy=>(tt h2 hy).1)
 ·obtain⟨h1,h2,h3⟩:=qz he
  have h0:=h.aJ k e h1
  cases e with
  |arr x deep=>exact h0
  |part x dead=>exact h0
  |box cs=>
   obtain⟨b,cur,e',g1,g2,g3,g4⟩:=h0
   exact⟨b,cur,e',g1,g2,g3,g4.eL (fun y hy=>(tt (h3 cs rfl) (x:=.v ⟨true,cs⟩) hy).1)⟩
theorem Dz{bad:Key->Bool}{k:Key}(h:Names (gB bad σ) k):bad k=false/\(σ.aw k).isSome=true:=by
 rcases h with⟨s,x,hs,hk⟩|⟨k',cs,he,x,hx,hk⟩
 ·obtain⟨_,h2,_⟩:=uT.1 hs
  obtain⟨y,hy,hk⟩:=SV.mem_keys.1 hk
  exact(tt h2 hy).2 k hk
 ·obtain⟨_,_,h3⟩:=qz he
  exact(tt (h3 cs rfl) (x:=.v ⟨true,cs⟩) hx).2 k hk
theorem Jz(h:aE E pm F kv fp σ a w)(ops:List Oper):aE E pm F kv fp (enter ops σ) a w:=oQ h _
theorem JA{ops:List Oper}{k:Key}(h:Names (enter ops σ) k)(hd:k.1∈mc ops\/k.1=1000000):1024<=k.2:=by
 have:=(Dz h).1
 have h1:((mc ops).any (Nat.beq k.1)||Nat.beq k.1 1000000)=true:=by
  rw[qi]
  rcases hd with hd|hd
  ·exact .inl (jI.2 ⟨_,hd,by simp⟩)
  ·exact .inr (by rw[hd];rfl)
 simp only[h1,CD] at this
 rcases fA k.2 1024 with bU|Bm
 ·have:Nat.blt k.2 1024=true:=by simpa using bU
  simp_all
 ·exact Bm
end AM
