import Derived.Test.YtmcepppejchhkaaGreatDoorQAmDraw
namespace AM
set_option linter.unusedVariables false
open Go
variable{U:lQ}{E:Env U}{pm:Pm}
variable{F F':Nat->Prop}{kv:Key->Value}{fp:Key->List Nat}{σ τ:ak U}{a:Act}{w w':World}
theorem K0{β:Type}{l:List (Nat×Option β)}{s:Nat}{x:β}(h:look l s=some x):(s,some x)∈l:=by
 induction l with
 |nil=>cases h
 |cons p l ih=>
  obtain⟨t,v⟩:=p
  simp only[look] at h
  cases ht:Nat.beq t s<;>rw[ht] at h<;>simp only[cond_true,cond_false] at h
  ·exact fF _ (ih h)
  ·have:=nF ht
   subst this;subst h;exact iH
theorem Rv{β:Type}{l:List (Nat×Option β)}{s:Nat}{x:β}(hn:(l.map (·.1)).Nodup)(h:(s,some x)∈l):look l s=some x:=by
 induction l with
 |nil=>cases h
 |cons p l ih=>
  obtain⟨t,v⟩:=p
  simp only[wH,ur] at hn
  simp only[look]
  rcases kc.1 h with h|h
  ·cases h;simp
  ·have:Nat.beq t s=false:=by
    cases hb:Nat.beq t s
    ·rfl
    ·have:=nF hb
     subst this
     exact absurd (mz.2 ⟨_,h,rfl⟩) hn.1
   rw[this];exact ih hn.2 h
theorem Ve{β:Type}{l:List (Key×Option β)}{s:Key}{x:β}(hn:(l.map (·.1)).Nodup)(h:(s,some x)∈l):eY l s=some x:=by
 induction l with
 |nil=>cases h
 |cons p l ih=>
  obtain⟨t,v⟩:=p
  simp only[wH,ur] at hn
  simp only[eY]
  rcases kc.1 h with h|h
  ·cases h;simp[Am]
  ·have:iZ t s=false:=by
    rw[M5]
    rintro rfl
    exact hn.1 (mz.2 ⟨_,h,rfl⟩)
   rw[this];exact ih hn.2 h
theorem KV{β:Type}:∀{l:List (Nat×Option β)}{seen:List Nat},((ya seen l).map (·.1)).Nodup/\∀p∈ya seen l,p.1∉seen
 |[],seen=>⟨ZB,fun p hp=>by simp[ya] at hp⟩
 |(s,v)::r,seen=>by
  simp only[ya]
  cases hs:seen.any (Nat.beq s)
  ·have hns:s∉seen:=fun h=>by
    have:seen.any (Nat.beq s)=true:=vD.2 ⟨s,h,by simp⟩
    rw[hs] at this;cases this
   obtain⟨h1,h2⟩:=KV (l:=r) (seen:=s::seen)
   cases v with
   |none=>exact⟨h1,fun p hp hm=>h2 p hp (fF _ hm)⟩
   |some x=>
    simp only[cond_false,wH,ur]
    refine⟨⟨fun hm=> ?_,h1⟩,fun p hp=> ?_⟩
    ·obtain⟨p,hp,he⟩:=mz.1 hm
     exact h2 p hp (by rw[he];exact iH)
    ·rcases kc.1 hp with rfl|hp
     ·exact hns
     ·exact fun hm=>h2 p hp (fF _ hm)
  ·exact KV
theorem KW{β:Type}:∀{l:List (Nat×Option β)}{seen:List Nat}{s:Nat},s∉seen->look (ya seen l) s=look l s
 |[],_,_,_=>rfl
 |(t,v)::r,seen,s,hs=>by
  simp only[ya,look]
  cases ht:seen.any (Nat.beq t)
  ·simp only[cond_false]
   cases hb:Nat.beq t s
   ·have fc:s∉t::seen:=by
     intro hm
     rcases kc.1 hm with rfl|hm
     ·simp at hb
     ·exact hs hm
    cases v with
    |none=>simp only[cond_false];exact KW fc
    |some x=>simp only[look,hb,cond_false];exact KW fc
   ·have:=nF hb
    subst this
    cases v with
    |some x=>simp[look]
    |none=>
     simp only[cond_true]
     cases hl:look (ya (t::seen) r) t with
     |none=>rfl
     |some x=>exact absurd iH ((KV (l:=r) (seen:=t::seen)).2 _ (K0 hl))
  ·simp only[cond_true]
   have hb:Nat.beq t s=false:=by
    cases hb:Nat.beq t s
    ·rfl
    ·have:=nF hb
     subst this
     obtain⟨x,hx,he⟩:=vD.1 ht
     have:=nF he
     subst this
     exact absurd hx hs
   rw[hb]
   exact KW hs
theorem Rr{β:Type}:∀{l:List (Key×Option β)}{seen:List Key},((q_ seen l).map (·.1)).Nodup/\∀p∈q_ seen l,p.1∉seen
 |[],seen=>⟨ZB,fun p hp=>by simp[q_] at hp⟩
 |(s,v)::r,seen=>by
  simp only[q_]
  cases hs:seen.any (iZ s)
  ·have hns:s∉seen:=fun h=>by rw[tf.2 h] at hs;cases hs
   obtain⟨h1,h2⟩:=Rr (l:=r) (seen:=s::seen)
   cases v with
   |none=>exact⟨h1,fun p hp hm=>h2 p hp (fF _ hm)⟩
   |some x=>
    simp only[cond_false,wH,ur]
    refine⟨⟨fun hm=> ?_,h1⟩,fun p hp=> ?_⟩
    ·obtain⟨p,hp,he⟩:=mz.1 hm
     exact h2 p hp (by rw[he];exact iH)
    ·rcases kc.1 hp with rfl|hp
     ·exact hns
     ·exact fun hm=>h2 p hp (fF _ hm)
  ·exact Rr
theorem U4{β:Type}:∀{l:List (Key×Option β)}{seen:List Key}{s:Key},s∉seen->eY (q_ seen l) s=eY l s
 |[],_,_,_=>rfl
 |(t,v)::r,seen,s,hs=>by
  simp only[q_,eY]
  cases ht:seen.any (iZ t)
  ·simp only[cond_false]
   cases hb:iZ t s
   ·have fc:s∉t::seen:=by
     intro hm
     rcases kc.1 hm with rfl|hm
     ·rw[Am] at hb;cases hb
     ·exact hs hm
    cases v with
    |none=>simp only[cond_false];exact U4 fc
    |some x=>simp only[eY,hb,cond_false];exact U4 fc
   ·have:=pX.1 hb
    subst this
    cases v with
    |some x=>simp[eY,Am]
    |none=>
     simp only[cond_true]
     cases hl:eY (q_ (t::seen) r) t with
     |none=>rfl
     |some x=>exact absurd iH ((Rr (l:=r) (seen:=t::seen)).2 _ (Gq hl))
  ·simp only[cond_true]
   have hb:iZ t s=false:=by
    rw[M5]
    rintro rfl
    exact hs (tf.1 ht)
   rw[hb]
   exact U4 hs
theorem Vb{α β:Type}{l:List α}{f:α->β}{p:α->Bool}(h:(l.map f).Nodup):((l.filter p).map f).Nodup:=
 List.Nodup.sublist (List.Sublist.map _ List.filter_sublist) h
def Xj(bad:Key->Bool)(σ:ak U)(x:SV U):Bool:= !(x.N4 (fun k=>bad k||(eY σ.o9 k).isNone) σ.aS)
theorem Ru{bad:Key->Bool}{s:Nat}{x:SV U}:(uk bad σ).get s=some x↔σ.get s=some x/\Xj bad σ x=true/\x≠ .wR []:=by
 have hn:(((ya [] σ.bG).filter fun((_,v):Nat×Option (SV U))=>match v with|some (SV.wR [])=>false|some x=>Xj bad σ x|none=>false).map (·.1)).Nodup:=Vb KV.1
 have e:(uk bad σ).get s=look ((ya [] σ.bG).filter fun((_,v):Nat×Option (SV U))=>match v with|some (SV.wR [])=>false|some x=>Xj bad σ x|none=>false) s:=rfl
 rw[e]
 constructor
 ·intro h
  have hm:=xR.1 (K0 h)
  have h1:=Rv KV.1 hm.1
  rw[KW (by simp)] at h1
  refine⟨h1,?_⟩
  have h2:=hm.2
  cases x with
  |v y=>exact⟨h2,fun e=>by cases e⟩
  |wR l=>cases l with
   |nil=>cases h2
   |cons y l=>exact⟨h2,fun e=>by cases e⟩
  |fn p=>exact⟨h2,fun e=>by cases e⟩
  |Hy g l=>exact⟨h2,fun e=>by cases e⟩
 ·rintro⟨h1,h2,h3⟩
  refine Rv hn (xR.2 ⟨K0 (by rw[KW (by simp)];exact h1),?_⟩)
  cases x with
  |v y=>exact h2
  |wR l=>cases l with
   |nil=>exact absurd rfl h3
   |cons y l=>exact h2
  |fn p=>exact h2
  |Hy g l=>exact h2
theorem KZ{bad:Key->Bool}{k:Key}{e:iX U}(h:(uk bad σ).bP k=some e):σ.bP k=some e/\bad k=false/\∀cs,e=.box cs->Xj bad σ (.v ⟨true,cs⟩)=true:=by
 have hm:=xR.1 (Gq h)
 have h1:=Ve Rr.1 hm.1
 rw[U4 (by simp)] at h1
 have h2:=hm.2
 simp only[cN,qK] at h2
 refine⟨h1,h2.1,fun cs vU=> ?_⟩
 subst vU
 exact h2.2
theorem Pu{bad:Key->Bool}{x:SV U}(h:Xj bad σ x=true){y:AC U}(hy:y∈x.Cu):iT (bY σ) y=false/\∀k∈y.keys,bad k=false/\(σ.bP k).isSome=true:=by
 unfold Xj SV.N4 at h
 rw[qK,<-wI,vD] at h
 have h':∀z,¬(z∈x.Cu/\_):=fun z hz=>h ⟨z,hz⟩
 have h2:=h' y
 simp only[hy,true_and,Gc,not_or] at h2
 obtain⟨h3,h4⟩:=h2
 have hk:∀k∈y.keys,bad k=false/\(σ.bP k).isSome=true:=by
  intro k hk
  have h5:¬((bad k||(eY σ.o9 k).isNone)=true):=fun e=>h3 (vD.2 ⟨k,hk,e⟩)
  simp only[Gc,not_or,wI] at h5
  refine⟨h5.1,?_⟩
  have h6:=h5.2
  unfold ak.bP
  cases hl:eY σ.o9 k with
  |none=>rw[hl] at h6;simp at h6
  |some e=>rfl
 refine⟨?_,hk⟩
 have hb:∀k,k∈y.keys->σ.aS.any (iZ k)=false->bY σ k=false:=by
  intro k h1 h2
  unfold bY
  rw[h2,GJ]
  have:=(hk k h1).2
  cases he:σ.bP k with
  |none=>rw[he] at this;cases this
  |some e=>rfl
 cases y with
 |ref k p=>
  simp only[iT]
  cases hp:p.isEmpty
  ·simp only[hp,W9,wQ] at h4⊢
   exact hb k (by simp[AC.keys]) (by simpa using h4)
  ·rfl
 |l7 k p i wd off=>
  simp only[iT]
  cases hp:p.isEmpty
  ·simp only[hp,W9,wQ] at h4⊢
   exact hb k (by simp[AC.keys]) (by simpa using h4)
  ·rfl
 |_=>rfl
theorem RD.nL{bad bad':Key->Bool}{x:AC U}{v:Value}(hb:iT bad x=false)(h:RD E w F kv fp bad x v):RD E w F kv fp bad' x v:=
 ⟨h.1,.inr (cx h hb)⟩
theorem mw.nL{bad bad':Key->Bool}{xs:List (AC U)}{vs:List Value}(hb:∀y∈xs,iT bad y=false)(h:mw E w F kv fp bad xs vs):mw E w F kv fp bad' xs vs:=
 ⟨h.1,fun i x v hx hv=>(h.2 i x v hx hv).nL (hb x (GK hx))⟩
theorem RS.nL{bad bad':Key->Bool}{x:SV U}{v:Value}(hb:∀y∈x.Cu,iT bad y=false)(h:RS E w F kv fp bad x v):RS E w F kv fp bad' x v:=by
 cases x with
 |v x=>obtain⟨vs,h1,h2⟩:=h;exact⟨vs,h1.nL hb,h2⟩
 |wR xs=>
  obtain⟨vs,h1,h2,h3⟩:=h
  refine⟨vs,h1,h2,fun i x u hx hu=> ?_⟩
  obtain⟨us,g1,g2⟩:=h3 i x u hx hu
  exact⟨us,g1.nL (fun y hy=>hb y (o8.2 ⟨x,GK hx,hy⟩)),g2⟩
 |fn p=>exact h
 |Hy g xs=>
  obtain⟨vs,h1,h2,h3⟩:=h
  refine⟨vs,h1,h2,fun i x u hx hu=> ?_⟩
  obtain⟨us,g1,g2⟩:=h3 i x u hx hu
  exact⟨us,g1.nL (fun y hy=>hb y (o8.2 ⟨x,GK hx,hy⟩)),g2⟩
theorem H0(h:cR E pm F kv fp σ a w)(bad:Key->Bool):cR E pm F kv fp (uk bad σ) a w:=by
 refine⟨h.size,h.defers,fun s x hs=> ?_,fun k e he=> ?_,fun k k' e e' b fc h1 h2=>h.apart k k' e e' b fc (KZ h1).1 (KZ h2).1,fun k e he=>h.nodup k e (KZ he).1,fun k e b he=>h.fT k e b (KZ he).1,h.uI,h.uH,h.upto,h.Oe,h.lay⟩
 ·obtain⟨h1,h2,_⟩:=Ru.1 hs
  exact(h.bG s x h1).nL (fun y hy=>(Pu h2 hy).1)
 ·obtain⟨h1,h2,h3⟩:=KZ he
  have h0:=h.dD k e h1
  cases e with
  |arr x deep=>exact h0
  |part x dead=>exact h0
  |box cs=>
   obtain⟨b,cur,e',g1,g2,g3,g4⟩:=h0
   exact⟨b,cur,e',g1,g2,g3,g4.nL (fun y hy=>(Pu (h3 cs rfl) (x:=.v ⟨true,cs⟩) hy).1)⟩
theorem adp{bad:Key->Bool}{k:Key}(h:Names (uk bad σ) k):bad k=false/\(σ.bP k).isSome=true:=by
 rcases h with⟨s,x,hs,hk⟩|⟨k',cs,he,x,hx,hk⟩
 ·obtain⟨_,h2,_⟩:=Ru.1 hs
  obtain⟨y,hy,hk⟩:=SV.mem_keys.1 hk
  exact(Pu h2 hy).2 k hk
 ·obtain⟨_,_,h3⟩:=KZ he
  exact(Pu (h3 cs rfl) (x:=.v ⟨true,cs⟩) hx).2 k hk
theorem amI(h:cR E pm F kv fp σ a w)(ops:List Oper):cR E pm F kv fp (enter ops σ) a w:=H0 h _
theorem amJ{ops:List Oper}{k:Key}(h:Names (enter ops σ) k)(hd:k.1∈B3 ops\/k.1=1000000):1024<=k.2:=by
 have:=(adp h).1
 have h1:((B3 ops).any (Nat.beq k.1)||Nat.beq k.1 1000000)=true:=by
  rw[Gc]
  rcases hd with hd|hd
  ·exact .inl (vD.2 ⟨_,hd,by simp⟩)
  ·exact .inr (by rw[hd];rfl)
 simp only[h1,wQ] at this
 rcases pt k.2 1024 with gy|hge
 ·have:Nat.blt k.2 1024=true:=by simpa using gy
  simp_all
 ·exact hge
end AM
