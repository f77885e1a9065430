/- THE ABSTRACT MACHINE: forgetting, and new names. -/
import Derived.Test.YtpkdgcookaobfaaGreatDoorQAmDraw
namespace AM
set_option linter.unusedVariables false
open Go
variable{U:lz}{E:Env U}{pm:Pm}
variable{F F':Nat->Prop}{kv:Key->Value}{fp:Key->List Nat}{σ τ:ak U}{a:Act}{w w':World}
theorem KD{β:Type}{l:List (Nat×Option β)}{s:Nat}{x:β}(h:look l s=some x):(s,some x)∈l:=by
 induction l with
 |nil=>cases h
 |cons p l ih=>
  obtain⟨t,v⟩:=p
  simp only[look] at h
  cases ht:Nat.beq t s<;>rw[ht] at h<;>simp only[cond_true,cond_false] at h
  ·exact fA _ (ih h)
  ·have:=nk ht
   subst this;subst h;exact iy
theorem Rl{β:Type}{l:List (Nat×Option β)}{s:Nat}{x:β}(hn:(l.map (·.1)).Nodup)(h:(s,some x)∈l):look l s=some x:=by
 induction l with
 |nil=>cases h
 |cons p l ih=>
  obtain⟨t,v⟩:=p
  simp only[wh,tY] at hn
  simp only[look]
  rcases jZ.1 h with h|h
  ·cases h;simp
  ·have:Nat.beq t s=false:=by
    cases hb:Nat.beq t s
    ·rfl
    ·have:=nk hb
     subst this
     exact absurd (mf.2 ⟨_,h,rfl⟩) hn.1
   rw[this];exact ih hn.2 h
theorem U6{β:Type}{l:List (Key×Option β)}{s:Key}{x:β}(hn:(l.map (·.1)).Nodup)(h:(s,some x)∈l):eJ l s=some x:=by
 induction l with
 |nil=>cases h
 |cons p l ih=>
  obtain⟨t,v⟩:=p
  simp only[wh,tY] at hn
  simp only[eJ]
  rcases jZ.1 h with h|h
  ·cases h;simp[zM]
  ·have:iR t s=false:=by
    rw[MP]
    rintro rfl
    exact hn.1 (mf.2 ⟨_,h,rfl⟩)
   rw[this];exact ih hn.2 h
theorem Ky{β:Type}:∀{l:List (Nat×Option β)}{seen:List Nat},((xF seen l).map (·.1)).Nodup/\∀p∈xF seen l,p.1∉seen
 |[],seen=>⟨Ze,fun p hp=>by simp[xF] at hp⟩
 |(s,v)::r,seen=>by
  simp only[xF]
  cases hs:seen.any (Nat.beq s)
  ·have hns:s∉seen:=fun h=>by
    have:seen.any (Nat.beq s)=true:=vm.2 ⟨s,h,by simp⟩
    rw[hs] at this;cases this
   obtain⟨h1,h2⟩:=Ky (l:=r) (seen:=s::seen)
   cases v with
   |none=>exact⟨h1,fun p hp hm=>h2 p hp (fA _ hm)⟩
   |some x=>
    simp only[cond_false,wh,tY]
    refine⟨⟨fun hm=> ?_,h1⟩,fun p hp=> ?_⟩
    ·obtain⟨p,hp,he⟩:=mf.1 hm
     exact h2 p hp (by rw[he];exact iy)
    ·rcases jZ.1 hp with rfl|hp
     ·exact hns
     ·exact fun hm=>h2 p hp (fA _ hm)
  ·exact Ky
theorem Kz{β:Type}:∀{l:List (Nat×Option β)}{seen:List Nat}{s:Nat},s∉seen->look (xF seen l) s=look l s
 |[],_,_,_=>rfl
 |(t,v)::r,seen,s,hs=>by
  simp only[xF,look]
  cases ht:seen.any (Nat.beq t)
  ·simp only[cond_false]
   cases hb:Nat.beq t s
   ·have eZ:s∉t::seen:=by
     intro hm
     rcases jZ.1 hm with rfl|hm
     ·simp at hb
     ·exact hs hm
    cases v with
    |none=>simp only[cond_false];exact Kz eZ
    |some x=>simp only[look,hb,cond_false];exact Kz eZ
   ·have:=nk hb
    subst this
    cases v with
    |some x=>simp[look]
    |none=>
     simp only[cond_true]
     cases hl:look (xF (t::seen) r) t with
     |none=>rfl
     |some x=>exact absurd iy ((Ky (l:=r) (seen:=t::seen)).2 _ (KD hl))
  ·simp only[cond_true]
   have hb:Nat.beq t s=false:=by
    cases hb:Nat.beq t s
    ·rfl
    ·have:=nk hb
     subst this
     obtain⟨x,hx,he⟩:=vm.1 ht
     have:=nk he
     subst this
     exact absurd hx hs
   rw[hb]
   exact Kz hs
theorem Rh{β:Type}:∀{l:List (Key×Option β)}{seen:List Key},((qJ seen l).map (·.1)).Nodup/\∀p∈qJ seen l,p.1∉seen
 |[],seen=>⟨Ze,fun p hp=>by simp[qJ] at hp⟩
 |(s,v)::r,seen=>by
  simp only[qJ]
  cases hs:seen.any (iR s)
  ·have hns:s∉seen:=fun h=>by rw[sR.2 h] at hs;cases hs
   obtain⟨h1,h2⟩:=Rh (l:=r) (seen:=s::seen)
   cases v with
   |none=>exact⟨h1,fun p hp hm=>h2 p hp (fA _ hm)⟩
   |some x=>
    simp only[cond_false,wh,tY]
    refine⟨⟨fun hm=> ?_,h1⟩,fun p hp=> ?_⟩
    ·obtain⟨p,hp,he⟩:=mf.1 hm
     exact h2 p hp (by rw[he];exact iy)
    ·rcases jZ.1 hp with rfl|hp
     ·exact hns
     ·exact fun hm=>h2 p hp (fA _ hm)
  ·exact Rh
theorem US{β:Type}:∀{l:List (Key×Option β)}{seen:List Key}{s:Key},s∉seen->eJ (qJ seen l) s=eJ l s
 |[],_,_,_=>rfl
 |(t,v)::r,seen,s,hs=>by
  simp only[qJ,eJ]
  cases ht:seen.any (iR t)
  ·simp only[cond_false]
   cases hb:iR t s
   ·have eZ:s∉t::seen:=by
     intro hm
     rcases jZ.1 hm with rfl|hm
     ·rw[zM] at hb;cases hb
     ·exact hs hm
    cases v with
    |none=>simp only[cond_false];exact US eZ
    |some x=>simp only[eJ,hb,cond_false];exact US eZ
   ·have:=pK.1 hb
    subst this
    cases v with
    |some x=>simp[eJ,zM]
    |none=>
     simp only[cond_true]
     cases hl:eJ (qJ (t::seen) r) t with
     |none=>rfl
     |some x=>exact absurd iy ((Rh (l:=r) (seen:=t::seen)).2 _ (F4 hl))
  ·simp only[cond_true]
   have hb:iR t s=false:=by
    rw[MP]
    rintro rfl
    exact hs (sR.1 ht)
   rw[hb]
   exact US hs
theorem U3{α β:Type}{l:List α}{f:α->β}{p:α->Bool}(h:(l.map f).Nodup):((l.filter p).map f).Nodup:=
 List.Nodup.sublist (List.Sublist.map _ List.filter_sublist) h
def WY(bad:Key->Bool)(σ:ak U)(x:SV U):Bool:= !(x.NN (fun k=>bad k||(eJ σ.oR k).isNone) σ.aT)
theorem Rk{bad:Key->Bool}{s:Nat}{x:SV U}:(tT bad σ).get s=some x↔σ.get s=some x/\WY bad σ x=true/\x≠ .wv []:=by
 have hn:(((xF [] σ.bM).filter fun((_,v):Nat×Option (SV U))=>match v with|some (SV.wv [])=>false|some x=>WY bad σ x|none=>false).map (·.1)).Nodup:=U3 Ky.1
 have e:(tT bad σ).get s=look ((xF [] σ.bM).filter fun((_,v):Nat×Option (SV U))=>match v with|some (SV.wv [])=>false|some x=>WY bad σ x|none=>false) s:=rfl
 rw[e]
 constructor
 ·intro h
  have hm:=zA.1 (KD h)
  have h1:=Rl Ky.1 hm.1
  rw[Kz (by simp)] at h1
  refine⟨h1,?_⟩
  have h2:=hm.2
  cases x with
  |v y=>exact⟨h2,fun e=>by cases e⟩
  |wv l=>cases l with
   |nil=>cases h2
   |cons y l=>exact⟨h2,fun e=>by cases e⟩
  |fn p=>exact⟨h2,fun e=>by cases e⟩
  |Hk g l=>exact⟨h2,fun e=>by cases e⟩
 ·rintro⟨h1,h2,h3⟩
  refine Rl hn (zA.2 ⟨KD (by rw[Kz (by simp)];exact h1),?_⟩)
  cases x with
  |v y=>exact h2
  |wv l=>cases l with
   |nil=>exact absurd rfl h3
   |cons y l=>exact h2
  |fn p=>exact h2
  |Hk g l=>exact h2
theorem KC{bad:Key->Bool}{k:Key}{e:iN U}(h:(tT bad σ).bO k=some e):σ.bO k=some e/\bad k=false/\∀cs,e=.box cs->WY bad σ (.v ⟨true,cs⟩)=true:=by
 have hm:=zA.1 (F4 h)
 have h1:=U6 Rh.1 hm.1
 rw[US (by simp)] at h1
 have h2:=hm.2
 simp only[cJ,ru] at h2
 refine⟨h1,h2.1,fun cs vA=> ?_⟩
 subst vA
 exact h2.2
theorem Pj{bad:Key->Bool}{x:SV U}(h:WY bad σ x=true){y:AC U}(hy:y∈x.Ca):iJ (bW σ) y=false/\∀k∈y.keys,bad k=false/\(σ.bO k).isSome=true:=by
 unfold WY SV.NN at h
 rw[ru,<-wu,vm] at h
 have h':∀z,¬(z∈x.Ca/\_):=fun z hz=>h ⟨z,hz⟩
 have h2:=h' y
 simp only[hy,true_and,FI,not_or] at h2
 obtain⟨h3,h4⟩:=h2
 have hk:∀k∈y.keys,bad k=false/\(σ.bO k).isSome=true:=by
  intro k hk
  have h5:¬((bad k||(eJ σ.oR k).isNone)=true):=fun e=>h3 (vm.2 ⟨k,hk,e⟩)
  simp only[FI,not_or,wu] at h5
  refine⟨h5.1,?_⟩
  have h6:=h5.2
  unfold ak.bO
  cases hl:eJ σ.oR k with
  |none=>rw[hl] at h6;simp at h6
  |some e=>rfl
 refine⟨?_,hk⟩
 have hb:∀k,k∈y.keys->σ.aT.any (iR k)=false->bW σ k=false:=by
  intro k h1 h2
  unfold bW
  rw[h2,Gk]
  have:=(hk k h1).2
  cases he:σ.bO k with
  |none=>rw[he] at this;cases this
  |some e=>rfl
 cases y with
 |ref k p=>
  simp only[iJ]
  cases hp:p.isEmpty
  ·simp only[hp,WO,wq] at h4⊢
   exact hb k (by simp[AC.keys]) (by simpa using h4)
  ·rfl
 |lN k p i wd off=>
  simp only[iJ]
  cases hp:p.isEmpty
  ·simp only[hp,WO,wq] at h4⊢
   exact hb k (by simp[AC.keys]) (by simpa using h4)
  ·rfl
 |_=>rfl
theorem RD.ny{bad bad':Key->Bool}{x:AC U}{v:Value}(hb:iJ bad x=false)(h:RD E w F kv fp bad x v):RD E w F kv fp bad' x v:=
 ⟨h.1,.inr (cw h hb)⟩
theorem mc.ny{bad bad':Key->Bool}{xs:List (AC U)}{vs:List Value}(hb:∀y∈xs,iJ bad y=false)(h:mc E w F kv fp bad xs vs):mc E w F kv fp bad' xs vs:=
 ⟨h.1,fun i x v hx hv=>(h.2 i x v hx hv).ny (hb x (Gl hx))⟩
theorem RS.ny{bad bad':Key->Bool}{x:SV U}{v:Value}(hb:∀y∈x.Ca,iJ bad y=false)(h:RS E w F kv fp bad x v):RS E w F kv fp bad' x v:=by
 cases x with
 |v x=>obtain⟨vs,h1,h2⟩:=h;exact⟨vs,h1.ny hb,h2⟩
 |wv xs=>
  obtain⟨vs,h1,h2,h3⟩:=h
  refine⟨vs,h1,h2,fun i x u hx hu=> ?_⟩
  obtain⟨us,g1,g2⟩:=h3 i x u hx hu
  exact⟨us,g1.ny (fun y hy=>hb y (oQ.2 ⟨x,Gl hx,hy⟩)),g2⟩
 |fn p=>exact h
 |Hk g xs=>
  obtain⟨vs,h1,h2,h3⟩:=h
  refine⟨vs,h1,h2,fun i x u hx hu=> ?_⟩
  obtain⟨us,g1,g2⟩:=h3 i x u hx hu
  exact⟨us,g1.ny (fun y hy=>hb y (oQ.2 ⟨x,Gl hx,hy⟩)),g2⟩
theorem HN(h:cM E pm F kv fp σ a w)(bad:Key->Bool):cM E pm F kv fp (tT bad σ) a w:=by
 refine⟨h.size,h.defers,fun s x hs=> ?_,fun k e he=> ?_,fun k k' e e' b eZ h1 h2=>h.apart k k' e e' b eZ (KC h1).1 (KC h2).1,fun k e he=>h.nodup k e (KC he).1,fun k e b he=>h.fQ k e b (KC he).1,h.uk,h.uj,h.upto,h.N0,h.lay⟩
 ·obtain⟨h1,h2,_⟩:=Rk.1 hs
  exact(h.bM s x h1).ny (fun y hy=>(Pj h2 hy).1)
 ·obtain⟨h1,h2,h3⟩:=KC he
  have h0:=h.dH k e h1
  cases e with
  |arr x deep=>exact h0
  |part x dead=>exact h0
  |box cs=>
   obtain⟨b,cur,e',g1,g2,g3,g4⟩:=h0
   exact⟨b,cur,e',g1,g2,g3,g4.ny (fun y hy=>(Pj (h3 cs rfl) (x:=.v ⟨true,cs⟩) hy).1)⟩
theorem ac5{bad:Key->Bool}{k:Key}(h:Names (tT bad σ) k):bad k=false/\(σ.bO k).isSome=true:=by
 rcases h with⟨s,x,hs,hk⟩|⟨k',cs,he,x,hx,hk⟩
 ·obtain⟨_,h2,_⟩:=Rk.1 hs
  obtain⟨y,hy,hk⟩:=SV.mem_keys.1 hk
  exact(Pj h2 hy).2 k hk
 ·obtain⟨_,_,h3⟩:=KC he
  exact(Pj (h3 cs rfl) (x:=.v ⟨true,cs⟩) hx).2 k hk
theorem amh(h:cM E pm F kv fp σ a w)(ops:List Oper):cM E pm F kv fp (enter ops σ) a w:=HN h _
theorem ami{ops:List Oper}{k:Key}(h:Names (enter ops σ) k)(hd:k.1∈BI ops\/k.1=1000000):1024<=k.2:=by
 have:=(ac5 h).1
 have h1:((BI ops).any (Nat.beq k.1)||Nat.beq k.1 1000000)=true:=by
  rw[FI]
  rcases hd with hd|hd
  ·exact .inl (vm.2 ⟨_,hd,by simp⟩)
  ·exact .inr (by rw[hd];rfl)
 simp only[h1,wq] at this
 rcases pe k.2 1024 with gI|hge
 ·have:Nat.blt k.2 1024=true:=by simpa using gI
  simp_all
 ·exact hge
end AM
