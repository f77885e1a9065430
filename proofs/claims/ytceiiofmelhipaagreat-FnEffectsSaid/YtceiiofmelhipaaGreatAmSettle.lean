/- THE ABSTRACT MACHINE: forgetting, and new names. -/
import Derived.Test.YtceiiofmelhipaaGreatAmDraw
namespace AM
set_option linter.unusedVariables false
open Go
variable{U:Uni}{E:Env U}{pm:Pm}
variable{F F':Nat→Prop}{kv:Key→Value}{fp:Key→List Nat}{σ τ:AState U}{a:Act}{w w':World}
theorem qahg{β:Type}{l:List (Nat×Option β)}{s:Nat}{x:β}(h:look l s=some x):(s,some x)∈l:=by
 induction l with
 |nil=>cases h
 |cons p l ih=>
  obtain⟨t,v⟩:=p
  simp only[look] at h
  cases ht:Nat.beq t s<;>rw[ht] at h<;>simp only[cond_true,cond_false] at h
  ·exact zaa _ (ih h)
  ·have:=zai ht
   subst this;subst h;exact zab
theorem qaim{β:Type}{l:List (Nat×Option β)}{s:Nat}{x:β}(hn:(l.map (·.1)).Nodup)(h:(s,some x)∈l):look l s=some x:=by
 induction l with
 |nil=>cases h
 |cons p l ih=>
  obtain⟨t,v⟩:=p
  simp only[zbt,zbe] at hn
  simp only[look]
  rcases zak.1 h with h|h
  ·cases h;simp
  ·have:Nat.beq t s=false:=by
    cases hb:Nat.beq t s
    ·rfl
    ·have:=zai hb
     subst this
     exact absurd (zaz.2 ⟨_,h,rfl⟩) hn.1
   rw[this];exact ih hn.2 h
theorem qain{β:Type}{l:List (Key×Option β)}{s:Key}{x:β}(hn:(l.map (·.1)).Nodup)(h:(s,some x)∈l):lookK l s=some x:=by
 induction l with
 |nil=>cases h
 |cons p l ih=>
  obtain⟨t,v⟩:=p
  simp only[zbt,zbe] at hn
  simp only[lookK]
  rcases zak.1 h with h|h
  ·cases h;simp[qagj]
  ·have:keq t s=false:=by
    rw[qagh]
    rintro rfl
    exact hn.1 (zaz.2 ⟨_,h,rfl⟩)
   rw[this];exact ih hn.2 h
theorem qank{β:Type}:∀{l:List (Nat×Option β)}{seen:List Nat},((tidy seen l).map (·.1)).Nodup∧∀p∈tidy seen l,p.1∉seen
 |[],seen=>⟨zdu,fun p hp=>by simp[tidy] at hp⟩
 |(s,v)::r,seen=>by
  simp only[tidy]
  cases hs:seen.any (Nat.beq s)
  ·have hns:s∉seen:=fun h=>by
    have:seen.any (Nat.beq s)=true:=zbb.2 ⟨s,h,by simp⟩
    rw[hs] at this;cases this
   obtain⟨h1,h2⟩:=qank (l:=r) (seen:=s::seen)
   cases v with
   |none=>exact⟨h1,fun p hp hm=>h2 p hp (zaa _ hm)⟩
   |some x=>
    simp only[cond_false,zbt,zbe]
    refine⟨⟨fun hm=> ?_,h1⟩,fun p hp=> ?_⟩
    ·obtain⟨p,hp,he⟩:=zaz.1 hm
     exact h2 p hp (by rw[he];exact zab)
    ·rcases zak.1 hp with rfl|hp
     ·exact hns
     ·exact fun hm=>h2 p hp (zaa _ hm)
  ·exact qank
theorem qanj{β:Type}:∀{l:List (Nat×Option β)}{seen:List Nat}{s:Nat},s∉seen→look (tidy seen l) s=look l s
 |[],_,_,_=>rfl
 |(t,v)::r,seen,s,hs=>by
  simp only[tidy,look]
  cases ht:seen.any (Nat.beq t)
  ·simp only[cond_false]
   cases hb:Nat.beq t s
   ·have hne:s∉t::seen:=by
     intro hm
     rcases zak.1 hm with rfl|hm
     ·simp at hb
     ·exact hs hm
    cases v with
    |none=>simp only[cond_false];exact qanj hne
    |some x=>simp only[look,hb,cond_false];exact qanj hne
   ·have:=zai hb
    subst this
    cases v with
    |some x=>simp[look]
    |none=>
     simp only[cond_true]
     cases hl:look (tidy (t::seen) r) t with
     |none=>rfl
     |some x=>exact absurd zab ((qank (l:=r) (seen:=t::seen)).2 _ (qahg hl))
  ·simp only[cond_true]
   have hb:Nat.beq t s=false:=by
    cases hb:Nat.beq t s
    ·rfl
    ·have:=zai hb
     subst this
     obtain⟨x,hx,he⟩:=zbb.1 ht
     have:=zai he
     subst this
     exact absurd hx hs
   rw[hb]
   exact qanj hs
theorem qani{β:Type}:∀{l:List (Key×Option β)}{seen:List Key},((tidyK seen l).map (·.1)).Nodup∧∀p∈tidyK seen l,p.1∉seen
 |[],seen=>⟨zdu,fun p hp=>by simp[tidyK] at hp⟩
 |(s,v)::r,seen=>by
  simp only[tidyK]
  cases hs:seen.any (keq s)
  ·have hns:s∉seen:=fun h=>by rw[qaaw.2 h] at hs;cases hs
   obtain⟨h1,h2⟩:=qani (l:=r) (seen:=s::seen)
   cases v with
   |none=>exact⟨h1,fun p hp hm=>h2 p hp (zaa _ hm)⟩
   |some x=>
    simp only[cond_false,zbt,zbe]
    refine⟨⟨fun hm=> ?_,h1⟩,fun p hp=> ?_⟩
    ·obtain⟨p,hp,he⟩:=zaz.1 hm
     exact h2 p hp (by rw[he];exact zab)
    ·rcases zak.1 hp with rfl|hp
     ·exact hns
     ·exact fun hm=>h2 p hp (zaa _ hm)
  ·exact qani
theorem qanh{β:Type}:∀{l:List (Key×Option β)}{seen:List Key}{s:Key},s∉seen→lookK (tidyK seen l) s=lookK l s
 |[],_,_,_=>rfl
 |(t,v)::r,seen,s,hs=>by
  simp only[tidyK,lookK]
  cases ht:seen.any (keq t)
  ·simp only[cond_false]
   cases hb:keq t s
   ·have hne:s∉t::seen:=by
     intro hm
     rcases zak.1 hm with rfl|hm
     ·rw[qagj] at hb;cases hb
     ·exact hs hm
    cases v with
    |none=>simp only[cond_false];exact qanh hne
    |some x=>simp only[lookK,hb,cond_false];exact qanh hne
   ·have:=qagi.1 hb
    subst this
    cases v with
    |some x=>simp[lookK,qagj]
    |none=>
     simp only[cond_true]
     cases hl:lookK (tidyK (t::seen) r) t with
     |none=>rfl
     |some x=>exact absurd zab ((qani (l:=r) (seen:=t::seen)).2 _ (qaha hl))
  ·simp only[cond_true]
   have hb:keq t s=false:=by
    rw[qagh]
    rintro rfl
    exact hs (qaaw.1 ht)
   rw[hb]
   exact qanh hs
theorem qaje{α β:Type}{l:List α}{f:α→β}{p:α→Bool}(h:(l.map f).Nodup):((l.filter p).map f).Nodup:=
 List.Nodup.sublist (List.Sublist.map _ List.filter_sublist) h
def okV(bad:Key→Bool)(σ:AState U)(x:SV U):Bool:= !(x.stale (fun k=>bad k||(lookK σ.tab k).isNone) σ.dirty)
theorem qakd{bad:Key→Bool}{s:Nat}{x:SV U}:(purge bad σ).get s=some x↔σ.get s=some x∧okV bad σ x=true∧x≠ .tup []:=by
 have hn:(((tidy [] σ.slots).filter fun((_,v):Nat×Option (SV U))=>match v with|some (SV.tup [])=>false|some x=>okV bad σ x|none=>false).map (·.1)).Nodup:=qaje qank.1
 have e:(purge bad σ).get s=look ((tidy [] σ.slots).filter fun((_,v):Nat×Option (SV U))=>match v with|some (SV.tup [])=>false|some x=>okV bad σ x|none=>false) s:=rfl
 rw[e]
 constructor
 ·intro h
  have hm:=zcg.1 (qahg h)
  have h1:=qaim qank.1 hm.1
  rw[qanj (by simp)] at h1
  refine⟨h1,?_⟩
  have h2:=hm.2
  cases x with
  |v y=>exact⟨h2,fun e=>by cases e⟩
  |tup l=>cases l with
   |nil=>cases h2
   |cons y l=>exact⟨h2,fun e=>by cases e⟩
  |fn p=>exact⟨h2,fun e=>by cases e⟩
  |clo g l=>exact⟨h2,fun e=>by cases e⟩
 ·rintro⟨h1,h2,h3⟩
  refine qaim hn (zcg.2 ⟨qahg (by rw[qanj (by simp)];exact h1),?_⟩)
  cases x with
  |v y=>exact h2
  |tup l=>cases l with
   |nil=>exact absurd rfl h3
   |cons y l=>exact h2
  |fn p=>exact h2
  |clo g l=>exact h2
theorem qakb{bad:Key→Bool}{k:Key}{e:Ent U}(h:(purge bad σ).ent k=some e):σ.ent k=some e∧bad k=false∧∀cs,e=.box cs→okV bad σ (.v ⟨true,cs⟩)=true:=by
 have hm:=zcg.1 (qaha h)
 have h1:=qain qani.1 hm.1
 rw[qanh (by simp)] at h1
 have h2:=hm.2
 simp only[zaf,zbd] at h2
 refine⟨h1,h2.1,fun cs hcs=> ?_⟩
 subst hcs
 exact h2.2
theorem qaji{bad:Key→Bool}{x:SV U}(h:okV bad σ x=true){y:AC U}(hy:y∈x.acs):badAC (badK σ) y=false∧∀k∈y.keys,bad k=false∧(σ.ent k).isSome=true:=by
 unfold okV SV.stale at h
 rw[zbd,←zbj,zbb] at h
 have h':∀z,¬(z∈x.acs∧_):=fun z hz=>h ⟨z,hz⟩
 have h2:=h' y
 simp only[hy,true_and,zcn,not_or] at h2
 obtain⟨h3,h4⟩:=h2
 have hk:∀k∈y.keys,bad k=false∧(σ.ent k).isSome=true:=by
  intro k hk
  have h5:¬((bad k||(lookK σ.tab k).isNone)=true):=fun e=>h3 (zbb.2 ⟨k,hk,e⟩)
  simp only[zcn,not_or,zbj] at h5
  refine⟨h5.1,?_⟩
  have h6:=h5.2
  unfold AState.ent
  cases hl:lookK σ.tab k with
  |none=>rw[hl] at h6;simp at h6
  |some e=>rfl
 refine⟨?_,hk⟩
 have hb:∀k,k∈y.keys→σ.dirty.any (keq k)=false→badK σ k=false:=by
  intro k h1 h2
  unfold badK
  rw[h2,zcw]
  have:=(hk k h1).2
  cases he:σ.ent k with
  |none=>rw[he] at this;cases this
  |some e=>rfl
 cases y with
 |ref k p=>
  simp only[badAC]
  cases hp:p.isEmpty
  ·simp only[hp,zea,zck] at h4⊢
   exact hb k (by simp[AC.keys]) (by simpa using h4)
  ·rfl
 |eptr k p i wd off=>
  simp only[badAC]
  cases hp:p.isEmpty
  ·simp only[hp,zea,zck] at h4⊢
   exact hb k (by simp[AC.keys]) (by simpa using h4)
  ·rfl
 |_=>rfl
theorem RD.clean{bad bad':Key→Bool}{x:AC U}{v:Value}(hb:badAC bad x=false)(h:RD E w F kv fp bad x v):RD E w F kv fp bad' x v:=
 ⟨h.1,.inr (RA_of h hb)⟩
theorem RDs.clean{bad bad':Key→Bool}{xs:List (AC U)}{vs:List Value}(hb:∀y∈xs,badAC bad y=false)(h:RDs E w F kv fp bad xs vs):RDs E w F kv fp bad' xs vs:=
 ⟨h.1,fun i x v hx hv=>(h.2 i x v hx hv).clean (hb x (zbl hx))⟩
theorem RS.clean{bad bad':Key→Bool}{x:SV U}{v:Value}(hb:∀y∈x.acs,badAC bad y=false)(h:RS E w F kv fp bad x v):RS E w F kv fp bad' x v:=by
 cases x with
 |v x=>obtain⟨vs,h1,h2⟩:=h;exact⟨vs,h1.clean hb,h2⟩
 |tup xs=>
  obtain⟨vs,h1,h2,h3⟩:=h
  refine⟨vs,h1,h2,fun i x u hx hu=> ?_⟩
  obtain⟨us,g1,g2⟩:=h3 i x u hx hu
  exact⟨us,g1.clean (fun y hy=>hb y (zat.2 ⟨x,zbl hx,hy⟩)),g2⟩
 |fn p=>exact h
 |clo g xs=>
  obtain⟨vs,h1,h2,h3⟩:=h
  refine⟨vs,h1,h2,fun i x u hx hu=> ?_⟩
  obtain⟨us,g1,g2⟩:=h3 i x u hx hu
  exact⟨us,g1.clean (fun y hy=>hb y (zat.2 ⟨x,zbl hx,hy⟩)),g2⟩
theorem qakg(h:Sim E pm F kv fp σ a w)(bad:Key→Bool):Sim E pm F kv fp (purge bad σ) a w:=by
 refine⟨h.size,h.defers,fun s x hs=> ?_,fun k e he=> ?_,fun k k' e e' b hne h1 h2=>h.apart k k' e e' b hne (qakb h1).1 (qakb h2).1,fun k e he=>h.nodup k e (qakb he).1,fun k e b he=>h.mine k e b (qakb he).1,h.Flt,h.Fsub,h.upto,h.pin,h.lay⟩
 ·obtain⟨h1,h2,_⟩:=qakd.1 hs
  exact(h.slots s x h1).clean (fun y hy=>(qaji h2 hy).1)
 ·obtain⟨h1,h2,h3⟩:=qakb he
  have h0:=h.ents k e h1
  cases e with
  |arr x deep=>exact h0
  |part x dead=>exact h0
  |box cs=>
   obtain⟨b,cur,e',g1,g2,g3,g4⟩:=h0
   exact⟨b,cur,e',g1,g2,g3,g4.clean (fun y hy=>(qaji (h3 cs rfl) (x:=.v ⟨true,cs⟩) hy).1)⟩
theorem qakf{bad:Key→Bool}{k:Key}(h:Names (purge bad σ) k):bad k=false∧(σ.ent k).isSome=true:=by
 rcases h with⟨s,x,hs,hk⟩|⟨k',cs,he,x,hx,hk⟩
 ·obtain⟨_,h2,_⟩:=qakd.1 hs
  obtain⟨y,hy,hk⟩:=SV.mem_keys.1 hk
  exact(qaji h2 hy).2 k hk
 ·obtain⟨_,_,h3⟩:=qakb he
  exact(qaji (h3 cs rfl) (x:=.v ⟨true,cs⟩) hx).2 k hk
theorem qadu(h:Sim E pm F kv fp σ a w)(ops:List Oper):Sim E pm F kv fp (enter ops σ) a w:=qakg h _
theorem qadt{ops:List Oper}{k:Key}(h:Names (enter ops σ) k)(hd:k.1∈dsts ops∨k.1=1000000):1024≤k.2:=by
 have:=(qakf h).1
 have h1:((dsts ops).any (Nat.beq k.1)||Nat.beq k.1 1000000)=true:=by
  rw[zcn]
  rcases hd with hd|hd
  ·exact .inl (zbb.2 ⟨_,hd,by simp⟩)
  ·exact .inr (by rw[hd];rfl)
 simp only[h1,zck] at this
 rcases zba k.2 1024 with hlt|hge
 ·have:Nat.blt k.2 1024=true:=by simpa using hlt
  simp_all
 ·exact hge
end AM
