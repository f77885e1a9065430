/- THE ABSTRACT MACHINE: forgetting, and new names. -/
import Derived.Test.YtmlhlndkkidhoaaGreatQAmDraw
namespace AM
set_option linter.unusedVariables false
open Go
variable{U:kZ}{E:Env U}{pm:Pm}
variable{F F':Nat->Prop}{kv:Key->Value}{fp:Key->List Nat}{σ τ:ah U}{a:Act}{w w':World}
theorem IB{β:Type}{l:List (Nat×Option β)}{s:Nat}{x:β}(h:look l s=some x):(s,some x)∈l:=by
 induction l with
 |nil=>cases h
 |cons p l ih=>
  obtain⟨t,v⟩:=p
  simp only[look] at h
  cases ht:Nat.beq t s<;>rw[ht] at h<;>simp only[cond_true,cond_false] at h
  ·exact cA _ (ih h)
  ·have:=mM ht
   subst this;subst h;exact gj
theorem O0{β:Type}{l:List (Nat×Option β)}{s:Nat}{x:β}(hn:(l.map (·.1)).Nodup)(h:(s,some x)∈l):look l s=some x:=by
 induction l with
 |nil=>cases h
 |cons p l ih=>
  obtain⟨t,v⟩:=p
  simp only[uY,sN] at hn
  simp only[look]
  rcases jQ.1 h with h|h
  ·cases h;simp
  ·have:Nat.beq t s=false:=by
    cases hb:Nat.beq t s
    ·rfl
    ·have:=mM hb
     subst this
     exact absurd (lB.2 ⟨_,h,rfl⟩) hn.1
   rw[this];exact ih hn.2 h
theorem OZ{β:Type}{l:List (Key×Option β)}{s:Key}{x:β}(hn:(l.map (·.1)).Nodup)(h:(s,some x)∈l):eD l s=some x:=by
 induction l with
 |nil=>cases h
 |cons p l ih=>
  obtain⟨t,v⟩:=p
  simp only[uY,sN] at hn
  simp only[eD]
  rcases jQ.1 h with h|h
  ·cases h;simp[yB]
  ·have:iJ t s=false:=by
    rw[KF]
    rintro rfl
    exact hn.1 (lB.2 ⟨_,h,rfl⟩)
   rw[this];exact ih hn.2 h
theorem Iw{β:Type}:∀{l:List (Nat×Option β)}{seen:List Nat},((wF seen l).map (·.1)).Nodup/\∀p∈wF seen l,p.1∉seen
 |[],seen=>⟨W4,fun p hp=>by simp[wF] at hp⟩
 |(s,v)::r,seen=>by
  simp only[wF]
  cases hs:seen.any (Nat.beq s)
  ·have hns:s∉seen:=fun h=>by
    have:seen.any (Nat.beq s)=true:=tZ.2 ⟨s,h,by simp⟩
    rw[hs] at this;cases this
   obtain⟨h1,h2⟩:=Iw (l:=r) (seen:=s::seen)
   cases v with
   |none=>exact⟨h1,fun p hp hm=>h2 p hp (cA _ hm)⟩
   |some x=>
    simp only[cond_false,uY,sN]
    refine⟨⟨fun hm=> ?_,h1⟩,fun p hp=> ?_⟩
    ·obtain⟨p,hp,he⟩:=lB.1 hm
     exact h2 p hp (by rw[he];exact gj)
    ·rcases jQ.1 hp with rfl|hp
     ·exact hns
     ·exact fun hm=>h2 p hp (cA _ hm)
  ·exact Iw
theorem Ix{β:Type}:∀{l:List (Nat×Option β)}{seen:List Nat}{s:Nat},s∉seen->look (wF seen l) s=look l s
 |[],_,_,_=>rfl
 |(t,v)::r,seen,s,hs=>by
  simp only[wF,look]
  cases ht:seen.any (Nat.beq t)
  ·simp only[cond_false]
   cases hb:Nat.beq t s
   ·have eO:s∉t::seen:=by
     intro hm
     rcases jQ.1 hm with rfl|hm
     ·simp at hb
     ·exact hs hm
    cases v with
    |none=>simp only[cond_false];exact Ix eO
    |some x=>simp only[look,hb,cond_false];exact Ix eO
   ·have:=mM hb
    subst this
    cases v with
    |some x=>simp[look]
    |none=>
     simp only[cond_true]
     cases hl:look (wF (t::seen) r) t with
     |none=>rfl
     |some x=>exact absurd gj ((Iw (l:=r) (seen:=t::seen)).2 _ (IB hl))
  ·simp only[cond_true]
   have hb:Nat.beq t s=false:=by
    cases hb:Nat.beq t s
    ·rfl
    ·have:=mM hb
     subst this
     obtain⟨x,hx,he⟩:=tZ.1 ht
     have:=mM he
     subst this
     exact absurd hx hs
   rw[hb]
   exact Ix hs
theorem OU{β:Type}:∀{l:List (Key×Option β)}{seen:List Key},((pY seen l).map (·.1)).Nodup/\∀p∈pY seen l,p.1∉seen
 |[],seen=>⟨W4,fun p hp=>by simp[pY] at hp⟩
 |(s,v)::r,seen=>by
  simp only[pY]
  cases hs:seen.any (iJ s)
  ·have hns:s∉seen:=fun h=>by rw[rE.2 h] at hs;cases hs
   obtain⟨h1,h2⟩:=OU (l:=r) (seen:=s::seen)
   cases v with
   |none=>exact⟨h1,fun p hp hm=>h2 p hp (cA _ hm)⟩
   |some x=>
    simp only[cond_false,uY,sN]
    refine⟨⟨fun hm=> ?_,h1⟩,fun p hp=> ?_⟩
    ·obtain⟨p,hp,he⟩:=lB.1 hm
     exact h2 p hp (by rw[he];exact gj)
    ·rcases jQ.1 hp with rfl|hp
     ·exact hns
     ·exact fun hm=>h2 p hp (cA _ hm)
  ·exact OU
theorem OV{β:Type}:∀{l:List (Key×Option β)}{seen:List Key}{s:Key},s∉seen->eD (pY seen l) s=eD l s
 |[],_,_,_=>rfl
 |(t,v)::r,seen,s,hs=>by
  simp only[pY,eD]
  cases ht:seen.any (iJ t)
  ·simp only[cond_false]
   cases hb:iJ t s
   ·have eO:s∉t::seen:=by
     intro hm
     rcases jQ.1 hm with rfl|hm
     ·rw[yB] at hb;cases hb
     ·exact hs hm
    cases v with
    |none=>simp only[cond_false];exact OV eO
    |some x=>simp only[eD,hb,cond_false];exact OV eO
   ·have:=o6.1 hb
    subst this
    cases v with
    |some x=>simp[eD,yB]
    |none=>
     simp only[cond_true]
     cases hl:eD (pY (t::seen) r) t with
     |none=>rfl
     |some x=>exact absurd gj ((OU (l:=r) (seen:=t::seen)).2 _ (CB hl))
  ·simp only[cond_true]
   have hb:iJ t s=false:=by
    rw[KF]
    rintro rfl
    exact hs (rE.1 ht)
   rw[hb]
   exact OV hs
theorem TS{α β:Type}{l:List α}{f:α->β}{p:α->Bool}(h:(l.map f).Nodup):((l.filter p).map f).Nodup:=
 List.Nodup.sublist (List.Sublist.map _ List.filter_sublist) h
def Uv(bad:Key->Bool)(σ:ah U)(x:SV U):Bool:= !(x.LI (fun k=>bad k||(eD σ.nU k).isNone) σ.aK)
theorem OY{bad:Key->Bool}{s:Nat}{x:SV U}:(qG bad σ).get s=some x↔σ.get s=some x/\Uv bad σ x=true/\x≠ .vf []:=by
 have hn:(((wF [] σ.bz).filter fun((_,v):Nat×Option (SV U))=>match v with|some (SV.vf [])=>false|some x=>Uv bad σ x|none=>false).map (·.1)).Nodup:=TS Iw.1
 have e:(qG bad σ).get s=look ((wF [] σ.bz).filter fun((_,v):Nat×Option (SV U))=>match v with|some (SV.vf [])=>false|some x=>Uv bad σ x|none=>false) s:=rfl
 rw[e]
 constructor
 ·intro h
  have hm:=wA.1 (IB h)
  have h1:=O0 Iw.1 hm.1
  rw[Ix (by simp)] at h1
  refine⟨h1,?_⟩
  have h2:=hm.2
  cases x with
  |v y=>exact⟨h2,fun e=>by cases e⟩
  |vf l=>cases l with
   |nil=>cases h2
   |cons y l=>exact⟨h2,fun e=>by cases e⟩
  |fn p=>exact⟨h2,fun e=>by cases e⟩
  |FE g l=>exact⟨h2,fun e=>by cases e⟩
 ·rintro⟨h1,h2,h3⟩
  refine O0 hn (wA.2 ⟨IB (by rw[Ix (by simp)];exact h1),?_⟩)
  cases x with
  |v y=>exact h2
  |vf l=>cases l with
   |nil=>exact absurd rfl h3
   |cons y l=>exact h2
  |fn p=>exact h2
  |FE g l=>exact h2
theorem IA{bad:Key->Bool}{k:Key}{e:iv U}(h:(qG bad σ).bJ k=some e):σ.bJ k=some e/\bad k=false/\∀cs,e=.box cs->Uv bad σ (.v ⟨true,cs⟩)=true:=by
 have hm:=wA.1 (CB h)
 have h1:=OZ OU.1 hm.1
 rw[OV (by simp)] at h1
 have h2:=hm.2
 simp only[cK,ql] at h2
 refine⟨h1,h2.1,fun cs ur=> ?_⟩
 subst ur
 exact h2.2
theorem MV{bad:Key->Bool}{x:SV U}(h:Uv bad σ x=true){y:AC U}(hy:y∈x.AQ):iG (bW σ) y=false/\∀k∈y.keys,bad k=false/\(σ.bJ k).isSome=true:=by
 unfold Uv SV.LI at h
 rw[ql,<-yi,tZ] at h
 have h':∀z,¬(z∈x.AQ/\_):=fun z hz=>h ⟨z,hz⟩
 have h2:=h' y
 simp only[hy,true_and,Ee,not_or] at h2
 obtain⟨h3,h4⟩:=h2
 have hk:∀k∈y.keys,bad k=false/\(σ.bJ k).isSome=true:=by
  intro k hk
  have h5:¬((bad k||(eD σ.nU k).isNone)=true):=fun e=>h3 (tZ.2 ⟨k,hk,e⟩)
  simp only[Ee,not_or,yi] at h5
  refine⟨h5.1,?_⟩
  have h6:=h5.2
  unfold ah.bJ
  cases hl:eD σ.nU k with
  |none=>rw[hl] at h6;simp at h6
  |some e=>rfl
 refine⟨?_,hk⟩
 have hb:∀k,k∈y.keys->σ.aK.any (iJ k)=false->bW σ k=false:=by
  intro k h1 h2
  unfold bW
  rw[h2,FT]
  have:=(hk k h1).2
  cases he:σ.bJ k with
  |none=>rw[he] at this;cases this
  |some e=>rfl
 cases y with
 |ref k p=>
  simp only[iG]
  cases hp:p.isEmpty
  ·simp only[hp,Tm,u_] at h4⊢
   exact hb k (by simp[AC.keys]) (by simpa using h4)
  ·rfl
 |lg k p i wd off=>
  simp only[iG]
  cases hp:p.isEmpty
  ·simp only[hp,Tm,u_] at h4⊢
   exact hb k (by simp[AC.keys]) (by simpa using h4)
  ·rfl
 |_=>rfl
theorem RD.mR{bad bad':Key->Bool}{x:AC U}{v:Value}(hb:iG bad x=false)(h:RD E w F kv fp bad x v):RD E w F kv fp bad' x v:=
 ⟨h.1,.inr (cf h hb)⟩
theorem ly.mR{bad bad':Key->Bool}{xs:List (AC U)}{vs:List Value}(hb:∀y∈xs,iG bad y=false)(h:ly E w F kv fp bad xs vs):ly E w F kv fp bad' xs vs:=
 ⟨h.1,fun i x v hx hv=>(h.2 i x v hx hv).mR (hb x (EM hx))⟩
theorem RS.mR{bad bad':Key->Bool}{x:SV U}{v:Value}(hb:∀y∈x.AQ,iG bad y=false)(h:RS E w F kv fp bad x v):RS E w F kv fp bad' x v:=by
 cases x with
 |v x=>obtain⟨vs,h1,h2⟩:=h;exact⟨vs,h1.mR hb,h2⟩
 |vf xs=>
  obtain⟨vs,h1,h2,h3⟩:=h
  refine⟨vs,h1,h2,fun i x u hx hu=> ?_⟩
  obtain⟨us,g1,g2⟩:=h3 i x u hx hu
  exact⟨us,g1.mR (fun y hy=>hb y (nT.2 ⟨x,EM hx,hy⟩)),g2⟩
 |fn p=>exact h
 |FE g xs=>
  obtain⟨vs,h1,h2,h3⟩:=h
  refine⟨vs,h1,h2,fun i x u hx hu=> ?_⟩
  obtain⟨us,g1,g2⟩:=h3 i x u hx hu
  exact⟨us,g1.mR (fun y hy=>hb y (nT.2 ⟨x,EM hx,hy⟩)),g2⟩
theorem F_(h:cE E pm F kv fp σ a w)(bad:Key->Bool):cE E pm F kv fp (qG bad σ) a w:=by
 refine⟨h.size,h.defers,fun s x hs=> ?_,fun k e he=> ?_,fun k k' e e' b eO h1 h2=>h.apart k k' e e' b eO (IA h1).1 (IA h2).1,fun k e he=>h.nodup k e (IA he).1,fun k e b he=>h.fK k e b (IA he).1,h.sZ,h.sY,h.upto,h.LV,h.lay⟩
 ·obtain⟨h1,h2,_⟩:=OY.1 hs
  exact(h.bz s x h1).mR (fun y hy=>(MV h2 hy).1)
 ·obtain⟨h1,h2,h3⟩:=IA he
  have h0:=h.di k e h1
  cases e with
  |arr x deep=>exact h0
  |part x dead=>exact h0
  |box cs=>
   obtain⟨b,cur,e',g1,g2,g3,g4⟩:=h0
   exact⟨b,cur,e',g1,g2,g3,g4.mR (fun y hy=>(MV (h3 cs rfl) (x:=.v ⟨true,cs⟩) hy).1)⟩
theorem acf{bad:Key->Bool}{k:Key}(h:Names (qG bad σ) k):bad k=false/\(σ.bJ k).isSome=true:=by
 rcases h with⟨s,x,hs,hk⟩|⟨k',cs,he,x,hx,hk⟩
 ·obtain⟨_,h2,_⟩:=OY.1 hs
  obtain⟨y,hy,hk⟩:=SV.mem_keys.1 hk
  exact(MV h2 hy).2 k hk
 ·obtain⟨_,_,h3⟩:=IA he
  exact(MV (h3 cs rfl) (x:=.v ⟨true,cs⟩) hx).2 k hk
theorem anf(h:cE E pm F kv fp σ a w)(ops:List Oper):cE E pm F kv fp (enter ops σ) a w:=F_ h _
theorem ang{ops:List Oper}{k:Key}(h:Names (enter ops σ) k)(hd:k.1∈An ops\/k.1=1000000):1024<=k.2:=by
 have:=(acf h).1
 have h1:((An ops).any (Nat.beq k.1)||Nat.beq k.1 1000000)=true:=by
  rw[Ee]
  rcases hd with hd|hd
  ·exact .inl (tZ.2 ⟨_,hd,by simp⟩)
  ·exact .inr (by rw[hd];rfl)
 simp only[h1,u_] at this
 rcases nV k.2 1024 with gF|Y4
 ·have:Nat.blt k.2 1024=true:=by simpa using gF
  simp_all
 ·exact Y4
end AM
