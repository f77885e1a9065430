import Derived.Test.YthciaocifglggaaGreatDoorQAmDraw
namespace AM
set_option linter.unusedVariables false
open Go
variable{U:kz}{E:Env U}{pm:Pm}
variable{F F':Nat->Prop}{kv:Key->Value}{fp:Key->List Nat}{σ τ:af U}{a:Act}{w w':World}
theorem F8{β:Type}{l:List (Nat×Option β)}{s:Nat}{x:β}(h:look l s=some x):(s,some x)∈l:=by
 induction l with
 |nil=>cases h
 |cons p l ih=>
  obtain⟨t,v⟩:=p
  simp only[look] at h
  cases ht:Nat.beq t s<;>rw[ht] at h<;>simp only[cond_true,cond_false] at h
  ·exact bi _ (ih h)
  ·have:=lN ht
   subst this;subst h;exact dw
theorem LV{β:Type}{l:List (Nat×Option β)}{s:Nat}{x:β}(hn:(l.map (·.1)).Nodup)(h:(s,some x)∈l):look l s=some x:=by
 induction l with
 |nil=>cases h
 |cons p l ih=>
  obtain⟨t,v⟩:=p
  simp only[tI,rv] at hn
  simp only[look]
  rcases jw.1 h with h|h
  ·cases h;simp
  ·have:Nat.beq t s=false:=by
    cases hb:Nat.beq t s
    ·rfl
    ·have:=lN hb
     subst this
     exact absurd (lH.2 ⟨_,h,rfl⟩) hn.1
   rw[this];exact ih hn.2 h
theorem Pv{β:Type}{l:List (Key×Option β)}{s:Key}{x:β}(hn:(l.map (·.1)).Nodup)(h:(s,some x)∈l):eo l s=some x:=by
 induction l with
 |nil=>cases h
 |cons p l ih=>
  obtain⟨t,v⟩:=p
  simp only[tI,rv] at hn
  simp only[eo]
  rcases jw.1 h with h|h
  ·cases h;simp[wR]
  ·have:iw t s=false:=by
    rw[HY]
    rintro rfl
    exact hn.1 (lH.2 ⟨_,h,rfl⟩)
   rw[this];exact ih hn.2 h
theorem FY{β:Type}:∀{l:List (Nat×Option β)}{seen:List Nat},((uS seen l).map (·.1)).Nodup/\∀p∈uS seen l,p.1∉seen
 |[],seen=>⟨UQ,fun p hp=>by simp[uS] at hp⟩
 |(s,v)::r,seen=>by
  simp only[uS]
  cases hs:seen.any (Nat.beq s)
  ·have hns:s∉seen:=fun h=>by
    have:seen.any (Nat.beq s)=true:=sA.2 ⟨s,h,by simp⟩
    rw[hs] at this;cases this
   obtain⟨h1,h2⟩:=FY (l:=r) (seen:=s::seen)
   cases v with
   |none=>exact⟨h1,fun p hp hm=>h2 p hp (bi _ hm)⟩
   |some x=>
    simp only[cond_false,tI,rv]
    refine⟨⟨fun hm=> ?_,h1⟩,fun p hp=> ?_⟩
    ·obtain⟨p,hp,he⟩:=lH.1 hm
     exact h2 p hp (by rw[he];exact dw)
    ·rcases jw.1 hp with rfl|hp
     ·exact hns
     ·exact fun hm=>h2 p hp (bi _ hm)
  ·exact FY
theorem F4{β:Type}:∀{l:List (Nat×Option β)}{seen:List Nat}{s:Nat},s∉seen->look (uS seen l) s=look l s
 |[],_,_,_=>rfl
 |(t,v)::r,seen,s,hs=>by
  simp only[uS,look]
  cases ht:seen.any (Nat.beq t)
  ·simp only[cond_false]
   cases hb:Nat.beq t s
   ·have et:s∉t::seen:=by
     intro hm
     rcases jw.1 hm with rfl|hm
     ·simp at hb
     ·exact hs hm
    cases v with
    |none=>simp only[cond_false];exact F4 et
    |some x=>simp only[look,hb,cond_false];exact F4 et
   ·have:=lN hb
    subst this
    cases v with
    |some x=>simp[look]
    |none=>
     simp only[cond_true]
     cases hl:look (uS (t::seen) r) t with
     |none=>rfl
     |some x=>exact absurd dw ((FY (l:=r) (seen:=t::seen)).2 _ (F8 hl))
  ·simp only[cond_true]
   have hb:Nat.beq t s=false:=by
    cases hb:Nat.beq t s
    ·rfl
    ·have:=lN hb
     subst this
     obtain⟨x,hx,he⟩:=sA.1 ht
     have:=lN he
     subst this
     exact absurd hx hs
   rw[hb]
   exact F4 hs
theorem LQ{β:Type}:∀{l:List (Key×Option β)}{seen:List Key},((ox seen l).map (·.1)).Nodup/\∀p∈ox seen l,p.1∉seen
 |[],seen=>⟨UQ,fun p hp=>by simp[ox] at hp⟩
 |(s,v)::r,seen=>by
  simp only[ox]
  cases hs:seen.any (iw s)
  ·have hns:s∉seen:=fun h=>by rw[qe.2 h] at hs;cases hs
   obtain⟨h1,h2⟩:=LQ (l:=r) (seen:=s::seen)
   cases v with
   |none=>exact⟨h1,fun p hp hm=>h2 p hp (bi _ hm)⟩
   |some x=>
    simp only[cond_false,tI,rv]
    refine⟨⟨fun hm=> ?_,h1⟩,fun p hp=> ?_⟩
    ·obtain⟨p,hp,he⟩:=lH.1 hm
     exact h2 p hp (by rw[he];exact dw)
    ·rcases jw.1 hp with rfl|hp
     ·exact hns
     ·exact fun hm=>h2 p hp (bi _ hm)
  ·exact LQ
theorem Ph{β:Type}:∀{l:List (Key×Option β)}{seen:List Key}{s:Key},s∉seen->eo (ox seen l) s=eo l s
 |[],_,_,_=>rfl
 |(t,v)::r,seen,s,hs=>by
  simp only[ox,eo]
  cases ht:seen.any (iw t)
  ·simp only[cond_false]
   cases hb:iw t s
   ·have et:s∉t::seen:=by
     intro hm
     rcases jw.1 hm with rfl|hm
     ·rw[wR] at hb;cases hb
     ·exact hs hm
    cases v with
    |none=>simp only[cond_false];exact Ph et
    |some x=>simp only[eo,hb,cond_false];exact Ph et
   ·have:=nK.1 hb
    subst this
    cases v with
    |some x=>simp[eo,wR]
    |none=>
     simp only[cond_true]
     cases hl:eo (ox (t::seen) r) t with
     |none=>rfl
     |some x=>exact absurd dw ((LQ (l:=r) (seen:=t::seen)).2 _ (B8 hl))
  ·simp only[cond_true]
   have hb:iw t s=false:=by
    rw[HY]
    rintro rfl
    exact hs (qe.1 ht)
   rw[hb]
   exact Ph hs
theorem Ps{α β:Type}{l:List α}{f:α->β}{p:α->Bool}(h:(l.map f).Nodup):((l.filter p).map f).Nodup:=
 List.Nodup.sublist (List.Sublist.map _ List.filter_sublist) h
def R8(bad:Key->Bool)(σ:af U)(x:SV U):Bool:= !(x.I9 (fun k=>bad k||(eo σ.mW k).isNone) σ.aC)
theorem LU{bad:Key->Bool}{s:Nat}{x:SV U}:(rm bad σ).get s=some x↔σ.get s=some x/\R8 bad σ x=true/\x≠ .tJ []:=by
 have hn:(((uS [] σ.bp).filter fun((_,v):Nat×Option (SV U))=>match v with|some (SV.tJ [])=>false|some x=>R8 bad σ x|none=>false).map (·.1)).Nodup:=Ps FY.1
 have e:(rm bad σ).get s=look ((uS [] σ.bp).filter fun((_,v):Nat×Option (SV U))=>match v with|some (SV.tJ [])=>false|some x=>R8 bad σ x|none=>false) s:=rfl
 rw[e]
 constructor
 ·intro h
  have hm:=BW.1 (F8 h)
  have h1:=LV FY.1 hm.1
  rw[F4 (by simp)] at h1
  refine⟨h1,?_⟩
  have h2:=hm.2
  cases x with
  |v y=>exact⟨h2,fun e=>by cases e⟩
  |tJ l=>cases l with
   |nil=>cases h2
   |cons y l=>exact⟨h2,fun e=>by cases e⟩
  |fn p=>exact⟨h2,fun e=>by cases e⟩
  |Db g l=>exact⟨h2,fun e=>by cases e⟩
 ·rintro⟨h1,h2,h3⟩
  refine LV hn (BW.2 ⟨F8 (by rw[F4 (by simp)];exact h1),?_⟩)
  cases x with
  |v y=>exact h2
  |tJ l=>cases l with
   |nil=>exact absurd rfl h3
   |cons y l=>exact h2
  |fn p=>exact h2
  |Db g l=>exact h2
theorem F7{bad:Key->Bool}{k:Key}{e:ir U}(h:(rm bad σ).bH k=some e):σ.bH k=some e/\bad k=false/\∀cs,e=.box cs->R8 bad σ (.v ⟨true,cs⟩)=true:=by
 have hm:=BW.1 (B8 h)
 have h1:=Pv LQ.1 hm.1
 rw[Ph (by simp)] at h1
 have h2:=hm.2
 simp only[eE,rj] at h2
 refine⟨h1,h2.1,fun cs sN=> ?_⟩
 subst sN
 exact h2.2
theorem J_{bad:Key->Bool}{x:SV U}(h:R8 bad σ x=true){y:AC U}(hy:y∈x.yL):io (bW σ) y=false/\∀k∈y.keys,bad k=false/\(σ.bH k).isSome=true:=by
 unfold R8 SV.I9 at h
 rw[rj,<-uK,sA] at h
 have h':∀z,¬(z∈x.yL/\_):=fun z hz=>h ⟨z,hz⟩
 have h2:=h' y
 simp only[hy,true_and,B3,not_or] at h2
 obtain⟨h3,h4⟩:=h2
 have hk:∀k∈y.keys,bad k=false/\(σ.bH k).isSome=true:=by
  intro k hk
  have h5:¬((bad k||(eo σ.mW k).isNone)=true):=fun e=>h3 (sA.2 ⟨k,hk,e⟩)
  simp only[B3,not_or,uK] at h5
  refine⟨h5.1,?_⟩
  have h6:=h5.2
  unfold af.bH
  cases hl:eo σ.mW k with
  |none=>rw[hl] at h6;simp at h6
  |some e=>rfl
 refine⟨?_,hk⟩
 have hb:∀k,k∈y.keys->σ.aC.any (iw k)=false->bW σ k=false:=by
  intro k h1 h2
  unfold bW
  rw[h2,Hv]
  have:=(hk k h1).2
  cases he:σ.bH k with
  |none=>rw[he] at this;cases this
  |some e=>rfl
 cases y with
 |ref k p=>
  simp only[io]
  cases hp:p.isEmpty
  ·simp only[hp,Y9,B4] at h4⊢
   exact hb k (by simp[AC.keys]) (by simpa using h4)
  ·rfl
 |kM k p i wd off=>
  simp only[io]
  cases hp:p.isEmpty
  ·simp only[hp,Y9,B4] at h4⊢
   exact hb k (by simp[AC.keys]) (by simpa using h4)
  ·rfl
 |_=>rfl
theorem RD.lV{bad bad':Key->Bool}{x:AC U}{v:Value}(hb:io bad x=false)(h:RD E w F kv fp bad x v):RD E w F kv fp bad' x v:=
 ⟨h.1,.inr (cn h hb)⟩
theorem kX.lV{bad bad':Key->Bool}{xs:List (AC U)}{vs:List Value}(hb:∀y∈xs,io bad y=false)(h:kX E w F kv fp bad xs vs):kX E w F kv fp bad' xs vs:=
 ⟨h.1,fun i x v hx hv=>(h.2 i x v hx hv).lV (hb x (Cs hx))⟩
theorem RS.lV{bad bad':Key->Bool}{x:SV U}{v:Value}(hb:∀y∈x.yL,io bad y=false)(h:RS E w F kv fp bad x v):RS E w F kv fp bad' x v:=by
 cases x with
 |v x=>obtain⟨vs,h1,h2⟩:=h;exact⟨vs,h1.lV hb,h2⟩
 |tJ xs=>
  obtain⟨vs,h1,h2,h3⟩:=h
  refine⟨vs,h1,h2,fun i x u hx hu=> ?_⟩
  obtain⟨us,g1,g2⟩:=h3 i x u hx hu
  exact⟨us,g1.lV (fun y hy=>hb y (nl.2 ⟨x,Cs hx,hy⟩)),g2⟩
 |fn p=>exact h
 |Db g xs=>
  obtain⟨vs,h1,h2,h3⟩:=h
  refine⟨vs,h1,h2,fun i x u hx hu=> ?_⟩
  obtain⟨us,g1,g2⟩:=h3 i x u hx hu
  exact⟨us,g1.lV (fun y hy=>hb y (nl.2 ⟨x,Cs hx,hy⟩)),g2⟩
theorem DB(h:cG E pm F kv fp σ a w)(bad:Key->Bool):cG E pm F kv fp (rm bad σ) a w:=by
 refine⟨h.size,h.defers,fun s x hs=> ?_,fun k e he=> ?_,fun k k' e e' b et h1 h2=>h.apart k k' e e' b et (F7 h1).1 (F7 h2).1,fun k e he=>h.nodup k e (F7 he).1,fun k e b he=>h.ff k e b (F7 he).1,h.rI,h.rH,h.upto,h.Ji,h.lay⟩
 ·obtain⟨h1,h2,_⟩:=LU.1 hs
  exact(h.bp s x h1).lV (fun y hy=>(J_ h2 hy).1)
 ·obtain⟨h1,h2,h3⟩:=F7 he
  have h0:=h.cV k e h1
  cases e with
  |arr x deep=>exact h0
  |part x dead=>exact h0
  |box cs=>
   obtain⟨b,cur,e',g1,g2,g3,g4⟩:=h0
   exact⟨b,cur,e',g1,g2,g3,g4.lV (fun y hy=>(J_ (h3 cs rfl) (x:=.v ⟨true,cs⟩) hy).1)⟩
theorem aaH{bad:Key->Bool}{k:Key}(h:Names (rm bad σ) k):bad k=false/\(σ.bH k).isSome=true:=by
 rcases h with⟨s,x,hs,hk⟩|⟨k',cs,he,x,hx,hk⟩
 ·obtain⟨_,h2,_⟩:=LU.1 hs
  obtain⟨y,hy,hk⟩:=SV.mem_keys.1 hk
  exact(J_ h2 hy).2 k hk
 ·obtain⟨_,_,h3⟩:=F7 he
  exact(J_ (h3 cs rfl) (x:=.v ⟨true,cs⟩) hx).2 k hk
theorem alj(h:cG E pm F kv fp σ a w)(ops:List Oper):cG E pm F kv fp (enter ops σ) a w:=DB h _
theorem alk{ops:List Oper}{k:Key}(h:Names (enter ops σ) k)(hd:k.1∈yn ops\/k.1=1000000):1024<=k.2:=by
 have:=(aaH h).1
 have h1:((yn ops).any (Nat.beq k.1)||Nat.beq k.1 1000000)=true:=by
  rw[B3]
  rcases hd with hd|hd
  ·exact .inl (sA.2 ⟨_,hd,by simp⟩)
  ·exact .inr (by rw[hd];rfl)
 simp only[h1,B4] at this
 rcases mX k.2 1024 with fX|XP
 ·have:Nat.blt k.2 1024=true:=by simpa using fX
  simp_all
 ·exact XP
end AM
