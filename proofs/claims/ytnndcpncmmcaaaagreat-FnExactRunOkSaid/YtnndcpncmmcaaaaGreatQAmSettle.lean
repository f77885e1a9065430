import Derived.Test.YtnndcpncmmcaaaaGreatQAmDraw
namespace AM
set_option linter.unusedVariables false
open Go
variable{U:jO}{E:Env U}{pm:Pm}
variable{F F':Nat->Prop}{kv:Key->Value}{fp:Key->List Nat}{σ τ:ah U}{a:Act}{w w':World}
theorem Im{β:Type}{l:List (Nat×Option β)}{s:Nat}{x:β}(h:look l s=some x):(s,some x)∈l:=by
 induction l with
 |nil=>cases h
 |cons p l ih=>
  obtain⟨t,v⟩:=p
  simp only[look] at h
  cases ht:Nat.beq t s<;>rw[ht] at h<;>simp only[cond_true,cond_false] at h
  ·exact aJ _ (ih h)
  ·have:=jp ht
   subst this;subst h;exact cH
theorem OT{β:Type}{l:List (Nat×Option β)}{s:Nat}{x:β}(hn:(l.map (·.1)).Nodup)(h:(s,some x)∈l):look l s=some x:=by
 induction l with
 |nil=>cases h
 |cons p l ih=>
  obtain⟨t,v⟩:=p
  simp only[rl,pH] at hn
  simp only[look]
  rcases h_.1 h with h|h
  ·cases h;simp
  ·have:Nat.beq t s=false:=by
    cases hb:Nat.beq t s
    ·rfl
    ·have:=jp hb
     subst this
     exact absurd (jX.2 ⟨_,h,rfl⟩) hn.1
   rw[this];exact ih hn.2 h
theorem OS{β:Type}{l:List (Key×Option β)}{s:Key}{x:β}(hn:(l.map (·.1)).Nodup)(h:(s,some x)∈l):cm l s=some x:=by
 induction l with
 |nil=>cases h
 |cons p l ih=>
  obtain⟨t,v⟩:=p
  simp only[rl,pH] at hn
  simp only[cm]
  rcases h_.1 h with h|h
  ·cases h;simp[qd]
  ·have:fU t s=false:=by
    rw[wA]
    rintro rfl
    exact hn.1 (jX.2 ⟨_,h,rfl⟩)
   rw[this];exact ih hn.2 h
theorem Ii{β:Type}:∀{l:List (Nat×Option β)}{seen:List Nat},((wu seen l).map (·.1)).Nodup/\∀p∈wu seen l,p.1∉seen
 |[],seen=>⟨MH,fun p hp=>by simp[wu] at hp⟩
 |(s,v)::r,seen=>by
  simp only[wu]
  cases hs:seen.any (Nat.beq s)
  ·have hns:s∉seen:=fun h=>by
    have:seen.any (Nat.beq s)=true:=tW.2 ⟨s,h,by simp⟩
    rw[hs] at this;cases this
   obtain⟨h1,h2⟩:=Ii (l:=r) (seen:=s::seen)
   cases v with
   |none=>exact⟨h1,fun p hp hm=>h2 p hp (aJ _ hm)⟩
   |some x=>
    simp only[cond_false,rl,pH]
    refine⟨⟨fun hm=> ?_,h1⟩,fun p hp=> ?_⟩
    ·obtain⟨p,hp,he⟩:=jX.1 hm
     exact h2 p hp (by rw[he];exact cH)
    ·rcases h_.1 hp with rfl|hp
     ·exact hns
     ·exact fun hm=>h2 p hp (aJ _ hm)
  ·exact Ii
theorem Ij{β:Type}:∀{l:List (Nat×Option β)}{seen:List Nat}{s:Nat},s∉seen->look (wu seen l) s=look l s
 |[],_,_,_=>rfl
 |(t,v)::r,seen,s,hs=>by
  simp only[wu,look]
  cases ht:seen.any (Nat.beq t)
  ·simp only[cond_false]
   cases hb:Nat.beq t s
   ·have cO:s∉t::seen:=by
     intro hm
     rcases h_.1 hm with rfl|hm
     ·simp at hb
     ·exact hs hm
    cases v with
    |none=>simp only[cond_false];exact Ij cO
    |some x=>simp only[look,hb,cond_false];exact Ij cO
   ·have:=jp hb
    subst this
    cases v with
    |some x=>simp[look]
    |none=>
     simp only[cond_true]
     cases hl:look (wu (t::seen) r) t with
     |none=>rfl
     |some x=>exact absurd cH ((Ii (l:=r) (seen:=t::seen)).2 _ (Im hl))
  ·simp only[cond_true]
   have hb:Nat.beq t s=false:=by
    cases hb:Nat.beq t s
    ·rfl
    ·have:=jp hb
     subst this
     obtain⟨x,hx,he⟩:=tW.1 ht
     have:=jp he
     subst this
     exact absurd hx hs
   rw[hb]
   exact Ij hs
theorem MQ{β:Type}:∀{l:List (Key×Option β)}{seen:List Key},((nK seen l).map (·.1)).Nodup/\∀p∈nK seen l,p.1∉seen
 |[],seen=>⟨MH,fun p hp=>by simp[nK] at hp⟩
 |(s,v)::r,seen=>by
  simp only[nK]
  cases hs:seen.any (fU s)
  ·have hns:s∉seen:=fun h=>by rw[nP.2 h] at hs;cases hs
   obtain⟨h1,h2⟩:=MQ (l:=r) (seen:=s::seen)
   cases v with
   |none=>exact⟨h1,fun p hp hm=>h2 p hp (aJ _ hm)⟩
   |some x=>
    simp only[cond_false,rl,pH]
    refine⟨⟨fun hm=> ?_,h1⟩,fun p hp=> ?_⟩
    ·obtain⟨p,hp,he⟩:=jX.1 hm
     exact h2 p hp (by rw[he];exact cH)
    ·rcases h_.1 hp with rfl|hp
     ·exact hns
     ·exact fun hm=>h2 p hp (aJ _ hm)
  ·exact MQ
theorem OO{β:Type}:∀{l:List (Key×Option β)}{seen:List Key}{s:Key},s∉seen->cm (nK seen l) s=cm l s
 |[],_,_,_=>rfl
 |(t,v)::r,seen,s,hs=>by
  simp only[nK,cm]
  cases ht:seen.any (fU t)
  ·simp only[cond_false]
   cases hb:fU t s
   ·have cO:s∉t::seen:=by
     intro hm
     rcases h_.1 hm with rfl|hm
     ·rw[qd] at hb;cases hb
     ·exact hs hm
    cases v with
    |none=>simp only[cond_false];exact OO cO
    |some x=>simp only[cm,hb,cond_false];exact OO cO
   ·have:=lM.1 hb
    subst this
    cases v with
    |some x=>simp[cm,qd]
    |none=>
     simp only[cond_true]
     cases hl:cm (nK (t::seen) r) t with
     |none=>rfl
     |some x=>exact absurd cH ((MQ (l:=r) (seen:=t::seen)).2 _ (yV hl))
  ·simp only[cond_true]
   have hb:fU t s=false:=by
    rw[wA]
    rintro rfl
    exact hs (nP.1 ht)
   rw[hb]
   exact OO hs
theorem Sa{α β:Type}{l:List α}{f:α->β}{p:α->Bool}(h:(l.map f).Nodup):((l.filter p).map f).Nodup:=
 List.Nodup.sublist (List.Sublist.map _ List.filter_sublist) h
def SU(bad:Key->Bool)(σ:ah U)(x:SV U):Bool:= !(x.Lx (fun k=>bad k||(cm σ.iZ k).isNone) σ.ay)
theorem OR{bad:Key->Bool}{s:Nat}{x:SV U}:(sM bad σ).get s=some x↔σ.get s=some x/\SU bad σ x=true/\x≠ .tX []:=by
 have hn:(((wu [] σ.bw).filter fun((_,v):Nat×Option (SV U))=>match v with|some (SV.tX [])=>false|some x=>SU bad σ x|none=>false).map (·.1)).Nodup:=Sa Ii.1
 have e:(sM bad σ).get s=look ((wu [] σ.bw).filter fun((_,v):Nat×Option (SV U))=>match v with|some (SV.tX [])=>false|some x=>SU bad σ x|none=>false) s:=rfl
 rw[e]
 constructor
 ·intro h
  have hm:=CD.1 (Im h)
  have h1:=OT Ii.1 hm.1
  rw[Ij (by simp)] at h1
  refine⟨h1,?_⟩
  have h2:=hm.2
  cases x with
  |v y=>exact⟨h2,fun e=>by cases e⟩
  |tX l=>cases l with
   |nil=>cases h2
   |cons y l=>exact⟨h2,fun e=>by cases e⟩
  |fn p=>exact⟨h2,fun e=>by cases e⟩
  |El g l=>exact⟨h2,fun e=>by cases e⟩
 ·rintro⟨h1,h2,h3⟩
  refine OT hn (CD.2 ⟨Im (by rw[Ij (by simp)];exact h1),?_⟩)
  cases x with
  |v y=>exact h2
  |tX l=>cases l with
   |nil=>exact absurd rfl h3
   |cons y l=>exact h2
  |fn p=>exact h2
  |El g l=>exact h2
theorem Es{bad:Key->Bool}{k:Key}{e:eX U}(h:(sM bad σ).aU k=some e):σ.aU k=some e/\bad k=false/\∀cs,(e=.box cs\/∃a i x,e=.nA a i x/\cs=[x])->SU bad σ (.v ⟨true,cs⟩)=true:=by
 have hm:=CD.1 (yV h)
 have h1:=OS MQ.1 hm.1
 rw[OO (by simp)] at h1
 have h2:=hm.2
 simp only[fY,sS] at h2
 refine⟨h1,h2.1,fun cs lh=> ?_⟩
 rcases lh with lh|⟨a,i,x,lh,rfl⟩
 ·subst lh;exact h2.2
 ·subst lh;exact h2.2
theorem Il{bad:Key->Bool}{x:SV U}(h:SU bad σ x=true){y:AC U}(hy:y∈x.xE):gg (aZ σ) y=false/\∀k∈y.keys,bad k=false/\(σ.aU k).isSome=true:=by
 unfold SU SV.Lx at h
 rw[sS,<-Al,tW] at h
 have h':∀z,¬(z∈x.xE/\_):=fun z hz=>h ⟨z,hz⟩
 have h2:=h' y
 simp only[hy,true_and,Ee,not_or] at h2
 obtain⟨h3,h4⟩:=h2
 have hk:∀k∈y.keys,bad k=false/\(σ.aU k).isSome=true:=by
  intro k hk
  have h5:¬((bad k||(cm σ.iZ k).isNone)=true):=fun e=>h3 (tW.2 ⟨k,hk,e⟩)
  simp only[Ee,not_or,Al] at h5
  refine⟨h5.1,?_⟩
  have h6:=h5.2
  unfold ah.aU
  cases hl:cm σ.iZ k with
  |none=>rw[hl] at h6;simp at h6
  |some e=>rfl
 refine⟨?_,hk⟩
 have hb:∀k,k∈y.keys->σ.ay.any (fU k)=false->aZ σ k=false:=by
  intro k h1 h2
  unfold aZ
  rw[h2,JY]
  have:=(hk k h1).2
  cases he:σ.aU k with
  |none=>rw[he] at this;cases this
  |some e=>rfl
 cases y with
 |ref k p=>
  simp only[gg]
  cases hp:p.isEmpty
  ·simp only[hp,zea,Av] at h4⊢
   exact hb k (by simp[AC.keys]) (by simpa using h4)
  ·rfl
 |iC k p i wd off=>
  simp only[gg]
  cases hp:p.isEmpty
  ·simp only[hp,zea,Av] at h4⊢
   exact hb k (by simp[AC.keys]) (by simpa using h4)
  ·rfl
 |_=>rfl
theorem RD.mV{bad bad':Key->Bool}{x:AC U}{v:Value}(hb:gg bad x=false)(h:RD E w F kv fp bad x v):RD E w F kv fp bad' x v:=
 ⟨h.1,.inr (bG h hb)⟩
theorem kS.mV{bad bad':Key->Bool}{xs:List (AC U)}{vs:List Value}(hb:∀y∈xs,gg bad y=false)(h:kS E w F kv fp bad xs vs):kS E w F kv fp bad' xs vs:=
 ⟨h.1,fun i x v hx hv=>(h.2 i x v hx hv).mV (hb x (Ep hx))⟩
theorem RS.mV{bad bad':Key->Bool}{x:SV U}{v:Value}(hb:∀y∈x.xE,gg bad y=false)(h:RS E w F kv fp bad x v):RS E w F kv fp bad' x v:=by
 cases x with
 |v x=>obtain⟨vs,h1,h2⟩:=h;exact⟨vs,h1.mV hb,h2⟩
 |tX xs=>
  obtain⟨vs,h1,h2,h3⟩:=h
  refine⟨vs,h1,h2,fun i x u hx hu=> ?_⟩
  obtain⟨us,g1,g2⟩:=h3 i x u hx hu
  exact⟨us,g1.mV (fun y hy=>hb y (ln.2 ⟨x,Ep hx,hy⟩)),g2⟩
 |fn p=>exact h
 |El g xs=>
  obtain⟨vs,h1,h2,h3⟩:=h
  refine⟨vs,h1,h2,fun i x u hx hu=> ?_⟩
  obtain⟨us,g1,g2⟩:=h3 i x u hx hu
  exact⟨us,g1.mV (fun y hy=>hb y (ln.2 ⟨x,Ep hx,hy⟩)),g2⟩
theorem CR(h:cd E pm F kv fp σ a w)(bad:Key->Bool):cd E pm F kv fp (sM bad σ) a w:=by
 refine⟨h.size,h.defers,fun s x hs=> ?_,fun k e he=> ?_,fun k k' e e' b cO h1 h2=>h.apart k k' e e' b cO (Es h1).1 (Es h2).1,fun k e he=>h.nodup k e (Es he).1,fun k e b he=>h.cU k e b (Es he).1,h.lT,h.ny,h.upto,h.HW,h.lay,h.bQ.imp fun tk ht=>ht.cI (fun k e he _=>⟨(Es he).1,rfl,rfl,fun _ _=>rfl⟩) (fun b hb=>⟨hb,rfl⟩)⟩
 ·obtain⟨h1,h2,_⟩:=OR.1 hs
  exact(h.bw s x h1).mV (fun y hy=>(Il h2 hy).1)
 ·obtain⟨h1,h2,h3⟩:=Es he
  have h0:=h.cT k e h1
  cases e with
  |arr x deep=>exact h0
  |part x dead=>exact h0
  |box cs=>
   obtain⟨b,cur,e',g1,g2,g3,g4⟩:=h0
   exact⟨b,cur,e',g1,g2,g3,g4.mV (fun y hy=>(Il (h3 cs (.inl rfl)) (x:=.v ⟨true,cs⟩) hy).1)⟩
  |nA x i y=>
   obtain⟨g1,g2,g3,b,n,c,u,g4,g5,g6,g7⟩:=h0
   exact⟨g1,g2,g3,b,n,c,u,g4,g5,g6,g7.mV (Il (h3 [y] (.inr ⟨x,i,y,rfl,rfl⟩)) (x:=.v ⟨true,[y]⟩) (y:=y) (by simp[SV.xE])).1⟩
  |li x=>trivial
  |Dw x i=>trivial
  |fz x=>trivial
theorem adp{bad:Key->Bool}{k:Key}(h:Names (sM bad σ) k):bad k=false/\(σ.aU k).isSome=true:=by
 rcases h with⟨s,x,hs,hk⟩|⟨k',cs,he,x,hx,hk⟩
 ·obtain⟨_,h2,_⟩:=OR.1 hs
  obtain⟨y,hy,hk⟩:=SV.mem_keys.1 hk
  exact(Il h2 hy).2 k hk
 ·have hex:SU bad σ (.v ⟨true,cs⟩)=true:=by
   rcases he with he|⟨a,i,y,he,lh⟩
   ·exact(Es he).2.2 cs (.inl rfl)
   ·exact(Es he).2.2 cs (.inr ⟨a,i,y,rfl,lh⟩)
  exact(Il hex (x:=.v ⟨true,cs⟩) hx).2 k hk
theorem aom(h:cd E pm F kv fp σ a w)(ops:List Oper):cd E pm F kv fp (enter ops σ) a w:=CR h _
theorem aon{ops:List Oper}{k:Key}(h:Names (enter ops σ) k)(hd:k.1∈As ops\/k.1=1000000):1024<=k.2:=by
 have:=(adp h).1
 have h1:((As ops).any (Nat.beq k.1)||Nat.beq k.1 1000000)=true:=by
  rw[Ee]
  rcases hd with hd|hd
  ·exact .inl (tW.2 ⟨_,hd,by simp⟩)
  ·exact .inr (by rw[hd];rfl)
 simp only[h1,Av] at this
 rcases lR k.2 1024 with fx|TU
 ·have:Nat.blt k.2 1024=true:=by simpa using fx
  simp_all
 ·exact TU
end AM
