/- THE ABSTRACT MACHINE: forgetting, and new names. -/
import Derived.Test.YtlachfpabecaeaaQAmDraw
namespace AM
set_option linter.unusedVariables false
open Go
variable{U:dh}{E:Env U}{pm:Pm}
variable{F F':Nat->Prop}{kv:Key->Value}{fp:Key->List Nat}{σ τ:aa U}{a:Act}{w w':World}
theorem pM{β:Type}{l:List (Nat×Option β)}{s:Nat}{x:β}(h:look l s=some x):(s,some x)∈l:=by
 induction l with
 |nil=>cases h
 |cons p l ih=>
  obtain⟨t,v⟩:=p
  simp only[look] at h
  cases ht:Nat.beq t s<;>rw[ht] at h<;>simp only[cond_true,cond_false] at h
  ·exact c9 _ (ih h)
  ·have:=en ht
   subst this;subst h;exact e_
theorem tF{β:Type}{l:List (Nat×Option β)}{s:Nat}{x:β}(hn:(l.map (·.1)).Nodup)(h:(s,some x)∈l):look l s=some x:=by
 induction l with
 |nil=>cases h
 |cons p l ih=>
  obtain⟨t,v⟩:=p
  simp only[mR,fU] at hn
  simp only[look]
  rcases dQ.1 h with h|h
  ·cases h;simp
  ·have:Nat.beq t s=false:=by
    cases hb:Nat.beq t s
    ·rfl
    ·have:=en hb
     subst this
     exact absurd (ez.2 ⟨_,h,rfl⟩) hn.1
   rw[this];exact ih hn.2 h
theorem tE{β:Type}{l:List (Key×Option β)}{s:Key}{x:β}(hn:(l.map (·.1)).Nodup)(h:(s,some x)∈l):a9 l s=some x:=by
 induction l with
 |nil=>cases h
 |cons p l ih=>
  obtain⟨t,v⟩:=p
  simp only[mR,fU] at hn
  simp only[a9]
  rcases dQ.1 h with h|h
  ·cases h;simp[kr]
  ·have:cn t s=false:=by
    rw[qB]
    rintro rfl
    exact hn.1 (ez.2 ⟨_,h,rfl⟩)
   rw[this];exact ih hn.2 h
theorem pH{β:Type}:∀{l:List (Nat×Option β)}{seen:List Nat},((jC seen l).map (·.1)).Nodup/\∀p∈jC seen l,p.1∉seen
 |[],seen=>⟨yg,fun p hp=>by simp[jC] at hp⟩
 |(s,v)::r,seen=>by
  simp only[jC]
  cases hs:seen.any (Nat.beq s)
  ·have Kg:s∉seen:=fun h=>by
    have:seen.any (Nat.beq s)=true:=jg.2 ⟨s,h,by simp⟩
    rw[hs] at this;cases this
   obtain⟨h1,h2⟩:=pH (l:=r) (seen:=s::seen)
   cases v with
   |none=>exact⟨h1,fun p hp hm=>h2 p hp (c9 _ hm)⟩
   |some x=>
    simp only[cond_false,mR,fU]
    refine⟨⟨fun hm=> ?_,h1⟩,fun p hp=> ?_⟩
    ·obtain⟨p,hp,he⟩:=ez.1 hm
     exact h2 p hp (by rw[he];exact e_)
    ·rcases dQ.1 hp with rfl|hp
     ·exact Kg
     ·exact fun hm=>h2 p hp (c9 _ hm)
  ·exact pH
theorem pI{β:Type}:∀{l:List (Nat×Option β)}{seen:List Nat}{s:Nat},s∉seen->look (jC seen l) s=look l s
 |[],_,_,_=>rfl
 |(t,v)::r,seen,s,hs=>by
  simp only[jC,look]
  cases ht:seen.any (Nat.beq t)
  ·simp only[cond_false]
   cases hb:Nat.beq t s
   ·have a_:s∉t::seen:=by
     intro hm
     rcases dQ.1 hm with rfl|hm
     ·simp at hb
     ·exact hs hm
    cases v with
    |none=>simp only[cond_false];exact pI a_
    |some x=>simp only[look,hb,cond_false];exact pI a_
   ·have:=en hb
    subst this
    cases v with
    |some x=>simp[look]
    |none=>
     simp only[cond_true]
     cases hl:look (jC (t::seen) r) t with
     |none=>rfl
     |some x=>exact absurd e_ ((pH (l:=r) (seen:=t::seen)).2 _ (pM hl))
  ·simp only[cond_true]
   have hb:Nat.beq t s=false:=by
    cases hb:Nat.beq t s
    ·rfl
    ·have:=en hb
     subst this
     obtain⟨x,hx,he⟩:=jg.1 ht
     have:=en he
     subst this
     exact absurd hx hs
   rw[hb]
   exact pI hs
theorem tz{β:Type}:∀{l:List (Key×Option β)}{seen:List Key},((fz seen l).map (·.1)).Nodup/\∀p∈fz seen l,p.1∉seen
 |[],seen=>⟨yg,fun p hp=>by simp[fz] at hp⟩
 |(s,v)::r,seen=>by
  simp only[fz]
  cases hs:seen.any (cn s)
  ·have Kg:s∉seen:=fun h=>by rw[gr.2 h] at hs;cases hs
   obtain⟨h1,h2⟩:=tz (l:=r) (seen:=s::seen)
   cases v with
   |none=>exact⟨h1,fun p hp hm=>h2 p hp (c9 _ hm)⟩
   |some x=>
    simp only[cond_false,mR,fU]
    refine⟨⟨fun hm=> ?_,h1⟩,fun p hp=> ?_⟩
    ·obtain⟨p,hp,he⟩:=ez.1 hm
     exact h2 p hp (by rw[he];exact e_)
    ·rcases dQ.1 hp with rfl|hp
     ·exact Kg
     ·exact fun hm=>h2 p hp (c9 _ hm)
  ·exact tz
theorem tA{β:Type}:∀{l:List (Key×Option β)}{seen:List Key}{s:Key},s∉seen->a9 (fz seen l) s=a9 l s
 |[],_,_,_=>rfl
 |(t,v)::r,seen,s,hs=>by
  simp only[fz,a9]
  cases ht:seen.any (cn t)
  ·simp only[cond_false]
   cases hb:cn t s
   ·have a_:s∉t::seen:=by
     intro hm
     rcases dQ.1 hm with rfl|hm
     ·rw[kr] at hb;cases hb
     ·exact hs hm
    cases v with
    |none=>simp only[cond_false];exact tA a_
    |some x=>simp only[a9,hb,cond_false];exact tA a_
   ·have:=fb.1 hb
    subst this
    cases v with
    |some x=>simp[a9,kr]
    |none=>
     simp only[cond_true]
     cases hl:a9 (fz (t::seen) r) t with
     |none=>rfl
     |some x=>exact absurd e_ ((tz (l:=r) (seen:=t::seen)).2 _ (l4 hl))
  ·simp only[cond_true]
   have hb:cn t s=false:=by
    rw[qB]
    rintro rfl
    exact hs (gr.1 ht)
   rw[hb]
   exact tA hs
theorem v3{α β:Type}{l:List α}{f:α->β}{p:α->Bool}(h:(l.map f).Nodup):((l.filter p).map f).Nodup:=
 List.Nodup.sublist (List.Sublist.map _ List.filter_sublist) h
def wC(bad:Key->Bool)(σ:aa U)(x:SV U):Bool:= !(x.rq (fun k=>bad k||(a9 σ.tab k).isNone) σ.ag)
theorem tD{bad:Key->Bool}{s:Nat}{x:SV U}:(fZ bad σ).get s=some x↔σ.get s=some x/\wC bad σ x=true/\x≠ .iV []:=by
 have hn:(((jC [] σ.ap).filter fun((_,v):Nat×Option (SV U))=>match v with|some (SV.iV [])=>false|some x=>wC bad σ x|none=>false).map (·.1)).Nodup:=v3 pH.1
 have e:(fZ bad σ).get s=look ((jC [] σ.ap).filter fun((_,v):Nat×Option (SV U))=>match v with|some (SV.iV [])=>false|some x=>wC bad σ x|none=>false) s:=rfl
 rw[e]
 constructor
 ·intro h
  have hm:=po.1 (pM h)
  have h1:=tF pH.1 hm.1
  rw[pI (by simp)] at h1
  refine⟨h1,?_⟩
  have h2:=hm.2
  cases x with
  |v y=>exact⟨h2,fun e=>by cases e⟩
  |iV l=>cases l with
   |nil=>cases h2
   |cons y l=>exact⟨h2,fun e=>by cases e⟩
  |fn p=>exact⟨h2,fun e=>by cases e⟩
  |nH g l=>exact⟨h2,fun e=>by cases e⟩
 ·rintro⟨h1,h2,h3⟩
  refine tF hn (po.2 ⟨pM (by rw[pI (by simp)];exact h1),?_⟩)
  cases x with
  |v y=>exact h2
  |iV l=>cases l with
   |nil=>exact absurd rfl h3
   |cons y l=>exact h2
  |fn p=>exact h2
  |nH g l=>exact h2
theorem pL{bad:Key->Bool}{k:Key}{e:b9 U}(h:(fZ bad σ).aq k=some e):σ.aq k=some e/\bad k=false/\∀cs,e=.box cs->wC bad σ (.v ⟨true,cs⟩)=true:=by
 have hm:=po.1 (l4 h)
 have h1:=tE tz.1 hm.1
 rw[tA (by simp)] at h1
 have h2:=hm.2
 simp only[dR,k_] at h2
 refine⟨h1,h2.1,fun cs gS=> ?_⟩
 subst gS
 exact h2.2
theorem se{bad:Key->Bool}{x:SV U}(h:wC bad σ x=true){y:AC U}(hy:y∈x.lM):ck (av σ) y=false/\∀k∈y.keys,bad k=false/\(σ.aq k).isSome=true:=by
 unfold wC SV.rq at h
 rw[k_,<-nq,jg] at h
 have h':∀z,¬(z∈x.lM/\_):=fun z hz=>h ⟨z,hz⟩
 have h2:=h' y
 simp only[hy,true_and,qo,not_or] at h2
 obtain⟨h3,h4⟩:=h2
 have hk:∀k∈y.keys,bad k=false/\(σ.aq k).isSome=true:=by
  intro k hk
  have h5:¬((bad k||(a9 σ.tab k).isNone)=true):=fun e=>h3 (jg.2 ⟨k,hk,e⟩)
  simp only[qo,not_or,nq] at h5
  refine⟨h5.1,?_⟩
  have h6:=h5.2
  unfold aa.aq
  cases hl:a9 σ.tab k with
  |none=>rw[hl] at h6;simp at h6
  |some e=>rfl
 refine⟨?_,hk⟩
 have hb:∀k,k∈y.keys->σ.ag.any (cn k)=false->av σ k=false:=by
  intro k h1 h2
  unfold av
  rw[h2,rh]
  have:=(hk k h1).2
  cases he:σ.aq k with
  |none=>rw[he] at this;cases this
  |some e=>rfl
 cases y with
 |ref k p=>
  simp only[ck]
  cases hp:p.isEmpty
  ·simp only[hp,GZ,Ga] at h4⊢
   exact hb k (by simp[AC.keys]) (by simpa using h4)
  ·rfl
 |dt k p i wd off=>
  simp only[ck]
  cases hp:p.isEmpty
  ·simp only[hp,GZ,Ga] at h4⊢
   exact hb k (by simp[AC.keys]) (by simpa using h4)
  ·rfl
 |_=>rfl
theorem RD.ep{bad bad':Key->Bool}{x:AC U}{v:Value}(hb:ck bad x=false)(h:RD E w F kv fp bad x v):RD E w F kv fp bad' x v:=
 ⟨h.1,.inr (ax h hb)⟩
theorem dC.ep{bad bad':Key->Bool}{xs:List (AC U)}{vs:List Value}(hb:∀y∈xs,ck bad y=false)(h:dC E w F kv fp bad xs vs):dC E w F kv fp bad' xs vs:=
 ⟨h.1,fun i x v hx hv=>(h.2 i x v hx hv).ep (hb x (np hx))⟩
theorem RS.ep{bad bad':Key->Bool}{x:SV U}{v:Value}(hb:∀y∈x.lM,ck bad y=false)(h:RS E w F kv fp bad x v):RS E w F kv fp bad' x v:=by
 cases x with
 |v x=>obtain⟨vs,h1,h2⟩:=h;exact⟨vs,h1.ep hb,h2⟩
 |iV xs=>
  obtain⟨vs,h1,h2,h3⟩:=h
  refine⟨vs,h1,h2,fun i x u hx hu=> ?_⟩
  obtain⟨us,g1,g2⟩:=h3 i x u hx hu
  exact⟨us,g1.ep (fun y hy=>hb y (eY.2 ⟨x,np hx,hy⟩)),g2⟩
 |fn p=>exact h
 |nH g xs=>
  obtain⟨vs,h1,h2,h3⟩:=h
  refine⟨vs,h1,h2,fun i x u hx hu=> ?_⟩
  obtain⟨us,g1,g2⟩:=h3 i x u hx hu
  exact⟨us,g1.ep (fun y hy=>hb y (eY.2 ⟨x,np hx,hy⟩)),g2⟩
theorem nR(h:aC E pm F kv fp σ a w)(bad:Key->Bool):aC E pm F kv fp (fZ bad σ) a w:=by
 refine⟨h.size,h.defers,fun s x hs=> ?_,fun k e he=> ?_,fun k k' e e' b a_ h1 h2=>h.apart k k' e e' b a_ (pL h1).1 (pL h2).1,fun k e he=>h.nodup k e (pL he).1,fun k e b he=>h.bC k e b (pL he).1,h.hJ,h.hH,h.upto,h.rA,h.lay⟩
 ·obtain⟨h1,h2,_⟩:=tD.1 hs
  exact(h.ap s x h1).ep (fun y hy=>(se h2 hy).1)
 ·obtain⟨h1,h2,h3⟩:=pL he
  have h0:=h.aJ k e h1
  cases e with
  |arr x deep=>exact h0
  |part x dead=>exact h0
  |box cs=>
   obtain⟨b,cur,e',g1,g2,g3,g4⟩:=h0
   exact⟨b,cur,e',g1,g2,g3,g4.ep (fun y hy=>(se (h3 cs rfl) (x:=.v ⟨true,cs⟩) hy).1)⟩
theorem Di{bad:Key->Bool}{k:Key}(h:Names (fZ bad σ) k):bad k=false/\(σ.aq k).isSome=true:=by
 rcases h with⟨s,x,hs,hk⟩|⟨k',cs,he,x,hx,hk⟩
 ·obtain⟨_,h2,_⟩:=tD.1 hs
  obtain⟨y,hy,hk⟩:=SV.mem_keys.1 hk
  exact(se h2 hy).2 k hk
 ·obtain⟨_,_,h3⟩:=pL he
  exact(se (h3 cs rfl) (x:=.v ⟨true,cs⟩) hx).2 k hk
theorem Ja(h:aC E pm F kv fp σ a w)(ops:List Oper):aC E pm F kv fp (enter ops σ) a w:=nR h _
theorem Jb{ops:List Oper}{k:Key}(h:Names (enter ops σ) k)(hd:k.1∈ll ops\/k.1=1000000):1024<=k.2:=by
 have:=(Di h).1
 have h1:((ll ops).any (Nat.beq k.1)||Nat.beq k.1 1000000)=true:=by
  rw[qo]
  rcases hd with hd|hd
  ·exact .inl (jg.2 ⟨_,hd,by simp⟩)
  ·exact .inr (by rw[hd];rfl)
 simp only[h1,Ga] at this
 rcases eW k.2 1024 with bZ|Ag
 ·have:Nat.blt k.2 1024=true:=by simpa using bZ
  simp_all
 ·exact Ag
end AM
