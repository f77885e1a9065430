/- THE ABSTRACT MACHINE: forgetting, and new names. -/
import Derived.Test.YtjlajhgabffmpaaGreatQAmDraw
namespace AM
set_option linter.unusedVariables false
open Go
variable{U:lu}{E:Env U}{pm:Pm}
variable{F F':Nat->Prop}{kv:Key->Value}{fp:Key->List Nat}{σ τ:ai U}{a:Act}{w w':World}
theorem Kv{β:Type}{l:List (Nat×Option β)}{s:Nat}{x:β}(h:look l s=some x):(s,some x)∈l:=by
 induction l with
 |nil=>cases h
 |cons p l ih=>
  obtain⟨t,v⟩:=p
  simp only[look] at h
  cases ht:Nat.beq t s<;>rw[ht] at h<;>simp only[cond_true,cond_false] at h
  ·exact cI _ (ih h)
  ·have:=nc ht
   subst this;subst h;exact gB
theorem Rt{β:Type}{l:List (Nat×Option β)}{s:Nat}{x:β}(hn:(l.map (·.1)).Nodup)(h:(s,some x)∈l):look l s=some x:=by
 induction l with
 |nil=>cases h
 |cons p l ih=>
  obtain⟨t,v⟩:=p
  simp only[wb,tS] at hn
  simp only[look]
  rcases kf.1 h with h|h
  ·cases h;simp
  ·have:Nat.beq t s=false:=by
    cases hb:Nat.beq t s
    ·rfl
    ·have:=nc hb
     subst this
     exact absurd (l_.2 ⟨_,h,rfl⟩) hn.1
   rw[this];exact ih hn.2 h
theorem U3{β:Type}{l:List (Key×Option β)}{s:Key}{x:β}(hn:(l.map (·.1)).Nodup)(h:(s,some x)∈l):eZ l s=some x:=by
 induction l with
 |nil=>cases h
 |cons p l ih=>
  obtain⟨t,v⟩:=p
  simp only[wb,tS] at hn
  simp only[eZ]
  rcases kf.1 h with h|h
  ·cases h;simp[zH]
  ·have:jb t s=false:=by
    rw[MP]
    rintro rfl
    exact hn.1 (l_.2 ⟨_,h,rfl⟩)
   rw[this];exact ih hn.2 h
theorem Kq{β:Type}:∀{l:List (Nat×Option β)}{seen:List Nat},((xB seen l).map (·.1)).Nodup/\∀p∈xB seen l,p.1∉seen
 |[],seen=>⟨YZ,fun p hp=>by simp[xB] at hp⟩
 |(s,v)::r,seen=>by
  simp only[xB]
  cases hs:seen.any (Nat.beq s)
  ·have hns:s∉seen:=fun h=>by
    have:seen.any (Nat.beq s)=true:=vg.2 ⟨s,h,by simp⟩
    rw[hs] at this;cases this
   obtain⟨h1,h2⟩:=Kq (l:=r) (seen:=s::seen)
   cases v with
   |none=>exact⟨h1,fun p hp hm=>h2 p hp (cI _ hm)⟩
   |some x=>
    simp only[cond_false,wb,tS]
    refine⟨⟨fun hm=> ?_,h1⟩,fun p hp=> ?_⟩
    ·obtain⟨p,hp,he⟩:=l_.1 hm
     exact h2 p hp (by rw[he];exact gB)
    ·rcases kf.1 hp with rfl|hp
     ·exact hns
     ·exact fun hm=>h2 p hp (cI _ hm)
  ·exact Kq
theorem Kr{β:Type}:∀{l:List (Nat×Option β)}{seen:List Nat}{s:Nat},s∉seen->look (xB seen l) s=look l s
 |[],_,_,_=>rfl
 |(t,v)::r,seen,s,hs=>by
  simp only[xB,look]
  cases ht:seen.any (Nat.beq t)
  ·simp only[cond_false]
   cases hb:Nat.beq t s
   ·have fg:s∉t::seen:=by
     intro hm
     rcases kf.1 hm with rfl|hm
     ·simp at hb
     ·exact hs hm
    cases v with
    |none=>simp only[cond_false];exact Kr fg
    |some x=>simp only[look,hb,cond_false];exact Kr fg
   ·have:=nc hb
    subst this
    cases v with
    |some x=>simp[look]
    |none=>
     simp only[cond_true]
     cases hl:look (xB (t::seen) r) t with
     |none=>rfl
     |some x=>exact absurd gB ((Kq (l:=r) (seen:=t::seen)).2 _ (Kv hl))
  ·simp only[cond_true]
   have hb:Nat.beq t s=false:=by
    cases hb:Nat.beq t s
    ·rfl
    ·have:=nc hb
     subst this
     obtain⟨x,hx,he⟩:=vg.1 ht
     have:=nc he
     subst this
     exact absurd hx hs
   rw[hb]
   exact Kr hs
theorem Ro{β:Type}:∀{l:List (Key×Option β)}{seen:List Key},((qt seen l).map (·.1)).Nodup/\∀p∈qt seen l,p.1∉seen
 |[],seen=>⟨YZ,fun p hp=>by simp[qt] at hp⟩
 |(s,v)::r,seen=>by
  simp only[qt]
  cases hs:seen.any (jb s)
  ·have hns:s∉seen:=fun h=>by rw[sI.2 h] at hs;cases hs
   obtain⟨h1,h2⟩:=Ro (l:=r) (seen:=s::seen)
   cases v with
   |none=>exact⟨h1,fun p hp hm=>h2 p hp (cI _ hm)⟩
   |some x=>
    simp only[cond_false,wb,tS]
    refine⟨⟨fun hm=> ?_,h1⟩,fun p hp=> ?_⟩
    ·obtain⟨p,hp,he⟩:=l_.1 hm
     exact h2 p hp (by rw[he];exact gB)
    ·rcases kf.1 hp with rfl|hp
     ·exact hns
     ·exact fun hm=>h2 p hp (cI _ hm)
  ·exact Ro
theorem UP{β:Type}:∀{l:List (Key×Option β)}{seen:List Key}{s:Key},s∉seen->eZ (qt seen l) s=eZ l s
 |[],_,_,_=>rfl
 |(t,v)::r,seen,s,hs=>by
  simp only[qt,eZ]
  cases ht:seen.any (jb t)
  ·simp only[cond_false]
   cases hb:jb t s
   ·have fg:s∉t::seen:=by
     intro hm
     rcases kf.1 hm with rfl|hm
     ·rw[zH] at hb;cases hb
     ·exact hs hm
    cases v with
    |none=>simp only[cond_false];exact UP fg
    |some x=>simp only[eZ,hb,cond_false];exact UP fg
   ·have:=pA.1 hb
    subst this
    cases v with
    |some x=>simp[eZ,zH]
    |none=>
     simp only[cond_true]
     cases hl:eZ (qt (t::seen) r) t with
     |none=>rfl
     |some x=>exact absurd gB ((Ro (l:=r) (seen:=t::seen)).2 _ (FY hl))
  ·simp only[cond_true]
   have hb:jb t s=false:=by
    rw[MP]
    rintro rfl
    exact hs (sI.1 ht)
   rw[hb]
   exact UP hs
theorem U0{α β:Type}{l:List α}{f:α->β}{p:α->Bool}(h:(l.map f).Nodup):((l.filter p).map f).Nodup:=
 List.Nodup.sublist (List.Sublist.map _ List.filter_sublist) h
def WR(bad:Key->Bool)(σ:ai U)(x:SV U):Bool:= !(x.NW (fun k=>bad k||(eZ σ.oy k).isNone) σ.aN)
theorem Rs{bad:Key->Bool}{s:Nat}{x:SV U}:(tM bad σ).get s=some x↔σ.get s=some x/\WR bad σ x=true/\x≠ .wm []:=by
 have hn:(((xB [] σ.bI).filter fun((_,v):Nat×Option (SV U))=>match v with|some (SV.wm [])=>false|some x=>WR bad σ x|none=>false).map (·.1)).Nodup:=U0 Kq.1
 have e:(tM bad σ).get s=look ((xB [] σ.bI).filter fun((_,v):Nat×Option (SV U))=>match v with|some (SV.wm [])=>false|some x=>WR bad σ x|none=>false) s:=rfl
 rw[e]
 constructor
 ·intro h
  have hm:=zr.1 (Kv h)
  have h1:=Rt Kq.1 hm.1
  rw[Kr (by simp)] at h1
  refine⟨h1,?_⟩
  have h2:=hm.2
  cases x with
  |v y=>exact⟨h2,fun e=>by cases e⟩
  |wm l=>cases l with
   |nil=>cases h2
   |cons y l=>exact⟨h2,fun e=>by cases e⟩
  |fn p=>exact⟨h2,fun e=>by cases e⟩
  |He g l=>exact⟨h2,fun e=>by cases e⟩
 ·rintro⟨h1,h2,h3⟩
  refine Rt hn (zr.2 ⟨Kv (by rw[Kr (by simp)];exact h1),?_⟩)
  cases x with
  |v y=>exact h2
  |wm l=>cases l with
   |nil=>exact absurd rfl h3
   |cons y l=>exact h2
  |fn p=>exact h2
  |He g l=>exact h2
theorem Ku{bad:Key->Bool}{k:Key}{e:i_ U}(h:(tM bad σ).bM k=some e):σ.bM k=some e/\bad k=false/\∀cs,e=.box cs->WR bad σ (.v ⟨true,cs⟩)=true:=by
 have hm:=zr.1 (FY h)
 have h1:=U3 Ro.1 hm.1
 rw[UP (by simp)] at h1
 have h2:=hm.2
 simp only[cO,ra] at h2
 refine⟨h1,h2.1,fun cs vz=> ?_⟩
 subst vz
 exact h2.2
theorem Po{bad:Key->Bool}{x:SV U}(h:WR bad σ x=true){y:AC U}(hy:y∈x.B7):iX (bR σ) y=false/\∀k∈y.keys,bad k=false/\(σ.bM k).isSome=true:=by
 unfold WR SV.NW at h
 rw[ra,<-wl,vg] at h
 have h':∀z,¬(z∈x.B7/\_):=fun z hz=>h ⟨z,hz⟩
 have h2:=h' y
 simp only[hy,true_and,FL,not_or] at h2
 obtain⟨h3,h4⟩:=h2
 have hk:∀k∈y.keys,bad k=false/\(σ.bM k).isSome=true:=by
  intro k hk
  have h5:¬((bad k||(eZ σ.oy k).isNone)=true):=fun e=>h3 (vg.2 ⟨k,hk,e⟩)
  simp only[FL,not_or,wl] at h5
  refine⟨h5.1,?_⟩
  have h6:=h5.2
  unfold ai.bM
  cases hl:eZ σ.oy k with
  |none=>rw[hl] at h6;simp at h6
  |some e=>rfl
 refine⟨?_,hk⟩
 have hb:∀k,k∈y.keys->σ.aN.any (jb k)=false->bR σ k=false:=by
  intro k h1 h2
  unfold bR
  rw[h2,Gl]
  have:=(hk k h1).2
  cases he:σ.bM k with
  |none=>rw[he] at this;cases this
  |some e=>rfl
 cases y with
 |ref k p=>
  simp only[iX]
  cases hp:p.isEmpty
  ·simp only[hp,Uz,wk] at h4⊢
   exact hb k (by simp[AC.keys]) (by simpa using h4)
  ·rfl
 |lK k p i wd off=>
  simp only[iX]
  cases hp:p.isEmpty
  ·simp only[hp,Uz,wk] at h4⊢
   exact hb k (by simp[AC.keys]) (by simpa using h4)
  ·rfl
 |_=>rfl
theorem RD.nl{bad bad':Key->Bool}{x:AC U}{v:Value}(hb:iX bad x=false)(h:RD E w F kv fp bad x v):RD E w F kv fp bad' x v:=
 ⟨h.1,.inr (cw h hb)⟩
theorem l8.nl{bad bad':Key->Bool}{xs:List (AC U)}{vs:List Value}(hb:∀y∈xs,iX bad y=false)(h:l8 E w F kv fp bad xs vs):l8 E w F kv fp bad' xs vs:=
 ⟨h.1,fun i x v hx hv=>(h.2 i x v hx hv).nl (hb x (Gn hx))⟩
theorem RS.nl{bad bad':Key->Bool}{x:SV U}{v:Value}(hb:∀y∈x.B7,iX bad y=false)(h:RS E w F kv fp bad x v):RS E w F kv fp bad' x v:=by
 cases x with
 |v x=>obtain⟨vs,h1,h2⟩:=h;exact⟨vs,h1.nl hb,h2⟩
 |wm xs=>
  obtain⟨vs,h1,h2,h3⟩:=h
  refine⟨vs,h1,h2,fun i x u hx hu=> ?_⟩
  obtain⟨us,g1,g2⟩:=h3 i x u hx hu
  exact⟨us,g1.nl (fun y hy=>hb y (ow.2 ⟨x,Gn hx,hy⟩)),g2⟩
 |fn p=>exact h
 |He g xs=>
  obtain⟨vs,h1,h2,h3⟩:=h
  refine⟨vs,h1,h2,fun i x u hx hu=> ?_⟩
  obtain⟨us,g1,g2⟩:=h3 i x u hx hu
  exact⟨us,g1.nl (fun y hy=>hb y (ow.2 ⟨x,Gn hx,hy⟩)),g2⟩
theorem HE(h:cQ E pm F kv fp σ a w)(bad:Key->Bool):cQ E pm F kv fp (tM bad σ) a w:=by
 refine⟨h.size,h.defers,fun s x hs=> ?_,fun k e he=> ?_,fun k k' e e' b fg h1 h2=>h.apart k k' e e' b fg (Ku h1).1 (Ku h2).1,fun k e he=>h.nodup k e (Ku he).1,fun k e b he=>h.fV k e b (Ku he).1,h.uc,h.ub,h.upto,h.N8,h.lay⟩
 ·obtain⟨h1,h2,_⟩:=Rs.1 hs
  exact(h.bI s x h1).nl (fun y hy=>(Po h2 hy).1)
 ·obtain⟨h1,h2,h3⟩:=Ku he
  have h0:=h.dV k e h1
  cases e with
  |arr x deep=>exact h0
  |part x dead=>exact h0
  |box cs=>
   obtain⟨b,cur,e',g1,g2,g3,g4⟩:=h0
   exact⟨b,cur,e',g1,g2,g3,g4.nl (fun y hy=>(Po (h3 cs rfl) (x:=.v ⟨true,cs⟩) hy).1)⟩
theorem acC{bad:Key->Bool}{k:Key}(h:Names (tM bad σ) k):bad k=false/\(σ.bM k).isSome=true:=by
 rcases h with⟨s,x,hs,hk⟩|⟨k',cs,he,x,hx,hk⟩
 ·obtain⟨_,h2,_⟩:=Rs.1 hs
  obtain⟨y,hy,hk⟩:=SV.mem_keys.1 hk
  exact(Po h2 hy).2 k hk
 ·obtain⟨_,_,h3⟩:=Ku he
  exact(Po (h3 cs rfl) (x:=.v ⟨true,cs⟩) hx).2 k hk
theorem alu(h:cQ E pm F kv fp σ a w)(ops:List Oper):cQ E pm F kv fp (enter ops σ) a w:=HE h _
theorem alv{ops:List Oper}{k:Key}(h:Names (enter ops σ) k)(hd:k.1∈BB ops\/k.1=1000000):1024<=k.2:=by
 have:=(acC h).1
 have h1:((BB ops).any (Nat.beq k.1)||Nat.beq k.1 1000000)=true:=by
  rw[FL]
  rcases hd with hd|hd
  ·exact .inl (vg.2 ⟨_,hd,by simp⟩)
  ·exact .inr (by rw[hd];rfl)
 simp only[h1,wk] at this
 rcases pa k.2 1024 with gZ|hge
 ·have:Nat.blt k.2 1024=true:=by simpa using gZ
  simp_all
 ·exact hge
end AM
