import Derived.Test.YtknfcngfhlpaeaaGreatDoorQAmSettle
namespace AM
set_option linter.unusedVariables false
open Go
variable{U:kz}{E:Env U}{pm:Pm}
variable{F F':Nat->Prop}{kv kv':Key->Value}{fp fp':Key->List Nat}{σ τ:ak U}{a:Act}{w w':World}
structure e7(E:Env U)(w:World)(F:Nat->Prop)(kv:Key->Value)(fp:Key->List Nat)(σ:ak U)(a:Act):Prop where
 bx:∀s x,σ.get s=some x->RS E w F kv fp (fun _=>false) x (a.tmps.getD s undef)
 cW:∀k e,σ.bH k=some e->sg E w F kv fp (fun _=>false) e (kv k) (fp k)
theorem FN{bad:Key->Bool}{x:AC U}(h:∀k∈x.keys,bad k=false):hJ bad x=false:=by
 cases x with
 |ref k p=>simp[hJ,h k (by simp[AC.keys])]
 |kI k p i wd off=>simp[hJ,h k (by simp[AC.keys])]
 |_=>rfl
theorem RA.te{f:Key->Key}{x:AC U}{v:Value}(hk:∀k∈x.keys,kv' (f k)=kv k/\fp' (f k)=fp k)(h:RA E w F kv fp x v):RA E w F kv' fp' (x.te f) v:=by
 cases x with
 |c x=>exact h
 |e0=>exact h
 |kn b τ xs=>exact h
 |ia cs=>exact h
 |ref k p=>
  obtain⟨h1,h2⟩:=hk k (by simp[AC.keys])
  simp only[AC.te,RA] at h⊢
  rw[h1,h2];exact h
 |sub k wd lo hi=>
  obtain⟨h1,h2⟩:=hk k (by simp[AC.keys])
  simp only[AC.te,RA] at h⊢
  rw[h1];exact h
 |kI k p i wd off=>
  obtain⟨h1,h2⟩:=hk k (by simp[AC.keys])
  simp only[AC.te,RA] at h⊢
  rw[h1,h2];exact h
 |jU k off=>
  obtain⟨h1,h2⟩:=hk k (by simp[AC.keys])
  simp only[AC.te,RA] at h⊢
  rw[h1];exact h
theorem kU.te{f:Key->Key}{bad bad':Key->Bool}{xs:List (AC U)}{vs:List Value}(hb:∀y∈xs,∀k∈y.keys,bad k=false)(hk:∀y∈xs,∀k∈y.keys,kv' (f k)=kv k/\fp' (f k)=fp k)
  (h:kU E w F kv fp bad xs vs):kU E w F kv' fp' bad' (xs.map (AC.te f)) vs:=by
 refine⟨by simpa using h.1,fun i x v hx hv=> ?_⟩
 rw[mw] at hx
 cases hy:xs[i]? with
 |none=>rw[hy] at hx;cases hx
 |some y=>
  rw[hy] at hx;cases hx
  have hm:=Em hy
  have:=h.2 i y v hy hv
  exact⟨this.1,.inr ((ca this (FN (hb y hm))).te (hk y hm))⟩
theorem RS.te{f:Key->Key}{bad bad':Key->Bool}{x:SV U}{v:Value}(hb:∀k∈x.keys,bad k=false)(hk:∀k∈x.keys,kv' (f k)=kv k/\fp' (f k)=fp k)
  (h:RS E w F kv fp bad x v):RS E w F kv' fp' bad' (x.te f) v:=by
 cases x with
 |v x=>
  obtain⟨vs,h1,h2⟩:=h
  exact⟨vs,h1.te (fun y hy k hky=>hb k (SV.mem_keys.2 ⟨y,hy,hky⟩)) (fun y hy k hky=>hk k (SV.mem_keys.2 ⟨y,hy,hky⟩)),h2⟩
 |uZ xs=>
  obtain⟨vs,h1,h2,h3⟩:=h
  refine⟨vs,h1,by simpa using h2,fun i x u hx hu=> ?_⟩
  rw[mw] at hx
  cases hy:xs[i]? with
  |none=>rw[hy] at hx;cases hx
  |some y=>
   rw[hy] at hx;cases hx
   have hm:=Em hy
   obtain⟨us,g1,g2⟩:=h3 i y u hy hu
   exact⟨us,g1.te (fun z hz k X5=>hb k (SV.mem_keys.2 ⟨z,nF.2 ⟨y,hm,hz⟩,X5⟩)) (fun z hz k X5=>hk k (SV.mem_keys.2 ⟨z,nF.2 ⟨y,hm,hz⟩,X5⟩)),g2⟩
 |fn p=>exact h
 |Ff g xs=>
  obtain⟨vs,h1,h2,h3⟩:=h
  refine⟨vs,h1,by simpa using h2,fun i x u hx hu=> ?_⟩
  rw[mw] at hx
  cases hy:xs[i]? with
  |none=>rw[hy] at hx;cases hx
  |some y=>
   rw[hy] at hx;cases hx
   have hm:=Em hy
   obtain⟨us,g1,g2⟩:=h3 i y u hy hu
   exact⟨us,g1.te (fun z hz k X5=>hb k (SV.mem_keys.2 ⟨z,nF.2 ⟨y,hm,hz⟩,X5⟩)) (fun z hz k X5=>hk k (SV.mem_keys.2 ⟨z,nF.2 ⟨y,hm,hz⟩,X5⟩)),g2⟩
theorem Rx{β γ:Type}{g:β->γ}:∀{l:List (Nat×Option β)}{s:Nat},look (l.map fun p=>(p.1,p.2.map g)) s=(look l s).map g
 |[],s=>rfl
 |(t,v)::r,s=>by
  simp only[sS,look]
  cases Nat.beq t s
  ·exact Rx
  ·rfl
theorem ahX(h:cG E pm F kv fp σ a w)(hc:e7 E w F kv fp σ a)(hn:(σ.nG.map (·.1)).Nodup)(TM:∀p∈σ.nG,p.2.isSome=true){l:List (Key×Key)}{S:Key->Prop}
  (hSn:∀k,Names σ k->S k) (hSl:∀k,(σ.bH k).isSome=true->S k) (Yb:∀k k',S k->S k'->vu l k=vu l k'->k=k') (Ee:∀k,2000000<=k.1->k.2<1024->∀k0,vu l k0=k->k0=k):
  ∃kv' fp',cG E pm F kv' fp' (rename l σ) a w:=by
 classical
 generalize hf:vu l=f at Yb Ee
 have iN:∀p∈σ.nG,(σ.bH p.1).isSome=true:=by
  rintro⟨k,v⟩ hp
  have:=TM _ hp
  cases v with
  |none=>cases this
  |some e=>unfold ak.bH;rw[Rw hn hp];rfl
 have O3:(rename l σ).nG=σ.nG.map fun(k,e)=>(f k,e.map (ie.te f)):=by rw[<-hf];rfl
 have Xr:(rename l σ).bx=σ.bx.map fun(s,v)=>(s,v.map (SV.te f)):=by rw[<-hf];rfl
 have uS:((rename l σ).nG.map (·.1)).Nodup:=by
  rw[O3,List.map_map]
  have:(σ.nG.map ((·.1)∘fun((k,e):Key×Option (ie U))=>(f k,e.map (ie.te f))))=(σ.nG.map (·.1)).map f:=by
   rw[List.map_map];rfl
  rw[this]
  rw[ZH,List.pairwise_map]
  rw[ZH] at hn
  refine List.Pairwise.imp_of_mem (fun{k k'} hk cK d_ he=>d_ ?_) hn
  obtain⟨p,hp,rfl⟩:=kW.1 hk
  obtain⟨p',j6,rfl⟩:=kW.1 cK
  exact Yb _ _ (hSl _ (iN p hp)) (hSl _ (iN p' j6)) he
 have rm:∀k' e',(rename l σ).bH k'=some e'↔∃k e,σ.bH k=some e/\k'=f k/\e'=e.te f:=by
  intro k' e'
  constructor
  ·intro he
   have hm:=D6 he
   rw[O3] at hm
   obtain⟨⟨k,v⟩,hp,hx⟩:=kW.1 hm
   simp only[nT] at hx
   obtain⟨h1,h2⟩:=hx
   cases v with
   |none=>cases h2
   |some e=>cases h2;exact⟨k,e,Rw hn hp,h1.symm,rfl⟩
  ·rintro⟨k,e,he,rfl,rfl⟩
   refine Rw uS ?_
   rw[O3]
   exact kW.2 ⟨(k,some e),D6 he,rfl⟩
 have rk:∀s,(rename l σ).get s=(σ.get s).map (SV.te f):=by
  intro s
  show look (rename l σ).bx s=_
  rw[Xr]
  exact Rx
 let g:Key->Key:=fun k'=>if h:∃k,S k/\f k=k' then h.choose else k'
 have hg:∀k,S k->g (f k)=k:=by
  intro k hk
  have hx:∃k1,S k1/\f k1=f k:=⟨k,hk,rfl⟩
  have:g (f k)=hx.choose:=by simp only[g];rw[dif_pos hx]
  rw[this]
  exact Yb _ _ hx.choose_spec.1 hk hx.choose_spec.2
 have zw:∀k,Names σ k->(fun k'=>kv (g k')) (f k)=kv k/\(fun k'=>fp (g k')) (f k)=fp k:=by
  intro k hk
  simp only
  rw[hg k (hSn k hk)]
  exact⟨rfl,rfl⟩
 have Pf:∀{k:Key}{e:ie U},σ.bH k=some e->g (f k)=k:=fun he=>hg _ (hSl _ (by rw[he];rfl))
 refine⟨fun k'=>kv (g k'),fun k'=>fp (g k'),?_⟩
 ·refine⟨h.size,h.defers,fun s x' hs=> ?_,fun k' e' he=> ?_,fun k1 k2 e1 e2 b d_ h1 h2=> ?_,fun k' e' he=> ?_,fun k' e' b he=> ?_,h.sO,h.sN,h.upto,fun k v hpk=> ?_,h.lay⟩
  ·rw[rk] at hs
   cases hx:σ.get s with
   |none=>rw[hx] at hs;cases hs
   |some x=>
    rw[hx] at hs;cases hs
    exact(hc.bx s x hx).te (fun k hk=>rfl) (fun k hk=>zw k (.inl ⟨s,x,hx,hk⟩))
  ·obtain⟨k,e,h1,rfl,rfl⟩:=(rm k' e').1 he
   have h0:=hc.cW k e h1
   simp only[Pf h1]
   cases e with
   |arr x deep=>exact h0
   |part x dead=>exact h0
   |box cs=>
    obtain⟨b,cur,e',g1,g2,g3,g4⟩:=h0
    exact⟨b,cur,e',g1,g2,g3,g4.te (fun y hy k' cK=>rfl) (fun y hy k' cK=>zw k' (.inr ⟨k,cs,h1,y,hy,cK⟩))⟩
  ·obtain⟨k,e,g1,rfl,rfl⟩:=(rm k1 e1).1 h1
   obtain⟨k',e',g2,rfl,rfl⟩:=(rm k2 e2).1 h2
   simp only[Pf g1,Pf g2]
   exact h.apart k k' e e' b (fun e=>d_ (by rw[e])) g1 g2
  ·obtain⟨k,e,g1,rfl,rfl⟩:=(rm k' e').1 he
   simp only[Pf g1]
   exact h.nodup k e g1
  ·obtain⟨k,e,g1,rfl,rfl⟩:=(rm k' e').1 he
   simp only[Pf g1]
   exact h.fj k e b g1
  ·obtain⟨p1,p2,p3,p4⟩:=h.Lg k v hpk
   have:g k=k:=by
    by_cases hx:∃k1,S k1/\f k1=k
    ·have e:g k=hx.choose:=by simp only[g];rw[dif_pos hx]
     rw[e]
     exact Ee k p1 p2 _ hx.choose_spec.2
    ·simp only[g];rw[dif_neg hx]
   exact⟨p1,p2,p3,by simp only[this];exact p4⟩
theorem ah3(bad:Key->Bool)(σ:ak U):((sn bad σ).nG.map (·.1)).Nodup/\∀p∈(sn bad σ).nG,p.2.isSome=true:=by
 refine⟨Rt N0.1,fun p hp=> ?_⟩
 have hm:=(wc.1 hp).1
 have:∀{l:List (Key×Option (ie U))}{seen:List Key},∀p∈pj seen l,p.2.isSome=true:=by
  intro l
  induction l with
  |nil=>intro seen p hp;simp[pj] at hp
  |cons q l ih=>
   obtain⟨k,v⟩:=q
   intro seen p hp
   simp only[pj] at hp
   cases hs:seen.any (ik k)<;>rw[hs] at hp<;>simp only[cond_true,cond_false] at hp
   ·cases v with
    |none=>exact ih p hp
    |some x=>
     rcases jF.1 hp with rfl|hp
     ·rfl
     ·exact ih p hp
   ·exact ih p hp
 exact this p hm
theorem N3(h:cG E pm F kv fp σ a w)(bad:Key->Bool):e7 E w F kv fp (sn bad σ) a:=by
 refine⟨fun s x hs=> ?_,fun k e he=> ?_⟩
 ·obtain⟨h1,h2,_⟩:=N4.1 hs
  exact(h.bx s x h1).mn (fun y hy=>(Md h2 hy).1)
 ·obtain⟨h1,h2,h3⟩:=H6 he
  have h0:=h.cW k e h1
  cases e with
  |arr x deep=>exact h0
  |part x dead=>exact h0
  |box cs=>
   obtain⟨b,cur,e',g1,g2,g3,g4⟩:=h0
   exact⟨b,cur,e',g1,g2,g3,g4.mn (fun y hy=>(Md (h3 cs rfl) (x:=.v ⟨true,cs⟩) hy).1)⟩
theorem Rq:∀{l:List (Key×Key)}{k:Key},(∃b,(k,b)∈l/\vu l k=b)\/((∀b,(k,b)∉l)/\vu l k=k)
 |[],k=> .inr ⟨fun b hb=>(LX hb).elim,rfl⟩
 |(a,b)::r,k=>by
  simp only[vu]
  cases h:ik a k
  ·simp only[cond_false]
   rcases Rq (l:=r) (k:=k) with⟨c,h1,h2⟩|⟨h1,h2⟩
   ·exact .inl ⟨c,e8 _ h1,h2⟩
   ·refine .inr ⟨fun c hc=> ?_,h2⟩
    rcases jF.1 hc with hc|hc
    ·cases hc;rw[yl] at h;cases h
    ·exact h1 c hc
  ·have:=og.1 h
   subst this
   exact .inl ⟨b,gS,rfl⟩
theorem aao(h:∃kv fp,cG E pm F kv fp σ a w)(l0:List (Key×Key)):∃kv fp,cG E pm F kv fp (qb l0 σ) a w:=by
 unfold qb
 simp only
 rw[gI]
 split
 ·exact h
 ·rename_i mi
  generalize hl:(l0.filter fun(a,b)=> !(ik a b)&& !(Nat.ble 2000000 a.1&&Nat.blt a.2 1024))=l at mi⊢
  simp only[DW,not_or,uO,Bool.not_eq_false'] at mi
  obtain⟨⟨⟨h1,h2⟩,h3⟩,h4⟩:=mi
  obtain⟨kv,fp,hs⟩:=h
  have htn:(l.map (·.2)).Nodup:=tf.1 h3
  have han:(l.map (·.1)).Nodup:=tf.1 h2
  obtain⟨t1,t2⟩:=ah3 (fun k=>(l.map (·.2)).any (ik k)) σ
  refine ahX (FH hs _) (N3 hs _) t1 t2 (S:=fun k=>k∉l.map (·.2)) (fun k hk=> ?_) (fun k hk=> ?_) (fun k k' hk cK he=> ?_) (fun k p1 p2 k0 he=> ?_)
  ·have:=(aaE hk).1
   exact fun hm=>by rw[q_.2 hm] at this;cases this
  ·obtain⟨e,he⟩:=l6.1 hk
   have:=(H6 he).2.1
   exact fun hm=>by rw[q_.2 hm] at this;cases this
  ·rcases Rq (l:=l) (k:=k) with⟨b,g1,g2⟩|⟨g1,g2⟩<;>rcases Rq (l:=l) (k:=k') with⟨b',g1',g2'⟩|⟨g1',g2'⟩
   ·rw[g2,g2'] at he
    subst he
    obtain⟨i,hi,pa⟩:=qD g1
    obtain⟨j,hj,sI⟩:=qD g1'
    have D2:i=j:=by
     refine(List.getElem_inj (h₀:=by simpa using hi) (h₁:=by simpa using hj) htn).1 ?_
     simp[pa,sI]
    subst D2
    rw[pa] at sI
    exact(Prod.mk.inj sI).1
   ·rw[g2,g2'] at he
    subst he
    exact absurd (kW.2 ⟨_,g1,rfl⟩) cK
   ·rw[g2,g2'] at he
    subst he
    exact absurd (kW.2 ⟨_,g1',rfl⟩) hk
   ·rw[g2,g2'] at he
    exact he
  ·rcases Rq (l:=l) (k:=k0) with⟨b,g1,g2⟩|⟨g1,g2⟩
   ·exfalso
    have:=sh.1 h4 _ g1
    simp only[Nt] at this
    rw[g2] at he
    subst he
    omega
   ·rw[g2] at he;exact he
theorem aaq(h:∃kv fp,cG E pm F kv fp σ a w)(d:Nat):∃kv fp,cG E pm F kv fp (qP d σ) a w:=by
 unfold qP
 split
 ·exact aao h _
 ·exact h
theorem ahL(h:∃kv fp,cG E pm F kv fp σ a w)(k:Key):∃kv fp,cG E pm F kv fp (wB k σ) a w:=by
 unfold wB
 split
 ·exact aao h _
 ·exact h
theorem Rl:∀{l:List Key}{τ:ak U},(∃kv fp,cG E pm F kv fp τ a w)->∃kv fp,cG E pm F kv fp (wA l τ) a w
 |[],τ,h=>h
 |k::l,τ,h=>Rl (l:=l) (ahL h k)
theorem ahJ(h:cG E pm F kv fp σ a w)(ops:List Oper):∃kv fp,cG E pm F kv fp (settle ops σ) a w:=by
 unfold settle
 simp only
 refine Rl ?_
 have h0:∃kv fp,cG E pm F kv fp (iY σ) a w:=⟨kv,fp,FH h _⟩
 generalize iY σ=τ at h0
 generalize assigned ops=l
 induction l generalizing τ with
 |nil=>exact h0
 |cons d l ih=>exact ih _ (aaq h0 d)
theorem N6{β:Type}(f:β->β):∀(l:List (Nat×Option β))(s:Nat),look (l.map fun(t,v)=>(t,v.map f)) s=(look l s).map f
 |[],s=>rfl
 |(t,v)::r,s=>by
  simp only[sS,look]
  cases h:Nat.beq t s<;>simp only[cond_true,cond_false]
  exact N6 f r s
theorem WN{β:Type}(f:β->β):∀(l:List (Key×Option β))(s:Key),dW (l.map fun(t,v)=>(t,v.map f)) s=(dW l s).map f
 |[],s=>rfl
 |(t,v)::r,s=>by
  simp only[sS,dW]
  cases h:ik t s<;>simp only[cond_true,cond_false]
  exact WN f r s
theorem aai{bad':Key->Bool}(k:Key):oQ w w kv kv fp fp (fun _=>false) bad' k:=⟨rfl,.inr ⟨rfl,rfl,fun _ _=>rfl⟩⟩
theorem RD.fr{k0:Key}{c:U.C}{bad':Key->Bool}{x:AC U}{v:Value}(h:RD E w F kv fp (fun _=>false) x v)(hF:∀b,F b->F' b)
  (hc:Rp E w F' false c (kv k0) []):RD E w F' kv fp bad' (Gp k0 c x) v:=by
 have hm:RD E w F' kv fp bad' x v:=h.move (fun k _=>aai k) (fun b hb=>⟨hF b hb,rfl⟩)
 unfold Gp
 split
 ·rename_i k
  rw[gI]
  split
  ·rename_i hk
   have:=og.1 hk
   subst this
   refine⟨h.1,.inr ?_⟩
   have h2:=h.2
   simp only[hJ,List.isEmpty_nil,Y4,si,wb,false_or,RA,nU] at h2
   rw[h2];exact hc
  ·exact hm
 ·exact hm
theorem kU.fr{k0:Key}{c:U.C}{bad':Key->Bool}{xs:List (AC U)}{vs:List Value}(h:kU E w F kv fp (fun _=>false) xs vs)(hF:∀b,F b->F' b)
  (hc:Rp E w F' false c (kv k0) []):kU E w F' kv fp bad' (xs.map (Gp k0 c)) vs:=by
 refine⟨by simpa using h.1,fun i x v hx hv=> ?_⟩
 rw[mw] at hx
 cases hy:xs[i]? with
 |none=>rw[hy] at hx;cases hx
 |some y=>
  rw[hy] at hx;cases hx
  exact(h.2 i y v hy hv).fr hF hc
theorem RS.fr{k0:Key}{c:U.C}{bad':Key->Bool}{x:SV U}{v:Value}(h:RS E w F kv fp (fun _=>false) x v)(hF:∀b,F b->F' b)
  (hc:Rp E w F' false c (kv k0) []):RS E w F' kv fp bad' (Kp k0 c x) v:=by
 have hm:RS E w F' kv fp bad' x v:=h.move (fun k _=>aai k) (fun b hb=>⟨hF b hb,rfl⟩)
 cases x with
 |v x=>
  obtain⟨vs,h1,h2⟩:=h
  exact⟨vs,h1.fr hF hc,h2⟩
 |uZ xs=>exact hm
 |fn p=>exact hm
 |Ff g xs=>exact hm
theorem sg.fr{k0:Key}{c:U.C}{bad':Key->Bool}{x:ie U}{v:Value}{l:List Nat}(h:sg E w F kv fp (fun _=>false) x v l)(hF:∀b,F b->F' b)
  (hc:Rp E w F' false c (kv k0) []):sg E w F' kv fp bad' (IJ k0 c x) v l:=by
 cases x with
 |arr a d=>exact eo.fC h (fun b hb=>⟨hF b hb,rfl⟩) (fun _ _=>rfl)
 |part a d=>exact dK.fC h (fun b hb=>⟨hF b hb,rfl⟩) (fun _ _=>rfl)
 |box cs=>
  obtain⟨b,cur,e',g1,g2,g3,g4⟩:=h
  exact⟨b,cur,e',g1,g2,g3,g4.fr hF hc⟩
theorem aa0(h:cG E pm F kv fp σ a w)(hc:e7 E w F kv fp σ a)(k0:Key):∃F,cG E pm F kv fp (kP k0 σ) a w/\e7 E w F kv fp (kP k0 σ) a:=by
 unfold kP
 split
 rotate_left
 ·exact⟨F,h,hc⟩
 rename_i ar d he
 have hs:Rp E w (fun b=>F b\/b∈fp k0) false (.sl ar.τ ar.xs) (kv k0) []:=eo.kB (hc.cW k0 _ he) (fun b hb=> .inl hb) (fun b hb=> .inr hb)
 have hF:∀b,F b->(fun b=>F b\/b∈fp k0) b:=fun b hb=> .inl hb
 have rm:∀k e,dW ((k0,none)::σ.nG.map fun(k,e)=>(k,e.map (IJ k0 (.sl ar.τ ar.xs)))) k=some e->k≠k0/\∃e0,σ.bH k=some e0/\e=IJ k0 (.sl ar.τ ar.xs) e0:=by
  intro k e hk
  simp only[dW] at hk
  cases hq:ik k0 k<;>simp only[hq,cond_true,cond_false] at hk
  ·rw[WN] at hk
   cases hl:dW σ.nG k with
   |none=>rw[hl] at hk;cases hk
   |some e0=>rw[hl] at hk;cases hk;exact⟨fun e=>(J2.1 hq) e.symm,e0,hl,rfl⟩
  ·cases hk
 have rk:∀s x,look (σ.bx.map fun(s,v)=>(s,v.map (Kp k0 (.sl ar.τ ar.xs)))) s=some x->∃x0,σ.get s=some x0/\x=Kp k0 (.sl ar.τ ar.xs) x0:=by
  intro s x hx
  rw[N6] at hx
  cases hl:look σ.bx s with
  |none=>rw[hl] at hx;cases hx
  |some x0=>rw[hl] at hx;cases hx;exact⟨x0,hl,rfl⟩
 refine⟨fun b=>F b\/b∈fp k0,⟨h.size,h.defers,fun s x hx=> ?_,fun k e hk=> ?_,fun k k' e e' b d_ h1 h2=> ?_,fun k e hk=> ?_,fun k e b hk hb=> ?_,fun b hb=> ?_,fun b hb=> ?_,h.upto,h.Lg,h.lay.fC (fun b hb=>⟨.inl hb,rfl⟩)⟩,⟨fun s x hx=> ?_,fun k e hk=> ?_⟩⟩
 ·obtain⟨x0,hx0,rfl⟩:=rk s x hx
  exact(hc.bx s x0 hx0).fr hF hs
 ·obtain⟨d_,e0,mD,rfl⟩:=rm k e hk
  exact(hc.cW k e0 mD).fr hF hs
 ·obtain⟨_,e0,mD,_⟩:=rm k e h1
  obtain⟨_,e0',Yl,_⟩:=rm k' e' h2
  exact h.apart k k' e0 e0' b d_ mD Yl
 ·obtain⟨_,e0,mD,_⟩:=rm k e hk
  exact h.nodup k e0 mD
 ·obtain⟨d_,e0,mD,_⟩:=rm k e hk
  obtain⟨m1,m2,m3⟩:=h.fj k e0 b mD hb
  exact⟨fun hh=>hh.elim m1 (fun hh=>h.apart k k0 e0 _ b d_ mD he hb hh),m2,m3⟩
 ·exact hb.elim (h.sO b) (fun hb=>(h.fj k0 _ b he hb).2.2)
 ·exact hb.elim (h.sN b) (fun hb=> .inr (h.fj k0 _ b he hb).2.1)
 ·obtain⟨x0,hx0,rfl⟩:=rk s x hx
  exact(hc.bx s x0 hx0).fr hF hs
 ·obtain⟨d_,e0,mD,rfl⟩:=rm k e hk
  exact(hc.cW k e0 mD).fr hF hs
theorem RF:∀{l:List Nat}{σ:ak U},(∃F kv fp,cG E pm F kv fp σ a w/\e7 E w F kv fp σ a)->∃F kv fp,cG E pm F kv fp (px l σ) a w/\e7 E w F kv fp (px l σ) a
 |[],σ,h=>h
 |s::l,σ,h=>by
  refine RF (l:=l) (σ:=rB s σ) ?_
  obtain⟨F,kv,fp,h1,h2⟩:=h
  unfold rB
  split
  ·obtain⟨F',h3⟩:=aa0 h1 h2 _
   exact⟨F',kv,fp,h3⟩
  ·exact⟨F,kv,fp,h1,h2⟩
theorem aa3{k0:Key}{c:U.C}{x:AC U}{k:Key}(h:k∈(Gp k0 c x).keys):k∈x.keys:=by
 unfold Gp at h
 split at h
 ·rename_i q
  rw[gI] at h
  split at h
  ·simp[AC.keys] at h
  ·exact h
 ·exact h
theorem aiX{k0:Key}{c:U.C}{x:SV U}{k:Key}(h:k∈(Kp k0 c x).keys):k∈x.keys:=by
 cases x with
 |v x=>
  obtain⟨y,hy,hk⟩:=SV.mem_keys.1 h
  simp only[Kp,SV.Ax,kW] at hy
  obtain⟨z,hz,rfl⟩:=hy
  exact SV.mem_keys.2 ⟨z,hz,aa3 hk⟩
 |uZ xs=>exact h
 |fn p=>exact h
 |Ff g xs=>exact h
theorem aa1{k0 k:Key}(h:Names (kP k0 σ) k):Names σ k:=by
 unfold kP at h
 split at h
 rotate_left
 ·exact h
 rcases h with⟨s,x,hs,hk⟩|⟨k',cs,he,x,hx,hk⟩
 ·have hs:look (σ.bx.map _) s=some x:=hs
  rw[N6] at hs
  cases hl:look σ.bx s with
  |none=>rw[hl] at hs;cases hs
  |some y=>rw[hl] at hs;cases hs;exact .inl ⟨s,y,hl,aiX hk⟩
 ·have he:dW ((k0,none)::σ.nG.map _) k'=some (ie.box cs):=he
  simp only[dW] at he
  cases hq:ik k0 k'<;>simp only[hq,cond_true,cond_false] at he
  ·rw[WN] at he
   cases hl:dW σ.nG k' with
   |none=>rw[hl] at he;cases he
   |some e=>
    rw[hl] at he
    cases e with
    |arr a d=>cases he
    |part a d=>cases he
    |box cs0=>
     simp only[D3,IJ,fM,ie.box.injEq] at he
     subst he
     obtain⟨z,hz,rfl⟩:=kW.1 hx
     exact .inr ⟨k',cs0,hl,z,hz,aa3 hk⟩
  ·cases he
theorem aaY{k:Key}:∀{l:List Nat}{σ:ak U},Names (px l σ) k->Names σ k
 |[],σ,h=>h
 |s::l,σ,h=>by
  have h2:Names (rB s σ) k:=aaY (l:=l) h
  unfold rB at h2
  split at h2
  ·exact aa1 h2
  ·exact h2
theorem RH:∀{l:List Key}{σ:ak U},(∃F kv fp,cG E pm F kv fp σ a w/\e7 E w F kv fp σ a)->∃F kv fp,cG E pm F kv fp (qm l σ) a w/\e7 E w F kv fp (qm l σ) a
 |[],σ,h=>h
 |s::l,σ,h=>by
  refine RH (l:=l) (σ:=kP s σ) ?_
  obtain⟨F,kv,fp,h1,h2⟩:=h
  obtain⟨F',h3⟩:=aa0 h1 h2 s
  exact⟨F',kv,fp,h3⟩
theorem aaZ{k:Key}:∀{l:List Key}{σ:ak U},Names (qm l σ) k->Names σ k
 |[],σ,h=>h
 |s::l,σ,h=>aa1 (aaZ (l:=l) (σ:=kP s σ) h)
theorem ajf(h:cG E pm F kv fp σ a w)(E':Env U)(ops:List Oper):∃F kv fp,cG E pm F kv fp (Dh E' ops σ) a w:=by
 obtain⟨F',kv',fp',h1,_⟩:=RH (l:=LB ops (px (Ln E' ops) (enter ops σ))) (RF (l:=Ln E' ops) (σ:=enter ops σ) ⟨F,kv,fp,ajd h ops,N3 h _⟩)
 exact⟨F',kv',fp',h1⟩
theorem aa9{E':Env U}{ops:List Oper}{k:Key}(h:Names (Dh E' ops σ) k)(hd:k.1∈zY ops\/k.1=1000000):1024<=k.2:=aje (aaY (aaZ h)) hd
theorem ahH(h:cG E pm F kv fp σ a w)(k0:Key):∃F' fp',cG E pm F' kv fp' (Cx k0 σ) a w:=by
 unfold Cx
 split
 rotate_left
 ·exact⟨F,fp,h⟩
 rename_i ar he
 have rm:∀k e,dW ((k0,some (ie.arr ar false))::σ.nG) k=some e->(k=k0/\e=ie.arr ar false)\/(k≠k0/\σ.bH k=some e):=by
  intro k e hk
  simp only[dW] at hk
  cases hq:ik k0 k<;>simp only[hq,cond_true,cond_false] at hk
  ·exact .inr ⟨fun e=>(J2.1 hq) e.symm,hk⟩
  ·cases hk;exact .inl ⟨(og.1 hq).symm,rfl⟩
 have TM:∀k,∃k' e',σ.bH k=some e'\/k'=k:=fun k=>⟨k,.arr ar true,.inr rfl⟩
 obtain⟨F',fp',hF,hF2,IF,o8,o9,nq⟩:∃(F':Nat->Prop)(fp':Key->List Nat),(∀b,F b->F' b)/\(∀b,F' b->F b\/b∈fp k0)/\(∀k,k≠k0->fp' k=fp k)/\(∀b∈fp' k0,b∈fp k0/\¬F' b)/\(fp' k0).Nodup/\eo E w F' false ar (kv k0) (fp' k0):=by
  have ho:eo E w F true ar (kv k0) (fp k0):=h.cW k0 _ he
  have hn:=h.nodup k0 _ he
  rcases ho with⟨h1,h2,h3⟩|⟨b,cap,cur,vs,gr,h1,h2,h3,h4,h5,h6,h7,h8⟩
  ·exact⟨F,fp,fun _ hb=>hb,fun b hb=> .inl hb,fun _ _=>rfl,fun b hb=>(by rw[h3] at hb;cases hb),hn,.inl ⟨h1,h2,h3⟩⟩
  ·rw[h8,sC] at hn
   refine⟨fun c=>F c\/(c∈fp k0/\c≠b),fun k=>if ik k k0=true then[b] else fp k,fun _ hb=> .inl hb,fun c hc=>hc.imp id fun g=>g.1,fun k hk=> ?_,fun c hc=> ?_,?_,?_⟩
   ·dsimp only;rw[if_neg (by rw[og];exact hk)]
   ·dsimp only at hc;rw[if_pos (yl _),mb] at hc
    subst hc
    have hm:c∈fp k0:=by rw[h8];exact gS
    exact⟨hm,fun g=>g.elim (h.fj k0 _ c he hm).1 fun g=>g.2 rfl⟩
   ·dsimp only;rw[if_pos (yl _)];simp
   ·dsimp only;rw[if_pos (yl _)]
    refine .inr ⟨b,cap,cur,vs,fun _=>[],h1,h2,h3,h4,h5,h6,fun i x j c hx hj=> ?_,by simp⟩
    have fU:i*U.wd ar.τ+j<ar.xs.length*U.wd ar.τ:=fi hx hj
    refine(h7 i x j c hx hj).kB (fun b hb=> .inl hb) fun b' bg=> .inr ?_
    have C6:b'∈(List.range (ar.xs.length*U.wd ar.τ)).flatMap gr:=nF.2 ⟨_,n9.2 fU,bg⟩
    exact⟨by rw[h8];exact e8 _ C6,fun e=>hn.1 (by rw[<-e];exact C6)⟩
 have zx:∀b,F b->F' b/\w.heap[b]? =w.heap[b]? :=fun b hb=>⟨hF b hb,rfl⟩
 have oW:∀k,oQ w w kv kv fp fp' (bR σ) (bR ({σ with nG:=(k0,some (ie.arr ar false))::σ.nG,aR:=k0::σ.aR}:ak U)) k:=by
  intro k
  refine⟨rfl,?_⟩
  by_cases hk:k=k0
  ·left
   subst hk
   simp[bR,yl]
  ·cases hb:bR σ k
   ·right;exact⟨rfl,IF k hk,fun _ _=>rfl⟩
   ·left
    simp only[bR,DW] at hb⊢
    rcases hb with hb|hb
    ·left;rw[Q5,hb,Bool.or_true]
    ·right
     show(dW ((k0,some (ie.arr ar false))::σ.nG) k).isNone=true
     have hq:ik k0 k=false:=J2.2 fun e=>hk e.symm
     simp only[dW,hq,cond_false]
     exact hb
 have wZ:∀k e b,σ.bH k=some e->k≠k0->b∈fp k->¬F' b:=fun k e b hke hk hb bg=>by
  rcases hF2 b bg with g|g
  ·exact(h.fj k e b hke hb).1 g
  ·exact h.apart k k0 e _ b hk hke he hb g
 refine⟨F',fp',⟨h.size,h.defers,fun s x hx=>(h.bx s x hx).move (fun k _=>oW k) zx,fun k e hk=> ?_,fun k k' e e' b d_ h1 h2 hb=> ?_,fun k e hk=> ?_,fun k e b hk hb=> ?_,fun b hb=> ?_,fun b hb=> ?_,h.upto,h.Lg,h.lay.fC zx⟩⟩
 ·rcases rm k e hk with⟨rfl,rfl⟩|⟨d_,hke⟩
  ·exact nq
  ·rw[IF k d_]
   have h1:=h.cW k e hke
   cases e with
   |arr a d=>exact eo.fC h1 zx (fun _ _=>rfl)
   |part a d=>exact dK.fC h1 zx (fun _ _=>rfl)
   |box cs=>
    obtain⟨b,cur,e',g1,g2,g3,g4⟩:=h1
    exact⟨b,cur,e',g1,g2,g3,g4.move (fun _ _ k _=>oW k) zx⟩
 ·rcases rm k e h1 with⟨rfl,_⟩|⟨n1,g1⟩
  ·rcases rm k' e' h2 with⟨rfl,_⟩|⟨n2,g2⟩
   ·exact absurd rfl d_
   ·rw[IF k' n2]
    exact h.apart _ k' _ _ b d_ he g2 (o8 b hb).1
  ·rw[IF k n1] at hb
   rcases rm k' e' h2 with⟨rfl,_⟩|⟨n2,g2⟩
   ·exact fun bg=>h.apart k _ _ _ b d_ g1 he hb (o8 b bg).1
   ·rw[IF k' n2]
    exact h.apart k k' _ _ b d_ g1 g2 hb
 ·rcases rm k e hk with⟨rfl,_⟩|⟨n1,g1⟩
  ·exact o9
  ·rw[IF k n1];exact h.nodup k e g1
 ·rcases rm k e hk with⟨rfl,_⟩|⟨n1,g1⟩
  ·obtain⟨g1,g2⟩:=o8 b hb
   exact⟨g2,(h.fj _ _ b he g1).2⟩
  ·rw[IF k n1] at hb
   exact⟨wZ k e b g1 n1 hb,(h.fj k e b g1 hb).2⟩
 ·rcases hF2 b hb with g|g
  ·exact h.sO b g
  ·exact(h.fj k0 _ b he g).2.2
 ·rcases hF2 b hb with g|g
  ·exact h.sN b g
  ·exact .inr (h.fj k0 _ b he g).2.1
theorem aam:∀{l:List Key}{σ:ak U}{F:Nat->Prop}{fp:Key->List Nat},cG E pm F kv fp σ a w->∃F' fp',cG E pm F' kv fp' (l.foldl (fun σ k=>Cx k σ) σ) a w
 |[],_,F,fp,h=>⟨F,fp,h⟩
 |k::l,σ,F,fp,h=>by
  obtain⟨F1,Zz,h1⟩:=ahH h k
  exact aam (l:=l) h1
theorem aak{l:List Key}(h:cG E pm F kv fp σ a w)(hc:e7 E w F kv fp σ a):∃F' fp',cG E pm F' kv fp' (K3 l σ) a w/\e7 E w F' kv fp' (K3 l σ) a:=by
 cases l with
 |nil=>exact⟨F,fp,h,hc⟩
 |cons k l=>
  obtain⟨F1,Zz,h1⟩:=aam (l:=k::l) h
  exact⟨F1,Zz,FH h1 _,N3 h1 _⟩
end AM
