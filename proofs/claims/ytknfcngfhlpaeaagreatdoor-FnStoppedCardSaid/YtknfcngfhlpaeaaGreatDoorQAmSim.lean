import Derived.Test.YtknfcngfhlpaeaaGreatDoorQAmRep
namespace AM
set_option linter.unusedVariables false
open Go
open Go.RowKit (Below)
variable{U:kz}
theorem og{a b:Key}:ik a b=true↔a=b:=by
 obtain⟨a1,a2⟩:=a;obtain⟨b1,b2⟩:=b
 simp[ik]
theorem yl(a:Key):ik a a=true:=og.2 rfl
theorem J2{a b:Key}:ik a b=false↔a≠b:=by
 rw[<-uO,og]
theorem q_{l:List Key}{k:Key}:l.any (ik k)=true↔k∈l:=by
 simp[tI,og]
structure Pm where
 w0:World
 W:Nat->Prop
 F0:Nat->Prop
 Lg:Key->Option Value
theorem gq.refl(W:Nat->Prop)(w:World):gq W w w:=⟨rfl,rfl,rfl,sB _,fun _ _ _=>rfl⟩
theorem gq.trans{W:Nat->Prop}{a b c:World}(h:gq W a b)(k:gq (fun x=>W x\/a.heap.size<=x) b c):gq W a c:=
 ⟨k.os.trans h.os,k.tape.trans h.tape,k.output.trans h.output,vg h.size k.size,fun i hi hw=>
  (k.block i (Y8 hi h.size) (fun e=>e.elim hw (fun e=>by omega))).trans (h.block i hi hw)⟩
theorem gq.mono{W W':Nat->Prop}{a b:World}(h:gq W a b)(hw:∀i,W i->W' i):gq W' a b:=
 ⟨h.os,h.tape,h.output,h.size,fun i hi hn=>h.block i hi (fun e=>hn (hw i e))⟩
theorem gq.drew(W:Nat->Prop)(w:World):gq W w w.drew:=⟨rfl,rfl,rfl,sB _,fun _ _ _=>rfl⟩
def bR(σ:ak U)(k:Key):Bool:=σ.aR.any (ik k)||(σ.bH k).isNone
def Names(σ:ak U)(k:Key):Prop:=
 (∃s x,σ.get s=some x/\k∈x.keys)\/(∃k' cs,σ.bH k'=some (.box cs)/\∃x∈cs,k∈x.keys)
def Ns(E:Env U)(w:World)(F:Nat->Prop):Prop:=∀p∈E.Rd,F p.1/\∃e r,w.heap[p.1]? =some (.cells p.2 e r)
theorem Ns.fC{E:Env U}{w w':World}{F F':Nat->Prop}(h:Ns E w F)(hF:∀b,F b->F' b/\w'.heap[b]? =w.heap[b]?):Ns E w' F':=by
 intro p hp
 obtain⟨h1,e,r,h2⟩:=h p hp
 exact⟨(hF _ h1).1,e,r,(hF _ h1).2.trans h2⟩
structure cG(E:Env U)(pm:Pm)(F:Nat->Prop)(kv:Key->Value)(fp:Key->List Nat)(σ:ak U)(a:Act)(w:World):Prop where
 size:a.tmps.size=σ.n
 defers:a.defers=[]
 bx:∀s x,σ.get s=some x->RS E w F kv fp (bR σ) x (a.tmps.getD s undef)
 cW:∀k e,σ.bH k=some e->sg E w F kv fp (bR σ) e (kv k) (fp k)
 apart:∀k k' e e' b,k≠k'->σ.bH k=some e->σ.bH k'=some e'->b∈fp k->b∉fp k'
 nodup:∀k e,σ.bH k=some e->(fp k).Nodup
 fj:∀k e b,σ.bH k=some e->b∈fp k->¬F b/\(pm.W b\/pm.w0.heap.size<=b)/\b<w.heap.size
 sO:∀b,F b->b<w.heap.size
 sN:∀b,F b->pm.F0 b\/pm.W b\/pm.w0.heap.size<=b
 upto:gq pm.W pm.w0 w
 Lg:∀k v,pm.Lg k=some v->2000000<=k.1/\k.2<1024/\σ.n<=1000000/\kv k=v
 lay:Ns E w F
section move
variable{E:Env U}{w w':World}{F F':Nat->Prop}{kv kv':Key->Value}{fp fp':Key->List Nat}{bad bad':Key->Bool}
def oQ(w w':World)(kv kv':Key->Value)(fp fp':Key->List Nat)(bad bad':Key->Bool)(k:Key):Prop:=
 kv' k=kv k/\(bad' k=true\/(bad k=false/\fp' k=fp k/\∀b∈fp k,w'.heap[b]? =w.heap[b]?))
theorem aaN{w w':World}{S S':Nat->Prop}{v v':Value}(h:nU w S v [] v'):nU w' S' v [] v':=h
theorem RA.move{x:AC U}{v:Value}(h:RA E w F kv fp x v)(hk:∀k∈x.keys,oQ w w' kv kv' fp fp' bad bad' k)
  (hF:∀b,F b->F' b/\w'.heap[b]? =w.heap[b]?):hJ bad' x=true\/RA E w' F' kv' fp' x v:=by
 cases x with
 |c x=>exact .inr (Rp.fC h hF (by simp))
 |e0=>exact .inr h
 |ref k p=>
  obtain⟨h1,h2⟩:=hk k (by simp[AC.keys])
  simp only[RA,hJ] at h⊢
  cases p with
  |nil=>rw[h1];exact .inr (aaN h)
  |cons s p=>
   rcases h2 with h2|⟨_,h3,h4⟩
   ·exact .inl (by simp[h2])
   ·rw[h1,h3];exact .inr (h.fC (fun b hb=>hb.elim (fun e=>⟨.inl (hF b e).1,(hF b e).2⟩) (fun e=>⟨.inr e,h4 b e⟩)))
 |sub k wd lo hi=>
  obtain⟨h1,h2⟩:=hk k (by simp[AC.keys])
  simp only[RA] at h⊢;rw[h1];exact .inr h
 |kI k p i wd off=>
  obtain⟨h1,h2⟩:=hk k (by simp[AC.keys])
  simp only[RA,hJ] at h⊢
  obtain⟨b,o,n,c,h3,h4⟩:=h
  cases p with
  |nil=>rw[h1];exact .inr ⟨b,o,n,c,aaN h3,h4⟩
  |cons s p=>
   rcases h2 with h2|⟨_,h5,h6⟩
   ·exact .inl (by simp[h2])
   ·rw[h1,h5];exact .inr ⟨b,o,n,c,h3.fC (fun b hb=>hb.elim (fun e=>⟨.inl (hF b e).1,(hF b e).2⟩) (fun e=>⟨.inr e,h6 b e⟩)),h4⟩
 |jU k off=>
  obtain⟨h1,h2⟩:=hk k (by simp[AC.keys])
  simp only[RA] at h⊢;rw[h1];exact .inr h
 |kn b τ xs=>exact .inr ⟨h.1.fC hF (by simp),h.2⟩
 |ia cs=>
  obtain⟨b,o,h1,h2,h3⟩:=h
  refine .inr ⟨b,o,h1,(hF b h2).1,fun j c hj=> ?_⟩
  obtain⟨u,h4,h5⟩:=h3 j c hj
  refine⟨u,?_,h5.fC hF (by simp)⟩
  rw[World.cell?_of_block (w:=w) (a:=⟨b,o+j,none⟩) (hF b h2).2];exact h4
theorem RD.move{x:AC U}{v:Value}(h:RD E w F kv fp bad x v)(hk:∀k∈x.keys,oQ w w' kv kv' fp fp' bad bad' k)
  (hF:∀b,F b->F' b/\w'.heap[b]? =w.heap[b]?):RD E w' F' kv' fp' bad' x v:=by
 refine⟨h.1,?_⟩
 rcases h.2 with h2|h2
 ·refine .inl ?_
  cases x<;>simp only[hJ,cH] at h2⊢<;>try (cases h2;done)
  all_goals
   obtain⟨_,h3⟩:=hk _ (mb.2 rfl)
   refine⟨h2.1,?_⟩
   rcases h3 with h3|h3
   ·exact h3
   ·rw[h3.1] at h2;simp at h2
 ·exact h2.move hk hF
theorem kU.move{xs:List (AC U)}{vs:List Value}(h:kU E w F kv fp bad xs vs)(hk:∀x∈xs,∀k∈x.keys,oQ w w' kv kv' fp fp' bad bad' k)
  (hF:∀b,F b->F' b/\w'.heap[b]? =w.heap[b]?):kU E w' F' kv' fp' bad' xs vs:=
 ⟨h.1,fun i x v hx hv=>(h.2 i x v hx hv).move (hk x (Em hx)) hF⟩
theorem RV.move{x:AV U}{v:Value}(h:RV E w F kv fp bad x v)(hk:∀y∈x.cs,∀k∈y.keys,oQ w w' kv kv' fp fp' bad bad' k)
  (hF:∀b,F b->F' b/\w'.heap[b]? =w.heap[b]?):RV E w' F' kv' fp' bad' x v:=by
 obtain⟨vs,h1,h2⟩:=h
 exact⟨vs,h1.move hk hF,h2⟩
theorem SV.mem_keys{x:SV U}{k:Key}:k∈x.keys↔∃y∈x.Ax,k∈y.keys:=by simp[SV.keys]
theorem RS.move{x:SV U}{v:Value}(h:RS E w F kv fp bad x v)(hk:∀k∈x.keys,oQ w w' kv kv' fp fp' bad bad' k)
  (hF:∀b,F b->F' b/\w'.heap[b]? =w.heap[b]?):RS E w' F' kv' fp' bad' x v:=by
 cases x with
 |v x=>exact RV.move h (fun y hy k C8=>hk k (SV.mem_keys.2 ⟨y,hy,C8⟩)) hF
 |uZ xs=>
  obtain⟨vs,h1,h2,h3⟩:=h
  refine⟨vs,h1,h2,fun i x u hx hu=>(h3 i x u hx hu).move (fun y hy k C8=>hk k (SV.mem_keys.2 ⟨y,?_,C8⟩)) hF⟩
  exact nF.2 ⟨x,Em hx,hy⟩
 |fn p=>exact mP.fC h hF
 |Ff g xs=>
  obtain⟨vs,h1,h2,h3⟩:=h
  refine⟨vs,h1,h2,fun i x u hx hu=>(h3 i x u hx hu).move (fun y hy k C8=>hk k (SV.mem_keys.2 ⟨y,?_,C8⟩)) hF⟩
  exact nF.2 ⟨x,Em hx,hy⟩
end move
theorem FI(o:Oper)(r:bX U)(σ:ak U)(s:Nat):
  (apply o r σ).get s=match o.dst with|some d=>if d=s then r.val else σ.get s|none=>σ.get s:=by
 unfold ak.get apply
 cases o.dst with
 |none=>rfl
 |some d=>
  simp only[look]
  by_cases h:d=s
  ·subst h;simp
  ·simp only[h,if_false]
   cases hb:Nat.beq d s
   ·rfl
   ·exact absurd (mc hb) h
theorem D7{β:Type}(l r:List (Key×Option β))(k:Key):dW (l++r) k=if l.any (fun p=>ik p.1 k) then dW l k else dW r k:=by
 induction l with
 |nil=>simp
 |cons p l ih=>
  obtain⟨t,v⟩:=p
  simp only[VR,dW,Q5]
  rcases Bool.eq_false_or_eq_true (ik t k) with h|h
  ·simp[h]
  ·simp only[h,cond_false,Fw];exact ih
def dk(o:Oper)(r:bX U):List Key:=r.dk.map fun(j,_)=>(o.dst.getD 1000000,j)
def jh(r:bX U):List Key:=r.jh.map (·.1)
theorem WY(o:Oper)(r:bX U)(σ:ak U)(k:Key)(h1:k∉dk o r)(h2:k∉jh r)(h3:k∉r.kE):
  (apply o r σ).bH k=σ.bH k:=by
 unfold ak.bH apply
 simp only[we]
 rw[D7,if_neg,D7,if_neg,D7,if_neg]
 ·intro h
  simp only[Nx,tI,Function.comp] at h
  obtain⟨x,hx,hk⟩:=h
  exact h3 (by rw[<-og.1 hk];exact hx)
 ·intro h
  simp only[Nx,tI,Function.comp] at h
  obtain⟨x,hx,hk⟩:=h
  exact h2 (by rw[<-og.1 hk];exact kW.2 ⟨x,hx,rfl⟩)
 ·intro h
  simp only[ol,Nx,tI,Function.comp] at h
  obtain⟨x,hx,hk⟩:=h
  exact h1 (by rw[<-og.1 hk];exact kW.2 ⟨x,hx,rfl⟩)
theorem aiJ{β:Type}(l:List Key)(k:Key):dW (l.map fun k=>(k,(none:Option β))) k=none:=by
 induction l with
 |nil=>rfl
 |cons a l ih=>simp only[sS,dW];cases ik a k<;>simp[ih]
theorem W0(o:Oper)(r:bX U)(σ:ak U)(k:Key)(h1:k∉dk o r)(h2:k∉jh r)(h3:k∈r.kE):
  (apply o r σ).bH k=none:=by
 unfold ak.bH apply
 simp only[we]
 rw[D7,if_neg,D7,if_neg,D7,if_pos,aiJ]
 ·simp only[Nx,tI,Function.comp]
  exact⟨k,h3,yl k⟩
 ·intro h
  simp only[Nx,tI,Function.comp] at h
  obtain⟨x,hx,hk⟩:=h
  exact h2 (by rw[<-og.1 hk];exact kW.2 ⟨x,hx,rfl⟩)
 ·intro h
  simp only[ol,Nx,tI,Function.comp] at h
  obtain⟨x,hx,hk⟩:=h
  exact h1 (by rw[<-og.1 hk];exact kW.2 ⟨x,hx,rfl⟩)
theorem D6{β:Type}{l:List (Key×Option β)}{k:Key}{e:β}(h:dW l k=some e):(k,some e)∈l:=by
 induction l with
 |nil=>cases h
 |cons p l ih=>
  obtain⟨t,v⟩:=p
  simp only[dW] at h
  cases ht:ik t k<;>simp only[ht,cond_true,cond_false] at h
  ·exact e8 _ (ih h)
  ·rw[<-og.1 ht,h];exact gS
theorem WZ(o:Oper)(r:bX U)(σ:ak U)(k:Key)(e:ie U)(h:(apply o r σ).bH k=some e)(hk:k∈dk o r\/k∈jh r):
  (∃j,k=(o.dst.getD 1000000,j)/\(j,e)∈r.dk)\/(k,e)∈r.jh:=by
 unfold ak.bH apply at h
 simp only[we] at h
 rw[D7] at h
 split at h
 ·have:=D6 h
  simp only[ol,kW,nT,fM] at this
  obtain⟨⟨j,e'⟩,hm,rfl,rfl⟩:=this
  exact .inl ⟨j,rfl,hm⟩
 ·rename_i QW
  have hu:k∈jh r:=by
   refine hk.resolve_left (fun ha=>QW ?_)
   simp only[dk,kW] at ha
   obtain⟨x,hx,rfl⟩:=ha
   simp only[ol,Nx,tI,Function.comp]
   exact⟨x,hx,yl _⟩
  rw[D7,if_pos] at h
  ·have:=D6 h
   simp only[kW,nT,fM] at this
   obtain⟨⟨k',e'⟩,hm,rfl,rfl⟩:=this
   exact .inr hm
  ·simp only[jh,kW] at hu
   obtain⟨x,hx,rfl⟩:=hu
   simp only[Nx,tI,Function.comp]
   exact⟨x,hx,yl _⟩
theorem aiT(a:Act)(d:Nat)(v:Value)(hd:d<a.tmps.size):(a.put (some d) v).tmps.getD d undef=v:=by
 simp[Act.put,NB,hd]
theorem aiU(a:Act)(d s:Nat)(v:Value)(hd:d≠s):(a.put (some d) v).tmps.getD s undef=a.tmps.getD s undef:=by
 simp[Act.put,NB,Array.getElem?_setIfInBounds_ne hd]
theorem ahG(a:Act)(d:Option Nat)(v:Value):(a.put d v).tmps.size=a.tmps.size:=by cases d<;>simp[Act.put]
theorem ajk(a:Act)(d:Option Nat)(v:Value):(a.put d v).defers=a.defers:=by cases d<;>simp[Act.put]
theorem cG.apply{E:Env U}{pm:Pm}{F F':Nat->Prop}{kv kv':Key->Value}{fp fp':Key->List Nat}{σ:ak U}{a:Act}{w w':World}
  (h:cG E pm F kv fp σ a w) (o:Oper) (r:bX U) (v:Value)
  (hd:∀d,o.dst=some d->d<σ.n)
  (MG:∀sv,r.val=some sv->RS E w' F' kv' fp' (bR (AM.apply o r σ)) sv v)
  (MR:∀k,k∉dk o r->kv' k=kv k)
  (rl:∀k,k∉dk o r->k∉jh r->fp' k=fp k)
  (Yg:∀k∈dk o r,¬Names σ k)
  (hF:∀b,F b->F' b/\w'.heap[b]? =w.heap[b]?)
  (iN:∀k e,k∉dk o r->k∉jh r->k∉r.kE->σ.bH k=some e->∀b∈fp k,w'.heap[b]? =w.heap[b]?)
  (Ga:∀k e,((∃j,k=(o.dst.getD 1000000,j)/\(j,e)∈r.dk)\/(k,e)∈r.jh)->sg E w' F' kv' fp' (bR (AM.apply o r σ)) e (kv' k) (fp' k)/\(fp' k).Nodup/\
   ∀b∈fp' k,¬F' b/\(pm.W b\/pm.w0.heap.size<=b)/\b<w'.heap.size)
  (wZ:∀k e b,k∉dk o r->k∉jh r->k∉r.kE->σ.bH k=some e->b∈fp k->¬F' b)
  (Py:∀k k' b,k≠k'->(k∈dk o r\/k∈jh r)->(k'∈dk o r\/k'∈jh r\/(k'∉r.kE/\(σ.bH k').isSome))->b∈fp' k->b∉fp' k')
  (akv:∀b,F' b->b<w'.heap.size) (ab6:∀b,F' b->pm.F0 b\/pm.W b\/pm.w0.heap.size<=b)
  (oV:gq pm.W pm.w0 w') (tU:w.heap.size<=w'.heap.size):
  cG E pm F' kv' fp' (AM.apply o r σ) (a.put o.dst v) w':=by
 have oW:∀k,Names σ k->oQ w w' kv kv' fp fp' (bR σ) (bR (AM.apply o r σ)) k:=by
  intro k hn
  have QW:k∉dk o r:=fun e=>Yg k e hn
  refine⟨MR k QW,?_⟩
  by_cases hu:k∈jh r
  ·left
   have:(AM.apply o r σ).aR.any (ik k)=true:=q_.2 (by simp only[AM.apply,jE];exact .inl hu)
   simp[bR,this]
  ·by_cases hk:k∈r.kE
   ·left
    simp[bR,W0 o r σ k QW hu hk]
   ·have he:=WY o r σ k QW hu hk
    have Kl:(AM.apply o r σ).aR.any (ik k)=σ.aR.any (ik k):=by
     rw[DX,q_,q_]
     simp only[AM.apply,jE]
     exact⟨fun e=>e.resolve_left hu,.inr⟩
    cases hb:bR σ k
    ·right
     refine⟨rfl,rl k QW hu,?_⟩
     simp only[bR,Nl] at hb
     obtain⟨e,hee⟩:∃e,σ.bH k=some e:=by
      cases hx:σ.bH k with
      |none=>rw[hx] at hb;simp at hb
      |some e=>exact⟨e,rfl⟩
     exact iN k e QW hu hk hee
    ·left
     simp only[bR] at hb⊢
     rw[he,Kl];exact hb
 have hold:∀k e,(AM.apply o r σ).bH k=some e->k∉dk o r->k∉jh r->k∉r.kE/\σ.bH k=some e:=by
  intro k e he h1 h2
  by_cases hk:k∈r.kE
  ·rw[W0 o r σ k h1 h2 hk] at he;cases he
  ·exact⟨hk,by rw[<-WY o r σ k h1 h2 hk];exact he⟩
 refine⟨?_,?_,?_,?_,?_,?_,?_,akv,ab6,oV,fun k v hpk=> ?_,h.lay.fC hF⟩
 rotate_left 7
 ·obtain⟨p1,p2,p3,p4⟩:=h.Lg k v hpk
  refine⟨p1,p2,p3,(MR k fun hk=> ?_).trans p4⟩
  simp only[dk,kW] at hk
  obtain⟨t,_,rfl⟩:=hk
  cases yI:o.dst with
  |none=>rw[yI] at p1;simp at p1
  |some d=>
   rw[yI] at p1
   have h1:d<σ.n:=hd d yI
   have h2:2000000<=d:=p1
   exact Nat.lt_irrefl _ (Y8 (Y8 h1 p3) (vg (by decide:1000000<=2000000) h2))
 ·rw[ahG];exact h.size
 ·rw[ajk];exact h.defers
 ·intro s x hs
  rw[FI] at hs
  cases yI:o.dst with
  |none=>
   rw[yI] at hs
   exact(h.bx s x hs).move (fun k hk=>oW k (.inl ⟨s,x,hs,hk⟩)) hF
  |some d=>
   rw[yI] at hs
   simp only at hs
   by_cases Gj:d=s
   ·rw[if_pos Gj] at hs
    subst Gj
    rw[aiT _ _ _ (by rw[h.size];exact hd d yI)]
    exact MG x hs
   ·rw[if_neg Gj] at hs
    rw[aiU _ _ _ _ Gj]
    exact(h.bx s x hs).move (fun k hk=>oW k (.inl ⟨s,x,hs,hk⟩)) hF
 ·intro k e he
  by_cases hn:k∈dk o r\/k∈jh r
  ·exact(Ga k e (WZ o r σ k e he hn)).1
  ·simp only[not_or] at hn
   obtain⟨hk,ew⟩:=hold k e he hn.1 hn.2
   have h0:=h.cW k e ew
   rw[MR k hn.1,rl k hn.1 hn.2]
   cases e with
   |arr x deep=>exact eo.fC h0 hF (fun b hb=>iN k _ hn.1 hn.2 hk ew b hb)
   |part x dead=>exact dK.fC h0 hF (fun b hb=>iN k _ hn.1 hn.2 hk ew b hb)
   |box cs=>
    obtain⟨b,cur,e',h1,h2,h3,h4⟩:=h0
    refine⟨b,cur,e',h1,?_,h3,h4.move (fun x hx k' cK=>oW k' (.inr ⟨k,cs,ew,x,hx,cK⟩)) hF⟩
    rw[iN k _ hn.1 hn.2 hk ew b (by simp[h3])];exact h2
 ·intro k k' e e' b d_ he ew hb
  by_cases hn:k∈dk o r\/k∈jh r
  ·refine Py k k' b d_ hn ?_ hb
   by_cases uS:k'∈dk o r\/k'∈jh r
   ·exact uS.elim .inl (fun e=> .inr (.inl e))
   ·simp only[not_or] at uS
    obtain⟨hk,C_⟩:=hold k' e' ew uS.1 uS.2
    exact .inr (.inr ⟨hk,by simp[C_]⟩)
  ·have Sm:=hn
   simp only[not_or] at hn
   obtain⟨hk,mD⟩:=hold k e he hn.1 hn.2
   by_cases uS:k'∈dk o r\/k'∈jh r
   ·intro bg
    exact Py k' k b (Ne.symm d_) uS (.inr (.inr ⟨hk,by simp[mD]⟩)) bg hb
   ·simp only[not_or] at uS
    obtain⟨cK,Yl⟩:=hold k' e' ew uS.1 uS.2
    rw[rl k hn.1 hn.2] at hb
    rw[rl k' uS.1 uS.2]
    exact h.apart k k' e e' b d_ mD Yl hb
 ·intro k e he
  by_cases hn:k∈dk o r\/k∈jh r
  ·exact(Ga k e (WZ o r σ k e he hn)).2.1
  ·simp only[not_or] at hn
   obtain⟨hk,mD⟩:=hold k e he hn.1 hn.2
   rw[rl k hn.1 hn.2];exact h.nodup k e mD
 ·intro k e b he hb
  by_cases hn:k∈dk o r\/k∈jh r
  ·exact(Ga k e (WZ o r σ k e he hn)).2.2 b hb
  ·simp only[not_or] at hn
   obtain⟨hk,mD⟩:=hold k e he hn.1 hn.2
   rw[rl k hn.1 hn.2] at hb
   obtain⟨h1,h2,h3⟩:=h.fj k e b mD hb
   exact⟨wZ k e b hn.1 hn.2 hk mD hb,h2,by omega⟩
end AM
