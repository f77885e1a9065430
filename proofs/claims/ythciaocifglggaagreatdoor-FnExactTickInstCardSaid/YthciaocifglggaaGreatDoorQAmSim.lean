import Derived.Test.YthciaocifglggaaGreatDoorQAmRep
namespace AM
set_option linter.unusedVariables false
open Go
open Go.RowKit (Below)
variable{U:kz}
theorem nK{a b:Key}:iw a b=true↔a=b:=by
 obtain⟨a1,a2⟩:=a;obtain⟨b1,b2⟩:=b
 simp[iw]
theorem wR(a:Key):iw a a=true:=nK.2 rfl
theorem HY{a b:Key}:iw a b=false↔a≠b:=by
 rw[<-uK,nK]
theorem qe{l:List Key}{k:Key}:l.any (iw k)=true↔k∈l:=by
 simp[sA,nK]
structure Pm where
 w0:World
 W:Nat->Prop
 F0:Nat->Prop
 Ji:Key->Option Value
theorem gy.refl(W:Nat->Prop)(w:World):gy W w w:=⟨rfl,rfl,rfl,tB _,fun _ _ _=>rfl⟩
theorem gy.trans{W:Nat->Prop}{a b c:World}(h:gy W a b)(k:gy (fun x=>W x\/a.heap.size<=x) b c):gy W a c:=
 ⟨k.os.trans h.os,k.tape.trans h.tape,k.output.trans h.output,BU h.size k.size,fun i hi hw=>
  (k.block i (Y' hi h.size) (fun e=>e.elim hw (fun e=>by omega))).trans (h.block i hi hw)⟩
theorem gy.mono{W W':Nat->Prop}{a b:World}(h:gy W a b)(hw:∀i,W i->W' i):gy W' a b:=
 ⟨h.os,h.tape,h.output,h.size,fun i hi hn=>h.block i hi (fun e=>hn (hw i e))⟩
theorem gy.drew(W:Nat->Prop)(w:World):gy W w w.drew:=⟨rfl,rfl,rfl,tB _,fun _ _ _=>rfl⟩
def bW(σ:af U)(k:Key):Bool:=σ.aC.any (iw k)||(σ.bH k).isNone
def Names(σ:af U)(k:Key):Prop:=
 (∃s x,σ.get s=some x/\k∈x.keys)\/(∃k' cs,σ.bH k'=some (.box cs)/\∃x∈cs,k∈x.keys)
def Lj(E:Env U)(w:World)(F:Nat->Prop):Prop:=∀p∈E.O',F p.1/\∃e r,w.heap[p.1]? =some (.cells p.2 e r)
theorem Lj.fE{E:Env U}{w w':World}{F F':Nat->Prop}(h:Lj E w F)(hF:∀b,F b->F' b/\w'.heap[b]? =w.heap[b]?):Lj E w' F':=by
 intro p hp
 obtain⟨h1,e,r,h2⟩:=h p hp
 exact⟨(hF _ h1).1,e,r,(hF _ h1).2.trans h2⟩
structure cG(E:Env U)(pm:Pm)(F:Nat->Prop)(kv:Key->Value)(fp:Key->List Nat)(σ:af U)(a:Act)(w:World):Prop where
 size:a.tmps.size=σ.n
 defers:a.defers=[]
 bp:∀s x,σ.get s=some x->RS E w F kv fp (bW σ) x (a.tmps.getD s undef)
 cV:∀k e,σ.bH k=some e->ri E w F kv fp (bW σ) e (kv k) (fp k)
 apart:∀k k' e e' b,k≠k'->σ.bH k=some e->σ.bH k'=some e'->b∈fp k->b∉fp k'
 nodup:∀k e,σ.bH k=some e->(fp k).Nodup
 ff:∀k e b,σ.bH k=some e->b∈fp k->¬F b/\(pm.W b\/pm.w0.heap.size<=b)/\b<w.heap.size
 rI:∀b,F b->b<w.heap.size
 rH:∀b,F b->pm.F0 b\/pm.W b\/pm.w0.heap.size<=b
 upto:gy pm.W pm.w0 w
 Ji:∀k v,pm.Ji k=some v->2000000<=k.1/\k.2<1024/\σ.n<=1000000/\kv k=v
 lay:Lj E w F
section move
variable{E:Env U}{w w':World}{F F':Nat->Prop}{kv kv':Key->Value}{fp fp':Key->List Nat}{bad bad':Key->Bool}
def n8(w w':World)(kv kv':Key->Value)(fp fp':Key->List Nat)(bad bad':Key->Bool)(k:Key):Prop:=
 kv' k=kv k/\(bad' k=true\/(bad k=false/\fp' k=fp k/\∀b∈fp k,w'.heap[b]? =w.heap[b]?))
theorem aaQ{w w':World}{S S':Nat->Prop}{v v':Value}(h:nq w S v [] v'):nq w' S' v [] v':=h
theorem RA.move{x:AC U}{v:Value}(h:RA E w F kv fp x v)(hk:∀k∈x.keys,n8 w w' kv kv' fp fp' bad bad' k)
  (hF:∀b,F b->F' b/\w'.heap[b]? =w.heap[b]?):io bad' x=true\/RA E w' F' kv' fp' x v:=by
 cases x with
 |c x=>exact .inr (Rp.fE h hF (by simp))
 |e0=>exact .inr h
 |ref k p=>
  obtain⟨h1,h2⟩:=hk k (by simp[AC.keys])
  simp only[RA,io] at h⊢
  cases p with
  |nil=>rw[h1];exact .inr (aaQ h)
  |cons s p=>
   rcases h2 with h2|⟨_,h3,h4⟩
   ·exact .inl (by simp[h2])
   ·rw[h1,h3];exact .inr (h.fE (fun b hb=>hb.elim (fun e=>⟨.inl (hF b e).1,(hF b e).2⟩) (fun e=>⟨.inr e,h4 b e⟩)))
 |sub k wd lo hi=>
  obtain⟨h1,h2⟩:=hk k (by simp[AC.keys])
  simp only[RA] at h⊢;rw[h1];exact .inr h
 |kM k p i wd off=>
  obtain⟨h1,h2⟩:=hk k (by simp[AC.keys])
  simp only[RA,io] at h⊢
  obtain⟨b,o,n,c,h3,h4⟩:=h
  cases p with
  |nil=>rw[h1];exact .inr ⟨b,o,n,c,aaQ h3,h4⟩
  |cons s p=>
   rcases h2 with h2|⟨_,h5,h6⟩
   ·exact .inl (by simp[h2])
   ·rw[h1,h5];exact .inr ⟨b,o,n,c,h3.fE (fun b hb=>hb.elim (fun e=>⟨.inl (hF b e).1,(hF b e).2⟩) (fun e=>⟨.inr e,h6 b e⟩)),h4⟩
 |j0 k off=>
  obtain⟨h1,h2⟩:=hk k (by simp[AC.keys])
  simp only[RA] at h⊢;rw[h1];exact .inr h
 |kn b τ xs=>exact .inr ⟨h.1.fE hF (by simp),h.2⟩
 |ia cs=>
  obtain⟨b,o,h1,h2,h3⟩:=h
  refine .inr ⟨b,o,h1,(hF b h2).1,fun j c hj=> ?_⟩
  obtain⟨u,h4,h5⟩:=h3 j c hj
  refine⟨u,?_,h5.fE hF (by simp)⟩
  rw[World.cell?_of_block (w:=w) (a:=⟨b,o+j,none⟩) (hF b h2).2];exact h4
theorem RD.move{x:AC U}{v:Value}(h:RD E w F kv fp bad x v)(hk:∀k∈x.keys,n8 w w' kv kv' fp fp' bad bad' k)
  (hF:∀b,F b->F' b/\w'.heap[b]? =w.heap[b]?):RD E w' F' kv' fp' bad' x v:=by
 refine⟨h.1,?_⟩
 rcases h.2 with h2|h2
 ·refine .inl ?_
  cases x<;>simp only[io,eE] at h2⊢<;>try (cases h2;done)
  all_goals
   obtain⟨_,h3⟩:=hk _ (oa.2 rfl)
   refine⟨h2.1,?_⟩
   rcases h3 with h3|h3
   ·exact h3
   ·rw[h3.1] at h2;simp at h2
 ·exact h2.move hk hF
theorem kX.move{xs:List (AC U)}{vs:List Value}(h:kX E w F kv fp bad xs vs)(hk:∀x∈xs,∀k∈x.keys,n8 w w' kv kv' fp fp' bad bad' k)
  (hF:∀b,F b->F' b/\w'.heap[b]? =w.heap[b]?):kX E w' F' kv' fp' bad' xs vs:=
 ⟨h.1,fun i x v hx hv=>(h.2 i x v hx hv).move (hk x (Cs hx)) hF⟩
theorem RV.move{x:AV U}{v:Value}(h:RV E w F kv fp bad x v)(hk:∀y∈x.cs,∀k∈y.keys,n8 w w' kv kv' fp fp' bad bad' k)
  (hF:∀b,F b->F' b/\w'.heap[b]? =w.heap[b]?):RV E w' F' kv' fp' bad' x v:=by
 obtain⟨vs,h1,h2⟩:=h
 exact⟨vs,h1.move hk hF,h2⟩
theorem SV.mem_keys{x:SV U}{k:Key}:k∈x.keys↔∃y∈x.yL,k∈y.keys:=by simp[SV.keys]
theorem RS.move{x:SV U}{v:Value}(h:RS E w F kv fp bad x v)(hk:∀k∈x.keys,n8 w w' kv kv' fp fp' bad bad' k)
  (hF:∀b,F b->F' b/\w'.heap[b]? =w.heap[b]?):RS E w' F' kv' fp' bad' x v:=by
 cases x with
 |v x=>exact RV.move h (fun y hy k lT=>hk k (SV.mem_keys.2 ⟨y,hy,lT⟩)) hF
 |tJ xs=>
  obtain⟨vs,h1,h2,h3⟩:=h
  refine⟨vs,h1,h2,fun i x u hx hu=>(h3 i x u hx hu).move (fun y hy k lT=>hk k (SV.mem_keys.2 ⟨y,?_,lT⟩)) hF⟩
  exact nl.2 ⟨x,Cs hx,hy⟩
 |fn p=>exact mh.fE h hF
 |Db g xs=>
  obtain⟨vs,h1,h2,h3⟩:=h
  refine⟨vs,h1,h2,fun i x u hx hu=>(h3 i x u hx hu).move (fun y hy k lT=>hk k (SV.mem_keys.2 ⟨y,?_,lT⟩)) hF⟩
  exact nl.2 ⟨x,Cs hx,hy⟩
end move
theorem DC(o:Oper)(r:ch U)(σ:af U)(s:Nat):
  (apply o r σ).get s=match o.dst with|some d=>if d=s then r.val else σ.get s|none=>σ.get s:=by
 unfold af.get apply
 cases o.dst with
 |none=>rfl
 |some d=>
  simp only[look]
  by_cases h:d=s
  ·subst h;simp
  ·simp only[h,if_false]
   cases hb:Nat.beq d s
   ·rfl
   ·exact absurd (lN hb) h
theorem B9{β:Type}(l r:List (Key×Option β))(k:Key):eo (l++r) k=if l.any (fun p=>iw p.1 k) then eo l k else eo r k:=by
 induction l with
 |nil=>simp
 |cons p l ih=>
  obtain⟨t,v⟩:=p
  simp only[Zu,eo,UO]
  rcases Bool.eq_false_or_eq_true (iw t k) with h|h
  ·simp[h]
  ·simp only[h,cond_false,Hv];exact ih
def du(o:Oper)(r:ch U):List Key:=r.du.map fun(j,_)=>(o.dst.getD 1000000,j)
def jp(r:ch U):List Key:=r.jp.map (·.1)
theorem Wy(o:Oper)(r:ch U)(σ:af U)(k:Key)(h1:k∉du o r)(h2:k∉jp r)(h3:k∉r.kH):
  (apply o r σ).bH k=σ.bH k:=by
 unfold af.bH apply
 simp only[xu]
 rw[B9,if_neg,B9,if_neg,B9,if_neg]
 ·intro h
  simp only[Ll,sA,Function.comp] at h
  obtain⟨x,hx,hk⟩:=h
  exact h3 (by rw[<-nK.1 hk];exact hx)
 ·intro h
  simp only[Ll,sA,Function.comp] at h
  obtain⟨x,hx,hk⟩:=h
  exact h2 (by rw[<-nK.1 hk];exact lH.2 ⟨x,hx,rfl⟩)
 ·intro h
  simp only[nN,Ll,sA,Function.comp] at h
  obtain⟨x,hx,hk⟩:=h
  exact h1 (by rw[<-nK.1 hk];exact lH.2 ⟨x,hx,rfl⟩)
theorem akP{β:Type}(l:List Key)(k:Key):eo (l.map fun k=>(k,(none:Option β))) k=none:=by
 induction l with
 |nil=>rfl
 |cons a l ih=>simp only[tI,eo];cases iw a k<;>simp[ih]
theorem WA(o:Oper)(r:ch U)(σ:af U)(k:Key)(h1:k∉du o r)(h2:k∉jp r)(h3:k∈r.kH):
  (apply o r σ).bH k=none:=by
 unfold af.bH apply
 simp only[xu]
 rw[B9,if_neg,B9,if_neg,B9,if_pos,akP]
 ·simp only[Ll,sA,Function.comp]
  exact⟨k,h3,wR k⟩
 ·intro h
  simp only[Ll,sA,Function.comp] at h
  obtain⟨x,hx,hk⟩:=h
  exact h2 (by rw[<-nK.1 hk];exact lH.2 ⟨x,hx,rfl⟩)
 ·intro h
  simp only[nN,Ll,sA,Function.comp] at h
  obtain⟨x,hx,hk⟩:=h
  exact h1 (by rw[<-nK.1 hk];exact lH.2 ⟨x,hx,rfl⟩)
theorem B8{β:Type}{l:List (Key×Option β)}{k:Key}{e:β}(h:eo l k=some e):(k,some e)∈l:=by
 induction l with
 |nil=>cases h
 |cons p l ih=>
  obtain⟨t,v⟩:=p
  simp only[eo] at h
  cases ht:iw t k<;>simp only[ht,cond_true,cond_false] at h
  ·exact bi _ (ih h)
  ·rw[<-nK.1 ht,h];exact dw
theorem Wz(o:Oper)(r:ch U)(σ:af U)(k:Key)(e:ir U)(h:(apply o r σ).bH k=some e)(hk:k∈du o r\/k∈jp r):
  (∃j,k=(o.dst.getD 1000000,j)/\(j,e)∈r.du)\/(k,e)∈r.jp:=by
 unfold af.bH apply at h
 simp only[xu] at h
 rw[B9] at h
 split at h
 ·have:=B8 h
  simp only[nN,lH,nE,fJ] at this
  obtain⟨⟨j,e'⟩,hm,rfl,rfl⟩:=this
  exact .inl ⟨j,rfl,hm⟩
 ·rename_i OR
  have hu:k∈jp r:=by
   refine hk.resolve_left (fun ha=>OR ?_)
   simp only[du,lH] at ha
   obtain⟨x,hx,rfl⟩:=ha
   simp only[nN,Ll,sA,Function.comp]
   exact⟨x,hx,wR _⟩
  rw[B9,if_pos] at h
  ·have:=B8 h
   simp only[lH,nE,fJ] at this
   obtain⟨⟨k',e'⟩,hm,rfl,rfl⟩:=this
   exact .inr hm
  ·simp only[jp,lH] at hu
   obtain⟨x,hx,rfl⟩:=hu
   simp only[Ll,sA,Function.comp]
   exact⟨x,hx,wR _⟩
theorem akZ(a:Act)(d:Nat)(v:Value)(hd:d<a.tmps.size):(a.put (some d) v).tmps.getD d undef=v:=by
 simp[Act.put,Lr,hd]
theorem ak0(a:Act)(d s:Nat)(v:Value)(hd:d≠s):(a.put (some d) v).tmps.getD s undef=a.tmps.getD s undef:=by
 simp[Act.put,Lr,Array.getElem?_setIfInBounds_ne hd]
theorem ajN(a:Act)(d:Option Nat)(v:Value):(a.put d v).tmps.size=a.tmps.size:=by cases d<;>simp[Act.put]
theorem alr(a:Act)(d:Option Nat)(v:Value):(a.put d v).defers=a.defers:=by cases d<;>simp[Act.put]
theorem cG.apply{E:Env U}{pm:Pm}{F F':Nat->Prop}{kv kv':Key->Value}{fp fp':Key->List Nat}{σ:af U}{a:Act}{w w':World}
  (h:cG E pm F kv fp σ a w) (o:Oper) (r:ch U) (v:Value)
  (hd:∀d,o.dst=some d->d<σ.n)
  (Gq:∀sv,r.val=some sv->RS E w' F' kv' fp' (bW (AM.apply o r σ)) sv v)
  (KL:∀k,k∉du o r->kv' k=kv k)
  (qn:∀k,k∉du o r->k∉jp r->fp' k=fp k)
  (XQ:∀k∈du o r,¬Names σ k)
  (hF:∀b,F b->F' b/\w'.heap[b]? =w.heap[b]?)
  (jq:∀k e,k∉du o r->k∉jp r->k∉r.kH->σ.bH k=some e->∀b∈fp k,w'.heap[b]? =w.heap[b]?)
  (D0:∀k e,((∃j,k=(o.dst.getD 1000000,j)/\(j,e)∈r.du)\/(k,e)∈r.jp)->ri E w' F' kv' fp' (bW (AM.apply o r σ)) e (kv' k) (fp' k)/\(fp' k).Nodup/\
   ∀b∈fp' k,¬F' b/\(pm.W b\/pm.w0.heap.size<=b)/\b<w'.heap.size)
  (vo:∀k e b,k∉du o r->k∉jp r->k∉r.kH->σ.bH k=some e->b∈fp k->¬F' b)
  (Ny:∀k k' b,k≠k'->(k∈du o r\/k∈jp r)->(k'∈du o r\/k'∈jp r\/(k'∉r.kH/\(σ.bH k').isSome))->b∈fp' k->b∉fp' k')
  (amy:∀b,F' b->b<w'.heap.size) (ab4:∀b,F' b->pm.F0 b\/pm.W b\/pm.w0.heap.size<=b)
  (ob:gy pm.W pm.w0 w') (sL:w.heap.size<=w'.heap.size):
  cG E pm F' kv' fp' (AM.apply o r σ) (a.put o.dst v) w':=by
 have pZ:∀k,Names σ k->n8 w w' kv kv' fp fp' (bW σ) (bW (AM.apply o r σ)) k:=by
  intro k hn
  have OR:k∉du o r:=fun e=>XQ k e hn
  refine⟨KL k OR,?_⟩
  by_cases hu:k∈jp r
  ·left
   have:(AM.apply o r σ).aC.any (iw k)=true:=qe.2 (by simp only[AM.apply,kA];exact .inl hu)
   simp[bW,this]
  ·by_cases hk:k∈r.kH
   ·left
    simp[bW,WA o r σ k OR hu hk]
   ·have he:=Wy o r σ k OR hu hk
    have Io:(AM.apply o r σ).aC.any (iw k)=σ.aC.any (iw k):=by
     rw[FG,qe,qe]
     simp only[AM.apply,kA]
     exact⟨fun e=>e.resolve_left hu,.inr⟩
    cases hb:bW σ k
    ·right
     refine⟨rfl,qn k OR hu,?_⟩
     simp only[bW,Ld] at hb
     obtain⟨e,hee⟩:∃e,σ.bH k=some e:=by
      cases hx:σ.bH k with
      |none=>rw[hx] at hb;simp at hb
      |some e=>exact⟨e,rfl⟩
     exact jq k e OR hu hk hee
    ·left
     simp only[bW] at hb⊢
     rw[he,Io];exact hb
 have hold:∀k e,(AM.apply o r σ).bH k=some e->k∉du o r->k∉jp r->k∉r.kH/\σ.bH k=some e:=by
  intro k e he h1 h2
  by_cases hk:k∈r.kH
  ·rw[WA o r σ k h1 h2 hk] at he;cases he
  ·exact⟨hk,by rw[<-Wy o r σ k h1 h2 hk];exact he⟩
 refine⟨?_,?_,?_,?_,?_,?_,?_,amy,ab4,ob,fun k v hpk=> ?_,h.lay.fE hF⟩
 rotate_left 7
 ·obtain⟨p1,p2,p3,p4⟩:=h.Ji k v hpk
  refine⟨p1,p2,p3,(KL k fun hk=> ?_).trans p4⟩
  simp only[du,lH] at hk
  obtain⟨t,_,rfl⟩:=hk
  cases w7:o.dst with
  |none=>rw[w7] at p1;simp at p1
  |some d=>
   rw[w7] at p1
   have h1:d<σ.n:=hd d w7
   have h2:2000000<=d:=p1
   exact Nat.lt_irrefl _ (Y' (Y' h1 p3) (BU (by decide:1000000<=2000000) h2))
 ·rw[ajN];exact h.size
 ·rw[alr];exact h.defers
 ·intro s x hs
  rw[DC] at hs
  cases w7:o.dst with
  |none=>
   rw[w7] at hs
   exact(h.bp s x hs).move (fun k hk=>pZ k (.inl ⟨s,x,hs,hk⟩)) hF
  |some d=>
   rw[w7] at hs
   simp only at hs
   by_cases D7:d=s
   ·rw[if_pos D7] at hs
    subst D7
    rw[akZ _ _ _ (by rw[h.size];exact hd d w7)]
    exact Gq x hs
   ·rw[if_neg D7] at hs
    rw[ak0 _ _ _ _ D7]
    exact(h.bp s x hs).move (fun k hk=>pZ k (.inl ⟨s,x,hs,hk⟩)) hF
 ·intro k e he
  by_cases hn:k∈du o r\/k∈jp r
  ·exact(D0 k e (Wz o r σ k e he hn)).1
  ·simp only[not_or] at hn
   obtain⟨hk,eG⟩:=hold k e he hn.1 hn.2
   have h0:=h.cV k e eG
   rw[KL k hn.1,qn k hn.1 hn.2]
   cases e with
   |arr x deep=>exact eu.fE h0 hF (fun b hb=>jq k _ hn.1 hn.2 hk eG b hb)
   |part x dead=>exact dU.fE h0 hF (fun b hb=>jq k _ hn.1 hn.2 hk eG b hb)
   |box cs=>
    obtain⟨b,cur,e',h1,h2,h3,h4⟩:=h0
    refine⟨b,cur,e',h1,?_,h3,h4.move (fun x hx k' cM=>pZ k' (.inr ⟨k,cs,eG,x,hx,cM⟩)) hF⟩
    rw[jq k _ hn.1 hn.2 hk eG b (by simp[h3])];exact h2
 ·intro k k' e e' b et he eG hb
  by_cases hn:k∈du o r\/k∈jp r
  ·refine Ny k k' b et hn ?_ hb
   by_cases tF:k'∈du o r\/k'∈jp r
   ·exact tF.elim .inl (fun e=> .inr (.inl e))
   ·simp only[not_or] at tF
    obtain⟨hk,Bm⟩:=hold k' e' eG tF.1 tF.2
    exact .inr (.inr ⟨hk,by simp[Bm]⟩)
  ·have Sm:=hn
   simp only[not_or] at hn
   obtain⟨hk,ni⟩:=hold k e he hn.1 hn.2
   by_cases tF:k'∈du o r\/k'∈jp r
   ·intro aY
    exact Ny k' k b (Ne.symm et) tF (.inr (.inr ⟨hk,by simp[ni]⟩)) aY hb
   ·simp only[not_or] at tF
    obtain⟨cM,XW⟩:=hold k' e' eG tF.1 tF.2
    rw[qn k hn.1 hn.2] at hb
    rw[qn k' tF.1 tF.2]
    exact h.apart k k' e e' b et ni XW hb
 ·intro k e he
  by_cases hn:k∈du o r\/k∈jp r
  ·exact(D0 k e (Wz o r σ k e he hn)).2.1
  ·simp only[not_or] at hn
   obtain⟨hk,ni⟩:=hold k e he hn.1 hn.2
   rw[qn k hn.1 hn.2];exact h.nodup k e ni
 ·intro k e b he hb
  by_cases hn:k∈du o r\/k∈jp r
  ·exact(D0 k e (Wz o r σ k e he hn)).2.2 b hb
  ·simp only[not_or] at hn
   obtain⟨hk,ni⟩:=hold k e he hn.1 hn.2
   rw[qn k hn.1 hn.2] at hb
   obtain⟨h1,h2,h3⟩:=h.ff k e b ni hb
   exact⟨vo k e b hn.1 hn.2 hk ni hb,h2,by omega⟩
end AM
