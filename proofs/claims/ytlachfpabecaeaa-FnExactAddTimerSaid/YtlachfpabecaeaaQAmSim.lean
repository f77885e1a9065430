/- THE ABSTRACT MACHINE: how its states stand to the model's; how an operation's outcome is laid into both. -/
import Derived.Test.YtlachfpabecaeaaQAmRep
namespace AM
set_option linter.unusedVariables false
open Go
open Go.RowKit (Below)
variable{U:dh}
theorem fb{a b:Key}:cn a b=true↔a=b:=by
 obtain⟨a1,a2⟩:=a;obtain⟨b1,b2⟩:=b
 simp[cn]
theorem kr(a:Key):cn a a=true:=fb.2 rfl
theorem qB{a b:Key}:cn a b=false↔a≠b:=by
 rw[<-nq,fb]
theorem gr{l:List Key}{k:Key}:l.any (cn k)=true↔k∈l:=by
 simp[jg,fb]
structure Pm where
 w0:World
 W:Nat->Prop
 F0:Nat->Prop
 rA:Key->Option Value
theorem bH.refl(W:Nat->Prop)(w:World):bH W w w:=⟨rfl,rfl,rfl,nl _,fun _ _ _=>rfl⟩
theorem bH.trans{W:Nat->Prop}{a b c:World}(h:bH W a b)(k:bH (fun x=>W x\/a.heap.size<=x) b c):bH W a c:=
 ⟨k.os.trans h.os,k.tape.trans h.tape,k.output.trans h.output,tg h.size k.size,fun i hi hw=>
  (k.block i (BI hi h.size) (fun e=>e.elim hw (fun e=>by omega))).trans (h.block i hi hw)⟩
theorem bH.mono{W W':Nat->Prop}{a b:World}(h:bH W a b)(hw:∀i,W i->W' i):bH W' a b:=
 ⟨h.os,h.tape,h.output,h.size,fun i hi hn=>h.block i hi (fun e=>hn (hw i e))⟩
theorem bH.drew(W:Nat->Prop)(w:World):bH W w w.drew:=⟨rfl,rfl,rfl,nl _,fun _ _ _=>rfl⟩
def av(σ:aa U)(k:Key):Bool:=σ.ag.any (cn k)||(σ.aq k).isNone
def Names(σ:aa U)(k:Key):Prop:=
 (∃s x,σ.get s=some x/\k∈x.keys)\/(∃k' cs,σ.aq k'=some (.box cs)/\∃x∈cs,k∈x.keys)
def vH(E:Env U)(w:World)(F:Nat->Prop):Prop:=∀p∈E.yo,F p.1/\∃e r,w.heap[p.1]? =some (.cells p.2 e r)
theorem vH.bD{E:Env U}{w w':World}{F F':Nat->Prop}(h:vH E w F)(hF:∀b,F b->F' b/\w'.heap[b]? =w.heap[b]?):vH E w' F':=by
 intro p hp
 obtain⟨h1,e,r,h2⟩:=h p hp
 exact⟨(hF _ h1).1,e,r,(hF _ h1).2.trans h2⟩
structure aC(E:Env U)(pm:Pm)(F:Nat->Prop)(kv:Key->Value)(fp:Key->List Nat)(σ:aa U)(a:Act)(w:World):Prop where
 size:a.tmps.size=σ.n
 defers:a.defers=[]
 ap:∀s x,σ.get s=some x->RS E w F kv fp (av σ) x (a.tmps.getD s undef)
 aJ:∀k e,σ.aq k=some e->gO E w F kv fp (av σ) e (kv k) (fp k)
 apart:∀k k' e e' b,k≠k'->σ.aq k=some e->σ.aq k'=some e'->b∈fp k->b∉fp k'
 nodup:∀k e,σ.aq k=some e->(fp k).Nodup
 bC:∀k e b,σ.aq k=some e->b∈fp k->¬F b/\(pm.W b\/pm.w0.heap.size<=b)/\b<w.heap.size
 hJ:∀b,F b->b<w.heap.size
 hH:∀b,F b->pm.F0 b\/pm.W b\/pm.w0.heap.size<=b
 upto:bH pm.W pm.w0 w
 rA:∀k v,pm.rA k=some v->2000000<=k.1/\k.2<1024/\σ.n<=1000000/\kv k=v
 lay:vH E w F
def QW(E:Env U)(pm:Pm)(σ:aa U)(a:Act)(w:World):Prop:=∃F kv fp,aC E pm F kv fp σ a w
section move
variable{E:Env U}{w w':World}{F F':Nat->Prop}{kv kv':Key->Value}{fp fp':Key->List Nat}{bad bad':Key->Bool}
def fo(w w':World)(kv kv':Key->Value)(fp fp':Key->List Nat)(bad bad':Key->Bool)(k:Key):Prop:=
 kv' k=kv k/\(bad' k=true\/(bad k=false/\fp' k=fp k/\∀b∈fp k,w'.heap[b]? =w.heap[b]?))
theorem Ds{w w':World}{S S':Nat->Prop}{v v':Value}(h:eR w S v [] v'):eR w' S' v [] v':=h
theorem RA.move{x:AC U}{v:Value}(h:RA E w F kv fp x v)(hk:∀k∈x.keys,fo w w' kv kv' fp fp' bad bad' k)
  (hF:∀b,F b->F' b/\w'.heap[b]? =w.heap[b]?):ck bad' x=true\/RA E w' F' kv' fp' x v:=by
 cases x with
 |c x=>exact .inr (Rp.bD h hF (by simp))
 |e0=>exact .inr h
 |ref k p=>
  obtain⟨h1,h2⟩:=hk k (by simp[AC.keys])
  simp only[RA,ck] at h⊢
  cases p with
  |nil=>rw[h1];exact .inr (Ds h)
  |cons s p=>
   rcases h2 with h2|⟨_,h3,h4⟩
   ·exact .inl (by simp[h2])
   ·rw[h1,h3];exact .inr (h.bD (fun b hb=>hb.elim (fun e=>⟨.inl (hF b e).1,(hF b e).2⟩) (fun e=>⟨.inr e,h4 b e⟩)))
 |sub k wd lo hi=>
  obtain⟨h1,h2⟩:=hk k (by simp[AC.keys])
  simp only[RA] at h⊢;rw[h1];exact .inr h
 |dt k p i wd off=>
  obtain⟨h1,h2⟩:=hk k (by simp[AC.keys])
  simp only[RA,ck] at h⊢
  obtain⟨b,o,n,c,h3,h4⟩:=h
  cases p with
  |nil=>rw[h1];exact .inr ⟨b,o,n,c,Ds h3,h4⟩
  |cons s p=>
   rcases h2 with h2|⟨_,h5,h6⟩
   ·exact .inl (by simp[h2])
   ·rw[h1,h5];exact .inr ⟨b,o,n,c,h3.bD (fun b hb=>hb.elim (fun e=>⟨.inl (hF b e).1,(hF b e).2⟩) (fun e=>⟨.inr e,h6 b e⟩)),h4⟩
 |cR k off=>
  obtain⟨h1,h2⟩:=hk k (by simp[AC.keys])
  simp only[RA] at h⊢;rw[h1];exact .inr h
 |kn b τ xs=>exact .inr ⟨h.1.bD hF (by simp),h.2⟩
 |ia cs=>
  obtain⟨b,o,h1,h2,h3⟩:=h
  refine .inr ⟨b,o,h1,(hF b h2).1,fun j c hj=> ?_⟩
  obtain⟨u,h4,h5⟩:=h3 j c hj
  refine⟨u,?_,h5.bD hF (by simp)⟩
  rw[World.cell?_of_block (w:=w) (a:=⟨b,o+j,none⟩) (hF b h2).2];exact h4
theorem RD.move{x:AC U}{v:Value}(h:RD E w F kv fp bad x v)(hk:∀k∈x.keys,fo w w' kv kv' fp fp' bad bad' k)
  (hF:∀b,F b->F' b/\w'.heap[b]? =w.heap[b]?):RD E w' F' kv' fp' bad' x v:=by
 refine⟨h.1,?_⟩
 rcases h.2 with h2|h2
 ·refine .inl ?_
  cases x<;>simp only[ck,dR] at h2⊢<;>try (cases h2;done)
  all_goals
   obtain⟨_,h3⟩:=hk _ (gj.2 rfl)
   refine⟨h2.1,?_⟩
   rcases h3 with h3|h3
   ·exact h3
   ·rw[h3.1] at h2;simp at h2
 ·exact h2.move hk hF
theorem dC.move{xs:List (AC U)}{vs:List Value}(h:dC E w F kv fp bad xs vs)(hk:∀x∈xs,∀k∈x.keys,fo w w' kv kv' fp fp' bad bad' k)
  (hF:∀b,F b->F' b/\w'.heap[b]? =w.heap[b]?):dC E w' F' kv' fp' bad' xs vs:=
 ⟨h.1,fun i x v hx hv=>(h.2 i x v hx hv).move (hk x (np hx)) hF⟩
theorem RV.move{x:AV U}{v:Value}(h:RV E w F kv fp bad x v)(hk:∀y∈x.cs,∀k∈y.keys,fo w w' kv kv' fp fp' bad bad' k)
  (hF:∀b,F b->F' b/\w'.heap[b]? =w.heap[b]?):RV E w' F' kv' fp' bad' x v:=by
 obtain⟨vs,h1,h2⟩:=h
 exact⟨vs,h1.move hk hF,h2⟩
theorem SV.mem_keys{x:SV U}{k:Key}:k∈x.keys↔∃y∈x.lM,k∈y.keys:=by simp[SV.keys]
theorem RS.move{x:SV U}{v:Value}(h:RS E w F kv fp bad x v)(hk:∀k∈x.keys,fo w w' kv kv' fp fp' bad bad' k)
  (hF:∀b,F b->F' b/\w'.heap[b]? =w.heap[b]?):RS E w' F' kv' fp' bad' x v:=by
 cases x with
 |v x=>exact RV.move h (fun y hy k i_=>hk k (SV.mem_keys.2 ⟨y,hy,i_⟩)) hF
 |iV xs=>
  obtain⟨vs,h1,h2,h3⟩:=h
  refine⟨vs,h1,h2,fun i x u hx hu=>(h3 i x u hx hu).move (fun y hy k i_=>hk k (SV.mem_keys.2 ⟨y,?_,i_⟩)) hF⟩
  exact eY.2 ⟨x,np hx,hy⟩
 |fn p=>exact ey.bD h hF
 |nH g xs=>
  obtain⟨vs,h1,h2,h3⟩:=h
  refine⟨vs,h1,h2,fun i x u hx hu=>(h3 i x u hx hu).move (fun y hy k i_=>hk k (SV.mem_keys.2 ⟨y,?_,i_⟩)) hF⟩
  exact eY.2 ⟨x,np hx,hy⟩
end move
theorem nS(o:Oper)(r:aw U)(σ:aa U)(s:Nat):
  (apply o r σ).get s=match o.dst with|some d=>if d=s then r.val else σ.get s|none=>σ.get s:=by
 unfold aa.get apply
 cases o.dst with
 |none=>rfl
 |some d=>
  simp only[look]
  by_cases h:d=s
  ·subst h;simp
  ·simp only[h,if_false]
   cases hb:Nat.beq d s
   ·rfl
   ·exact absurd (en hb) h
theorem mT{β:Type}(l r:List (Key×Option β))(k:Key):a9 (l++r) k=if l.any (fun p=>cn p.1 k) then a9 l k else a9 r k:=by
 induction l with
 |nil=>simp
 |cons p l ih=>
  obtain⟨t,v⟩:=p
  simp only[FV,a9,ye]
  rcases Bool.eq_false_or_eq_true (cn t k) with h|h
  ·simp[h]
  ·simp only[h,cond_false,rh];exact ih
def aQ(o:Oper)(r:aw U):List Key:=r.aQ.map fun(j,_)=>(o.dst.getD 1000000,j)
def cF(r:aw U):List Key:=r.cF.map (·.1)
theorem y5(o:Oper)(r:aw U)(σ:aa U)(k:Key)(h1:k∉aQ o r)(h2:k∉cF r)(h3:k∉r.dn):
  (apply o r σ).aq k=σ.aq k:=by
 unfold aa.aq apply
 simp only[jz]
 rw[mT,if_neg,mT,if_neg,mT,if_neg]
 ·intro h
  simp only[tc,jg,Function.comp] at h
  obtain⟨x,hx,hk⟩:=h
  exact h3 (by rw[<-fb.1 hk];exact hx)
 ·intro h
  simp only[tc,jg,Function.comp] at h
  obtain⟨x,hx,hk⟩:=h
  exact h2 (by rw[<-fb.1 hk];exact ez.2 ⟨x,hx,rfl⟩)
 ·intro h
  simp only[fe,tc,jg,Function.comp] at h
  obtain⟨x,hx,hk⟩:=h
  exact h1 (by rw[<-fb.1 hk];exact ez.2 ⟨x,hx,rfl⟩)
theorem IF{β:Type}(l:List Key)(k:Key):a9 (l.map fun k=>(k,(none:Option β))) k=none:=by
 induction l with
 |nil=>rfl
 |cons a l ih=>simp only[mR,a9];cases cn a k<;>simp[ih]
theorem y7(o:Oper)(r:aw U)(σ:aa U)(k:Key)(h1:k∉aQ o r)(h2:k∉cF r)(h3:k∈r.dn):
  (apply o r σ).aq k=none:=by
 unfold aa.aq apply
 simp only[jz]
 rw[mT,if_neg,mT,if_neg,mT,if_pos,IF]
 ·simp only[tc,jg,Function.comp]
  exact⟨k,h3,kr k⟩
 ·intro h
  simp only[tc,jg,Function.comp] at h
  obtain⟨x,hx,hk⟩:=h
  exact h2 (by rw[<-fb.1 hk];exact ez.2 ⟨x,hx,rfl⟩)
 ·intro h
  simp only[fe,tc,jg,Function.comp] at h
  obtain⟨x,hx,hk⟩:=h
  exact h1 (by rw[<-fb.1 hk];exact ez.2 ⟨x,hx,rfl⟩)
theorem l4{β:Type}{l:List (Key×Option β)}{k:Key}{e:β}(h:a9 l k=some e):(k,some e)∈l:=by
 induction l with
 |nil=>cases h
 |cons p l ih=>
  obtain⟨t,v⟩:=p
  simp only[a9] at h
  cases ht:cn t k<;>simp only[ht,cond_true,cond_false] at h
  ·exact c9 _ (ih h)
  ·rw[<-fb.1 ht,h];exact e_
theorem y6(o:Oper)(r:aw U)(σ:aa U)(k:Key)(e:b9 U)(h:(apply o r σ).aq k=some e)(hk:k∈aQ o r\/k∈cF r):
  (∃j,k=(o.dst.getD 1000000,j)/\(j,e)∈r.aQ)\/(k,e)∈r.cF:=by
 unfold aa.aq apply at h
 simp only[jz] at h
 rw[mT] at h
 split at h
 ·have:=l4 h
  simp only[fe,ez,eX,bM] at this
  obtain⟨⟨j,e'⟩,hm,rfl,rfl⟩:=this
  exact .inl ⟨j,rfl,hm⟩
 ·rename_i vz
  have hu:k∈cF r:=by
   refine hk.resolve_left (fun ha=>vz ?_)
   simp only[aQ,ez] at ha
   obtain⟨x,hx,rfl⟩:=ha
   simp only[fe,tc,jg,Function.comp]
   exact⟨x,hx,kr _⟩
  rw[mT,if_pos] at h
  ·have:=l4 h
   simp only[ez,eX,bM] at this
   obtain⟨⟨k',e'⟩,hm,rfl,rfl⟩:=this
   exact .inr hm
  ·simp only[cF,ez] at hu
   obtain⟨x,hx,rfl⟩:=hu
   simp only[tc,jg,Function.comp]
   exact⟨x,hx,kr _⟩
theorem IQ(a:Act)(d:Nat)(v:Value)(hd:d<a.tmps.size):(a.put (some d) v).tmps.getD d undef=v:=by
 simp[Act.put,tm,hd]
theorem IR(a:Act)(d s:Nat)(v:Value)(hd:d≠s):(a.put (some d) v).tmps.getD s undef=a.tmps.getD s undef:=by
 simp[Act.put,tm,Array.getElem?_setIfInBounds_ne hd]
theorem Hz(a:Act)(d:Option Nat)(v:Value):(a.put d v).tmps.size=a.tmps.size:=by cases d<;>simp[Act.put]
theorem Jh(a:Act)(d:Option Nat)(v:Value):(a.put d v).defers=a.defers:=by cases d<;>simp[Act.put]
theorem aC.apply{E:Env U}{pm:Pm}{F F':Nat->Prop}{kv kv':Key->Value}{fp fp':Key->List Nat}{σ:aa U}{a:Act}{w w':World}
  (h:aC E pm F kv fp σ a w) (o:Oper) (r:aw U) (v:Value)
  (hd:∀d,o.dst=some d->d<σ.n)
  (qL:∀sv,r.val=some sv->RS E w' F' kv' fp' (av (AM.apply o r σ)) sv v)
  (sP:∀k,k∉aQ o r->kv' k=kv k)
  (gB:∀k,k∉aQ o r->k∉cF r->fp' k=fp k)
  (Ah:∀k∈aQ o r,¬Names σ k)
  (hF:∀b,F b->F' b/\w'.heap[b]? =w.heap[b]?)
  (cG:∀k e,k∉aQ o r->k∉cF r->k∉r.dn->σ.aq k=some e->∀b∈fp k,w'.heap[b]? =w.heap[b]?)
  (og:∀k e,((∃j,k=(o.dst.getD 1000000,j)/\(j,e)∈r.aQ)\/(k,e)∈r.cF)->gO E w' F' kv' fp' (av (AM.apply o r σ)) e (kv' k) (fp' k)/\(fp' k).Nodup/\
   ∀b∈fp' k,¬F' b/\(pm.W b\/pm.w0.heap.size<=b)/\b<w'.heap.size)
  (jP:∀k e b,k∉aQ o r->k∉cF r->k∉r.dn->σ.aq k=some e->b∈fp k->¬F' b)
  (uR:∀k k' b,k≠k'->(k∈aQ o r\/k∈cF r)->(k'∈aQ o r\/k'∈cF r\/(k'∉r.dn/\(σ.aq k').isSome))->b∈fp' k->b∉fp' k')
  (K3:∀b,F' b->b<w'.heap.size) (E8:∀b,F' b->pm.F0 b\/pm.W b\/pm.w0.heap.size<=b)
  (eJ:bH pm.W pm.w0 w') (iG:w.heap.size<=w'.heap.size):
  aC E pm F' kv' fp' (AM.apply o r σ) (a.put o.dst v) w':=by
 have gW:∀k,Names σ k->fo w w' kv kv' fp fp' (av σ) (av (AM.apply o r σ)) k:=by
  intro k hn
  have vz:k∉aQ o r:=fun e=>Ah k e hn
  refine⟨sP k vz,?_⟩
  by_cases hu:k∈cF r
  ·left
   have:(AM.apply o r σ).ag.any (cn k)=true:=gr.2 (by simp only[AM.apply,cZ];exact .inl hu)
   simp[av,this]
  ·by_cases hk:k∈r.dn
   ·left
    simp[av,y7 o r σ k vz hu hk]
   ·have he:=y5 o r σ k vz hu hk
    have qW:(AM.apply o r σ).ag.any (cn k)=σ.ag.any (cn k):=by
     rw[Cl,gr,gr]
     simp only[AM.apply,cZ]
     exact⟨fun e=>e.resolve_left hu,.inr⟩
    cases hb:av σ k
    ·right
     refine⟨rfl,gB k vz hu,?_⟩
     simp only[av,vr] at hb
     obtain⟨e,KG⟩:∃e,σ.aq k=some e:=by
      cases hx:σ.aq k with
      |none=>rw[hx] at hb;simp at hb
      |some e=>exact⟨e,rfl⟩
     exact cG k e vz hu hk KG
    ·left
     simp only[av] at hb⊢
     rw[he,qW];exact hb
 have hold:∀k e,(AM.apply o r σ).aq k=some e->k∉aQ o r->k∉cF r->k∉r.dn/\σ.aq k=some e:=by
  intro k e he h1 h2
  by_cases hk:k∈r.dn
  ·rw[y7 o r σ k h1 h2 hk] at he;cases he
  ·exact⟨hk,by rw[<-y5 o r σ k h1 h2 hk];exact he⟩
 refine⟨?_,?_,?_,?_,?_,?_,?_,K3,E8,eJ,fun k v Kb=> ?_,h.lay.bD hF⟩
 rotate_left 7
 ·obtain⟨p1,p2,p3,p4⟩:=h.rA k v Kb
  refine⟨p1,p2,p3,(sP k fun hk=> ?_).trans p4⟩
  simp only[aQ,ez] at hk
  obtain⟨t,_,rfl⟩:=hk
  cases kG:o.dst with
  |none=>rw[kG] at p1;simp at p1
  |some d=>
   rw[kG] at p1
   have h1:d<σ.n:=hd d kG
   have h2:2000000<=d:=p1
   exact Nat.lt_irrefl _ (BI (BI h1 p3) (tg (by decide:1000000<=2000000) h2))
 ·rw[Hz];exact h.size
 ·rw[Jh];exact h.defers
 ·intro s x hs
  rw[nS] at hs
  cases kG:o.dst with
  |none=>
   rw[kG] at hs
   exact(h.ap s x hs).move (fun k hk=>gW k (.inl ⟨s,x,hs,hk⟩)) hF
  |some d=>
   rw[kG] at hs
   simp only at hs
   by_cases oq:d=s
   ·rw[if_pos oq] at hs
    subst oq
    rw[IQ _ _ _ (by rw[h.size];exact hd d kG)]
    exact qL x hs
   ·rw[if_neg oq] at hs
    rw[IR _ _ _ _ oq]
    exact(h.ap s x hs).move (fun k hk=>gW k (.inl ⟨s,x,hs,hk⟩)) hF
 ·intro k e he
  by_cases hn:k∈aQ o r\/k∈cF r
  ·exact(og k e (y6 o r σ k e he hn)).1
  ·simp only[not_or] at hn
   obtain⟨hk,bf⟩:=hold k e he hn.1 hn.2
   have h0:=h.aJ k e bf
   rw[sP k hn.1,gB k hn.1 hn.2]
   cases e with
   |arr x deep=>exact ba.bD h0 hF (fun b hb=>cG k _ hn.1 hn.2 hk bf b hb)
   |part x dead=>exact aW.bD h0 hF (fun b hb=>cG k _ hn.1 hn.2 hk bf b hb)
   |box cs=>
    obtain⟨b,cur,e',h1,h2,h3,h4⟩:=h0
    refine⟨b,cur,e',h1,?_,h3,h4.move (fun x hx k' aG=>gW k' (.inr ⟨k,cs,bf,x,hx,aG⟩)) hF⟩
    rw[cG k _ hn.1 hn.2 hk bf b (by simp[h3])];exact h2
 ·intro k k' e e' b a_ he bf hb
  by_cases hn:k∈aQ o r\/k∈cF r
  ·refine uR k k' b a_ hn ?_ hb
   by_cases iT:k'∈aQ o r\/k'∈cF r
   ·exact iT.elim .inl (fun e=> .inr (.inl e))
   ·simp only[not_or] at iT
    obtain⟨hk,mn⟩:=hold k' e' bf iT.1 iT.2
    exact .inr (.inr ⟨hk,by simp[mn]⟩)
  ·have xM:=hn
   simp only[not_or] at hn
   obtain⟨hk,eL⟩:=hold k e he hn.1 hn.2
   by_cases iT:k'∈aQ o r\/k'∈cF r
   ·intro aj
    exact uR k' k b (Ne.symm a_) iT (.inr (.inr ⟨hk,by simp[eL]⟩)) aj hb
   ·simp only[not_or] at iT
    obtain⟨aG,Am⟩:=hold k' e' bf iT.1 iT.2
    rw[gB k hn.1 hn.2] at hb
    rw[gB k' iT.1 iT.2]
    exact h.apart k k' e e' b a_ eL Am hb
 ·intro k e he
  by_cases hn:k∈aQ o r\/k∈cF r
  ·exact(og k e (y6 o r σ k e he hn)).2.1
  ·simp only[not_or] at hn
   obtain⟨hk,eL⟩:=hold k e he hn.1 hn.2
   rw[gB k hn.1 hn.2];exact h.nodup k e eL
 ·intro k e b he hb
  by_cases hn:k∈aQ o r\/k∈cF r
  ·exact(og k e (y6 o r σ k e he hn)).2.2 b hb
  ·simp only[not_or] at hn
   obtain⟨hk,eL⟩:=hold k e he hn.1 hn.2
   rw[gB k hn.1 hn.2] at hb
   obtain⟨h1,h2,h3⟩:=h.bC k e b eL hb
   exact⟨jP k e b hn.1 hn.2 hk eL hb,h2,by omega⟩
end AM
