import Derived.Test.YtmcepppejchhkaaGreatDoorQAmRep
namespace AM
set_option linter.unusedVariables false
open Go
open Go.RowKit (Below)
variable{U:lQ}
theorem pX{a b:Key}:iZ a b=true↔a=b:=by
 obtain⟨a1,a2⟩:=a;obtain⟨b1,b2⟩:=b
 simp[iZ]
theorem Am(a:Key):iZ a a=true:=pX.2 rfl
theorem M5{a b:Key}:iZ a b=false↔a≠b:=by
 rw[<-wI,pX]
theorem tf{l:List Key}{k:Key}:l.any (iZ k)=true↔k∈l:=by
 simp[vD,pX]
structure Pm where
 w0:World
 W:Nat->Prop
 F0:Nat->Prop
 Oe:Key->Option Value
theorem ic.refl(W:Nat->Prop)(w:World):ic W w w:=⟨rfl,rfl,rfl,uh _,fun _ _ _=>rfl⟩
theorem ic.trans{W:Nat->Prop}{a b c:World}(h:ic W a b)(k:ic (fun x=>W x\/a.heap.size<=x) b c):ic W a c:=
 ⟨k.os.trans h.os,k.tape.trans h.tape,k.output.trans h.output,uN h.size k.size,fun i hi hw=>
  (k.block i (zds hi h.size) (fun e=>e.elim hw (fun e=>by omega))).trans (h.block i hi hw)⟩
theorem ic.mono{W W':Nat->Prop}{a b:World}(h:ic W a b)(hw:∀i,W i->W' i):ic W' a b:=
 ⟨h.os,h.tape,h.output,h.size,fun i hi hn=>h.block i hi (fun e=>hn (hw i e))⟩
theorem ic.drew(W:Nat->Prop)(w:World):ic W w w.drew:=⟨rfl,rfl,rfl,uh _,fun _ _ _=>rfl⟩
def bY(σ:ak U)(k:Key):Bool:=σ.aS.any (iZ k)||(σ.bP k).isNone
def Names(σ:ak U)(k:Key):Prop:=
 (∃s x,σ.get s=some x/\k∈x.keys)\/(∃k' cs,σ.bP k'=some (.box cs)/\∃x∈cs,k∈x.keys)
def QR(E:Env U)(w:World)(F:Nat->Prop):Prop:=∀p∈E.UT,F p.1/\∃e r,w.heap[p.1]? =some (.cells p.2 e r)
theorem QR.gv{E:Env U}{w w':World}{F F':Nat->Prop}(h:QR E w F)(hF:∀b,F b->F' b/\w'.heap[b]? =w.heap[b]?):QR E w' F':=by
 intro p hp
 obtain⟨h1,e,r,h2⟩:=h p hp
 exact⟨(hF _ h1).1,e,r,(hF _ h1).2.trans h2⟩
structure cR(E:Env U)(pm:Pm)(F:Nat->Prop)(kv:Key->Value)(fp:Key->List Nat)(σ:ak U)(a:Act)(w:World):Prop where
 size:a.tmps.size=σ.n
 defers:a.defers=[]
 bG:∀s x,σ.get s=some x->RS E w F kv fp (bY σ) x (a.tmps.getD s undef)
 dD:∀k e,σ.bP k=some e->ug E w F kv fp (bY σ) e (kv k) (fp k)
 apart:∀k k' e e' b,k≠k'->σ.bP k=some e->σ.bP k'=some e'->b∈fp k->b∉fp k'
 nodup:∀k e,σ.bP k=some e->(fp k).Nodup
 fT:∀k e b,σ.bP k=some e->b∈fp k->¬F b/\(pm.W b\/pm.w0.heap.size<=b)/\b<w.heap.size
 uI:∀b,F b->b<w.heap.size
 uH:∀b,F b->pm.F0 b\/pm.W b\/pm.w0.heap.size<=b
 upto:ic pm.W pm.w0 w
 Oe:∀k v,pm.Oe k=some v->2000000<=k.1/\k.2<1024/\σ.n<=1000000/\kv k=v
 lay:QR E w F
section move
variable{E:Env U}{w w':World}{F F':Nat->Prop}{kv kv':Key->Value}{fp fp':Key->List Nat}{bad bad':Key->Bool}
def qv(w w':World)(kv kv':Key->Value)(fp fp':Key->List Nat)(bad bad':Key->Bool)(k:Key):Prop:=
 kv' k=kv k/\(bad' k=true\/(bad k=false/\fp' k=fp k/\∀b∈fp k,w'.heap[b]? =w.heap[b]?))
theorem ady{w w':World}{S S':Nat->Prop}{v v':Value}(h:pI w S v [] v'):pI w' S' v [] v':=h
theorem RA.move{x:AC U}{v:Value}(h:RA E w F kv fp x v)(hk:∀k∈x.keys,qv w w' kv kv' fp fp' bad bad' k)
  (hF:∀b,F b->F' b/\w'.heap[b]? =w.heap[b]?):iT bad' x=true\/RA E w' F' kv' fp' x v:=by
 cases x with
 |c x=>exact .inr (Rp.gv h hF (by simp))
 |e0=>exact .inr h
 |ref k p=>
  obtain⟨h1,h2⟩:=hk k (by simp[AC.keys])
  simp only[RA,iT] at h⊢
  cases p with
  |nil=>rw[h1];exact .inr (ady h)
  |cons s p=>
   rcases h2 with h2|⟨_,h3,h4⟩
   ·exact .inl (by simp[h2])
   ·rw[h1,h3];exact .inr (h.gv (fun b hb=>hb.elim (fun e=>⟨.inl (hF b e).1,(hF b e).2⟩) (fun e=>⟨.inr e,h4 b e⟩)))
 |sub k wd lo hi=>
  obtain⟨h1,h2⟩:=hk k (by simp[AC.keys])
  simp only[RA] at h⊢;rw[h1];exact .inr h
 |l7 k p i wd off=>
  obtain⟨h1,h2⟩:=hk k (by simp[AC.keys])
  simp only[RA,iT] at h⊢
  obtain⟨b,o,n,c,h3,h4⟩:=h
  cases p with
  |nil=>rw[h1];exact .inr ⟨b,o,n,c,ady h3,h4⟩
  |cons s p=>
   rcases h2 with h2|⟨_,h5,h6⟩
   ·exact .inl (by simp[h2])
   ·rw[h1,h5];exact .inr ⟨b,o,n,c,h3.gv (fun b hb=>hb.elim (fun e=>⟨.inl (hF b e).1,(hF b e).2⟩) (fun e=>⟨.inr e,h6 b e⟩)),h4⟩
 |kQ k off=>
  obtain⟨h1,h2⟩:=hk k (by simp[AC.keys])
  simp only[RA] at h⊢;rw[h1];exact .inr h
 |kn b τ xs=>exact .inr ⟨h.1.gv hF (by simp),h.2⟩
 |ia cs=>
  obtain⟨b,o,h1,h2,h3⟩:=h
  refine .inr ⟨b,o,h1,(hF b h2).1,fun j c hj=> ?_⟩
  obtain⟨u,h4,h5⟩:=h3 j c hj
  refine⟨u,?_,h5.gv hF (by simp)⟩
  rw[World.cell?_of_block (w:=w) (a:=⟨b,o+j,none⟩) (hF b h2).2];exact h4
theorem RD.move{x:AC U}{v:Value}(h:RD E w F kv fp bad x v)(hk:∀k∈x.keys,qv w w' kv kv' fp fp' bad bad' k)
  (hF:∀b,F b->F' b/\w'.heap[b]? =w.heap[b]?):RD E w' F' kv' fp' bad' x v:=by
 refine⟨h.1,?_⟩
 rcases h.2 with h2|h2
 ·refine .inl ?_
  cases x<;>simp only[iT,cN] at h2⊢<;>try (cases h2;done)
  all_goals
   obtain⟨_,h3⟩:=hk _ (mW.2 rfl)
   refine⟨h2.1,?_⟩
   rcases h3 with h3|h3
   ·exact h3
   ·rw[h3.1] at h2;simp at h2
 ·exact h2.move hk hF
theorem mw.move{xs:List (AC U)}{vs:List Value}(h:mw E w F kv fp bad xs vs)(hk:∀x∈xs,∀k∈x.keys,qv w w' kv kv' fp fp' bad bad' k)
  (hF:∀b,F b->F' b/\w'.heap[b]? =w.heap[b]?):mw E w' F' kv' fp' bad' xs vs:=
 ⟨h.1,fun i x v hx hv=>(h.2 i x v hx hv).move (hk x (GK hx)) hF⟩
theorem RV.move{x:AV U}{v:Value}(h:RV E w F kv fp bad x v)(hk:∀y∈x.cs,∀k∈y.keys,qv w w' kv kv' fp fp' bad bad' k)
  (hF:∀b,F b->F' b/\w'.heap[b]? =w.heap[b]?):RV E w' F' kv' fp' bad' x v:=by
 obtain⟨vs,h1,h2⟩:=h
 exact⟨vs,h1.move hk hF,h2⟩
theorem SV.mem_keys{x:SV U}{k:Key}:k∈x.keys↔∃y∈x.Cu,k∈y.keys:=by simp[SV.keys]
theorem RS.move{x:SV U}{v:Value}(h:RS E w F kv fp bad x v)(hk:∀k∈x.keys,qv w w' kv kv' fp fp' bad bad' k)
  (hF:∀b,F b->F' b/\w'.heap[b]? =w.heap[b]?):RS E w' F' kv' fp' bad' x v:=by
 cases x with
 |v x=>exact RV.move h (fun y hy k E_=>hk k (SV.mem_keys.2 ⟨y,hy,E_⟩)) hF
 |wR xs=>
  obtain⟨vs,h1,h2,h3⟩:=h
  refine⟨vs,h1,h2,fun i x u hx hu=>(h3 i x u hx hu).move (fun y hy k E_=>hk k (SV.mem_keys.2 ⟨y,?_,E_⟩)) hF⟩
  exact o8.2 ⟨x,GK hx,hy⟩
 |fn p=>exact oa.gv h hF
 |Hy g xs=>
  obtain⟨vs,h1,h2,h3⟩:=h
  refine⟨vs,h1,h2,fun i x u hx hu=>(h3 i x u hx hu).move (fun y hy k E_=>hk k (SV.mem_keys.2 ⟨y,?_,E_⟩)) hF⟩
  exact o8.2 ⟨x,GK hx,hy⟩
end move
theorem H2(o:Oper)(r:cq U)(σ:ak U)(s:Nat):
  (apply o r σ).get s=match o.dst with|some d=>if d=s then r.val else σ.get s|none=>σ.get s:=by
 unfold ak.get apply
 cases o.dst with
 |none=>rfl
 |some d=>
  simp only[look]
  by_cases h:d=s
  ·subst h;simp
  ·simp only[h,if_false]
   cases hb:Nat.beq d s
   ·rfl
   ·exact absurd (nF hb) h
theorem Gr{β:Type}(l r:List (Key×Option β))(k:Key):eY (l++r) k=if l.any (fun p=>iZ p.1 k) then eY l k else eY r k:=by
 induction l with
 |nil=>simp
 |cons p l ih=>
  obtain⟨t,v⟩:=p
  simp only[zex,eY,UK]
  rcases Bool.eq_false_or_eq_true (iZ t k) with h|h
  ·simp[h]
  ·simp only[h,cond_false,GJ];exact ih
def dZ(o:Oper)(r:cq U):List Key:=r.dZ.map fun(j,_)=>(o.dst.getD 1000000,j)
def jW(r:cq U):List Key:=r.jW.map (·.1)
theorem aaA(o:Oper)(r:cq U)(σ:ak U)(k:Key)(h1:k∉dZ o r)(h2:k∉jW r)(h3:k∉r.lZ):
  (apply o r σ).bP k=σ.bP k:=by
 unfold ak.bP apply
 simp only[xU]
 rw[Gr,if_neg,Gr,if_neg,Gr,if_neg]
 ·intro h
  simp only[QW,vD,Function.comp] at h
  obtain⟨x,hx,hk⟩:=h
  exact h3 (by rw[<-pX.1 hk];exact hx)
 ·intro h
  simp only[QW,vD,Function.comp] at h
  obtain⟨x,hx,hk⟩:=h
  exact h2 (by rw[<-pX.1 hk];exact mz.2 ⟨x,hx,rfl⟩)
 ·intro h
  simp only[p8,QW,vD,Function.comp] at h
  obtain⟨x,hx,hk⟩:=h
  exact h1 (by rw[<-pX.1 hk];exact mz.2 ⟨x,hx,rfl⟩)
theorem amc{β:Type}(l:List Key)(k:Key):eY (l.map fun k=>(k,(none:Option β))) k=none:=by
 induction l with
 |nil=>rfl
 |cons a l ih=>simp only[wH,eY];cases iZ a k<;>simp[ih]
theorem aaC(o:Oper)(r:cq U)(σ:ak U)(k:Key)(h1:k∉dZ o r)(h2:k∉jW r)(h3:k∈r.lZ):
  (apply o r σ).bP k=none:=by
 unfold ak.bP apply
 simp only[xU]
 rw[Gr,if_neg,Gr,if_neg,Gr,if_pos,amc]
 ·simp only[QW,vD,Function.comp]
  exact⟨k,h3,Am k⟩
 ·intro h
  simp only[QW,vD,Function.comp] at h
  obtain⟨x,hx,hk⟩:=h
  exact h2 (by rw[<-pX.1 hk];exact mz.2 ⟨x,hx,rfl⟩)
 ·intro h
  simp only[p8,QW,vD,Function.comp] at h
  obtain⟨x,hx,hk⟩:=h
  exact h1 (by rw[<-pX.1 hk];exact mz.2 ⟨x,hx,rfl⟩)
theorem Gq{β:Type}{l:List (Key×Option β)}{k:Key}{e:β}(h:eY l k=some e):(k,some e)∈l:=by
 induction l with
 |nil=>cases h
 |cons p l ih=>
  obtain⟨t,v⟩:=p
  simp only[eY] at h
  cases ht:iZ t k<;>simp only[ht,cond_true,cond_false] at h
  ·exact fF _ (ih h)
  ·rw[<-pX.1 ht,h];exact iH
theorem aaB(o:Oper)(r:cq U)(σ:ak U)(k:Key)(e:iX U)(h:(apply o r σ).bP k=some e)(hk:k∈dZ o r\/k∈jW r):
  (∃j,k=(o.dst.getD 1000000,j)/\(j,e)∈r.dZ)\/(k,e)∈r.jW:=by
 unfold ak.bP apply at h
 simp only[xU] at h
 rw[Gr] at h
 split at h
 ·have:=Gq h
  simp only[p8,mz,pE,gI] at this
  obtain⟨⟨j,e'⟩,hm,rfl,rfl⟩:=this
  exact .inl ⟨j,rfl,hm⟩
 ·rename_i UA
  have hu:k∈jW r:=by
   refine hk.resolve_left (fun ha=>UA ?_)
   simp only[dZ,mz] at ha
   obtain⟨x,hx,rfl⟩:=ha
   simp only[p8,QW,vD,Function.comp]
   exact⟨x,hx,Am _⟩
  rw[Gr,if_pos] at h
  ·have:=Gq h
   simp only[mz,pE,gI] at this
   obtain⟨⟨k',e'⟩,hm,rfl,rfl⟩:=this
   exact .inr hm
  ·simp only[jW,mz] at hu
   obtain⟨x,hx,rfl⟩:=hu
   simp only[QW,vD,Function.comp]
   exact⟨x,hx,Am _⟩
theorem amm(a:Act)(d:Nat)(v:Value)(hd:d<a.tmps.size):(a.put (some d) v).tmps.getD d undef=v:=by
 simp[Act.put,QZ,hd]
theorem amn(a:Act)(d s:Nat)(v:Value)(hd:d≠s):(a.put (some d) v).tmps.getD s undef=a.tmps.getD s undef:=by
 simp[Act.put,QZ,Array.getElem?_setIfInBounds_ne hd]
theorem ak'(a:Act)(d:Option Nat)(v:Value):(a.put d v).tmps.size=a.tmps.size:=by cases d<;>simp[Act.put]
theorem amP(a:Act)(d:Option Nat)(v:Value):(a.put d v).defers=a.defers:=by cases d<;>simp[Act.put]
theorem cR.apply{E:Env U}{pm:Pm}{F F':Nat->Prop}{kv kv':Key->Value}{fp fp':Key->List Nat}{σ:ak U}{a:Act}{w w':World}
  (h:cR E pm F kv fp σ a w) (o:Oper) (r:cq U) (v:Value)
  (hd:∀d,o.dst=some d->d<σ.n)
  (PW:∀sv,r.val=some sv->RS E w' F' kv' fp' (bY (AM.apply o r σ)) sv v)
  (P9:∀k,k∉dZ o r->kv' k=kv k)
  (tw:∀k,k∉dZ o r->k∉jW r->fp' k=fp k)
  (abx:∀k∈dZ o r,¬Names σ k)
  (hF:∀b,F b->F' b/\w'.heap[b]? =w.heap[b]?)
  (jA:∀k e,k∉dZ o r->k∉jW r->k∉r.lZ->σ.bP k=some e->∀b∈fp k,w'.heap[b]? =w.heap[b]?)
  (Ir:∀k e,((∃j,k=(o.dst.getD 1000000,j)/\(j,e)∈r.dZ)\/(k,e)∈r.jW)->ug E w' F' kv' fp' (bY (AM.apply o r σ)) e (kv' k) (fp' k)/\(fp' k).Nodup/\
   ∀b∈fp' k,¬F' b/\(pm.W b\/pm.w0.heap.size<=b)/\b<w'.heap.size)
  (yL:∀k e b,k∉dZ o r->k∉jW r->k∉r.lZ->σ.bP k=some e->b∈fp k->¬F' b)
  (SS:∀k k' b,k≠k'->(k∈dZ o r\/k∈jW r)->(k'∈dZ o r\/k'∈jW r\/(k'∉r.lZ/\(σ.bP k').isSome))->b∈fp' k->b∉fp' k')
  (an6:∀b,F' b->b<w'.heap.size) (aeQ:∀b,F' b->pm.F0 b\/pm.W b\/pm.w0.heap.size<=b)
  (qw:ic pm.W pm.w0 w') (vQ:w.heap.size<=w'.heap.size):
  cR E pm F' kv' fp' (AM.apply o r σ) (a.put o.dst v) w':=by
 have rh:∀k,Names σ k->qv w w' kv kv' fp fp' (bY σ) (bY (AM.apply o r σ)) k:=by
  intro k hn
  have UA:k∉dZ o r:=fun e=>abx k e hn
  refine⟨P9 k UA,?_⟩
  by_cases hu:k∈jW r
  ·left
   have:(AM.apply o r σ).aS.any (iZ k)=true:=tf.2 (by simp only[AM.apply,jI];exact .inl hu)
   simp[bY,this]
  ·by_cases hk:k∈r.lZ
   ·left
    simp[bY,aaC o r σ k UA hu hk]
   ·have he:=aaA o r σ k UA hu hk
    have Nu:(AM.apply o r σ).aS.any (iZ k)=σ.aS.any (iZ k):=by
     rw[Gd,tf,tf]
     simp only[AM.apply,jI]
     exact⟨fun e=>e.resolve_left hu,.inr⟩
    cases hb:bY σ k
    ·right
     refine⟨rfl,tw k UA hu,?_⟩
     simp only[bY,QK] at hb
     obtain⟨e,hee⟩:∃e,σ.bP k=some e:=by
      cases hx:σ.bP k with
      |none=>rw[hx] at hb;simp at hb
      |some e=>exact⟨e,rfl⟩
     exact jA k e UA hu hk hee
    ·left
     simp only[bY] at hb⊢
     rw[he,Nu];exact hb
 have hold:∀k e,(AM.apply o r σ).bP k=some e->k∉dZ o r->k∉jW r->k∉r.lZ/\σ.bP k=some e:=by
  intro k e he h1 h2
  by_cases hk:k∈r.lZ
  ·rw[aaC o r σ k h1 h2 hk] at he;cases he
  ·exact⟨hk,by rw[<-aaA o r σ k h1 h2 hk];exact he⟩
 refine⟨?_,?_,?_,?_,?_,?_,?_,an6,aeQ,qw,fun k v hpk=> ?_,h.lay.gv hF⟩
 rotate_left 7
 ·obtain⟨p1,p2,p3,p4⟩:=h.Oe k v hpk
  refine⟨p1,p2,p3,(P9 k fun hk=> ?_).trans p4⟩
  simp only[dZ,mz] at hk
  obtain⟨t,_,rfl⟩:=hk
  cases AD:o.dst with
  |none=>rw[AD] at p1;simp at p1
  |some d=>
   rw[AD] at p1
   have h1:d<σ.n:=hd d AD
   have h2:2000000<=d:=p1
   exact Nat.lt_irrefl _ (zds (zds h1 p3) (uN (by decide:1000000<=2000000) h2))
 ·rw[ak'];exact h.size
 ·rw[amP];exact h.defers
 ·intro s x hs
  rw[H2] at hs
  cases AD:o.dst with
  |none=>
   rw[AD] at hs
   exact(h.bG s x hs).move (fun k hk=>rh k (.inl ⟨s,x,hs,hk⟩)) hF
  |some d=>
   rw[AD] at hs
   simp only at hs
   by_cases IA:d=s
   ·rw[if_pos IA] at hs
    subst IA
    rw[amm _ _ _ (by rw[h.size];exact hd d AD)]
    exact PW x hs
   ·rw[if_neg IA] at hs
    rw[amn _ _ _ _ IA]
    exact(h.bG s x hs).move (fun k hk=>rh k (.inl ⟨s,x,hs,hk⟩)) hF
 ·intro k e he
  by_cases hn:k∈dZ o r\/k∈jW r
  ·exact(Ir k e (aaB o r σ k e he hn)).1
  ·simp only[not_or] at hn
   obtain⟨hk,fi⟩:=hold k e he hn.1 hn.2
   have h0:=h.dD k e fi
   rw[P9 k hn.1,tw k hn.1 hn.2]
   cases e with
   |arr x deep=>exact fe.gv h0 hF (fun b hb=>jA k _ hn.1 hn.2 hk fi b hb)
   |part x dead=>exact eK.gv h0 hF (fun b hb=>jA k _ hn.1 hn.2 hk fi b hb)
   |box cs=>
    obtain⟨b,cur,e',h1,h2,h3,h4⟩:=h0
    refine⟨b,cur,e',h1,?_,h3,h4.move (fun x hx k' cY=>rh k' (.inr ⟨k,cs,fi,x,hx,cY⟩)) hF⟩
    rw[jA k _ hn.1 hn.2 hk fi b (by simp[h3])];exact h2
 ·intro k k' e e' b fc he fi hb
  by_cases hn:k∈dZ o r\/k∈jW r
  ·refine SS k k' b fc hn ?_ hb
   by_cases wN:k'∈dZ o r\/k'∈jW r
   ·exact wN.elim .inl (fun e=> .inr (.inl e))
   ·simp only[not_or] at wN
    obtain⟨hk,Fe⟩:=hold k' e' fi wN.1 wN.2
    exact .inr (.inr ⟨hk,by simp[Fe]⟩)
  ·have Xz:=hn
   simp only[not_or] at hn
   obtain⟨hk,nX⟩:=hold k e he hn.1 hn.2
   by_cases wN:k'∈dZ o r\/k'∈jW r
   ·intro bj
    exact SS k' k b (Ne.symm fc) wN (.inr (.inr ⟨hk,by simp[nX]⟩)) bj hb
   ·simp only[not_or] at wN
    obtain⟨cY,abB⟩:=hold k' e' fi wN.1 wN.2
    rw[tw k hn.1 hn.2] at hb
    rw[tw k' wN.1 wN.2]
    exact h.apart k k' e e' b fc nX abB hb
 ·intro k e he
  by_cases hn:k∈dZ o r\/k∈jW r
  ·exact(Ir k e (aaB o r σ k e he hn)).2.1
  ·simp only[not_or] at hn
   obtain⟨hk,nX⟩:=hold k e he hn.1 hn.2
   rw[tw k hn.1 hn.2];exact h.nodup k e nX
 ·intro k e b he hb
  by_cases hn:k∈dZ o r\/k∈jW r
  ·exact(Ir k e (aaB o r σ k e he hn)).2.2 b hb
  ·simp only[not_or] at hn
   obtain⟨hk,nX⟩:=hold k e he hn.1 hn.2
   rw[tw k hn.1 hn.2] at hb
   obtain⟨h1,h2,h3⟩:=h.fT k e b nX hb
   exact⟨yL k e b hn.1 hn.2 hk nX hb,h2,by omega⟩
end AM
