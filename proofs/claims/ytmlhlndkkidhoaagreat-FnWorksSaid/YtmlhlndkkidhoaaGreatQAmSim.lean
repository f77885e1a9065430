/- THE ABSTRACT MACHINE: how its states stand to the model's; how an operation's outcome is laid into both. -/
import Derived.Test.YtmlhlndkkidhoaaGreatQAmRep
namespace AM
set_option linter.unusedVariables false
open Go
open Go.RowKit (Below)
variable{U:kZ}
theorem o6{a b:Key}:iJ a b=true↔a=b:=by
 obtain⟨a1,a2⟩:=a;obtain⟨b1,b2⟩:=b
 simp[iJ]
theorem yB(a:Key):iJ a a=true:=o6.2 rfl
theorem KF{a b:Key}:iJ a b=false↔a≠b:=by
 rw[<-yi,o6]
theorem rE{l:List Key}{k:Key}:l.any (iJ k)=true↔k∈l:=by
 simp[tZ,o6]
structure Pm where
 w0:World
 W:Nat->Prop
 F0:Nat->Prop
 LV:Key->Option Value
theorem gN.refl(W:Nat->Prop)(w:World):gN W w w:=⟨rfl,rfl,rfl,s_ _,fun _ _ _=>rfl⟩
theorem gN.trans{W:Nat->Prop}{a b c:World}(h:gN W a b)(k:gN (fun x=>W x\/a.heap.size<=x) b c):gN W a c:=
 ⟨k.os.trans h.os,k.tape.trans h.tape,k.output.trans h.output,wu h.size k.size,fun i hi hw=>
  (k.block i (zds hi h.size) (fun e=>e.elim hw (fun e=>by omega))).trans (h.block i hi hw)⟩
theorem gN.mono{W W':Nat->Prop}{a b:World}(h:gN W a b)(hw:∀i,W i->W' i):gN W' a b:=
 ⟨h.os,h.tape,h.output,h.size,fun i hi hn=>h.block i hi (fun e=>hn (hw i e))⟩
theorem gN.drew(W:Nat->Prop)(w:World):gN W w w.drew:=⟨rfl,rfl,rfl,s_ _,fun _ _ _=>rfl⟩
def bW(σ:ah U)(k:Key):Bool:=σ.aK.any (iJ k)||(σ.bJ k).isNone
def Names(σ:ah U)(k:Key):Prop:=
 (∃s x,σ.get s=some x/\k∈x.keys)\/(∃k' cs,σ.bJ k'=some (.box cs)/\∃x∈cs,k∈x.keys)
def Tj(E:Env U)(w:World)(F:Nat->Prop):Prop:=∀p∈E.Xr,F p.1/\∃e r,w.heap[p.1]? =some (.cells p.2 e r)
theorem Tj.f_{E:Env U}{w w':World}{F F':Nat->Prop}(h:Tj E w F)(hF:∀b,F b->F' b/\w'.heap[b]? =w.heap[b]?):Tj E w' F':=by
 intro p hp
 obtain⟨h1,e,r,h2⟩:=h p hp
 exact⟨(hF _ h1).1,e,r,(hF _ h1).2.trans h2⟩
structure cE(E:Env U)(pm:Pm)(F:Nat->Prop)(kv:Key->Value)(fp:Key->List Nat)(σ:ah U)(a:Act)(w:World):Prop where
 size:a.tmps.size=σ.n
 defers:a.defers=[]
 bz:∀s x,σ.get s=some x->RS E w F kv fp (bW σ) x (a.tmps.getD s undef)
 di:∀k e,σ.bJ k=some e->sE E w F kv fp (bW σ) e (kv k) (fp k)
 apart:∀k k' e e' b,k≠k'->σ.bJ k=some e->σ.bJ k'=some e'->b∈fp k->b∉fp k'
 nodup:∀k e,σ.bJ k=some e->(fp k).Nodup
 fK:∀k e b,σ.bJ k=some e->b∈fp k->¬F b/\(pm.W b\/pm.w0.heap.size<=b)/\b<w.heap.size
 sZ:∀b,F b->b<w.heap.size
 sY:∀b,F b->pm.F0 b\/pm.W b\/pm.w0.heap.size<=b
 upto:gN pm.W pm.w0 w
 LV:∀k v,pm.LV k=some v->2000000<=k.1/\k.2<1024/\σ.n<=1000000/\kv k=v
 lay:Tj E w F
def auk(E:Env U)(pm:Pm)(σ:ah U)(a:Act)(w:World):Prop:=∃F kv fp,cE E pm F kv fp σ a w
section move
variable{E:Env U}{w w':World}{F F':Nat->Prop}{kv kv':Key->Value}{fp fp':Key->List Nat}{bad bad':Key->Bool}
def pD(w w':World)(kv kv':Key->Value)(fp fp':Key->List Nat)(bad bad':Key->Bool)(k:Key):Prop:=
 kv' k=kv k/\(bad' k=true\/(bad k=false/\fp' k=fp k/\∀b∈fp k,w'.heap[b]? =w.heap[b]?))
theorem acp{w w':World}{S S':Nat->Prop}{v v':Value}(h:oE w S v [] v'):oE w' S' v [] v':=h
theorem RA.move{x:AC U}{v:Value}(h:RA E w F kv fp x v)(hk:∀k∈x.keys,pD w w' kv kv' fp fp' bad bad' k)
  (hF:∀b,F b->F' b/\w'.heap[b]? =w.heap[b]?):iG bad' x=true\/RA E w' F' kv' fp' x v:=by
 cases x with
 |c x=>exact .inr (Rp.f_ h hF (by simp))
 |e0=>exact .inr h
 |ref k p=>
  obtain⟨h1,h2⟩:=hk k (by simp[AC.keys])
  simp only[RA,iG] at h⊢
  cases p with
  |nil=>rw[h1];exact .inr (acp h)
  |cons s p=>
   rcases h2 with h2|⟨_,h3,h4⟩
   ·exact .inl (by simp[h2])
   ·rw[h1,h3];exact .inr (h.f_ (fun b hb=>hb.elim (fun e=>⟨.inl (hF b e).1,(hF b e).2⟩) (fun e=>⟨.inr e,h4 b e⟩)))
 |sub k wd lo hi=>
  obtain⟨h1,h2⟩:=hk k (by simp[AC.keys])
  simp only[RA] at h⊢;rw[h1];exact .inr h
 |lg k p i wd off=>
  obtain⟨h1,h2⟩:=hk k (by simp[AC.keys])
  simp only[RA,iG] at h⊢
  obtain⟨b,o,n,c,h3,h4⟩:=h
  cases p with
  |nil=>rw[h1];exact .inr ⟨b,o,n,c,acp h3,h4⟩
  |cons s p=>
   rcases h2 with h2|⟨_,h5,h6⟩
   ·exact .inl (by simp[h2])
   ·rw[h1,h5];exact .inr ⟨b,o,n,c,h3.f_ (fun b hb=>hb.elim (fun e=>⟨.inl (hF b e).1,(hF b e).2⟩) (fun e=>⟨.inr e,h6 b e⟩)),h4⟩
 |kc k off=>
  obtain⟨h1,h2⟩:=hk k (by simp[AC.keys])
  simp only[RA] at h⊢;rw[h1];exact .inr h
 |kn b τ xs=>exact .inr ⟨h.1.f_ hF (by simp),h.2⟩
 |ia cs=>
  obtain⟨b,o,h1,h2,h3⟩:=h
  refine .inr ⟨b,o,h1,(hF b h2).1,fun j c hj=> ?_⟩
  obtain⟨u,h4,h5⟩:=h3 j c hj
  refine⟨u,?_,h5.f_ hF (by simp)⟩
  rw[World.cell?_of_block (w:=w) (a:=⟨b,o+j,none⟩) (hF b h2).2];exact h4
theorem RD.move{x:AC U}{v:Value}(h:RD E w F kv fp bad x v)(hk:∀k∈x.keys,pD w w' kv kv' fp fp' bad bad' k)
  (hF:∀b,F b->F' b/\w'.heap[b]? =w.heap[b]?):RD E w' F' kv' fp' bad' x v:=by
 refine⟨h.1,?_⟩
 rcases h.2 with h2|h2
 ·refine .inl ?_
  cases x<;>simp only[iG,cK] at h2⊢<;>try (cases h2;done)
  all_goals
   obtain⟨_,h3⟩:=hk _ (ma.2 rfl)
   refine⟨h2.1,?_⟩
   rcases h3 with h3|h3
   ·exact h3
   ·rw[h3.1] at h2;simp at h2
 ·exact h2.move hk hF
theorem ly.move{xs:List (AC U)}{vs:List Value}(h:ly E w F kv fp bad xs vs)(hk:∀x∈xs,∀k∈x.keys,pD w w' kv kv' fp fp' bad bad' k)
  (hF:∀b,F b->F' b/\w'.heap[b]? =w.heap[b]?):ly E w' F' kv' fp' bad' xs vs:=
 ⟨h.1,fun i x v hx hv=>(h.2 i x v hx hv).move (hk x (EM hx)) hF⟩
theorem RV.move{x:AV U}{v:Value}(h:RV E w F kv fp bad x v)(hk:∀y∈x.cs,∀k∈y.keys,pD w w' kv kv' fp fp' bad bad' k)
  (hF:∀b,F b->F' b/\w'.heap[b]? =w.heap[b]?):RV E w' F' kv' fp' bad' x v:=by
 obtain⟨vs,h1,h2⟩:=h
 exact⟨vs,h1.move hk hF,h2⟩
theorem SV.mem_keys{x:SV U}{k:Key}:k∈x.keys↔∃y∈x.AQ,k∈y.keys:=by simp[SV.keys]
theorem RS.move{x:SV U}{v:Value}(h:RS E w F kv fp bad x v)(hk:∀k∈x.keys,pD w w' kv kv' fp fp' bad bad' k)
  (hF:∀b,F b->F' b/\w'.heap[b]? =w.heap[b]?):RS E w' F' kv' fp' bad' x v:=by
 cases x with
 |v x=>exact RV.move h (fun y hy k C_=>hk k (SV.mem_keys.2 ⟨y,hy,C_⟩)) hF
 |vf xs=>
  obtain⟨vs,h1,h2,h3⟩:=h
  refine⟨vs,h1,h2,fun i x u hx hu=>(h3 i x u hx hu).move (fun y hy k C_=>hk k (SV.mem_keys.2 ⟨y,?_,C_⟩)) hF⟩
  exact nT.2 ⟨x,EM hx,hy⟩
 |fn p=>exact nj.f_ h hF
 |FE g xs=>
  obtain⟨vs,h1,h2,h3⟩:=h
  refine⟨vs,h1,h2,fun i x u hx hu=>(h3 i x u hx hu).move (fun y hy k C_=>hk k (SV.mem_keys.2 ⟨y,?_,C_⟩)) hF⟩
  exact nT.2 ⟨x,EM hx,hy⟩
end move
theorem Ga(o:Oper)(r:cd U)(σ:ah U)(s:Nat):
  (apply o r σ).get s=match o.dst with|some d=>if d=s then r.val else σ.get s|none=>σ.get s:=by
 unfold ah.get apply
 cases o.dst with
 |none=>rfl
 |some d=>
  simp only[look]
  by_cases h:d=s
  ·subst h;simp
  ·simp only[h,if_false]
   cases hb:Nat.beq d s
   ·rfl
   ·exact absurd (mM hb) h
theorem Er{β:Type}(l r:List (Key×Option β))(k:Key):eD (l++r) k=if l.any (fun p=>iJ p.1 k) then eD l k else eD r k:=by
 induction l with
 |nil=>simp
 |cons p l ih=>
  obtain⟨t,v⟩:=p
  simp only[zex,eD,Tk]
  rcases Bool.eq_false_or_eq_true (iJ t k) with h|h
  ·simp[h]
  ·simp only[h,cond_false,FT];exact ih
def dG(o:Oper)(r:cd U):List Key:=r.dG.map fun(j,_)=>(o.dst.getD 1000000,j)
def jE(r:cd U):List Key:=r.jE.map (·.1)
theorem X0(o:Oper)(r:cd U)(σ:ah U)(k:Key)(h1:k∉dG o r)(h2:k∉jE r)(h3:k∉r.k_):
  (apply o r σ).bJ k=σ.bJ k:=by
 unfold ah.bJ apply
 simp only[wB]
 rw[Er,if_neg,Er,if_neg,Er,if_neg]
 ·intro h
  simp only[On,tZ,Function.comp] at h
  obtain⟨x,hx,hk⟩:=h
  exact h3 (by rw[<-o6.1 hk];exact hx)
 ·intro h
  simp only[On,tZ,Function.comp] at h
  obtain⟨x,hx,hk⟩:=h
  exact h2 (by rw[<-o6.1 hk];exact lB.2 ⟨x,hx,rfl⟩)
 ·intro h
  simp only[pa,On,tZ,Function.comp] at h
  obtain⟨x,hx,hk⟩:=h
  exact h1 (by rw[<-o6.1 hk];exact lB.2 ⟨x,hx,rfl⟩)
theorem amK{β:Type}(l:List Key)(k:Key):eD (l.map fun k=>(k,(none:Option β))) k=none:=by
 induction l with
 |nil=>rfl
 |cons a l ih=>simp only[uY,eD];cases iJ a k<;>simp[ih]
theorem X2(o:Oper)(r:cd U)(σ:ah U)(k:Key)(h1:k∉dG o r)(h2:k∉jE r)(h3:k∈r.k_):
  (apply o r σ).bJ k=none:=by
 unfold ah.bJ apply
 simp only[wB]
 rw[Er,if_neg,Er,if_neg,Er,if_pos,amK]
 ·simp only[On,tZ,Function.comp]
  exact⟨k,h3,yB k⟩
 ·intro h
  simp only[On,tZ,Function.comp] at h
  obtain⟨x,hx,hk⟩:=h
  exact h2 (by rw[<-o6.1 hk];exact lB.2 ⟨x,hx,rfl⟩)
 ·intro h
  simp only[pa,On,tZ,Function.comp] at h
  obtain⟨x,hx,hk⟩:=h
  exact h1 (by rw[<-o6.1 hk];exact lB.2 ⟨x,hx,rfl⟩)
theorem CB{β:Type}{l:List (Key×Option β)}{k:Key}{e:β}(h:eD l k=some e):(k,some e)∈l:=by
 induction l with
 |nil=>cases h
 |cons p l ih=>
  obtain⟨t,v⟩:=p
  simp only[eD] at h
  cases ht:iJ t k<;>simp only[ht,cond_true,cond_false] at h
  ·exact cA _ (ih h)
  ·rw[<-o6.1 ht,h];exact gj
theorem X1(o:Oper)(r:cd U)(σ:ah U)(k:Key)(e:iv U)(h:(apply o r σ).bJ k=some e)(hk:k∈dG o r\/k∈jE r):
  (∃j,k=(o.dst.getD 1000000,j)/\(j,e)∈r.dG)\/(k,e)∈r.jE:=by
 unfold ah.bJ apply at h
 simp only[wB] at h
 rw[Er] at h
 split at h
 ·have:=CB h
  simp only[pa,lB,ox,gx] at this
  obtain⟨⟨j,e'⟩,hm,rfl,rfl⟩:=this
  exact .inl ⟨j,rfl,hm⟩
 ·rename_i Tc
  have hu:k∈jE r:=by
   refine hk.resolve_left (fun ha=>Tc ?_)
   simp only[dG,lB] at ha
   obtain⟨x,hx,rfl⟩:=ha
   simp only[pa,On,tZ,Function.comp]
   exact⟨x,hx,yB _⟩
  rw[Er,if_pos] at h
  ·have:=CB h
   simp only[lB,ox,gx] at this
   obtain⟨⟨k',e'⟩,hm,rfl,rfl⟩:=this
   exact .inr hm
  ·simp only[jE,lB] at hu
   obtain⟨x,hx,rfl⟩:=hu
   simp only[On,tZ,Function.comp]
   exact⟨x,hx,yB _⟩
theorem amU(a:Act)(d:Nat)(v:Value)(hd:d<a.tmps.size):(a.put (some d) v).tmps.getD d undef=v:=by
 simp[Act.put,Ot,hd]
theorem amV(a:Act)(d s:Nat)(v:Value)(hd:d≠s):(a.put (some d) v).tmps.getD s undef=a.tmps.getD s undef:=by
 simp[Act.put,Ot,Array.getElem?_setIfInBounds_ne hd]
theorem alJ(a:Act)(d:Option Nat)(v:Value):(a.put d v).tmps.size=a.tmps.size:=by cases d<;>simp[Act.put]
theorem anm(a:Act)(d:Option Nat)(v:Value):(a.put d v).defers=a.defers:=by cases d<;>simp[Act.put]
theorem cE.apply{E:Env U}{pm:Pm}{F F':Nat->Prop}{kv kv':Key->Value}{fp fp':Key->List Nat}{σ:ah U}{a:Act}{w w':World}
  (h:cE E pm F kv fp σ a w) (o:Oper) (r:cd U) (v:Value)
  (hd:∀d,o.dst=some d->d<σ.n)
  (Nl:∀sv,r.val=some sv->RS E w' F' kv' fp' (bW (AM.apply o r σ)) sv v)
  (Ny:∀k,k∉dG o r->kv' k=kv k)
  (rM:∀k,k∉dG o r->k∉jE r->fp' k=fp k)
  (Y5:∀k∈dG o r,¬Names σ k)
  (hF:∀b,F b->F' b/\w'.heap[b]? =w.heap[b]?)
  (jf:∀k e,k∉dG o r->k∉jE r->k∉r.k_->σ.bJ k=some e->∀b∈fp k,w'.heap[b]? =w.heap[b]?)
  (GB:∀k e,((∃j,k=(o.dst.getD 1000000,j)/\(j,e)∈r.dG)\/(k,e)∈r.jE)->sE E w' F' kv' fp' (bW (AM.apply o r σ)) e (kv' k) (fp' k)/\(fp' k).Nodup/\
   ∀b∈fp' k,¬F' b/\(pm.W b\/pm.w0.heap.size<=b)/\b<w'.heap.size)
  (w9:∀k e b,k∉dG o r->k∉jE r->k∉r.k_->σ.bJ k=some e->b∈fp k->¬F' b)
  (Qe:∀k k' b,k≠k'->(k∈dG o r\/k∈jE r)->(k'∈dG o r\/k'∈jE r\/(k'∉r.k_/\(σ.bJ k').isSome))->b∈fp' k->b∉fp' k')
  (aoB:∀b,F' b->b<w'.heap.size) (adN:∀b,F' b->pm.F0 b\/pm.W b\/pm.w0.heap.size<=b)
  (pE:gN pm.W pm.w0 w') (wy:w.heap.size<=w'.heap.size):
  cE E pm F' kv' fp' (AM.apply o r σ) (a.put o.dst v) w':=by
 have p9:∀k,Names σ k->pD w w' kv kv' fp fp' (bW σ) (bW (AM.apply o r σ)) k:=by
  intro k hn
  have Tc:k∉dG o r:=fun e=>Y5 k e hn
  refine⟨Ny k Tc,?_⟩
  by_cases hu:k∈jE r
  ·left
   have:(AM.apply o r σ).aK.any (iJ k)=true:=rE.2 (by simp only[AM.apply,jr];exact .inl hu)
   simp[bW,this]
  ·by_cases hk:k∈r.k_
   ·left
    simp[bW,X2 o r σ k Tc hu hk]
   ·have he:=X0 o r σ k Tc hu hk
    have K7:(AM.apply o r σ).aK.any (iJ k)=σ.aK.any (iJ k):=by
     rw[H2,rE,rE]
     simp only[AM.apply,jr]
     exact⟨fun e=>e.resolve_left hu,.inr⟩
    cases hb:bW σ k
    ·right
     refine⟨rfl,rM k Tc hu,?_⟩
     simp only[bW,Oc] at hb
     obtain⟨e,hee⟩:∃e,σ.bJ k=some e:=by
      cases hx:σ.bJ k with
      |none=>rw[hx] at hb;simp at hb
      |some e=>exact⟨e,rfl⟩
     exact jf k e Tc hu hk hee
    ·left
     simp only[bW] at hb⊢
     rw[he,K7];exact hb
 have hold:∀k e,(AM.apply o r σ).bJ k=some e->k∉dG o r->k∉jE r->k∉r.k_/\σ.bJ k=some e:=by
  intro k e he h1 h2
  by_cases hk:k∈r.k_
  ·rw[X2 o r σ k h1 h2 hk] at he;cases he
  ·exact⟨hk,by rw[<-X0 o r σ k h1 h2 hk];exact he⟩
 refine⟨?_,?_,?_,?_,?_,?_,?_,aoB,adN,pE,fun k v hpk=> ?_,h.lay.f_ hF⟩
 rotate_left 7
 ·obtain⟨p1,p2,p3,p4⟩:=h.LV k v hpk
  refine⟨p1,p2,p3,(Ny k fun hk=> ?_).trans p4⟩
  simp only[dG,lB] at hk
  obtain⟨t,_,rfl⟩:=hk
  cases yW:o.dst with
  |none=>rw[yW] at p1;simp at p1
  |some d=>
   rw[yW] at p1
   have h1:d<σ.n:=hd d yW
   have h2:2000000<=d:=p1
   exact Nat.lt_irrefl _ (zds (zds h1 p3) (wu (by decide:1000000<=2000000) h2))
 ·rw[alJ];exact h.size
 ·rw[anm];exact h.defers
 ·intro s x hs
  rw[Ga] at hs
  cases yW:o.dst with
  |none=>
   rw[yW] at hs
   exact(h.bz s x hs).move (fun k hk=>p9 k (.inl ⟨s,x,hs,hk⟩)) hF
  |some d=>
   rw[yW] at hs
   simp only at hs
   by_cases GL:d=s
   ·rw[if_pos GL] at hs
    subst GL
    rw[amU _ _ _ (by rw[h.size];exact hd d yW)]
    exact Nl x hs
   ·rw[if_neg GL] at hs
    rw[amV _ _ _ _ GL]
    exact(h.bz s x hs).move (fun k hk=>p9 k (.inl ⟨s,x,hs,hk⟩)) hF
 ·intro k e he
  by_cases hn:k∈dG o r\/k∈jE r
  ·exact(GB k e (X1 o r σ k e he hn)).1
  ·simp only[not_or] at hn
   obtain⟨hk,e8⟩:=hold k e he hn.1 hn.2
   have h0:=h.di k e e8
   rw[Ny k hn.1,rM k hn.1 hn.2]
   cases e with
   |arr x deep=>exact eW.f_ h0 hF (fun b hb=>jf k _ hn.1 hn.2 hk e8 b hb)
   |part x dead=>exact eo.f_ h0 hF (fun b hb=>jf k _ hn.1 hn.2 hk e8 b hb)
   |box cs=>
    obtain⟨b,cur,e',h1,h2,h3,h4⟩:=h0
    refine⟨b,cur,e',h1,?_,h3,h4.move (fun x hx k' cO=>p9 k' (.inr ⟨k,cs,e8,x,hx,cO⟩)) hF⟩
    rw[jf k _ hn.1 hn.2 hk e8 b (by simp[h3])];exact h2
 ·intro k k' e e' b eO he e8 hb
  by_cases hn:k∈dG o r\/k∈jE r
  ·refine Qe k k' b eO hn ?_ hb
   by_cases u7:k'∈dG o r\/k'∈jE r
   ·exact u7.elim .inl (fun e=> .inr (.inl e))
   ·simp only[not_or] at u7
    obtain⟨hk,Dc⟩:=hold k' e' e8 u7.1 u7.2
    exact .inr (.inr ⟨hk,by simp[Dc]⟩)
  ·have V9:=hn
   simp only[not_or] at hn
   obtain⟨hk,om⟩:=hold k e he hn.1 hn.2
   by_cases u7:k'∈dG o r\/k'∈jE r
   ·intro bf
    exact Qe k' k b (Ne.symm eO) u7 (.inr (.inr ⟨hk,by simp[om]⟩)) bf hb
   ·simp only[not_or] at u7
    obtain⟨cO,Y'⟩:=hold k' e' e8 u7.1 u7.2
    rw[rM k hn.1 hn.2] at hb
    rw[rM k' u7.1 u7.2]
    exact h.apart k k' e e' b eO om Y' hb
 ·intro k e he
  by_cases hn:k∈dG o r\/k∈jE r
  ·exact(GB k e (X1 o r σ k e he hn)).2.1
  ·simp only[not_or] at hn
   obtain⟨hk,om⟩:=hold k e he hn.1 hn.2
   rw[rM k hn.1 hn.2];exact h.nodup k e om
 ·intro k e b he hb
  by_cases hn:k∈dG o r\/k∈jE r
  ·exact(GB k e (X1 o r σ k e he hn)).2.2 b hb
  ·simp only[not_or] at hn
   obtain⟨hk,om⟩:=hold k e he hn.1 hn.2
   rw[rM k hn.1 hn.2] at hb
   obtain⟨h1,h2,h3⟩:=h.fK k e b om hb
   exact⟨w9 k e b hn.1 hn.2 hk om hb,h2,by omega⟩
end AM
