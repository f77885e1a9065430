/- THE ABSTRACT MACHINE: how its states stand to the model's; how an operation's outcome is laid into both. -/
import Derived.Test.YtceiiofmelhipaaGreatAmRep
namespace AM
set_option linter.unusedVariables false
open Go
open Go.RowKit (Below)
variable{U:Uni}
theorem qagi{a b:Key}:keq a b=true↔a=b:=by
 obtain⟨a1,a2⟩:=a;obtain⟨b1,b2⟩:=b
 simp[keq]
theorem qagj(a:Key):keq a a=true:=qagi.2 rfl
theorem qagh{a b:Key}:keq a b=false↔a≠b:=by
 rw[←zbj,qagi]
theorem qaaw{l:List Key}{k:Key}:l.any (keq k)=true↔k∈l:=by
 simp[zbb,qagi]
structure Pm where
 w0:World
 W:Nat→Prop
 F0:Nat→Prop
 pin:Key→Option Value
theorem Upto.refl(W:Nat→Prop)(w:World):Upto W w w:=⟨rfl,rfl,rfl,zca _,fun _ _ _=>rfl⟩
theorem Upto.trans{W:Nat→Prop}{a b c:World}(h:Upto W a b)(k:Upto (fun x=>W x∨a.heap.size≤x) b c):Upto W a c:=
 ⟨k.os.trans h.os,k.tape.trans h.tape,k.output.trans h.output,zde h.size k.size,fun i hi hw=>
  (k.block i (zds hi h.size) (fun e=>e.elim hw (fun e=>by omega))).trans (h.block i hi hw)⟩
theorem Upto.mono{W W':Nat→Prop}{a b:World}(h:Upto W a b)(hw:∀i,W i→W' i):Upto W' a b:=
 ⟨h.os,h.tape,h.output,h.size,fun i hi hn=>h.block i hi (fun e=>hn (hw i e))⟩
theorem Upto.drew(W:Nat→Prop)(w:World):Upto W w w.drew:=⟨rfl,rfl,rfl,zca _,fun _ _ _=>rfl⟩
def badK(σ:AState U)(k:Key):Bool:=σ.dirty.any (keq k)||(σ.ent k).isNone
def Names(σ:AState U)(k:Key):Prop:=
 (∃s x,σ.get s=some x∧k∈x.keys)∨(∃k' cs,σ.ent k'=some (.box cs)∧∃x∈cs,k∈x.keys)
def Lay(E:Env U)(w:World)(F:Nat→Prop):Prop:=∀p∈E.tabs,F p.1∧∃e r,w.heap[p.1]? =some (.cells p.2 e r)
theorem Lay.keep{E:Env U}{w w':World}{F F':Nat→Prop}(h:Lay E w F)(hF:∀b,F b→F' b∧w'.heap[b]? =w.heap[b]?):Lay E w' F':=by
 intro p hp
 obtain⟨h1,e,r,h2⟩:=h p hp
 exact⟨(hF _ h1).1,e,r,(hF _ h1).2.trans h2⟩
structure Sim(E:Env U)(pm:Pm)(F:Nat→Prop)(kv:Key→Value)(fp:Key→List Nat)(σ:AState U)(a:Act)(w:World):Prop where
 size:a.tmps.size=σ.n
 defers:a.defers=[]
 slots:∀s x,σ.get s=some x→RS E w F kv fp (badK σ) x (a.tmps.getD s undef)
 ents:∀k e,σ.ent k=some e→REnt E w F kv fp (badK σ) e (kv k) (fp k)
 apart:∀k k' e e' b,k≠k'→σ.ent k=some e→σ.ent k'=some e'→b∈fp k→b∉fp k'
 nodup:∀k e,σ.ent k=some e→(fp k).Nodup
 mine:∀k e b,σ.ent k=some e→b∈fp k→¬F b∧(pm.W b∨pm.w0.heap.size≤b)∧b<w.heap.size
 Flt:∀b,F b→b<w.heap.size
 Fsub:∀b,F b→pm.F0 b∨pm.W b∨pm.w0.heap.size≤b
 upto:Upto pm.W pm.w0 w
 pin:∀k v,pm.pin k=some v→2000000≤k.1∧k.2<1024∧σ.n≤1000000∧kv k=v
 lay:Lay E w F
def SimE(E:Env U)(pm:Pm)(σ:AState U)(a:Act)(w:World):Prop:=∃F kv fp,Sim E pm F kv fp σ a w
section move
variable{E:Env U}{w w':World}{F F':Nat→Prop}{kv kv':Key→Value}{fp fp':Key→List Nat}{bad bad':Key→Bool}
def Stays(w w':World)(kv kv':Key→Value)(fp fp':Key→List Nat)(bad bad':Key→Bool)(k:Key):Prop:=
 kv' k=kv k∧(bad' k=true∨(bad k=false∧fp' k=fp k∧∀b∈fp k,w'.heap[b]? =w.heap[b]?))
theorem qaiu{w w':World}{S S':Nat→Prop}{v v':Value}(h:navS w S v [] v'):navS w' S' v [] v':=h
theorem RA.move{x:AC U}{v:Value}(h:RA E w F kv fp x v)(hk:∀k∈x.keys,Stays w w' kv kv' fp fp' bad bad' k)
  (hF:∀b,F b→F' b∧w'.heap[b]? =w.heap[b]?):badAC bad' x=true∨RA E w' F' kv' fp' x v:=by
 cases x with
 |c x=>exact .inr (Rp.keep h hF (by simp))
 |e0=>exact .inr h
 |ref k p=>
  obtain⟨h1,h2⟩:=hk k (by simp[AC.keys])
  simp only[RA,badAC] at h⊢
  cases p with
  |nil=>rw[h1];exact .inr (qaiu h)
  |cons s p=>
   rcases h2 with h2|⟨_,h3,h4⟩
   ·exact .inl (by simp[h2])
   ·rw[h1,h3];exact .inr (h.keep (fun b hb=>hb.elim (fun e=>⟨.inl (hF b e).1,(hF b e).2⟩) (fun e=>⟨.inr e,h4 b e⟩)))
 |sub k wd lo hi=>
  obtain⟨h1,h2⟩:=hk k (by simp[AC.keys])
  simp only[RA] at h⊢;rw[h1];exact .inr h
 |eptr k p i wd off=>
  obtain⟨h1,h2⟩:=hk k (by simp[AC.keys])
  simp only[RA,badAC] at h⊢
  obtain⟨b,o,n,c,h3,h4⟩:=h
  cases p with
  |nil=>rw[h1];exact .inr ⟨b,o,n,c,qaiu h3,h4⟩
  |cons s p=>
   rcases h2 with h2|⟨_,h5,h6⟩
   ·exact .inl (by simp[h2])
   ·rw[h1,h5];exact .inr ⟨b,o,n,c,h3.keep (fun b hb=>hb.elim (fun e=>⟨.inl (hF b e).1,(hF b e).2⟩) (fun e=>⟨.inr e,h6 b e⟩)),h4⟩
 |bptr k off=>
  obtain⟨h1,h2⟩:=hk k (by simp[AC.keys])
  simp only[RA] at h⊢;rw[h1];exact .inr h
 |kn b τ xs=>exact .inr ⟨h.1.keep hF (by simp),h.2⟩
 |ia cs=>
  obtain⟨b,o,h1,h2,h3⟩:=h
  refine .inr ⟨b,o,h1,(hF b h2).1,fun j c hj=> ?_⟩
  obtain⟨u,h4,h5⟩:=h3 j c hj
  refine⟨u,?_,h5.keep hF (by simp)⟩
  rw[World.cell?_of_block (w:=w) (a:=⟨b,o+j,none⟩) (hF b h2).2];exact h4
theorem RD.move{x:AC U}{v:Value}(h:RD E w F kv fp bad x v)(hk:∀k∈x.keys,Stays w w' kv kv' fp fp' bad bad' k)
  (hF:∀b,F b→F' b∧w'.heap[b]? =w.heap[b]?):RD E w' F' kv' fp' bad' x v:=by
 refine⟨h.1,?_⟩
 rcases h.2 with h2|h2
 ·refine .inl ?_
  cases x<;>simp only[badAC,zaf] at h2⊢<;>try (cases h2;done)
  all_goals
   obtain⟨_,h3⟩:=hk _ (zau.2 rfl)
   refine⟨h2.1,?_⟩
   rcases h3 with h3|h3
   ·exact h3
   ·rw[h3.1] at h2;simp at h2
 ·exact h2.move hk hF
theorem RDs.move{xs:List (AC U)}{vs:List Value}(h:RDs E w F kv fp bad xs vs)(hk:∀x∈xs,∀k∈x.keys,Stays w w' kv kv' fp fp' bad bad' k)
  (hF:∀b,F b→F' b∧w'.heap[b]? =w.heap[b]?):RDs E w' F' kv' fp' bad' xs vs:=
 ⟨h.1,fun i x v hx hv=>(h.2 i x v hx hv).move (hk x (zbl hx)) hF⟩
theorem RV.move{x:AV U}{v:Value}(h:RV E w F kv fp bad x v)(hk:∀y∈x.cs,∀k∈y.keys,Stays w w' kv kv' fp fp' bad bad' k)
  (hF:∀b,F b→F' b∧w'.heap[b]? =w.heap[b]?):RV E w' F' kv' fp' bad' x v:=by
 obtain⟨vs,h1,h2⟩:=h
 exact⟨vs,h1.move hk hF,h2⟩
theorem SV.mem_keys{x:SV U}{k:Key}:k∈x.keys↔∃y∈x.acs,k∈y.keys:=by simp[SV.keys]
theorem RS.move{x:SV U}{v:Value}(h:RS E w F kv fp bad x v)(hk:∀k∈x.keys,Stays w w' kv kv' fp fp' bad bad' k)
  (hF:∀b,F b→F' b∧w'.heap[b]? =w.heap[b]?):RS E w' F' kv' fp' bad' x v:=by
 cases x with
 |v x=>exact RV.move h (fun y hy k hkk=>hk k (SV.mem_keys.2 ⟨y,hy,hkk⟩)) hF
 |tup xs=>
  obtain⟨vs,h1,h2,h3⟩:=h
  refine⟨vs,h1,h2,fun i x u hx hu=>(h3 i x u hx hu).move (fun y hy k hkk=>hk k (SV.mem_keys.2 ⟨y,?_,hkk⟩)) hF⟩
  exact zat.2 ⟨x,zbl hx,hy⟩
 |fn p=>exact FnSpec.keep h hF
 |clo g xs=>
  obtain⟨vs,h1,h2,h3⟩:=h
  refine⟨vs,h1,h2,fun i x u hx hu=>(h3 i x u hx hu).move (fun y hy k hkk=>hk k (SV.mem_keys.2 ⟨y,?_,hkk⟩)) hF⟩
  exact zat.2 ⟨x,zbl hx,hy⟩
end move
theorem qafu(o:Oper)(r:Rslt U)(σ:AState U)(s:Nat):
  (apply o r σ).get s=match o.dst with|some d=>if d=s then r.val else σ.get s|none=>σ.get s:=by
 unfold AState.get apply
 cases o.dst with
 |none=>rfl
 |some d=>
  simp only[look]
  by_cases h:d=s
  ·subst h;simp
  ·simp only[h,if_false]
   cases hb:Nat.beq d s
   ·rfl
   ·exact absurd (zai hb) h
theorem qagx{β:Type}(l r:List (Key×Option β))(k:Key):lookK (l++r) k=if l.any (fun p=>keq p.1 k) then lookK l k else lookK r k:=by
 induction l with
 |nil=>simp
 |cons p l ih=>
  obtain⟨t,v⟩:=p
  simp only[zex,lookK,zeg]
  rcases Bool.eq_false_or_eq_true (keq t k) with h|h
  ·simp[h]
  ·simp only[h,cond_false,zcw];exact ih
def adds(o:Oper)(r:Rslt U):List Key:=r.adds.map fun(j,_)=>(o.dst.getD 1000000,j)
def upds(r:Rslt U):List Key:=r.upds.map (·.1)
theorem qadp(o:Oper)(r:Rslt U)(σ:AState U)(k:Key)(h1:k∉adds o r)(h2:k∉upds r)(h3:k∉r.kills):
  (apply o r σ).ent k=σ.ent k:=by
 unfold AState.ent apply
 simp only[zbr]
 rw[qagx,if_neg,qagx,if_neg,qagx,if_neg]
 ·intro h
  simp only[zdo,zbb,Function.comp] at h
  obtain⟨x,hx,hk⟩:=h
  exact h3 (by rw[←qagi.1 hk];exact hx)
 ·intro h
  simp only[zdo,zbb,Function.comp] at h
  obtain⟨x,hx,hk⟩:=h
  exact h2 (by rw[←qagi.1 hk];exact zaz.2 ⟨x,hx,rfl⟩)
 ·intro h
  simp only[mkAdds,zdo,zbb,Function.comp] at h
  obtain⟨x,hx,hk⟩:=h
  exact h1 (by rw[←qagi.1 hk];exact zaz.2 ⟨x,hx,rfl⟩)
theorem qahb{β:Type}(l:List Key)(k:Key):lookK (l.map fun k=>(k,(none:Option β))) k=none:=by
 induction l with
 |nil=>rfl
 |cons a l ih=>simp only[zbt,lookK];cases keq a k<;>simp[ih]
theorem qadn(o:Oper)(r:Rslt U)(σ:AState U)(k:Key)(h1:k∉adds o r)(h2:k∉upds r)(h3:k∈r.kills):
  (apply o r σ).ent k=none:=by
 unfold AState.ent apply
 simp only[zbr]
 rw[qagx,if_neg,qagx,if_neg,qagx,if_pos,qahb]
 ·simp only[zdo,zbb,Function.comp]
  exact⟨k,h3,qagj k⟩
 ·intro h
  simp only[zdo,zbb,Function.comp] at h
  obtain⟨x,hx,hk⟩:=h
  exact h2 (by rw[←qagi.1 hk];exact zaz.2 ⟨x,hx,rfl⟩)
 ·intro h
  simp only[mkAdds,zdo,zbb,Function.comp] at h
  obtain⟨x,hx,hk⟩:=h
  exact h1 (by rw[←qagi.1 hk];exact zaz.2 ⟨x,hx,rfl⟩)
theorem qaha{β:Type}{l:List (Key×Option β)}{k:Key}{e:β}(h:lookK l k=some e):(k,some e)∈l:=by
 induction l with
 |nil=>cases h
 |cons p l ih=>
  obtain⟨t,v⟩:=p
  simp only[lookK] at h
  cases ht:keq t k<;>simp only[ht,cond_true,cond_false] at h
  ·exact zaa _ (ih h)
  ·rw[←qagi.1 ht,h];exact zab
theorem qado(o:Oper)(r:Rslt U)(σ:AState U)(k:Key)(e:Ent U)(h:(apply o r σ).ent k=some e)(hk:k∈adds o r∨k∈upds r):
  (∃j,k=(o.dst.getD 1000000,j)∧(j,e)∈r.adds)∨(k,e)∈r.upds:=by
 unfold AState.ent apply at h
 simp only[zbr] at h
 rw[qagx] at h
 split at h
 ·have:=qaha h
  simp only[mkAdds,zaz,zax,zae] at this
  obtain⟨⟨j,e'⟩,hm,rfl,rfl⟩:=this
  exact .inl ⟨j,rfl,hm⟩
 ·rename_i hna
  have hu:k∈upds r:=by
   refine hk.resolve_left (fun ha=>hna ?_)
   simp only[adds,zaz] at ha
   obtain⟨x,hx,rfl⟩:=ha
   simp only[mkAdds,zdo,zbb,Function.comp]
   exact⟨x,hx,qagj _⟩
  rw[qagx,if_pos] at h
  ·have:=qaha h
   simp only[zaz,zax,zae] at this
   obtain⟨⟨k',e'⟩,hm,rfl,rfl⟩:=this
   exact .inr hm
  ·simp only[upds,zaz] at hu
   obtain⟨x,hx,rfl⟩:=hu
   simp only[zdo,zbb,Function.comp]
   exact⟨x,hx,qagj _⟩
theorem qafr(a:Act)(d:Nat)(v:Value)(hd:d<a.tmps.size):(a.put (some d) v).tmps.getD d undef=v:=by
 simp[Act.put,zby,hd]
theorem qafq(a:Act)(d s:Nat)(v:Value)(hd:d≠s):(a.put (some d) v).tmps.getD s undef=a.tmps.getD s undef:=by
 simp[Act.put,zby,Array.getElem?_setIfInBounds_ne hd]
theorem qamk(a:Act)(d:Option Nat)(v:Value):(a.put d v).tmps.size=a.tmps.size:=by cases d<;>simp[Act.put]
theorem qada(a:Act)(d:Option Nat)(v:Value):(a.put d v).defers=a.defers:=by cases d<;>simp[Act.put]
theorem Sim.apply{E:Env U}{pm:Pm}{F F':Nat→Prop}{kv kv':Key→Value}{fp fp':Key→List Nat}{σ:AState U}{a:Act}{w w':World}
  (h:Sim E pm F kv fp σ a w) (o:Oper) (r:Rslt U) (v:Value)
  (hd:∀d,o.dst=some d→d<σ.n)
  (hval:∀sv,r.val=some sv→RS E w' F' kv' fp' (badK (AM.apply o r σ)) sv v)
  (hkv:∀k,k∉adds o r→kv' k=kv k)
  (hfp:∀k,k∉adds o r→k∉upds r→fp' k=fp k)
  (hfresh:∀k∈adds o r,¬Names σ k)
  (hF:∀b,F b→F' b∧w'.heap[b]? =w.heap[b]?)
  (hlive:∀k e,k∉adds o r→k∉upds r→k∉r.kills→σ.ent k=some e→∀b∈fp k,w'.heap[b]? =w.heap[b]?)
  (hnew:∀k e,((∃j,k=(o.dst.getD 1000000,j)∧(j,e)∈r.adds)∨(k,e)∈r.upds)→REnt E w' F' kv' fp' (badK (AM.apply o r σ)) e (kv' k) (fp' k)∧(fp' k).Nodup∧
   ∀b∈fp' k,¬F' b∧(pm.W b∨pm.w0.heap.size≤b)∧b<w'.heap.size)
  (hmine:∀k e b,k∉adds o r→k∉upds r→k∉r.kills→σ.ent k=some e→b∈fp k→¬F' b)
  (hapart:∀k k' b,k≠k'→(k∈adds o r∨k∈upds r)→(k'∈adds o r∨k'∈upds r∨(k'∉r.kills∧(σ.ent k').isSome))→b∈fp' k→b∉fp' k')
  (hFlt:∀b,F' b→b<w'.heap.size) (hFsub:∀b,F' b→pm.F0 b∨pm.W b∨pm.w0.heap.size≤b)
  (hup:Upto pm.W pm.w0 w') (hsz:w.heap.size≤w'.heap.size):
  Sim E pm F' kv' fp' (AM.apply o r σ) (a.put o.dst v) w':=by
 have hst:∀k,Names σ k→Stays w w' kv kv' fp fp' (badK σ) (badK (AM.apply o r σ)) k:=by
  intro k hn
  have hna:k∉adds o r:=fun e=>hfresh k e hn
  refine⟨hkv k hna,?_⟩
  by_cases hu:k∈upds r
  ·left
   have:(AM.apply o r σ).dirty.any (keq k)=true:=qaaw.2 (by simp only[AM.apply,zao];exact .inl hu)
   simp[badK,this]
  ·by_cases hk:k∈r.kills
   ·left
    simp[badK,qadn o r σ k hna hu hk]
   ·have he:=qadp o r σ k hna hu hk
    have hdirty:(AM.apply o r σ).dirty.any (keq k)=σ.dirty.any (keq k):=by
     rw[zcm,qaaw,qaaw]
     simp only[AM.apply,zao]
     exact⟨fun e=>e.resolve_left hu,.inr⟩
    cases hb:badK σ k
    ·right
     refine⟨rfl,hfp k hna hu,?_⟩
     simp only[badK,zcp] at hb
     obtain⟨e,hee⟩:∃e,σ.ent k=some e:=by
      cases hx:σ.ent k with
      |none=>rw[hx] at hb;simp at hb
      |some e=>exact⟨e,rfl⟩
     exact hlive k e hna hu hk hee
    ·left
     simp only[badK] at hb⊢
     rw[he,hdirty];exact hb
 have hold:∀k e,(AM.apply o r σ).ent k=some e→k∉adds o r→k∉upds r→k∉r.kills∧σ.ent k=some e:=by
  intro k e he h1 h2
  by_cases hk:k∈r.kills
  ·rw[qadn o r σ k h1 h2 hk] at he;cases he
  ·exact⟨hk,by rw[←qadp o r σ k h1 h2 hk];exact he⟩
 refine⟨?_,?_,?_,?_,?_,?_,?_,hFlt,hFsub,hup,fun k v hpk=> ?_,h.lay.keep hF⟩
 rotate_left 7
 ·obtain⟨p1,p2,p3,p4⟩:=h.pin k v hpk
  refine⟨p1,p2,p3,(hkv k fun hk=> ?_).trans p4⟩
  simp only[adds,zaz] at hk
  obtain⟨t,_,rfl⟩:=hk
  cases hdst:o.dst with
  |none=>rw[hdst] at p1;simp at p1
  |some d=>
   rw[hdst] at p1
   have h1:d<σ.n:=hd d hdst
   have h2:2000000≤d:=p1
   exact Nat.lt_irrefl _ (zds (zds h1 p3) (zde (by decide:1000000≤2000000) h2))
 ·rw[qamk];exact h.size
 ·rw[qada];exact h.defers
 ·intro s x hs
  rw[qafu] at hs
  cases hdst:o.dst with
  |none=>
   rw[hdst] at hs
   exact(h.slots s x hs).move (fun k hk=>hst k (.inl ⟨s,x,hs,hk⟩)) hF
  |some d=>
   rw[hdst] at hs
   simp only at hs
   by_cases hds:d=s
   ·rw[if_pos hds] at hs
    subst hds
    rw[qafr _ _ _ (by rw[h.size];exact hd d hdst)]
    exact hval x hs
   ·rw[if_neg hds] at hs
    rw[qafq _ _ _ _ hds]
    exact(h.slots s x hs).move (fun k hk=>hst k (.inl ⟨s,x,hs,hk⟩)) hF
 ·intro k e he
  by_cases hn:k∈adds o r∨k∈upds r
  ·exact(hnew k e (qado o r σ k e he hn)).1
  ·simp only[not_or] at hn
   obtain⟨hk,he'⟩:=hold k e he hn.1 hn.2
   have h0:=h.ents k e he'
   rw[hkv k hn.1,hfp k hn.1 hn.2]
   cases e with
   |arr x deep=>exact ROwn.keep h0 hF (fun b hb=>hlive k _ hn.1 hn.2 hk he' b hb)
   |part x dead=>exact ROwnP.keep h0 hF (fun b hb=>hlive k _ hn.1 hn.2 hk he' b hb)
   |box cs=>
    obtain⟨b,cur,e',h1,h2,h3,h4⟩:=h0
    refine⟨b,cur,e',h1,?_,h3,h4.move (fun x hx k' hk'=>hst k' (.inr ⟨k,cs,he',x,hx,hk'⟩)) hF⟩
    rw[hlive k _ hn.1 hn.2 hk he' b (by simp[h3])];exact h2
 ·intro k k' e e' b hne he he' hb
  by_cases hn:k∈adds o r∨k∈upds r
  ·refine hapart k k' b hne hn ?_ hb
   by_cases hn':k'∈adds o r∨k'∈upds r
   ·exact hn'.elim .inl (fun e=> .inr (.inl e))
   ·simp only[not_or] at hn'
    obtain⟨hk,he''⟩:=hold k' e' he' hn'.1 hn'.2
    exact .inr (.inr ⟨hk,by simp[he'']⟩)
  ·have hn0:=hn
   simp only[not_or] at hn
   obtain⟨hk,he0⟩:=hold k e he hn.1 hn.2
   by_cases hn':k'∈adds o r∨k'∈upds r
   ·intro hb'
    exact hapart k' k b (Ne.symm hne) hn' (.inr (.inr ⟨hk,by simp[he0]⟩)) hb' hb
   ·simp only[not_or] at hn'
    obtain⟨hk',he0'⟩:=hold k' e' he' hn'.1 hn'.2
    rw[hfp k hn.1 hn.2] at hb
    rw[hfp k' hn'.1 hn'.2]
    exact h.apart k k' e e' b hne he0 he0' hb
 ·intro k e he
  by_cases hn:k∈adds o r∨k∈upds r
  ·exact(hnew k e (qado o r σ k e he hn)).2.1
  ·simp only[not_or] at hn
   obtain⟨hk,he0⟩:=hold k e he hn.1 hn.2
   rw[hfp k hn.1 hn.2];exact h.nodup k e he0
 ·intro k e b he hb
  by_cases hn:k∈adds o r∨k∈upds r
  ·exact(hnew k e (qado o r σ k e he hn)).2.2 b hb
  ·simp only[not_or] at hn
   obtain⟨hk,he0⟩:=hold k e he hn.1 hn.2
   rw[hfp k hn.1 hn.2] at hb
   obtain⟨h1,h2,h3⟩:=h.mine k e b he0 hb
   exact⟨hmine k e b hn.1 hn.2 hk he0 hb,h2,by omega⟩
end AM
