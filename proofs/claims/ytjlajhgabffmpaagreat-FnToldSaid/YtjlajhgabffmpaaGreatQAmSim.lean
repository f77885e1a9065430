/- THE ABSTRACT MACHINE: how its states stand to the model's; how an operation's outcome is laid into both. -/
import Derived.Test.YtjlajhgabffmpaaGreatQAmRep
namespace AM
set_option linter.unusedVariables false
open Go
open Go.RowKit (Below)
variable{U:lu}
theorem pA{a b:Key}:jb a b=true↔a=b:=by
 obtain⟨a1,a2⟩:=a;obtain⟨b1,b2⟩:=b
 simp[jb]
theorem zH(a:Key):jb a a=true:=pA.2 rfl
theorem MP{a b:Key}:jb a b=false↔a≠b:=by
 rw[<-wl,pA]
theorem sI{l:List Key}{k:Key}:l.any (jb k)=true↔k∈l:=by
 simp[vg,pA]
structure Pm where
 w0:World
 W:Nat->Prop
 F0:Nat->Prop
 N8:Key->Option Value
theorem iC.refl(W:Nat->Prop)(w:World):iC W w w:=⟨rfl,rfl,rfl,tR _,fun _ _ _=>rfl⟩
theorem iC.trans{W:Nat->Prop}{a b c:World}(h:iC W a b)(k:iC (fun x=>W x\/a.heap.size<=x) b c):iC W a c:=
 ⟨k.os.trans h.os,k.tape.trans h.tape,k.output.trans h.output,xo h.size k.size,fun i hi hw=>
  (k.block i (zds hi h.size) (fun e=>e.elim hw (fun e=>by omega))).trans (h.block i hi hw)⟩
theorem iC.mono{W W':Nat->Prop}{a b:World}(h:iC W a b)(hw:∀i,W i->W' i):iC W' a b:=
 ⟨h.os,h.tape,h.output,h.size,fun i hi hn=>h.block i hi (fun e=>hn (hw i e))⟩
theorem iC.drew(W:Nat->Prop)(w:World):iC W w w.drew:=⟨rfl,rfl,rfl,tR _,fun _ _ _=>rfl⟩
def bR(σ:ai U)(k:Key):Bool:=σ.aN.any (jb k)||(σ.bM k).isNone
def Names(σ:ai U)(k:Key):Prop:=
 (∃s x,σ.get s=some x/\k∈x.keys)\/(∃k' cs,σ.bM k'=some (.box cs)/\∃x∈cs,k∈x.keys)
def WD(E:Env U)(w:World)(F:Nat->Prop):Prop:=∀p∈E.Zp,F p.1/\∃e r,w.heap[p.1]? =some (.cells p.2 e r)
theorem WD.gx{E:Env U}{w w':World}{F F':Nat->Prop}(h:WD E w F)(hF:∀b,F b->F' b/\w'.heap[b]? =w.heap[b]?):WD E w' F':=by
 intro p hp
 obtain⟨h1,e,r,h2⟩:=h p hp
 exact⟨(hF _ h1).1,e,r,(hF _ h1).2.trans h2⟩
structure cQ(E:Env U)(pm:Pm)(F:Nat->Prop)(kv:Key->Value)(fp:Key->List Nat)(σ:ai U)(a:Act)(w:World):Prop where
 size:a.tmps.size=σ.n
 defers:a.defers=[]
 bI:∀s x,σ.get s=some x->RS E w F kv fp (bR σ) x (a.tmps.getD s undef)
 dV:∀k e,σ.bM k=some e->tH E w F kv fp (bR σ) e (kv k) (fp k)
 apart:∀k k' e e' b,k≠k'->σ.bM k=some e->σ.bM k'=some e'->b∈fp k->b∉fp k'
 nodup:∀k e,σ.bM k=some e->(fp k).Nodup
 fV:∀k e b,σ.bM k=some e->b∈fp k->¬F b/\(pm.W b\/pm.w0.heap.size<=b)/\b<w.heap.size
 uc:∀b,F b->b<w.heap.size
 ub:∀b,F b->pm.F0 b\/pm.W b\/pm.w0.heap.size<=b
 upto:iC pm.W pm.w0 w
 N8:∀k v,pm.N8 k=some v->2000000<=k.1/\k.2<1024/\σ.n<=1000000/\kv k=v
 lay:WD E w F
section move
variable{E:Env U}{w w':World}{F F':Nat->Prop}{kv kv':Key->Value}{fp fp':Key->List Nat}{bad bad':Key->Bool}
def p8(w w':World)(kv kv':Key->Value)(fp fp':Key->List Nat)(bad bad':Key->Bool)(k:Key):Prop:=
 kv' k=kv k/\(bad' k=true\/(bad k=false/\fp' k=fp k/\∀b∈fp k,w'.heap[b]? =w.heap[b]?))
theorem acN{w w':World}{S S':Nat->Prop}{v v':Value}(h:pe w S v [] v'):pe w' S' v [] v':=h
theorem RA.move{x:AC U}{v:Value}(h:RA E w F kv fp x v)(hk:∀k∈x.keys,p8 w w' kv kv' fp fp' bad bad' k)
  (hF:∀b,F b->F' b/\w'.heap[b]? =w.heap[b]?):iX bad' x=true\/RA E w' F' kv' fp' x v:=by
 cases x with
 |c x=>exact .inr (Rp.gx h hF (by simp))
 |e0=>exact .inr h
 |ref k p=>
  obtain⟨h1,h2⟩:=hk k (by simp[AC.keys])
  simp only[RA,iX] at h⊢
  cases p with
  |nil=>rw[h1];exact .inr (acN h)
  |cons s p=>
   rcases h2 with h2|⟨_,h3,h4⟩
   ·exact .inl (by simp[h2])
   ·rw[h1,h3];exact .inr (h.gx (fun b hb=>hb.elim (fun e=>⟨.inl (hF b e).1,(hF b e).2⟩) (fun e=>⟨.inr e,h4 b e⟩)))
 |sub k wd lo hi=>
  obtain⟨h1,h2⟩:=hk k (by simp[AC.keys])
  simp only[RA] at h⊢;rw[h1];exact .inr h
 |lK k p i wd off=>
  obtain⟨h1,h2⟩:=hk k (by simp[AC.keys])
  simp only[RA,iX] at h⊢
  obtain⟨b,o,n,c,h3,h4⟩:=h
  cases p with
  |nil=>rw[h1];exact .inr ⟨b,o,n,c,acN h3,h4⟩
  |cons s p=>
   rcases h2 with h2|⟨_,h5,h6⟩
   ·exact .inl (by simp[h2])
   ·rw[h1,h5];exact .inr ⟨b,o,n,c,h3.gx (fun b hb=>hb.elim (fun e=>⟨.inl (hF b e).1,(hF b e).2⟩) (fun e=>⟨.inr e,h6 b e⟩)),h4⟩
 |kH k off=>
  obtain⟨h1,h2⟩:=hk k (by simp[AC.keys])
  simp only[RA] at h⊢;rw[h1];exact .inr h
 |kn b τ xs=>exact .inr ⟨h.1.gx hF (by simp),h.2⟩
 |ia cs=>
  obtain⟨b,o,h1,h2,h3⟩:=h
  refine .inr ⟨b,o,h1,(hF b h2).1,fun j c hj=> ?_⟩
  obtain⟨u,h4,h5⟩:=h3 j c hj
  refine⟨u,?_,h5.gx hF (by simp)⟩
  rw[World.cell?_of_block (w:=w) (a:=⟨b,o+j,none⟩) (hF b h2).2];exact h4
theorem RD.move{x:AC U}{v:Value}(h:RD E w F kv fp bad x v)(hk:∀k∈x.keys,p8 w w' kv kv' fp fp' bad bad' k)
  (hF:∀b,F b->F' b/\w'.heap[b]? =w.heap[b]?):RD E w' F' kv' fp' bad' x v:=by
 refine⟨h.1,?_⟩
 rcases h.2 with h2|h2
 ·refine .inl ?_
  cases x<;>simp only[iX,cO] at h2⊢<;>try (cases h2;done)
  all_goals
   obtain⟨_,h3⟩:=hk _ (mF.2 rfl)
   refine⟨h2.1,?_⟩
   rcases h3 with h3|h3
   ·exact h3
   ·rw[h3.1] at h2;simp at h2
 ·exact h2.move hk hF
theorem l8.move{xs:List (AC U)}{vs:List Value}(h:l8 E w F kv fp bad xs vs)(hk:∀x∈xs,∀k∈x.keys,p8 w w' kv kv' fp fp' bad bad' k)
  (hF:∀b,F b->F' b/\w'.heap[b]? =w.heap[b]?):l8 E w' F' kv' fp' bad' xs vs:=
 ⟨h.1,fun i x v hx hv=>(h.2 i x v hx hv).move (hk x (Gn hx)) hF⟩
theorem RV.move{x:AV U}{v:Value}(h:RV E w F kv fp bad x v)(hk:∀y∈x.cs,∀k∈y.keys,p8 w w' kv kv' fp fp' bad bad' k)
  (hF:∀b,F b->F' b/\w'.heap[b]? =w.heap[b]?):RV E w' F' kv' fp' bad' x v:=by
 obtain⟨vs,h1,h2⟩:=h
 exact⟨vs,h1.move hk hF,h2⟩
theorem SV.mem_keys{x:SV U}{k:Key}:k∈x.keys↔∃y∈x.B7,k∈y.keys:=by simp[SV.keys]
theorem RS.move{x:SV U}{v:Value}(h:RS E w F kv fp bad x v)(hk:∀k∈x.keys,p8 w w' kv kv' fp fp' bad bad' k)
  (hF:∀b,F b->F' b/\w'.heap[b]? =w.heap[b]?):RS E w' F' kv' fp' bad' x v:=by
 cases x with
 |v x=>exact RV.move h (fun y hy k EK=>hk k (SV.mem_keys.2 ⟨y,hy,EK⟩)) hF
 |wm xs=>
  obtain⟨vs,h1,h2,h3⟩:=h
  refine⟨vs,h1,h2,fun i x u hx hu=>(h3 i x u hx hu).move (fun y hy k EK=>hk k (SV.mem_keys.2 ⟨y,?_,EK⟩)) hF⟩
  exact ow.2 ⟨x,Gn hx,hy⟩
 |fn p=>exact nN.gx h hF
 |He g xs=>
  obtain⟨vs,h1,h2,h3⟩:=h
  refine⟨vs,h1,h2,fun i x u hx hu=>(h3 i x u hx hu).move (fun y hy k EK=>hk k (SV.mem_keys.2 ⟨y,?_,EK⟩)) hF⟩
  exact ow.2 ⟨x,Gn hx,hy⟩
end move
theorem HF(o:Oper)(r:cm U)(σ:ai U)(s:Nat):
  (apply o r σ).get s=match o.dst with|some d=>if d=s then r.val else σ.get s|none=>σ.get s:=by
 unfold ai.get apply
 cases o.dst with
 |none=>rfl
 |some d=>
  simp only[look]
  by_cases h:d=s
  ·subst h;simp
  ·simp only[h,if_false]
   cases hb:Nat.beq d s
   ·rfl
   ·exact absurd (nc hb) h
theorem F4{β:Type}(l r:List (Key×Option β))(k:Key):eZ (l++r) k=if l.any (fun p=>jb p.1 k) then eZ l k else eZ r k:=by
 induction l with
 |nil=>simp
 |cons p l ih=>
  obtain⟨t,v⟩:=p
  simp only[zex,eZ,Ux]
  rcases Bool.eq_false_or_eq_true (jb t k) with h|h
  ·simp[h]
  ·simp only[h,cond_false,Gl];exact ih
def eo(o:Oper)(r:cm U):List Key:=r.eo.map fun(j,_)=>(o.dst.getD 1000000,j)
def jY(r:cm U):List Key:=r.jY.map (·.1)
theorem ZY(o:Oper)(r:cm U)(σ:ai U)(k:Key)(h1:k∉eo o r)(h2:k∉jY r)(h3:k∉r.lD):
  (apply o r σ).bM k=σ.bM k:=by
 unfold ai.bM apply
 simp only[xw]
 rw[F4,if_neg,F4,if_neg,F4,if_neg]
 ·intro h
  simp only[QW,vg,Function.comp] at h
  obtain⟨x,hx,hk⟩:=h
  exact h3 (by rw[<-pA.1 hk];exact hx)
 ·intro h
  simp only[QW,vg,Function.comp] at h
  obtain⟨x,hx,hk⟩:=h
  exact h2 (by rw[<-pA.1 hk];exact l_.2 ⟨x,hx,rfl⟩)
 ·intro h
  simp only[pE,QW,vg,Function.comp] at h
  obtain⟨x,hx,hk⟩:=h
  exact h1 (by rw[<-pA.1 hk];exact l_.2 ⟨x,hx,rfl⟩)
theorem akY{β:Type}(l:List Key)(k:Key):eZ (l.map fun k=>(k,(none:Option β))) k=none:=by
 induction l with
 |nil=>rfl
 |cons a l ih=>simp only[wb,eZ];cases jb a k<;>simp[ih]
theorem Z0(o:Oper)(r:cm U)(σ:ai U)(k:Key)(h1:k∉eo o r)(h2:k∉jY r)(h3:k∈r.lD):
  (apply o r σ).bM k=none:=by
 unfold ai.bM apply
 simp only[xw]
 rw[F4,if_neg,F4,if_neg,F4,if_pos,akY]
 ·simp only[QW,vg,Function.comp]
  exact⟨k,h3,zH k⟩
 ·intro h
  simp only[QW,vg,Function.comp] at h
  obtain⟨x,hx,hk⟩:=h
  exact h2 (by rw[<-pA.1 hk];exact l_.2 ⟨x,hx,rfl⟩)
 ·intro h
  simp only[pE,QW,vg,Function.comp] at h
  obtain⟨x,hx,hk⟩:=h
  exact h1 (by rw[<-pA.1 hk];exact l_.2 ⟨x,hx,rfl⟩)
theorem FY{β:Type}{l:List (Key×Option β)}{k:Key}{e:β}(h:eZ l k=some e):(k,some e)∈l:=by
 induction l with
 |nil=>cases h
 |cons p l ih=>
  obtain⟨t,v⟩:=p
  simp only[eZ] at h
  cases ht:jb t k<;>simp only[ht,cond_true,cond_false] at h
  ·exact cI _ (ih h)
  ·rw[<-pA.1 ht,h];exact gB
theorem ZZ(o:Oper)(r:cm U)(σ:ai U)(k:Key)(e:i_ U)(h:(apply o r σ).bM k=some e)(hk:k∈eo o r\/k∈jY r):
  (∃j,k=(o.dst.getD 1000000,j)/\(j,e)∈r.eo)\/(k,e)∈r.jY:=by
 unfold ai.bM apply at h
 simp only[xw] at h
 rw[F4] at h
 split at h
 ·have:=FY h
  simp only[pE,l_,pb,gJ] at this
  obtain⟨⟨j,e'⟩,hm,rfl,rfl⟩:=this
  exact .inl ⟨j,rfl,hm⟩
 ·rename_i Uq
  have hu:k∈jY r:=by
   refine hk.resolve_left (fun ha=>Uq ?_)
   simp only[eo,l_] at ha
   obtain⟨x,hx,rfl⟩:=ha
   simp only[pE,QW,vg,Function.comp]
   exact⟨x,hx,zH _⟩
  rw[F4,if_pos] at h
  ·have:=FY h
   simp only[l_,pb,gJ] at this
   obtain⟨⟨k',e'⟩,hm,rfl,rfl⟩:=this
   exact .inr hm
  ·simp only[jY,l_] at hu
   obtain⟨x,hx,rfl⟩:=hu
   simp only[QW,vg,Function.comp]
   exact⟨x,hx,zH _⟩
theorem ak8(a:Act)(d:Nat)(v:Value)(hd:d<a.tmps.size):(a.put (some d) v).tmps.getD d undef=v:=by
 simp[Act.put,QY,hd]
theorem ak9(a:Act)(d s:Nat)(v:Value)(hd:d≠s):(a.put (some d) v).tmps.getD s undef=a.tmps.getD s undef:=by
 simp[Act.put,QY,Array.getElem?_setIfInBounds_ne hd]
theorem ajW(a:Act)(d:Option Nat)(v:Value):(a.put d v).tmps.size=a.tmps.size:=by cases d<;>simp[Act.put]
theorem alB(a:Act)(d:Option Nat)(v:Value):(a.put d v).defers=a.defers:=by cases d<;>simp[Act.put]
theorem cQ.apply{E:Env U}{pm:Pm}{F F':Nat->Prop}{kv kv':Key->Value}{fp fp':Key->List Nat}{σ:ai U}{a:Act}{w w':World}
  (h:cQ E pm F kv fp σ a w) (o:Oper) (r:cm U) (v:Value)
  (hd:∀d,o.dst=some d->d<σ.n)
  (PP:∀sv,r.val=some sv->RS E w' F' kv' fp' (bR (AM.apply o r σ)) sv v)
  (P7:∀k,k∉eo o r->kv' k=kv k)
  (sR:∀k,k∉eo o r->k∉jY r->fp' k=fp k)
  (aaQ:∀k∈eo o r,¬Names σ k)
  (hF:∀b,F b->F' b/\w'.heap[b]? =w.heap[b]?)
  (jA:∀k e,k∉eo o r->k∉jY r->k∉r.lD->σ.bM k=some e->∀b∈fp k,w'.heap[b]? =w.heap[b]?)
  (H5:∀k e,((∃j,k=(o.dst.getD 1000000,j)/\(j,e)∈r.eo)\/(k,e)∈r.jY)->tH E w' F' kv' fp' (bR (AM.apply o r σ)) e (kv' k) (fp' k)/\(fp' k).Nodup/\
   ∀b∈fp' k,¬F' b/\(pm.W b\/pm.w0.heap.size<=b)/\b<w'.heap.size)
  (x_:∀k e b,k∉eo o r->k∉jY r->k∉r.lD->σ.bM k=some e->b∈fp k->¬F' b)
  (SN:∀k k' b,k≠k'->(k∈eo o r\/k∈jY r)->(k'∈eo o r\/k'∈jY r\/(k'∉r.lD/\(σ.bM k').isSome))->b∈fp' k->b∉fp' k')
  (amL:∀b,F' b->b<w'.heap.size) (ad3:∀b,F' b->pm.F0 b\/pm.W b\/pm.w0.heap.size<=b)
  (qz:iC pm.W pm.w0 w') (xu:w.heap.size<=w'.heap.size):
  cQ E pm F' kv' fp' (AM.apply o r σ) (a.put o.dst v) w':=by
 have qB:∀k,Names σ k->p8 w w' kv kv' fp fp' (bR σ) (bR (AM.apply o r σ)) k:=by
  intro k hn
  have Uq:k∉eo o r:=fun e=>aaQ k e hn
  refine⟨P7 k Uq,?_⟩
  by_cases hu:k∈jY r
  ·left
   have:(AM.apply o r σ).aN.any (jb k)=true:=sI.2 (by simp only[AM.apply,jO];exact .inl hu)
   simp[bR,this]
  ·by_cases hk:k∈r.lD
   ·left
    simp[bR,Z0 o r σ k Uq hu hk]
   ·have he:=ZY o r σ k Uq hu hk
    have Nn:(AM.apply o r σ).aN.any (jb k)=σ.aN.any (jb k):=by
     rw[FM,sI,sI]
     simp only[AM.apply,jO]
     exact⟨fun e=>e.resolve_left hu,.inr⟩
    cases hb:bR σ k
    ·right
     refine⟨rfl,sR k Uq hu,?_⟩
     simp only[bR,QL] at hb
     obtain⟨e,hee⟩:∃e,σ.bM k=some e:=by
      cases hx:σ.bM k with
      |none=>rw[hx] at hb;simp at hb
      |some e=>exact⟨e,rfl⟩
     exact jA k e Uq hu hk hee
    ·left
     simp only[bR] at hb⊢
     rw[he,Nn];exact hb
 have hold:∀k e,(AM.apply o r σ).bM k=some e->k∉eo o r->k∉jY r->k∉r.lD/\σ.bM k=some e:=by
  intro k e he h1 h2
  by_cases hk:k∈r.lD
  ·rw[Z0 o r σ k h1 h2 hk] at he;cases he
  ·exact⟨hk,by rw[<-ZY o r σ k h1 h2 hk];exact he⟩
 refine⟨?_,?_,?_,?_,?_,?_,?_,amL,ad3,qz,fun k v hpk=> ?_,h.lay.gx hF⟩
 rotate_left 7
 ·obtain⟨p1,p2,p3,p4⟩:=h.N8 k v hpk
  refine⟨p1,p2,p3,(P7 k fun hk=> ?_).trans p4⟩
  simp only[eo,l_] at hk
  obtain⟨t,_,rfl⟩:=hk
  cases z9:o.dst with
  |none=>rw[z9] at p1;simp at p1
  |some d=>
   rw[z9] at p1
   have h1:d<σ.n:=hd d z9
   have h2:2000000<=d:=p1
   exact Nat.lt_irrefl _ (zds (zds h1 p3) (xo (by decide:1000000<=2000000) h2))
 ·rw[ajW];exact h.size
 ·rw[alB];exact h.defers
 ·intro s x hs
  rw[HF] at hs
  cases z9:o.dst with
  |none=>
   rw[z9] at hs
   exact(h.bI s x hs).move (fun k hk=>qB k (.inl ⟨s,x,hs,hk⟩)) hF
  |some d=>
   rw[z9] at hs
   simp only at hs
   by_cases Ie:d=s
   ·rw[if_pos Ie] at hs
    subst Ie
    rw[ak8 _ _ _ (by rw[h.size];exact hd d z9)]
    exact PP x hs
   ·rw[if_neg Ie] at hs
    rw[ak9 _ _ _ _ Ie]
    exact(h.bI s x hs).move (fun k hk=>qB k (.inl ⟨s,x,hs,hk⟩)) hF
 ·intro k e he
  by_cases hn:k∈eo o r\/k∈jY r
  ·exact(H5 k e (ZZ o r σ k e he hn)).1
  ·simp only[not_or] at hn
   obtain⟨hk,fo⟩:=hold k e he hn.1 hn.2
   have h0:=h.dV k e fo
   rw[P7 k hn.1,sR k hn.1 hn.2]
   cases e with
   |arr x deep=>exact fi.gx h0 hF (fun b hb=>jA k _ hn.1 hn.2 hk fo b hb)
   |part x dead=>exact eW.gx h0 hF (fun b hb=>jA k _ hn.1 hn.2 hk fo b hb)
   |box cs=>
    obtain⟨b,cur,e',h1,h2,h3,h4⟩:=h0
    refine⟨b,cur,e',h1,?_,h3,h4.move (fun x hx k' db=>qB k' (.inr ⟨k,cs,fo,x,hx,db⟩)) hF⟩
    rw[jA k _ hn.1 hn.2 hk fo b (by simp[h3])];exact h2
 ·intro k k' e e' b fg he fo hb
  by_cases hn:k∈eo o r\/k∈jY r
  ·refine SN k k' b fg hn ?_ hb
   by_cases wh:k'∈eo o r\/k'∈jY r
   ·exact wh.elim .inl (fun e=> .inr (.inl e))
   ·simp only[not_or] at wh
    obtain⟨hk,EN⟩:=hold k' e' fo wh.1 wh.2
    exact .inr (.inr ⟨hk,by simp[EN]⟩)
  ·have W7:=hn
   simp only[not_or] at hn
   obtain⟨hk,nE⟩:=hold k e he hn.1 hn.2
   by_cases wh:k'∈eo o r\/k'∈jY r
   ·intro bg
    exact SN k' k b (Ne.symm fg) wh (.inr (.inr ⟨hk,by simp[nE]⟩)) bg hb
   ·simp only[not_or] at wh
    obtain⟨db,aaU⟩:=hold k' e' fo wh.1 wh.2
    rw[sR k hn.1 hn.2] at hb
    rw[sR k' wh.1 wh.2]
    exact h.apart k k' e e' b fg nE aaU hb
 ·intro k e he
  by_cases hn:k∈eo o r\/k∈jY r
  ·exact(H5 k e (ZZ o r σ k e he hn)).2.1
  ·simp only[not_or] at hn
   obtain⟨hk,nE⟩:=hold k e he hn.1 hn.2
   rw[sR k hn.1 hn.2];exact h.nodup k e nE
 ·intro k e b he hb
  by_cases hn:k∈eo o r\/k∈jY r
  ·exact(H5 k e (ZZ o r σ k e he hn)).2.2 b hb
  ·simp only[not_or] at hn
   obtain⟨hk,nE⟩:=hold k e he hn.1 hn.2
   rw[sR k hn.1 hn.2] at hb
   obtain⟨h1,h2,h3⟩:=h.fV k e b nE hb
   exact⟨x_ k e b hn.1 hn.2 hk nE hb,h2,by omega⟩
end AM
