/- THE ABSTRACT MACHINE: how its states stand to the model's; how an operation's outcome is laid into both. -/
import Derived.Test.YtpkdgcookaobfaaGreatDoorQAmRep
namespace AM
set_option linter.unusedVariables false
open Go
open Go.RowKit (Below)
variable{U:lz}
theorem pK{a b:Key}:iR a b=true↔a=b:=by
 obtain⟨a1,a2⟩:=a;obtain⟨b1,b2⟩:=b
 simp[iR]
theorem zM(a:Key):iR a a=true:=pK.2 rfl
theorem MP{a b:Key}:iR a b=false↔a≠b:=by
 rw[<-wu,pK]
theorem sR{l:List Key}{k:Key}:l.any (iR k)=true↔k∈l:=by
 simp[vm,pK]
structure Pm where
 w0:World
 W:Nat->Prop
 F0:Nat->Prop
 N0:Key->Option Value
theorem hU.refl(W:Nat->Prop)(w:World):hU W w w:=⟨rfl,rfl,rfl,tX _,fun _ _ _=>rfl⟩
theorem hU.trans{W:Nat->Prop}{a b c:World}(h:hU W a b)(k:hU (fun x=>W x\/a.heap.size<=x) b c):hU W a c:=
 ⟨k.os.trans h.os,k.tape.trans h.tape,k.output.trans h.output,xr h.size k.size,fun i hi hw=>
  (k.block i (zds hi h.size) (fun e=>e.elim hw (fun e=>by omega))).trans (h.block i hi hw)⟩
theorem hU.mono{W W':Nat->Prop}{a b:World}(h:hU W a b)(hw:∀i,W i->W' i):hU W' a b:=
 ⟨h.os,h.tape,h.output,h.size,fun i hi hn=>h.block i hi (fun e=>hn (hw i e))⟩
theorem hU.drew(W:Nat->Prop)(w:World):hU W w w.drew:=⟨rfl,rfl,rfl,tX _,fun _ _ _=>rfl⟩
def bW(σ:ak U)(k:Key):Bool:=σ.aT.any (iR k)||(σ.bO k).isNone
def Names(σ:ak U)(k:Key):Prop:=
 (∃s x,σ.get s=some x/\k∈x.keys)\/(∃k' cs,σ.bO k'=some (.box cs)/\∃x∈cs,k∈x.keys)
def QH(E:Env U)(w:World)(F:Nat->Prop):Prop:=∀p∈E.UJ,F p.1/\∃e r,w.heap[p.1]? =some (.cells p.2 e r)
theorem QH.gg{E:Env U}{w w':World}{F F':Nat->Prop}(h:QH E w F)(hF:∀b,F b->F' b/\w'.heap[b]? =w.heap[b]?):QH E w' F':=by
 intro p hp
 obtain⟨h1,e,r,h2⟩:=h p hp
 exact⟨(hF _ h1).1,e,r,(hF _ h1).2.trans h2⟩
structure cM(E:Env U)(pm:Pm)(F:Nat->Prop)(kv:Key->Value)(fp:Key->List Nat)(σ:ak U)(a:Act)(w:World):Prop where
 size:a.tmps.size=σ.n
 defers:a.defers=[]
 bM:∀s x,σ.get s=some x->RS E w F kv fp (bW σ) x (a.tmps.getD s undef)
 dH:∀k e,σ.bO k=some e->tP E w F kv fp (bW σ) e (kv k) (fp k)
 apart:∀k k' e e' b,k≠k'->σ.bO k=some e->σ.bO k'=some e'->b∈fp k->b∉fp k'
 nodup:∀k e,σ.bO k=some e->(fp k).Nodup
 fQ:∀k e b,σ.bO k=some e->b∈fp k->¬F b/\(pm.W b\/pm.w0.heap.size<=b)/\b<w.heap.size
 uk:∀b,F b->b<w.heap.size
 uj:∀b,F b->pm.F0 b\/pm.W b\/pm.w0.heap.size<=b
 upto:hU pm.W pm.w0 w
 N0:∀k v,pm.N0 k=some v->2000000<=k.1/\k.2<1024/\σ.n<=1000000/\kv k=v
 lay:QH E w F
section move
variable{E:Env U}{w w':World}{F F':Nat->Prop}{kv kv':Key->Value}{fp fp':Key->List Nat}{bad bad':Key->Bool}
def qi(w w':World)(kv kv':Key->Value)(fp fp':Key->List Nat)(bad bad':Key->Bool)(k:Key):Prop:=
 kv' k=kv k/\(bad' k=true\/(bad k=false/\fp' k=fp k/\∀b∈fp k,w'.heap[b]? =w.heap[b]?))
theorem ade{w w':World}{S S':Nat->Prop}{v v':Value}(h:pu w S v [] v'):pu w' S' v [] v':=h
theorem RA.move{x:AC U}{v:Value}(h:RA E w F kv fp x v)(hk:∀k∈x.keys,qi w w' kv kv' fp fp' bad bad' k)
  (hF:∀b,F b->F' b/\w'.heap[b]? =w.heap[b]?):iJ bad' x=true\/RA E w' F' kv' fp' x v:=by
 cases x with
 |c x=>exact .inr (Rp.gg h hF (by simp))
 |e0=>exact .inr h
 |ref k p=>
  obtain⟨h1,h2⟩:=hk k (by simp[AC.keys])
  simp only[RA,iJ] at h⊢
  cases p with
  |nil=>rw[h1];exact .inr (ade h)
  |cons s p=>
   rcases h2 with h2|⟨_,h3,h4⟩
   ·exact .inl (by simp[h2])
   ·rw[h1,h3];exact .inr (h.gg (fun b hb=>hb.elim (fun e=>⟨.inl (hF b e).1,(hF b e).2⟩) (fun e=>⟨.inr e,h4 b e⟩)))
 |sub k wd lo hi=>
  obtain⟨h1,h2⟩:=hk k (by simp[AC.keys])
  simp only[RA] at h⊢;rw[h1];exact .inr h
 |lN k p i wd off=>
  obtain⟨h1,h2⟩:=hk k (by simp[AC.keys])
  simp only[RA,iJ] at h⊢
  obtain⟨b,o,n,c,h3,h4⟩:=h
  cases p with
  |nil=>rw[h1];exact .inr ⟨b,o,n,c,ade h3,h4⟩
  |cons s p=>
   rcases h2 with h2|⟨_,h5,h6⟩
   ·exact .inl (by simp[h2])
   ·rw[h1,h5];exact .inr ⟨b,o,n,c,h3.gg (fun b hb=>hb.elim (fun e=>⟨.inl (hF b e).1,(hF b e).2⟩) (fun e=>⟨.inr e,h6 b e⟩)),h4⟩
 |ky k off=>
  obtain⟨h1,h2⟩:=hk k (by simp[AC.keys])
  simp only[RA] at h⊢;rw[h1];exact .inr h
 |kn b τ xs=>exact .inr ⟨h.1.gg hF (by simp),h.2⟩
 |ia cs=>
  obtain⟨b,o,h1,h2,h3⟩:=h
  refine .inr ⟨b,o,h1,(hF b h2).1,fun j c hj=> ?_⟩
  obtain⟨u,h4,h5⟩:=h3 j c hj
  refine⟨u,?_,h5.gg hF (by simp)⟩
  rw[World.cell?_of_block (w:=w) (a:=⟨b,o+j,none⟩) (hF b h2).2];exact h4
theorem RD.move{x:AC U}{v:Value}(h:RD E w F kv fp bad x v)(hk:∀k∈x.keys,qi w w' kv kv' fp fp' bad bad' k)
  (hF:∀b,F b->F' b/\w'.heap[b]? =w.heap[b]?):RD E w' F' kv' fp' bad' x v:=by
 refine⟨h.1,?_⟩
 rcases h.2 with h2|h2
 ·refine .inl ?_
  cases x<;>simp only[iJ,cJ] at h2⊢<;>try (cases h2;done)
  all_goals
   obtain⟨_,h3⟩:=hk _ (mI.2 rfl)
   refine⟨h2.1,?_⟩
   rcases h3 with h3|h3
   ·exact h3
   ·rw[h3.1] at h2;simp at h2
 ·exact h2.move hk hF
theorem mc.move{xs:List (AC U)}{vs:List Value}(h:mc E w F kv fp bad xs vs)(hk:∀x∈xs,∀k∈x.keys,qi w w' kv kv' fp fp' bad bad' k)
  (hF:∀b,F b->F' b/\w'.heap[b]? =w.heap[b]?):mc E w' F' kv' fp' bad' xs vs:=
 ⟨h.1,fun i x v hx hv=>(h.2 i x v hx hv).move (hk x (Gl hx)) hF⟩
theorem RV.move{x:AV U}{v:Value}(h:RV E w F kv fp bad x v)(hk:∀y∈x.cs,∀k∈y.keys,qi w w' kv kv' fp fp' bad bad' k)
  (hF:∀b,F b->F' b/\w'.heap[b]? =w.heap[b]?):RV E w' F' kv' fp' bad' x v:=by
 obtain⟨vs,h1,h2⟩:=h
 exact⟨vs,h1.move hk hF,h2⟩
theorem SV.mem_keys{x:SV U}{k:Key}:k∈x.keys↔∃y∈x.Ca,k∈y.keys:=by simp[SV.keys]
theorem RS.move{x:SV U}{v:Value}(h:RS E w F kv fp bad x v)(hk:∀k∈x.keys,qi w w' kv kv' fp fp' bad bad' k)
  (hF:∀b,F b->F' b/\w'.heap[b]? =w.heap[b]?):RS E w' F' kv' fp' bad' x v:=by
 cases x with
 |v x=>exact RV.move h (fun y hy k EN=>hk k (SV.mem_keys.2 ⟨y,hy,EN⟩)) hF
 |wv xs=>
  obtain⟨vs,h1,h2,h3⟩:=h
  refine⟨vs,h1,h2,fun i x u hx hu=>(h3 i x u hx hu).move (fun y hy k EN=>hk k (SV.mem_keys.2 ⟨y,?_,EN⟩)) hF⟩
  exact oQ.2 ⟨x,Gl hx,hy⟩
 |fn p=>exact nS.gg h hF
 |Hk g xs=>
  obtain⟨vs,h1,h2,h3⟩:=h
  refine⟨vs,h1,h2,fun i x u hx hu=>(h3 i x u hx hu).move (fun y hy k EN=>hk k (SV.mem_keys.2 ⟨y,?_,EN⟩)) hF⟩
  exact oQ.2 ⟨x,Gl hx,hy⟩
end move
theorem HO(o:Oper)(r:cn U)(σ:ak U)(s:Nat):
  (apply o r σ).get s=match o.dst with|some d=>if d=s then r.val else σ.get s|none=>σ.get s:=by
 unfold ak.get apply
 cases o.dst with
 |none=>rfl
 |some d=>
  simp only[look]
  by_cases h:d=s
  ·subst h;simp
  ·simp only[h,if_false]
   cases hb:Nat.beq d s
   ·rfl
   ·exact absurd (nk hb) h
theorem F5{β:Type}(l r:List (Key×Option β))(k:Key):eJ (l++r) k=if l.any (fun p=>iR p.1 k) then eJ l k else eJ r k:=by
 induction l with
 |nil=>simp
 |cons p l ih=>
  obtain⟨t,v⟩:=p
  simp only[zex,eJ,UA]
  rcases Bool.eq_false_or_eq_true (iR t k) with h|h
  ·simp[h]
  ·simp only[h,cond_false,Gk];exact ih
def dR(o:Oper)(r:cn U):List Key:=r.dR.map fun(j,_)=>(o.dst.getD 1000000,j)
def jQ(r:cn U):List Key:=r.jQ.map (·.1)
theorem aag(o:Oper)(r:cn U)(σ:ak U)(k:Key)(h1:k∉dR o r)(h2:k∉jQ r)(h3:k∉r.lG):
  (apply o r σ).bO k=σ.bO k:=by
 unfold ak.bO apply
 simp only[xz]
 rw[F5,if_neg,F5,if_neg,F5,if_neg]
 ·intro h
  simp only[QN,vm,Function.comp] at h
  obtain⟨x,hx,hk⟩:=h
  exact h3 (by rw[<-pK.1 hk];exact hx)
 ·intro h
  simp only[QN,vm,Function.comp] at h
  obtain⟨x,hx,hk⟩:=h
  exact h2 (by rw[<-pK.1 hk];exact mf.2 ⟨x,hx,rfl⟩)
 ·intro h
  simp only[pO,QN,vm,Function.comp] at h
  obtain⟨x,hx,hk⟩:=h
  exact h1 (by rw[<-pK.1 hk];exact mf.2 ⟨x,hx,rfl⟩)
theorem alN{β:Type}(l:List Key)(k:Key):eJ (l.map fun k=>(k,(none:Option β))) k=none:=by
 induction l with
 |nil=>rfl
 |cons a l ih=>simp only[wh,eJ];cases iR a k<;>simp[ih]
theorem aai(o:Oper)(r:cn U)(σ:ak U)(k:Key)(h1:k∉dR o r)(h2:k∉jQ r)(h3:k∈r.lG):
  (apply o r σ).bO k=none:=by
 unfold ak.bO apply
 simp only[xz]
 rw[F5,if_neg,F5,if_neg,F5,if_pos,alN]
 ·simp only[QN,vm,Function.comp]
  exact⟨k,h3,zM k⟩
 ·intro h
  simp only[QN,vm,Function.comp] at h
  obtain⟨x,hx,hk⟩:=h
  exact h2 (by rw[<-pK.1 hk];exact mf.2 ⟨x,hx,rfl⟩)
 ·intro h
  simp only[pO,QN,vm,Function.comp] at h
  obtain⟨x,hx,hk⟩:=h
  exact h1 (by rw[<-pK.1 hk];exact mf.2 ⟨x,hx,rfl⟩)
theorem F4{β:Type}{l:List (Key×Option β)}{k:Key}{e:β}(h:eJ l k=some e):(k,some e)∈l:=by
 induction l with
 |nil=>cases h
 |cons p l ih=>
  obtain⟨t,v⟩:=p
  simp only[eJ] at h
  cases ht:iR t k<;>simp only[ht,cond_true,cond_false] at h
  ·exact fA _ (ih h)
  ·rw[<-pK.1 ht,h];exact iy
theorem aah(o:Oper)(r:cn U)(σ:ak U)(k:Key)(e:iN U)(h:(apply o r σ).bO k=some e)(hk:k∈dR o r\/k∈jQ r):
  (∃j,k=(o.dst.getD 1000000,j)/\(j,e)∈r.dR)\/(k,e)∈r.jQ:=by
 unfold ak.bO apply at h
 simp only[xz] at h
 rw[F5] at h
 split at h
 ·have:=F4 h
  simp only[pO,mf,pq,gA] at this
  obtain⟨⟨j,e'⟩,hm,rfl,rfl⟩:=this
  exact .inl ⟨j,rfl,hm⟩
 ·rename_i Uq
  have hu:k∈jQ r:=by
   refine hk.resolve_left (fun ha=>Uq ?_)
   simp only[dR,mf] at ha
   obtain⟨x,hx,rfl⟩:=ha
   simp only[pO,QN,vm,Function.comp]
   exact⟨x,hx,zM _⟩
  rw[F5,if_pos] at h
  ·have:=F4 h
   simp only[mf,pq,gA] at this
   obtain⟨⟨k',e'⟩,hm,rfl,rfl⟩:=this
   exact .inr hm
  ·simp only[jQ,mf] at hu
   obtain⟨x,hx,rfl⟩:=hu
   simp only[QN,vm,Function.comp]
   exact⟨x,hx,zM _⟩
theorem alX(a:Act)(d:Nat)(v:Value)(hd:d<a.tmps.size):(a.put (some d) v).tmps.getD d undef=v:=by
 simp[Act.put,QR,hd]
theorem alY(a:Act)(d s:Nat)(v:Value)(hd:d≠s):(a.put (some d) v).tmps.getD s undef=a.tmps.getD s undef:=by
 simp[Act.put,QR,Array.getElem?_setIfInBounds_ne hd]
theorem akJ(a:Act)(d:Option Nat)(v:Value):(a.put d v).tmps.size=a.tmps.size:=by cases d<;>simp[Act.put]
theorem amo(a:Act)(d:Option Nat)(v:Value):(a.put d v).defers=a.defers:=by cases d<;>simp[Act.put]
theorem cM.apply{E:Env U}{pm:Pm}{F F':Nat->Prop}{kv kv':Key->Value}{fp fp':Key->List Nat}{σ:ak U}{a:Act}{w w':World}
  (h:cM E pm F kv fp σ a w) (o:Oper) (r:cn U) (v:Value)
  (hd:∀d,o.dst=some d->d<σ.n)
  (PK:∀sv,r.val=some sv->RS E w' F' kv' fp' (bW (AM.apply o r σ)) sv v)
  (PW:∀k,k∉dR o r->kv' k=kv k)
  (sZ:∀k,k∉dR o r->k∉jQ r->fp' k=fp k)
  (abd:∀k∈dR o r,¬Names σ k)
  (hF:∀b,F b->F' b/\w'.heap[b]? =w.heap[b]?)
  (jo:∀k e,k∉dR o r->k∉jQ r->k∉r.lG->σ.bO k=some e->∀b∈fp k,w'.heap[b]? =w.heap[b]?)
  (Ic:∀k e,((∃j,k=(o.dst.getD 1000000,j)/\(j,e)∈r.dR)\/(k,e)∈r.jQ)->tP E w' F' kv' fp' (bW (AM.apply o r σ)) e (kv' k) (fp' k)/\(fp' k).Nodup/\
   ∀b∈fp' k,¬F' b/\(pm.W b\/pm.w0.heap.size<=b)/\b<w'.heap.size)
  (yf:∀k e b,k∉dR o r->k∉jQ r->k∉r.lG->σ.bO k=some e->b∈fp k->¬F' b)
  (SL:∀k k' b,k≠k'->(k∈dR o r\/k∈jQ r)->(k'∈dR o r\/k'∈jQ r\/(k'∉r.lG/\(σ.bO k').isSome))->b∈fp' k->b∉fp' k')
  (anB:∀b,F' b->b<w'.heap.size) (aew:∀b,F' b->pm.F0 b\/pm.W b\/pm.w0.heap.size<=b)
  (ql:hU pm.W pm.w0 w') (xx:w.heap.size<=w'.heap.size):
  cM E pm F' kv' fp' (AM.apply o r σ) (a.put o.dst v) w':=by
 have qR:∀k,Names σ k->qi w w' kv kv' fp fp' (bW σ) (bW (AM.apply o r σ)) k:=by
  intro k hn
  have Uq:k∉dR o r:=fun e=>abd k e hn
  refine⟨PW k Uq,?_⟩
  by_cases hu:k∈jQ r
  ·left
   have:(AM.apply o r σ).aT.any (iR k)=true:=sR.2 (by simp only[AM.apply,jC];exact .inl hu)
   simp[bW,this]
  ·by_cases hk:k∈r.lG
   ·left
    simp[bW,aai o r σ k Uq hu hk]
   ·have he:=aag o r σ k Uq hu hk
    have Nc:(AM.apply o r σ).aT.any (iR k)=σ.aT.any (iR k):=by
     rw[FJ,sR,sR]
     simp only[AM.apply,jC]
     exact⟨fun e=>e.resolve_left hu,.inr⟩
    cases hb:bW σ k
    ·right
     refine⟨rfl,sZ k Uq hu,?_⟩
     simp only[bW,QA] at hb
     obtain⟨e,hee⟩:∃e,σ.bO k=some e:=by
      cases hx:σ.bO k with
      |none=>rw[hx] at hb;simp at hb
      |some e=>exact⟨e,rfl⟩
     exact jo k e Uq hu hk hee
    ·left
     simp only[bW] at hb⊢
     rw[he,Nc];exact hb
 have hold:∀k e,(AM.apply o r σ).bO k=some e->k∉dR o r->k∉jQ r->k∉r.lG/\σ.bO k=some e:=by
  intro k e he h1 h2
  by_cases hk:k∈r.lG
  ·rw[aai o r σ k h1 h2 hk] at he;cases he
  ·exact⟨hk,by rw[<-aag o r σ k h1 h2 hk];exact he⟩
 refine⟨?_,?_,?_,?_,?_,?_,?_,anB,aew,ql,fun k v hpk=> ?_,h.lay.gg hF⟩
 rotate_left 7
 ·obtain⟨p1,p2,p3,p4⟩:=h.N0 k v hpk
  refine⟨p1,p2,p3,(PW k fun hk=> ?_).trans p4⟩
  simp only[dR,mf] at hk
  obtain⟨t,_,rfl⟩:=hk
  cases Ab:o.dst with
  |none=>rw[Ab] at p1;simp at p1
  |some d=>
   rw[Ab] at p1
   have h1:d<σ.n:=hd d Ab
   have h2:2000000<=d:=p1
   exact Nat.lt_irrefl _ (zds (zds h1 p3) (xr (by decide:1000000<=2000000) h2))
 ·rw[akJ];exact h.size
 ·rw[amo];exact h.defers
 ·intro s x hs
  rw[HO] at hs
  cases Ab:o.dst with
  |none=>
   rw[Ab] at hs
   exact(h.bM s x hs).move (fun k hk=>qR k (.inl ⟨s,x,hs,hk⟩)) hF
  |some d=>
   rw[Ab] at hs
   simp only at hs
   by_cases Im:d=s
   ·rw[if_pos Im] at hs
    subst Im
    rw[alX _ _ _ (by rw[h.size];exact hd d Ab)]
    exact PK x hs
   ·rw[if_neg Im] at hs
    rw[alY _ _ _ _ Im]
    exact(h.bM s x hs).move (fun k hk=>qR k (.inl ⟨s,x,hs,hk⟩)) hF
 ·intro k e he
  by_cases hn:k∈dR o r\/k∈jQ r
  ·exact(Ic k e (aah o r σ k e he hn)).1
  ·simp only[not_or] at hn
   obtain⟨hk,fc⟩:=hold k e he hn.1 hn.2
   have h0:=h.dH k e fc
   rw[PW k hn.1,sZ k hn.1 hn.2]
   cases e with
   |arr x deep=>exact e7.gg h0 hF (fun b hb=>jo k _ hn.1 hn.2 hk fc b hb)
   |part x dead=>exact eE.gg h0 hF (fun b hb=>jo k _ hn.1 hn.2 hk fc b hb)
   |box cs=>
    obtain⟨b,cur,e',h1,h2,h3,h4⟩:=h0
    refine⟨b,cur,e',h1,?_,h3,h4.move (fun x hx k' cU=>qR k' (.inr ⟨k,cs,fc,x,hx,cU⟩)) hF⟩
    rw[jo k _ hn.1 hn.2 hk fc b (by simp[h3])];exact h2
 ·intro k k' e e' b eZ he fc hb
  by_cases hn:k∈dR o r\/k∈jQ r
  ·refine SL k k' b eZ hn ?_ hb
   by_cases wm:k'∈dR o r\/k'∈jQ r
   ·exact wm.elim .inl (fun e=> .inr (.inl e))
   ·simp only[not_or] at wm
    obtain⟨hk,EQ⟩:=hold k' e' fc wm.1 wm.2
    exact .inr (.inr ⟨hk,by simp[EQ]⟩)
  ·have Xc:=hn
   simp only[not_or] at hn
   obtain⟨hk,nK⟩:=hold k e he hn.1 hn.2
   by_cases wm:k'∈dR o r\/k'∈jQ r
   ·intro bj
    exact SL k' k b (Ne.symm eZ) wm (.inr (.inr ⟨hk,by simp[nK]⟩)) bj hb
   ·simp only[not_or] at wm
    obtain⟨cU,abh⟩:=hold k' e' fc wm.1 wm.2
    rw[sZ k hn.1 hn.2] at hb
    rw[sZ k' wm.1 wm.2]
    exact h.apart k k' e e' b eZ nK abh hb
 ·intro k e he
  by_cases hn:k∈dR o r\/k∈jQ r
  ·exact(Ic k e (aah o r σ k e he hn)).2.1
  ·simp only[not_or] at hn
   obtain⟨hk,nK⟩:=hold k e he hn.1 hn.2
   rw[sZ k hn.1 hn.2];exact h.nodup k e nK
 ·intro k e b he hb
  by_cases hn:k∈dR o r\/k∈jQ r
  ·exact(Ic k e (aah o r σ k e he hn)).2.2 b hb
  ·simp only[not_or] at hn
   obtain⟨hk,nK⟩:=hold k e he hn.1 hn.2
   rw[sZ k hn.1 hn.2] at hb
   obtain⟨h1,h2,h3⟩:=h.fQ k e b nK hb
   exact⟨yf k e b hn.1 hn.2 hk nK hb,h2,by omega⟩
end AM
