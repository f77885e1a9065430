/- THE ABSTRACT MACHINE: how its states stand to the model's; how an operation's outcome is laid into both. -/
import Derived.Test.YtlachfpabecaeaaQAmRep
namespace AM
set_option linter.unusedVariables false
open Go
open Go.RowKit (Below)
variable{U:dw}
theorem fF{a b:Key}:cj a b=true↔a=b:=by
 obtain⟨a1,a2⟩:=a;obtain⟨b1,b2⟩:=b
 simp[cj]
theorem k9(a:Key):cj a a=true:=fF.2 rfl
theorem rR{a b:Key}:cj a b=false↔a≠b:=by
 rw[<-n7,fF]
theorem gX{l:List Key}{k:Key}:l.any (cj k)=true↔k∈l:=by
 simp[jI,fF]
structure Pm where
 w0:World
 W:Nat->Prop
 F0:Nat->Prop
 sL:Key->Option Value
theorem bB.refl(W:Nat->Prop)(w:World):bB W w w:=⟨rfl,rfl,rfl,nC _,fun _ _ _=>rfl⟩
theorem bB.trans{W:Nat->Prop}{a b c:World}(h:bB W a b)(k:bB (fun x=>W x\/a.heap.size<=x) b c):bB W a c:=
 ⟨k.os.trans h.os,k.tape.trans h.tape,k.output.trans h.output,tg h.size k.size,fun i hi hw=>
  (k.block i (BZ hi h.size) (fun e=>e.elim hw (fun e=>by omega))).trans (h.block i hi hw)⟩
theorem bB.mono{W W':Nat->Prop}{a b:World}(h:bB W a b)(hw:∀i,W i->W' i):bB W' a b:=
 ⟨h.os,h.tape,h.output,h.size,fun i hi hn=>h.block i hi (fun e=>hn (hw i e))⟩
theorem bB.drew(W:Nat->Prop)(w:World):bB W w w.drew:=⟨rfl,rfl,rfl,nC _,fun _ _ _=>rfl⟩
def ay(σ:aa U)(k:Key):Bool:=σ.ah.any (cj k)||(σ.aw k).isNone
def Names(σ:aa U)(k:Key):Prop:=
 (∃s x,σ.get s=some x/\k∈x.keys)\/(∃k' cs,σ.aw k'=some (.box cs)/\∃x∈cs,k∈x.keys)
def wP(E:Env U)(w:World)(F:Nat->Prop):Prop:=∀p∈E.zC,F p.1/\∃e r,w.heap[p.1]? =some (.cells p.2 e r)
theorem wP.bu{E:Env U}{w w':World}{F F':Nat->Prop}(h:wP E w F)(hF:∀b,F b->F' b/\w'.heap[b]? =w.heap[b]?):wP E w' F':=by
 intro p hp
 obtain⟨h1,e,r,h2⟩:=h p hp
 exact⟨(hF _ h1).1,e,r,(hF _ h1).2.trans h2⟩
structure aE(E:Env U)(pm:Pm)(F:Nat->Prop)(kv:Key->Value)(fp:Key->List Nat)(σ:aa U)(a:Act)(w:World):Prop where
 size:a.tmps.size=σ.n
 defers:a.defers=[]
 au:∀s x,σ.get s=some x->RS E w F kv fp (ay σ) x (a.tmps.getD s undef)
 aJ:∀k e,σ.aw k=some e->ig E w F kv fp (ay σ) e (kv k) (fp k)
 apart:∀k k' e e' b,k≠k'->σ.aw k=some e->σ.aw k'=some e'->b∈fp k->b∉fp k'
 nodup:∀k e,σ.aw k=some e->(fp k).Nodup
 bt:∀k e b,σ.aw k=some e->b∈fp k->¬F b/\(pm.W b\/pm.w0.heap.size<=b)/\b<w.heap.size
 iz:∀b,F b->b<w.heap.size
 iy:∀b,F b->pm.F0 b\/pm.W b\/pm.w0.heap.size<=b
 upto:bB pm.W pm.w0 w
 sL:∀k v,pm.sL k=some v->2000000<=k.1/\k.2<1024/\σ.n<=1000000/\kv k=v
 lay:wP E w F
def Pz(E:Env U)(pm:Pm)(σ:aa U)(a:Act)(w:World):Prop:=∃F kv fp,aE E pm F kv fp σ a w
section move
variable{E:Env U}{w w':World}{F F':Nat->Prop}{kv kv':Key->Value}{fp fp':Key->List Nat}{bad bad':Key->Bool}
def fP(w w':World)(kv kv':Key->Value)(fp fp':Key->List Nat)(bad bad':Key->Bool)(k:Key):Prop:=
 kv' k=kv k/\(bad' k=true\/(bad k=false/\fp' k=fp k/\∀b∈fp k,w'.heap[b]? =w.heap[b]?))
theorem DJ{w w':World}{S S':Nat->Prop}{v v':Value}(h:fw w S v [] v'):fw w' S' v [] v':=h
theorem RA.move{x:AC U}{v:Value}(h:RA E w F kv fp x v)(hk:∀k∈x.keys,fP w w' kv kv' fp fp' bad bad' k)
  (hF:∀b,F b->F' b/\w'.heap[b]? =w.heap[b]?):cd bad' x=true\/RA E w' F' kv' fp' x v:=by
 cases x with
 |c x=>exact .inr (Rp.bu h hF (by simp))
 |e0=>exact .inr h
 |ref k p=>
  obtain⟨h1,h2⟩:=hk k (by simp[AC.keys])
  simp only[RA,cd] at h⊢
  cases p with
  |nil=>rw[h1];exact .inr (DJ h)
  |cons s p=>
   rcases h2 with h2|⟨_,h3,h4⟩
   ·exact .inl (by simp[h2])
   ·rw[h1,h3];exact .inr (h.bu (fun b hb=>hb.elim (fun e=>⟨.inl (hF b e).1,(hF b e).2⟩) (fun e=>⟨.inr e,h4 b e⟩)))
 |sub k wd lo hi=>
  obtain⟨h1,h2⟩:=hk k (by simp[AC.keys])
  simp only[RA] at h⊢;rw[h1];exact .inr h
 |dG k p i wd off=>
  obtain⟨h1,h2⟩:=hk k (by simp[AC.keys])
  simp only[RA,cd] at h⊢
  obtain⟨b,o,n,c,h3,h4⟩:=h
  cases p with
  |nil=>rw[h1];exact .inr ⟨b,o,n,c,DJ h3,h4⟩
  |cons s p=>
   rcases h2 with h2|⟨_,h5,h6⟩
   ·exact .inl (by simp[h2])
   ·rw[h1,h5];exact .inr ⟨b,o,n,c,h3.bu (fun b hb=>hb.elim (fun e=>⟨.inl (hF b e).1,(hF b e).2⟩) (fun e=>⟨.inr e,h6 b e⟩)),h4⟩
 |dh k off=>
  obtain⟨h1,h2⟩:=hk k (by simp[AC.keys])
  simp only[RA] at h⊢;rw[h1];exact .inr h
 |kn b τ xs=>exact .inr ⟨h.1.bu hF (by simp),h.2⟩
 |ia cs=>
  obtain⟨b,o,h1,h2,h3⟩:=h
  refine .inr ⟨b,o,h1,(hF b h2).1,fun j c hj=> ?_⟩
  obtain⟨u,h4,h5⟩:=h3 j c hj
  refine⟨u,?_,h5.bu hF (by simp)⟩
  rw[World.cell?_of_block (w:=w) (a:=⟨b,o+j,none⟩) (hF b h2).2];exact h4
theorem RD.move{x:AC U}{v:Value}(h:RD E w F kv fp bad x v)(hk:∀k∈x.keys,fP w w' kv kv' fp fp' bad bad' k)
  (hF:∀b,F b->F' b/\w'.heap[b]? =w.heap[b]?):RD E w' F' kv' fp' bad' x v:=by
 refine⟨h.1,?_⟩
 rcases h.2 with h2|h2
 ·refine .inl ?_
  cases x<;>simp only[cd,c9] at h2⊢<;>try (cases h2;done)
  all_goals
   obtain⟨_,h3⟩:=hk _ (gn.2 rfl)
   refine⟨h2.1,?_⟩
   rcases h3 with h3|h3
   ·exact h3
   ·rw[h3.1] at h2;simp at h2
 ·exact h2.move hk hF
theorem dQ.move{xs:List (AC U)}{vs:List Value}(h:dQ E w F kv fp bad xs vs)(hk:∀x∈xs,∀k∈x.keys,fP w w' kv kv' fp fp' bad bad' k)
  (hF:∀b,F b->F' b/\w'.heap[b]? =w.heap[b]?):dQ E w' F' kv' fp' bad' xs vs:=
 ⟨h.1,fun i x v hx hv=>(h.2 i x v hx hv).move (hk x (n6 hx)) hF⟩
theorem RV.move{x:AV U}{v:Value}(h:RV E w F kv fp bad x v)(hk:∀y∈x.cs,∀k∈y.keys,fP w w' kv kv' fp fp' bad bad' k)
  (hF:∀b,F b->F' b/\w'.heap[b]? =w.heap[b]?):RV E w' F' kv' fp' bad' x v:=by
 obtain⟨vs,h1,h2⟩:=h
 exact⟨vs,h1.move hk hF,h2⟩
theorem SV.mem_keys{x:SV U}{k:Key}:k∈x.keys↔∃y∈x.mE,k∈y.keys:=by simp[SV.keys]
theorem RS.move{x:SV U}{v:Value}(h:RS E w F kv fp bad x v)(hk:∀k∈x.keys,fP w w' kv kv' fp fp' bad bad' k)
  (hF:∀b,F b->F' b/\w'.heap[b]? =w.heap[b]?):RS E w' F' kv' fp' bad' x v:=by
 cases x with
 |v x=>exact RV.move h (fun y hy k lV=>hk k (SV.mem_keys.2 ⟨y,hy,lV⟩)) hF
 |jx xs=>
  obtain⟨vs,h1,h2,h3⟩:=h
  refine⟨vs,h1,h2,fun i x u hx hu=>(h3 i x u hx hu).move (fun y hy k lV=>hk k (SV.mem_keys.2 ⟨y,?_,lV⟩)) hF⟩
  exact fC.2 ⟨x,n6 hx,hy⟩
 |fn p=>exact eU.bu h hF
 |ox g xs=>
  obtain⟨vs,h1,h2,h3⟩:=h
  refine⟨vs,h1,h2,fun i x u hx hu=>(h3 i x u hx hu).move (fun y hy k lV=>hk k (SV.mem_keys.2 ⟨y,?_,lV⟩)) hF⟩
  exact fC.2 ⟨x,n6 hx,hy⟩
end move
theorem oR(o:Oper)(r:az U)(σ:aa U)(s:Nat):
  (apply o r σ).get s=match o.dst with|some d=>if d=s then r.val else σ.get s|none=>σ.get s:=by
 unfold aa.get apply
 cases o.dst with
 |none=>rfl
 |some d=>
  simp only[look]
  by_cases h:d=s
  ·subst h;simp
  ·simp only[h,if_false]
   cases hb:Nat.beq d s
   ·rfl
   ·exact absurd (eI hb) h
theorem nL{β:Type}(l r:List (Key×Option β))(k:Key):aW (l++r) k=if l.any (fun p=>cj p.1 k) then aW l k else aW r k:=by
 induction l with
 |nil=>simp
 |cons p l ih=>
  obtain⟨t,v⟩:=p
  simp only[Hg,aW,zo]
  rcases Bool.eq_false_or_eq_true (cj t k) with h|h
  ·simp[h]
  ·simp only[h,cond_false,sA];exact ih
def aM(o:Oper)(r:az U):List Key:=r.aM.map fun(j,_)=>(o.dst.getD 1000000,j)
def cK(r:az U):List Key:=r.cK.map (·.1)
theorem Ah(o:Oper)(r:az U)(σ:aa U)(k:Key)(h1:k∉aM o r)(h2:k∉cK r)(h3:k∉r.dB):
  (apply o r σ).aw k=σ.aw k:=by
 unfold aa.aw apply
 simp only[kP]
 rw[nL,if_neg,nL,if_neg,nL,if_neg]
 ·intro h
  simp only[uB,jI,Function.comp] at h
  obtain⟨x,hx,hk⟩:=h
  exact h3 (by rw[<-fF.1 hk];exact hx)
 ·intro h
  simp only[uB,jI,Function.comp] at h
  obtain⟨x,hx,hk⟩:=h
  exact h2 (by rw[<-fF.1 hk];exact eV.2 ⟨x,hx,rfl⟩)
 ·intro h
  simp only[fH,uB,jI,Function.comp] at h
  obtain⟨x,hx,hk⟩:=h
  exact h1 (by rw[<-fF.1 hk];exact eV.2 ⟨x,hx,rfl⟩)
theorem I5{β:Type}(l:List Key)(k:Key):aW (l.map fun k=>(k,(none:Option β))) k=none:=by
 induction l with
 |nil=>rfl
 |cons a l ih=>simp only[qd,aW];cases cj a k<;>simp[ih]
theorem Aj(o:Oper)(r:az U)(σ:aa U)(k:Key)(h1:k∉aM o r)(h2:k∉cK r)(h3:k∈r.dB):
  (apply o r σ).aw k=none:=by
 unfold aa.aw apply
 simp only[kP]
 rw[nL,if_neg,nL,if_neg,nL,if_pos,I5]
 ·simp only[uB,jI,Function.comp]
  exact⟨k,h3,k9 k⟩
 ·intro h
  simp only[uB,jI,Function.comp] at h
  obtain⟨x,hx,hk⟩:=h
  exact h2 (by rw[<-fF.1 hk];exact eV.2 ⟨x,hx,rfl⟩)
 ·intro h
  simp only[fH,uB,jI,Function.comp] at h
  obtain⟨x,hx,hk⟩:=h
  exact h1 (by rw[<-fF.1 hk];exact eV.2 ⟨x,hx,rfl⟩)
theorem mN{β:Type}{l:List (Key×Option β)}{k:Key}{e:β}(h:aW l k=some e):(k,some e)∈l:=by
 induction l with
 |nil=>cases h
 |cons p l ih=>
  obtain⟨t,v⟩:=p
  simp only[aW] at h
  cases ht:cj t k<;>simp only[ht,cond_true,cond_false] at h
  ·exact d_ _ (ih h)
  ·rw[<-fF.1 ht,h];exact gp
theorem Ai(o:Oper)(r:az U)(σ:aa U)(k:Key)(e:bZ U)(h:(apply o r σ).aw k=some e)(hk:k∈aM o r\/k∈cK r):
  (∃j,k=(o.dst.getD 1000000,j)/\(j,e)∈r.aM)\/(k,e)∈r.cK:=by
 unfold aa.aw apply at h
 simp only[kP] at h
 rw[nL] at h
 split at h
 ·have:=mN h
  simp only[fH,eV,fB,bH] at this
  obtain⟨⟨j,e'⟩,hm,rfl,rfl⟩:=this
  exact .inl ⟨j,rfl,hm⟩
 ·rename_i wH
  have hu:k∈cK r:=by
   refine hk.resolve_left (fun ha=>wH ?_)
   simp only[aM,eV] at ha
   obtain⟨x,hx,rfl⟩:=ha
   simp only[fH,uB,jI,Function.comp]
   exact⟨x,hx,k9 _⟩
  rw[nL,if_pos] at h
  ·have:=mN h
   simp only[eV,fB,bH] at this
   obtain⟨⟨k',e'⟩,hm,rfl,rfl⟩:=this
   exact .inr hm
  ·simp only[cK,eV] at hu
   obtain⟨x,hx,rfl⟩:=hu
   simp only[uB,jI,Function.comp]
   exact⟨x,hx,k9 _⟩
theorem Jd(a:Act)(d:Nat)(v:Value)(hd:d<a.tmps.size):(a.put (some d) v).tmps.getD d undef=v:=by
 simp[Act.put,uG,hd]
theorem Je(a:Act)(d s:Nat)(v:Value)(hd:d≠s):(a.put (some d) v).tmps.getD s undef=a.tmps.getD s undef:=by
 simp[Act.put,uG,Array.getElem?_setIfInBounds_ne hd]
theorem HZ(a:Act)(d:Option Nat)(v:Value):(a.put d v).tmps.size=a.tmps.size:=by cases d<;>simp[Act.put]
theorem JG(a:Act)(d:Option Nat)(v:Value):(a.put d v).defers=a.defers:=by cases d<;>simp[Act.put]
theorem aE.apply{E:Env U}{pm:Pm}{F F':Nat->Prop}{kv kv':Key->Value}{fp fp':Key->List Nat}{σ:aa U}{a:Act}{w w':World}
  (h:aE E pm F kv fp σ a w) (o:Oper) (r:az U) (v:Value)
  (hd:∀d,o.dst=some d->d<σ.n)
  (tO:∀sv,r.val=some sv->RS E w' F' kv' fp' (ay (AM.apply o r σ)) sv v)
  (tZ:∀k,k∉aM o r->kv' k=kv k)
  (g_:∀k,k∉aM o r->k∉cK r->fp' k=fp k)
  (Bn:∀k∈aM o r,¬Names σ k)
  (hF:∀b,F b->F' b/\w'.heap[b]? =w.heap[b]?)
  (cM:∀k e,k∉aM o r->k∉cK r->k∉r.dB->σ.aw k=some e->∀b∈fp k,w'.heap[b]? =w.heap[b]?)
  (pg:∀k e,((∃j,k=(o.dst.getD 1000000,j)/\(j,e)∈r.aM)\/(k,e)∈r.cK)->ig E w' F' kv' fp' (ay (AM.apply o r σ)) e (kv' k) (fp' k)/\(fp' k).Nodup/\
   ∀b∈fp' k,¬F' b/\(pm.W b\/pm.w0.heap.size<=b)/\b<w'.heap.size)
  (kw:∀k e b,k∉aM o r->k∉cK r->k∉r.dB->σ.aw k=some e->b∈fp k->¬F' b)
  (vZ:∀k k' b,k≠k'->(k∈aM o r\/k∈cK r)->(k'∈aM o r\/k'∈cK r\/(k'∉r.dB/\(σ.aw k').isSome))->b∈fp' k->b∉fp' k')
  (Ls:∀b,F' b->b<w'.heap.size) (Fq:∀b,F' b->pm.F0 b\/pm.W b\/pm.w0.heap.size<=b)
  (fi:bB pm.W pm.w0 w') (jf:w.heap.size<=w'.heap.size):
  aE E pm F' kv' fp' (AM.apply o r σ) (a.put o.dst v) w':=by
 have io:∀k,Names σ k->fP w w' kv kv' fp fp' (ay σ) (ay (AM.apply o r σ)) k:=by
  intro k hn
  have wH:k∉aM o r:=fun e=>Bn k e hn
  refine⟨tZ k wH,?_⟩
  by_cases hu:k∈cK r
  ·left
   have:(AM.apply o r σ).ah.any (cj k)=true:=gX.2 (by simp only[AM.apply,cY];exact .inl hu)
   simp[ay,this]
  ·by_cases hk:k∈r.dB
   ·left
    simp[ay,Aj o r σ k wH hu hk]
   ·have he:=Ah o r σ k wH hu hk
    have si:(AM.apply o r σ).ah.any (cj k)=σ.ah.any (cj k):=by
     rw[B0,gX,gX]
     simp only[AM.apply,cY]
     exact⟨fun e=>e.resolve_left hu,.inr⟩
    cases hb:ay σ k
    ·right
     refine⟨rfl,g_ k wH hu,?_⟩
     simp only[ay,wD] at hb
     obtain⟨e,K4⟩:∃e,σ.aw k=some e:=by
      cases hx:σ.aw k with
      |none=>rw[hx] at hb;simp at hb
      |some e=>exact⟨e,rfl⟩
     exact cM k e wH hu hk K4
    ·left
     simp only[ay] at hb⊢
     rw[he,si];exact hb
 have hold:∀k e,(AM.apply o r σ).aw k=some e->k∉aM o r->k∉cK r->k∉r.dB/\σ.aw k=some e:=by
  intro k e he h1 h2
  by_cases hk:k∈r.dB
  ·rw[Aj o r σ k h1 h2 hk] at he;cases he
  ·exact⟨hk,by rw[<-Ah o r σ k h1 h2 hk];exact he⟩
 refine⟨?_,?_,?_,?_,?_,?_,?_,Ls,Fq,fi,fun k v KA=> ?_,h.lay.bu hF⟩
 rotate_left 7
 ·obtain⟨p1,p2,p3,p4⟩:=h.sL k v KA
  refine⟨p1,p2,p3,(tZ k fun hk=> ?_).trans p4⟩
  simp only[aM,eV] at hk
  obtain⟨t,_,rfl⟩:=hk
  cases lm:o.dst with
  |none=>rw[lm] at p1;simp at p1
  |some d=>
   rw[lm] at p1
   have h1:d<σ.n:=hd d lm
   have h2:2000000<=d:=p1
   exact Nat.lt_irrefl _ (BZ (BZ h1 p3) (tg (by decide:1000000<=2000000) h2))
 ·rw[HZ];exact h.size
 ·rw[JG];exact h.defers
 ·intro s x hs
  rw[oR] at hs
  cases lm:o.dst with
  |none=>
   rw[lm] at hs
   exact(h.au s x hs).move (fun k hk=>io k (.inl ⟨s,x,hs,hk⟩)) hF
  |some d=>
   rw[lm] at hs
   simp only at hs
   by_cases po:d=s
   ·rw[if_pos po] at hs
    subst po
    rw[Jd _ _ _ (by rw[h.size];exact hd d lm)]
    exact tO x hs
   ·rw[if_neg po] at hs
    rw[Je _ _ _ _ po]
    exact(h.au s x hs).move (fun k hk=>io k (.inl ⟨s,x,hs,hk⟩)) hF
 ·intro k e he
  by_cases hn:k∈aM o r\/k∈cK r
  ·exact(pg k e (Ai o r σ k e he hn)).1
  ·simp only[not_or] at hn
   obtain⟨hk,a_⟩:=hold k e he hn.1 hn.2
   have h0:=h.aJ k e a_
   rw[tZ k hn.1,g_ k hn.1 hn.2]
   cases e with
   |arr x deep=>exact aZ.bu h0 hF (fun b hb=>cM k _ hn.1 hn.2 hk a_ b hb)
   |part x dead=>exact aU.bu h0 hF (fun b hb=>cM k _ hn.1 hn.2 hk a_ b hb)
   |box cs=>
    obtain⟨b,cur,e',h1,h2,h3,h4⟩:=h0
    refine⟨b,cur,e',h1,?_,h3,h4.move (fun x hx k' aG=>io k' (.inr ⟨k,cs,a_,x,hx,aG⟩)) hF⟩
    rw[cM k _ hn.1 hn.2 hk a_ b (by simp[h3])];exact h2
 ·intro k k' e e' b aX he a_ hb
  by_cases hn:k∈aM o r\/k∈cK r
  ·refine vZ k k' b aX hn ?_ hb
   by_cases ju:k'∈aM o r\/k'∈cK r
   ·exact ju.elim .inl (fun e=> .inr (.inl e))
   ·simp only[not_or] at ju
    obtain⟨hk,m_⟩:=hold k' e' a_ ju.1 ju.2
    exact .inr (.inr ⟨hk,by simp[m_]⟩)
  ·have y4:=hn
   simp only[not_or] at hn
   obtain⟨hk,fm⟩:=hold k e he hn.1 hn.2
   by_cases ju:k'∈aM o r\/k'∈cK r
   ·intro ap
    exact vZ k' k b (Ne.symm aX) ju (.inr (.inr ⟨hk,by simp[fm]⟩)) ap hb
   ·simp only[not_or] at ju
    obtain⟨aG,Bs⟩:=hold k' e' a_ ju.1 ju.2
    rw[g_ k hn.1 hn.2] at hb
    rw[g_ k' ju.1 ju.2]
    exact h.apart k k' e e' b aX fm Bs hb
 ·intro k e he
  by_cases hn:k∈aM o r\/k∈cK r
  ·exact(pg k e (Ai o r σ k e he hn)).2.1
  ·simp only[not_or] at hn
   obtain⟨hk,fm⟩:=hold k e he hn.1 hn.2
   rw[g_ k hn.1 hn.2];exact h.nodup k e fm
 ·intro k e b he hb
  by_cases hn:k∈aM o r\/k∈cK r
  ·exact(pg k e (Ai o r σ k e he hn)).2.2 b hb
  ·simp only[not_or] at hn
   obtain⟨hk,fm⟩:=hold k e he hn.1 hn.2
   rw[g_ k hn.1 hn.2] at hb
   obtain⟨h1,h2,h3⟩:=h.bt k e b fm hb
   exact⟨kw k e b hn.1 hn.2 hk fm hb,h2,by omega⟩
end AM
