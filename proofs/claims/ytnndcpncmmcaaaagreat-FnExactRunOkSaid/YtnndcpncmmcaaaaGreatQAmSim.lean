import Derived.Test.YtnndcpncmmcaaaaGreatQAmRep
namespace AM
set_option linter.unusedVariables false
open Go
open Go.RowKit (Below)
variable{U:jO}
theorem lM{a b:Key}:fU a b=true↔a=b:=by
 obtain⟨a1,a2⟩:=a;obtain⟨b1,b2⟩:=b
 simp[fU]
theorem qd(a:Key):fU a a=true:=lM.2 rfl
theorem wA{a b:Key}:fU a b=false↔a≠b:=by
 rw[<-Al,lM]
theorem nP{l:List Key}{k:Key}:l.any (fU k)=true↔k∈l:=by
 simp[tW,lM]
structure Pm where
 w0:World
 W:Nat->Prop
 F0:Nat->Prop
 HW:Key->Option Value
theorem fm.refl(W:Nat->Prop)(w:World):fm W w w:=⟨rfl,rfl,rfl,og _,fun _ _ _=>rfl,og _⟩
theorem fm.trans{W:Nat->Prop}{a b c:World}(h:fm W a b)(k:fm (fun x=>W x\/a.heap.size<=x) b c):fm W a c:=
 ⟨k.os.trans h.os,k.tape.trans h.tape,k.output.trans h.output,En h.size k.size,fun i hi hw=>
  (k.block i (MI hi h.size) (fun e=>e.elim hw (fun e=>by omega))).trans (h.block i hi hw),En h.drawn k.drawn⟩
theorem fm.mono{W W':Nat->Prop}{a b:World}(h:fm W a b)(hw:∀i,W i->W' i):fm W' a b:=
 ⟨h.os,h.tape,h.output,h.size,fun i hi hn=>h.block i hi (fun e=>hn (hw i e)),h.drawn⟩
theorem fm.drew(W:Nat->Prop)(w:World):fm W w w.drew:=⟨rfl,rfl,rfl,og _,fun _ _ _=>rfl,Nat.le_succ _⟩
def aZ(σ:ah U)(k:Key):Bool:=σ.ay.any (fU k)||(σ.aU k).isNone
def Names(σ:ah U)(k:Key):Prop:=
 (∃s x,σ.get s=some x/\k∈x.keys)\/(∃k' cs,(σ.aU k'=some (.box cs)\/∃a i x,σ.aU k'=some (.nA a i x)/\cs=[x])/\∃x∈cs,k∈x.keys)
def Lj(E:Env U)(w:World)(F:Nat->Prop):Prop:=∀p∈E.CE,F p.1/\∃e r,w.heap[p.1]? =some (.cells p.2 e r)
theorem Lj.cI{E:Env U}{w w':World}{F F':Nat->Prop}(h:Lj E w F)(hF:∀b,F b->F' b/\w'.heap[b]? =w.heap[b]?):Lj E w' F':=by
 intro p hp
 obtain⟨h1,e,r,h2⟩:=h p hp
 exact⟨(hF _ h1).1,e,r,(hF _ h1).2.trans h2⟩
structure bi(E:Env U)(pm:Pm)(F:Nat->Prop)(kv:Key->Value)(fp:Key->List Nat)(σ:ah U)(w:World)(tk:Key->List Nat):Prop where
 str:∀k e,σ.aU k=some e->e.wk=true->Vl E w F e (kv k) (fp k) (tk k)
 nodup:∀k e,σ.aU k=some e->e.wk=true->(tk k).Nodup
 apart:∀k k' e e' b,k≠k'->σ.aU k=some e->σ.aU k'=some e'->e.wk=true->e'.wk=true->b∈tk k->b∉tk k'
 own:∀k e b,σ.aU k=some e->e.wk=true->b∈tk k->F b/\(pm.W b\/pm.w0.heap.size<=b)
structure cd(E:Env U)(pm:Pm)(F:Nat->Prop)(kv:Key->Value)(fp:Key->List Nat)(σ:ah U)(a:Act)(w:World):Prop where
 size:a.tmps.size=σ.n
 defers:a.defers=[]
 bw:∀s x,σ.get s=some x->RS E w F kv fp (aZ σ) x (a.tmps.getD s undef)
 cT:∀k e,σ.aU k=some e->lm E w F kv fp (aZ σ) e (kv k) (fp k)
 apart:∀k k' e e' b,k≠k'->σ.aU k=some e->σ.aU k'=some e'->b∈fp k->b∉fp k'
 nodup:∀k e,σ.aU k=some e->(fp k).Nodup
 cU:∀k e b,σ.aU k=some e->b∈fp k->¬F b/\(pm.W b\/pm.w0.heap.size<=b)/\b<w.heap.size
 lT:∀b,F b->b<w.heap.size
 ny:∀b,F b->pm.F0 b\/pm.W b\/pm.w0.heap.size<=b
 upto:fm pm.W pm.w0 w
 HW:∀k v,pm.HW k=some v->2000000<=k.1/\k.2<1024/\σ.n<=1000000/\kv k=v
 lay:Lj E w F
 bQ:∃tk,bi E pm F kv fp σ w tk
theorem bi.cI{E:Env U}{pm:Pm}{F F':Nat->Prop}{kv kv':Key->Value}{fp fp':Key->List Nat}{σ τ:ah U}{w w':World}{tk:Key->List Nat}(h:bi E pm F kv fp σ w tk)
  (hs:∀k e,τ.aU k=some e->e.wk=true->σ.aU k=some e/\kv' k=kv k/\fp' k=fp k/\∀b∈fp k,w'.heap[b]? =w.heap[b]?) (hF:∀b,F b->F' b/\w'.heap[b]? =w.heap[b]?):bi E pm F' kv' fp' τ w' tk:=by
 refine⟨fun k e he hl=> ?_,fun k e he hl=>h.nodup k e (hs k e he hl).1 hl,fun k k' e e' b cO he dr hl zh=>h.apart k k' e e' b cO (hs k e he hl).1 (hs k' e' dr zh).1 hl zh,fun k e b he hl hb=> ?_⟩
 ·obtain⟨h1,h2,h3,h4⟩:=hs k e he hl
  rw[h2,h3]
  exact(h.str k e h1 hl).cI hF h4 (fun b hb=>(hF b (h.own k e b h1 hl hb).1).2)
 ·obtain⟨h1,_,_,_⟩:=hs k e he hl
  have:=h.own k e b h1 hl hb
  exact⟨(hF b this.1).1,this.2⟩
section move
variable{E:Env U}{w w':World}{F F':Nat->Prop}{kv kv':Key->Value}{fp fp':Key->List Nat}{bad bad':Key->Bool}
def mz(w w':World)(kv kv':Key->Value)(fp fp':Key->List Nat)(bad bad':Key->Bool)(k:Key):Prop:=
 kv' k=kv k/\(bad' k=true\/(bad k=false/\fp' k=fp k/\∀b∈fp k,Ah w w' b))
theorem adA{w w':World}{S S':Nat->Prop}{v v':Value}(h:mg w S v [] v'):mg w' S' v [] v':=h
theorem RA.move{x:AC U}{v:Value}(h:RA E w F kv fp x v)(hk:∀k∈x.keys,mz w w' kv kv' fp fp' bad bad' k)
  (hF:∀b,F b->F' b/\w'.heap[b]? =w.heap[b]?):gg bad' x=true\/RA E w' F' kv' fp' x v:=by
 cases x with
 |c x=>exact .inr (Rp.cI h hF (by simp))
 |e0=>exact .inr h
 |ref k p=>
  obtain⟨h1,h2⟩:=hk k (by simp[AC.keys])
  simp only[RA,gg] at h⊢
  cases p with
  |nil=>rw[h1];exact .inr (adA h)
  |cons s p=>
   rcases h2 with h2|⟨_,h3,h4⟩
   ·exact .inl (by simp[h2])
   ·rw[h1,h3];exact .inr (h.cI (fun b hb=>hb.elim (fun e=>⟨.inl (hF b e).1,.of (hF b e).2⟩) (fun e=>⟨.inr e,h4 b e⟩)))
 |sub k wd lo hi=>
  obtain⟨h1,h2⟩:=hk k (by simp[AC.keys])
  simp only[RA] at h⊢;rw[h1];exact .inr h
 |iC k p i wd off=>
  obtain⟨h1,h2⟩:=hk k (by simp[AC.keys])
  simp only[RA,gg] at h⊢
  obtain⟨b,o,n,c,h3,h4⟩:=h
  cases p with
  |nil=>rw[h1];exact .inr ⟨b,o,n,c,adA h3,h4⟩
  |cons s p=>
   rcases h2 with h2|⟨_,h5,h6⟩
   ·exact .inl (by simp[h2])
   ·rw[h1,h5];exact .inr ⟨b,o,n,c,h3.cI (fun b hb=>hb.elim (fun e=>⟨.inl (hF b e).1,.of (hF b e).2⟩) (fun e=>⟨.inr e,h6 b e⟩)),h4⟩
 |ji k off=>
  obtain⟨h1,h2⟩:=hk k (by simp[AC.keys])
  simp only[RA] at h⊢;rw[h1];exact .inr h
 |kn b τ xs=>exact .inr ⟨h.1.cI hF (by simp),h.2⟩
 |ia cs=>
  obtain⟨b,o,h1,h2,h3⟩:=h
  refine .inr ⟨b,o,h1,(hF b h2).1,fun j c hj=> ?_⟩
  obtain⟨u,h4,h5⟩:=h3 j c hj
  refine⟨u,?_,h5.cI hF (by simp)⟩
  rw[World.cell?_of_block (w:=w) (a:=⟨b,o+j,none⟩) (hF b h2).2];exact h4
theorem RD.move{x:AC U}{v:Value}(h:RD E w F kv fp bad x v)(hk:∀k∈x.keys,mz w w' kv kv' fp fp' bad bad' k)
  (hF:∀b,F b->F' b/\w'.heap[b]? =w.heap[b]?):RD E w' F' kv' fp' bad' x v:=by
 refine⟨h.1,?_⟩
 rcases h.2 with h2|h2
 ·refine .inl ?_
  cases x<;>simp only[gg,fY] at h2⊢<;>try (cases h2;done)
  all_goals
   obtain⟨_,h3⟩:=hk _ (g_.2 rfl)
   refine⟨h2.1,?_⟩
   rcases h3 with h3|h3
   ·exact h3
   ·rw[h3.1] at h2;simp at h2
 ·exact h2.move hk hF
theorem kS.move{xs:List (AC U)}{vs:List Value}(h:kS E w F kv fp bad xs vs)(hk:∀x∈xs,∀k∈x.keys,mz w w' kv kv' fp fp' bad bad' k)
  (hF:∀b,F b->F' b/\w'.heap[b]? =w.heap[b]?):kS E w' F' kv' fp' bad' xs vs:=
 ⟨h.1,fun i x v hx hv=>(h.2 i x v hx hv).move (hk x (Ep hx)) hF⟩
theorem RV.move{x:AV U}{v:Value}(h:RV E w F kv fp bad x v)(hk:∀y∈x.cs,∀k∈y.keys,mz w w' kv kv' fp fp' bad bad' k)
  (hF:∀b,F b->F' b/\w'.heap[b]? =w.heap[b]?):RV E w' F' kv' fp' bad' x v:=by
 obtain⟨vs,h1,h2⟩:=h
 exact⟨vs,h1.move hk hF,h2⟩
theorem SV.mem_keys{x:SV U}{k:Key}:k∈x.keys↔∃y∈x.xE,k∈y.keys:=by simp[SV.keys]
theorem RS.move{x:SV U}{v:Value}(h:RS E w F kv fp bad x v)(hk:∀k∈x.keys,mz w w' kv kv' fp fp' bad bad' k)
  (hF:∀b,F b->F' b/\w'.heap[b]? =w.heap[b]?):RS E w' F' kv' fp' bad' x v:=by
 cases x with
 |v x=>exact RV.move h (fun y hy k wT=>hk k (SV.mem_keys.2 ⟨y,hy,wT⟩)) hF
 |tX xs=>
  obtain⟨vs,h1,h2,h3⟩:=h
  refine⟨vs,h1,h2,fun i x u hx hu=>(h3 i x u hx hu).move (fun y hy k wT=>hk k (SV.mem_keys.2 ⟨y,?_,wT⟩)) hF⟩
  exact ln.2 ⟨x,Ep hx,hy⟩
 |fn p=>exact mC.cI h hF
 |El g xs=>
  obtain⟨vs,h1,h2,h3⟩:=h
  refine⟨vs,h1,h2,fun i x u hx hu=>(h3 i x u hx hu).move (fun y hy k wT=>hk k (SV.mem_keys.2 ⟨y,?_,wT⟩)) hF⟩
  exact ln.2 ⟨x,Ep hx,hy⟩
end move
theorem yX(o:Oper)(r:bz U)(σ:ah U)(s:Nat):
  (apply o r σ).get s=match o.dst with|some d=>if d=s then r.val else σ.get s|none=>σ.get s:=by
 unfold ah.get apply
 cases o.dst with
 |none=>rfl
 |some d=>
  simp only[look]
  by_cases h:d=s
  ·subst h;simp
  ·simp only[h,if_false]
   cases hb:Nat.beq d s
   ·rfl
   ·exact absurd (jp hb) h
theorem CV{β:Type}(l r:List (Key×Option β))(k:Key):cm (l++r) k=if l.any (fun p=>fU p.1 k) then cm l k else cm r k:=by
 induction l with
 |nil=>simp
 |cons p l ih=>
  obtain⟨t,v⟩:=p
  simp only[zex,cm,Rs]
  rcases Bool.eq_false_or_eq_true (fU t k) with h|h
  ·simp[h]
  ·simp only[h,cond_false,JY];exact ih
def ct(o:Oper)(r:bz U):List Key:=r.ct.map fun(j,_)=>(o.dst.getD 1000000,j)
def fM(r:bz U):List Key:=r.fM.map (·.1)
theorem Km(o:Oper)(r:bz U)(σ:ah U)(k:Key)(h1:k∉ct o r)(h2:k∉fM r)(h3:k∉r.gH):
  (apply o r σ).aU k=σ.aU k:=by
 unfold ah.aU apply
 simp only[qc]
 rw[CV,if_neg,CV,if_neg,CV,if_neg]
 ·intro h
  simp only[Oo,tW,Function.comp] at h
  obtain⟨x,hx,hk⟩:=h
  exact h3 (by rw[<-lM.1 hk];exact hx)
 ·intro h
  simp only[Oo,tW,Function.comp] at h
  obtain⟨x,hx,hk⟩:=h
  exact h2 (by rw[<-lM.1 hk];exact jX.2 ⟨x,hx,rfl⟩)
 ·intro h
  simp only[kX,Oo,tW,Function.comp] at h
  obtain⟨x,hx,hk⟩:=h
  exact h1 (by rw[<-lM.1 hk];exact jX.2 ⟨x,hx,rfl⟩)
theorem anJ{β:Type}(l:List Key)(k:Key):cm (l.map fun k=>(k,(none:Option β))) k=none:=by
 induction l with
 |nil=>rfl
 |cons a l ih=>simp only[rl,cm];cases fU a k<;>simp[ih]
theorem MZ(o:Oper)(r:bz U)(σ:ah U)(k:Key)(h1:k∉ct o r)(h2:k∉fM r)(h3:k∈r.gH):
  (apply o r σ).aU k=none:=by
 unfold ah.aU apply
 simp only[qc]
 rw[CV,if_neg,CV,if_neg,CV,if_pos,anJ]
 ·simp only[Oo,tW,Function.comp]
  exact⟨k,h3,qd k⟩
 ·intro h
  simp only[Oo,tW,Function.comp] at h
  obtain⟨x,hx,hk⟩:=h
  exact h2 (by rw[<-lM.1 hk];exact jX.2 ⟨x,hx,rfl⟩)
 ·intro h
  simp only[kX,Oo,tW,Function.comp] at h
  obtain⟨x,hx,hk⟩:=h
  exact h1 (by rw[<-lM.1 hk];exact jX.2 ⟨x,hx,rfl⟩)
theorem yV{β:Type}{l:List (Key×Option β)}{k:Key}{e:β}(h:cm l k=some e):(k,some e)∈l:=by
 induction l with
 |nil=>cases h
 |cons p l ih=>
  obtain⟨t,v⟩:=p
  simp only[cm] at h
  cases ht:fU t k<;>simp only[ht,cond_true,cond_false] at h
  ·exact aJ _ (ih h)
  ·rw[<-lM.1 ht,h];exact cH
theorem Kn(o:Oper)(r:bz U)(σ:ah U)(k:Key)(e:eX U)(h:(apply o r σ).aU k=some e)(hk:k∈ct o r\/k∈fM r):
  (∃j,k=(o.dst.getD 1000000,j)/\(j,e)∈r.ct)\/(k,e)∈r.fM:=by
 unfold ah.aU apply at h
 simp only[qc] at h
 rw[CV] at h
 split at h
 ·have:=yV h
  simp only[kX,jX,kG,eZ] at this
  obtain⟨⟨j,e'⟩,hm,rfl,rfl⟩:=this
  exact .inl ⟨j,rfl,hm⟩
 ·rename_i RE
  have hu:k∈fM r:=by
   refine hk.resolve_left (fun ha=>RE ?_)
   simp only[ct,jX] at ha
   obtain⟨x,hx,rfl⟩:=ha
   simp only[kX,Oo,tW,Function.comp]
   exact⟨x,hx,qd _⟩
  rw[CV,if_pos] at h
  ·have:=yV h
   simp only[jX,kG,eZ] at this
   obtain⟨⟨k',e'⟩,hm,rfl,rfl⟩:=this
   exact .inr hm
  ·simp only[fM,jX] at hu
   obtain⟨x,hx,rfl⟩:=hu
   simp only[Oo,tW,Function.comp]
   exact⟨x,hx,qd _⟩
theorem anZ(a:Act)(d:Nat)(v:Value)(hd:d<a.tmps.size):(a.put (some d) v).tmps.getD d undef=v:=by
 simp[Act.put,Oy,hd]
theorem an0(a:Act)(d s:Nat)(v:Value)(hd:d≠s):(a.put (some d) v).tmps.getD s undef=a.tmps.getD s undef:=by
 simp[Act.put,Oy,Array.getElem?_setIfInBounds_ne hd]
theorem amr(a:Act)(d:Option Nat)(v:Value):(a.put d v).tmps.size=a.tmps.size:=by cases d<;>simp[Act.put]
theorem aot(a:Act)(d:Option Nat)(v:Value):(a.put d v).defers=a.defers:=by cases d<;>simp[Act.put]
theorem cd.GY{E:Env U}{pm:Pm}{F F':Nat->Prop}{kv kv':Key->Value}{fp fp':Key->List Nat}{σ:ah U}{a:Act}{w w':World}
  (h:cd E pm F kv fp σ a w) (o:Oper) (r:bz U) (v:Value)
  (hd:∀d,o.dst=some d->d<σ.n)
  (Gs:∀sv,r.val=some sv->RS E w' F' kv' fp' (aZ (AM.apply o r σ)) sv v)
  (IV:∀k,k∉ct o r->kv' k=kv k)
  (lN:∀k,k∉ct o r->k∉fM r->fp' k=fp k)
  (KW:∀k∈ct o r,¬Names σ k)
  (hF:∀b,F b->F' b/\w'.heap[b]? =w.heap[b]?)
  (fQ:∀k e,k∉ct o r->k∉fM r->k∉r.gH->σ.aU k=some e->∀b∈fp k,w'.heap[b]? =w.heap[b]?)
  (Da:∀k e,((∃j,k=(o.dst.getD 1000000,j)/\(j,e)∈r.ct)\/(k,e)∈r.fM)->lm E w' F' kv' fp' (aZ (AM.apply o r σ)) e (kv' k) (fp' k)/\(fp' k).Nodup/\
   ∀b∈fp' k,¬F' b/\(pm.W b\/pm.w0.heap.size<=b)/\b<w'.heap.size)
  (mT:∀k e b,k∉ct o r->k∉fM r->k∉r.gH->σ.aU k=some e->b∈fp k->¬F' b)
  (GJ:∀k k' b,k≠k'->(k∈ct o r\/k∈fM r)->(k'∈ct o r\/k'∈fM r\/(k'∉r.gH/\(σ.aU k').isSome))->b∈fp' k->b∉fp' k')
  (aa_:∀b,F' b->b<w'.heap.size) (Qr:∀b,F' b->pm.F0 b\/pm.W b\/pm.w0.heap.size<=b)
  (kx:fm pm.W pm.w0 w') (mS:w.heap.size<=w'.heap.size) (LU:∀k∈r.soft,(σ.aU k).isSome=true/\fp' k=fp k/\∀b∈fp k,Ah w w' b)
  (vj:∃tk,bi E pm F' kv' fp' (AM.apply o r σ) w' tk):
  cd E pm F' kv' fp' (AM.apply o r σ) (a.put o.dst v) w':=by
 have nd:∀k,Names σ k->mz w w' kv kv' fp fp' (aZ σ) (aZ (AM.apply o r σ)) k:=by
  intro k hn
  have RE:k∉ct o r:=fun e=>KW k e hn
  refine⟨IV k RE,?_⟩
  by_cases hu:k∈fM r
  ·by_cases hs:k∈r.soft
   ·cases hb:aZ σ k
    ·exact .inr ⟨rfl,(LU k hs).2⟩
    ·left
     have h1:=(LU k hs).1
     simp only[aZ,Ee] at hb⊢
     rcases hb with hb|hb
     ·exact .inl (nP.2 (by simp only[AM.apply,gA];exact .inr (nP.1 hb)))
     ·rw[Option.isNone_iff_eq_none] at hb
      rw[hb] at h1;cases h1
   ·left
    have:(AM.apply o r σ).ay.any (fU k)=true:=nP.2 (by simp only[AM.apply,bz.IZ,gA,CD];exact .inl ⟨hu,by rw[sS,<-Al,nP];exact hs⟩)
    simp[aZ,this]
  ·by_cases hk:k∈r.gH
   ·left
    simp[aZ,MZ o r σ k RE hu hk]
   ·have he:=Km o r σ k RE hu hk
    have KY:(AM.apply o r σ).ay.any (fU k)=σ.ay.any (fU k):=by
     rw[HT,nP,nP]
     simp only[AM.apply,bz.IZ,gA,CD]
     exact⟨fun e=>e.resolve_left (fun e=>hu e.1),.inr⟩
    cases hb:aZ σ k
    ·right
     refine⟨rfl,lN k RE hu,?_⟩
     simp only[aZ,Ox] at hb
     obtain⟨e,Qf⟩:∃e,σ.aU k=some e:=by
      cases hx:σ.aU k with
      |none=>rw[hx] at hb;simp at hb
      |some e=>exact⟨e,rfl⟩
     exact fun b hb=> .of (fQ k e RE hu hk Qf b hb)
    ·left
     simp only[aZ] at hb⊢
     rw[he,KY];exact hb
 have hold:∀k e,(AM.apply o r σ).aU k=some e->k∉ct o r->k∉fM r->k∉r.gH/\σ.aU k=some e:=by
  intro k e he h1 h2
  by_cases hk:k∈r.gH
  ·rw[MZ o r σ k h1 h2 hk] at he;cases he
  ·exact⟨hk,by rw[<-Km o r σ k h1 h2 hk];exact he⟩
 refine⟨?_,?_,?_,?_,?_,?_,?_,aa_,Qr,kx,fun k v hpk=> ?_,h.lay.cI hF,vj⟩
 rotate_left 7
 ·obtain⟨p1,p2,p3,p4⟩:=h.HW k v hpk
  refine⟨p1,p2,p3,(IV k fun hk=> ?_).trans p4⟩
  simp only[ct,jX] at hk
  obtain⟨t,_,rfl⟩:=hk
  cases zi:o.dst with
  |none=>rw[zi] at p1;simp at p1
  |some d=>
   rw[zi] at p1
   have h1:d<σ.n:=hd d zi
   have h2:2000000<=d:=p1
   exact Nat.lt_irrefl _ (MI (MI h1 p3) (En (by decide:1000000<=2000000) h2))
 ·rw[amr];exact h.size
 ·rw[aot];exact h.defers
 ·intro s x hs
  rw[yX] at hs
  cases zi:o.dst with
  |none=>
   rw[zi] at hs
   exact(h.bw s x hs).move (fun k hk=>nd k (.inl ⟨s,x,hs,hk⟩)) hF
  |some d=>
   rw[zi] at hs
   simp only at hs
   by_cases EC:d=s
   ·rw[if_pos EC] at hs
    subst EC
    rw[anZ _ _ _ (by rw[h.size];exact hd d zi)]
    exact Gs x hs
   ·rw[if_neg EC] at hs
    rw[an0 _ _ _ _ EC]
    exact(h.bw s x hs).move (fun k hk=>nd k (.inl ⟨s,x,hs,hk⟩)) hF
 ·intro k e he
  by_cases hn:k∈ct o r\/k∈fM r
  ·exact(Da k e (Kn o r σ k e he hn)).1
  ·simp only[not_or] at hn
   obtain⟨hk,dr⟩:=hold k e he hn.1 hn.2
   have h0:=h.cT k e dr
   rw[IV k hn.1,lN k hn.1 hn.2]
   cases e with
   |arr x deep=>exact cF.cI h0 hF (fun b hb=>fQ k _ hn.1 hn.2 hk dr b hb)
   |part x dead=>exact cM.cI h0 hF (fun b hb=>fQ k _ hn.1 hn.2 hk dr b hb)
   |box cs=>
    obtain⟨b,cur,e',h1,h2,h3,h4⟩:=h0
    refine⟨b,cur,e',h1,?_,h3,h4.move (fun x hx k' bp=>nd k' (.inr ⟨k,cs,.inl dr,x,hx,bp⟩)) hF⟩
    rw[fQ k _ hn.1 hn.2 hk dr b (by simp[h3])];exact h2
   |nA x i y=>
    obtain⟨h1,h2,h3,b,n,c,u,h4,h5,h6,h7⟩:=h0
    refine⟨cM.cI h1 hF (fun b hb=>fQ k _ hn.1 hn.2 hk dr b hb),h2,h3,b,n,c,u,h4,h5,?_,h7.move (fun k' bp=>nd k' (.inr ⟨k,[y],.inr ⟨x,i,y,dr,rfl⟩,y,by simp,bp⟩)) hF⟩
    rw[World.cell?_of_block (w:=w) (a:=⟨b,i,none⟩) (fQ k _ hn.1 hn.2 hk dr b h5)];exact h6
   |li x=>trivial
   |Dw x g=>trivial
   |fz x=>trivial
 ·intro k k' e e' b cO he dr hb
  by_cases hn:k∈ct o r\/k∈fM r
  ·refine GJ k k' b cO hn ?_ hb
   by_cases qi:k'∈ct o r\/k'∈fM r
   ·exact qi.elim .inl (fun e=> .inr (.inl e))
   ·simp only[not_or] at qi
    obtain⟨hk,Dq⟩:=hold k' e' dr qi.1 qi.2
    exact .inr (.inr ⟨hk,by simp[Dq]⟩)
  ·have NF:=hn
   simp only[not_or] at hn
   obtain⟨hk,iX⟩:=hold k e he hn.1 hn.2
   by_cases qi:k'∈ct o r\/k'∈fM r
   ·intro aI
    exact GJ k' k b (Ne.symm cO) qi (.inr (.inr ⟨hk,by simp[iX]⟩)) aI hb
   ·simp only[not_or] at qi
    obtain⟨bp,aa4⟩:=hold k' e' dr qi.1 qi.2
    rw[lN k hn.1 hn.2] at hb
    rw[lN k' qi.1 qi.2]
    exact h.apart k k' e e' b cO iX aa4 hb
 ·intro k e he
  by_cases hn:k∈ct o r\/k∈fM r
  ·exact(Da k e (Kn o r σ k e he hn)).2.1
  ·simp only[not_or] at hn
   obtain⟨hk,iX⟩:=hold k e he hn.1 hn.2
   rw[lN k hn.1 hn.2];exact h.nodup k e iX
 ·intro k e b he hb
  by_cases hn:k∈ct o r\/k∈fM r
  ·exact(Da k e (Kn o r σ k e he hn)).2.2 b hb
  ·simp only[not_or] at hn
   obtain⟨hk,iX⟩:=hold k e he hn.1 hn.2
   rw[lN k hn.1 hn.2] at hb
   obtain⟨h1,h2,h3⟩:=h.cU k e b iX hb
   exact⟨mT k e b hn.1 hn.2 hk iX hb,h2,by omega⟩
theorem cd.apply{E:Env U}{pm:Pm}{F F':Nat->Prop}{kv kv':Key->Value}{fp fp':Key->List Nat}{σ:ah U}{a:Act}{w w':World}
  (h:cd E pm F kv fp σ a w) (o:Oper) (r:bz U) (v:Value)
  (hd:∀d,o.dst=some d->d<σ.n)
  (Gs:∀sv,r.val=some sv->RS E w' F' kv' fp' (aZ (AM.apply o r σ)) sv v)
  (IV:∀k,k∉ct o r->kv' k=kv k)
  (lN:∀k,k∉ct o r->k∉fM r->fp' k=fp k)
  (KW:∀k∈ct o r,¬Names σ k)
  (hF:∀b,F b->F' b/\w'.heap[b]? =w.heap[b]?)
  (fQ:∀k e,k∉ct o r->k∉fM r->k∉r.gH->σ.aU k=some e->∀b∈fp k,w'.heap[b]? =w.heap[b]?)
  (Da:∀k e,((∃j,k=(o.dst.getD 1000000,j)/\(j,e)∈r.ct)\/(k,e)∈r.fM)->lm E w' F' kv' fp' (aZ (AM.apply o r σ)) e (kv' k) (fp' k)/\(fp' k).Nodup/\
   ∀b∈fp' k,¬F' b/\(pm.W b\/pm.w0.heap.size<=b)/\b<w'.heap.size)
  (mT:∀k e b,k∉ct o r->k∉fM r->k∉r.gH->σ.aU k=some e->b∈fp k->¬F' b)
  (GJ:∀k k' b,k≠k'->(k∈ct o r\/k∈fM r)->(k'∈ct o r\/k'∈fM r\/(k'∉r.gH/\(σ.aU k').isSome))->b∈fp' k->b∉fp' k')
  (aa_:∀b,F' b->b<w'.heap.size) (Qr:∀b,F' b->pm.F0 b\/pm.W b\/pm.w0.heap.size<=b)
  (kx:fm pm.W pm.w0 w') (mS:w.heap.size<=w'.heap.size) (LU:∀k∈r.soft,(σ.aU k).isSome=true/\fp' k=fp k/\∀b∈fp k,Ah w w' b)
  (hnl:∀k e,((∃j,k=(o.dst.getD 1000000,j)/\(j,e)∈r.ct)\/(k,e)∈r.fM)->e.wk=false):
  cd E pm F' kv' fp' (AM.apply o r σ) (a.put o.dst v) w':=by
 refine h.GY o r v hd Gs IV lN KW hF fQ Da mT GJ aa_ Qr kx mS LU ?_
 obtain⟨tk,ht⟩:=h.bQ
 refine⟨tk,ht.cI (fun k e he hl=> ?_) hF⟩
 by_cases hn:k∈ct o r\/k∈fM r
 ·rw[hnl k e (Kn o r σ k e he hn)] at hl;cases hl
 ·simp only[not_or] at hn
  by_cases hk:k∈r.gH
  ·rw[MZ o r σ k hn.1 hn.2 hk] at he;cases he
  ·rw[Km o r σ k hn.1 hn.2 hk] at he
   exact⟨he,IV k hn.1,lN k hn.1 hn.2,fQ k e hn.1 hn.2 hk he⟩
end AM
