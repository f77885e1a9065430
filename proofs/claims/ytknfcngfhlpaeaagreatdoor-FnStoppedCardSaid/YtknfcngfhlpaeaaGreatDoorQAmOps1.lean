import Derived.Test.YtknfcngfhlpaeaaGreatDoorQAmSim
import Derived.Laws.Closers25b
import Derived.Deep.MidRow
namespace AM
set_option linter.unusedVariables false
open Go
variable{U:kz}{E:Env U}{pm:Pm}
theorem jx{tb:pL U}{ks:List Key}{k:Key}{e:ie U}(h:restrict tb ks k=some e):tb k=some e:=by
 unfold restrict at h
 cases hk:ks.any (ik k)<;>simp only[hk,cond_false,cond_true] at h
 ·cases h
 ·exact h
theorem ahO{α:Type}{l:List (Option α)}(h:Cy l=some []):l=[]:=by
 cases l with
 |nil=>rfl
 |cons a r=>cases a with
  |none=>simp[Cy] at h
  |some x=>simp only[Cy] at h;split at h<;>cases h
theorem ahP{α:Type}{l:List (Option α)}{x:α}{r:List α}(h:Cy l=some (x::r)):∃l',l=some x::l'/\Cy l'=some r:=by
 cases l with
 |nil=>cases h
 |cons a l'=>cases a with
  |none=>simp[Cy] at h
  |some y=>
   simp only[Cy] at h
   split at h
   ·rename_i r' hr;cases h;exact⟨l',rfl,hr⟩
   ·cases h
theorem aat{α β:Type}{f:α->Option β}:∀{l:List α}{xs:List β},Cy (l.map f)=some xs->xs.length=l.length/\∀(i:Nat)(a:α),l[i]? =some a->∃x,xs[i]? =some x/\f a=some x
 |[],xs,h=>by simp only[List.map_nil,Cy,fM] at h;subst h;simp
 |a::l,xs,h=>by
  simp only[sS] at h
  cases xs with
  |nil=>have:=ahO h;simp at this
  |cons x xs=>
   obtain⟨l',h1,h2⟩:=ahP h
   simp only[ZI] at h1
   obtain⟨h1,rfl⟩:=h1
   obtain⟨h3,h4⟩:=aat h2
   refine⟨by simp[h3],fun i b hb=> ?_⟩
   cases i with
   |zero=>simp only[tJ,fM] at hb;subst hb;exact⟨x,by simp,h1⟩
   |succ i=>simpa using h4 i b (by simpa using hb)
section reps
variable{w:World}{F:Nat->Prop}{kv:Key->Value}{fp:Key->List Nat}{bad:Key->Bool}
theorem v_{v:Value}(h:fI v):RD E w F kv fp bad (.c (.lit v)) v:=⟨h,.inr (.lit _ v h)⟩
theorem zb{x:AC U}{v:Value}(h:RD E w F kv fp bad x v):RV E w F kv fp bad ⟨false,[x]⟩ v:=
 ⟨[v],⟨rfl,fun i y u hy hu=>by
  cases i with
  |zero=>simp only[tJ,fM] at hy hu;subst hy hu;exact h
  |succ i=>simp at hy⟩,by simp⟩
theorem gP{x:AC U}{v:Value}(h:RD E w F kv fp bad x v):RS E w F kv fp bad (one x) v:=zb h
theorem l4{v:Value}(h:fI v):RS E w F kv fp bad (uQ v) v:=gP (v_ h)
theorem FO{x:AC U}{v:Value}(h:RV E w F kv fp bad ⟨false,[x]⟩ v):RD E w F kv fp bad x v:=by
 obtain⟨vs,h1,h2⟩:=h
 simp at h2
 subst h2
 exact h1.2 0 x v rfl rfl
theorem W6{x:AC U}{v:Value}(h:RS E w F kv fp bad (one x) v):RD E w F kv fp bad x v:=FO h
theorem W7{u v:Value}(h:RD E w F kv fp bad (.c (.lit u)) v):v=u:=by
 rcases h.2 with h|h
 ·simp[hJ] at h
 ·simp only[RA] at h
  generalize hm:false=m at h
  generalize hc:(Cell.lit u:U.C)=c at h
  cases h with
  |lit=>cases hc;rfl
  |nil=>cases hc
  |shr=>cases hc
theorem yt {x:SV U} {u:Value} (h:ix x=some u):x=uQ u:=by
 unfold ix at h
 split at h
 ·cases h;rfl
 ·cases h
theorem o6{x:SV U}{u v:Value}(h:RS E w F kv fp bad x v)(hl:ix x=some u):v=u:=by
 rw[yt hl] at h
 exact W7 (W6 h)
theorem Jj {x:SV U} {y:AC U} (h:tG x=some y):x=one y:=by
 unfold tG at h
 split at h
 ·cases h;rfl
 ·cases h
theorem QH{x:AC U}{v:Value}(h:RD E w F kv fp bad x v)(hb:hJ bad x=false):RA E w F kv fp x v:=by
 rcases h.2 with h|h
 ·rw[hb] at h;cases h
 ·exact h
theorem N_{x:SV U}{u v:Value}(h:RS E w F kv fp bad x v)(hl:ix x=some u):fI u:=by
 rw[yt hl] at h
 exact(QH (W6 h) rfl:Rp E w F false (.lit u) v []).CZ
theorem kr{x:SV U}{y:AC U}{v:Value}(h:RS E w F kv fp bad x v)(hl:tG x=some y):RD E w F kv fp bad y v:=by
 rw[Jj hl] at h
 exact W6 h
theorem abb{v:Value}{x:AC U}(h:n8 v=some x):RD E w F kv fp bad x v:=by
 unfold n8 at h
 split at h
 ·cases h;exact⟨⟨rfl,trivial⟩,.inr ⟨none,rfl⟩⟩
 ·cases h;exact v_ ⟨rfl,trivial⟩
 ·rename_i k n
  rw[gI] at h
  split at h
  ·rename_i hc
   cases h
   simp only[cH,decide_eq_true_eq] at hc
   exact v_ ⟨rfl,hc⟩
  ·cases h
 ·cases h;exact v_ ⟨rfl,trivial⟩
 ·rename_i s
  rw[gI] at h
  split at h
  ·rename_i hc
   cases h
   exact v_ ⟨rfl,by simpa using hc⟩
  ·cases h
 ·cases h
theorem RM:∀{vs:List Value}{xs:List (AC U)},jf vs=some xs->kU E w F kv fp bad xs vs
 |[],xs,h=>by cases h;exact⟨rfl,fun i x v hx=>by simp at hx⟩
 |v::vs,xs,h=>by
  simp only[jf] at h
  split at h
  ·rename_i x l hx hl
   cases h
   have ih:=RM hl
   refine⟨by simp[ih.1],fun i y u hy hu=> ?_⟩
   cases i with
   |zero=>simp only[tJ,fM] at hy hu;subst hy hu;exact abb hx
   |succ i=>exact ih.2 i y u (by simpa using hy) (by simpa using hu)
  ·cases h
theorem ajq{cs:Array Value}{x:SV U}(h:qp cs=some x):RS E w F kv fp bad x (.agg cs):=by
 unfold qp at h
 split at h
 ·rename_i l hl;cases h;exact⟨cs.toList,RM hl,by simp⟩
 ·cases h
theorem ajp{v:Value}{x:SV U}(h:Gy v=some x):RS E w F kv fp bad x v:=by
 unfold Gy at h
 split at h
 ·exact ajq h
 ·split at h
  ·rename_i hx;cases h;exact gP (abb hx)
  ·cases h
end reps
theorem CG{F:Nat->Prop}{kv:Key->Value}{fp:Key->List Nat}{σ:ak U}{a:Act}{w:World}(h:cG E pm F kv fp σ a w){x:Operand}{sv:SV U}
  (hx:J8 σ x=some sv):RS E w F kv fp (bR σ) sv (a.eval x):=by
 cases x with
 |tmp t=>exact h.bx t sv hx
 |const v=>exact ajp hx
 |global g=>cases hx
 |func f=>cases hx;exact⟨[],rfl,rfl,fun i x u h=>by simp at h⟩
theorem cG.val{F:Nat->Prop}{kv:Key->Value}{fp:Key->List Nat}{σ:ak U}{a:Act}{w:World}(h:cG E pm F kv fp σ a w)(o:Oper)(sv:Option (SV U))(ps:List Prop)(v:Value)
  (hd:∀d,o.dst=some d->d<σ.n) (hv:∀x,sv=some x->RS E w F kv fp (bR σ) x v):
  cG E pm F kv fp (AM.apply o ⟨sv,[],[],[],ps⟩ σ) (a.put o.dst v) w:=by
 have hb:bR (AM.apply o ⟨sv,[],[],[],ps⟩ σ)=bR σ:=rfl
 refine h.apply (F':=F) (kv':=kv) (fp':=fp) (w':=w) o _ v hd ?_ (fun _ _=>rfl) (fun _ _ _=>rfl) ?_ (fun b hb=>⟨hb,rfl⟩) (fun _ _ _ _ _ _ _ _=>rfl) ?_ ?_ ?_ h.sO h.sN h.upto (sB _)
 ·intro x hx;rw[hb];exact hv x hx
 ·intro k hk;simp[dk] at hk
 ·intro k e hk;simp at hk
 ·intro k e b _ _ _ he hbb;exact(h.fj k e b he hbb).1
 ·intro k k' b _ hk;simp[dk,jh] at hk
theorem oQ.same{w w':World}{kv:Key->Value}{fp:Key->List Nat}{bad:Key->Bool}{k:Key}(h:∀b:Nat,w'.heap[b]? =w.heap[b]?):oQ w w' kv kv fp fp bad bad k:=by
 refine⟨rfl,?_⟩
 cases hb:bad k
 ·exact .inr ⟨rfl,rfl,fun b _=>h b⟩
 ·exact .inl rfl
theorem cG.drew{F:Nat->Prop}{kv:Key->Value}{fp:Key->List Nat}{σ:ak U}{a:Act}{w:World}(h:cG E pm F kv fp σ a w):cG E pm F kv fp σ a w.drew:=by
 refine⟨h.size,h.defers,fun s x hs=>(h.bx s x hs).move (fun k _=>oQ.same fun _=>rfl) (fun b hb=>⟨hb,rfl⟩),fun k e he=> ?_,h.apart,h.nodup,h.fj,h.sO,h.sN,⟨h.upto.os,h.upto.tape,h.upto.output,h.upto.size,h.upto.block⟩,h.Lg,h.lay.fC fun b hb=>⟨hb,rfl⟩⟩
 have h0:=h.cW k e he
 cases e with
 |arr x deep=>exact eo.fC h0 (fun b hb=>⟨hb,rfl⟩) (fun _ _=>rfl)
 |part x dead=>exact dK.fC h0 (fun b hb=>⟨hb,rfl⟩) (fun _ _=>rfl)
 |box cs=>
  obtain⟨b,cur,e',h1,h2,h3,h4⟩:=h0
  exact⟨b,cur,e',h1,h2,h3,h4.move (fun x _ k _=>oQ.same fun _=>rfl) (fun b hb=>⟨hb,rfl⟩)⟩
theorem qZ{P:Program}{o:Oper}{a:Act}{w w':World}{v:Value}{K:Act->World->Prop}{Q:Exit->Act->World->Prop}
  (hr:(execOp a.eval o).run P w=.ok (.value v) w') (hk:K (a.put o.dst v) w'):o.wp P a w K Q:=by
 unfold Oper.wp;rw[hr];exact hk
theorem NZ{P:Program}{o:Oper}{a:Act}{w w':World}{K:Act->World->Prop}{Q:Exit->Act->World->Prop}
  (hr:(execOp a.eval o).run P w=.ok .skip w') (hk:K (a.put o.dst undef) w'):o.wp P a w K Q:=by
 unfold Oper.wp;rw[hr];exact hk
theorem gY{P:Program}{w w':World}{v:Value}{s:Sem Value}(h:s.run P w=.ok v w'):(do pure (Next.value (<-s)):Sem Next).run P w=.ok (.value v) w':=by
 rw[Sem.run_bind,h];rfl
theorem aiM{P:Program}{w:World}{op:UnOp}{x v:Value}(h:Ir op x=some v):(Op.unary op x).run P w=.ok v w/\fI v:=by
 unfold Ir at h
 split at h<;>cases h
 ·exact⟨by simp[Op.unary,Op.intArith],rfl,wrap_within _ _⟩
 ·exact⟨by simp[Op.unary],rfl,trivial⟩
theorem aja{P:Program}{w:World}{op:BinOp}{t:TypeId}{x y:Operand}{a b:Value}(h1:∀cs,a≠ .agg cs)(h2:a≠ .nilIface):
  (eqGuard op t x y a b).run P w=.ok () w:=by
 unfold eqGuard
 cases a<;>first
  |exact absurd rfl h2
  |exact absurd rfl (h1 _)
  |(simp only[];split<;>rfl)
end AM
