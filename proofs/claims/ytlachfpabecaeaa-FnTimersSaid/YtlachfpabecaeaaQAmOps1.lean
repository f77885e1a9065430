/- THE ABSTRACT MACHINE: the operations that make a value and leave the world alone. -/
import Derived.Test.YtlachfpabecaeaaQAmSim
import Derived.Laws.Closers25b
import Derived.Deep.MidRow
namespace AM
set_option linter.unusedVariables false
open Go
variable{U:dw}{E:Env U}{pm:Pm}
theorem cQ{tb:fT U}{ks:List Key}{k:Key}{e:bZ U}(h:restrict tb ks k=some e):tb k=some e:=by
 unfold restrict at h
 cases hk:ks.any (cj k)<;>simp only[hk,cond_false,cond_true] at h
 ·cases h
 ·exact h
theorem H8{α:Type}{l:List (Option α)}(h:mJ l=some []):l=[]:=by
 cases l with
 |nil=>rfl
 |cons a r=>cases a with
  |none=>simp[mJ] at h
  |some x=>simp only[mJ] at h;split at h<;>cases h
theorem H9{α:Type}{l:List (Option α)}{x:α}{r:List α}(h:mJ l=some (x::r)):∃l',l=some x::l'/\mJ l'=some r:=by
 cases l with
 |nil=>cases h
 |cons a l'=>cases a with
  |none=>simp[mJ] at h
  |some y=>
   simp only[mJ] at h
   split at h
   ·rename_i r' hr;cases h;exact⟨l',rfl,hr⟩
   ·cases h
theorem Dl{α β:Type}{f:α->Option β}:∀{l:List α}{xs:List β},mJ (l.map f)=some xs->xs.length=l.length/\∀(i:Nat)(a:α),l[i]? =some a->∃x,xs[i]? =some x/\f a=some x
 |[],xs,h=>by simp only[List.map_nil,mJ,bH] at h;subst h;simp
 |a::l,xs,h=>by
  simp only[qd] at h
  cases xs with
  |nil=>have:=H8 h;simp at this
  |cons x xs=>
   obtain⟨l',h1,h2⟩:=H9 h
   simp only[M_] at h1
   obtain⟨h1,rfl⟩:=h1
   obtain⟨h3,h4⟩:=Dl h2
   refine⟨by simp[h3],fun i b hb=> ?_⟩
   cases i with
   |zero=>simp only[ja,bH] at hb;subst hb;exact⟨x,by simp,h1⟩
   |succ i=>simpa using h4 i b (by simpa using hb)
section reps
variable{w:World}{F:Nat->Prop}{kv:Key->Value}{fp:Key->List Nat}{bad:Key->Bool}
theorem j6{v:Value}(h:bD v):RD E w F kv fp bad (.c (.lit v)) v:=⟨h,.inr (.lit _ v h)⟩
theorem lG{x:AC U}{v:Value}(h:RD E w F kv fp bad x v):RV E w F kv fp bad ⟨false,[x]⟩ v:=
 ⟨[v],⟨rfl,fun i y u hy hu=>by
  cases i with
  |zero=>simp only[ja,bH] at hy hu;subst hy hu;exact h
  |succ i=>simp at hy⟩,by simp⟩
theorem bY{x:AC U}{v:Value}(h:RD E w F kv fp bad x v):RS E w F kv fp bad (one x) v:=lG h
theorem ez{v:Value}(h:bD v):RS E w F kv fp bad (js v) v:=bY (j6 h)
theorem o0{x:AC U}{v:Value}(h:RV E w F kv fp bad ⟨false,[x]⟩ v):RD E w F kv fp bad x v:=by
 obtain⟨vs,h1,h2⟩:=h
 simp at h2
 subst h2
 exact h1.2 0 x v rfl rfl
theorem Ap{x:AC U}{v:Value}(h:RS E w F kv fp bad (one x) v):RD E w F kv fp bad x v:=o0 h
theorem Aq{u v:Value}(h:RD E w F kv fp bad (.c (.lit u)) v):v=u:=by
 rcases h.2 with h|h
 ·simp[cd] at h
 ·simp only[RA] at h
  generalize hm:false=m at h
  generalize hc:(Cell.lit u:U.C)=c at h
  cases h with
  |lit=>cases hc;rfl
  |nil=>cases hc
  |shr=>cases hc
theorem ld {x:SV U} {u:Value} (h:cq x=some u):x=js u:=by
 unfold cq at h
 split at h
 ·cases h;rfl
 ·cases h
theorem fR{x:SV U}{u v:Value}(h:RS E w F kv fp bad x v)(hl:cq x=some u):v=u:=by
 rw[ld hl] at h
 exact Aq (Ap h)
theorem rB {x:SV U} {y:AC U} (h:i_ x=some y):x=one y:=by
 unfold i_ at h
 split at h
 ·cases h;rfl
 ·cases h
theorem wy{x:AC U}{v:Value}(h:RD E w F kv fp bad x v)(hb:cd bad x=false):RA E w F kv fp x v:=by
 rcases h.2 with h|h
 ·rw[hb] at h;cases h
 ·exact h
theorem u0{x:SV U}{u v:Value}(h:RS E w F kv fp bad x v)(hl:cq x=some u):bD u:=by
 rw[ld hl] at h
 exact(wy (Ap h) rfl:Rp E w F false (.lit u) v []).mU
theorem du{x:SV U}{y:AC U}{v:Value}(h:RS E w F kv fp bad x v)(hl:i_ x=some y):RD E w F kv fp bad y v:=by
 rw[rB hl] at h
 exact Ap h
theorem D_{v:Value}{x:AC U}(h:fz v=some x):RD E w F kv fp bad x v:=by
 unfold fz at h
 split at h
 ·cases h;exact⟨⟨rfl,trivial⟩,.inr ⟨none,rfl⟩⟩
 ·cases h;exact j6 ⟨rfl,trivial⟩
 ·rename_i k n
  rw[bV] at h
  split at h
  ·rename_i hc
   cases h
   simp only[c9,decide_eq_true_eq] at hc
   exact j6 ⟨rfl,hc⟩
  ·cases h
 ·cases h;exact j6 ⟨rfl,trivial⟩
 ·rename_i s
  rw[bV] at h
  split at h
  ·rename_i hc
   cases h
   exact j6 ⟨rfl,by simpa using hc⟩
  ·cases h
 ·cases h
theorem xu:∀{vs:List Value}{xs:List (AC U)},cJ vs=some xs->dQ E w F kv fp bad xs vs
 |[],xs,h=>by cases h;exact⟨rfl,fun i x v hx=>by simp at hx⟩
 |v::vs,xs,h=>by
  simp only[cJ] at h
  split at h
  ·rename_i x l hx hl
   cases h
   have ih:=xu hl
   refine⟨by simp[ih.1],fun i y u hy hu=> ?_⟩
   cases i with
   |zero=>simp only[ja,bH] at hy hu;subst hy hu;exact D_ hx
   |succ i=>exact ih.2 i y u (by simpa using hy) (by simpa using hu)
  ·cases h
theorem JM{cs:Array Value}{x:SV U}(h:gI cs=some x):RS E w F kv fp bad x (.agg cs):=by
 unfold gI at h
 split at h
 ·rename_i l hl;cases h;exact⟨cs.toList,xu hl,by simp⟩
 ·cases h
theorem JL{v:Value}{x:SV U}(h:pA v=some x):RS E w F kv fp bad x v:=by
 unfold pA at h
 split at h
 ·exact JM h
 ·split at h
  ·rename_i hx;cases h;exact bY (D_ hx)
  ·cases h
end reps
theorem mM{F:Nat->Prop}{kv:Key->Value}{fp:Key->List Nat}{σ:aa U}{a:Act}{w:World}(h:aE E pm F kv fp σ a w){x:Operand}{sv:SV U}
  (hx:rV σ x=some sv):RS E w F kv fp (ay σ) sv (a.eval x):=by
 cases x with
 |tmp t=>exact h.au t sv hx
 |const v=>exact JL hx
 |global g=>cases hx
 |func f=>cases hx;exact⟨[],rfl,rfl,fun i x u h=>by simp at h⟩
theorem aE.val{F:Nat->Prop}{kv:Key->Value}{fp:Key->List Nat}{σ:aa U}{a:Act}{w:World}(h:aE E pm F kv fp σ a w)(o:Oper)(sv:Option (SV U))(ps:List Prop)(v:Value)
  (hd:∀d,o.dst=some d->d<σ.n) (hv:∀x,sv=some x->RS E w F kv fp (ay σ) x v):
  aE E pm F kv fp (AM.apply o ⟨sv,[],[],[],ps⟩ σ) (a.put o.dst v) w:=by
 have hb:ay (AM.apply o ⟨sv,[],[],[],ps⟩ σ)=ay σ:=rfl
 refine h.apply (F':=F) (kv':=kv) (fp':=fp) (w':=w) o _ v hd ?_ (fun _ _=>rfl) (fun _ _ _=>rfl) ?_ (fun b hb=>⟨hb,rfl⟩) (fun _ _ _ _ _ _ _ _=>rfl) ?_ ?_ ?_ h.iz h.iy h.upto (nC _)
 ·intro x hx;rw[hb];exact hv x hx
 ·intro k hk;simp[aM] at hk
 ·intro k e hk;simp at hk
 ·intro k e b _ _ _ he Lk;exact(h.bt k e b he Lk).1
 ·intro k k' b _ hk;simp[aM,cK] at hk
theorem fP.same{w w':World}{kv:Key->Value}{fp:Key->List Nat}{bad:Key->Bool}{k:Key}(h:∀b:Nat,w'.heap[b]? =w.heap[b]?):fP w w' kv kv fp fp bad bad k:=by
 refine⟨rfl,?_⟩
 cases hb:bad k
 ·exact .inr ⟨rfl,rfl,fun b _=>h b⟩
 ·exact .inl rfl
theorem aE.drew{F:Nat->Prop}{kv:Key->Value}{fp:Key->List Nat}{σ:aa U}{a:Act}{w:World}(h:aE E pm F kv fp σ a w):aE E pm F kv fp σ a w.drew:=by
 refine⟨h.size,h.defers,fun s x hs=>(h.au s x hs).move (fun k _=>fP.same fun _=>rfl) (fun b hb=>⟨hb,rfl⟩),fun k e he=> ?_,h.apart,h.nodup,h.bt,h.iz,h.iy,⟨h.upto.os,h.upto.tape,h.upto.output,h.upto.size,h.upto.block⟩,h.sL,h.lay.bu fun b hb=>⟨hb,rfl⟩⟩
 have h0:=h.aJ k e he
 cases e with
 |arr x deep=>exact aZ.bu h0 (fun b hb=>⟨hb,rfl⟩) (fun _ _=>rfl)
 |part x dead=>exact aU.bu h0 (fun b hb=>⟨hb,rfl⟩) (fun _ _=>rfl)
 |box cs=>
  obtain⟨b,cur,e',h1,h2,h3,h4⟩:=h0
  exact⟨b,cur,e',h1,h2,h3,h4.move (fun x _ k _=>fP.same fun _=>rfl) (fun b hb=>⟨hb,rfl⟩)⟩
theorem gW{P:Program}{o:Oper}{a:Act}{w w':World}{v:Value}{K:Act->World->Prop}{Q:Exit->Act->World->Prop}
  (hr:(execOp a.eval o).run P w=.ok (.value v) w') (hk:K (a.put o.dst v) w'):o.wp P a w K Q:=by
 unfold Oper.wp;rw[hr];exact hk
theorem uO{P:Program}{o:Oper}{a:Act}{w w':World}{K:Act->World->Prop}{Q:Exit->Act->World->Prop}
  (hr:(execOp a.eval o).run P w=.ok .skip w') (hk:K (a.put o.dst undef) w'):o.wp P a w K Q:=by
 unfold Oper.wp;rw[hr];exact hk
theorem b8{P:Program}{w w':World}{v:Value}{s:Sem Value}(h:s.run P w=.ok v w'):(do pure (Next.value (<-s)):Sem Next).run P w=.ok (.value v) w':=by
 rw[Sem.run_bind,h];rfl
theorem I8{P:Program}{w:World}{op:UnOp}{x v:Value}(h:qN op x=some v):(Op.unary op x).run P w=.ok v w/\bD v:=by
 unfold qN at h
 split at h<;>cases h
 ·exact⟨by simp[Op.unary,Op.intArith],rfl,wrap_within _ _⟩
 ·exact⟨by simp[Op.unary],rfl,trivial⟩
theorem Jw{P:Program}{w:World}{op:BinOp}{t:TypeId}{x y:Operand}{a b:Value}(h1:∀cs,a≠ .agg cs)(h2:a≠ .nilIface):
  (eqGuard op t x y a b).run P w=.ok () w:=by
 unfold eqGuard
 cases a<;>first
  |exact absurd rfl h2
  |exact absurd rfl (h1 _)
  |(simp only[];split<;>rfl)
end AM
