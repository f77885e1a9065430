/- THE ABSTRACT MACHINE: the operations that make a value and leave the world alone. -/
import Derived.Test.YtlachfpabecaeaaQAmSim
import Derived.Laws.Closers25b
import Derived.Deep.MidRow
namespace AM
set_option linter.unusedVariables false
open Go
variable{U:dh}{E:Env U}{pm:Pm}
theorem cJ{tb:fw U}{ks:List Key}{k:Key}{e:b9 U}(h:restrict tb ks k=some e):tb k=some e:=by
 unfold restrict at h
 cases hk:ks.any (cn k)<;>simp only[hk,cond_false,cond_true] at h
 ·cases h
 ·exact h
theorem HI{α:Type}{l:List (Option α)}(h:lV l=some []):l=[]:=by
 cases l with
 |nil=>rfl
 |cons a r=>cases a with
  |none=>simp[lV] at h
  |some x=>simp only[lV] at h;split at h<;>cases h
theorem HJ{α:Type}{l:List (Option α)}{x:α}{r:List α}(h:lV l=some (x::r)):∃l',l=some x::l'/\lV l'=some r:=by
 cases l with
 |nil=>cases h
 |cons a l'=>cases a with
  |none=>simp[lV] at h
  |some y=>
   simp only[lV] at h
   split at h
   ·rename_i r' hr;cases h;exact⟨l',rfl,hr⟩
   ·cases h
theorem C7{α β:Type}{f:α->Option β}:∀{l:List α}{xs:List β},lV (l.map f)=some xs->xs.length=l.length/\∀(i:Nat)(a:α),l[i]? =some a->∃x,xs[i]? =some x/\f a=some x
 |[],xs,h=>by simp only[List.map_nil,lV,bM] at h;subst h;simp
 |a::l,xs,h=>by
  simp only[mR] at h
  cases xs with
  |nil=>have:=HI h;simp at this
  |cons x xs=>
   obtain⟨l',h1,h2⟩:=HJ h
   simp only[F9] at h1
   obtain⟨h1,rfl⟩:=h1
   obtain⟨h3,h4⟩:=C7 h2
   refine⟨by simp[h3],fun i b hb=> ?_⟩
   cases i with
   |zero=>simp only[iB,bM] at hb;subst hb;exact⟨x,by simp,h1⟩
   |succ i=>simpa using h4 i b (by simpa using hb)
section reps
variable{w:World}{F:Nat->Prop}{kv:Key->Value}{fp:Key->List Nat}{bad:Key->Bool}
theorem jx{v:Value}(h:bI v):RD E w F kv fp bad (.c (.lit v)) v:=⟨h,.inr (.lit _ v h)⟩
theorem kS{x:AC U}{v:Value}(h:RD E w F kv fp bad x v):RV E w F kv fp bad ⟨false,[x]⟩ v:=
 ⟨[v],⟨rfl,fun i y u hy hu=>by
  cases i with
  |zero=>simp only[iB,bM] at hy hu;subst hy hu;exact h
  |succ i=>simp at hy⟩,by simp⟩
theorem b8{x:AC U}{v:Value}(h:RD E w F kv fp bad x v):RS E w F kv fp bad (one x) v:=kS h
theorem ee{v:Value}(h:bI v):RS E w F kv fp bad (iR v) v:=b8 (jx h)
theorem nX{x:AC U}{v:Value}(h:RV E w F kv fp bad ⟨false,[x]⟩ v):RD E w F kv fp bad x v:=by
 obtain⟨vs,h1,h2⟩:=h
 simp at h2
 subst h2
 exact h1.2 0 x v rfl rfl
theorem zd{x:AC U}{v:Value}(h:RS E w F kv fp bad (one x) v):RD E w F kv fp bad x v:=nX h
theorem ze{u v:Value}(h:RD E w F kv fp bad (.c (.lit u)) v):v=u:=by
 rcases h.2 with h|h
 ·simp[ck] at h
 ·simp only[RA] at h
  generalize hm:false=m at h
  generalize hc:(Cell.lit u:U.C)=c at h
  cases h with
  |lit=>cases hc;rfl
  |nil=>cases hc
  |shr=>cases hc
theorem kx {x:SV U} {u:Value} (h:cr x=some u):x=iR u:=by
 unfold cr at h
 split at h
 ·cases h;rfl
 ·cases h
theorem fq{x:SV U}{u v:Value}(h:RS E w F kv fp bad x v)(hl:cr x=some u):v=u:=by
 rw[kx hl] at h
 exact ze (zd h)
theorem qg {x:SV U} {y:AC U} (h:iA x=some y):x=one y:=by
 unfold iA at h
 split at h
 ·cases h;rfl
 ·cases h
theorem vi{x:AC U}{v:Value}(h:RD E w F kv fp bad x v)(hb:ck bad x=false):RA E w F kv fp x v:=by
 rcases h.2 with h|h
 ·rw[hb] at h;cases h
 ·exact h
theorem tK{x:SV U}{u v:Value}(h:RS E w F kv fp bad x v)(hl:cr x=some u):bI u:=by
 rw[kx hl] at h
 exact(vi (zd h) rfl:Rp E w F false (.lit u) v []).mc
theorem de{x:SV U}{y:AC U}{v:Value}(h:RS E w F kv fp bad x v)(hl:iA x=some y):RD E w F kv fp bad y v:=by
 rw[qg hl] at h
 exact zd h
theorem DT{v:Value}{x:AC U}(h:eV v=some x):RD E w F kv fp bad x v:=by
 unfold eV at h
 split at h
 ·cases h;exact⟨⟨rfl,trivial⟩,.inr ⟨none,rfl⟩⟩
 ·cases h;exact jx ⟨rfl,trivial⟩
 ·rename_i k n
  rw[bY] at h
  split at h
  ·rename_i hc
   cases h
   simp only[dR,decide_eq_true_eq] at hc
   exact jx ⟨rfl,hc⟩
  ·cases h
 ·cases h;exact jx ⟨rfl,trivial⟩
 ·rename_i s
  rw[bY] at h
  split at h
  ·rename_i hc
   cases h
   exact jx ⟨rfl,by simpa using hc⟩
  ·cases h
 ·cases h
theorem wm:∀{vs:List Value}{xs:List (AC U)},cD vs=some xs->dC E w F kv fp bad xs vs
 |[],xs,h=>by cases h;exact⟨rfl,fun i x v hx=>by simp at hx⟩
 |v::vs,xs,h=>by
  simp only[cD] at h
  split at h
  ·rename_i x l hx hl
   cases h
   have ih:=wm hl
   refine⟨by simp[ih.1],fun i y u hy hu=> ?_⟩
   cases i with
   |zero=>simp only[iB,bM] at hy hu;subst hy hu;exact DT hx
   |succ i=>exact ih.2 i y u (by simpa using hy) (by simpa using hu)
  ·cases h
theorem Jn{cs:Array Value}{x:SV U}(h:gf cs=some x):RS E w F kv fp bad x (.agg cs):=by
 unfold gf at h
 split at h
 ·rename_i l hl;cases h;exact⟨cs.toList,wm hl,by simp⟩
 ·cases h
theorem Jm{v:Value}{x:SV U}(h:oz v=some x):RS E w F kv fp bad x v:=by
 unfold oz at h
 split at h
 ·exact Jn h
 ·split at h
  ·rename_i hx;cases h;exact b8 (DT hx)
  ·cases h
end reps
theorem lZ{F:Nat->Prop}{kv:Key->Value}{fp:Key->List Nat}{σ:aa U}{a:Act}{w:World}(h:aC E pm F kv fp σ a w){x:Operand}{sv:SV U}
  (hx:qF σ x=some sv):RS E w F kv fp (av σ) sv (a.eval x):=by
 cases x with
 |tmp t=>exact h.ap t sv hx
 |const v=>exact Jm hx
 |global g=>cases hx
 |func f=>cases hx;exact⟨[],rfl,rfl,fun i x u h=>by simp at h⟩
theorem aC.val{F:Nat->Prop}{kv:Key->Value}{fp:Key->List Nat}{σ:aa U}{a:Act}{w:World}(h:aC E pm F kv fp σ a w)(o:Oper)(sv:Option (SV U))(ps:List Prop)(v:Value)
  (hd:∀d,o.dst=some d->d<σ.n) (hv:∀x,sv=some x->RS E w F kv fp (av σ) x v):
  aC E pm F kv fp (AM.apply o ⟨sv,[],[],[],ps⟩ σ) (a.put o.dst v) w:=by
 have hb:av (AM.apply o ⟨sv,[],[],[],ps⟩ σ)=av σ:=rfl
 refine h.apply (F':=F) (kv':=kv) (fp':=fp) (w':=w) o _ v hd ?_ (fun _ _=>rfl) (fun _ _ _=>rfl) ?_ (fun b hb=>⟨hb,rfl⟩) (fun _ _ _ _ _ _ _ _=>rfl) ?_ ?_ ?_ h.hJ h.hH h.upto (nl _)
 ·intro x hx;rw[hb];exact hv x hx
 ·intro k hk;simp[aQ] at hk
 ·intro k e hk;simp at hk
 ·intro k e b _ _ _ he KU;exact(h.bC k e b he KU).1
 ·intro k k' b _ hk;simp[aQ,cF] at hk
theorem fo.same{w w':World}{kv:Key->Value}{fp:Key->List Nat}{bad:Key->Bool}{k:Key}(h:∀b:Nat,w'.heap[b]? =w.heap[b]?):fo w w' kv kv fp fp bad bad k:=by
 refine⟨rfl,?_⟩
 cases hb:bad k
 ·exact .inr ⟨rfl,rfl,fun b _=>h b⟩
 ·exact .inl rfl
theorem aC.drew{F:Nat->Prop}{kv:Key->Value}{fp:Key->List Nat}{σ:aa U}{a:Act}{w:World}(h:aC E pm F kv fp σ a w):aC E pm F kv fp σ a w.drew:=by
 refine⟨h.size,h.defers,fun s x hs=>(h.ap s x hs).move (fun k _=>fo.same fun _=>rfl) (fun b hb=>⟨hb,rfl⟩),fun k e he=> ?_,h.apart,h.nodup,h.bC,h.hJ,h.hH,⟨h.upto.os,h.upto.tape,h.upto.output,h.upto.size,h.upto.block⟩,h.rA,h.lay.bD fun b hb=>⟨hb,rfl⟩⟩
 have h0:=h.aJ k e he
 cases e with
 |arr x deep=>exact ba.bD h0 (fun b hb=>⟨hb,rfl⟩) (fun _ _=>rfl)
 |part x dead=>exact aW.bD h0 (fun b hb=>⟨hb,rfl⟩) (fun _ _=>rfl)
 |box cs=>
  obtain⟨b,cur,e',h1,h2,h3,h4⟩:=h0
  exact⟨b,cur,e',h1,h2,h3,h4.move (fun x _ k _=>fo.same fun _=>rfl) (fun b hb=>⟨hb,rfl⟩)⟩
theorem gq{P:Program}{o:Oper}{a:Act}{w w':World}{v:Value}{K:Act->World->Prop}{Q:Exit->Act->World->Prop}
  (hr:(execOp a.eval o).run P w=.ok (.value v) w') (hk:K (a.put o.dst v) w'):o.wp P a w K Q:=by
 unfold Oper.wp;rw[hr];exact hk
theorem tx{P:Program}{o:Oper}{a:Act}{w w':World}{K:Act->World->Prop}{Q:Exit->Act->World->Prop}
  (hr:(execOp a.eval o).run P w=.ok .skip w') (hk:K (a.put o.dst undef) w'):o.wp P a w K Q:=by
 unfold Oper.wp;rw[hr];exact hk
theorem cd{P:Program}{w w':World}{v:Value}{s:Sem Value}(h:s.run P w=.ok v w'):(do pure (Next.value (<-s)):Sem Next).run P w=.ok (.value v) w':=by
 rw[Sem.run_bind,h];rfl
theorem II{P:Program}{w:World}{op:UnOp}{x v:Value}(h:pS op x=some v):(Op.unary op x).run P w=.ok v w/\bI v:=by
 unfold pS at h
 split at h<;>cases h
 ·exact⟨by simp[Op.unary,Op.intArith],rfl,wrap_within _ _⟩
 ·exact⟨by simp[Op.unary],rfl,trivial⟩
theorem I9{P:Program}{w:World}{op:BinOp}{t:TypeId}{x y:Operand}{a b:Value}(h1:∀cs,a≠ .agg cs)(h2:a≠ .nilIface):
  (eqGuard op t x y a b).run P w=.ok () w:=by
 unfold eqGuard
 cases a<;>first
  |exact absurd rfl h2
  |exact absurd rfl (h1 _)
  |(simp only[];split<;>rfl)
end AM
