import Derived.Test.YthciaocifglggaaGreatDoorQAmSim
import Derived.Laws.Closers25b
import Derived.Deep.MidRow
namespace AM
set_option linter.unusedVariables false
open Go
variable{U:kz}{E:Env U}{pm:Pm}
theorem jx{tb:o7 U}{ks:List Key}{k:Key}{e:ir U}(h:restrict tb ks k=some e):tb k=some e:=by
 unfold restrict at h
 cases hk:ks.any (iw k)<;>simp only[hk,cond_false,cond_true] at h
 ·cases h
 ·exact h
theorem ajV{α:Type}{l:List (Option α)}(h:AG l=some []):l=[]:=by
 cases l with
 |nil=>rfl
 |cons a r=>cases a with
  |none=>simp[AG] at h
  |some x=>simp only[AG] at h;split at h<;>cases h
theorem ajW{α:Type}{l:List (Option α)}{x:α}{r:List α}(h:AG l=some (x::r)):∃l',l=some x::l'/\AG l'=some r:=by
 cases l with
 |nil=>cases h
 |cons a l'=>cases a with
  |none=>simp[AG] at h
  |some y=>
   simp only[AG] at h
   split at h
   ·rename_i r' hr;cases h;exact⟨l',rfl,hr⟩
   ·cases h
theorem aaw{α β:Type}{f:α->Option β}:∀{l:List α}{xs:List β},AG (l.map f)=some xs->xs.length=l.length/\∀(i:Nat)(a:α),l[i]? =some a->∃x,xs[i]? =some x/\f a=some x
 |[],xs,h=>by simp only[List.map_nil,AG,fJ] at h;subst h;simp
 |a::l,xs,h=>by
  simp only[tI] at h
  cases xs with
  |nil=>have:=ajV h;simp at this
  |cons x xs=>
   obtain⟨l',h1,h2⟩:=ajW h
   simp only[Lo] at h1
   obtain⟨h1,rfl⟩:=h1
   obtain⟨h3,h4⟩:=aaw h2
   refine⟨by simp[h3],fun i b hb=> ?_⟩
   cases i with
   |zero=>simp only[sB,fJ] at hb;subst hb;exact⟨x,by simp,h1⟩
   |succ i=>simpa using h4 i b (by simpa using hb)
section reps
variable{w:World}{F:Nat->Prop}{kv:Key->Value}{fp:Key->List Nat}{bad:Key->Bool}
theorem uI{v:Value}(h:fA v):RD E w F kv fp bad (.c (.lit v)) v:=⟨h,.inr (.lit _ v h)⟩
theorem xp{x:AC U}{v:Value}(h:RD E w F kv fp bad x v):RV E w F kv fp bad ⟨false,[x]⟩ v:=
 ⟨[v],⟨rfl,fun i y u hy hu=>by
  cases i with
  |zero=>simp only[sB,fJ] at hy hu;subst hy hu;exact h
  |succ i=>simp at hy⟩,by simp⟩
theorem gZ{x:AC U}{v:Value}(h:RD E w F kv fp bad x v):RS E w F kv fp bad (one x) v:=xp h
theorem lG{v:Value}(h:fA v):RS E w F kv fp bad (tD v) v:=gZ (uI h)
theorem DH{x:AC U}{v:Value}(h:RV E w F kv fp bad ⟨false,[x]⟩ v):RD E w F kv fp bad x v:=by
 obtain⟨vs,h1,h2⟩:=h
 simp at h2
 subst h2
 exact h1.2 0 x v rfl rfl
theorem WH{x:AC U}{v:Value}(h:RS E w F kv fp bad (one x) v):RD E w F kv fp bad x v:=DH h
theorem WI{u v:Value}(h:RD E w F kv fp bad (.c (.lit u)) v):v=u:=by
 rcases h.2 with h|h
 ·simp[io] at h
 ·simp only[RA] at h
  generalize hm:false=m at h
  generalize hc:(Cell.lit u:U.C)=c at h
  cases h with
  |lit=>cases hc;rfl
  |nil=>cases hc
  |shr=>cases hc
theorem wX {x:SV U} {u:Value} (h:iC x=some u):x=tD u:=by
 unfold iC at h
 split at h
 ·cases h;rfl
 ·cases h
theorem og{x:SV U}{u v:Value}(h:RS E w F kv fp bad x v)(hl:iC x=some u):v=u:=by
 rw[wX hl] at h
 exact WI (WH h)
theorem Hn {x:SV U} {y:AC U} (h:sr x=some y):x=one y:=by
 unfold sr at h
 split at h
 ·cases h;rfl
 ·cases h
theorem OH{x:AC U}{v:Value}(h:RD E w F kv fp bad x v)(hb:io bad x=false):RA E w F kv fp x v:=by
 rcases h.2 with h|h
 ·rw[hb] at h;cases h
 ·exact h
theorem L0{x:SV U}{u v:Value}(h:RS E w F kv fp bad x v)(hl:iC x=some u):fA u:=by
 rw[wX hl] at h
 exact(OH (WH h) rfl:Rp E w F false (.lit u) v []).A7
theorem kt{x:SV U}{y:AC U}{v:Value}(h:RS E w F kv fp bad x v)(hl:sr x=some y):RD E w F kv fp bad y v:=by
 rw[Hn hl] at h
 exact WH h
theorem abe{v:Value}{x:AC U}(h:nC v=some x):RD E w F kv fp bad x v:=by
 unfold nC at h
 split at h
 ·cases h;exact⟨⟨rfl,trivial⟩,.inr ⟨none,rfl⟩⟩
 ·cases h;exact uI ⟨rfl,trivial⟩
 ·rename_i k n
  rw[gT] at h
  split at h
  ·rename_i hc
   cases h
   simp only[eE,decide_eq_true_eq] at hc
   exact uI ⟨rfl,hc⟩
  ·cases h
 ·cases h;exact uI ⟨rfl,trivial⟩
 ·rename_i s
  rw[gT] at h
  split at h
  ·rename_i hc
   cases h
   exact uI ⟨rfl,by simpa using hc⟩
  ·cases h
 ·cases h
theorem PJ:∀{vs:List Value}{xs:List (AC U)},jn vs=some xs->kX E w F kv fp bad xs vs
 |[],xs,h=>by cases h;exact⟨rfl,fun i x v hx=>by simp at hx⟩
 |v::vs,xs,h=>by
  simp only[jn] at h
  split at h
  ·rename_i x l hx hl
   cases h
   have ih:=PJ hl
   refine⟨by simp[ih.1],fun i y u hy hu=> ?_⟩
   cases i with
   |zero=>simp only[sB,fJ] at hy hu;subst hy hu;exact abe hx
   |succ i=>exact ih.2 i y u (by simpa using hy) (by simpa using hu)
  ·cases h
theorem aly{cs:Array Value}{x:SV U}(h:pS cs=some x):RS E w F kv fp bad x (.agg cs):=by
 unfold pS at h
 split at h
 ·rename_i l hl;cases h;exact⟨cs.toList,PJ hl,by simp⟩
 ·cases h
theorem alx{v:Value}{x:SV U}(h:Ef v=some x):RS E w F kv fp bad x v:=by
 unfold Ef at h
 split at h
 ·exact aly h
 ·split at h
  ·rename_i hx;cases h;exact gZ (abe hx)
  ·cases h
end reps
theorem AK{F:Nat->Prop}{kv:Key->Value}{fp:Key->List Nat}{σ:af U}{a:Act}{w:World}(h:cG E pm F kv fp σ a w){x:Operand}{sv:SV U}
  (hx:H4 σ x=some sv):RS E w F kv fp (bW σ) sv (a.eval x):=by
 cases x with
 |tmp t=>exact h.bp t sv hx
 |const v=>exact alx hx
 |global g=>cases hx
 |func f=>cases hx;exact⟨[],rfl,rfl,fun i x u h=>by simp at h⟩
theorem cG.val{F:Nat->Prop}{kv:Key->Value}{fp:Key->List Nat}{σ:af U}{a:Act}{w:World}(h:cG E pm F kv fp σ a w)(o:Oper)(sv:Option (SV U))(ps:List Prop)(v:Value)
  (hd:∀d,o.dst=some d->d<σ.n) (hv:∀x,sv=some x->RS E w F kv fp (bW σ) x v):
  cG E pm F kv fp (AM.apply o ⟨sv,[],[],[],ps⟩ σ) (a.put o.dst v) w:=by
 have hb:bW (AM.apply o ⟨sv,[],[],[],ps⟩ σ)=bW σ:=rfl
 refine h.apply (F':=F) (kv':=kv) (fp':=fp) (w':=w) o _ v hd ?_ (fun _ _=>rfl) (fun _ _ _=>rfl) ?_ (fun b hb=>⟨hb,rfl⟩) (fun _ _ _ _ _ _ _ _=>rfl) ?_ ?_ ?_ h.rI h.rH h.upto (tB _)
 ·intro x hx;rw[hb];exact hv x hx
 ·intro k hk;simp[du] at hk
 ·intro k e hk;simp at hk
 ·intro k e b _ _ _ he hbb;exact(h.ff k e b he hbb).1
 ·intro k k' b _ hk;simp[du,jp] at hk
theorem n8.same{w w':World}{kv:Key->Value}{fp:Key->List Nat}{bad:Key->Bool}{k:Key}(h:∀b:Nat,w'.heap[b]? =w.heap[b]?):n8 w w' kv kv fp fp bad bad k:=by
 refine⟨rfl,?_⟩
 cases hb:bad k
 ·exact .inr ⟨rfl,rfl,fun b _=>h b⟩
 ·exact .inl rfl
theorem cG.drew{F:Nat->Prop}{kv:Key->Value}{fp:Key->List Nat}{σ:af U}{a:Act}{w:World}(h:cG E pm F kv fp σ a w):cG E pm F kv fp σ a w.drew:=by
 refine⟨h.size,h.defers,fun s x hs=>(h.bp s x hs).move (fun k _=>n8.same fun _=>rfl) (fun b hb=>⟨hb,rfl⟩),fun k e he=> ?_,h.apart,h.nodup,h.ff,h.rI,h.rH,⟨h.upto.os,h.upto.tape,h.upto.output,h.upto.size,h.upto.block⟩,h.Ji,h.lay.fE fun b hb=>⟨hb,rfl⟩⟩
 have h0:=h.cV k e he
 cases e with
 |arr x deep=>exact eu.fE h0 (fun b hb=>⟨hb,rfl⟩) (fun _ _=>rfl)
 |part x dead=>exact dU.fE h0 (fun b hb=>⟨hb,rfl⟩) (fun _ _=>rfl)
 |box cs=>
  obtain⟨b,cur,e',h1,h2,h3,h4⟩:=h0
  exact⟨b,cur,e',h1,h2,h3,h4.move (fun x _ k _=>n8.same fun _=>rfl) (fun b hb=>⟨hb,rfl⟩)⟩
theorem qd{P:Program}{o:Oper}{a:Act}{w w':World}{v:Value}{K:Act->World->Prop}{Q:Exit->Act->World->Prop}
  (hr:(execOp a.eval o).run P w=.ok (.value v) w') (hk:K (a.put o.dst v) w'):o.wp P a w K Q:=by
 unfold Oper.wp;rw[hr];exact hk
theorem LP{P:Program}{o:Oper}{a:Act}{w w':World}{K:Act->World->Prop}{Q:Exit->Act->World->Prop}
  (hr:(execOp a.eval o).run P w=.ok .skip w') (hk:K (a.put o.dst undef) w'):o.wp P a w K Q:=by
 unfold Oper.wp;rw[hr];exact hk
theorem ic{P:Program}{w w':World}{v:Value}{s:Sem Value}(h:s.run P w=.ok v w'):(do pure (Next.value (<-s)):Sem Next).run P w=.ok (.value v) w':=by
 rw[Sem.run_bind,h];rfl
theorem akS{P:Program}{w:World}{op:UnOp}{x v:Value}(h:Gl op x=some v):(Op.unary op x).run P w=.ok v w/\fA v:=by
 unfold Gl at h
 split at h<;>cases h
 ·exact⟨by simp[Op.unary,Op.intArith],rfl,wrap_within _ _⟩
 ·exact⟨by simp[Op.unary],rfl,trivial⟩
theorem alg{P:Program}{w:World}{op:BinOp}{t:TypeId}{x y:Operand}{a b:Value}(h1:∀cs,a≠ .agg cs)(h2:a≠ .nilIface):
  (eqGuard op t x y a b).run P w=.ok () w:=by
 unfold eqGuard
 cases a<;>first
  |exact absurd rfl h2
  |exact absurd rfl (h1 _)
  |(simp only[];split<;>rfl)
end AM
