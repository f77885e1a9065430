/- THE ABSTRACT MACHINE: the operations that make a value and leave the world alone. -/
import Derived.Test.YtjlajhgabffmpaaGreatQAmSim
import Derived.Laws.Closers25b
import Derived.Deep.MidRow
namespace AM
set_option linter.unusedVariables false
open Go
variable{U:lu}{E:Env U}{pm:Pm}
theorem kj{tb:qW U}{ks:List Key}{k:Key}{e:i_ U}(h:restrict tb ks k=some e):tb k=some e:=by
 unfold restrict at h
 cases hk:ks.any (jb k)<;>simp only[hk,cond_false,cond_true] at h
 ·cases h
 ·exact h
theorem aj4{α:Type}{l:List (Option α)}(h:DY l=some []):l=[]:=by
 cases l with
 |nil=>rfl
 |cons a r=>cases a with
  |none=>simp[DY] at h
  |some x=>simp only[DY] at h;split at h<;>cases h
theorem aj5{α:Type}{l:List (Option α)}{x:α}{r:List α}(h:DY l=some (x::r)):∃l',l=some x::l'/\DY l'=some r:=by
 cases l with
 |nil=>cases h
 |cons a l'=>cases a with
  |none=>simp[DY] at h
  |some y=>
   simp only[DY] at h
   split at h
   ·rename_i r' hr;cases h;exact⟨l',rfl,hr⟩
   ·cases h
theorem aco{α β:Type}{f:α->Option β}:∀{l:List α}{xs:List β},DY (l.map f)=some xs->xs.length=l.length/\∀(i:Nat)(a:α),l[i]? =some a->∃x,xs[i]? =some x/\f a=some x
 |[],xs,h=>by simp only[List.map_nil,DY,gJ] at h;subst h;simp
 |a::l,xs,h=>by
  simp only[wb] at h
  cases xs with
  |nil=>have:=aj4 h;simp at this
  |cons x xs=>
   obtain⟨l',h1,h2⟩:=aj5 h
   simp only[zdd] at h1
   obtain⟨h1,rfl⟩:=h1
   obtain⟨h3,h4⟩:=aco h2
   refine⟨by simp[h3],fun i b hb=> ?_⟩
   cases i with
   |zero=>simp only[vh,gJ] at hb;subst hb;exact⟨x,by simp,h1⟩
   |succ i=>simpa using h4 i b (by simpa using hb)
section reps
variable{w:World}{F:Nat->Prop}{kv:Key->Value}{fp:Key->List Nat}{bad:Key->Bool}
theorem xn{v:Value}(h:gM v):RD E w F kv fp bad (.c (.lit v)) v:=⟨h,.inr (.lit _ v h)⟩
theorem AG{x:AC U}{v:Value}(h:RD E w F kv fp bad x v):RV E w F kv fp bad ⟨false,[x]⟩ v:=
 ⟨[v],⟨rfl,fun i y u hy hu=>by
  cases i with
  |zero=>simp only[vh,gJ] at hy hu;subst hy hu;exact h
  |succ i=>simp at hy⟩,by simp⟩
theorem iD{x:AC U}{v:Value}(h:RD E w F kv fp bad x v):RS E w F kv fp bad (one x) v:=AG h
theorem m6{v:Value}(h:gM v):RS E w F kv fp bad (we v) v:=iD (xn h)
theorem HL{x:AC U}{v:Value}(h:RV E w F kv fp bad ⟨false,[x]⟩ v):RD E w F kv fp bad x v:=by
 obtain⟨vs,h1,h2⟩:=h
 simp at h2
 subst h2
 exact h1.2 0 x v rfl rfl
theorem Z6{x:AC U}{v:Value}(h:RS E w F kv fp bad (one x) v):RD E w F kv fp bad x v:=HL h
theorem Z7{u v:Value}(h:RD E w F kv fp bad (.c (.lit u)) v):v=u:=by
 rcases h.2 with h|h
 ·simp[iX] at h
 ·simp only[RA] at h
  generalize hm:false=m at h
  generalize hc:(Cell.lit u:U.C)=c at h
  cases h with
  |lit=>cases hc;rfl
  |nil=>cases hc
  |shr=>cases hc
theorem zO {x:SV U} {u:Value} (h:jj x=some u):x=we u:=by
 unfold jj at h
 split at h
 ·cases h;rfl
 ·cases h
theorem qd{x:SV U}{u v:Value}(h:RS E w F kv fp bad x v)(hl:jj x=some u):v=u:=by
 rw[zO hl] at h
 exact Z7 (Z6 h)
theorem L1 {x:SV U} {y:AC U} (h:u5 x=some y):x=one y:=by
 unfold u5 at h
 split at h
 ·cases h;rfl
 ·cases h
theorem Ud{x:AC U}{v:Value}(h:RD E w F kv fp bad x v)(hb:iX bad x=false):RA E w F kv fp x v:=by
 rcases h.2 with h|h
 ·rw[hb] at h;cases h
 ·exact h
theorem Ry{x:SV U}{u v:Value}(h:RS E w F kv fp bad x v)(hl:jj x=some u):gM u:=by
 rw[zO hl] at h
 exact(Ud (Z6 h) rfl:Rp E w F false (.lit u) v []).Es
theorem li{x:SV U}{y:AC U}{v:Value}(h:RS E w F kv fp bad x v)(hl:u5 x=some y):RD E w F kv fp bad y v:=by
 rw[L1 hl] at h
 exact Z6 h
theorem ade{v:Value}{x:AC U}(h:po v=some x):RD E w F kv fp bad x v:=by
 unfold po at h
 split at h
 ·cases h;exact⟨⟨rfl,trivial⟩,.inr ⟨none,rfl⟩⟩
 ·cases h;exact xn ⟨rfl,trivial⟩
 ·rename_i k n
  rw[iu] at h
  split at h
  ·rename_i hc
   cases h
   simp only[cO,decide_eq_true_eq] at hc
   exact xn ⟨rfl,hc⟩
  ·cases h
 ·cases h;exact xn ⟨rfl,trivial⟩
 ·rename_i s
  rw[iu] at h
  split at h
  ·rename_i hc
   cases h
   exact xn ⟨rfl,by simpa using hc⟩
  ·cases h
 ·cases h
theorem Vf:∀{vs:List Value}{xs:List (AC U)},jW vs=some xs->l8 E w F kv fp bad xs vs
 |[],xs,h=>by cases h;exact⟨rfl,fun i x v hx=>by simp at hx⟩
 |v::vs,xs,h=>by
  simp only[jW] at h
  split at h
  ·rename_i x l hx hl
   cases h
   have ih:=Vf hl
   refine⟨by simp[ih.1],fun i y u hy hu=> ?_⟩
   cases i with
   |zero=>simp only[vh,gJ] at hy hu;subst hy hu;exact ade hx
   |succ i=>exact ih.2 i y u (by simpa using hy) (by simpa using hu)
  ·cases h
theorem alH{cs:Array Value}{x:SV U}(h:rT cs=some x):RS E w F kv fp bad x (.agg cs):=by
 unfold rT at h
 split at h
 ·rename_i l hl;cases h;exact⟨cs.toList,Vf hl,by simp⟩
 ·cases h
theorem alG{v:Value}{x:SV U}(h:Ir v=some x):RS E w F kv fp bad x v:=by
 unfold Ir at h
 split at h
 ·exact alH h
 ·split at h
  ·rename_i hx;cases h;exact iD (ade hx)
  ·cases h
end reps
theorem D8{F:Nat->Prop}{kv:Key->Value}{fp:Key->List Nat}{σ:ai U}{a:Act}{w:World}(h:cQ E pm F kv fp σ a w){x:Operand}{sv:SV U}
  (hx:MW σ x=some sv):RS E w F kv fp (bR σ) sv (a.eval x):=by
 cases x with
 |tmp t=>exact h.bI t sv hx
 |const v=>exact alG hx
 |global g=>cases hx
 |func f=>cases hx;exact⟨[],rfl,rfl,fun i x u h=>by simp at h⟩
theorem cQ.val{F:Nat->Prop}{kv:Key->Value}{fp:Key->List Nat}{σ:ai U}{a:Act}{w:World}(h:cQ E pm F kv fp σ a w)(o:Oper)(sv:Option (SV U))(ps:List Prop)(v:Value)
  (hd:∀d,o.dst=some d->d<σ.n) (hv:∀x,sv=some x->RS E w F kv fp (bR σ) x v):
  cQ E pm F kv fp (AM.apply o ⟨sv,[],[],[],ps⟩ σ) (a.put o.dst v) w:=by
 have hb:bR (AM.apply o ⟨sv,[],[],[],ps⟩ σ)=bR σ:=rfl
 refine h.apply (F':=F) (kv':=kv) (fp':=fp) (w':=w) o _ v hd ?_ (fun _ _=>rfl) (fun _ _ _=>rfl) ?_ (fun b hb=>⟨hb,rfl⟩) (fun _ _ _ _ _ _ _ _=>rfl) ?_ ?_ ?_ h.uc h.ub h.upto (tR _)
 ·intro x hx;rw[hb];exact hv x hx
 ·intro k hk;simp[eo] at hk
 ·intro k e hk;simp at hk
 ·intro k e b _ _ _ he hbb;exact(h.fV k e b he hbb).1
 ·intro k k' b _ hk;simp[eo,jY] at hk
theorem p8.same{w w':World}{kv:Key->Value}{fp:Key->List Nat}{bad:Key->Bool}{k:Key}(h:∀b:Nat,w'.heap[b]? =w.heap[b]?):p8 w w' kv kv fp fp bad bad k:=by
 refine⟨rfl,?_⟩
 cases hb:bad k
 ·exact .inr ⟨rfl,rfl,fun b _=>h b⟩
 ·exact .inl rfl
theorem cQ.drew{F:Nat->Prop}{kv:Key->Value}{fp:Key->List Nat}{σ:ai U}{a:Act}{w:World}(h:cQ E pm F kv fp σ a w):cQ E pm F kv fp σ a w.drew:=by
 refine⟨h.size,h.defers,fun s x hs=>(h.bI s x hs).move (fun k _=>p8.same fun _=>rfl) (fun b hb=>⟨hb,rfl⟩),fun k e he=> ?_,h.apart,h.nodup,h.fV,h.uc,h.ub,⟨h.upto.os,h.upto.tape,h.upto.output,h.upto.size,h.upto.block⟩,h.N8,h.lay.gx fun b hb=>⟨hb,rfl⟩⟩
 have h0:=h.dV k e he
 cases e with
 |arr x deep=>exact fi.gx h0 (fun b hb=>⟨hb,rfl⟩) (fun _ _=>rfl)
 |part x dead=>exact eW.gx h0 (fun b hb=>⟨hb,rfl⟩) (fun _ _=>rfl)
 |box cs=>
  obtain⟨b,cur,e',h1,h2,h3,h4⟩:=h0
  exact⟨b,cur,e',h1,h2,h3,h4.move (fun x _ k _=>p8.same fun _=>rfl) (fun b hb=>⟨hb,rfl⟩)⟩
theorem sH{P:Program}{o:Oper}{a:Act}{w w':World}{v:Value}{K:Act->World->Prop}{Q:Exit->Act->World->Prop}
  (hr:(execOp a.eval o).run P w=.ok (.value v) w') (hk:K (a.put o.dst v) w'):o.wp P a w K Q:=by
 unfold Oper.wp;rw[hr];exact hk
theorem Rn{P:Program}{o:Oper}{a:Act}{w w':World}{K:Act->World->Prop}{Q:Exit->Act->World->Prop}
  (hr:(execOp a.eval o).run P w=.ok .skip w') (hk:K (a.put o.dst undef) w'):o.wp P a w K Q:=by
 unfold Oper.wp;rw[hr];exact hk
theorem iQ{P:Program}{w w':World}{v:Value}{s:Sem Value}(h:s.run P w=.ok v w'):(do pure (Next.value (<-s)):Sem Next).run P w=.ok (.value v) w':=by
 rw[Sem.run_bind,h];rfl
theorem ak1{P:Program}{w:World}{op:UnOp}{x v:Value}(h:KQ op x=some v):(Op.unary op x).run P w=.ok v w/\gM v:=by
 unfold KQ at h
 split at h<;>cases h
 ·exact⟨by simp[Op.unary,Op.intArith],rfl,wrap_within _ _⟩
 ·exact⟨by simp[Op.unary],rfl,trivial⟩
theorem alq{P:Program}{w:World}{op:BinOp}{t:TypeId}{x y:Operand}{a b:Value}(h1:∀cs,a≠ .agg cs)(h2:a≠ .nilIface):
  (eqGuard op t x y a b).run P w=.ok () w:=by
 unfold eqGuard
 cases a<;>first
  |exact absurd rfl h2
  |exact absurd rfl (h1 _)
  |(simp only[];split<;>rfl)
end AM
