import Derived.Test.YtmcepppejchhkaaGreatDoorQAmSim
import Derived.Laws.Closers25b
import Derived.Deep.MidRow
namespace AM
set_option linter.unusedVariables false
open Go
variable{U:lQ}{E:Env U}{pm:Pm}
theorem kf{tb:rF U}{ks:List Key}{k:Key}{e:iX U}(h:restrict tb ks k=some e):tb k=some e:=by
 unfold restrict at h
 cases hk:ks.any (iZ k)<;>simp only[hk,cond_false,cond_true] at h
 ·cases h
 ·exact h
theorem alg{α:Type}{l:List (Option α)}(h:Eu l=some []):l=[]:=by
 cases l with
 |nil=>rfl
 |cons a r=>cases a with
  |none=>simp[Eu] at h
  |some x=>simp only[Eu] at h;split at h<;>cases h
theorem alh{α:Type}{l:List (Option α)}{x:α}{r:List α}(h:Eu l=some (x::r)):∃l',l=some x::l'/\Eu l'=some r:=by
 cases l with
 |nil=>cases h
 |cons a l'=>cases a with
  |none=>simp[Eu] at h
  |some y=>
   simp only[Eu] at h
   split at h
   ·rename_i r' hr;cases h;exact⟨l',rfl,hr⟩
   ·cases h
theorem ade{α β:Type}{f:α->Option β}:∀{l:List α}{xs:List β},Eu (l.map f)=some xs->xs.length=l.length/\∀(i:Nat)(a:α),l[i]? =some a->∃x,xs[i]? =some x/\f a=some x
 |[],xs,h=>by simp only[List.map_nil,Eu,gI] at h;subst h;simp
 |a::l,xs,h=>by
  simp only[wH] at h
  cases xs with
  |nil=>have:=alg h;simp at this
  |cons x xs=>
   obtain⟨l',h1,h2⟩:=alh h
   simp only[zdd] at h1
   obtain⟨h1,rfl⟩:=h1
   obtain⟨h3,h4⟩:=ade h2
   refine⟨by simp[h3],fun i b hb=> ?_⟩
   cases i with
   |zero=>simp only[vF,gI] at hb;subst hb;exact⟨x,by simp,h1⟩
   |succ i=>simpa using h4 i b (by simpa using hb)
section reps
variable{w:World}{F:Nat->Prop}{kv:Key->Value}{fp:Key->List Nat}{bad:Key->Bool}
theorem xQ{v:Value}(h:gD v):RD E w F kv fp bad (.c (.lit v)) v:=⟨h,.inr (.lit _ v h)⟩
theorem Ba{x:AC U}{v:Value}(h:RD E w F kv fp bad x v):RV E w F kv fp bad ⟨false,[x]⟩ v:=
 ⟨[v],⟨rfl,fun i y u hy hu=>by
  cases i with
  |zero=>simp only[vF,gI] at hy hu;subst hy hu;exact h
  |succ i=>simp at hy⟩,by simp⟩
theorem iD{x:AC U}{v:Value}(h:RD E w F kv fp bad x v):RS E w F kv fp bad (one x) v:=Ba h
theorem ny{v:Value}(h:gD v):RS E w F kv fp bad (wL v) v:=iD (xQ h)
theorem H7{x:AC U}{v:Value}(h:RV E w F kv fp bad ⟨false,[x]⟩ v):RD E w F kv fp bad x v:=by
 obtain⟨vs,h1,h2⟩:=h
 simp at h2
 subst h2
 exact h1.2 0 x v rfl rfl
theorem aaI{x:AC U}{v:Value}(h:RS E w F kv fp bad (one x) v):RD E w F kv fp bad x v:=H7 h
theorem aaJ{u v:Value}(h:RD E w F kv fp bad (.c (.lit u)) v):v=u:=by
 rcases h.2 with h|h
 ·simp[iT] at h
 ·simp only[RA] at h
  generalize hm:false=m at h
  generalize hc:(Cell.lit u:U.C)=c at h
  cases h with
  |lit=>cases hc;rfl
  |nil=>cases hc
  |shr=>cases hc
theorem Au {x:SV U} {u:Value} (h:ji x=some u):x=wL u:=by
 unfold ji at h
 split at h
 ·cases h;rfl
 ·cases h
theorem qB{x:SV U}{u v:Value}(h:RS E w F kv fp bad x v)(hl:ji x=some u):v=u:=by
 rw[Au hl] at h
 exact aaJ (aaI h)
theorem Mk {x:SV U} {y:AC U} (h:vx x=some y):x=one y:=by
 unfold vx at h
 split at h
 ·cases h;rfl
 ·cases h
theorem Um{x:AC U}{v:Value}(h:RD E w F kv fp bad x v)(hb:iT bad x=false):RA E w F kv fp x v:=by
 rcases h.2 with h|h
 ·rw[hb] at h;cases h
 ·exact h
theorem RB{x:SV U}{u v:Value}(h:RS E w F kv fp bad x v)(hl:ji x=some u):gD u:=by
 rw[Au hl] at h
 exact(Um (aaI h) rfl:Rp E w F false (.lit u) v []).EY
theorem lD{x:SV U}{y:AC U}{v:Value}(h:RS E w F kv fp bad x v)(hl:vx x=some y):RD E w F kv fp bad y v:=by
 rw[Mk hl] at h
 exact aaI h
theorem adY{v:Value}{x:AC U}(h:pQ v=some x):RD E w F kv fp bad x v:=by
 unfold pQ at h
 split at h
 ·cases h;exact⟨⟨rfl,trivial⟩,.inr ⟨none,rfl⟩⟩
 ·cases h;exact xQ ⟨rfl,trivial⟩
 ·rename_i k n
  rw[iw] at h
  split at h
  ·rename_i hc
   cases h
   simp only[cN,decide_eq_true_eq] at hc
   exact xQ ⟨rfl,hc⟩
  ·cases h
 ·cases h;exact xQ ⟨rfl,trivial⟩
 ·rename_i s
  rw[iw] at h
  split at h
  ·rename_i hc
   cases h
   exact xQ ⟨rfl,by simpa using hc⟩
  ·cases h
 ·cases h
theorem Vs:∀{vs:List Value}{xs:List (AC U)},jT vs=some xs->mw E w F kv fp bad xs vs
 |[],xs,h=>by cases h;exact⟨rfl,fun i x v hx=>by simp at hx⟩
 |v::vs,xs,h=>by
  simp only[jT] at h
  split at h
  ·rename_i x l hx hl
   cases h
   have ih:=Vs hl
   refine⟨by simp[ih.1],fun i y u hy hu=> ?_⟩
   cases i with
   |zero=>simp only[vF,gI] at hy hu;subst hy hu;exact adY hx
   |succ i=>exact ih.2 i y u (by simpa using hy) (by simpa using hu)
  ·cases h
theorem amV{cs:Array Value}{x:SV U}(h:sz cs=some x):RS E w F kv fp bad x (.agg cs):=by
 unfold sz at h
 split at h
 ·rename_i l hl;cases h;exact⟨cs.toList,Vs hl,by simp⟩
 ·cases h
theorem amU{v:Value}{x:SV U}(h:IN v=some x):RS E w F kv fp bad x v:=by
 unfold IN at h
 split at h
 ·exact amV h
 ·split at h
  ·rename_i hx;cases h;exact iD (adY hx)
  ·cases h
end reps
theorem EF{F:Nat->Prop}{kv:Key->Value}{fp:Key->List Nat}{σ:ak U}{a:Act}{w:World}(h:cR E pm F kv fp σ a w){x:Operand}{sv:SV U}
  (hx:M_ σ x=some sv):RS E w F kv fp (bY σ) sv (a.eval x):=by
 cases x with
 |tmp t=>exact h.bG t sv hx
 |const v=>exact amU hx
 |global g=>cases hx
 |func f=>cases hx;exact⟨[],rfl,rfl,fun i x u h=>by simp at h⟩
theorem cR.val{F:Nat->Prop}{kv:Key->Value}{fp:Key->List Nat}{σ:ak U}{a:Act}{w:World}(h:cR E pm F kv fp σ a w)(o:Oper)(sv:Option (SV U))(ps:List Prop)(v:Value)
  (hd:∀d,o.dst=some d->d<σ.n) (hv:∀x,sv=some x->RS E w F kv fp (bY σ) x v):
  cR E pm F kv fp (AM.apply o ⟨sv,[],[],[],ps⟩ σ) (a.put o.dst v) w:=by
 have hb:bY (AM.apply o ⟨sv,[],[],[],ps⟩ σ)=bY σ:=rfl
 refine h.apply (F':=F) (kv':=kv) (fp':=fp) (w':=w) o _ v hd ?_ (fun _ _=>rfl) (fun _ _ _=>rfl) ?_ (fun b hb=>⟨hb,rfl⟩) (fun _ _ _ _ _ _ _ _=>rfl) ?_ ?_ ?_ h.uI h.uH h.upto (uh _)
 ·intro x hx;rw[hb];exact hv x hx
 ·intro k hk;simp[dZ] at hk
 ·intro k e hk;simp at hk
 ·intro k e b _ _ _ he hbb;exact(h.fT k e b he hbb).1
 ·intro k k' b _ hk;simp[dZ,jW] at hk
theorem qv.same{w w':World}{kv:Key->Value}{fp:Key->List Nat}{bad:Key->Bool}{k:Key}(h:∀b:Nat,w'.heap[b]? =w.heap[b]?):qv w w' kv kv fp fp bad bad k:=by
 refine⟨rfl,?_⟩
 cases hb:bad k
 ·exact .inr ⟨rfl,rfl,fun b _=>h b⟩
 ·exact .inl rfl
theorem cR.drew{F:Nat->Prop}{kv:Key->Value}{fp:Key->List Nat}{σ:ak U}{a:Act}{w:World}(h:cR E pm F kv fp σ a w):cR E pm F kv fp σ a w.drew:=by
 refine⟨h.size,h.defers,fun s x hs=>(h.bG s x hs).move (fun k _=>qv.same fun _=>rfl) (fun b hb=>⟨hb,rfl⟩),fun k e he=> ?_,h.apart,h.nodup,h.fT,h.uI,h.uH,⟨h.upto.os,h.upto.tape,h.upto.output,h.upto.size,h.upto.block⟩,h.Oe,h.lay.gv fun b hb=>⟨hb,rfl⟩⟩
 have h0:=h.dD k e he
 cases e with
 |arr x deep=>exact fe.gv h0 (fun b hb=>⟨hb,rfl⟩) (fun _ _=>rfl)
 |part x dead=>exact eK.gv h0 (fun b hb=>⟨hb,rfl⟩) (fun _ _=>rfl)
 |box cs=>
  obtain⟨b,cur,e',h1,h2,h3,h4⟩:=h0
  exact⟨b,cur,e',h1,h2,h3,h4.move (fun x _ k _=>qv.same fun _=>rfl) (fun b hb=>⟨hb,rfl⟩)⟩
theorem te{P:Program}{o:Oper}{a:Act}{w w':World}{v:Value}{K:Act->World->Prop}{Q:Exit->Act->World->Prop}
  (hr:(execOp a.eval o).run P w=.ok (.value v) w') (hk:K (a.put o.dst v) w'):o.wp P a w K Q:=by
 unfold Oper.wp;rw[hr];exact hk
theorem Rq{P:Program}{o:Oper}{a:Act}{w w':World}{K:Act->World->Prop}{Q:Exit->Act->World->Prop}
  (hr:(execOp a.eval o).run P w=.ok .skip w') (hk:K (a.put o.dst undef) w'):o.wp P a w K Q:=by
 unfold Oper.wp;rw[hr];exact hk
theorem iM{P:Program}{w w':World}{v:Value}{s:Sem Value}(h:s.run P w=.ok v w'):(do pure (Next.value (<-s)):Sem Next).run P w=.ok (.value v) w':=by
 rw[Sem.run_bind,h];rfl
theorem amf{P:Program}{w:World}{op:UnOp}{x v:Value}(h:Lo op x=some v):(Op.unary op x).run P w=.ok v w/\gD v:=by
 unfold Lo at h
 split at h<;>cases h
 ·exact⟨by simp[Op.unary,Op.intArith],rfl,wrap_within _ _⟩
 ·exact⟨by simp[Op.unary],rfl,trivial⟩
theorem amF{P:Program}{w:World}{op:BinOp}{t:TypeId}{x y:Operand}{a b:Value}(h1:∀cs,a≠ .agg cs)(h2:a≠ .nilIface):
  (eqGuard op t x y a b).run P w=.ok () w:=by
 unfold eqGuard
 cases a<;>first
  |exact absurd rfl h2
  |exact absurd rfl (h1 _)
  |(simp only[];split<;>rfl)
end AM
