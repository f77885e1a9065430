/- THE ABSTRACT MACHINE: the operations that make a value and leave the world alone. -/
import Derived.Test.YtmlhlndkkidhoaaGreatQAmSim
import Derived.Laws.Closers25b
import Derived.Deep.MidRow
namespace AM
set_option linter.unusedVariables false
open Go
variable{U:kZ}{E:Env U}{pm:Pm}
theorem jS{tb:pQ U}{ks:List Key}{k:Key}{e:iv U}(h:restrict tb ks k=some e):tb k=some e:=by
 unfold restrict at h
 cases hk:ks.any (iJ k)<;>simp only[hk,cond_false,cond_true] at h
 ·cases h
 ·exact h
theorem alR{α:Type}{l:List (Option α)}(h:Cr l=some []):l=[]:=by
 cases l with
 |nil=>rfl
 |cons a r=>cases a with
  |none=>simp[Cr] at h
  |some x=>simp only[Cr] at h;split at h<;>cases h
theorem alS{α:Type}{l:List (Option α)}{x:α}{r:List α}(h:Cr l=some (x::r)):∃l',l=some x::l'/\Cr l'=some r:=by
 cases l with
 |nil=>cases h
 |cons a l'=>cases a with
  |none=>simp[Cr] at h
  |some y=>
   simp only[Cr] at h
   split at h
   ·rename_i r' hr;cases h;exact⟨l',rfl,hr⟩
   ·cases h
theorem ab3{α β:Type}{f:α->Option β}:∀{l:List α}{xs:List β},Cr (l.map f)=some xs->xs.length=l.length/\∀(i:Nat)(a:α),l[i]? =some a->∃x,xs[i]? =some x/\f a=some x
 |[],xs,h=>by simp only[List.map_nil,Cr,gx] at h;subst h;simp
 |a::l,xs,h=>by
  simp only[uY] at h
  cases xs with
  |nil=>have:=alR h;simp at this
  |cons x xs=>
   obtain⟨l',h1,h2⟩:=alS h
   simp only[zdd] at h1
   obtain⟨h1,rfl⟩:=h1
   obtain⟨h3,h4⟩:=ab3 h2
   refine⟨by simp[h3],fun i b hb=> ?_⟩
   cases i with
   |zero=>simp only[t_,gx] at hb;subst hb;exact⟨x,by simp,h1⟩
   |succ i=>simpa using h4 i b (by simpa using hb)
section reps
variable{w:World}{F:Nat->Prop}{kv:Key->Value}{fp:Key->List Nat}{bad:Key->Bool}
theorem wq{v:Value}(h:gp v):RD E w F kv fp bad (.c (.lit v)) v:=⟨h,.inr (.lit _ v h)⟩
theorem zw{x:AC U}{v:Value}(h:RD E w F kv fp bad x v):RV E w F kv fp bad ⟨false,[x]⟩ v:=
 ⟨[v],⟨rfl,fun i y u hy hu=>by
  cases i with
  |zero=>simp only[t_,gx] at hy hu;subst hy hu;exact h
  |succ i=>simp at hy⟩,by simp⟩
theorem ik{x:AC U}{v:Value}(h:RD E w F kv fp bad x v):RS E w F kv fp bad (one x) v:=zw h
theorem mH{v:Value}(h:gp v):RS E w F kv fp bad (u4 v) v:=ik (wq h)
theorem Gf{x:AC U}{v:Value}(h:RV E w F kv fp bad ⟨false,[x]⟩ v):RD E w F kv fp bad x v:=by
 obtain⟨vs,h1,h2⟩:=h
 simp at h2
 subst h2
 exact h1.2 0 x v rfl rfl
theorem X8{x:AC U}{v:Value}(h:RS E w F kv fp bad (one x) v):RD E w F kv fp bad x v:=Gf h
theorem X9{u v:Value}(h:RD E w F kv fp bad (.c (.lit u)) v):v=u:=by
 rcases h.2 with h|h
 ·simp[iG] at h
 ·simp only[RA] at h
  generalize hm:false=m at h
  generalize hc:(Cell.lit u:U.C)=c at h
  cases h with
  |lit=>cases hc;rfl
  |nil=>cases hc
  |shr=>cases hc
theorem yJ {x:SV U} {u:Value} (h:iR x=some u):x=u4 u:=by
 unfold iR at h
 split at h
 ·cases h;rfl
 ·cases h
theorem pH{x:SV U}{u v:Value}(h:RS E w F kv fp bad x v)(hl:iR x=some u):v=u:=by
 rw[yJ hl] at h
 exact X9 (X8 h)
theorem J0 {x:SV U} {y:AC U} (h:tT x=some y):x=one y:=by
 unfold tT at h
 split at h
 ·cases h;rfl
 ·cases h
theorem S1{x:AC U}{v:Value}(h:RD E w F kv fp bad x v)(hb:iG bad x=false):RA E w F kv fp x v:=by
 rcases h.2 with h|h
 ·rw[hb] at h;cases h
 ·exact h
theorem O5{x:SV U}{u v:Value}(h:RS E w F kv fp bad x v)(hl:iR x=some u):gp u:=by
 rw[yJ hl] at h
 exact(S1 (X8 h) rfl:Rp E w F false (.lit u) v []).CW
theorem kP{x:SV U}{y:AC U}{v:Value}(h:RS E w F kv fp bad x v)(hl:tT x=some y):RD E w F kv fp bad y v:=by
 rw[J0 hl] at h
 exact X8 h
theorem acU{v:Value}{x:AC U}(h:oM v=some x):RD E w F kv fp bad x v:=by
 unfold oM at h
 split at h
 ·cases h;exact⟨⟨rfl,trivial⟩,.inr ⟨none,rfl⟩⟩
 ·cases h;exact wq ⟨rfl,trivial⟩
 ·rename_i k n
  rw[h_] at h
  split at h
  ·rename_i hc
   cases h
   simp only[cK,decide_eq_true_eq] at hc
   exact wq ⟨rfl,hc⟩
  ·cases h
 ·cases h;exact wq ⟨rfl,trivial⟩
 ·rename_i s
  rw[h_] at h
  split at h
  ·rename_i hc
   cases h
   exact wq ⟨rfl,by simpa using hc⟩
  ·cases h
 ·cases h
theorem Ug:∀{vs:List Value}{xs:List (AC U)},jC vs=some xs->ly E w F kv fp bad xs vs
 |[],xs,h=>by cases h;exact⟨rfl,fun i x v hx=>by simp at hx⟩
 |v::vs,xs,h=>by
  simp only[jC] at h
  split at h
  ·rename_i x l hx hl
   cases h
   have ih:=Ug hl
   refine⟨by simp[ih.1],fun i y u hy hu=> ?_⟩
   cases i with
   |zero=>simp only[t_,gx] at hy hu;subst hy hu;exact acU hx
   |succ i=>exact ih.2 i y u (by simpa using hy) (by simpa using hu)
  ·cases h
theorem ant{cs:Array Value}{x:SV U}(h:qU cs=some x):RS E w F kv fp bad x (.agg cs):=by
 unfold qU at h
 split at h
 ·rename_i l hl;cases h;exact⟨cs.toList,Ug hl,by simp⟩
 ·cases h
theorem ans{v:Value}{x:SV U}(h:GZ v=some x):RS E w F kv fp bad x v:=by
 unfold GZ at h
 split at h
 ·exact ant h
 ·split at h
  ·rename_i hx;cases h;exact ik (acU hx)
  ·cases h
end reps
theorem CA{F:Nat->Prop}{kv:Key->Value}{fp:Key->List Nat}{σ:ah U}{a:Act}{w:World}(h:cE E pm F kv fp σ a w){x:Operand}{sv:SV U}
  (hx:KL σ x=some sv):RS E w F kv fp (bW σ) sv (a.eval x):=by
 cases x with
 |tmp t=>exact h.bz t sv hx
 |const v=>exact ans hx
 |global g=>cases hx
 |func f=>cases hx;exact⟨[],rfl,rfl,fun i x u h=>by simp at h⟩
theorem cE.val{F:Nat->Prop}{kv:Key->Value}{fp:Key->List Nat}{σ:ah U}{a:Act}{w:World}(h:cE E pm F kv fp σ a w)(o:Oper)(sv:Option (SV U))(ps:List Prop)(v:Value)
  (hd:∀d,o.dst=some d->d<σ.n) (hv:∀x,sv=some x->RS E w F kv fp (bW σ) x v):
  cE E pm F kv fp (AM.apply o ⟨sv,[],[],[],ps⟩ σ) (a.put o.dst v) w:=by
 have hb:bW (AM.apply o ⟨sv,[],[],[],ps⟩ σ)=bW σ:=rfl
 refine h.apply (F':=F) (kv':=kv) (fp':=fp) (w':=w) o _ v hd ?_ (fun _ _=>rfl) (fun _ _ _=>rfl) ?_ (fun b hb=>⟨hb,rfl⟩) (fun _ _ _ _ _ _ _ _=>rfl) ?_ ?_ ?_ h.sZ h.sY h.upto (s_ _)
 ·intro x hx;rw[hb];exact hv x hx
 ·intro k hk;simp[dG] at hk
 ·intro k e hk;simp at hk
 ·intro k e b _ _ _ he hbb;exact(h.fK k e b he hbb).1
 ·intro k k' b _ hk;simp[dG,jE] at hk
theorem pD.same{w w':World}{kv:Key->Value}{fp:Key->List Nat}{bad:Key->Bool}{k:Key}(h:∀b:Nat,w'.heap[b]? =w.heap[b]?):pD w w' kv kv fp fp bad bad k:=by
 refine⟨rfl,?_⟩
 cases hb:bad k
 ·exact .inr ⟨rfl,rfl,fun b _=>h b⟩
 ·exact .inl rfl
theorem cE.drew{F:Nat->Prop}{kv:Key->Value}{fp:Key->List Nat}{σ:ah U}{a:Act}{w:World}(h:cE E pm F kv fp σ a w):cE E pm F kv fp σ a w.drew:=by
 refine⟨h.size,h.defers,fun s x hs=>(h.bz s x hs).move (fun k _=>pD.same fun _=>rfl) (fun b hb=>⟨hb,rfl⟩),fun k e he=> ?_,h.apart,h.nodup,h.fK,h.sZ,h.sY,⟨h.upto.os,h.upto.tape,h.upto.output,h.upto.size,h.upto.block⟩,h.LV,h.lay.f_ fun b hb=>⟨hb,rfl⟩⟩
 have h0:=h.di k e he
 cases e with
 |arr x deep=>exact eW.f_ h0 (fun b hb=>⟨hb,rfl⟩) (fun _ _=>rfl)
 |part x dead=>exact eo.f_ h0 (fun b hb=>⟨hb,rfl⟩) (fun _ _=>rfl)
 |box cs=>
  obtain⟨b,cur,e',h1,h2,h3,h4⟩:=h0
  exact⟨b,cur,e',h1,h2,h3,h4.move (fun x _ k _=>pD.same fun _=>rfl) (fun b hb=>⟨hb,rfl⟩)⟩
theorem rD{P:Program}{o:Oper}{a:Act}{w w':World}{v:Value}{K:Act->World->Prop}{Q:Exit->Act->World->Prop}
  (hr:(execOp a.eval o).run P w=.ok (.value v) w') (hk:K (a.put o.dst v) w'):o.wp P a w K Q:=by
 unfold Oper.wp;rw[hr];exact hk
theorem OT{P:Program}{o:Oper}{a:Act}{w w':World}{K:Act->World->Prop}{Q:Exit->Act->World->Prop}
  (hr:(execOp a.eval o).run P w=.ok .skip w') (hk:K (a.put o.dst undef) w'):o.wp P a w K Q:=by
 unfold Oper.wp;rw[hr];exact hk
theorem iA{P:Program}{w w':World}{v:Value}{s:Sem Value}(h:s.run P w=.ok v w'):(do pure (Next.value (<-s)):Sem Next).run P w=.ok (.value v) w':=by
 rw[Sem.run_bind,h];rfl
theorem amN{P:Program}{w:World}{op:UnOp}{x v:Value}(h:I0 op x=some v):(Op.unary op x).run P w=.ok v w/\gp v:=by
 unfold I0 at h
 split at h<;>cases h
 ·exact⟨by simp[Op.unary,Op.intArith],rfl,wrap_within _ _⟩
 ·exact⟨by simp[Op.unary],rfl,trivial⟩
theorem anb{P:Program}{w:World}{op:BinOp}{t:TypeId}{x y:Operand}{a b:Value}(h1:∀cs,a≠ .agg cs)(h2:a≠ .nilIface):
  (eqGuard op t x y a b).run P w=.ok () w:=by
 unfold eqGuard
 cases a<;>first
  |exact absurd rfl h2
  |exact absurd rfl (h1 _)
  |(simp only[];split<;>rfl)
end AM
