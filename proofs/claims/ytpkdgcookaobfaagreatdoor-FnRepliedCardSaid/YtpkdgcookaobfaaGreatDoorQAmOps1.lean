/- THE ABSTRACT MACHINE: the operations that make a value and leave the world alone. -/
import Derived.Test.YtpkdgcookaobfaaGreatDoorQAmSim
import Derived.Laws.Closers25b
import Derived.Deep.MidRow
namespace AM
set_option linter.unusedVariables false
open Go
variable{U:lz}{E:Env U}{pm:Pm}
theorem j0{tb:rl U}{ks:List Key}{k:Key}{e:iN U}(h:restrict tb ks k=some e):tb k=some e:=by
 unfold restrict at h
 cases hk:ks.any (iR k)<;>simp only[hk,cond_false,cond_true] at h
 ·cases h
 ·exact h
theorem akR{α:Type}{l:List (Option α)}(h:D7 l=some []):l=[]:=by
 cases l with
 |nil=>rfl
 |cons a r=>cases a with
  |none=>simp[D7] at h
  |some x=>simp only[D7] at h;split at h<;>cases h
theorem akS{α:Type}{l:List (Option α)}{x:α}{r:List α}(h:D7 l=some (x::r)):∃l',l=some x::l'/\D7 l'=some r:=by
 cases l with
 |nil=>cases h
 |cons a l'=>cases a with
  |none=>simp[D7] at h
  |some y=>
   simp only[D7] at h
   split at h
   ·rename_i r' hr;cases h;exact⟨l',rfl,hr⟩
   ·cases h
theorem acT{α β:Type}{f:α->Option β}:∀{l:List α}{xs:List β},D7 (l.map f)=some xs->xs.length=l.length/\∀(i:Nat)(a:α),l[i]? =some a->∃x,xs[i]? =some x/\f a=some x
 |[],xs,h=>by simp only[List.map_nil,D7,gA] at h;subst h;simp
 |a::l,xs,h=>by
  simp only[wh] at h
  cases xs with
  |nil=>have:=akR h;simp at this
  |cons x xs=>
   obtain⟨l',h1,h2⟩:=akS h
   simp only[zdd] at h1
   obtain⟨h1,rfl⟩:=h1
   obtain⟨h3,h4⟩:=acT h2
   refine⟨by simp[h3],fun i b hb=> ?_⟩
   cases i with
   |zero=>simp only[vn,gA] at hb;subst hb;exact⟨x,by simp,h1⟩
   |succ i=>simpa using h4 i b (by simpa using hb)
section reps
variable{w:World}{F:Nat->Prop}{kv:Key->Value}{fp:Key->List Nat}{bad:Key->Bool}
theorem xp{v:Value}(h:gr v):RD E w F kv fp bad (.c (.lit v)) v:=⟨h,.inr (.lit _ v h)⟩
theorem AI{x:AC U}{v:Value}(h:RD E w F kv fp bad x v):RV E w F kv fp bad ⟨false,[x]⟩ v:=
 ⟨[v],⟨rfl,fun i y u hy hu=>by
  cases i with
  |zero=>simp only[vn,gA] at hy hu;subst hy hu;exact h
  |succ i=>simp at hy⟩,by simp⟩
theorem iu{x:AC U}{v:Value}(h:RD E w F kv fp bad x v):RS E w F kv fp bad (one x) v:=AI h
theorem nc{v:Value}(h:gr v):RS E w F kv fp bad (wk v) v:=iu (xp h)
theorem HT{x:AC U}{v:Value}(h:RV E w F kv fp bad ⟨false,[x]⟩ v):RD E w F kv fp bad x v:=by
 obtain⟨vs,h1,h2⟩:=h
 simp at h2
 subst h2
 exact h1.2 0 x v rfl rfl
theorem aao{x:AC U}{v:Value}(h:RS E w F kv fp bad (one x) v):RD E w F kv fp bad x v:=HT h
theorem aap{u v:Value}(h:RD E w F kv fp bad (.c (.lit u)) v):v=u:=by
 rcases h.2 with h|h
 ·simp[iJ] at h
 ·simp only[RA] at h
  generalize hm:false=m at h
  generalize hc:(Cell.lit u:U.C)=c at h
  cases h with
  |lit=>cases hc;rfl
  |nil=>cases hc
  |shr=>cases hc
theorem zT {x:SV U} {u:Value} (h:iZ x=some u):x=wk u:=by
 unfold iZ at h
 split at h
 ·cases h;rfl
 ·cases h
theorem qp{x:SV U}{u v:Value}(h:RS E w F kv fp bad x v)(hl:iZ x=some u):v=u:=by
 rw[zT hl] at h
 exact aap (aao h)
theorem L0 {x:SV U} {y:AC U} (h:vd x=some y):x=one y:=by
 unfold vd at h
 split at h
 ·cases h;rfl
 ·cases h
theorem Ua{x:AC U}{v:Value}(h:RD E w F kv fp bad x v)(hb:iJ bad x=false):RA E w F kv fp x v:=by
 rcases h.2 with h|h
 ·rw[hb] at h;cases h
 ·exact h
theorem Rr{x:SV U}{u v:Value}(h:RS E w F kv fp bad x v)(hl:iZ x=some u):gr u:=by
 rw[zT hl] at h
 exact(Ua (aao h) rfl:Rp E w F false (.lit u) v []).EB
theorem li{x:SV U}{y:AC U}{v:Value}(h:RS E w F kv fp bad x v)(hl:vd x=some y):RD E w F kv fp bad y v:=by
 rw[L0 hl] at h
 exact aao h
theorem adE{v:Value}{x:AC U}(h:pC v=some x):RD E w F kv fp bad x v:=by
 unfold pC at h
 split at h
 ·cases h;exact⟨⟨rfl,trivial⟩,.inr ⟨none,rfl⟩⟩
 ·cases h;exact xp ⟨rfl,trivial⟩
 ·rename_i k n
  rw[im] at h
  split at h
  ·rename_i hc
   cases h
   simp only[cJ,decide_eq_true_eq] at hc
   exact xp ⟨rfl,hc⟩
  ·cases h
 ·cases h;exact xp ⟨rfl,trivial⟩
 ·rename_i s
  rw[im] at h
  split at h
  ·rename_i hc
   cases h
   exact xp ⟨rfl,by simpa using hc⟩
  ·cases h
 ·cases h
theorem Vi:∀{vs:List Value}{xs:List (AC U)},jN vs=some xs->mc E w F kv fp bad xs vs
 |[],xs,h=>by cases h;exact⟨rfl,fun i x v hx=>by simp at hx⟩
 |v::vs,xs,h=>by
  simp only[jN] at h
  split at h
  ·rename_i x l hx hl
   cases h
   have ih:=Vi hl
   refine⟨by simp[ih.1],fun i y u hy hu=> ?_⟩
   cases i with
   |zero=>simp only[vn,gA] at hy hu;subst hy hu;exact adE hx
   |succ i=>exact ih.2 i y u (by simpa using hy) (by simpa using hu)
  ·cases h
theorem amu{cs:Array Value}{x:SV U}(h:sd cs=some x):RS E w F kv fp bad x (.agg cs):=by
 unfold sd at h
 split at h
 ·rename_i l hl;cases h;exact⟨cs.toList,Vi hl,by simp⟩
 ·cases h
theorem amt{v:Value}{x:SV U}(h:IA v=some x):RS E w F kv fp bad x v:=by
 unfold IA at h
 split at h
 ·exact amu h
 ·split at h
  ·rename_i hx;cases h;exact iu (adE hx)
  ·cases h
end reps
theorem Eh{F:Nat->Prop}{kv:Key->Value}{fp:Key->List Nat}{σ:ak U}{a:Act}{w:World}(h:cM E pm F kv fp σ a w){x:Operand}{sv:SV U}
  (hx:MV σ x=some sv):RS E w F kv fp (bW σ) sv (a.eval x):=by
 cases x with
 |tmp t=>exact h.bM t sv hx
 |const v=>exact amt hx
 |global g=>cases hx
 |func f=>cases hx;exact⟨[],rfl,rfl,fun i x u h=>by simp at h⟩
theorem cM.val{F:Nat->Prop}{kv:Key->Value}{fp:Key->List Nat}{σ:ak U}{a:Act}{w:World}(h:cM E pm F kv fp σ a w)(o:Oper)(sv:Option (SV U))(ps:List Prop)(v:Value)
  (hd:∀d,o.dst=some d->d<σ.n) (hv:∀x,sv=some x->RS E w F kv fp (bW σ) x v):
  cM E pm F kv fp (AM.apply o ⟨sv,[],[],[],ps⟩ σ) (a.put o.dst v) w:=by
 have hb:bW (AM.apply o ⟨sv,[],[],[],ps⟩ σ)=bW σ:=rfl
 refine h.apply (F':=F) (kv':=kv) (fp':=fp) (w':=w) o _ v hd ?_ (fun _ _=>rfl) (fun _ _ _=>rfl) ?_ (fun b hb=>⟨hb,rfl⟩) (fun _ _ _ _ _ _ _ _=>rfl) ?_ ?_ ?_ h.uk h.uj h.upto (tX _)
 ·intro x hx;rw[hb];exact hv x hx
 ·intro k hk;simp[dR] at hk
 ·intro k e hk;simp at hk
 ·intro k e b _ _ _ he hbb;exact(h.fQ k e b he hbb).1
 ·intro k k' b _ hk;simp[dR,jQ] at hk
theorem qi.same{w w':World}{kv:Key->Value}{fp:Key->List Nat}{bad:Key->Bool}{k:Key}(h:∀b:Nat,w'.heap[b]? =w.heap[b]?):qi w w' kv kv fp fp bad bad k:=by
 refine⟨rfl,?_⟩
 cases hb:bad k
 ·exact .inr ⟨rfl,rfl,fun b _=>h b⟩
 ·exact .inl rfl
theorem cM.drew{F:Nat->Prop}{kv:Key->Value}{fp:Key->List Nat}{σ:ak U}{a:Act}{w:World}(h:cM E pm F kv fp σ a w):cM E pm F kv fp σ a w.drew:=by
 refine⟨h.size,h.defers,fun s x hs=>(h.bM s x hs).move (fun k _=>qi.same fun _=>rfl) (fun b hb=>⟨hb,rfl⟩),fun k e he=> ?_,h.apart,h.nodup,h.fQ,h.uk,h.uj,⟨h.upto.os,h.upto.tape,h.upto.output,h.upto.size,h.upto.block⟩,h.N0,h.lay.gg fun b hb=>⟨hb,rfl⟩⟩
 have h0:=h.dH k e he
 cases e with
 |arr x deep=>exact e7.gg h0 (fun b hb=>⟨hb,rfl⟩) (fun _ _=>rfl)
 |part x dead=>exact eE.gg h0 (fun b hb=>⟨hb,rfl⟩) (fun _ _=>rfl)
 |box cs=>
  obtain⟨b,cur,e',h1,h2,h3,h4⟩:=h0
  exact⟨b,cur,e',h1,h2,h3,h4.move (fun x _ k _=>qi.same fun _=>rfl) (fun b hb=>⟨hb,rfl⟩)⟩
theorem sQ{P:Program}{o:Oper}{a:Act}{w w':World}{v:Value}{K:Act->World->Prop}{Q:Exit->Act->World->Prop}
  (hr:(execOp a.eval o).run P w=.ok (.value v) w') (hk:K (a.put o.dst v) w'):o.wp P a w K Q:=by
 unfold Oper.wp;rw[hr];exact hk
theorem Rg{P:Program}{o:Oper}{a:Act}{w w':World}{K:Act->World->Prop}{Q:Exit->Act->World->Prop}
  (hr:(execOp a.eval o).run P w=.ok .skip w') (hk:K (a.put o.dst undef) w'):o.wp P a w K Q:=by
 unfold Oper.wp;rw[hr];exact hk
theorem iD{P:Program}{w w':World}{v:Value}{s:Sem Value}(h:s.run P w=.ok v w'):(do pure (Next.value (<-s)):Sem Next).run P w=.ok (.value v) w':=by
 rw[Sem.run_bind,h];rfl
theorem alQ{P:Program}{w:World}{op:UnOp}{x v:Value}(h:KZ op x=some v):(Op.unary op x).run P w=.ok v w/\gr v:=by
 unfold KZ at h
 split at h<;>cases h
 ·exact⟨by simp[Op.unary,Op.intArith],rfl,wrap_within _ _⟩
 ·exact⟨by simp[Op.unary],rfl,trivial⟩
theorem ame{P:Program}{w:World}{op:BinOp}{t:TypeId}{x y:Operand}{a b:Value}(h1:∀cs,a≠ .agg cs)(h2:a≠ .nilIface):
  (eqGuard op t x y a b).run P w=.ok () w:=by
 unfold eqGuard
 cases a<;>first
  |exact absurd rfl h2
  |exact absurd rfl (h1 _)
  |(simp only[];split<;>rfl)
end AM
