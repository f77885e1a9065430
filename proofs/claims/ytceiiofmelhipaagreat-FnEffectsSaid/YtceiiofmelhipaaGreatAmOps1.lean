/- THE ABSTRACT MACHINE: the operations that make a value and leave the world alone. -/
import Derived.Test.YtceiiofmelhipaaGreatAmSim
import Derived.Laws.Closers25b
import Derived.Deep.MidRow
namespace AM
set_option linter.unusedVariables false
open Go
variable{U:Uni}{E:Env U}{pm:Pm}
theorem qald{tb:Tab U}{ks:List Key}{k:Key}{e:Ent U}(h:restrict tb ks k=some e):tb k=some e:=by
 unfold restrict at h
 cases hk:ks.any (keq k)<;>simp only[hk,cond_false,cond_true] at h
 ·cases h
 ·exact h
theorem qals{α:Type}{l:List (Option α)}(h:seqO l=some []):l=[]:=by
 cases l with
 |nil=>rfl
 |cons a r=>cases a with
  |none=>simp[seqO] at h
  |some x=>simp only[seqO] at h;split at h<;>cases h
theorem qalq{α:Type}{l:List (Option α)}{x:α}{r:List α}(h:seqO l=some (x::r)):∃l',l=some x::l'∧seqO l'=some r:=by
 cases l with
 |nil=>cases h
 |cons a l'=>cases a with
  |none=>simp[seqO] at h
  |some y=>
   simp only[seqO] at h
   split at h
   ·rename_i r' hr;cases h;exact⟨l',rfl,hr⟩
   ·cases h
theorem qalr{α β:Type}{f:α→Option β}:∀{l:List α}{xs:List β},seqO (l.map f)=some xs→xs.length=l.length∧∀(i:Nat)(a:α),l[i]? =some a→∃x,xs[i]? =some x∧f a=some x
 |[],xs,h=>by simp only[List.map_nil,seqO,zae] at h;subst h;simp
 |a::l,xs,h=>by
  simp only[zbt] at h
  cases xs with
  |nil=>have:=qals h;simp at this
  |cons x xs=>
   obtain⟨l',h1,h2⟩:=qalq h
   simp only[zdd] at h1
   obtain⟨h1,rfl⟩:=h1
   obtain⟨h3,h4⟩:=qalr h2
   refine⟨by simp[h3],fun i b hb=> ?_⟩
   cases i with
   |zero=>simp only[zam,zae] at hb;subst hb;exact⟨x,by simp,h1⟩
   |succ i=>simpa using h4 i b (by simpa using hb)
section reps
variable{w:World}{F:Nat→Prop}{kv:Key→Value}{fp:Key→List Nat}{bad:Key→Bool}
theorem RD_lit{v:Value}(h:LitOk v):RD E w F kv fp bad (.c (.lit v)) v:=⟨h,.inr (.lit _ v h)⟩
theorem RV_one{x:AC U}{v:Value}(h:RD E w F kv fp bad x v):RV E w F kv fp bad ⟨false,[x]⟩ v:=
 ⟨[v],⟨rfl,fun i y u hy hu=>by
  cases i with
  |zero=>simp only[zam,zae] at hy hu;subst hy hu;exact h
  |succ i=>simp at hy⟩,by simp⟩
theorem RS_one{x:AC U}{v:Value}(h:RD E w F kv fp bad x v):RS E w F kv fp bad (one x) v:=RV_one h
theorem RS_lit{v:Value}(h:LitOk v):RS E w F kv fp bad (litV v) v:=RS_one (RD_lit h)
theorem qaak{x:AC U}{v:Value}(h:RV E w F kv fp bad ⟨false,[x]⟩ v):RD E w F kv fp bad x v:=by
 obtain⟨vs,h1,h2⟩:=h
 simp at h2
 subst h2
 exact h1.2 0 x v rfl rfl
theorem qaai{x:AC U}{v:Value}(h:RS E w F kv fp bad (one x) v):RD E w F kv fp bad x v:=qaak h
theorem qaac{u v:Value}(h:RD E w F kv fp bad (.c (.lit u)) v):v=u:=by
 rcases h.2 with h|h
 ·simp[badAC] at h
 ·simp only[RA] at h
  generalize hm:false=m at h
  generalize hc:(Cell.lit u:U.C)=c at h
  cases h with
  |lit=>cases hc;rfl
  |nil=>cases hc
  |shr=>cases hc
theorem lit?_some {x:SV U} {u:Value} (h:lit? x=some u):x=litV u:=by
 unfold lit? at h
 split at h
 ·cases h;rfl
 ·cases h
theorem qaah{x:SV U}{u v:Value}(h:RS E w F kv fp bad x v)(hl:lit? x=some u):v=u:=by
 rw[lit?_some hl] at h
 exact qaac (qaai h)
theorem ac?_some {x:SV U} {y:AC U} (h:ac? x=some y):x=one y:=by
 unfold ac? at h
 split at h
 ·cases h;rfl
 ·cases h
theorem RA_of0{x:AC U}{v:Value}(h:RD E w F kv fp bad x v)(hb:badAC bad x=false):RA E w F kv fp x v:=by
 rcases h.2 with h|h
 ·rw[hb] at h;cases h
 ·exact h
theorem qaag{x:SV U}{u v:Value}(h:RS E w F kv fp bad x v)(hl:lit? x=some u):LitOk u:=by
 rw[lit?_some hl] at h
 exact(RA_of0 (qaai h) rfl:Rp E w F false (.lit u) v []).litOk
theorem qaaf{x:SV U}{y:AC U}{v:Value}(h:RS E w F kv fp bad x v)(hl:ac? x=some y):RD E w F kv fp bad y v:=by
 rw[ac?_some hl] at h
 exact qaai h
theorem qacs{v:Value}{x:AC U}(h:constCell v=some x):RD E w F kv fp bad x v:=by
 unfold constCell at h
 split at h
 ·cases h;exact⟨⟨rfl,trivial⟩,.inr ⟨none,rfl⟩⟩
 ·cases h;exact RD_lit ⟨rfl,trivial⟩
 ·rename_i k n
  rw[zah] at h
  split at h
  ·rename_i hc
   cases h
   simp only[zaf,decide_eq_true_eq] at hc
   exact RD_lit ⟨rfl,hc⟩
  ·cases h
 ·cases h;exact RD_lit ⟨rfl,trivial⟩
 ·rename_i s
  rw[zah] at h
  split at h
  ·rename_i hc
   cases h
   exact RD_lit ⟨rfl,by simpa using hc⟩
  ·cases h
 ·cases h
theorem qact:∀{vs:List Value}{xs:List (AC U)},constCells vs=some xs→RDs E w F kv fp bad xs vs
 |[],xs,h=>by cases h;exact⟨rfl,fun i x v hx=>by simp at hx⟩
 |v::vs,xs,h=>by
  simp only[constCells] at h
  split at h
  ·rename_i x l hx hl
   cases h
   have ih:=qact hl
   refine⟨by simp[ih.1],fun i y u hy hu=> ?_⟩
   cases i with
   |zero=>simp only[zam,zae] at hy hu;subst hy hu;exact qacs hx
   |succ i=>exact ih.2 i y u (by simpa using hy) (by simpa using hu)
  ·cases h
theorem qacr{cs:Array Value}{x:SV U}(h:constAgg cs=some x):RS E w F kv fp bad x (.agg cs):=by
 unfold constAgg at h
 split at h
 ·rename_i l hl;cases h;exact⟨cs.toList,qact hl,by simp⟩
 ·cases h
theorem qacu{v:Value}{x:SV U}(h:constV v=some x):RS E w F kv fp bad x v:=by
 unfold constV at h
 split at h
 ·exact qacr h
 ·split at h
  ·rename_i hx;cases h;exact RS_one (qacs hx)
  ·cases h
end reps
theorem qajo{F:Nat→Prop}{kv:Key→Value}{fp:Key→List Nat}{σ:AState U}{a:Act}{w:World}(h:Sim E pm F kv fp σ a w){x:Operand}{sv:SV U}
  (hx:opd σ x=some sv):RS E w F kv fp (badK σ) sv (a.eval x):=by
 cases x with
 |tmp t=>exact h.slots t sv hx
 |const v=>exact qacu hx
 |global g=>cases hx
 |func f=>cases hx;exact⟨[],rfl,rfl,fun i x u h=>by simp at h⟩
theorem Sim.val{F:Nat→Prop}{kv:Key→Value}{fp:Key→List Nat}{σ:AState U}{a:Act}{w:World}(h:Sim E pm F kv fp σ a w)(o:Oper)(sv:Option (SV U))(ps:List Prop)(v:Value)
  (hd:∀d,o.dst=some d→d<σ.n) (hv:∀x,sv=some x→RS E w F kv fp (badK σ) x v):
  Sim E pm F kv fp (AM.apply o ⟨sv,[],[],[],ps⟩ σ) (a.put o.dst v) w:=by
 have hb:badK (AM.apply o ⟨sv,[],[],[],ps⟩ σ)=badK σ:=rfl
 refine h.apply (F':=F) (kv':=kv) (fp':=fp) (w':=w) o _ v hd ?_ (fun _ _=>rfl) (fun _ _ _=>rfl) ?_ (fun b hb=>⟨hb,rfl⟩) (fun _ _ _ _ _ _ _ _=>rfl) ?_ ?_ ?_ h.Flt h.Fsub h.upto (zca _)
 ·intro x hx;rw[hb];exact hv x hx
 ·intro k hk;simp[adds] at hk
 ·intro k e hk;simp at hk
 ·intro k e b _ _ _ he hbb;exact(h.mine k e b he hbb).1
 ·intro k k' b _ hk;simp[adds,upds] at hk
theorem Stays.same{w w':World}{kv:Key→Value}{fp:Key→List Nat}{bad:Key→Bool}{k:Key}(h:∀b:Nat,w'.heap[b]? =w.heap[b]?):Stays w w' kv kv fp fp bad bad k:=by
 refine⟨rfl,?_⟩
 cases hb:bad k
 ·exact .inr ⟨rfl,rfl,fun b _=>h b⟩
 ·exact .inl rfl
theorem Sim.drew{F:Nat→Prop}{kv:Key→Value}{fp:Key→List Nat}{σ:AState U}{a:Act}{w:World}(h:Sim E pm F kv fp σ a w):Sim E pm F kv fp σ a w.drew:=by
 refine⟨h.size,h.defers,fun s x hs=>(h.slots s x hs).move (fun k _=>Stays.same fun _=>rfl) (fun b hb=>⟨hb,rfl⟩),fun k e he=> ?_,h.apart,h.nodup,h.mine,h.Flt,h.Fsub,⟨h.upto.os,h.upto.tape,h.upto.output,h.upto.size,h.upto.block⟩,h.pin,h.lay.keep fun b hb=>⟨hb,rfl⟩⟩
 have h0:=h.ents k e he
 cases e with
 |arr x deep=>exact ROwn.keep h0 (fun b hb=>⟨hb,rfl⟩) (fun _ _=>rfl)
 |part x dead=>exact ROwnP.keep h0 (fun b hb=>⟨hb,rfl⟩) (fun _ _=>rfl)
 |box cs=>
  obtain⟨b,cur,e',h1,h2,h3,h4⟩:=h0
  exact⟨b,cur,e',h1,h2,h3,h4.move (fun x _ k _=>Stays.same fun _=>rfl) (fun b hb=>⟨hb,rfl⟩)⟩
theorem qanv{P:Program}{o:Oper}{a:Act}{w w':World}{v:Value}{K:Act→World→Prop}{Q:Exit→Act→World→Prop}
  (hr:(execOp a.eval o).run P w=.ok (.value v) w') (hk:K (a.put o.dst v) w'):o.wp P a w K Q:=by
 unfold Oper.wp;rw[hr];exact hk
theorem qant{P:Program}{o:Oper}{a:Act}{w w':World}{K:Act→World→Prop}{Q:Exit→Act→World→Prop}
  (hr:(execOp a.eval o).run P w=.ok .skip w') (hk:K (a.put o.dst undef) w'):o.wp P a w K Q:=by
 unfold Oper.wp;rw[hr];exact hk
theorem run_v{P:Program}{w w':World}{v:Value}{s:Sem Value}(h:s.run P w=.ok v w'):(do pure (Next.value (←s)):Sem Next).run P w=.ok (.value v) w':=by
 rw[Sem.run_bind,h];rfl
theorem qagr{P:Program}{w:World}{op:UnOp}{x v:Value}(h:litUn op x=some v):(Op.unary op x).run P w=.ok v w∧LitOk v:=by
 unfold litUn at h
 split at h<;>cases h
 ·exact⟨by simp[Op.unary,Op.intArith],rfl,wrap_within _ _⟩
 ·exact⟨by simp[Op.unary],rfl,trivial⟩
theorem qadz{P:Program}{w:World}{op:BinOp}{t:TypeId}{x y:Operand}{a b:Value}(h1:∀cs,a≠ .agg cs)(h2:a≠ .nilIface):
  (eqGuard op t x y a b).run P w=.ok () w:=by
 unfold eqGuard
 cases a<;>first
  |exact absurd rfl h2
  |exact absurd rfl (h1 _)
  |(simp only[];split<;>rfl)
end AM
