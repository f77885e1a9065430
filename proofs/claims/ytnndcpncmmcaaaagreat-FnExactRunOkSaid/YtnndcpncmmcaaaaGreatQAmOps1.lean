import Derived.Test.YtnndcpncmmcaaaaGreatQAmSim
import Derived.Laws.Closers25b
import Derived.Deep.MidRow
namespace AM
set_option linter.unusedVariables false
open Go
variable{U:jO}{E:Env U}{pm:Pm}
theorem fA{tb:mG U}{ks:List Key}{k:Key}{e:eX U}(h:restrict tb ks k=some e):tb k=some e:=by
 unfold restrict at h
 cases hk:ks.any (fU k)<;>simp only[hk,cond_false,cond_true] at h
 ·cases h
 ·exact h
theorem amC{α:Type}{l:List (Option α)}(h:CK l=some []):l=[]:=by
 cases l with
 |nil=>rfl
 |cons a r=>cases a with
  |none=>simp[CK] at h
  |some x=>simp only[CK] at h;split at h<;>cases h
theorem amD{α:Type}{l:List (Option α)}{x:α}{r:List α}(h:CK l=some (x::r)):∃l',l=some x::l'/\CK l'=some r:=by
 cases l with
 |nil=>cases h
 |cons a l'=>cases a with
  |none=>simp[CK] at h
  |some y=>
   simp only[CK] at h
   split at h
   ·rename_i r' hr;cases h;exact⟨l',rfl,hr⟩
   ·cases h
theorem adf{α β:Type}{f:α->Option β}:∀{l:List α}{xs:List β},CK (l.map f)=some xs->xs.length=l.length/\∀(i:Nat)(a:α),l[i]? =some a->∃x,xs[i]? =some x/\f a=some x
 |[],xs,h=>by simp only[List.map_nil,CK,eZ] at h;subst h;simp
 |a::l,xs,h=>by
  simp only[rl] at h
  cases xs with
  |nil=>have:=amC h;simp at this
  |cons x xs=>
   obtain⟨l',h1,h2⟩:=amD h
   simp only[zdd] at h1
   obtain⟨h1,rfl⟩:=h1
   obtain⟨h3,h4⟩:=adf h2
   refine⟨by simp[h3],fun i b hb=> ?_⟩
   cases i with
   |zero=>simp only[sT,eZ] at hb;subst hb;exact⟨x,by simp,h1⟩
   |succ i=>simpa using h4 i b (by simpa using hb)
section reps
variable{w:World}{F:Nat->Prop}{kv:Key->Value}{fp:Key->List Nat}{bad:Key->Bool}
theorem wh{v:Value}(h:fu v):RD E w F kv fp bad (.c (.lit v)) v:=⟨h,.inr (.lit _ v h)⟩
theorem zD{x:AC U}{v:Value}(h:RD E w F kv fp bad x v):RV E w F kv fp bad ⟨false,[x]⟩ v:=
 ⟨[v],⟨rfl,fun i y u hy hu=>by
  cases i with
  |zero=>simp only[sT,eZ] at hy hu;subst hy hu;exact h
  |succ i=>simp at hy⟩,by simp⟩
theorem fT{x:AC U}{v:Value}(h:RD E w F kv fp bad x v):RS E w F kv fp bad (one x) v:=zD h
theorem mB{v:Value}(h:fu v):RS E w F kv fp bad (uX v) v:=fT (wh h)
theorem F_{x:AC U}{v:Value}(h:RV E w F kv fp bad ⟨false,[x]⟩ v):RD E w F kv fp bad x v:=by
 obtain⟨vs,h1,h2⟩:=h
 simp at h2
 subst h2
 exact h1.2 0 x v rfl rfl
theorem aad{x:AC U}{v:Value}(h:RS E w F kv fp bad (one x) v):RD E w F kv fp bad x v:=F_ h
theorem aae{u v:Value}(h:RD E w F kv fp bad (.c (.lit u)) v):v=u:=by
 rcases h.2 with h|h
 ·simp[gg] at h
 ·simp only[RA] at h
  generalize hm:false=m at h
  generalize hc:(Cell.lit u:U.C)=c at h
  cases h with
  |lit=>cases hc;rfl
  |nil=>cases hc
  |shr=>cases hc
theorem y9 {x:SV U} {u:Value} (h:ie x=some u):x=uX u:=by
 unfold ie at h
 split at h
 ·cases h;rfl
 ·cases h
theorem pD{x:SV U}{u v:Value}(h:RS E w F kv fp bad x v)(hl:ie x=some u):v=u:=by
 rw[y9 hl] at h
 exact aae (aad h)
theorem tS {x:SV U} {y:AC U} (h:sd x=some y):x=one y:=by
 unfold sd at h
 split at h
 ·cases h;rfl
 ·cases h
theorem Rk{x:AC U}{v:Value}(h:RD E w F kv fp bad x v)(hb:gg bad x=false):RA E w F kv fp x v:=by
 rcases h.2 with h|h
 ·rw[hb] at h;cases h
 ·exact h
theorem OX{x:SV U}{u v:Value}(h:RS E w F kv fp bad x v)(hl:ie x=some u):fu u:=by
 rw[y9 hl] at h
 exact(Rk (aad h) rfl:Rp E w F false (.lit u) v []).C7
theorem bD{x:SV U}{y:AC U}{v:Value}(h:RS E w F kv fp bad x v)(hl:sd x=some y):RD E w F kv fp bad y v:=by
 rw[tS hl] at h
 exact aad h
theorem ad3{v:Value}{x:AC U}(h:oD v=some x):RD E w F kv fp bad x v:=by
 unfold oD at h
 split at h
 ·cases h;exact⟨⟨rfl,trivial⟩,.inr ⟨none,rfl⟩⟩
 ·cases h;exact wh ⟨rfl,trivial⟩
 ·rename_i k n
  rw[fc] at h
  split at h
  ·rename_i hc
   cases h
   simp only[fY,decide_eq_true_eq] at hc
   exact wh ⟨rfl,hc⟩
  ·cases h
 ·cases h;exact wh ⟨rfl,trivial⟩
 ·rename_i s
  rw[fc] at h
  split at h
  ·rename_i hc
   cases h
   exact wh ⟨rfl,by simpa using hc⟩
  ·cases h
 ·cases h
theorem Si:∀{vs:List Value}{xs:List (AC U)},iW vs=some xs->kS E w F kv fp bad xs vs
 |[],xs,h=>by cases h;exact⟨rfl,fun i x v hx=>by simp at hx⟩
 |v::vs,xs,h=>by
  simp only[iW] at h
  split at h
  ·rename_i x l hx hl
   cases h
   have ih:=Si hl
   refine⟨by simp[ih.1],fun i y u hy hu=> ?_⟩
   cases i with
   |zero=>simp only[sT,eZ] at hy hu;subst hy hu;exact ad3 hx
   |succ i=>exact ih.2 i y u (by simpa using hy) (by simpa using hu)
  ·cases h
theorem aox{cs:Array Value}{x:SV U}(h:rb cs=some x):RS E w F kv fp bad x (.agg cs):=by
 unfold rb at h
 split at h
 ·rename_i l hl;cases h;exact⟨cs.toList,Si hl,by simp⟩
 ·cases h
theorem aow{v:Value}{x:SV U}(h:GR v=some x):RS E w F kv fp bad x v:=by
 unfold GR at h
 split at h
 ·exact aox h
 ·split at h
  ·rename_i hx;cases h;exact fT (ad3 hx)
  ·cases h
end reps
theorem CT{F:Nat->Prop}{kv:Key->Value}{fp:Key->List Nat}{σ:ah U}{a:Act}{w:World}(h:cd E pm F kv fp σ a w){x:Operand}{sv:SV U}
  (hx:Ku σ x=some sv):RS E w F kv fp (aZ σ) sv (a.eval x):=by
 cases x with
 |tmp t=>exact h.bw t sv hx
 |const v=>exact aow hx
 |global g=>cases hx
 |func f=>cases hx;exact⟨[],rfl,rfl,fun i x u h=>by simp at h⟩
theorem cd.val{F:Nat->Prop}{kv:Key->Value}{fp:Key->List Nat}{σ:ah U}{a:Act}{w:World}(h:cd E pm F kv fp σ a w)(o:Oper)(sv:Option (SV U))(ps:List Prop)(v:Value)
  (hd:∀d,o.dst=some d->d<σ.n) (hv:∀x,sv=some x->RS E w F kv fp (aZ σ) x v):
  cd E pm F kv fp (AM.apply o ⟨sv,[],[],[],ps,[]⟩ σ) (a.put o.dst v) w:=by
 have hb:aZ (AM.apply o ⟨sv,[],[],[],ps,[]⟩ σ)=aZ σ:=rfl
 refine h.apply (F':=F) (kv':=kv) (fp':=fp) (w':=w) o _ v hd ?_ (fun _ _=>rfl) (fun _ _ _=>rfl) ?_ (fun b hb=>⟨hb,rfl⟩) (fun _ _ _ _ _ _ _ _=>rfl) ?_ ?_ ?_ h.lT h.ny h.upto (og _) (fun _ hk=>absurd hk rh) (fun k e hk=>by simp at hk)
 ·intro x hx;rw[hb];exact hv x hx
 ·intro k hk;simp[ct] at hk
 ·intro k e hk;simp at hk
 ·intro k e b _ _ _ he hbb;exact(h.cU k e b he hbb).1
 ·intro k k' b _ hk;simp[ct,fM] at hk
theorem mz.same{w w':World}{kv:Key->Value}{fp:Key->List Nat}{bad:Key->Bool}{k:Key}(h:∀b:Nat,w'.heap[b]? =w.heap[b]?):mz w w' kv kv fp fp bad bad k:=by
 refine⟨rfl,?_⟩
 cases hb:bad k
 ·exact .inr ⟨rfl,rfl,fun b _=> .of (h b)⟩
 ·exact .inl rfl
theorem cd.drew{F:Nat->Prop}{kv:Key->Value}{fp:Key->List Nat}{σ:ah U}{a:Act}{w:World}(h:cd E pm F kv fp σ a w):cd E pm F kv fp σ a w.drew:=by
 refine⟨h.size,h.defers,fun s x hs=>(h.bw s x hs).move (fun k _=>mz.same fun _=>rfl) (fun b hb=>⟨hb,rfl⟩),fun k e he=> ?_,h.apart,h.nodup,h.cU,h.lT,h.ny,⟨h.upto.os,h.upto.tape,h.upto.output,h.upto.size,h.upto.block,Nat.le_succ_of_le h.upto.drawn⟩,h.HW,h.lay.cI fun b hb=>⟨hb,rfl⟩,h.bQ.imp fun tk ht=>ht.cI (fun k e he _=>⟨he,rfl,rfl,fun _ _=>rfl⟩) (fun b hb=>⟨hb,rfl⟩)⟩
 have h0:=h.cT k e he
 cases e with
 |arr x deep=>exact cF.cI h0 (fun b hb=>⟨hb,rfl⟩) (fun _ _=>rfl)
 |part x dead=>exact cM.cI h0 (fun b hb=>⟨hb,rfl⟩) (fun _ _=>rfl)
 |box cs=>
  obtain⟨b,cur,e',h1,h2,h3,h4⟩:=h0
  exact⟨b,cur,e',h1,h2,h3,h4.move (fun x _ k _=>mz.same fun _=>rfl) (fun b hb=>⟨hb,rfl⟩)⟩
 |nA x i y=>
  obtain⟨h1,h2,h3,b,n,c,u,h4,h5,h6,h7⟩:=h0
  exact⟨cM.cI h1 (fun b hb=>⟨hb,rfl⟩) (fun _ _=>rfl),h2,h3,b,n,c,u,h4,h5,h6,h7.move (fun k _=>mz.same fun _=>rfl) (fun b hb=>⟨hb,rfl⟩)⟩
 |li x=>trivial
 |Dw x i=>trivial
 |fz x=>trivial
theorem pC{P:Program}{o:Oper}{a:Act}{w w':World}{v:Value}{K:Act->World->Prop}{Q:Exit->Act->World->Prop}
  (hr:(execOp a.eval o).run P w=.ok (.value v) w') (hk:K (a.put o.dst v) w'):o.wp P a w K Q:=by
 unfold Oper.wp;rw[hr];exact hk
theorem MP{P:Program}{o:Oper}{a:Act}{w w':World}{K:Act->World->Prop}{Q:Exit->Act->World->Prop}
  (hr:(execOp a.eval o).run P w=.ok .skip w') (hk:K (a.put o.dst undef) w'):o.wp P a w K Q:=by
 unfold Oper.wp;rw[hr];exact hk
theorem gF{P:Program}{w w':World}{v:Value}{s:Sem Value}(h:s.run P w=.ok v w'):(do pure (Next.value (<-s)):Sem Next).run P w=.ok (.value v) w':=by
 rw[Sem.run_bind,h];rfl
theorem anQ{P:Program}{w:World}{op:UnOp}{x v:Value}(h:IC op x=some v):(Op.unary op x).run P w=.ok v w/\fu v:=by
 unfold IC at h
 split at h<;>cases h
 ·exact⟨by simp[Op.unary,Op.intArith],rfl,wrap_within _ _⟩
 ·exact⟨by simp[Op.unary],rfl,trivial⟩
theorem aoi{P:Program}{w:World}{op:BinOp}{t:TypeId}{x y:Operand}{a b:Value}(h1:∀cs,a≠ .agg cs)(h2:a≠ .nilIface):
  (eqGuard op t x y a b).run P w=.ok () w:=by
 unfold eqGuard
 cases a<;>first
  |exact absurd rfl h2
  |exact absurd rfl (h1 _)
  |(simp only[];split<;>rfl)
end AM
