import Derived.Test.YtnndcpncmmcaaaaGreatQAmCore
namespace AM
set_option linter.unusedVariables false
open Go
variable{U:jO}(E:Env U)
def fu(v:Value):Prop:=v.oneCell'=true/\match v with
 | .int k n=>k.min<=n/\n<=k.max
 | .string s=>s.size<=9223372036854775807
 |_=>True
inductive Rp (w:World) (F:Nat->Prop):Bool->U.C->Value->List Nat->Prop
 |lit (m:Bool) (v:Value) (h:fu v):Rp w F m (.lit v) v []
 |nil (m:Bool) (τ:U.Ty) (a:Option Addr) (c:Nat) (h:m=true->c=0):Rp w F m (.sl τ []) (.slice a 0 c) []
 |shr (τ:U.Ty) (xs:List (U.T τ)) (b off cap:Nat) (vs:Nat->Value) (hF:F b) (hc:xs.length<=cap) (hm:xs.length<=maxLen)
   (hv:∀i,i<xs.length*U.wd τ->w.cell? ⟨b,off+i,none⟩=some (vs i))
   (hr:∀i x j c,xs[i]? =some x->(U.enc τ x)[j]? =some c->Rp w F false c (vs (i*U.wd τ+j)) []):
   Rp w F false (.sl τ xs) (.slice (some ⟨b,off,none⟩) xs.length cap) []
 |own (τ:U.Ty) (xs:List (U.T τ)) (b cap:Nat) (cur:Array Value) (vs:Nat->Value) (dH:Nat->List Nat)
   (hb:w.heap[b]? =some (.cells cur (E.tid τ) (0,0))) (hc:xs.length<=cap) (hm:cap<=maxLen) (hs:cur.size=cap*U.wd τ)
   (hv:∀i,i<xs.length*U.wd τ->cur[i]? =some (vs i))
   (hr:∀i x j c,xs[i]? =some x->(U.enc τ x)[j]? =some c->Rp w F true c (vs (i*U.wd τ+j)) (dH (i*U.wd τ+j))):
   Rp w F true (.sl τ xs) (.slice (some ⟨b,0,none⟩) xs.length cap) (b::(List.range (xs.length*U.wd τ)).flatMap dH)
variable{E}
theorem Rp.dQ{w:World}{F:Nat->Prop}{m:Bool}{c:U.C}{v:Value}{fp:List Nat}(h:Rp E w F m c v fp):fu v:=by
 cases h<;>first|assumption|exact⟨rfl,trivial⟩
theorem eI{U:jO}{τ:U.Ty}{xs:List (U.T τ)}{i j:Nat}{x:U.T τ}{c:U.C}(hx:xs[i]? =some x)(hc:(U.enc τ x)[j]? =some c):
  i*U.wd τ+j<xs.length*U.wd τ:=by
 have hi:i<xs.length:=by
  rcases lR i xs.length with h|h
  ·exact h
  ·rw[lU h] at hx;cases hx
 have hj:j<U.wd τ:=by
  rw[<-U.cP τ x]
  rcases lR j (U.enc τ x).length with h|h
  ·exact h
  ·rw[lU h] at hc;cases hc
 calc i*U.wd τ+j<i*U.wd τ+U.wd τ:=by omega
  _=(i+1)*U.wd τ:=by rw[ta,On]
  _<=xs.length*U.wd τ:=u9 _ hi
theorem Rp.cI{w w':World}{F F':Nat->Prop}{m:Bool}{c:U.C}{v:Value}{fp:List Nat}(h:Rp E w F m c v fp)
  (hF:∀b,F b->F' b/\w'.heap[b]? =w.heap[b]?) (lN:∀b∈fp,w'.heap[b]? =w.heap[b]?):Rp E w' F' m c v fp:=by
 induction h with
 |lit m v h=>exact .lit m v h
 |nil m τ a c h=>exact .nil m τ a c h
 |shr τ xs b off cap vs NS hc hm hv hr ih=>
  refine .shr τ xs b off cap vs (hF b NS).1 hc hm (fun i hi=> ?_) (fun i x j c hx hj=>ih i x j c hx hj (by simp))
  rw[World.cell?_of_block (w:=w) (a:=⟨b,off+i,none⟩) (hF b NS).2];exact hv i hi
 |own τ xs b cap cur vs dH hb hc hm hs hv hr ih=>
  refine .own τ xs b cap cur vs dH ?_ hc hm hs hv (fun i x j c hx hj=>ih i x j c hx hj (fun b' aI=> ?_))
  ·rw[lN b (by simp)];exact hb
  ·exact lN b' (aJ _ (ln.2 ⟨_,oh.2 (eI hx hj),aI⟩))
theorem Rp.i_{w:World}{F F':Nat->Prop}{m:Bool}{c:U.C}{v:Value}{fp:List Nat}(h:Rp E w F m c v fp)
  (hF:∀b,F b->F' b) (lN:∀b∈fp,F' b):Rp E w F' false c v []:=by
 induction h with
 |lit m v h=>exact .lit _ v h
 |nil m τ a c h=>exact .nil _ τ a c (by simp)
 |shr τ xs b off cap vs NS hc hm hv hr ih=>exact .shr τ xs b off cap vs (hF b NS) hc hm hv (fun i x j c hx hj=>ih i x j c hx hj (by simp))
 |own τ xs b cap cur vs dH hb hc hm hs hv hr ih=>
  refine .shr τ xs b 0 cap vs (lN b (by simp)) hc (En hc hm) (fun i hi=> ?_) (fun i x j c hx hj=>ih i x j c hx hj (fun b' aI=> ?_))
  ·have:=hv i hi
   simp only[World.cell?,hb,oz]
   simpa using this
  ·exact lN b' (aJ _ (ln.2 ⟨_,oh.2 (eI hx hj),aI⟩))
def za(v:Value):Prop:=∃a n c,v=.slice a n c
def Ah(w w':World)(b:Nat):Prop:=∀n u,za u->w.cell? ⟨b,n,none⟩=some u->w'.cell? ⟨b,n,none⟩=some u
theorem Ah.of{w w':World}{b:Nat}(h:w'.heap[b]? =w.heap[b]?):Ah w w' b:=fun n u _ hu=>by
 rw[World.cell?_of_block (w:=w) (a:=⟨b,n,none⟩) h];exact hu
def mg(w:World)(S:Nat->Prop):Value->Path->Value->Prop
 |v,[],v'=>v'=v
 |v,(i,wd,j)::p,v'=>∃b off n c u,v=.slice (some ⟨b,off,none⟩) n c/\S b/\(za u/\w.cell? ⟨b,off+(i*wd+j),none⟩=some u)/\mg w S u p v'
theorem mg.cI{w w':World}{S S':Nat->Prop}:∀{p:Path}{v v':Value},mg w S v p v'->(∀b,S b->S' b/\Ah w w' b)->mg w' S' v p v':=by
 intro p
 induction p with
 |nil=>intro v v' h _;exact h
 |cons s p ih=>
  obtain⟨i,wd,j⟩:=s
  rintro v v' ⟨b,off,n,c,u,h1,h2,h3,h4⟩ hS
  exact⟨b,off,n,c,u,h1,(hS b h2).1,⟨h3.1,(hS b h2).2 _ _ h3.1 h3.2⟩,ih h4 hS⟩
theorem mg.unique{w:World}{S S':Nat->Prop}:∀{p:Path}{v v1 v2:Value},mg w S v p v1->mg w S' v p v2->v1=v2:=by
 intro p
 induction p with
 |nil=>intro v v1 v2 h h';exact h.trans h'.symm
 |cons s p ih=>
  obtain⟨i,wd,j⟩:=s
  rintro v v1 v2 ⟨b,off,n,c,u,h1,h2,h3,h4⟩ ⟨b',aag,n',c',u',H5,Uc,h3',h4'⟩
  rw[h1] at H5
  simp only[Value.slice.injEq,eZ,Addr.mk.injEq] at H5
  obtain⟨⟨rfl,rfl,_⟩,rfl,rfl⟩:=H5
  have ae1:=h3'.2
  rw[h3.2] at ae1
  cases ae1
  exact ih h4 h4'
theorem mg.append{w:World}{S:Nat->Prop}:∀{p q:Path}{v v1 v2:Value},mg w S v p v1->mg w S v1 q v2->mg w S v (p++q) v2:=by
 intro p
 induction p with
 |nil=>intro q v v1 v2 h h';cases h;exact h'
 |cons s p ih=>
  obtain⟨i,wd,j⟩:=s
  rintro q v v1 v2 ⟨b,off,n,c,u,h1,h2,h3,h4⟩ h'
  exact⟨b,off,n,c,u,h1,h2,h3,ih h4 h'⟩
theorem Rp.inv{w:World}{F:Nat->Prop}{τ:U.Ty}{xs:List (U.T τ)}{v:Value}{fp:List Nat}(h:Rp E w F false (.sl τ xs) v fp):
  (xs=[]/\∃a c,v=.slice a 0 c)\/
  ∃(b off cap:Nat)(vs:Nat->Value),v=.slice (some ⟨b,off,none⟩) xs.length cap/\F b/\xs.length<=cap/\(∀i,i<xs.length*U.wd τ->w.cell? ⟨b,off+i,none⟩=some (vs i))/\
   ∀i x j c,xs[i]? =some x->(U.enc τ x)[j]? =some c->Rp E w F false c (vs (i*U.wd τ+j)) []:=by
 generalize hc:Cell.sl τ xs=c at h
 generalize hm:false=m at h
 cases h with
 |lit=>cases hc
 |nil m s8 a c h=>cases hc;exact .inl ⟨rfl,a,c,rfl⟩
 |shr s8 xs' b off cap vs hF zj hm hv hr=>cases hc;exact .inr ⟨b,off,cap,vs,rfl,hF,zj,hv,hr⟩
 |own=>cases hm
theorem Rp.len{w:World}{F:Nat->Prop}{m:Bool}{τ:U.Ty}{xs:List (U.T τ)}{v:Value}{fp:List Nat}(h:Rp E w F m (.sl τ xs) v fp):xs.length<=maxLen:=by
 generalize hc:Cell.sl τ xs=c at h
 cases h with
 |lit=>cases hc
 |nil m s8 a c h=>cases hc;simp
 |shr s8 xs' b off cap vs hF zj hm hv hr=>cases hc;exact hm
 |own s8 xs' b cap cur vs dH hb zj hm hs hv hr=>cases hc;exact En zj hm
theorem Rp.za{w:World}{F:Nat->Prop}{m:Bool}{τ:U.Ty}{xs:List (U.T τ)}{v:Value}{fp:List Nat}(h:Rp E w F m (.sl τ xs) v fp):za v:=by
 generalize hc:Cell.sl τ xs=c at h
 cases h with
 |lit=>cases hc
 |nil m s8 a c h=>exact⟨_,_,_,rfl⟩
 |shr s8 xs' b off cap vs hF zj hm hv hr=>exact⟨_,_,_,rfl⟩
 |own s8 xs' b cap cur vs dH hb zj hm hs hv hr=>exact⟨_,_,_,rfl⟩
theorem Rp.C7{w:World}{F:Nat->Prop}{m:Bool}{u v:Value}{fp:List Nat}(h:Rp E w F m (.lit u) v fp):fu u:=by
 generalize hc:(Cell.lit u:U.C)=c at h
 cases h with
 |lit _ _ h=>cases hc;exact h
 |nil=>cases hc
 |shr=>cases hc
 |own=>cases hc
theorem dz{α:Type}{xs:List α}{i:Nat}{d:α}(h:i<xs.length):xs[i]? =some (xs.getD i d):=by
 rw[gh,gr h];rfl
theorem aec{ps:List Prop}{q:Prop}:N0 ps q↔(∀p∈ps,p)/\q:=by
 induction ps with
 |nil=>simp[N0]
 |cons p ps ih=>
  simp only[N0,ih,h_]
  constructor
  ·rintro⟨h1,h2,h3⟩
   exact⟨fun r hr=>hr.elim (fun e=>e▸h1) (h2 r),h3⟩
  ·rintro⟨h1,h2⟩
   exact⟨h1 p (.inl rfl),fun r hr=>h1 r (.inr hr),h2⟩
theorem Rp.Vy{w:World}{F:Nat->Prop}:∀{p:Path}{a b:fK U}{v:Value}{ps:List Prop},Rp E w F false (.sl a.τ a.xs) v []->
  walk p a=some (ps,b)->(∀q∈ps,q)->∃v',mg w F v p v'/\Rp E w F false (.sl b.τ b.xs) v' []:=by
 intro p
 induction p with
 |nil=>
  intro a b v ps h hw hp
  simp only[walk,eZ,kG] at hw
  obtain⟨_,rfl⟩:=hw
  exact⟨v,rfl,h⟩
 |cons s p ih=>
  obtain⟨i,wd,j⟩:=s
  intro a b v ps h hw hp
  obtain⟨aτ,axs⟩:=a
  simp only[walk] at hw
  cases mH:Nat.beq wd (U.wd aτ)<;>simp only[mH,cond_false,cond_true] at hw
  ·cases hw
  ·have KF:wd=U.wd aτ:=jp mH
   subst KF
   split at hw
   ·rename_i τ xs hx
    split at hw
    ·rename_i HV b' hw'
     simp only[eZ,kG] at hw
     obtain⟨rfl,rfl⟩:=hw
     have hi:i<axs.length:=hp _ (by simp)
     have qt:=dz (d:=U.dt aτ) hi
     rcases h.inv with⟨h0,_⟩|⟨bb,off,cap,vs,rfl,hF,hc,hv,hr⟩
     ·simp only at h0;subst h0;simp at hi
     ·have fB:=hr i _ j _ qt hx
      obtain⟨v',h1,h2⟩:=ih (a:=⟨τ,xs⟩) fB hw' (fun q hq=>hp q (by simp[hq]))
      exact⟨v',⟨bb,off,_,cap,_,rfl,hF,⟨fB.za,hv _ (eI qt hx)⟩,h1⟩,h2⟩
    ·cases hw
   ·cases hw
def qz(wd lo hi:Nat):Value->Value
 | .slice a n c=> .slice (if c=lo then a else a.map (·.add (lo*wd))) (hi-lo) (c-lo)
 |v=>v
def tv:Value->Bool
 | .slice none _ _=>true
 |_=>false
structure fm(W:Nat->Prop)(w w':World):Prop where
 os:w'.os=w.os
 tape:w'.tape=w.tape
 output:w'.output=w.output
 size:w.heap.size<=w'.heap.size
 block:∀k,k<w.heap.size->¬W k->w'.heap[k]? =w.heap[k]?
 drawn:w.drawn<=w'.drawn
def u7(P:Program)(f:FuncId):Prop:=∃fn,P.funcs[f]? =some fn/\fn.body.isSome=true/\(fn.name== "runtime.NumGoroutine")=false
def RDA(E:Env U)(w:World)(F:Nat->Prop)(d:DA U)(v:Value):Prop:=
 ∃vs:List Value,vs.length=d.cs.length/\(∀(i:Nat)(c:U.C),d.cs[i]? =some c->Rp E w F false c (vs.getD i undef) [])/\(if d.agg then v=.agg vs.toArray else vs=[v])
def alB(E:Env U)(w:World)(F:Nat->Prop)(ds:List (DA U))(vs:List Value):Prop:=
 ds.length=vs.length/\∀(i:Nat)(d:DA U)(v:Value),ds[i]? =some d->vs[i]? =some v->RDA E w F d v
def mC(E:Env U)(w:World)(F:Nat->Prop)(p:List (DA U)->Option Value)(v:Value):Prop:=
 ∃g oe,v=.func (.func g) #[] oe/\u7 E.P g/\∀ds r,p ds=some r->∀(w':World)(F':Nat->Prop),(∀b,F b->F' b/\w'.heap[b]? =w.heap[b]?)->(∀b,F' b->b<w'.heap.size)->∀vs,alB E w' F' ds vs->
  Calls E.P g (vs.toArray++oe) w' fun e w''=>e=.returned r/\fu r/\fm (fun _=>False) w' w''
theorem mC.cI{E:Env U}{w w':World}{F F':Nat->Prop}{p:List (DA U)->Option Value}{v:Value}(h:mC E w F p v)(hF:∀b,F b->F' b/\w'.heap[b]? =w.heap[b]?):mC E w' F' p v:=by
 obtain⟨g,oe,h1,h2,h3⟩:=h
 exact⟨g,oe,h1,h2,fun ds r hr w'' F'' h4 h5 vs h6=>h3 ds r hr w'' F'' (fun b hb=>⟨(h4 b (hF b hb).1).1,(h4 b (hF b hb).1).2.trans (hF b hb).2⟩) h5 vs h6⟩
section
variable(E)(w:World)(F:Nat->Prop)(kv:Key->Value)(fp:Key->List Nat)(bad:Key->Bool)
def RA:AC U->Value->Prop
 | .c x,v=>Rp E w F false x v []
 | .e0,v=>∃a,v=.slice a 0 0
 | .ref k p,v=>mg w (fun b=>F b\/b∈fp k) (kv k) p v
 | .sub k wd lo hi,v=>v=qz wd lo hi (kv k)/\lo<=hi
 | .iC k p i wd off,v=>∃b o n c,mg w (fun b=>F b\/b∈fp k) (kv k) p (.slice (some ⟨b,o,none⟩) n c)/\v=.pointer (some ⟨b,o+(i*wd+off),none⟩)
 | .ji k off,v=>∃b,kv k=.pointer (some ⟨b,0,none⟩)/\v=.pointer (some ⟨b,off,none⟩)
 | .kn b τ xs,v=>Rp E w F false (.sl τ xs) v []/\tv v=b
 | .ia cs,v=>∃b o,v=.pointer (some ⟨b,o,none⟩)/\F b/\∀j c,cs[j]? =some c->∃u,w.cell? ⟨b,o+j,none⟩=some u/\Rp E w F false c u []
def gg:AC U->Bool
 | .ref k p=> !p.isEmpty&&bad k
 | .iC k p _ _ _=> !p.isEmpty&&bad k
 |_=>false
def RD(x:AC U)(v:Value):Prop:=fu v/\(gg bad x=true\/RA E w F kv fp x v)
def kS(xs:List (AC U))(vs:List Value):Prop:=
 xs.length=vs.length/\∀(i:Nat)(x:AC U)(v:Value),xs[i]? =some x->vs[i]? =some v->RD E w F kv fp bad x v
def RV(x:AV U)(v:Value):Prop:=
 ∃vs:List Value,kS E w F kv fp bad x.cs vs/\(if x.agg then v=.agg vs.toArray else vs=[v])
def RS:SV U->Value->Prop
 | .v x,v=>RV E w F kv fp bad x v
 | .tX xs,v=>∃vs:List Value,v=.tuple vs.toArray/\xs.length=vs.length/\∀(i:Nat)(x:AV U)(u:Value),xs[i]? =some x->vs[i]? =some u->RV E w F kv fp bad x u
 | .fn p,v=>mC E w F p v
 | .El g xs,v=>∃vs:List Value,v=.func (.func g) #[] vs.toArray/\xs.length=vs.length/\∀(i:Nat)(x:AV U)(u:Value),xs[i]? =some x->vs[i]? =some u->RV E w F kv fp bad x u
def cF(deep:Bool)(a:fK U)(v:Value)(fp:List Nat):Prop:=
 (a.xs=[]/\(∃ad,v=.slice ad 0 0)/\fp=[])\/
 ∃(b cap:Nat)(cur:Array Value)(vs:Nat->Value)(dH:Nat->List Nat),v=.slice (some ⟨b,0,none⟩) a.xs.length cap/\w.heap[b]? =some (.cells cur (E.tid a.τ) (0,0))/\a.xs.length<=cap/\cap<=maxLen/\
  cur.size=cap*U.wd a.τ/\(∀i,i<a.xs.length*U.wd a.τ->cur[i]? =some (vs i))/\
  (∀i x j c,a.xs[i]? =some x->(U.enc a.τ x)[j]? =some c->Rp E w F deep c (vs (i*U.wd a.τ+j)) (dH (i*U.wd a.τ+j)))/\
  fp=b::(List.range (a.xs.length*U.wd a.τ)).flatMap dH
def cM(dead:Nat->Bool)(a:fK U)(v:Value)(fp:List Nat):Prop:=
 (a.xs=[]/\(∃ad,v=.slice ad 0 0)/\fp=[])\/
 ∃(b cap:Nat)(cur:Array Value)(vs:Nat->Value)(dH:Nat->List Nat),v=.slice (some ⟨b,0,none⟩) a.xs.length cap/\w.heap[b]? =some (.cells cur (E.tid a.τ) (0,0))/\a.xs.length<=cap/\cap<=maxLen/\
  cur.size=cap*U.wd a.τ/\(∀i,i<a.xs.length*U.wd a.τ->cur[i]? =some (vs i)/\fu (vs i))/\
  (∀i x j c,dead i=false->a.xs[i]? =some x->(U.enc a.τ x)[j]? =some c->Rp E w F true c (vs (i*U.wd a.τ+j)) (dH (i*U.wd a.τ+j)))/\
  (∀i j,dead i=true->j<U.wd a.τ->dH (i*U.wd a.τ+j)=[])/\
  fp=b::(List.range (a.xs.length*U.wd a.τ)).flatMap dH
def JU(a:fK U)(v:Value)(fp lo:List Nat):Prop:=∃l,cF E w F true a v l/\fp=l.take 1/\lo=l.drop 1
def mA(h:Option Nat)(a:fK U)(v:Value)(fp lo:List Nat):Prop:=
 (a.xs=[]/\(∃ad,v=.slice ad 0 0)/\fp=[]/\lo=[])\/
 ∃(b cap:Nat)(cur:Array Value)(vs:Nat->Value)(dH:Nat->List Nat),v=.slice (some ⟨b,0,none⟩) a.xs.length cap/\w.heap[b]? =some (.cells cur (E.tid a.τ) (0,0))/\a.xs.length<=cap/\cap<=maxLen/\
  cur.size=cap*U.wd a.τ/\(∀i,i<a.xs.length*U.wd a.τ->cur[i]? =some (vs i)/\fu (vs i))/\
  (∀i x j c,h≠some i->a.xs[i]? =some x->(U.enc a.τ x)[j]? =some c->Rp E w F true c (vs (i*U.wd a.τ+j)) (dH (i*U.wd a.τ+j)))/\
  (∀i j,h=some i->j<U.wd a.τ->dH (i*U.wd a.τ+j)=[])/\
  fp=b::(List.range (a.xs.length*U.wd a.τ)).flatMap (fun n=>(dH n).take 1)/\lo=(List.range (a.xs.length*U.wd a.τ)).flatMap (fun n=>(dH n).drop 1)
def Vl:eX U->Value->List Nat->List Nat->Prop
 | .li a,v,fp,lo=>mA E w F none a v fp lo
 | .Dw a i,v,fp,lo=>i<a.xs.length/\mA E w F (some i) a v fp lo
 | .fz a,v,fp,lo=>JU E w F a v fp lo
 |_,_,_,_=>True
def lm:eX U->Value->List Nat->Prop
 | .arr a deep,v,l=>cF E w F deep a v l
 | .part a dead,v,l=>cM E w F dead a v l
 | .nA a i x,v,l=>cM E w F (fun j=>Nat.beq j i) a v l/\U.wd a.τ=1/\i<a.xs.length/\∃b n c u,v=.slice (some ⟨b,0,none⟩) n c/\b∈l/\w.cell? ⟨b,i,none⟩=some u/\RD E w F kv fp bad x u
 | .li _,_,_=>True
 | .Dw _ _,_,_=>True
 | .fz _,_,_=>True
 | .box cs,v,l=>∃b cur e,v=.pointer (some ⟨b,0,none⟩)/\w.heap[b]? =some (.cells cur e (0,0))/\l=[b]/\kS E w F kv fp bad cs cur.toList
end
theorem cF.i_{w:World}{F F':Nat->Prop}{deep:Bool}{a:fK U}{v:Value}{fp:List Nat}(h:cF E w F deep a v fp)
  (hF:∀b,F b->F' b) (lN:∀b∈fp,F' b):Rp E w F' false (.sl a.τ a.xs) v []:=by
 obtain⟨aτ,axs⟩:=a
 rcases h with⟨h1,⟨ad,h2⟩,h3⟩|⟨b,cap,cur,vs,dH,rfl,hb,hc,hm,hs,hv,hr,rfl⟩
 ·simp only at h1
  subst h1 h2
  exact .nil _ _ _ _ (by simp)
 ·refine .shr aτ axs b 0 cap vs (lN b (by simp)) hc (En hc hm) (fun i hi=> ?_) (fun i x j c hx hj=>(hr i x j c hx hj).i_ hF (fun b' aI=> ?_))
  ·have:=hv i hi
   simp only[World.cell?,hb,oz]
   simpa using this
  ·exact lN b' (aJ _ (ln.2 ⟨_,oh.2 (eI hx hj),aI⟩))
theorem cF.cI{w w':World}{F F':Nat->Prop}{deep:Bool}{a:fK U}{v:Value}{fp:List Nat}(h:cF E w F deep a v fp)
  (hF:∀b,F b->F' b/\w'.heap[b]? =w.heap[b]?) (lN:∀b∈fp,w'.heap[b]? =w.heap[b]?):cF E w' F' deep a v fp:=by
 rcases h with h|⟨b,cap,cur,vs,dH,rfl,hb,hc,hm,hs,hv,hr,rfl⟩
 ·exact .inl h
 ·refine .inr ⟨b,cap,cur,vs,dH,rfl,?_,hc,hm,hs,hv,fun i x j c hx hj=>(hr i x j c hx hj).cI hF (fun b' aI=> ?_),rfl⟩
  ·rw[lN b (by simp)];exact hb
  ·exact lN b' (aJ _ (ln.2 ⟨_,oh.2 (eI hx hj),aI⟩))
theorem cM.cI{w w':World}{F F':Nat->Prop}{dead:Nat->Bool}{a:fK U}{v:Value}{fp:List Nat}(h:cM E w F dead a v fp)
  (hF:∀b,F b->F' b/\w'.heap[b]? =w.heap[b]?) (lN:∀b∈fp,w'.heap[b]? =w.heap[b]?):cM E w' F' dead a v fp:=by
 rcases h with h|⟨b,cap,cur,vs,dH,rfl,hb,hc,hm,hs,hv,hr,hd,rfl⟩
 ·exact .inl h
 ·refine .inr ⟨b,cap,cur,vs,dH,rfl,?_,hc,hm,hs,hv,fun i x j c hi hx hj=>(hr i x j c hi hx hj).cI hF (fun b' aI=> ?_),hd,rfl⟩
  ·rw[lN b (by simp)];exact hb
  ·exact lN b' (aJ _ (ln.2 ⟨_,oh.2 (eI hx hj),aI⟩))
theorem mA.cI{w w':World}{F F':Nat->Prop}{h0:Option Nat}{a:fK U}{v:Value}{fp lo:List Nat}(h:mA E w F h0 a v fp lo)
  (hF:∀b,F b->F' b/\w'.heap[b]? =w.heap[b]?) (lN:∀b∈fp,w'.heap[b]? =w.heap[b]?) (H0:∀b∈lo,w'.heap[b]? =w.heap[b]?):mA E w' F' h0 a v fp lo:=by
 rcases h with h|⟨b,cap,cur,vs,dH,rfl,hb,hc,hm,hs,hv,hr,hd,rfl,rfl⟩
 ·exact .inl h
 ·refine .inr ⟨b,cap,cur,vs,dH,rfl,?_,hc,hm,hs,hv,fun i x j c hi hx hj=>(hr i x j c hi hx hj).cI hF (fun b' aI=> ?_),hd,rfl,rfl⟩
  ·rw[lN b (by simp)];exact hb
  ·have hn:=oh.2 (eI hx hj)
   rw[<-HS 1 (dH (i*U.wd a.τ+j)),gA] at aI
   rcases aI with aI|aI
   ·exact lN b' (aJ _ (ln.2 ⟨_,hn,aI⟩))
   ·exact H0 b' (ln.2 ⟨_,hn,aI⟩)
theorem JU.cI{w w':World}{F F':Nat->Prop}{a:fK U}{v:Value}{fp lo:List Nat}(h:JU E w F a v fp lo)
  (hF:∀b,F b->F' b/\w'.heap[b]? =w.heap[b]?) (lN:∀b∈fp,w'.heap[b]? =w.heap[b]?) (H0:∀b∈lo,w'.heap[b]? =w.heap[b]?):JU E w' F' a v fp lo:=by
 obtain⟨l,h1,rfl,rfl⟩:=h
 refine⟨l,h1.cI hF (fun b hb=> ?_),rfl,rfl⟩
 rw[<-HS 1 l,gA] at hb
 exact hb.elim (lN b) (H0 b)
theorem Vl.cI{w w':World}{F F':Nat->Prop}{e:eX U}{v:Value}{fp lo:List Nat}(h:Vl E w F e v fp lo)
  (hF:∀b,F b->F' b/\w'.heap[b]? =w.heap[b]?) (lN:∀b∈fp,w'.heap[b]? =w.heap[b]?) (H0:∀b∈lo,w'.heap[b]? =w.heap[b]?):Vl E w' F' e v fp lo:=by
 cases e with
 |arr=>trivial
 |box=>trivial
 |part=>trivial
 |nA=>trivial
 |li a=>exact mA.cI h hF lN H0
 |Dw a i=>exact⟨h.1,mA.cI h.2 hF lN H0⟩
 |fz a=>exact JU.cI h hF lN H0
theorem mA.own{w:World}{F:Nat->Prop}{a:fK U}{v:Value}{fp lo:List Nat}(h:mA E w F none a v fp lo):∃l,cF E w F true a v l/\∀b,b∈l↔b∈fp\/b∈lo:=by
 rcases h with⟨h1,h2,rfl,rfl⟩|⟨b,cap,cur,vs,dH,rfl,hb,hc,hm,hs,hv,hr,hd,rfl,rfl⟩
 ·exact⟨[],.inl ⟨h1,h2,rfl⟩,by simp⟩
 ·refine⟨_,.inr ⟨b,cap,cur,vs,dH,rfl,hb,hc,hm,hs,fun i hi=>(hv i hi).1,fun i x j c hx hj=>hr i x j c (by simp) hx hj,rfl⟩,fun b'=> ?_⟩
  simp only[h_,ln]
  constructor
  ·rintro(rfl|⟨n,hn,aI⟩)
   ·exact .inl (.inl rfl)
   ·rw[<-HS 1 (dH n),gA] at aI
    exact aI.elim (fun e=> .inl (.inr ⟨n,hn,e⟩)) (fun e=> .inr ⟨n,hn,e⟩)
  ·rintro((rfl|⟨n,hn,aI⟩)|⟨n,hn,aI⟩)
   ·exact .inl rfl
   ·exact .inr ⟨n,hn,List.mem_of_mem_take aI⟩
   ·exact .inr ⟨n,hn,List.mem_of_mem_drop aI⟩
theorem cM.own{w:World}{F:Nat->Prop}{dead:Nat->Bool}{a:fK U}{v:Value}{fp:List Nat}(h:cM E w F dead a v fp)
  (hd:∀i,i<a.xs.length->dead i=false):cF E w F true a v fp:=by
 rcases h with h|⟨b,cap,cur,vs,dH,rfl,hb,hc,hm,hs,hv,hr,_,rfl⟩
 ·exact .inl h
 ·refine .inr ⟨b,cap,cur,vs,dH,rfl,hb,hc,hm,hs,fun i hi=>(hv i hi).1,fun i x j c hx hj=>hr i x j c (hd i ?_) hx hj,rfl⟩
  rcases lR i a.xs.length with h|h
  ·exact h
  ·rw[lU h] at hx;cases hx
end AM
