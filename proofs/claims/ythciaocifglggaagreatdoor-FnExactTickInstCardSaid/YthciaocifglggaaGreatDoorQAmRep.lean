import Derived.Test.YthciaocifglggaaGreatDoorQAmCore
namespace AM
set_option linter.unusedVariables false
open Go
variable{U:kz}(E:Env U)
def fA(v:Value):Prop:=v.oneCell'=true/\match v with
 | .int k n=>k.min<=n/\n<=k.max
 | .string s=>s.size<=9223372036854775807
 |_=>True
inductive Rp (w:World) (F:Nat->Prop):Bool->U.C->Value->List Nat->Prop
 |lit (m:Bool) (v:Value) (h:fA v):Rp w F m (.lit v) v []
 |nil (m:Bool) (τ:U.Ty) (a:Option Addr) (c:Nat) (h:m=true->c=0):Rp w F m (.sl τ []) (.slice a 0 c) []
 |shr (τ:U.Ty) (xs:List (U.T τ)) (b off cap:Nat) (vs:Nat->Value) (hF:F b) (hc:xs.length<=cap) (hm:xs.length<=maxLen)
   (hv:∀i,i<xs.length*U.wd τ->w.cell? ⟨b,off+i,none⟩=some (vs i))
   (hr:∀i x j c,xs[i]? =some x->(U.enc τ x)[j]? =some c->Rp w F false c (vs (i*U.wd τ+j)) []):
   Rp w F false (.sl τ xs) (.slice (some ⟨b,off,none⟩) xs.length cap) []
 |own (τ:U.Ty) (xs:List (U.T τ)) (b cap:Nat) (cur:Array Value) (vs:Nat->Value) (gA:Nat->List Nat)
   (hb:w.heap[b]? =some (.cells cur (E.tid τ) (0,0))) (hc:xs.length<=cap) (hm:cap<=maxLen) (hs:cur.size=cap*U.wd τ)
   (hv:∀i,i<xs.length*U.wd τ->cur[i]? =some (vs i))
   (hr:∀i x j c,xs[i]? =some x->(U.enc τ x)[j]? =some c->Rp w F true c (vs (i*U.wd τ+j)) (gA (i*U.wd τ+j))):
   Rp w F true (.sl τ xs) (.slice (some ⟨b,0,none⟩) xs.length cap) (b::(List.range (xs.length*U.wd τ)).flatMap gA)
variable{E}
theorem Rp.fB{w:World}{F:Nat->Prop}{m:Bool}{c:U.C}{v:Value}{fp:List Nat}(h:Rp E w F m c v fp):fA v:=by
 cases h<;>first|assumption|exact⟨rfl,trivial⟩
theorem fe{U:kz}{τ:U.Ty}{xs:List (U.T τ)}{i j:Nat}{x:U.T τ}{c:U.C}(hx:xs[i]? =some x)(hc:(U.enc τ x)[j]? =some c):
  i*U.wd τ+j<xs.length*U.wd τ:=by
 have hi:i<xs.length:=by
  rcases mX i xs.length with h|h
  ·exact h
  ·rw[mi h] at hx;cases hx
 have hj:j<U.wd τ:=by
  rw[<-U.cZ τ x]
  rcases mX j (U.enc τ x).length with h|h
  ·exact h
  ·rw[mi h] at hc;cases hc
 calc i*U.wd τ+j<i*U.wd τ+U.wd τ:=by omega
  _=(i+1)*U.wd τ:=by rw[wD,Lk]
  _<=xs.length*U.wd τ:=wH _ hi
theorem Rp.fE{w w':World}{F F':Nat->Prop}{m:Bool}{c:U.C}{v:Value}{fp:List Nat}(h:Rp E w F m c v fp)
  (hF:∀b,F b->F' b/\w'.heap[b]? =w.heap[b]?) (qn:∀b∈fp,w'.heap[b]? =w.heap[b]?):Rp E w' F' m c v fp:=by
 induction h with
 |lit m v h=>exact .lit m v h
 |nil m τ a c h=>exact .nil m τ a c h
 |shr τ xs b off cap vs KU hc hm hv hr ih=>
  refine .shr τ xs b off cap vs (hF b KU).1 hc hm (fun i hi=> ?_) (fun i x j c hx hj=>ih i x j c hx hj (by simp))
  rw[World.cell?_of_block (w:=w) (a:=⟨b,off+i,none⟩) (hF b KU).2];exact hv i hi
 |own τ xs b cap cur vs gA hb hc hm hs hv hr ih=>
  refine .own τ xs b cap cur vs gA ?_ hc hm hs hv (fun i x j c hx hj=>ih i x j c hx hj (fun b' aY=> ?_))
  ·rw[qn b (by simp)];exact hb
  ·exact qn b' (bi _ (nl.2 ⟨_,oc.2 (fe hx hj),aY⟩))
theorem Rp.kD{w:World}{F F':Nat->Prop}{m:Bool}{c:U.C}{v:Value}{fp:List Nat}(h:Rp E w F m c v fp)
  (hF:∀b,F b->F' b) (qn:∀b∈fp,F' b):Rp E w F' false c v []:=by
 induction h with
 |lit m v h=>exact .lit _ v h
 |nil m τ a c h=>exact .nil _ τ a c (by simp)
 |shr τ xs b off cap vs KU hc hm hv hr ih=>exact .shr τ xs b off cap vs (hF b KU) hc hm hv (fun i x j c hx hj=>ih i x j c hx hj (by simp))
 |own τ xs b cap cur vs gA hb hc hm hs hv hr ih=>
  refine .shr τ xs b 0 cap vs (qn b (by simp)) hc (BU hc hm) (fun i hi=> ?_) (fun i x j c hx hj=>ih i x j c hx hj (fun b' aY=> ?_))
  ·have:=hv i hi
   simp only[World.cell?,hb,tW]
   simpa using this
  ·exact qn b' (bi _ (nl.2 ⟨_,oc.2 (fe hx hj),aY⟩))
def nq(w:World)(S:Nat->Prop):Value->Path->Value->Prop
 |v,[],v'=>v'=v
 |v,(i,wd,j)::p,v'=>∃b off n c u,v=.slice (some ⟨b,off,none⟩) n c/\S b/\w.cell? ⟨b,off+(i*wd+j),none⟩=some u/\nq w S u p v'
theorem nq.fE{w w':World}{S S':Nat->Prop}:∀{p:Path}{v v':Value},nq w S v p v'->(∀b,S b->S' b/\w'.heap[b]? =w.heap[b]?)->nq w' S' v p v':=by
 intro p
 induction p with
 |nil=>intro v v' h _;exact h
 |cons s p ih=>
  obtain⟨i,wd,j⟩:=s
  rintro v v' ⟨b,off,n,c,u,h1,h2,h3,h4⟩ hS
  refine⟨b,off,n,c,u,h1,(hS b h2).1,?_,ih h4 hS⟩
  rw[World.cell?_of_block (w:=w) (a:=⟨b,off+(i*wd+j),none⟩) (hS b h2).2];exact h3
theorem nq.unique{w:World}{S S':Nat->Prop}:∀{p:Path}{v v1 v2:Value},nq w S v p v1->nq w S' v p v2->v1=v2:=by
 intro p
 induction p with
 |nil=>intro v v1 v2 h h';exact h.trans h'.symm
 |cons s p ih=>
  obtain⟨i,wd,j⟩:=s
  rintro v v1 v2 ⟨b,off,n,c,u,h1,h2,h3,h4⟩ ⟨b',apU,n',c',u',HF,QH,h3',h4'⟩
  rw[h1] at HF
  simp only[Value.slice.injEq,fJ,Addr.mk.injEq] at HF
  obtain⟨⟨rfl,rfl,_⟩,rfl,rfl⟩:=HF
  rw[h3] at h3'
  cases h3'
  exact ih h4 h4'
theorem nq.append{w:World}{S:Nat->Prop}:∀{p q:Path}{v v1 v2:Value},nq w S v p v1->nq w S v1 q v2->nq w S v (p++q) v2:=by
 intro p
 induction p with
 |nil=>intro q v v1 v2 h h';cases h;exact h'
 |cons s p ih=>
  obtain⟨i,wd,j⟩:=s
  rintro q v v1 v2 ⟨b,off,n,c,u,h1,h2,h3,h4⟩ h'
  exact⟨b,off,n,c,u,h1,h2,h3,ih h4 h'⟩
theorem Rp.inv{w:World}{F:Nat->Prop}{τ:U.Ty}{xs:List (U.T τ)}{v:Value}{fp:List Nat}(h:Rp E w F false (.sl τ xs) v fp):
  (xs=[]/\∃a c,v=.slice a 0 c)\/
  ∃(b off cap:Nat)(vs:Nat->Value),v=.slice (some ⟨b,off,none⟩) xs.length cap/\F b/\xs.length<=cap/\(∀i,i<xs.length*U.wd τ->w.cell? ⟨b,off+i,none⟩=some (vs i))/\
   ∀i x j c,xs[i]? =some x->(U.enc τ x)[j]? =some c->Rp E w F false c (vs (i*U.wd τ+j)) []:=by
 generalize hc:Cell.sl τ xs=c at h
 generalize hm:false=m at h
 cases h with
 |lit=>cases hc
 |nil m Cr a c h=>cases hc;exact .inl ⟨rfl,a,c,rfl⟩
 |shr Cr xs' b off cap vs hF w8 hm hv hr=>cases hc;exact .inr ⟨b,off,cap,vs,rfl,hF,w8,hv,hr⟩
 |own=>cases hm
theorem Rp.len{w:World}{F:Nat->Prop}{m:Bool}{τ:U.Ty}{xs:List (U.T τ)}{v:Value}{fp:List Nat}(h:Rp E w F m (.sl τ xs) v fp):xs.length<=maxLen:=by
 generalize hc:Cell.sl τ xs=c at h
 cases h with
 |lit=>cases hc
 |nil m Cr a c h=>cases hc;simp
 |shr Cr xs' b off cap vs hF w8 hm hv hr=>cases hc;exact hm
 |own Cr xs' b cap cur vs gA hb w8 hm hs hv hr=>cases hc;exact BU w8 hm
theorem Rp.A7{w:World}{F:Nat->Prop}{m:Bool}{u v:Value}{fp:List Nat}(h:Rp E w F m (.lit u) v fp):fA u:=by
 generalize hc:(Cell.lit u:U.C)=c at h
 cases h with
 |lit _ _ h=>cases hc;exact h
 |nil=>cases hc
 |shr=>cases hc
 |own=>cases hc
theorem eH{α:Type}{xs:List α}{i:Nat}{d:α}(h:i<xs.length):xs[i]? =some (xs.getD i d):=by
 rw[fY,gg h];rfl
theorem abm{ps:List Prop}{q:Prop}:K9 ps q↔(∀p∈ps,p)/\q:=by
 induction ps with
 |nil=>simp[K9]
 |cons p ps ih=>
  simp only[K9,ih,jw]
  constructor
  ·rintro⟨h1,h2,h3⟩
   exact⟨fun r hr=>hr.elim (fun e=>e▸h1) (h2 r),h3⟩
  ·rintro⟨h1,h2⟩
   exact⟨h1 p (.inl rfl),fun r hr=>h1 r (.inr hr),h2⟩
theorem Rp.Y_{w:World}{F:Nat->Prop}:∀{p:Path}{a b:eK U}{v:Value}{ps:List Prop},Rp E w F false (.sl a.τ a.xs) v []->
  walk p a=some (ps,b)->(∀q∈ps,q)->∃v',nq w F v p v'/\Rp E w F false (.sl b.τ b.xs) v' []:=by
 intro p
 induction p with
 |nil=>
  intro a b v ps h hw hp
  simp only[walk,fJ,nE] at hw
  obtain⟨_,rfl⟩:=hw
  exact⟨v,rfl,h⟩
 |cons s p ih=>
  obtain⟨i,wd,j⟩:=s
  intro a b v ps h hw hp
  obtain⟨aτ,axs⟩:=a
  simp only[walk] at hw
  cases sK:Nat.beq wd (U.wd aτ)<;>simp only[sK,cond_false,cond_true] at hw
  ·cases hw
  ·have M0:wd=U.wd aτ:=lN sK
   subst M0
   split at hw
   ·rename_i τ xs hx
    split at hw
    ·rename_i Ga b' hw'
     simp only[fJ,nE] at hw
     obtain⟨rfl,rfl⟩:=hw
     have hi:i<axs.length:=hp _ (by simp)
     have tE:=eH (d:=U.eP aτ) hi
     rcases h.inv with⟨h0,_⟩|⟨bb,off,cap,vs,rfl,hF,hc,hv,hr⟩
     ·simp only at h0;subst h0;simp at hi
     ·have jy:=hr i _ j _ tE hx
      obtain⟨v',h1,h2⟩:=ih (a:=⟨τ,xs⟩) jy hw' (fun q hq=>hp q (by simp[hq]))
      exact⟨v',⟨bb,off,_,cap,_,rfl,hF,hv _ (fe tE hx),h1⟩,h2⟩
    ·cases hw
   ·cases hw
def pB(wd lo hi:Nat):Value->Value
 | .slice a n c=> .slice (if c=lo then a else a.map (·.add (lo*wd))) (hi-lo) (c-lo)
 |v=>v
def sa:Value->Bool
 | .slice none _ _=>true
 |_=>false
structure gy(W:Nat->Prop)(w w':World):Prop where
 os:w'.os=w.os
 tape:w'.tape=w.tape
 output:w'.output=w.output
 size:w.heap.size<=w'.heap.size
 block:∀k,k<w.heap.size->¬W k->w'.heap[k]? =w.heap[k]?
def wB(P:Program)(f:FuncId):Prop:=∃fn,P.funcs[f]? =some fn/\fn.body.isSome=true/\(fn.name== "runtime.NumGoroutine")=false
def Zs(E:Env U)(w:World)(F:Nat->Prop)(d:DA U)(v:Value):Prop:=
 ∃vs:List Value,vs.length=d.cs.length/\(∀(i:Nat)(c:U.C),d.cs[i]? =some c->Rp E w F false c (vs.getD i undef) [])/\(if d.agg then v=.agg vs.toArray else vs=[v])
def aja(E:Env U)(w:World)(F:Nat->Prop)(ds:List (DA U))(vs:List Value):Prop:=
 ds.length=vs.length/\∀(i:Nat)(d:DA U)(v:Value),ds[i]? =some d->vs[i]? =some v->Zs E w F d v
def mh(E:Env U)(w:World)(F:Nat->Prop)(p:List (DA U)->Option Value)(v:Value):Prop:=
 ∃g n0,v=.func (.func g) #[] n0/\wB E.P g/\∀ds r,p ds=some r->∀(w':World)(F':Nat->Prop),(∀b,F b->F' b/\w'.heap[b]? =w.heap[b]?)->(∀b,F' b->b<w'.heap.size)->∀vs,aja E w' F' ds vs->
  Calls E.P g (vs.toArray++n0) w' fun e ZR=>e=.returned r/\fA r/\gy (fun _=>False) w' ZR
theorem mh.fE{E:Env U}{w w':World}{F F':Nat->Prop}{p:List (DA U)->Option Value}{v:Value}(h:mh E w F p v)(hF:∀b,F b->F' b/\w'.heap[b]? =w.heap[b]?):mh E w' F' p v:=by
 obtain⟨g,n0,h1,h2,h3⟩:=h
 exact⟨g,n0,h1,h2,fun ds r hr ZR F'' h4 h5 vs h6=>h3 ds r hr ZR F'' (fun b hb=>⟨(h4 b (hF b hb).1).1,(h4 b (hF b hb).1).2.trans (hF b hb).2⟩) h5 vs h6⟩
section
variable(E)(w:World)(F:Nat->Prop)(kv:Key->Value)(fp:Key->List Nat)(bad:Key->Bool)
def RA:AC U->Value->Prop
 | .c x,v=>Rp E w F false x v []
 | .e0,v=>∃a,v=.slice a 0 0
 | .ref k p,v=>nq w (fun b=>F b\/b∈fp k) (kv k) p v
 | .sub k wd lo hi,v=>v=pB wd lo hi (kv k)/\lo<=hi
 | .kM k p i wd off,v=>∃b o n c,nq w (fun b=>F b\/b∈fp k) (kv k) p (.slice (some ⟨b,o,none⟩) n c)/\v=.pointer (some ⟨b,o+(i*wd+off),none⟩)
 | .j0 k off,v=>∃b,kv k=.pointer (some ⟨b,0,none⟩)/\v=.pointer (some ⟨b,off,none⟩)
 | .kn b τ xs,v=>Rp E w F false (.sl τ xs) v []/\sa v=b
 | .ia cs,v=>∃b o,v=.pointer (some ⟨b,o,none⟩)/\F b/\∀j c,cs[j]? =some c->∃u,w.cell? ⟨b,o+j,none⟩=some u/\Rp E w F false c u []
def io:AC U->Bool
 | .ref k p=> !p.isEmpty&&bad k
 | .kM k p _ _ _=> !p.isEmpty&&bad k
 |_=>false
def RD(x:AC U)(v:Value):Prop:=fA v/\(io bad x=true\/RA E w F kv fp x v)
def kX(xs:List (AC U))(vs:List Value):Prop:=
 xs.length=vs.length/\∀(i:Nat)(x:AC U)(v:Value),xs[i]? =some x->vs[i]? =some v->RD E w F kv fp bad x v
def RV(x:AV U)(v:Value):Prop:=
 ∃vs:List Value,kX E w F kv fp bad x.cs vs/\(if x.agg then v=.agg vs.toArray else vs=[v])
def RS:SV U->Value->Prop
 | .v x,v=>RV E w F kv fp bad x v
 | .tJ xs,v=>∃vs:List Value,v=.tuple vs.toArray/\xs.length=vs.length/\∀(i:Nat)(x:AV U)(u:Value),xs[i]? =some x->vs[i]? =some u->RV E w F kv fp bad x u
 | .fn p,v=>mh E w F p v
 | .Db g xs,v=>∃vs:List Value,v=.func (.func g) #[] vs.toArray/\xs.length=vs.length/\∀(i:Nat)(x:AV U)(u:Value),xs[i]? =some x->vs[i]? =some u->RV E w F kv fp bad x u
def eu(deep:Bool)(a:eK U)(v:Value)(fp:List Nat):Prop:=
 (a.xs=[]/\(∃ad,v=.slice ad 0 0)/\fp=[])\/
 ∃(b cap:Nat)(cur:Array Value)(vs:Nat->Value)(gA:Nat->List Nat),v=.slice (some ⟨b,0,none⟩) a.xs.length cap/\w.heap[b]? =some (.cells cur (E.tid a.τ) (0,0))/\a.xs.length<=cap/\cap<=maxLen/\
  cur.size=cap*U.wd a.τ/\(∀i,i<a.xs.length*U.wd a.τ->cur[i]? =some (vs i))/\
  (∀i x j c,a.xs[i]? =some x->(U.enc a.τ x)[j]? =some c->Rp E w F deep c (vs (i*U.wd a.τ+j)) (gA (i*U.wd a.τ+j)))/\
  fp=b::(List.range (a.xs.length*U.wd a.τ)).flatMap gA
def dU(dead:Nat->Bool)(a:eK U)(v:Value)(fp:List Nat):Prop:=
 (a.xs=[]/\(∃ad,v=.slice ad 0 0)/\fp=[])\/
 ∃(b cap:Nat)(cur:Array Value)(vs:Nat->Value)(gA:Nat->List Nat),v=.slice (some ⟨b,0,none⟩) a.xs.length cap/\w.heap[b]? =some (.cells cur (E.tid a.τ) (0,0))/\a.xs.length<=cap/\cap<=maxLen/\
  cur.size=cap*U.wd a.τ/\(∀i,i<a.xs.length*U.wd a.τ->cur[i]? =some (vs i)/\fA (vs i))/\
  (∀i x j c,dead i=false->a.xs[i]? =some x->(U.enc a.τ x)[j]? =some c->Rp E w F true c (vs (i*U.wd a.τ+j)) (gA (i*U.wd a.τ+j)))/\
  (∀i j,dead i=true->j<U.wd a.τ->gA (i*U.wd a.τ+j)=[])/\
  fp=b::(List.range (a.xs.length*U.wd a.τ)).flatMap gA
def ri:ir U->Value->List Nat->Prop
 | .arr a deep,v,l=>eu E w F deep a v l
 | .part a dead,v,l=>dU E w F dead a v l
 | .box cs,v,l=>∃b cur e,v=.pointer (some ⟨b,0,none⟩)/\w.heap[b]? =some (.cells cur e (0,0))/\l=[b]/\kX E w F kv fp bad cs cur.toList
end
theorem eu.kD{w:World}{F F':Nat->Prop}{deep:Bool}{a:eK U}{v:Value}{fp:List Nat}(h:eu E w F deep a v fp)
  (hF:∀b,F b->F' b) (qn:∀b∈fp,F' b):Rp E w F' false (.sl a.τ a.xs) v []:=by
 obtain⟨aτ,axs⟩:=a
 rcases h with⟨h1,⟨ad,h2⟩,h3⟩|⟨b,cap,cur,vs,gA,rfl,hb,hc,hm,hs,hv,hr,rfl⟩
 ·simp only at h1
  subst h1 h2
  exact .nil _ _ _ _ (by simp)
 ·refine .shr aτ axs b 0 cap vs (qn b (by simp)) hc (BU hc hm) (fun i hi=> ?_) (fun i x j c hx hj=>(hr i x j c hx hj).kD hF (fun b' aY=> ?_))
  ·have:=hv i hi
   simp only[World.cell?,hb,tW]
   simpa using this
  ·exact qn b' (bi _ (nl.2 ⟨_,oc.2 (fe hx hj),aY⟩))
theorem eu.fE{w w':World}{F F':Nat->Prop}{deep:Bool}{a:eK U}{v:Value}{fp:List Nat}(h:eu E w F deep a v fp)
  (hF:∀b,F b->F' b/\w'.heap[b]? =w.heap[b]?) (qn:∀b∈fp,w'.heap[b]? =w.heap[b]?):eu E w' F' deep a v fp:=by
 rcases h with h|⟨b,cap,cur,vs,gA,rfl,hb,hc,hm,hs,hv,hr,rfl⟩
 ·exact .inl h
 ·refine .inr ⟨b,cap,cur,vs,gA,rfl,?_,hc,hm,hs,hv,fun i x j c hx hj=>(hr i x j c hx hj).fE hF (fun b' aY=> ?_),rfl⟩
  ·rw[qn b (by simp)];exact hb
  ·exact qn b' (bi _ (nl.2 ⟨_,oc.2 (fe hx hj),aY⟩))
theorem dU.fE{w w':World}{F F':Nat->Prop}{dead:Nat->Bool}{a:eK U}{v:Value}{fp:List Nat}(h:dU E w F dead a v fp)
  (hF:∀b,F b->F' b/\w'.heap[b]? =w.heap[b]?) (qn:∀b∈fp,w'.heap[b]? =w.heap[b]?):dU E w' F' dead a v fp:=by
 rcases h with h|⟨b,cap,cur,vs,gA,rfl,hb,hc,hm,hs,hv,hr,hd,rfl⟩
 ·exact .inl h
 ·refine .inr ⟨b,cap,cur,vs,gA,rfl,?_,hc,hm,hs,hv,fun i x j c hi hx hj=>(hr i x j c hi hx hj).fE hF (fun b' aY=> ?_),hd,rfl⟩
  ·rw[qn b (by simp)];exact hb
  ·exact qn b' (bi _ (nl.2 ⟨_,oc.2 (fe hx hj),aY⟩))
theorem dU.own{w:World}{F:Nat->Prop}{dead:Nat->Bool}{a:eK U}{v:Value}{fp:List Nat}(h:dU E w F dead a v fp)
  (hd:∀i,i<a.xs.length->dead i=false):eu E w F true a v fp:=by
 rcases h with h|⟨b,cap,cur,vs,gA,rfl,hb,hc,hm,hs,hv,hr,_,rfl⟩
 ·exact .inl h
 ·refine .inr ⟨b,cap,cur,vs,gA,rfl,hb,hc,hm,hs,fun i hi=>(hv i hi).1,fun i x j c hx hj=>hr i x j c (hd i ?_) hx hj,rfl⟩
  rcases mX i a.xs.length with h|h
  ·exact h
  ·rw[mi h] at hx;cases hx
end AM
